/- One word for all mazes: the word that is found for some numbers of rooms and doors visits all rooms of whatever connected maze with at most this number of rooms, also with doors before it and after it; it is proved for every input, without conditions. (text 24 of 31) -/
import Derived.Test.YtgbjbgdnldklpaaZTopMazer
import Derived.Test.YtgbjbgdnldklpaaZTopMazew
import Derived.Sort.LoopGhostIn
import Derived.OwnWalkIn
/-! Part XWalkers -/
section
namespace Go.Proofs.Ytgbjbgdnldklpaa.Q
open Go.RowKit Go.Proofs.YtgbjbgdnldklpaaW.PrintWords Go.Proofs.YtgbjbgdnldklpaaW.PrintLast Go.Proofs.YtgbjbgdnldklpaaW.PrintMore
attribute [local go_sem] Oper.semAt_some
set_option linter.unusedVariables false
set_option linter.unusedSimpArgs false
/-! ### those who walk -/
/-- A walker in memory: its maze's block, where it is, what it has met. -/
def kWa : Kd (Nat × Int × Int) := Kd.pair (Kd.scalar (fun Z : Nat => Value.pointer (some ⟨Z, 0, none⟩)) (fun _ => rfl)) (Kd.pair (Kd.int .u8) (Kd.int .u16))
theorem kWa_M {W : World} {base : Nat} {ok : Nat → Prop} {z : Nat × Int × Int} : kWa.M W base ok z [.pointer (some ⟨z.1, 0, none⟩), .int .u8 z.2.1, .int .u16 z.2.2] := ⟨[_], [_, _], rfl, rfl, [_], [_], rfl, rfl, rfl⟩
theorem kWa_open {W : World} {base : Nat} {ok : Nat → Prop} {z : Nat × Int × Int} {cs : List Value} (h : kWa.M W base ok z cs) : cs = [.pointer (some ⟨z.1, 0, none⟩), .int .u8 z.2.1, .int .u16 z.2.2] := by
 obtain ⟨c0, c1, rfl, h0, c2, c3, rfl, h2, h3⟩ := h
 have h0 : c0 = [.pointer (some ⟨z.1, 0, none⟩)] := h0
 have h2 : c2 = [.int .u8 z.2.1] := h2
 have h3 : c3 = [.int .u16 z.2.2] := h3
 subst h0; subst h2; subst h3
 rfl
theorem kWa_E : kWa.E = [] := rfl
theorem info_walker : (Try.prog.info? 81).map (fun i => (i.zero, i.size, i.bytes)) = some (some (.agg #[.pointer none, .int .u8 0, .int .u16 0]), 3, 16) := by kernel_rfl
structure Wk where
 n : Int
 rs : List Int
 at_ : Int
 met : Int
def WkAt (d : Int) (W : World) (base : Nat) (ok : Nat → Prop) (z : Nat × Int × Int) (k : Wk) : Prop := z.2.1 = k.at_ ∧ z.2.2 = k.met ∧ SmB W z.1 k.n d k.rs ∧ base ≤ z.1 ∧ ok z.1
/-- A row of walkers, and their mazes. -/
def WL (d : Int) (W : World) (base : Nat) (ok : Nat → Prop) (v : Value) (l : List Wk) : Prop :=
 ∃ zs : List (Nat × Int × Int), kWa.R 81 W base ok v zs ∧ zs.length = l.length ∧ ∀ (i : Nat) (z : Nat × Int × Int) (k : Wk), zs[i]? = some z → l[i]? = some k → WkAt d W base ok z k
section
variable {d : Int} {W W' : World} {base : Nat} {ok ok' : Nat → Prop} {v : Value} {l : List Wk}
theorem WL.keep (h : WL d W base ok v l) (hm : ∀ b cs t, W.heap[b]? = some (.cells cs t (0, 0)) → ok b → t = 81 ∨ t = 66 → W'.heap[b]? = W.heap[b]?) : WL d W' base ok v l := by
 obtain ⟨zs, h1, h2, h3⟩ := h
 refine ⟨zs, Kd.R_mono (Kd.R_move (Kd.R_bound h1) fun k hk => ?_) (fun k hk => hk.1), h2, fun i z k hz hl => ?_⟩
 ·obtain ⟨hok, _, _, q, hq, cells, hc⟩ := hk
  have hq2 : q = 81 := by rw [kWa_E] at hq; exact List.mem_singleton.1 hq
  exact hm k cells q hc hok (Or.inl hq2)
 ·obtain ⟨a1, a2, a3, a4, a5⟩ := h3 i z k hz hl
  exact ⟨a1, a2, ⟨(hm _ _ _ a3.1 a5 (Or.inr rfl)).trans a3.1, a3.2⟩, a4, a5⟩
theorem WL.next (h : WL d W base ok v l) (hb : Below W.heap.size W W') : WL d W' base ok v l := h.keep fun b cs t hc _ _ => hb.block b (blk_lt hc)
theorem WL.mono (h : WL d W base ok v l) (hk : ∀ b, ok b → b < W.heap.size → ok' b) : WL d W base ok' v l := by
 obtain ⟨zs, h1, h2, h3⟩ := h
 refine ⟨zs, Kd.R_mono (Kd.R_bound h1) (fun k hk' => hk k hk'.1 hk'.2.2.1), h2, fun i z k hz hl => ?_⟩
 obtain ⟨a1, a2, a3, a4, a5⟩ := h3 i z k hz hl
 exact ⟨a1, a2, a3, a4, hk _ a5 (blk_lt a3.1)⟩
theorem WL.nil (d : Int) (W : World) (base : Nat) (ok : Nat → Prop) : WL d W base ok (.slice none 0 0) [] := ⟨[], Kd.R_nil _ _ _ _ _, rfl, fun i z k hz => by simp at hz⟩
/-- Another walker behind the row. -/
theorem WL.snoc {v1 : Value} {k : Wk} {Z : Nat} {zs : List (Nat × Int × Int)} {W1 : World} (h1 : kWa.R 81 W base ok v zs) (h2 : zs.length = l.length) (h3 : ∀ (i : Nat) (z : Nat × Int × Int) (k : Wk), zs[i]? = some z → l[i]? = some k → WkAt d W base ok z k)
  (hR : kWa.R 81 W1 base ok v1 (zs ++ [(Z, k.at_, k.met)])) (hg : W.grownBy W1 v.ownBlock) (hZ : SmB W Z k.n d k.rs) (hZb : base ≤ Z) (hZo : ok Z) : WL d W1 base ok v1 (l ++ [k]) := by
 have hs : ∀ z n rs, SmB W z n d rs → SmB W1 z n d rs := fun z n rs hs => ⟨blk_grown hs.1 hg (Kd.R_ne h1 hs.1 (by decide)), hs.2⟩
 refine ⟨zs ++ [(Z, k.at_, k.met)], hR, by simp [h2], fun i z k' hz hl => ?_⟩
 by_cases hi : i < zs.length
 ·rw [List.getElem?_append_left hi] at hz
  rw [List.getElem?_append_left (by omega)] at hl
  obtain ⟨a1, a2, a3, a4, a5⟩ := h3 i z k' hz hl
  exact ⟨a1, a2, hs _ _ _ a3, a4, a5⟩
 ·have hi2 : i = zs.length := by
   have := (List.getElem?_eq_some_iff.1 hz).1
   simp at this
   omega
  subst hi2
  simp at hz
  rw [h2] at hl
  simp at hl
  subst hz; subst hl
  exact ⟨rfl, rfl, hs _ _ _ hZ, hZb, hZo⟩
end
/-! ### the functions -/
def startsW (n : Int) (x : List Int) (m : Nat) : List Wk := (List.range m).map fun (s : Nat) => ⟨n, x, (s : Int), setU (s : Int)⟩
def addW (k : Nat) (n d : Int) : List (List Int) → List Wk → Option (List Wk)
 | [], out => some out
 | x :: r, out => (small_connected.f k n d x).bind fun b => if out.length < 1000000000000 then addW k n d r (if b = true then out ++ startsW n x (n % 256).toNat else out) else none
theorem addW.mono (n d : Int) : ∀ (L : List (List Int)) (out : List Wk) (k : Nat), LeO (addW k n d L out) (addW (k + 1) n d L out)
 | [], _, _ => LeO.refl _
 | x :: r, out, k => LeO.bind (small_connected.mono _ _ _ _) fun b => LeO.ite (addW.mono n d r _ k) (LeO.refl _)
def maze_walkers.l0 : Nat → Int → Int → Int → List Wk → Option (List Wk)
 | 0, _, _, _, _ => none
 | k + 1, rooms, d, n, out => if n ≤ rooms then (maze_all.f k n d).bind fun L => (addW k n d L out).bind fun out2 => maze_walkers.l0 k rooms d (wrap64 (n + 1)) out2 else some out
def maze_walkers.f (k : Nat) (rooms d : Int) : Option (List Wk) := maze_walkers.l0 k rooms d 2 []
theorem maze_walkers.mono_l : ∀ k y0 y1 y2 y3, LeO (maze_walkers.l0 k y0 y1 y2 y3) (maze_walkers.l0 (k + 1) y0 y1 y2 y3)
 | 0 => fun _ _ _ _ r h => by simp [maze_walkers.l0] at h
 | k + 1 => by
  intro y0 y1 y2 y3
  unfold maze_walkers.l0
  exact LeO.ite (LeO.bind (maze_all.mono _ _ _) fun L => LeO.bind (addW.mono _ _ _ _ _) fun o => maze_walkers.mono_l k _ _ _ _) (LeO.refl _)
theorem maze_walkers.mono (rooms d : Int) (k : Nat) : LeO (maze_walkers.f k rooms d) (maze_walkers.f (k + 1) rooms d) := maze_walkers.mono_l k _ _ _ _
/-- The caller's memory: the walkers' variable, the loop variable's box, the marks of the ranges that are behind. -/
structure WF (w : World) (d : Int) (O NB : Nat) (dl : List Deferred) (own : Nat → Prop) (W : World) (v : Value) (l : List Wk) (n : Int) : Prop where
 below : Below w.heap.size w W
 cO : W.heap[O]? = some (.cells #[v] 76 (0, 0))
 cN : W.heap[NB]? = some (.cells #[.int .i64 n] 3 (0, 0))
 wl : WL d W w.heap.size (fun b => ¬ own b) v l
 nO : ¬ own O
 nN : ¬ own NB
 hO : w.heap.size ≤ O
 hN : w.heap.size ≤ NB
 ms : ∀ e ∈ dl, ∃ D, e = { target := .collected D, args := #[] } ∧ W.heap[D]? = some (.deferred (some [])) ∧ w.heap.size ≤ D ∧ ¬ own D
 nd : dl.Nodup
section
variable {w : World} {d : Int} {O NB : Nat} {dl : List Deferred} {own own' : Nat → Prop} {W W' : World} {v v1 : Value} {l l1 : List Wk} {n : Int}
theorem WF.stable (h : WF w d O NB dl own W v l n) (hk : KeptL w.heap.size own W W') (hs : ∀ b, own b → w.heap.size ≤ b) (hn : ∀ b, own' b → own b ∨ W.heap.size ≤ b) : WF w d O NB dl own' W' v l n := by
 have no : ∀ b, ¬ own b → b < W.heap.size → ¬ own' b := fun b h1 h2 h3 => (hn b h3).elim h1 (by omega)
 refine ⟨hk.below h.below hs, hk.cells h.cO h.nO, hk.cells h.cN h.nN, ?_, no O h.nO (blk_lt h.cO), no NB h.nN (blk_lt h.cN), h.hO, h.hN, fun e he => ?_, h.nd⟩
 ·exact ((h.wl.mono (ok' := fun b => ¬ own b ∧ ¬ own' b) fun b h1 h2 => ⟨h1, no b h1 h2⟩  ).keep fun b cs t hc hb _ => hk.block b (blk_lt hc) hb.1 (Or.inr fun r e => by rw [hc] at e; cases e)).mono fun b hb _ => hb.2
 ·obtain ⟨D, e1, h1, h2, h3⟩ := h.ms e he
  exact ⟨D, e1, (hk.block D (blk_ltS h1) h3 (Or.inr fun r e => by rw [h1] at e; cases e)).trans h1, h2, no D h3 (blk_ltS h1)⟩
theorem WF.next (h : WF w d O NB dl own W v l n) (hb : Below W.heap.size W W') : WF w d O NB dl own W' v l n :=
 ⟨below_step h.below hb, blk_below h.cO hb, blk_below h.cN hb, h.wl.next hb, h.nO, h.nN, h.hO, h.hN, fun e he => by
  obtain ⟨D, e1, h1, h2, h3⟩ := h.ms e he
  exact ⟨D, e1, blk_below h1 hb, h2, h3⟩, h.nd⟩
end
theorem WF.anew {w : World} {d : Int} {O NB : Nat} {dl : List Deferred} {own own' : Nat → Prop} {W : World} {v : Value} {l : List Wk} {n : Int} (h : WF w d O NB dl own W v l n) (hn : ∀ b, own' b → W.heap.size ≤ b) : WF w d O NB dl own' W v l n := by
 have no : ∀ b, b < W.heap.size → ¬ own' b := fun b h1 h2 => by have := hn b h2; omega
 exact ⟨h.below, h.cO, h.cN, h.wl.mono fun b _ hb => no b hb, no O (blk_lt h.cO), no NB (blk_lt h.cN), h.hO, h.hN, fun e he => by
  obtain ⟨D, e1, h1, h2, h3⟩ := h.ms e he
  exact ⟨D, e1, h1, h2, no D (blk_ltS h1)⟩, h.nd⟩
theorem WF.push {w : World} {d : Int} {O NB : Nat} {dl : List Deferred} {own : Nat → Prop} {W : World} {v : Value} {l : List Wk} {n : Int} (h : WF w d O NB dl own W v l n) (hbo : ∀ b, own b → b < W.heap.size) {Z : Nat} {rs : List Int} (at_ met : Int) (hZ : SmB W Z n d rs) (hZb : w.heap.size ≤ Z) (hZo : ¬ own Z) (hl : l.length < 2000000000000) :
  ∃ A c w1, (Builtin.append_ #[76, 76] 76 #[v, .slice (some ⟨W.heap.size, 0, none⟩) 1 1]).run Try.prog (W.alloc (.cells #[.pointer (some ⟨Z, 0, none⟩), .int .u8 at_, .int .u16 met] 81)) = .ok (.slice A (l.length + 1) c) w1 ∧
   w1.heap[O]? = some (.cells #[v] 76 (0, 0)) ∧ WF w d O NB dl own (w1.setCell ⟨O, 0, none⟩ (.slice A (l.length + 1) c)) (.slice A (l.length + 1) c) (l ++ [⟨n, rs, at_, met⟩]) n ∧ SmB (w1.setCell ⟨O, 0, none⟩ (.slice A (l.length + 1) c)) Z n d rs ∧
   W.heap.size ≤ (w1.setCell ⟨O, 0, none⟩ (.slice A (l.length + 1) c)).heap.size ∧ ∀ (q D : Nat) (r : Loop) (e : Option (List Deferred)), W.heap[q]? = some (.loop r) → W.heap[D]? = some (.deferred e) → RoundKept (keepR w.heap.size own q D) W (w1.setCell ⟨O, 0, none⟩ (.slice A (l.length + 1) c)) := by
 have hb := below_alloc (Below.refl W.heap.size W) (.cells #[.pointer (some ⟨Z, 0, none⟩), .int .u8 at_, .int .u16 met] 81)
 have ha := h.next hb
 obtain ⟨zs, hz1, hz2, hz3⟩ := ha.wl
 obtain ⟨v1, w1, hrun, hR, hg, hat⟩ := append_run (P := Try.prog) kWa w.heap.size 76 81 76 (.agg #[.pointer none, .int .u8 0, .int .u16 0]) 16 Try.underlying76 info_walker rfl (by decide) (by decide) v zs (Z, at_, met) [.pointer (some ⟨Z, 0, none⟩), .int .u8 at_, .int .u16 met] (fun b => ¬ own b) (fun _ => False) ⟨W.heap.size, 0, none⟩ 1 hz1 kWa_M (fun _ h => h.elim) (fun b hb2 ho => by have := hbo b ho; have := hb.size; omega) (lit_cells (blk_new W _)) ha.below.size (by omega)
 obtain ⟨A, c, e1⟩ := Kd.R_slice hR
 rw [List.length_append, hz2] at e1
 have e1 : v1 = .slice A (l.length + 1) c := e1
 subst e1
 have hcO := blk_grown ha.cO hg (Kd.R_ne hz1 ha.cO (by decide))
 have hZa : SmB (W.alloc (.cells #[.pointer (some ⟨Z, 0, none⟩), .int .u8 at_, .int .u16 met] 81)) Z n d rs := ⟨blk_below hZ.1 hb, hZ.2⟩
 have hwl := WL.snoc (k := ⟨n, rs, at_, met⟩) hz1 hz2 hz3 hR hg hZa hZb hZo
 have far : ∀ (b : Nat) (cs : Array Value) (t : TypeId), w1.heap[b]? = some (Obj.cells cs t (0, 0)) → t ≠ 76 → (w1.setCell ⟨O, 0, none⟩ (.slice A (l.length + 1) c)).heap[b]? = w1.heap[b]? := fun b cs t hc ht => Below.heap_setCell w1 ⟨O, 0, none⟩ _ b fun e => by
  have e2 : b = O := e
  rw [e2, hcO] at hc
  have := Option.some.inj hc
  injection this with _ h2
  exact ht h2.symm
 have hvo : ∀ b, v.ownBlock = some b → w.heap.size ≤ b ∧ ¬ own b := fun b hb2 => ⟨Kd.R_base hz1 b hb2, hz1.1 b hb2⟩
 have hD : ∀ D, W.heap[D]? = some (.deferred (some [])) → ¬ own D → (w1.setCell ⟨O, 0, none⟩ (.slice A (l.length + 1) c)).heap[D]? = some (.deferred (some [])) := fun D hD hDo => by
  have h1 := blk_below hD hb
  have h2 : w1.heap[D]? = some (.deferred (some [])) := (hg.block D (blk_ltS h1) (fun e => by
   obtain ⟨cells, hc⟩ := Kd.R_typed hz1 D e.symm
   rw [h1] at hc; cases hc)).trans h1
  exact (Below.heap_setCell w1 ⟨O, 0, none⟩ _ D fun e => by
   have e2 : D = O := e
   rw [e2, hcO] at h2; cases h2).trans h2
 have hcN := blk_grown ha.cN hg (Kd.R_ne hz1 ha.cN (by decide))
 have hZ1 := blk_grown hZa.1 hg (Kd.R_ne hz1 hZa.1 (by decide))
 have hsz : (w1.setCell ⟨O, 0, none⟩ (.slice A (l.length + 1) c)).heap.size = w1.heap.size := by simp [World.setCell]
 refine ⟨A, c, w1, hrun, hcO, ⟨below_set (below_rowR ha.below hg (Kd.R_base hz1)) h.hO, blk_put hcO 0 _ rfl, (far NB _ _ hcN (by decide)).trans hcN, hwl.keep fun b cs t hc _ ht => far b cs t hc (by rcases ht with rfl | rfl <;> decide), h.nO, h.nN, h.hO, h.hN, fun e he => ?_, h.nd⟩, ⟨(far Z _ _ hZ1 (by decide)).trans hZ1, hZ.2⟩, by rw [hsz]; exact Nat.le_trans hb.size hg.size, fun q D r e hq hDD => ?_⟩
 ·obtain ⟨D, e1, h1, h2, h3⟩ := h.ms e he
  exact ⟨D, e1, hD D h1 h3, h2, h3⟩
 ·have hnk : ∀ (b : Nat) (cs : Array Value) (t : TypeId), (W.alloc (.cells #[.pointer (some ⟨Z, 0, none⟩), .int .u8 at_, .int .u16 met] 81)).heap[b]? = some (Obj.cells cs t (0, 0)) → w.heap.size ≤ b → ¬ own b → ¬ keepR w.heap.size own q D b := fun b cs t hc h1 h2 h3 => by
   rcases h3 with (h3 | h3) | h3 | h3
   ·omega
   ·exact h2 h3
   ·rw [h3, blk_below hq hb] at hc; cases hc
   ·rw [h3, blk_below hDD hb] at hc; cases hc
  exact ((RoundKept.of_below hb).trans (RoundKept.of_grown hg fun b hb2 => by obtain ⟨cells, hc⟩ := Kd.R_typed hz1 b hb2; exact hnk b cells _ hc (hvo b hb2).1 (hvo b hb2).2)).trans (RoundKept.set _ (hnk O _ _ ha.cO h.hO h.nO))
theorem WF.again {w : World} {d : Int} {O NB : Nat} {dl : List Deferred} {own : Nat → Prop} {W : World} {v : Value} {l : List Wk} {n : Int} (h : WF w d O NB dl own W v l n) {D : Nat} (hD : W.heap[D]? = some (.deferred (some []))) (hDb : w.heap.size ≤ D) (hDn : ({ target := .collected D, args := #[] } : Deferred) ∉ dl) (n' : Int) :
  WF w d O W.heap.size ({ target := .collected D, args := #[] } :: dl) (fun _ => False) (W.alloc (.cells #[.int .i64 n'] 3)) v l n' := by
 have hb := below_alloc (Below.refl W.heap.size W) (.cells #[.int .i64 n'] 3)
 refine ⟨below_step h.below hb, blk_below h.cO hb, blk_new _ _, (h.wl.next hb).mono fun _ _ _ => id, id, id, h.hO, h.below.size, fun e he => ?_, List.nodup_cons.2 ⟨hDn, h.nd⟩⟩
 rcases List.mem_cons.1 he with rfl | he
 ·exact ⟨D, rfl, blk_below hD hb, hDb, id⟩
 ·obtain ⟨D', e1, h1, h2, _⟩ := h.ms e he
  exact ⟨D', e1, blk_below h1 hb, h2, id⟩
theorem wpListIn_app {F : Fence} {nn : Nat} {P : Program} {ops : Array Oper} {rest : List Oper} {o : Oper} {a : Act} {Q : Exit → Act → World → Prop} {W w1 : World}
  (hg : o.guard = none) (s x : Operand) (t : TypeId) (hop : o.op = Op.call { callee := Callee.builtin Builtin.append, args := #[s, x], argTypes := #[t, t] }) (ht : o.type = t) {v y v1 : Value} (hs : a.eval s = v) (hx : a.eval x = y)
  (hrun : (Builtin.append_ #[t, t] t #[v, y]).run P W = .ok v1 w1) (hK : wpListIn F nn P ops Q rest (a.put o.dst v1) w1) : wpListIn F nn P ops Q (o :: rest) a W := by
 refine wpListIn_plain hg fun K hK' => ?_
 unfold Oper.wpIn
 refine ⟨?_, ?_⟩
 ·simp [Oper.about, hop, resolve, Target.leads, Sem.run_pure]
 ·rw [Oper.semAt_plain F _ _ (by rw [hop]; intro c hc'; cases hc')]
  simp [execOp, hop, resolve, invoke, builtin, hs, hx, ht, hrun, Result.andThen]
  exact hK' _ _ hK
structure MarkRel2 (dl : List Deferred) (W W' : World) : Prop where
 os : W'.os = W.os
 tape : W'.tape = W.tape
 output : W'.output = W.output
 size : W.heap.size ≤ W'.heap.size
 block : ∀ b, (∀ e ∈ dl, e ≠ { target := .collected b, args := #[] }) → W'.heap[b]? = W.heap[b]?
theorem leaves_marks2 {F : Fence} {n : Nat} {P : Program} {fn : Func} {tmps : Array Value} {R : Ending → World → Prop} : ∀ (dl : List Deferred) (W : World), (∀ e ∈ dl, ∃ D, e = { target := .collected D, args := #[] } ∧ W.heap[D]? = some (.deferred (some []))) → dl.Nodup →
  (∀ W', MarkRel2 dl W W' → LeavesInM F n P fn tmps R [] .returning W') → LeavesInM F n P fn tmps R dl .returning W
 | [], W, _, _, h => h W ⟨rfl, rfl, rfl, Nat.le_refl _, fun _ _ => rfl⟩
 | e :: dl, W, hm, hn, h => by
  obtain ⟨D, rfl, h1⟩ := hm e List.mem_cons_self
  rw [List.nodup_cons] at hn
  refine ⟨by simp, .inl ⟨_, _, rfl, run_takeDeferred h1, ?_⟩⟩
  refine leaves_marks2 dl (W.putObj D (.deferred none)) (fun d' hd' => ?_) hn.2 fun W' hr => h W' ⟨hr.os, hr.tape, hr.output, by have := hr.size; simpa using this, fun b hb => (hr.block b fun e he => hb e (List.mem_cons_of_mem _ he)).trans (World.putObj_heap_other (fun e => hb _ List.mem_cons_self (by rw [e])))⟩
  obtain ⟨D', rfl, h3⟩ := hm d' (List.mem_cons_of_mem _ hd')
  exact ⟨D', rfl, (World.putObj_heap_other (fun e => hn.1 (by rw [← e]; exact hd'))).trans h3⟩
theorem WF.ends {F : Fence} {nn : Nat} {fn : Func} {tmps : Array Value} {w : World} {d : Int} {O NB : Nat} {dl : List Deferred} {own : Nat → Prop} {W : World} {v : Value} {l : List Wk} {n : Int} (h : WF w d O NB dl own W v l n) (hf : fn.results = #[.tmp 4]) (h4 : tmps.getD 4 undef = v) :
  LeavesInM F nn Try.prog fn tmps (fun e w' => ∃ v, e = .returned v ∧ WL d w' w.heap.size (fun _ => True) v l ∧ Below w.heap.size w w') dl .returning W := by
 refine leaves_marks2 dl W (fun e he => by obtain ⟨D, e1, h1, _⟩ := h.ms e he; exact ⟨D, e1, h1⟩) h.nd fun W' hr => ?_
 have hcell : ∀ (b : Nat) (cs : Array Value) (t : TypeId), W.heap[b]? = some (Obj.cells cs t (0, 0)) → W'.heap[b]? = W.heap[b]? := fun b cs t hc => hr.block b fun e he e2 => by
  obtain ⟨D, e1, h1, _⟩ := h.ms e he
  have e3 : D = b := by rw [e1] at e2; injection e2 with e2 _; injection e2
  rw [e3, hc] at h1
  cases h1
 refine ⟨v, (by rw [← h4]; exact results_tmp hf _ _ _), v, rfl, (h.wl.keep fun b cs t hc _ _ => hcell b cs t hc).mono fun _ _ _ => trivial, hr.os.trans h.below.os, hr.tape.trans h.below.tape, hr.output.trans h.below.output, Nat.le_trans h.below.size hr.size, fun b hb => (hr.block b fun e he e2 => ?_).trans (h.below.block b hb)⟩
 obtain ⟨D, e1, _, h2, _⟩ := h.ms e he
 have e3 : D = b := by rw [e1] at e2; injection e2 with e2 _; injection e2
 omega
theorem WF.start (w : World) (d : Int) : WF w d w.heap.size (w.heap.size + 1) [] (fun _ => False) ((w.alloc (.cells #[.slice none 0 0] 76)).alloc (.cells #[.int .i64 2] 3)) (.slice none 0 0) [] 2 := by
 have hb := below_alloc (below_alloc (Below.refl w.heap.size w) (.cells #[.slice none 0 0] 76)) (.cells #[.int .i64 2] 3)
 refine ⟨hb, blk_alloc (blk_new _ _) _, ?_, WL.nil _ _ _ _, id, id, Nat.le_refl _, Nat.le_succ _, (by intro e he; cases he), List.nodup_nil⟩
 have := blk_new (w.alloc (.cells #[.slice none 0 0] 76)) (.cells #[.int .i64 2] 3)
 rwa [World.size_alloc] at this
set_option maxHeartbeats 1000000 in
set_option maxRecDepth 100000 in
theorem walkers_calls (k : Nat) (rooms d : Int) (r : List Wk) (w : World) (h : maze_walkers.f k rooms d = some r) :
  Calls Try.prog 45 #[.int .i64 rooms, .int .i64 d] w fun e w' => ∃ v, e = .returned v ∧ WL d w' w.heap.size (fun _ => True) v r ∧ Below w.heap.size w w' := by
 have HB0 := Below.refl w.heap.size w
 have H := Aside0.mk (show maze_walkers.l0 k rooms d 2 [] = some r from h)
 have HI0 := Aside0.mk (WF.start w d)
 clear h
 refine callsIn_wide.1 (callsIn_of_wp_marks (n := 0) Try.func45 rfl trivial (wpIn_wide.2 ?_) rfl)
 simp only [Try.ntmps45, List.size_toArray, List.length_cons, List.length_nil, Nat.reduceAdd, Nat.reduceSub, Array.replicate_succ, Array.replicate_zero, List.push_toArray, List.append_toArray, List.nil_append, List.cons_append]
 have hcs : ((w.alloc (.cells #[.slice none 0 0] 76)).alloc (.cells #[.int .i64 0] 3)).cell? ⟨w.heap.size + 1, 0, none⟩ = some (.int .i64 0) := by
  have := blk_new (w.alloc (.cells #[.slice none 0 0] 76)) (.cells #[.int .i64 0] 3)
  rw [World.size_alloc] at this
  exact (blk_cell this 0).trans rfl
 go_wp2_with fail
 clear hcs
 obtain ⟨O, hO⟩ : ∃ O, w.heap.size = O := ⟨_, rfl⟩
 have HOO := Aside0.mk hO
 generalize ((w.alloc (.cells #[.slice none 0 0] 76)).alloc (.cells #[.int .i64 2] 3)) = wz at HI0 ⊢
 rw [hO] at HI0 ⊢
 clear hO
 refine wp_loop_ghost_k (fun kq a' w' => ∃ (n : Int) (NB : Nat) (dl : List Deferred) (v : Value) (l : List Wk) (u7 u8 u9 u10 u11 u12 u13 u14 u15 u16 u17 u18 u19 u20 u21 u22 u23 u24 u25 u26 u27 u28 u29 u30 u31 u32 u33 : Value), a' = { tmps := #[.int .i64 rooms, .int .i64 d, undef, undef, .slice none 0 0, .pointer (some ⟨O, 0, none⟩), .pointer (some ⟨NB, 0, none⟩), u7, u8, u9, u10, u11, u12, u13, u14, u15, u16, u17, u18, u19, u20, u21, u22, u23, u24, u25, u26, u27, u28, u29, u30, u31, u32, u33, undef], defers := dl } ∧ Aside0 (maze_walkers.l0 kq rooms d n l = some r) ∧ Aside0 (WF w d O NB dl (fun _ => False) w' v l n)) k ⟨2, O + 1, [], _, [], undef, undef, undef, undef, undef, undef, undef, undef, undef, undef, undef, undef, undef, undef, undef, undef, undef, undef, undef, undef, undef, undef, undef, undef, undef, undef, undef, rfl, H, HI0⟩ ?_
 clear HI0 H wz
 rintro kq a' wr ⟨n, NB, dl, v, l, u7, u8, u9, u10, u11, u12, u13, u14, u15, u16, u17, u18, u19, u20, u21, u22, u23, u24, u25, u26, u27, u28, u29, u30, u31, u32, u33, rfl, HA, HI⟩ J K hJ hK
 cases kq with
 | zero => exact absurd HA.out (by simp [maze_walkers.l0])
 | succ k1 =>
  have H := HA.out
  clear HA
  simp only [maze_walkers.l0] at H
  have hcN : wr.cell? ⟨NB, 0, none⟩ = some (.int .i64 n) := (blk_cell HI.out.cN 0).trans rfl
  by_cases d1 : n ≤ rooms
  ·rw [if_pos d1] at H
   obtain ⟨L, hL, H2⟩ := Option.bind_eq_some_iff.1 H
   obtain ⟨out2, hbb, H3⟩ := Option.bind_eq_some_iff.1 H2
   have HL := Aside0.mk hL
   have HF := Aside0.mk hbb
   have H4 := Aside0.mk H3
   have d1b := decide_eq_true d1
   clear H H2 H3 hL hbb d1
   go_wp2_with (go_at_call 38; refine (maze_all.makes _ _ _).mono ?_; rintro e2 w3 ⟨rfl, hxR, hxD, hb3⟩; have HXR := Aside0.mk hxR; have HXD := Aside0.mk hxD; have HB3 := Aside0.mk hb3; clear hxR hxD hb3)
   have HLT : Aside0 (wr.heap.size + 1 < w3.heap.size) := ⟨blk_ltS HXD.out⟩
   have HI3 := Aside0.mk (((HI.out.anew (own' := fun b => b = wr.heap.size ∨ b = wr.heap.size + 1) (fun b hb => by rcases hb with rfl | rfl <;> omega))).next HB3.out)
   have HSZ : Aside0 (w.heap.size ≤ wr.heap.size) := ⟨HI.out.below.size⟩
   clear HI
   have seq := maze_all.seq k1 n d L wr.heap.size (wr.heap.size + 1) w HL.out
   refine wp_rangeFunc_iter (base := w.heap.size) (own0 := fun b => b = wr.heap.size ∨ b = wr.heap.size + 1) rfl (enters_ Try.func51 (by kernel_rfl) rfl) seq HI3.out.below.size (fun b hb => by have := HSZ.out; have := HLT.out; rcases hb with rfl | rfl <;> exact ⟨by omega, by omega⟩) (fun W hW => ⟨blk_below HXR.out hW, blk_below HXD.out hW⟩) (fun own x W vs he => by obtain ⟨rfl, _⟩ := he; rfl)
    (fun own pre W => ∃ (rest : List (List Int)) (v : Value) (l : List Wk), WF w d O NB dl own W v l n ∧ L = pre ++ rest ∧ addW k1 n d rest l = some out2)
    (fun c own pre W => False)
    ?stI ?stX ?start ?round ?done ?stop
   case stI =>
    rintro own own' s A B ⟨rest, v, l, hi, hr⟩ hk hs hn
    exact ⟨rest, v, l, hi.stable hk hs hn, hr⟩
   case stX =>
    rintro c own own' s A B h
    exact h.elim
   case start => exact ⟨L, v, l, HI3.out, rfl, HF.out⟩
   case round =>
    rintro q D own pre x vs W ⟨rest, v, l, hi, hL, hF⟩ ⟨rest2, hL2⟩ ⟨rfl, hx12, hbo⟩ ⟨rr, hr⟩ ⟨dd, hd⟩ hl hD hnl hnD hbs
    obtain rfl : rest = x :: rest2 := List.append_cancel_left (hL.symm.trans hL2)
    obtain ⟨bc, hbc, hF2⟩ := Option.bind_eq_some_iff.1 hF
    have HBC := Aside0.mk hbc
    have HF2 := Aside0.mk hF2
    have HP : Aside0 (L = pre ++ [x] ++ rest2) := ⟨by rw [hL2]; simp⟩
    have HI := Aside0.mk hi
    have HBS := Aside0.mk hbs
    have HBO := Aside0.mk hbo
    have HLW := Aside0.mk (show w.heap.size ≤ q from Nat.le_trans HI3.out.below.size hl)
    have KO : Aside0 (¬ keepR w.heap.size own q D O) := ⟨fun h => by
     rcases h with (h | h) | h | h
     ·have := hi.hO; omega
     ·exact hi.nO h
     ·have h2 := hi.cO; rw [h, hr] at h2; cases h2
     ·have h2 := hi.cO; rw [h, hd] at h2; cases h2⟩
    have HDx := Aside0.mk (show ∃ dd, W.heap[D]? = some (.deferred dd) from ⟨dd, hd⟩)
    clear hi hbs hbc hF2 hF hL hL2 hd hr hbo
    obtain ⟨z0, z1, z2, z3, z4, z5, z6, z7, z8, z9, z10, z11, hrs⟩ := len12 hx12
    subst hrs
    rw [zip1]
    simp only [List.setIfInBounds_toArray, List.set_cons_succ, List.set_cons_zero, smC, List.map_cons, List.map_nil]
    gi_wp2
    have hBa := below_alloc (Below.refl W.heap.size W) (.cells (smC n d [z0, z1, z2, z3, z4, z5, z6, z7, z8, z9, z10, z11]) 66)
    have HZ : Aside0 (SmB (W.alloc (.cells (smC n d [z0, z1, z2, z3, z4, z5, z6, z7, z8, z9, z10, z11]) 66)) W.heap.size n d [z0, z1, z2, z3, z4, z5, z6, z7, z8, z9, z10, z11]) := ⟨⟨blk_new _ _, hx12⟩⟩
    have HZO : Aside0 (¬ own W.heap.size ∧ w.heap.size ≤ W.heap.size) := ⟨fun h => Nat.lt_irrefl _ (HBO.out _ h), HI.out.below.size⟩
    have HIa := Aside0.mk (HI.out.next hBa)
    refine ⟨RoundKept.of_below hBa, ?_⟩
    rintro W2 ⟨rl, r1', hr1, rfl⟩
    have HK2 := Aside0.mk (KeptL.putObj (own := own) (.loop r1') hr1 HLW.out)
    have HI2 := Aside0.mk (HIa.out.stable HK2.out HBS.out fun b hb => Or.inl hb)
    have HZ2 : Aside0 (SmB ((W.alloc (.cells (smC n d [z0, z1, z2, z3, z4, z5, z6, z7, z8, z9, z10, z11]) 66)).putObj q (.loop r1')) W.heap.size n d [z0, z1, z2, z3, z4, z5, z6, z7, z8, z9, z10, z11]) := ⟨⟨(World.putObj_heap_other (fun e => by have h1 := HZ.out.1; rw [e] at h1; have h2 := hr1.symm.trans h1; cases h2)).trans HZ.out.1, hx12⟩⟩
    have HQ2 : Aside0 (∃ rr, ((W.alloc (.cells (smC n d [z0, z1, z2, z3, z4, z5, z6, z7, z8, z9, z10, z11]) 66)).putObj q (.loop r1')).heap[q]? = some (.loop rr)) := ⟨⟨r1', World.putObj_heap_same (blk_ltS hr1)⟩⟩
    have HDD : Aside0 (∃ dd, ((W.alloc (.cells (smC n d [z0, z1, z2, z3, z4, z5, z6, z7, z8, z9, z10, z11]) 66)).putObj q (.loop r1')).heap[D]? = some (.deferred dd)) := ⟨HDx.out.imp fun dd h => (World.putObj_heap_other (fun e => by have h1 := blk_below h hBa; rw [e] at h1; have h2 := hr1.symm.trans h1; cases h2)).trans (blk_below h hBa)⟩
    have HB24 : Aside0 (W.heap.size < ((W.alloc (.cells (smC n d [z0, z1, z2, z3, z4, z5, z6, z7, z8, z9, z10, z11]) 66)).putObj q (.loop r1')).heap.size) := ⟨by simp⟩
    simp only [smC, List.map_cons, List.map_nil] at HI2 HZ2 HQ2 HDD HB24
    clear HK2 HI HIa HZ hr1 hBa
    generalize (W.alloc (.cells _ 66)).putObj q (.loop r1') = W2 at HI2 HZ2 HQ2 HDD HB24 ⊢
    generalize W.heap.size = Z at HZ2 HZO HBO HB24 ⊢
    by_cases d3 : l.length < 1000000000000
    ·have HF2' := HF2.out
     rw [if_pos d3] at HF2'
     cases bc with
     | false =>
      have HF3 : Aside0 (addW k1 n d rest2 l = some out2) := ⟨by simpa using HF2'⟩
      clear HF2 HF2'
      gi_wp2_with (refine ⟨trivial, rfl, ?_⟩; refine (CallsIn.inRound q (callsIn_wide.2 (small_connected.calls k1 n d _ false _ Z HZ2.out HBC.out))).mono ?_; rintro e3 W4 ⟨rfl, hb4⟩; have HB4 := Aside0.mk hb4; have HI4 := Aside0.mk (HI2.out.next hb4); clear hb4)
      exact ⟨RoundKept.of_below HB4.out, rest2, v, l, HI4.out, HP.out, HF3.out⟩
     | true =>
      have HF3 : Aside0 (addW k1 n d rest2 (l ++ startsW n [z0, z1, z2, z3, z4, z5, z6, z7, z8, z9, z10, z11] (n % 256).toNat) = some out2) := ⟨by simpa using HF2'⟩
      clear HF2 HF2'
      gi_wp2_with (refine ⟨trivial, rfl, ?_⟩; refine (CallsIn.inRound q (callsIn_wide.2 (small_connected.calls k1 n d _ true _ Z HZ2.out HBC.out))).mono ?_; rintro e3 W4 ⟨rfl, hb4⟩; have HB4 := Aside0.mk hb4; have HI4 := Aside0.mk (HI2.out.next hb4); have HZ4 : Aside0 (SmB W4 Z n d [z0, z1, z2, z3, z4, z5, z6, z7, z8, z9, z10, z11]) := ⟨⟨blk_below HZ2.out.1 hb4, hx12⟩⟩; have hcN4 : W4.cell? ⟨NB, 0, none⟩ = some (.int .i64 n) := (blk_cell (HI2.out.next hb4).cN 0).trans rfl; clear hb4)
      generalize hzs : [z0, z1, z2, z3, z4, z5, z6, z7, z8, z9, z10, z11] = zs at HZ4 HF3
      obtain ⟨m, hm⟩ : ∃ m : Nat, n % 256 = (m : Int) := ⟨(n % 256).toNat, by omega⟩
      have hm255 : m ≤ 255 := by omega
      obtain ⟨mi, hmi⟩ : ∃ mi : Int, n % 256 = mi := ⟨_, rfl⟩
      have HM := Aside0.mk (show mi = (m : Int) ∧ m ≤ 255 from ⟨hmi.symm.trans hm, hm255⟩)
      rw [hm, Int.toNat_natCast] at HF3
      rw [hmi]
      have HBO4 : Aside0 (∀ b, own b → b < W4.heap.size) := ⟨fun b hb => by
       have := HBO.out b hb
       have := HB24.out
       have := HB4.out.size
       omega⟩
      have HL0 : Aside0 (WF w d O NB dl own W4 v (l ++ startsW n zs 0) n) := ⟨by rw [show startsW n zs 0 = [] from rfl, List.append_nil]; exact HI4.out⟩
      have HD3 := Aside0.mk d3
      have HQ4 : Aside0 ((∃ rr, W4.heap[q]? = some (.loop rr)) ∧ ∃ dd, W4.heap[D]? = some (.deferred dd)) := ⟨HQ2.out.imp (fun rr h => blk_below h HB4.out), HDD.out.imp (fun dd h => blk_below h HB4.out)⟩
      clear hm hm255 hmi d3 HI4
      gi_loopg [8, 22] (m + 1) (fun kq v8 v22 w' => ∃ (s : Nat) (si : Int) (v' : Value), v22 = .int .u8 si ∧ Aside0 (si = (s : Int)) ∧ Aside0 (s + kq = m + 1) ∧ Aside0 (s ≤ m) ∧ Aside0 (WF w d O NB dl own w' v' (l ++ startsW n zs s) n) ∧ Aside0 (SmB w' Z n d zs) ∧ Aside0 (RoundKept (keepR w.heap.size own q D) W4 w'))
      case atStart => exact ⟨0, 0, v, rfl, ⟨rfl⟩, ⟨by omega⟩, ⟨Nat.zero_le _⟩, HL0, HZ4, ⟨RoundKept.refl _ _⟩⟩
      case round =>
       clear HL0 HZ4
       rename World => wl
       obtain ⟨s, si, v', rfl, HS, HSK, HSM, HWF, HZ5, HRK⟩ := hrel
       cases gk with
       | zero => exact absurd HSK.out (by have := HSM.out; omega)
       | succ k2 =>
        by_cases d5 : si < mi
        ·have d5b : decide (si < mi) = true := decide_eq_true d5
         have p5 : ((0 : Int) ≤ si) = True := eq_true (by have := HS.out; omega)
         have hbo : ∀ b, own b → b < wl.heap.size := fun b hb => Nat.lt_of_lt_of_le (HBO4.out b hb) HRK.out.size
         have hlen : (l ++ startsW n zs s).length < 2000000000000 := by
          have := HD3.out; have := HSM.out; have := HM.out
          rw [List.length_append, startsW, List.length_map, List.length_range]; omega
         obtain ⟨A1, c1, w1, hrun, hcO1, hWF1, hZ1, hsz1, hRK1⟩ := HWF.out.push hbo si (IntKind.u16.wrap (2 ^ min si.toNat 16)) HZ5.out HZO.out.2 HZO.out.1 hlen
         have hcO : wl.cell? ⟨O, 0, none⟩ = some v' := (blk_cell HWF.out.cO 0).trans rfl
         have hcO2 : w1.cell? ⟨O, 0, none⟩ = some v' := (blk_cell hcO1 0).trans rfl
         have hfO2 := blk_frozen hcO1 0
         have HW1 := Aside0.mk hWF1
         have HZ6 := Aside0.mk hZ1
         have HRK2 : Aside0 (RoundKept (keepR w.heap.size own q D) W4 (w1.setCell ⟨O, 0, none⟩ (.slice A1 ((l ++ startsW n zs s).length + 1) c1))) := ⟨by
          obtain ⟨⟨rr, h1⟩, dd, h2⟩ := HQ4.out
          exact HRK.out.trans (hRK1 q D rr dd ((HRK.out.block q (blk_ltS h1) (Or.inr (Or.inl rfl))).trans h1) ((HRK.out.block D (blk_ltS h2) (Or.inr (Or.inr rfl))).trans h2))⟩
         have e9 : startsW n zs (s + 1) = startsW n zs s ++ [⟨n, zs, (s : Int), setU (s : Int)⟩] := by unfold startsW; rw [List.range_succ, List.map_append]; rfl
         have D5 := Aside0.mk d5
         clear hWF1 hZ1 hsz1 hRK1 hcO1 hbo hlen d5
         gi_wp2_with (gi_at_builtin; refine wpListIn_app rfl (.tmp 25) (.tmp 30) 76 rfl rfl rfl rfl hrun ?_)
         rw [List.length_append] at HW1 HZ6 HRK2
         go_roundg k2
         case measure => omega
         case rel =>
          have hsi := HS.out
          have hmi := HM.out
          have hd5 := D5.out
          have hw := HW1.out
          rw [List.append_assoc] at hw
          exact ⟨s + 1, (si + 1) % 256, _, rfl, ⟨by omega⟩, ⟨by have := HSK.out; omega⟩, ⟨by omega⟩, ⟨by rw [e9, ← hsi]; exact hw⟩, HZ6, HRK2⟩
        ·have d5b : decide (si < mi) = false := decide_eq_false d5
         obtain rfl : s = m := by have := HS.out; have := HM.out; have := HSM.out; omega
         clear d5
         gi_wp2
         exact ⟨(RoundKept.of_below HB4.out).trans HRK.out, rest2, v', l ++ startsW n zs s, HWF.out, HP.out, HF3.out⟩
    ·have HF2' := HF2.out
     rw [if_neg d3] at HF2'
     cases HF2'
   case done =>
    rintro D own W ⟨rest, v, l, hi, hL, hF⟩ hbs hKd hD
    obtain rfl : rest = [] := List.append_cancel_left (hL.symm.trans (List.append_nil L).symm)
    obtain rfl := Option.some.inj hF
    have HI := Aside0.mk hi
    have HKd := Aside0.mk hKd
    have HDD := Aside0.mk hD
    have hcN : W.cell? ⟨NB, 0, none⟩ = some (.int .i64 n) := (blk_cell HI.out.cN 0).trans rfl
    have hcM : (W.alloc (.cells #[.int .i64 n] 3)).cell? ⟨W.heap.size, 0, none⟩ = some (.int .i64 n) := (blk_cell (blk_new W _) 0).trans rfl
    have HW1 := Aside0.mk (HI.out.again HKd.out (Nat.le_trans HI3.out.below.size HDD.out) (fun hd => by
     obtain ⟨D', e1, h1, _, _⟩ := HI3.out.ms _ hd
     have e2 : D = D' := by injection e1 with e1 _; injection e1
     have := blk_ltS h1
     have := HDD.out
     omega) (wrap64 (n + 1)))
    clear hi hKd hL hF seq
    go_wp2_with fail
    exact Handed.intro k1 (by omega) (hJ _ _ _ ⟨wrap64 (n + 1), W.heap.size, _, v, l, _, _, _, _, _, _, _, _, _, _, _, _, _, _, _, _, _, _, _, _, _, _, _, _, _, _, _, rfl, ⟨by simpa using H4.out⟩, HW1⟩)
   case stop =>
    rintro D c own pre W h
    exact h.elim
  ·rw [if_neg d1] at H
   obtain rfl := Option.some.inj H
   have d1b := decide_eq_false d1
   have hcO : wr.cell? ⟨O, 0, none⟩ = some v := (blk_cell HI.out.cO 0).trans rfl
   clear H d1
   go_wp2_with fail
   exact HI.out.ends rfl rfl
end Go.Proofs.Ytgbjbgdnldklpaa.Q
end
/-! Part XUniv -/
section
namespace Go.Proofs.Ytgbjbgdnldklpaa.Q
open Go.RowKit Go.Proofs.YtgbjbgdnldklpaaW.PrintWords Go.Proofs.YtgbjbgdnldklpaaW.PrintLast Go.Proofs.YtgbjbgdnldklpaaW.PrintMore
set_option linter.unusedVariables false
set_option linter.unusedSimpArgs false
/-! ### the word for all mazes: functions -/
def goW (d : Int) (k : Wk) (x : Int) : Option (Wk × Bool) := (goesF k.n d k.rs k.at_ k.met x).bind fun p => some (⟨k.n, k.rs, p.1, p.2.1⟩, p.2.2)
def filterW (d x : Int) : List Wk → Option (List Wk)
 | [] => some []
 | k :: r => (goW d k x).bind fun p => (filterW d x r).bind fun l => some (if p.2 = true then l else p.1 :: l)
mutual
def maze_univ.l0 : Nat → Int → List Int → List Wk → Option (List Int)
 | 0, _, _, _ => none
 | k + 1, d, out, left => match left with
  | [] => some out
  | h :: t => (maze_way.f k d h.rs h.at_ h.met).bind fun wy => if wy.length < 1000000000 then maze_univ.l1 k d out (h :: t) wy else none
def maze_univ.l1 : Nat → Int → List Int → List Wk → List Int → Option (List Int)
 | 0, _, _, _, _ => none
 | k + 1, d, out, left, wy => match wy with
  | [] => maze_univ.l0 k d out left
  | x :: r => if out.length < 1000000000 then (filterW d x left).bind fun left2 => if left2.length = 0 then maze_univ.l0 k d (out ++ [x]) left2 else maze_univ.l1 k d (out ++ [x]) left2 r else none
end
def maze_Universal.f (k : Nat) (rooms d : Int) : Option (List Int × Int) := (maze_asks.f rooms d).bind fun e => if e = 0 then (maze_walkers.f k rooms d).bind fun left => if left.length < 1000000000000 then (maze_univ.l0 k d [] left).bind fun out => some (out, 0) else none else some ([], e)
theorem maze_univ.mono_l : ∀ k, (∀ y0 y1 y2, LeO (maze_univ.l0 k y0 y1 y2) (maze_univ.l0 (k + 1) y0 y1 y2)) ∧ (∀ y0 y1 y2 y3, LeO (maze_univ.l1 k y0 y1 y2 y3) (maze_univ.l1 (k + 1) y0 y1 y2 y3))
 | 0 => ⟨fun _ _ _ r h => by simp [maze_univ.l0] at h, fun _ _ _ _ r h => by simp [maze_univ.l1] at h⟩
 | k + 1 => by
  obtain ⟨ih0, ih1⟩ := maze_univ.mono_l k
  refine ⟨?_, ?_⟩
  ·intro y0 y1 y2
   unfold maze_univ.l0
   cases y2 with
   | nil => exact LeO.refl _
   | cons h t => exact LeO.bind (maze_way.mono _ _ _ _ _) fun wy => LeO.ite (ih1 _ _ _ _) (LeO.refl _)
  ·intro y0 y1 y2 y3
   unfold maze_univ.l1
   cases y3 with
   | nil => exact ih0 _ _ _
   | cons x r => exact LeO.ite (LeO.bind (LeO.refl _) fun l => LeO.ite (ih0 _ _ _) (ih1 _ _ _ _)) (LeO.refl _)
theorem maze_Universal.mono (rooms d : Int) (k : Nat) : LeO (maze_Universal.f k rooms d) (maze_Universal.f (k + 1) rooms d) :=
 LeO.bind (LeO.refl _) fun e => LeO.ite (LeO.bind (maze_walkers.mono _ _ _) fun l => LeO.ite (LeO.bind ((maze_univ.mono_l k).1 _ _ _) fun o => LeO.refl _) (LeO.refl _)) (LeO.refl _)
/-! ### an append into a row's own room -/
set_option maxRecDepth 100000 in
theorem append_room {W : World} {base g N cap r : Nat} {ok : Nat → Prop} {cur : List (Nat × Int × Int)} (h : kWa.R 81 W base ok (.slice (some ⟨g, 0, none⟩) N cap) cur) (hr : r < N) (z : Nat × Int × Int) {b : Nat} (hb : W.heap[b]? = some (.cells #[.pointer (some ⟨z.1, 0, none⟩), .int .u8 z.2.1, .int .u16 z.2.2] 81 (0, 0))) :
  ∃ W1, (Builtin.append_ #[76, 76] 76 #[.slice (some ⟨g, 0, none⟩) r cap, .slice (some ⟨b, 0, none⟩) 1 1]).run Try.prog W = .ok (.slice (some ⟨g, 0, none⟩) (r + 1) cap) W1 ∧ kWa.R 81 W1 base ok (.slice (some ⟨g, 0, none⟩) N cap) (cur.set r z) ∧ W.grownBy W1 (some g) := by
 obtain ⟨hn, hnc, _⟩ := Kd.R_reads' h
 have hrl : (r : Int) < ((N : Nat) : Int) := Int.ofNat_lt.2 hr
 have hs : kWa.sz = 3 := rfl
 obtain ⟨c, hc1, hc2, hc3, hc4⟩ := Kd.R_elem h z (r : Int) (Int.natCast_nonneg _) hrl
 obtain ⟨h1, h2⟩ := Kd.R_seg h (r : Int) (Int.natCast_nonneg _) hrl (seg := [.pointer (some ⟨z.1, 0, none⟩), .int .u8 z.2.1, .int .u16 z.2.2]) (j := 0) hc1 hc3 (by rw [hs]; exact Nat.le_refl 3) (x' := z) (okp := fun _ => False) (by
  have e : List.take 0 c ++ [Value.pointer (some ⟨z.1, 0, none⟩), .int .u8 z.2.1, .int .u16 z.2.2] ++ List.drop (0 + [Value.pointer (some ⟨z.1, 0, none⟩), .int .u8 z.2.1, .int .u16 z.2.2].length) c = [Value.pointer (some ⟨z.1, 0, none⟩), .int .u8 z.2.1, .int .u16 z.2.2] := by
   rw [List.take_zero, List.nil_append, List.drop_eq_nil_of_le (by rw [hc1, hs]; exact Nat.le_refl 3), List.append_nil]
  rw [e]; exact kWa_M) (fun _ h => h.elim)
 rw [Int.toNat_natCast, hs, Nat.add_zero] at h1 h2
 obtain ⟨hok, inner, hown, hrep⟩ := h
 rcases hown.2 with ⟨hv, _⟩ | ⟨g', cap', cu, hv, hbg, hh, hnc', hcm, hcs, ht⟩
 ·cases hv
 injection hv with ha _ hc
 injection ha with ha
 injection ha with hg
 subst hg; subst hc
 obtain ⟨i0, hi, hzz⟩ := Option.map_eq_some_iff.1 info_walker
 simp only [Prod.mk.injEq] at hzz
 obtain ⟨hz0, hz1, hz2⟩ := hzz
 have hcs3 : cu.size = cap * 3 := hcs
 have hfit : r * 3 + 3 ≤ cu.size := by omega
 have hrun := run_append_room (P := Try.prog) W 76 76 81 i0 Try.underlying76 hi g r cap cu hh ⟨b, 0, none⟩ 1 1 [.pointer (some ⟨z.1, 0, none⟩), .int .u8 z.2.1, .int .u16 z.2.2] (by rw [hz1]; rfl) (lit_cells hb) (by intro u hu; simp at hu; rcases hu with rfl | rfl | rfl <;> rfl) (by omega) (by rw [hz1]; exact hfit)
 rw [hz1] at hrun
 obtain ⟨cu', h3, h4, h5⟩ := setCells_row [.pointer (some ⟨z.1, 0, none⟩), .int .u8 z.2.1, .int .u16 z.2.2] (r * 3) W cu hh hfit
 refine ⟨_, hrun, ?_, ⟨rfl, rfl, rfl, by simp, fun k _ hk => setRow_other W g k _ (fun e => hk (by simp [e]))⟩⟩
 refine Kd.R_move h1 fun k _ => ?_
 by_cases hkg : k = g
 ·subst hkg
  rw [setRow_heap W k cu _ _ _ hh, h3]
  have e : (cu.toList.take (r * 3) ++ [Value.pointer (some ⟨z.1, 0, none⟩), Value.int .u8 z.2.1, Value.int .u16 z.2.2] ++ cu.toList.drop (r * 3 + [Value.pointer (some ⟨z.1, 0, none⟩), Value.int .u8 z.2.1, Value.int .u16 z.2.2].length)).toArray = cu' := by rw [← h5]
  rw [e]
 ·rw [setRow_other W g k _ hkg]
  exact (setCells_far _ _ k hkg).symm
/-- The memory of Universal: the word so far, and those who are left. -/
structure UF (w : World) (d : Int) (W : World) (vO : Value) (out : List Int) (vL : Value) (left : List Wk) : Prop where
 below : Below w.heap.size w W
 out : Kd.R (Kd.int .i64) 3 W w.heap.size (fun _ => True) vO out
 wl : WL d W w.heap.size (fun _ => True) vL left
theorem UF.next {w : World} {d : Int} {W W1 : World} {vO vL : Value} {out : List Int} {left : List Wk} (h : UF w d W vO out vL left) (hb : Below W.heap.size W W1) : UF w d W1 vO out vL left := ⟨below_step h.below hb, Kd.R_below h.out hb, h.wl.next hb⟩
/-- Someone is left: the first one, and the row. -/
theorem WL.head {d : Int} {W : World} {base : Nat} {ok : Nat → Prop} {v : Value} {h0 : Wk} {t : List Wk} (h : WL d W base ok v (h0 :: t)) :
  ∃ g c Z, v = .slice (some ⟨g, 0, none⟩) (t.length + 1) c ∧ W.cell? ⟨g, 0, none⟩ = some (.pointer (some ⟨Z, 0, none⟩)) ∧ W.cell? ⟨g, 1, none⟩ = some (.int .u8 h0.at_) ∧ W.cell? ⟨g, 2, none⟩ = some (.int .u16 h0.met) ∧ SmB W Z h0.n d h0.rs := by
 obtain ⟨zs, h1, h2, h3⟩ := h
 have hl : zs.length = t.length + 1 := by rw [h2]; rfl
 obtain ⟨g, c, e, _, _, cells, hcl⟩ := Kd.R_form h1 (by omega)
 rw [hl] at e
 subst e
 obtain ⟨cs, hc1, hc2, hc3, _⟩ := Kd.R_elem h1 (0, 0, 0) 0 (Int.le_refl 0) (by omega)
 have hz : zs[0]? = some (zs.getD 0 (0, 0, 0)) := by
  rw [List.getD_eq_getElem?_getD, List.getElem?_eq_getElem (by omega)]; rfl
 obtain ⟨a1, a2, a3, _, _⟩ := h3 0 _ h0 hz rfl
 have hM := kWa_open hc2
 subst hM
 refine ⟨g, c, _, rfl, hc3 0 _ rfl, ?_, ?_, a3⟩
 ·rw [← a1]; exact hc3 1 _ rfl
 ·rw [← a2]; exact hc3 2 _ rfl
theorem WL.lower {d : Int} {W : World} {base base' : Nat} {ok : Nat → Prop} {v : Value} {l : List Wk} (h : WL d W base ok v l) (hb : base' ≤ base) : WL d W base' ok v l := by
 obtain ⟨zs, h1, h2, h3⟩ := h
 refine ⟨zs, Kd.R_lower h1 hb, h2, fun i z k hz hl => ?_⟩
 obtain ⟨a1, a2, a3, a4, a5⟩ := h3 i z k hz hl
 exact ⟨a1, a2, a3, Nat.le_trans hb a4, a5⟩
theorem WL.len {d : Int} {W : World} {base : Nat} {ok : Nat → Prop} {v : Value} {l : List Wk} (h : WL d W base ok v l) : ∃ A c, v = .slice A l.length c ∧ l.length ≤ c := by
 obtain ⟨zs, h1, h2, h3⟩ := h
 obtain ⟨A, c, e, hc, _⟩ := Kd.R_reads h1
 rw [h2] at e hc
 exact ⟨A, c, e, hc⟩
/-- ... and the row of a way. -/
structure UG (w : World) (d : Int) (W : World) (vO : Value) (out : List Int) (vL : Value) (left : List Wk) (vY : Value) (wy : List Int) : Prop where
 uf : UF w d W vO out vL left
 way : Kd.R (Kd.int .i64) 3 W w.heap.size (fun k => True ∧ some k ≠ vO.ownBlock) vY wy
theorem UG.next {w : World} {d : Int} {W W1 : World} {vO vL vY : Value} {out wy : List Int} {left : List Wk} (h : UG w d W vO out vL left vY wy) (hb : Below W.heap.size W W1) : UG w d W1 vO out vL left vY wy := ⟨h.uf.next hb, Kd.R_below h.way hb⟩
theorem WL.apart {d : Int} {W W' : World} {base : Nat} {ok : Nat → Prop} {v : Value} {l : List Wk} (h : WL d W base ok v l) {row : Option Nat} {e' : Nat} (hg : W.grownBy W' row) (hty : ∀ k, row = some k → ∃ cells, W.heap[k]? = some (.cells cells e' (0, 0))) (h1 : e' ≠ 81) (h2 : e' ≠ 66) : WL d W' base ok v l :=
 h.keep fun b cs t hc _ ht => hg.block b (blk_lt hc) fun e => by
  obtain ⟨cells, hc2⟩ := hty b e.symm
  rw [hc] at hc2
  have h3 := Option.some.inj hc2
  injection h3 with _ h3
  rcases ht with rfl | rfl
  ·exact h1 h3.symm
  ·exact h2 h3.symm
theorem UG.push {w : World} {d : Int} {W : World} {vO vL vY : Value} {out wy : List Int} {left : List Wk} (h : UG w d W vO out vL left vY wy) (x : Int) (hl : out.length < 1000000000) :
  ∃ A c w1, (Builtin.append_ #[30, 30] 30 #[vO, .slice (some ⟨W.heap.size, 0, none⟩) 1 1]).run Try.prog (W.alloc (.cells #[.int .i64 x] 3)) = .ok (.slice A (out.length + 1) c) w1 ∧ UG w d w1 (.slice A (out.length + 1) c) (out ++ [x]) vL left vY wy := by
 have hb := below_alloc (Below.refl W.heap.size W) (.cells #[.int .i64 x] 3)
 have ha := h.next hb
 obtain ⟨v1, w1, hrun, hR, hg, hat⟩ := append_run (P := Try.prog) (Kd.int .i64) w.heap.size 30 3 30 (.int .i64 0) 8 Try.underlying30 info3 rfl (by decide) (by decide) vO out x [.int .i64 x] (fun _ => True) (fun _ => False) ⟨W.heap.size, 0, none⟩ 1 ha.uf.out rfl (fun _ h => h.elim) (fun _ _ => trivial) (lit_cells (blk_new W _)) ha.uf.below.size (by omega)
 obtain ⟨A, c, e1⟩ := Kd.R_slice hR
 rw [List.length_append] at e1
 have e1 : v1 = .slice A (out.length + 1) c := e1
 subst e1
 exact ⟨A, c, w1, hrun, ⟨below_rowR ha.uf.below hg (Kd.R_base ha.uf.out), hR, ha.uf.wl.apart hg (Kd.R_typed ha.uf.out) (by decide) (by decide)⟩, Kd.R_after ha.way hg hat⟩
/-- The memory inside the round over those who are left: some are kept, the others wait. -/
structure UL (w : World) (d : Int) (W : World) (vO : Value) (out : List Int) (g N cap : Nat) (kept rest : List Wk) (vY : Value) (wy : List Int) (cur : List (Nat × Int × Int)) (j : Nat) : Prop where
 below : Below w.heap.size w W
 out : Kd.R (Kd.int .i64) 3 W w.heap.size (fun _ => True) vO out
 way : Kd.R (Kd.int .i64) 3 W w.heap.size (fun k => True ∧ some k ≠ vO.ownBlock) vY wy
 row : kWa.R 81 W w.heap.size (fun _ => True) (.slice (some ⟨g, 0, none⟩) N cap) cur
 len : cur.length = N
 kl : kept.length ≤ j
 jl : j + rest.length = N
 kat : ∀ (i : Nat) (z : Nat × Int × Int) (k : Wk), cur[i]? = some z → kept[i]? = some k → WkAt d W w.heap.size (fun _ => True) z k
 rat : ∀ (i : Nat) (z : Nat × Int × Int) (k : Wk), cur[j + i]? = some z → rest[i]? = some k → WkAt d W w.heap.size (fun _ => True) z k
theorem WkAt.step {d : Int} {W W1 : World} {base : Nat} {ok : Nat → Prop} {z : Nat × Int × Int} {k : Wk} (h : WkAt d W base ok z k) (hs : SmB W z.1 k.n d k.rs → SmB W1 z.1 k.n d k.rs) : WkAt d W1 base ok z k := ⟨h.1, h.2.1, hs h.2.2.1, h.2.2.2.1, h.2.2.2.2⟩
section
variable {w : World} {d : Int} {W W1 : World} {vO vY : Value} {out wy : List Int} {g N cap : Nat} {kept rest : List Wk} {cur : List (Nat × Int × Int)} {j : Nat}
theorem UL.start {left : List Wk} (h : UG w d W vO out (.slice (some ⟨g, 0, none⟩) N cap) left vY wy) : ∃ cur, UL w d W vO out g N cap [] left vY wy cur 0 := by
 obtain ⟨zs, h1, h2, h3⟩ := h.uf.wl
 obtain ⟨hn, _, _⟩ := Kd.R_reads' h1
 exact ⟨zs, h.uf.below, h.uf.out, h.way, h1, hn.symm, Nat.le_refl _, by rw [Nat.zero_add, ← h2, hn], fun i z k _ hk => by simp at hk, fun i z k hz hk => h3 i z k (by simpa using hz) hk⟩
theorem UL.next (h : UL w d W vO out g N cap kept rest vY wy cur j) (hb : Below W.heap.size W W1) : UL w d W1 vO out g N cap kept rest vY wy cur j :=
 ⟨below_step h.below hb, Kd.R_below h.out hb, Kd.R_below h.way hb, Kd.R_below h.row hb, h.len, h.kl, h.jl, fun i z k h1 h2 => (h.kat i z k h1 h2).step fun hs => ⟨blk_below hs.1 hb, hs.2⟩, fun i z k h1 h2 => (h.rat i z k h1 h2).step fun hs => ⟨blk_below hs.1 hb, hs.2⟩⟩
theorem UL.drop {k : Wk} {r : List Wk} (h : UL w d W vO out g N cap kept (k :: r) vY wy cur j) : UL w d W vO out g N cap kept r vY wy cur (j + 1) :=
 ⟨h.below, h.out, h.way, h.row, h.len, Nat.le_succ_of_le h.kl, by have := h.jl; rw [List.length_cons] at this; omega, h.kat, fun i z k h1 h2 => h.rat (i + 1) z k (by rw [← h1]; congr 1; omega) (by simpa using h2)⟩
theorem UL.done (h : UL w d W vO out g N cap kept [] vY wy cur j) : UG w d W vO out (.slice (some ⟨g, 0, none⟩) kept.length cap) kept vY wy := by
 have hj := h.jl
 have hk := h.kl
 have hl := h.len
 rw [List.length_nil] at hj
 exact ⟨⟨h.below, h.out, cur.take kept.length, Kd.R_take h.row (by omega), by rw [List.length_take]; omega, fun i z k hz hl2 => by
  have hi := (List.getElem?_eq_some_iff.1 hl2).1
  rw [List.getElem?_take_of_lt hi] at hz
  exact h.kat i z k hz hl2⟩, h.way⟩
/-- The one who is next. -/
theorem UL.one {k : Wk} {r : List Wk} (h : UL w d W vO out g N cap kept (k :: r) vY wy cur j) :
  ∃ Z, (∀ q u, [Value.pointer (some ⟨Z, 0, none⟩), .int .u8 k.at_, .int .u16 k.met][q]? = some u → W.cell? ⟨g, j * 3 + q, none⟩ = some u) ∧ SmB W Z k.n d k.rs ∧ w.heap.size ≤ Z ∧ ((j : Int) < (N : Int)) := by
 have hj := h.jl
 have hl := h.len
 rw [List.length_cons] at hj
 have hlt : ((j : Nat) : Int) < ((N : Nat) : Int) := by omega
 obtain ⟨cs, hc1, hc2, hc3, _⟩ := Kd.R_elem h.row (0, 0, 0) ((j : Nat) : Int) (Int.natCast_nonneg _) hlt
 rw [Int.toNat_natCast] at hc2 hc3
 have hz : cur[j + 0]? = some (cur.getD j (0, 0, 0)) := by
  rw [List.getD_eq_getElem?_getD, Nat.add_zero, List.getElem?_eq_getElem (by omega)]; rfl
 obtain ⟨a1, a2, a3, a4, _⟩ := h.rat 0 _ k hz rfl
 have hM := kWa_open hc2
 rw [a1, a2] at hM
 subst hM
 exact ⟨_, fun q u hu => hc3 q u hu, a3, a4, hlt⟩
/-- It is kept. -/
theorem UL.keep {k0 k : Wk} {r : List Wk} {Z b : Nat} (h : UL w d W vO out g N cap kept (k0 :: r) vY wy cur j) (hZ : SmB W Z k.n d k.rs) (hZb : w.heap.size ≤ Z) (hb : W.heap[b]? = some (.cells #[.pointer (some ⟨Z, 0, none⟩), .int .u8 k.at_, .int .u16 k.met] 81 (0, 0))) :
  ∃ W1, (Builtin.append_ #[76, 76] 76 #[.slice (some ⟨g, 0, none⟩) kept.length cap, .slice (some ⟨b, 0, none⟩) 1 1]).run Try.prog W = .ok (.slice (some ⟨g, 0, none⟩) (kept.length + 1) cap) W1 ∧ ∃ cur, UL w d W1 vO out g N cap (kept ++ [k]) r vY wy cur (j + 1) := by
 have hj := h.jl
 have hk := h.kl
 have hl := h.len
 rw [List.length_cons] at hj
 obtain ⟨W1, hrun, hR, hg⟩ := append_room h.row (r := kept.length) (by omega) (Z, k.at_, k.met) hb
 have hty := Kd.R_typed h.row
 have hs : ∀ (z : Nat) (n : Int) (rs : List Int), SmB W z n d rs → SmB W1 z n d rs := fun z n rs hs => ⟨blk_grown hs.1 hg (Kd.R_ne h.row hs.1 (by decide)), hs.2⟩
 refine ⟨W1, hrun, cur.set kept.length (Z, k.at_, k.met), below_rowR h.below hg (Kd.R_base h.row), Kd.R_over' h.out hty (by decide) hg, Kd.R_over' h.way hty (by decide) hg, hR, by rw [List.length_set]; exact hl, by rw [List.length_append, List.length_singleton]; omega, by omega, fun i z k' h1 h2 => ?_, fun i z k' h1 h2 => ?_⟩
 ·by_cases hi : i < kept.length
  ·rw [List.getElem?_set_ne (by omega)] at h1
   rw [List.getElem?_append_left hi] at h2
   exact (h.kat i z k' h1 h2).step (hs _ _ _)
  ·have hi2 : i = kept.length := by
    have := (List.getElem?_eq_some_iff.1 h2).1
    rw [List.length_append, List.length_singleton] at this
    omega
   subst hi2
   rw [List.getElem?_set_self (by omega)] at h1
   simp at h2
   obtain rfl := Option.some.inj h1
   subst h2
   exact ⟨rfl, rfl, hs _ _ _ hZ, hZb, trivial⟩
 ·rw [List.getElem?_set_ne (by omega)] at h1
  exact (h.rat (i + 1) z k' (by rw [show j + (i + 1) = j + 1 + i by omega]; exact h1) (by simpa using h2)).step (hs _ _ _)
end
theorem WL.slen {d : Int} {W : World} {base : Nat} {ok : Nat → Prop} {A : Option Addr} {n c : Nat} {l : List Wk} (h : WL d W base ok (.slice A n c) l) : l.length = n := by
 obtain ⟨zs, h1, h2, h3⟩ := h
 exact h2.symm.trans (Kd.R_reads' h1).1.symm
set_option maxHeartbeats 1000000 in
set_option maxRecDepth 100000 in
theorem maze_Universal.calls (k : Nat) (rooms d : Int) (r1 : List Int) (r2 : Int) (w : World) (h : maze_Universal.f k rooms d = some (r1, r2)) :
  Calls Try.prog 26 #[.int .i64 rooms, .int .i64 d] w fun e w' => ∃ v, e = .returned (.tuple #[v, .int .i64 r2]) ∧ Kd.R (Kd.int .i64) 3 w' w.heap.size (fun _ => True) v r1 ∧ Below w.heap.size w w' := by
 obtain ⟨e, he, h⟩ := Option.bind_eq_some_iff.1 h
 have HE := Aside0.mk he
 by_cases d0 : e = 0
 ·rw [if_pos d0] at h
  subst d0
  obtain ⟨left, hl, h⟩ := Option.bind_eq_some_iff.1 h
  by_cases d1 : left.length < 1000000000000
  ·rw [if_pos d1] at h
   obtain ⟨rO, ho, h⟩ := Option.bind_eq_some_iff.1 h
   obtain ⟨rfl, rfl⟩ := Prod.mk.inj (Option.some.inj h)
   have HL := Aside0.mk hl
   have HO := Aside0.mk ho
   have HLL := Aside0.mk d1
   clear h ho hl he d1
   go_enter Try.func26, Try.ntmps26
   go_wp2_with (first | (go_at_call 37; refine (maze_asks.calls _ _ _ _ HE.out).mono ?_; rintro e2 w2 ⟨rfl, hd2⟩; have HB2 := Aside0.mk hd2.below; clear hd2)  | (go_at_call 45; refine (walkers_calls k rooms d left _ HL.out).mono ?_; rintro e3 w3 ⟨v3, rfl, hw3, hb3⟩; have HW3 := Aside0.mk hw3; have HB3 := Aside0.mk hb3; clear hw3 hb3))
   have HU := Aside0.mk (show UF w d w3 (.slice (some ⟨w2.heap.size, 0, none⟩) 0 0) [] v3 left from ⟨below_step (below_alloc HB2.out _) HB3.out, Kd.R_below (Kd.R_lower (lit_nil w2) HB2.out.size) HB3.out, HW3.out.lower (by have := HB2.out.size; rw [World.size_alloc]; omega)⟩)
   clear HW3 HB3 HB2 HE HL
   generalize (Value.slice (some ⟨w2.heap.size, 0, none⟩) 0 0) = v0 at HU ⊢
   go_loopg [7, 8] k (fun kq v7 v8 w' => ∃ (out : List Int) (left : List Wk), Aside0 (maze_univ.l0 kq d out left = some rO) ∧ Aside0 (kq ≤ k) ∧ Aside0 (left.length < 1000000000000) ∧ Aside0 (UF w d w' v7 out v8 left))
   case atStart => exact ⟨[], left, HO, ⟨Nat.le_refl _⟩, HLL, HU⟩
   case round =>
    clear HU HO HLL
    obtain ⟨out, left, HA, HK, HLL, HU⟩ := hrel
    cases gk with
    | zero => exact absurd HA.out (by simp [maze_univ.l0])
    | succ k1 =>
     have H := HA.out
     clear HA
     cases left with
     | nil =>
      simp only [maze_univ.l0] at H
      obtain rfl := Option.some.inj H
      obtain ⟨A8, c8, e8, _⟩ := HU.out.wl.len
      subst e8
      clear H
      go_wp2_with fail
      go_ret2
      exact ⟨_, rfl, HU.out.out, HU.out.below⟩
     | cons h0 t =>
      simp only [maze_univ.l0] at H
      obtain ⟨wy, hwy, H2⟩ := Option.bind_eq_some_iff.1 H
      obtain ⟨g8, c8, Z8, e8, hx0, hx1, hx2, hZ8⟩ := HU.out.wl.head
      subst e8
      have HWY := Aside0.mk hwy
      have HZ8 := Aside0.mk hZ8
      have H3 := Aside0.mk H2
      have q1 : ((0 : Int) < ((t.length + 1 : Nat) : Int)) = True := eq_true (by omega)
      have q2 : decide ((t.length : Int) + 1 > 0) = true := decide_eq_true (by omega)
      clear H H2 hwy hZ8
      go_wp2_with (go_at_call 46; refine (way_calls k1 h0.n d h0.rs h0.at_ h0.met wy _ Z8 HZ8.out HWY.out).mono ?_; rintro e5 w5 ⟨v30, rfl, hR5, hb5⟩; obtain ⟨A30, c30, e30⟩ := Kd.R_slice hR5; subst e30; have HR5 := Aside0.mk hR5; have HB5 := Aside0.mk hb5; clear hR5 hb5)
      by_cases d9 : wy.length < 1000000000
      ·have H4 := H3.out
       rw [if_pos d9] at H4
       have HX := Aside0.mk H4
       have D9 := Aside0.mk d9
       have HUB := HU.out.next HB5.out
       have HG := Aside0.mk (show UG w d w5 u7 out (.slice (some ⟨g8, 0, none⟩) (t.length + 1) c8) (h0 :: t) (.slice A30 wy.length c30) wy from ⟨HUB, Kd.R_lower (Kd.R_new' HR5.out (Kd.R_lt HU.out.out)) HU.out.below.size⟩)
       clear H3 H4 d9 HUB HWY HZ8 HR5 HB5 HU hx0 hx1 hx2 q1 q2
       have q0 : Aside0 ((t.length + 1 : Nat) < 1000000000000) := ⟨by have := HLL.out; rw [List.length_cons] at this; exact this⟩
       clear HLL
       go_loopg [7, 8, 32] k1 (fun kq v7 v8 v32 w' => ∃ (j : Nat) (ji : Int) (out : List Int) (left : List Wk) (g N cap : Nat), v32 = .int .i64 ji ∧ v8 = .slice (some ⟨g, 0, none⟩) N cap ∧ Aside0 (ji = (j : Int)) ∧ Aside0 (maze_univ.l1 kq d out left (wy.drop j) = some rO) ∧ Aside0 (kq ≤ k1) ∧ Aside0 (N < 1000000000000) ∧ Aside0 (0 < N) ∧ Aside0 (UG w d w' v7 out (.slice (some ⟨g, 0, none⟩) N cap) left (.slice A30 wy.length c30) wy))
       case atStart => exact ⟨0, 0, out, h0 :: t, g8, _, c8, rfl, rfl, ⟨rfl⟩, HX, ⟨Nat.le_refl _⟩, q0, ⟨Nat.succ_pos _⟩, HG⟩
       case round =>
        clear HX HG q0
        rename World => wi_
        obtain ⟨j, ji, out2, left2, g, N, cap, rfl, rfl, HJ, HA, HK2, HN, HN0, HG⟩ := hrel
        cases gk with
        | zero => exact absurd HA.out (by simp [maze_univ.l1])
        | succ k2 =>
         have H := HA.out
         clear HA
         by_cases d2 : ji < (wy.length : Int)
         ·obtain ⟨x, r, hd⟩ : ∃ x r, wy.drop j = x :: r := by
           have := HJ.out
           exact ⟨_, _, List.drop_eq_getElem_cons (by omega)⟩
          rw [hd] at H
          simp only [maze_univ.l1] at H
          by_cases d3 : out2.length < 1000000000
          ·rw [if_pos d3] at H
           obtain ⟨left3, hf, H2⟩ := Option.bind_eq_some_iff.1 H
           obtain ⟨ad, hx⟩ : ∃ ad, A30 = some ad ∧ wi_.cell? (ad.add ji.toNat) = some (.int .i64 x) := by
            obtain ⟨A, c, e, _, hC⟩ := Kd.R_reads HG.out.way
            obtain ⟨ad, cs, e2, _, hK, hc0⟩ := Kd.C_get hC 0 ji (by have := HJ.out; omega) d2
            injection e with e3 _ _
            subst e3
            have hK2 : cs = [.int .i64 (wy.getD ji.toNat 0)] := hK
            have hx : wy.getD ji.toNat 0 = x := by
             have h1 := congrArg (fun l => l[0]?) hd
             simp only [List.getElem?_drop, Nat.add_zero, List.getElem?_cons_zero] at h1
             rw [List.getD_eq_getElem?_getD, show ji.toNat = j by have := HJ.out; omega, h1]; rfl
            rw [hx] at hK2
            subst hK2
            exact ⟨ad, e2, by have h9 := hc0 0 _ rfl; rw [show (Kd.int .i64).sz = 1 from rfl] at h9; simpa using h9⟩
           obtain ⟨rfl, hx⟩ := hx
           have hd1 : wy.drop (j + 1) = r := by
            have h1 := congrArg List.tail hd
            rwa [List.tail_drop, List.tail_cons] at h1
           have HD1 := Aside0.mk hd1
           have HF := Aside0.mk hf
           have HX := Aside0.mk H2
           have d2b := decide_eq_true d2
           have q2 := eq_true d2
           have q3 : ((0 : Int) ≤ ji) = True := eq_true (by have := HJ.out; omega)
           have q4 := Aside0.mk d2
           obtain ⟨A7, c7, w7, hrun, hG7⟩ := HG.out.push x d3
           have HG7 := Aside0.mk hG7
           clear H H2 hf hd hd1 d2 d3 hG7
           go_wp2_with ((with_reducible refine gate_builtin (b := .append) (xs := #[.tmp 36, .tmp 38]) rfl ?_); at_builtin; refine Kd.event_run rfl (run_append_op rfl rfl rfl hrun) ?_)
           obtain ⟨cur0, hU0⟩ := UL.start HG7.out
           have HU0 := Aside0.mk hU0
           clear hU0 HG7 HG hx hrun q2 q3 d2b
           go_loopg [11, 44] (N + 1) (fun kq v11 v44 w' => ∃ (j3 : Nat) (ji3 : Int) (kept rest l2 : List Wk) (cur : List (Nat × Int × Int)), v11 = .slice (some ⟨g, 0, none⟩) kept.length cap ∧ v44 = .int .i64 ji3 ∧ Aside0 (ji3 = (j3 : Int)) ∧ Aside0 (j3 + kq = N + 1) ∧ Aside0 (filterW d x rest = some l2) ∧ Aside0 (left3 = kept ++ l2) ∧ Aside0 (UL w d w' (.slice A7 (out2.length + 1) c7) (out2 ++ [x]) g N cap kept rest (.slice (some ad) wy.length c30) wy cur j3))
           case atStart => exact ⟨0, 0, [], left2, left3, cur0, rfl, rfl, ⟨rfl⟩, ⟨by omega⟩, HF, ⟨rfl⟩, HU0⟩
           case round =>
            clear HU0 HF
            rename World => wl
            obtain ⟨j3, ji3, kept, rest, l2, cur, rfl, rfl, HJ3, HM3, HF, HL3, HU⟩ := hrel
            cases rest with
            | nil =>
             have e1 := Option.some.inj HF.out
             subst e1
             have e2 := HL3.out
             rw [List.append_nil] at e2
             have HUG := Aside0.mk HU.out.done
             have hjl := HU.out.jl
             have hkl := HU.out.kl
             rw [List.length_nil] at hjl
             have d5b : decide (ji3 < (N : Int)) = false := decide_eq_false (by have := HJ3.out; omega)
             have HKN := Aside0.mk (show kept.length ≤ N by omega)
             clear hjl hkl HF HL3 HU
             subst e2
             have H := HX.out
             clear HX
             by_cases d6 : left3.length = 0
             ·rw [if_pos d6] at H
              have H' := Aside0.mk H
              have d6b : (((left3.length : Nat) : Int) == 0) = true := by simp [d6]
              clear H d6
              go_wp2_with fail
              go_roundg k2
              case measure => have := HK2.out; omega
              case rel => exact ⟨_, _, H', ⟨by have := HK.out; have := HK2.out; omega⟩, ⟨by have := HKN.out; have := HN.out; omega⟩, ⟨HUG.out.uf⟩⟩
             ·rw [if_neg d6] at H
              rw [← HD1.out] at H
              have H' := Aside0.mk H
              have d6b : (((left3.length : Nat) : Int) == 0) = false := by simpa using d6
              have D6 := Aside0.mk d6
              clear H d6
              go_wp2_with fail
              go_roundg k2
              case measure => omega
              case rel => exact ⟨j + 1, _, _, _, _, _, _, rfl, rfl, ⟨by have := HJ.out; have := D9.out; have := q4.out; unfold wrap64; omega⟩, H', ⟨by have := HK2.out; omega⟩, ⟨by have := HKN.out; have := HN.out; omega⟩, ⟨by have := D6.out; omega⟩, HUG⟩
            | cons kk rr =>
             obtain ⟨k3, rfl⟩ : ∃ k3, gk = k3 + 1 := ⟨gk - 1, by have := HM3.out; have := HU.out.jl; rw [List.length_cons] at this; omega⟩
             obtain ⟨Z, hcs, hZ, hZb, hlt⟩ := HU.out.one
             obtain ⟨pp, hp, hF2⟩ := Option.bind_eq_some_iff.1 HF.out
             obtain ⟨l3, hl3, hF3⟩ := Option.bind_eq_some_iff.1 hF2
             obtain ⟨p3, hp3, hp4⟩ := Option.bind_eq_some_iff.1 hp
             obtain ⟨a2, m2, b⟩ := p3
             obtain rfl := Option.some.inj hp4
             have e3 : ji3.toNat = j3 := by have := HJ3.out; omega
             have hx0 : wl.cell? ⟨g, ji3.toNat * 3, none⟩ = some (.pointer (some ⟨Z, 0, none⟩)) := by rw [e3]; exact hcs 0 _ rfl
             have hx1 : wl.cell? ⟨g, ji3.toNat * 3 + 1, none⟩ = some (.int .u8 kk.at_) := by rw [e3]; exact hcs 1 _ rfl
             have hx2 : wl.cell? ⟨g, ji3.toNat * 3 + 2, none⟩ = some (.int .u16 kk.met) := by rw [e3]; exact hcs 2 _ rfl
             have q5 : (ji3 < (N : Int)) = True := eq_true (by have := HJ3.out; omega)
             have q6 : ((0 : Int) ≤ ji3) = True := eq_true (by have := HJ3.out; omega)
             have d5b : decide (ji3 < (N : Int)) = true := decide_eq_true (by have := HJ3.out; omega)
             have HZ := Aside0.mk hZ
             have HZB := Aside0.mk hZb
             have HP := Aside0.mk hp3
             have HL := Aside0.mk hl3
             have HF3 := Aside0.mk (Option.some.inj hF3)
             clear hcs hZ hZb hp hp3 hp4 hF2 hF3 hl3 HF hlt e3
             have hb1 := below_alloc (Below.refl wl.heap.size wl) (.cells #[.pointer (some ⟨Z, 0, none⟩), .int .u8 kk.at_, .int .u16 kk.met] 81)
             have HGB : Aside0 (WaB (wl.alloc (.cells #[.pointer (some ⟨Z, 0, none⟩), .int .u8 kk.at_, .int .u16 kk.met] 81)) wl.heap.size Z kk.at_ kk.met) := ⟨blk_new _ _⟩
             have HZ1 : Aside0 (SmB (wl.alloc (.cells #[.pointer (some ⟨Z, 0, none⟩), .int .u8 kk.at_, .int .u16 kk.met] 81)) Z kk.n d kk.rs) := ⟨⟨blk_below HZ.out.1 hb1, HZ.out.2⟩⟩
             have HB1 := Aside0.mk hb1
             clear hb1
             cases b with
             | true =>
              have e4 := HF3.out
              rw [if_pos rfl] at e4
              subst e4
              clear HF3
              go_wp2_with (go_at_call 47; refine (goes_calls kk.n d kk.rs kk.at_ kk.met x a2 m2 true wl.heap.size Z _ HZ1.out HGB.out HP.out).mono ?_; rintro e5 w8 ⟨rfl, hG8, hg8⟩; have HB8 := Aside0.mk (below_rowR HB1.out hg8 (fun k hk => by injection hk with hk; omega)); have HU8 := Aside0.mk (HU.out.next HB8.out).drop; clear hG8 hg8)
              go_roundg k3
              case measure => omega
              case rel => exact ⟨j3 + 1, _, kept, rr, l3, cur, rfl, rfl, ⟨by have := HJ3.out; have := HN.out; have := HM3.out; unfold wrap64; omega⟩, ⟨by have := HM3.out; omega⟩, HL, HL3, HU8⟩
             | false =>
              have e4 := HF3.out
              rw [if_neg Bool.false_ne_true] at e4
              subst e4
              clear HF3
              go_wp2_with (first | (go_at_call 47; refine (goes_calls kk.n d kk.rs kk.at_ kk.met x a2 m2 false wl.heap.size Z _ HZ1.out HGB.out HP.out).mono ?_; rintro e5 w8 ⟨rfl, hG8, hg8⟩; have HB8 := Aside0.mk (below_rowR HB1.out hg8 (fun k hk => by injection hk with hk; omega)); have hbx0 : w8.cell? ⟨wl.heap.size, 0, none⟩ = some (.pointer (some ⟨Z, 0, none⟩)) := (blk_cell hG8 0).trans rfl; have hbx1 : w8.cell? ⟨wl.heap.size, 1, none⟩ = some (.int .u8 a2) := (blk_cell hG8 1).trans rfl; have hbx2 : w8.cell? ⟨wl.heap.size, 2, none⟩ = some (.int .u16 m2) := (blk_cell hG8 2).trans rfl;  have hb9 := below_alloc (Below.refl w8.heap.size w8) (.cells #[.pointer (some ⟨Z, 0, none⟩), .int .u8 a2, .int .u16 m2] 81); have HB9 := Aside0.mk ((below_step HB8.out hb9)); obtain ⟨w9, hrun9, cur9, hU9⟩ := (HU.out.next HB9.out).keep (k := ⟨kk.n, kk.rs, a2, m2⟩) ⟨blk_below HZ.out.1 HB9.out, HZ.out.2⟩ HZB.out (blk_new _ _); have HU9 := Aside0.mk hU9; clear hG8 hg8 hU9 hb9)  | ((with_reducible refine gate_builtin (b := .append) (xs := #[.tmp 51, .tmp 53]) rfl ?_); at_builtin; refine Kd.event_run rfl (run_append_op rfl rfl rfl hrun9) ?_))
              go_roundg k3
              case measure => omega
              case rel => exact ⟨j3 + 1, _, kept ++ [⟨kk.n, kk.rs, a2, m2⟩], rr, l3, cur9, by rw [List.length_append]; rfl, rfl, ⟨by have := HJ3.out; have := HN.out; have := HM3.out; unfold wrap64; omega⟩, ⟨by have := HM3.out; omega⟩, HL, ⟨by rw [List.append_assoc]; exact HL3.out⟩, HU9⟩
          ·rw [if_neg d3] at H; cases H
         ·have hd : wy.drop j = [] := List.drop_eq_nil_of_le (by have := HJ.out; omega)
          rw [hd] at H
          simp only [maze_univ.l1] at H
          have H' := Aside0.mk H
          have d2b := decide_eq_false d2
          clear H d2 hd
          go_wp2_with fail
          go_roundg k2
          case measure => have := HK2.out; omega
          case rel => exact ⟨_, _, H', ⟨by have := HK.out; have := HK2.out; omega⟩, ⟨by rw [HG.out.uf.wl.slen]; exact HN.out⟩, ⟨HG.out.uf⟩⟩
      ·have H4 := H3.out
       rw [if_neg d9] at H4
       cases H4
  ·rw [if_neg d1] at h; cases h
 ·rw [if_neg d0] at h
  obtain ⟨rfl, rfl⟩ := Prod.mk.inj (Option.some.inj h)
  have d0b : (e == 0) = false := by simp [d0]
  have d0c : (e != 0) = true := by simp [d0]
  clear h he
  go_enter Try.func26, Try.ntmps26
  go_wp2_with (go_at_call 37; refine (maze_asks.calls _ _ _ _ HE.out).mono ?_; rintro e2 w2 ⟨rfl, hd2⟩; have HB2 := Aside0.mk hd2.below; clear hd2)
  go_ret2
  exact ⟨_, rfl, Kd.R_nil _ _ _ _ _, HB2.out⟩
end Go.Proofs.Ytgbjbgdnldklpaa.Q
end
/-! Part MFoldZ -/
section
namespace Go.Proofs.Ytgbjbgdnldklpaa.Q
open Go.RowKit Go.Proofs.YtgbjbgdnldklpaaW.PrintWords Go.Proofs.YtgbjbgdnldklpaaW.PrintLast Go.Proofs.YtgbjbgdnldklpaaW.PrintMore
set_option linter.unusedVariables false
set_option linter.unusedSectionVars false
/-! ### the word of Universal, as a fold over those who walk -/
theorem Wd.take {m : Nat} {w : List Nat} (h : Wd m w) (i : Nat) : Wd m (w.take i) := fun x hx => h x (List.mem_of_mem_take hx)
def bitsL (l : List Nat) : Nat := l.foldl (fun M t => M ||| 2 ^ t) 0
theorem bitsL_snoc (l : List Nat) (t : Nat) : bitsL (l ++ [t]) = bitsL l ||| 2 ^ t := by
 unfold bitsL; rw [List.foldl_append]; rfl
theorem foldl_bit (t : Nat) : ∀ (l : List Nat) (M : Nat), (l.foldl (fun M t => M ||| 2 ^ t) M).testBit t = true ↔ M.testBit t = true ∨ t ∈ l
 | [], M => by simp
 | a :: l, M => by
  rw [List.foldl_cons, foldl_bit t l, or_bit, List.mem_cons]
  constructor
  ·rintro ((h | h) | h)
   ·exact Or.inl h
   ·exact Or.inr (Or.inl h.symm)
   ·exact Or.inr (Or.inr h)
  ·rintro (h | h | h)
   ·exact Or.inl (Or.inl h)
   ·exact Or.inl (Or.inr h.symm)
   ·exact Or.inr h
theorem bitsL_bit (l : List Nat) (t : Nat) : (bitsL l).testBit t = true ↔ t ∈ l := by
 unfold bitsL
 rw [foldl_bit t l 0, Nat.zero_testBit]
 simp
theorem foldl_lt (n : Nat) : ∀ (l : List Nat) (M : Nat), M < 2 ^ n → (∀ t ∈ l, t < n) → l.foldl (fun M t => M ||| 2 ^ t) M < 2 ^ n
 | [], M, hM, h => hM
 | a :: l, M, hM, h => foldl_lt n l _ (Nat.or_lt_two_pow hM (Nat.pow_lt_pow_right (by decide : 1 < 2) (h a List.mem_cons_self))) fun t ht => h t (List.mem_cons_of_mem _ ht)
theorem bitsL_lt {n : Nat} {l : List Nat} (h : ∀ t ∈ l, t < n) : bitsL l < 2 ^ n := foldl_lt n l 0 (Nat.two_pow_pos n) h
def metS (k : St) (d : Nat) (W : List Nat) : Nat := bitsL (pathS k.x d k.s W)
structure OkSt (d : Nat) (k : St) : Prop where
 en : EnZ k.n d k.x
 n2 : 2 ≤ k.n
 s : k.s < k.n
theorem path_snoc (x : List Int) (d s : Nat) (W : List Nat) (y : Nat) : pathS x d s (W ++ [y]) = pathS x d s W ++ [gs x d (endS x d s W) y] := by
 unfold pathS; rw [stepsS_app]; rfl
theorem metS_snoc (k : St) (d : Nat) (W : List Nat) (y : Nat) : metS k d (W ++ [y]) = metS k d W ||| 2 ^ gs k.x d (endS k.x d k.s W) y := by
 unfold metS; rw [path_snoc, bitsL_snoc]
theorem steps_lt {n d : Nat} {x : List Int} (H : EnZ n d x) : ∀ (W : List Nat) (s : Nat), s < n → Wd d W → ∀ t ∈ stepsS x d s W, t < n
 | [], s, hs, hW => fun t h => nomatch h
 | y :: W, s, hs, hW => fun t h => by
  have hg := H.lt s y hs hW.head
  rcases List.mem_cons.1 h with rfl | h
  ·exact hg
  ·exact steps_lt H W _ hg hW.tail t h
theorem OkSt.path {d : Nat} {k : St} (h : OkSt d k) {W : List Nat} (hW : Wd d W) : ∀ t ∈ pathS k.x d k.s W, t < k.n := fun t ht => by
 rcases List.mem_cons.1 ht with rfl | ht
 ·exact h.s
 ·exact steps_lt h.en W _ h.s hW t ht
theorem OkSt.met_lt {d : Nat} {k : St} (h : OkSt d k) {W : List Nat} (hW : Wd d W) : metS k d W < 2 ^ k.n := bitsL_lt (h.path hW)
theorem OkSt.done_iff {d : Nat} {k : St} (h : OkSt d k) {W : List Nat} (hW : Wd d W) : metS k d W = 2 ^ k.n - 1 ↔ DoneS d W k := by
 rw [full_iff (h.met_lt hW)]
 unfold metS DoneS VisS
 exact ⟨fun g t ht => (bitsL_bit _ t).1 (g t ht), fun g t ht => (bitsL_bit _ t).2 (g t ht)⟩
theorem done_app {d : Nat} {k : St} {V : List Nat} (h : DoneS d V k) (U : List Nat) : DoneS d (V ++ U) k := fun t ht => by
 have := h t ht
 unfold pathS at this ⊢
 rw [stepsS_app, ← List.cons_append]
 exact List.mem_append.2 (Or.inl this)
theorem done_take {d : Nat} {k : St} {W : List Nat} {i j : Nat} (hij : i ≤ j) (h : DoneS d (W.take i) k) : DoneS d (W.take j) k := by
 have e : W.take j = W.take i ++ (W.take j).drop i := by
  have := List.take_append_drop i (W.take j)
  rw [List.take_take, show min i j = i by omega] at this
  exact this.symm
 rw [e]
 exact done_app h _
def advW (d : Nat) (W : List Nat) (k : St) : Wk := ⟨(k.n : Int), k.x, (endS k.x d k.s W : Nat), (metS k d W : Nat)⟩
open Classical in
noncomputable def leftL (d : Nat) (W : List Nat) : List St → List Wk
 | [] => []
 | k :: r => if DoneS d W k then leftL d W r else advW d W k :: leftL d W r
theorem left_done {d : Nat} {W : List Nat} {k : St} (h : DoneS d W k) (r : List St) : leftL d W (k :: r) = leftL d W r := by
 rw [leftL, if_pos h]
theorem left_undone {d : Nat} {W : List Nat} {k : St} (h : ¬ DoneS d W k) (r : List St) : leftL d W (k :: r) = advW d W k :: leftL d W r := by
 rw [leftL, if_neg h]
theorem left_app_done {d : Nat} {W : List Nat} : ∀ (P r : List St), (∀ k ∈ P, DoneS d W k) → leftL d W (P ++ r) = leftL d W r
 | [], r, h => rfl
 | k :: P, r, h => by
  rw [List.cons_append, left_done (h k List.mem_cons_self)]
  exact left_app_done P r fun j hj => h j (List.mem_cons_of_mem _ hj)
theorem left_mem {d : Nat} {W : List Nat} {k : St} (hk : ¬ DoneS d W k) : ∀ L : List St, k ∈ L → (leftL d W L).length ≠ 0
 | [], h => nomatch h
 | j :: L, h => by
  rcases List.mem_cons.1 h with rfl | h
  ·rw [left_undone hk]; simp
  ·by_cases hj : DoneS d W j
   ·rw [left_done hj]; exact left_mem hk L h
   ·rw [left_undone hj]; simp
theorem go_left {d : Nat} {k : St} (h : OkSt d k) {W : List Nat} (hW : Wd d W) {y : Nat} (hy : y < d) : goW (d : Int) (advW d W k) (y : Int) = some (advW d (W ++ [y]) k, decide (metS k d (W ++ [y]) = 2 ^ k.n - 1)) := by
 unfold goW advW
 show (goesF (k.n : Int) (d : Int) k.x ((endS k.x d k.s W : Nat) : Int) ((metS k d W : Nat) : Int) (y : Int)).bind _ = _
 rw [go_walk h.en (h.en.endLt h.s hW) hy (h.met_lt hW), Option.bind_some, ← metS_snoc, endS_app]
 rfl
theorem filter_left {d : Nat} {W : List Nat} (hW : Wd d W) {y : Nat} (hy : y < d) : ∀ L : List St, (∀ k ∈ L, OkSt d k) → filterW (d : Int) (y : Int) (leftL d W L) = some (leftL d (W ++ [y]) L)
 | [], h => rfl
 | k :: r, h => by
  have hk := h k List.mem_cons_self
  have ih := filter_left hW hy r fun j hj => h j (List.mem_cons_of_mem _ hj)
  by_cases hd : DoneS d W k
  ·rw [left_done hd, left_done (done_app hd _)]; exact ih
  ·have hW2 : Wd d (W ++ [y]) := hW.app fun x hx => by rw [List.mem_singleton.1 hx]; exact hy
   rw [left_undone hd]
   unfold filterW
   rw [go_left hk hW hy, Option.bind_some, ih, Option.bind_some]
   by_cases h2 : DoneS d (W ++ [y]) k
   ·rw [left_done h2, decide_eq_true ((hk.done_iff hW2).2 h2)]; rfl
   ·rw [left_undone h2, decide_eq_false fun e => h2 ((hk.done_iff hW2).1 e)]; rfl
/-! ### the leaders' chain -/
structure LdOk (d L : Nat) (W : List Nat) (l : Ld) (nx : Nat) : Prop where
 len : l.len < nx
 nxL : nx ≤ L
 un : ¬ DoneS d (W.take (nx - 1)) (stOf d l)
 dn : DoneS d (W.take nx) (stOf d l)
 way : Ev (fun K => maze_way.f K (d : Int) (stOf d l).x ((endS (stOf d l).x d (stOf d l).s (W.take l.len) : Nat) : Int) ((metS (stOf d l) d (W.take l.len) : Nat) : Int)) (toI ((W.drop l.len).take (nx - l.len)))
def ChOk (d L : Nat) (W : List Nat) : List Ld → Prop
 | [] => True
 | l :: t => (OkSt d (stOf d l) → LdOk d L W l (need L t)) ∧ ChOk d L W t
theorem seg_done {d L : Nat} {W : List Nat} {ks : List St} {ls ls' : List Ld} (h : Seg d L W ks ls ls') : (∀ k ∈ ks, OkSt d k) → ChOk d L W ls → need L ls ≤ L → need L ls ≤ need L ls' ∧ need L ls' ≤ L ∧ ∀ k ∈ ks, DoneS d (W.take (need L ls')) k := by
 induction h with
 | nil ls => exact fun _ _ h => ⟨Nat.le_refl _, h, fun k hk => nomatch hk⟩
 | done hk t ih =>
  intro h1 h2 h3
  obtain ⟨a, b, c⟩ := ih (fun k hk => h1 k (List.mem_cons_of_mem _ hk)) h2 h3
  refine ⟨a, b, fun k hk' => ?_⟩
  rcases List.mem_cons.1 hk' with rfl | hk'
  ·exact done_take a hk
  ·exact c k hk'
 | @lead k ks l ls ls' hk t ih =>
  intro h1 h2 h3
  have hl := h2.1 (hk ▸ h1 k List.mem_cons_self)
  obtain ⟨a, b, c⟩ := ih (fun k hk => h1 k (List.mem_cons_of_mem _ hk)) h2.2 hl.nxL
  refine ⟨Nat.le_trans (Nat.le_of_lt hl.len) a, b, fun k' hk' => ?_⟩
  rcases List.mem_cons.1 hk' with rfl | hk'
  ·rw [hk]; exact done_take a hl.dn
  ·exact c k' hk'
theorem way_ev {d L : Nat} {W : List Nat} (hL : W.length = L) (hL9 : L < 1000000000) (hW : Wd d W) {All : List St} (hA : ∀ k ∈ All, OkSt d k) {k : St} (hk : k ∈ All) {nx : Nat} (hnx : nx ≤ L) (un : ¬ DoneS d (W.take (nx - 1)) k) {R : List Int} (h0 : Ev (fun K => maze_univ.l0 K (d : Int) (toI (W.take nx)) (leftL d (W.take nx) All)) R) :
  ∀ e i, i + e = nx → Ev (fun K => maze_univ.l1 K (d : Int) (toI (W.take i)) (leftL d (W.take i) All) (toI ((W.drop i).take e))) R
 | 0, i, h => by
  obtain rfl : i = nx := by omega
  exact Ev.step (fun K => by rw [List.take_zero]; exact maze_univ.l1.eq_2 _ _ _ _) h0
 | e + 1, i, h => by
  have hi : i < W.length := by omega
  have e1 : (W.drop i).take (e + 1) = W[i] :: (W.drop (i + 1)).take e := by
   rw [List.drop_eq_getElem_cons hi, List.take_succ_cons]
  have e2 : W.take (i + 1) = W.take i ++ [W[i]] := by rw [List.take_succ_eq_append_getElem hi]
  have hy : W[i] < d := hW _ (List.getElem_mem hi)
  have e3 : toI (W[i] :: (W.drop (i + 1)).take e) = (W[i] : Int) :: toI ((W.drop (i + 1)).take e) := rfl
  have e4 : toI (W.take i) ++ [(W[i] : Int)] = toI (W.take (i + 1)) := by rw [e2, toI_snoc]
  have hlen : (toI (W.take i)).length < 1000000000 := by rw [toI_len, List.length_take]; omega
  have hf := filter_left (hW.take i) hy All hA
  rw [← e2] at hf
  by_cases he : e = 0
  ·subst he
   obtain rfl : i + 1 = nx := by omega
   by_cases hz : (leftL d (W.take (i + 1)) All).length = 0
   ·refine Ev.step (fun K => ?_) h0
    rw [e1, e3, maze_univ.l1]
    rw [if_pos hlen, hf, Option.bind_some, if_pos hz, e4]
   ·have ih := way_ev hL hL9 hW hA hk hnx un h0 0 (i + 1) (by omega)
    refine Ev.step (fun K => ?_) ih
    rw [e1, e3, maze_univ.l1]
    rw [if_pos hlen, hf, Option.bind_some, if_neg hz, e4]
  ·have ih := way_ev hL hL9 hW hA hk hnx un h0 e (i + 1) (by omega)
   have hz : (leftL d (W.take (i + 1)) All).length ≠ 0 := left_mem (fun hh => un (done_take (by omega) hh)) All hk
   refine Ev.step (fun K => ?_) ih
   rw [e1, e3, maze_univ.l1]
   rw [if_pos hlen, hf, Option.bind_some, if_neg hz, e4]
theorem fold_ev {d L : Nat} {W : List Nat} (hL : W.length = L) (hL9 : L < 1000000000) (hW : Wd d W) {ks : List St} {ls ls' : List Ld} (h : Seg d L W ks ls ls') : ∀ P : List St, (∀ k ∈ P, DoneS d (W.take (need L ls)) k) → (∀ k ∈ P ++ ks, OkSt d k) → ChOk d L W ls → need L ls ≤ L →
  Ev (fun K => maze_univ.l0 K (d : Int) (toI (W.take (need L ls))) (leftL d (W.take (need L ls)) (P ++ ks))) (toI (W.take (need L ls'))) := by
 induction h with
 | nil ls =>
  intro P hP hA hc hn
  refine Ev.step (f := fun _ => some (toI (W.take (need L ls)))) (fun K => ?_) (Ev.now _)
  rw [left_app_done P [] hP]
  rfl
 | @done k ks ls ls' hk t ih =>
  intro P hP hA hc hn
  have := ih (P ++ [k]) (fun j hj => (List.mem_append.1 hj).elim (hP j) fun hj => by rw [List.mem_singleton.1 hj]; exact hk) (fun j hj => hA j (by rw [List.append_assoc] at hj; exact hj)) hc hn
  rw [List.append_assoc] at this
  exact this
 | @lead k ks l ls ls' hk t ih =>
  intro P hP hA hc hn
  have hko := hA k (List.mem_append.2 (Or.inr List.mem_cons_self))
  have hl := hc.1 (hk ▸ hko)
  have hun : ¬ DoneS d (W.take l.len) k := fun hh => hl.un (hk ▸ done_take (by have := hl.len; omega) hh)
  have h0 := ih (P ++ [k]) (fun j hj => (List.mem_append.1 hj).elim (fun hj => done_take (Nat.le_of_lt hl.len) (hP j hj)) fun hj => by rw [List.mem_singleton.1 hj, hk]; exact hl.dn) (fun j hj => hA j (by rw [List.append_assoc] at hj; exact hj)) hc.2 hl.nxL
  rw [List.append_assoc] at h0
  have h1 := way_ev hL hL9 hW hA (List.mem_append.2 (Or.inr List.mem_cons_self) : k ∈ P ++ k :: ks) hl.nxL (hk ▸ hl.un) h0 (need L ls - l.len) l.len (by have := hl.len; omega)
  have hP2 : ∀ k ∈ P, DoneS d (W.take l.len) k := hP
  have e0 : leftL d (W.take l.len) (P ++ k :: ks) = advW d (W.take l.len) k :: leftL d (W.take l.len) ks := by
   rw [left_app_done P _ hP2, left_undone hun]
  have hw := hl.way
  rw [← hk] at hw
  have hwl : (toI ((W.drop l.len).take (need L ls - l.len))).length < 1000000000 := by rw [toI_len, List.length_take, List.length_drop]; omega
  show Ev (fun K => maze_univ.l0 K (d : Int) (toI (W.take l.len)) (leftL d (W.take l.len) (P ++ k :: ks))) _
  rw [e0] at h1 ⊢
  refine Ev.step (f := fun K => (maze_way.f K (d : Int) k.x ((endS k.x d k.s (W.take l.len) : Nat) : Int) ((metS k d (W.take l.len) : Nat) : Int)).bind fun wy => if wy.length < 1000000000 then maze_univ.l1 K (d : Int) (toI (W.take l.len)) (advW d (W.take l.len) k :: leftL d (W.take l.len) ks) wy else none) (fun K => ?_) (Ev.bind hw ?_)
  ·rw [maze_univ.l0]; rfl
  ·simp only [if_pos hwl]
   exact h1
/-! ### the walkers -/
theorem set_one {t : Nat} (ht : t < 16) : setU (t : Int) = ((2 ^ t : Nat) : Int) := one_set ht
theorem adv_start {n d s : Nat} {x : List Int} (hs : s < 16) : (⟨(n : Int), x, (s : Int), setU (s : Int)⟩ : Wk) = advW d [] ⟨n, x, s⟩ := by
 unfold advW metS
 rw [set_one hs]
 show _ = Wk.mk _ _ _ (((0 ||| 2 ^ s : Nat)) : Int)
 rw [Nat.zero_or]
 rfl
theorem starts_adv {n d : Nat} {x : List Int} : ∀ m, m ≤ 16 → startsW (n : Int) x m = ((List.range m).map fun s => (⟨n, x, s⟩ : St)).map (advW d []) := fun m hm => by
 unfold startsW
 rw [List.map_map]
 refine List.map_congr_left fun s hs => ?_
 exact adv_start (by have := List.mem_range.1 hs; omega)
theorem undone_nil {d : Nat} {k : St} (h : OkSt d k) : ¬ DoneS d [] k := fun hd => by
 have h2 := h.n2
 have h0 := List.mem_singleton.1 (hd 0 (by omega))
 have h1 := List.mem_singleton.1 (hd 1 (by omega))
 omega
theorem left_nil {d : Nat} : ∀ L : List St, (∀ k ∈ L, OkSt d k) → leftL d [] L = L.map (advW d [])
 | [], h => rfl
 | k :: L, h => by
  rw [left_undone (undone_nil (h k List.mem_cons_self)), List.map_cons, left_nil L fun j hj => h j (List.mem_cons_of_mem _ hj)]
theorem sts_len (n d : Nat) (τ : Pg) : (stsOf n d τ).length ≤ n := by
 unfold stsOf
 split
 ·simp
 ·simp
theorem add_ev {n d : Nat} (hn : 2 ≤ n) (h12 : n ≤ 12) : ∀ (T : List Pg) (out : List Wk), (∀ τ ∈ T, EnZ n d (roomsP d τ)) → out.length + T.length * 12 < 1000000000000 →
  Ev (fun k => addW k (n : Int) (d : Int) (T.map (roomsP d)) out) (out ++ (T.flatMap (stsOf n d)).map (advW d []))
 | [], out, h, hl => Ev.eq (Ev.now _) (by simp)
 | τ :: T, out, h, hl => by
  obtain ⟨b, h1, h2⟩ := small_conn (h τ List.mem_cons_self) (by omega)
  have hl2 : (τ :: T).length = T.length + 1 := rfl
  have e0 : (List.flatMap (stsOf n d) (τ :: T)).map (advW d []) = (stsOf n d τ).map (advW d []) ++ (T.flatMap (stsOf n d)).map (advW d []) := by rw [List.flatMap_cons, List.map_append]
  have hb : (if b = true then out ++ startsW (n : Int) (roomsP d τ) ((n : Int) % 256).toNat else out) = out ++ (stsOf n d τ).map (advW d []) := by
   rw [show ((n : Int) % 256).toNat = n by omega, starts_adv (d := d) n (by omega)]
   unfold stsOf
   by_cases hc : b = true
   ·rw [if_pos hc, if_pos (h2.1 hc)]
   ·rw [if_neg hc, if_neg fun hh => hc (h2.2 hh), List.map_nil, List.append_nil]
  have hsl := sts_len n d τ
  have ih := add_ev hn h12 T (out ++ (stsOf n d τ).map (advW d [])) (fun σ hσ => h σ (List.mem_cons_of_mem _ hσ)) (by rw [List.length_append, List.length_map]; omega)
  rw [List.append_assoc, ← e0] at ih
  show Ev (fun k => (small_connected.f k (n : Int) (d : Int) (roomsP d τ)).bind fun b => if out.length < 1000000000000 then addW k (n : Int) (d : Int) (T.map (roomsP d)) (if b = true then out ++ startsW (n : Int) (roomsP d τ) ((n : Int) % 256).toNat else out) else none) _
  refine Ev.bind h1 ?_
  simp only [if_pos (show out.length < 1000000000000 by omega), hb]
  exact ih
def facU : Nat → Nat
 | 0 => 1
 | e + 1 => (e + 1) * facU e
theorem flat_leU {α β : Type} {f : α → List β} {m : Nat} : ∀ l : List α, (∀ a ∈ l, (f a).length ≤ m) → (l.flatMap f).length ≤ l.length * m
 | [], h => by simp
 | a :: l, h => by
  rw [List.flatMap_cons, List.length_append, List.length_cons, Nat.add_mul, Nat.one_mul]
  have h1 := h a List.mem_cons_self
  have h2 := flat_leU l fun b hb => h b (List.mem_cons_of_mem _ hb)
  omega
theorem enum_lenU : ∀ (e p : Nat) (σ : Pg), (enumE e σ p).length ≤ facU e
 | 0, p, σ => by simp [enumE, facU]
 | e + 1, p, σ => by
  rw [enumE]
  split
  ·exact Nat.le_trans (enum_lenU e _ _) (Nat.le_mul_of_pos_left _ (Nat.succ_pos e))
  ·refine Nat.le_trans (flat_leU (m := facU e) _ fun j hj => ?_) (by rw [List.length_range]; exact Nat.le_refl _)
   split
   ·exact Nat.zero_le _
   ·exact enum_lenU e _ _
theorem facU_mono {a b : Nat} (h : a ≤ b) : facU a ≤ facU b := by
 induction h with
 | refl => exact Nat.le_refl _
 | @step m h ih => exact Nat.le_trans ih (Nat.le_mul_of_pos_left _ (Nat.succ_pos m))
theorem fac12 : facU 12 = 479001600 := by decide
theorem KsOk {n d : Nat} (hd : 1 ≤ d) (hN : n * d ≤ 12) : ∀ k ∈ Ks n d, OkSt d k ∧ k.n ≤ n := fun k hk => by
 unfold Ks at hk
 obtain ⟨t, ht, hk⟩ := List.mem_flatMap.1 hk
 obtain ⟨τ, hτ, hk⟩ := List.mem_flatMap.1 hk
 have ht' := List.mem_range'_1.1 ht
 have hN2 : t * d ≤ 12 := Nat.le_trans (Nat.mul_le_mul_right d (by omega)) hN
 unfold stsOf at hk
 split at hk
 ·obtain ⟨s, hs, rfl⟩ := List.mem_map.1 hk
  exact ⟨⟨en_of hd hN2 (enum_tot _ 0 noneP (by omega) (part_none _) (fun i hi => by omega) τ hτ), ht'.1, List.mem_range.1 hs⟩, by show t ≤ n; omega⟩
 ·cases hk
theorem walkers_ev {n d : Nat} (hn : 1 ≤ n) (hd : 1 ≤ d) (hN : n * d ≤ 12) : Ev (fun k => maze_walkers.f k (n : Int) (d : Int)) (leftL d [] (Ks n d)) := by
 have h12 : n ≤ 12 := Nat.le_trans (Nat.le_mul_of_pos_right n hd) hN
 rw [left_nil _ fun k hk => (KsOk hd hN k hk).1]
 have key : ∀ (e t : Nat) (A : List St), t + e = n + 1 → 2 ≤ t → A.length ≤ (t - 2) * (479001600 * 12) → Ev (fun k => maze_walkers.l0 k (n : Int) (d : Int) (t : Int) (A.map (advW d []))) ((A ++ (List.range' t e).flatMap fun t => (enumE (t * d) noneP 0).flatMap (stsOf t d)).map (advW d [])) := by
  intro e
  induction e with
  | zero =>
   intro t A ht h2 hA
   refine Ev.step (f := fun _ => some (A.map (advW d []))) (fun k => by rw [maze_walkers.l0, if_neg (by omega)]) (Ev.eq (Ev.now _) (by simp))
  | succ e ih =>
   intro t A ht h2 hA
   have hN2 : t * d ≤ 12 := Nat.le_trans (Nat.mul_le_mul_right d (by omega)) hN
   have hlen : (enumE (t * d) noneP 0).length ≤ 479001600 := Nat.le_trans (enum_lenU _ _ _) (Nat.le_trans (facU_mono hN2) (Nat.le_of_eq fac12))
   have h1 := add_ev h2 (by omega) (enumE (t * d) noneP 0) (A.map (advW d [])) (fun τ hτ => en_of hd hN2 (enum_tot _ 0 noneP (by omega) (part_none _) (fun i hi => by omega) τ hτ)) (by
    rw [List.length_map]
    have : (t - 2) * (479001600 * 12) ≤ 10 * (479001600 * 12) := Nat.mul_le_mul_right _ (by omega)
    omega)
   rw [← List.map_append] at h1
   have h3 := ih (t + 1) (A ++ (enumE (t * d) noneP 0).flatMap (stsOf t d)) (by omega) (by omega) (by
    have h5 := flat_leU (f := stsOf t d) (m := 12) (enumE (t * d) noneP 0) fun τ _ => Nat.le_trans (sts_len t d τ) (by omega)
    have h6 : (enumE (t * d) noneP 0).length * 12 ≤ 479001600 * 12 := Nat.mul_le_mul_right 12 hlen
    have h7 : (t + 1 - 2) * (479001600 * 12) = (t - 2) * (479001600 * 12) + 479001600 * 12 := by
     rw [show t + 1 - 2 = (t - 2) + 1 by omega, Nat.add_mul, Nat.one_mul]
    rw [List.length_append]
    omega)
   rw [List.append_assoc] at h3
   refine Ev.step (f := fun k => (maze_all.f k (t : Int) (d : Int)).bind fun L => (addW k (t : Int) (d : Int) L (A.map (advW d []))).bind fun out2 => maze_walkers.l0 k (n : Int) (d : Int) ((t + 1 : Nat) : Int) out2) (fun k => by rw [maze_walkers.l0, if_pos (by omega), wrapS (by omega)]) (Ev.bind (all_ev hd hN2) (Ev.bind h1 ?_))
   rw [List.range'_succ, List.flatMap_cons]
   exact h3
 have h := key (n - 1) 2 [] (by omega) (Nat.le_refl 2) (by simp)
 unfold maze_walkers.f
 exact h
/-! ### what the certificate gives -/
theorem Seg.split {d L : Nat} {W : List Nat} : ∀ {A B : List St} {ls l2 : List Ld}, Seg d L W (A ++ B) ls l2 → ∃ l1, Seg d L W A ls l1
 | [], B, ls, l2, h => ⟨ls, .nil ls⟩
 | k :: A, B, ls, l2, h => by
  cases h with
  | done hk t =>
   obtain ⟨l1, h1⟩ := Seg.split t
   exact ⟨l1, .done hk h1⟩
  | lead hk t =>
   obtain ⟨l1, h1⟩ := Seg.split t
   exact ⟨l1, .lead hk h1⟩
theorem Ks_split {n N : Nat} (d : Nat) (hn : 1 ≤ n) (h : n ≤ N) : ∃ B, Ks N d = Ks n d ++ B := by
 unfold Ks
 refine ⟨(List.range' (2 + (n - 1)) (N - n)).flatMap fun t => (enumE (t * d) noneP 0).flatMap (stsOf t d), ?_⟩
 rw [← List.flatMap_append]
 congr 1
 have := List.range'_append (s := 2) (m := n - 1) (n := N - n) (step := 1)
 rw [Nat.one_mul] at this
 rw [this]
 congr 1
 omega
theorem univ_of {N d : Nat} (hd : 1 ≤ d) (h6 : d ≤ 6) (hN : N * d ≤ 12) {W : List Nat} {ls : List Ld} (hW : Wd d W) (hL9 : W.length < 1000000000) (hS : Seg d W.length W (Ks N d) ls []) (hc : ChOk d W.length W ls) (h0 : need W.length ls = 0) {n : Nat} (hn : 1 ≤ n) (hnN : n ≤ N) :
  ∃ w, Wd d w ∧ w.length ≤ W.length ∧ UniS n d w ∧ Ev (fun K => maze_Universal.f K (n : Int) (d : Int)) (toI w, 0) := by
 have hN2 : n * d ≤ 12 := Nat.le_trans (Nat.mul_le_mul_right d hnN) hN
 obtain ⟨B, hB⟩ := Ks_split d hn hnN
 rw [hB] at hS
 obtain ⟨l1, hS⟩ := hS.split
 have hok := fun k hk => (KsOk hd hN2 k hk).1
 obtain ⟨a, b, c⟩ := seg_done hS hok hc (by omega)
 refine ⟨W.take (need W.length l1), hW.take _, by rw [List.length_take]; omega, ?_, ?_⟩
 ·intro t h1 h2 x hx hC s hs
  obtain ⟨τ, hτ, rfl⟩ := List.mem_map.1 hx
  have hk : (⟨t, roomsP d τ, s⟩ : St) ∈ Ks n d := by
   unfold Ks
   refine List.mem_flatMap.2 ⟨t, List.mem_range'_1.2 ⟨h1, by omega⟩, List.mem_flatMap.2 ⟨τ, hτ, ?_⟩⟩
   unfold stsOf
   rw [if_pos hC]
   exact List.mem_map.2 ⟨s, List.mem_range.2 hs, rfl⟩
  exact c _ hk
 ·have hf := fold_ev (d := d) (L := W.length) (W := W) rfl hL9 hW hS [] (fun k hk => nomatch hk) hok hc (by omega)
  rw [h0] at hf
  have hw := walkers_ev hn hd hN2
  unfold maze_Universal.f
  rw [asks_ok hn hd h6 hN2]
  simp only [Option.bind_some, if_true]
  refine Ev.bind hw ?_
  have hl : (leftL d [] (Ks n d)).length < 1000000000000 := by
   rw [left_nil _ hok, List.length_map]
   have h12 : n ≤ 12 := Nat.le_trans (Nat.le_mul_of_pos_right n hd) hN2
   have h7 : (Ks n d).length ≤ (List.range' 2 (n - 1)).length * (479001600 * 12) := by
    unfold Ks
    refine flat_leU _ fun t ht => ?_
    have ht := List.mem_range'_1.1 ht
    have hN3 : t * d ≤ 12 := Nat.le_trans (Nat.mul_le_mul_right d (by omega)) hN2
    refine Nat.le_trans (flat_leU (m := 12) _ fun τ _ => Nat.le_trans (sts_len t d τ) (by omega)) ?_
    exact Nat.mul_le_mul_right 12 (Nat.le_trans (enum_lenU _ _ _) (Nat.le_trans (facU_mono hN3) (Nat.le_of_eq fac12)))
   rw [List.length_range'] at h7
   have h8 : (n - 1) * (479001600 * 12) ≤ 11 * (479001600 * 12) := Nat.mul_le_mul_right _ (by omega)
   omega
  simp only [if_pos hl]
  exact Ev.bind hf (Ev.now _)
/-! ### what the kernel looks at -/
def ldB (d : Nat) (W : List Nat) (L : Nat) (l : Ld) (nx : Nat) : Bool :=
 Nat.ble (l.len + 1) nx && (Nat.ble nx L && (!Nat.beq (metS (stOf d l) d (W.take (nx - 1))) (2 ^ l.n - 1) && (Nat.beq (metS (stOf d l) d (W.take nx)) (2 ^ l.n - 1) &&
  decide (maze_way.f 100 (d : Int) (xOf d l.pk) ((endS (xOf d l.pk) d l.s (W.take l.len) : Nat) : Int) ((metS (stOf d l) d (W.take l.len) : Nat) : Int) = some (toI ((W.drop l.len).take (nx - l.len)))))))
def chB (d : Nat) (W : List Nat) (L : Nat) : List Ld → Bool
 | [] => true
 | l :: t => ldB d W L l (need L t) && chB d W L t
def goodB (d : Nat) : List Ld → Bool
 | [] => true
 | l :: t => (Nat.ble 1 l.n && decide (small_connected.f 300 (l.n : Int) (d : Int) (xOf d l.pk) = some true)) && goodB d t
theorem ch_ok {d L : Nat} {W : List Nat} (hW : Wd d W) : ∀ ls : List Ld, chB d W L ls = true → ChOk d L W ls
 | [], h => trivial
 | l :: t, h => by
  unfold chB at h
  rw [Bool.and_eq_true] at h
  refine ⟨fun ho => ?_, ch_ok hW t h.2⟩
  have h := h.1
  unfold ldB at h
  simp only [Bool.and_eq_true, Bool.not_eq_true', decide_eq_true_iff] at h
  obtain ⟨h1, h2, h3, h4, h5⟩ := h
  have un : ¬ DoneS d (W.take (need L t - 1)) (stOf d l) := fun hh => by
   have e : metS (stOf d l) d (W.take (need L t - 1)) = 2 ^ l.n - 1 := (ho.done_iff (hW.take _)).2 hh
   rw [e, Nat.beq_refl] at h3
   cases h3
  have key : ∀ (e : Nat), maze_way.f (100 + e) (d : Int) (xOf d l.pk) ((endS (xOf d l.pk) d l.s (W.take l.len) : Nat) : Int) ((metS (stOf d l) d (W.take l.len) : Nat) : Int) = some (toI ((W.drop l.len).take (need L t - l.len))) := by
   intro e
   induction e with
   | zero => exact h5
   | succ e ih => exact maze_way.mono _ _ _ _ _ _ ih
  refine ⟨Nat.le_of_ble_eq_true h1, Nat.le_of_ble_eq_true h2, un, (ho.done_iff (hW.take _)).1 (Nat.eq_of_beq_eq_true h4), ⟨100, fun K hK => ?_⟩⟩
  have := key (K - 100)
  rw [show 100 + (K - 100) = K by omega] at this
  exact this
theorem good_ok {d : Nat} : ∀ ls : List Ld, goodB d ls = true → ∀ l ∈ ls, Good d l
 | [], h => fun l hl => nomatch hl
 | l :: t, h => fun k hk => by
  unfold goodB at h
  rw [Bool.and_eq_true, Bool.and_eq_true] at h
  rcases List.mem_cons.1 hk with rfl | hk
  ·intro he
   obtain ⟨b, h1, h2⟩ := small_conn he (Nat.le_of_ble_eq_true h.1.1)
   have h3 : ∀ K, 300 ≤ K → small_connected.f K (k.n : Int) (d : Int) (xOf d k.pk) = some true := fun K hK => by
    have key : ∀ (e : Nat), small_connected.f (300 + e) (k.n : Int) (d : Int) (xOf d k.pk) = some true := by
     intro e
     induction e with
     | zero => exact of_decide_eq_true h.1.2
     | succ e ih => exact small_connected.mono _ _ _ _ _ ih
    have := key (K - 300)
    rw [show 300 + (K - 300) = K by omega] at this
    exact this
   obtain ⟨K1, g1⟩ := h1
   have e1 := g1 (K1 + 300) (by omega)
   have e2 := h3 (K1 + 300) (by omega)
   have e3 : some b = some true := by rw [← e1, ← e2]
   exact h2.1 (Option.some.inj e3)
  ·exact good_ok t h.2 k hk
end Go.Proofs.Ytgbjbgdnldklpaa.Q
end
/-! Part MCertT -/
section
namespace Go.Proofs.Ytgbjbgdnldklpaa.Q
open Go.RowKit
set_option linter.unusedVariables false
set_option maxRecDepth 100000
/-! ### the words, and those who lead -/
noncomputable def allObT (d : Nat) (W : List Nat) (l : List Ob) : Bool := @List.rec Ob (fun _ => Bool) true (fun o _ ih => @Bool.rec (fun _ => Bool) false ih (okR d W o)) l
theorem allOb_iffT {d : Nat} {W : List Nat} : ∀ {l : List Ob}, allObT d W l = true → ∀ o ∈ l, okR d W o = true
 | [], h => fun o ho => nomatch ho
 | a :: l, h => fun o ho => by
  cases ha : okR d W a with
  | false =>
   have : (@Bool.rec (fun _ => Bool) false (allObT d W l) (okR d W a)) = true := h
   rw [ha] at this
   cases this
  | true =>
   have : (@Bool.rec (fun _ => Bool) false (allObT d W l) (okR d W a)) = true := h
   rw [ha] at this
   rcases List.mem_cons.1 ho with rfl | ho
   ·exact ha
   ·exact allOb_iffT this o ho
def obET (a b : Ob) : Bool := Nat.beq a.n b.n && (Nat.beq a.pk b.pk && (Nat.beq a.asg b.asg && (Nat.beq a.len b.len && Nat.beq a.s b.s)))
def obsET : List Ob → List Ob → Bool
 | [], [] => true
 | a :: l, b :: m => obET a b && obsET l m
 | _, _ => false
theorem obE_eqT {a b : Ob} (h : obET a b = true) : a = b := by
 unfold obET at h
 simp only [Bool.and_eq_true] at h
 obtain ⟨h1, h2, h3, h4, h5⟩ := h
 have g1 := Nat.eq_of_beq_eq_true h1
 have g2 := Nat.eq_of_beq_eq_true h2
 have g3 := Nat.eq_of_beq_eq_true h3
 have g4 := Nat.eq_of_beq_eq_true h4
 have g5 := Nat.eq_of_beq_eq_true h5
 cases a; cases b
 simp only [] at g1 g2 g3 g4 g5
 subst g1 g2 g3 g4 g5
 rfl
theorem obsE_eqT : ∀ {l m : List Ob}, obsET l m = true → l = m
 | [], [], h => rfl
 | a :: l, b :: m, h => by
  unfold obsET at h
  rw [Bool.and_eq_true] at h
  rw [obE_eqT h.1, obsE_eqT h.2]
 | [], b :: m, h => by cases h
 | a :: l, [], h => by cases h
noncomputable def topBT (L d : Nat) (sizes : List Nat) (ls : List Ld) (obs : List Ob) : Bool := (topK L d sizes ls).1.isEmpty && obsET (topK L d sizes ls).2 obs
theorem topB_eqT {L d : Nat} {sizes : List Nat} {ls : List Ld} {obs : List Ob} (h : topBT L d sizes ls obs = true) : topK L d sizes ls = ([], obs) := by
 unfold topBT at h
 rw [Bool.and_eq_true] at h
 exact Prod.ext (List.isEmpty_iff.1 h.1) (obsE_eqT h.2)
def tW1 : List Nat := [0]
def tL1 : List Ld := [⟨2, 1, 0, 0⟩]
def tO1_0 : List Ob := [⟨4, 0, 0, 1, 0⟩, ⟨4, 0, 0, 1, 1⟩, ⟨4, 0, 0, 1, 2⟩, ⟨4, 0, 0, 1, 3⟩, ⟨3, 0, 0, 1, 0⟩, ⟨3, 0, 0, 1, 1⟩, ⟨3, 0, 0, 1, 2⟩, ⟨2, 1, 3, 1, 1⟩, ⟨2, 0, 1, 0, 0⟩, ⟨2, 0, 1, 0, 1⟩]
def tO1 : List Ob := tO1_0
theorem tT1 : topBT 1 1 (List.range' 2 3) tL1 tO1 = true := by kernel_rfl
theorem tC1 : chB 1 tW1 1 tL1 = true := by kernel_rfl
theorem tG1 : goodB 1 tL1 = true := by kernel_rfl
theorem tD1 : Wd 1 tW1 := by unfold Wd tW1; decide
def tW2 : List Nat := [1, 0, 1, 1, 0, 0, 1, 0, 1, 1, 1, 0, 0, 0]
def tL2 : List Ld := [⟨2, 12576, 0, 0⟩, ⟨2, 12576, 1, 1⟩, ⟨3, 5456160, 0, 2⟩, ⟨3, 5456160, 1, 4⟩, ⟨3, 3428640, 1, 6⟩, ⟨4, 1969439008, 0, 8⟩, ⟨4, 1969439008, 1, 11⟩]
def tO2_0 : List Ob := [⟨4, 7, 129, 14, 0⟩, ⟨4, 7, 129, 14, 1⟩, ⟨4, 7, 129, 14, 2⟩, ⟨4, 7, 129, 14, 3⟩, ⟨4, 6, 65, 14, 0⟩, ⟨4, 6, 65, 14, 1⟩, ⟨4, 6, 65, 14, 2⟩, ⟨4, 6, 65, 14, 3⟩, ⟨4, 5, 33, 14, 0⟩, ⟨4, 5, 33, 14, 1⟩, ⟨4, 5, 33, 14, 2⟩, ⟨4, 5, 33, 14, 3⟩, ⟨4, 4, 17, 14, 0⟩, ⟨4, 4, 17, 14, 1⟩, ⟨4, 4, 17, 14, 2⟩, ⟨4, 4, 17, 14, 3⟩, ⟨4, 3, 9, 14, 0⟩, ⟨4, 3, 9, 14, 1⟩, ⟨4, 3, 9, 14, 2⟩, ⟨4, 3, 9, 14, 3⟩, ⟨4, 2, 5, 14, 0⟩, ⟨4, 2, 5, 14, 1⟩, ⟨4, 2, 5, 14, 2⟩, ⟨4, 2, 5, 14, 3⟩, ⟨4, 1, 3, 14, 0⟩, ⟨4, 1, 3, 14, 1⟩, ⟨4, 1, 3, 14, 2⟩, ⟨4, 1, 3, 14, 3⟩, ⟨4, 268435568, 131, 14, 0⟩, ⟨4, 268435568, 131, 14, 1⟩, ⟨4, 268435568, 131, 14, 2⟩, ⟨4, 268435568, 131, 14, 3⟩, ⟨4, 16777312, 67, 14, 0⟩, ⟨4, 16777312, 67, 14, 1⟩, ⟨4, 16777312, 67, 14, 2⟩, ⟨4, 16777312, 67, 14, 3⟩, ⟨4, 1048656, 35, 14, 0⟩, ⟨4, 1048656, 35, 14, 1⟩, ⟨4, 1048656, 35, 14, 2⟩, ⟨4, 1048656, 35, 14, 3⟩, ⟨4, 65600, 19, 14, 0⟩, ⟨4, 65600, 19, 14, 1⟩, ⟨4, 65600, 19, 14, 2⟩, ⟨4, 65600, 19, 14, 3⟩, ⟨4, 4144, 11, 14, 0⟩, ⟨4, 4144, 11, 14, 1⟩, ⟨4, 4144, 11, 14, 2⟩, ⟨4, 4144, 11, 14, 3⟩, ⟨4, 805335328, 143, 14, 0⟩, ⟨4, 805335328, 143, 14, 1⟩, ⟨4, 805335328, 143, 14, 2⟩, ⟨4, 805335328, 143, 14, 3⟩, ⟨4, 50356512, 79, 14, 0⟩, ⟨4, 50356512, 79, 14, 1⟩, ⟨4, 50356512, 79, 14, 2⟩, ⟨4, 50356512, 79, 14, 3⟩, ⟨4, 3166496, 47, 14, 0⟩, ⟨4, 3166496, 47, 14, 1⟩, ⟨4, 3166496, 47, 14, 2⟩, ⟨4, 3166496, 47, 14, 3⟩, ⟨4, 1349730592, 191, 14, 0⟩, ⟨4, 1349730592, 191, 14, 1⟩, ⟨4, 1349730592, 191, 14, 2⟩, ⟨4, 1349730592, 191, 14, 3⟩, ⟨4, 1969439008, 255, 14, 3⟩, ⟨4, 1969439008, 255, 14, 2⟩, ⟨4, 5456160, 63, 8, 0⟩, ⟨4, 5456160, 63, 8, 1⟩, ⟨4, 5456160, 63, 8, 2⟩, ⟨4, 5456160, 63, 8, 3⟩, ⟨4, 12576, 15, 8, 0⟩, ⟨4, 12576, 15, 8, 1⟩, ⟨4, 12576, 15, 8, 2⟩, ⟨4, 12576, 15, 8, 3⟩, ⟨4, 16, 3, 8, 0⟩, ⟨4, 16, 3, 8, 1⟩, ⟨4, 16, 3, 8, 2⟩, ⟨4, 16, 3, 8, 3⟩, ⟨3, 5, 33, 8, 0⟩, ⟨3, 5, 33, 8, 1⟩, ⟨3, 5, 33, 8, 2⟩, ⟨3, 4, 17, 8, 0⟩, ⟨3, 4, 17, 8, 1⟩, ⟨3, 4, 17, 8, 2⟩, ⟨3, 3, 9, 8, 0⟩, ⟨3, 3, 9, 8, 1⟩, ⟨3, 3, 9, 8, 2⟩, ⟨3, 2, 5, 8, 0⟩, ⟨3, 2, 5, 8, 1⟩, ⟨3, 2, 5, 8, 2⟩, ⟨3, 1, 3, 8, 0⟩, ⟨3, 1, 3, 8, 1⟩, ⟨3, 1, 3, 8, 2⟩, ⟨3, 1048656, 35, 8, 0⟩, ⟨3, 1048656, 35, 8, 1⟩, ⟨3, 1048656, 35, 8, 2⟩, ⟨3, 65600, 19, 8, 0⟩, ⟨3, 65600, 19, 8, 1⟩, ⟨3, 65600, 19, 8, 2⟩, ⟨3, 4144, 11, 8, 0⟩, ⟨3, 4144, 11, 8, 1⟩, ⟨3, 4144, 11, 8, 2⟩, ⟨3, 3428640, 63, 8, 2⟩, ⟨3, 3428640, 63, 6, 0⟩, ⟨3, 5456160, 63, 6, 2⟩, ⟨3, 12576, 15, 2, 0⟩, ⟨3, 12576, 15, 2, 1⟩, ⟨3, 12576, 15, 2, 2⟩, ⟨3, 16, 3, 2, 0⟩, ⟨3, 16, 3, 2, 1⟩, ⟨3, 16, 3, 2, 2⟩, ⟨2, 3, 9, 2, 0⟩, ⟨2, 3, 9, 2, 1⟩, ⟨2, 2, 5, 2, 0⟩, ⟨2, 2, 5, 2, 1⟩, ⟨2, 1, 3, 2, 0⟩, ⟨2, 1, 3, 2, 1⟩, ⟨2, 4144, 11, 2, 0⟩, ⟨2, 4144, 11, 2, 1⟩, ⟨2, 16, 3, 0, 0⟩, ⟨2, 16, 3, 0, 1⟩]
def tO2 : List Ob := tO2_0
theorem tT2 : topBT 14 2 (List.range' 2 3) tL2 tO2 = true := by kernel_rfl
theorem tC2 : chB 2 tW2 14 tL2 = true := by kernel_rfl
theorem tG2 : goodB 2 tL2 = true := by kernel_rfl
theorem tD2 : Wd 2 tW2 := by unfold Wd tW2; decide
def tW3 : List Nat := [2, 0, 1, 2, 2, 0, 0, 1, 0, 2, 0, 2, 1, 1, 2, 1, 0, 1]
def tL3 : List Ld := [⟨2, 5514000, 0, 0⟩, ⟨2, 5514000, 1, 1⟩, ⟨2, 5387280, 1, 2⟩, ⟨3, 36329235216, 0, 3⟩, ⟨3, 36329235216, 1, 5⟩, ⟨3, 35810190096, 1, 7⟩, ⟨3, 23463207696, 1, 9⟩, ⟨3, 36311540496, 0, 11⟩, ⟨3, 35810063376, 1, 13⟩, ⟨3, 23463080976, 1, 14⟩, ⟨3, 36294517776, 1, 16⟩]
def tO3_0 : List Ob := [⟨3, 8, 257, 18, 0⟩, ⟨3, 8, 257, 18, 1⟩, ⟨3, 8, 257, 18, 2⟩, ⟨3, 7, 129, 18, 0⟩, ⟨3, 7, 129, 18, 1⟩, ⟨3, 7, 129, 18, 2⟩, ⟨3, 6, 65, 18, 0⟩, ⟨3, 6, 65, 18, 1⟩, ⟨3, 6, 65, 18, 2⟩, ⟨3, 5, 33, 18, 0⟩, ⟨3, 5, 33, 18, 1⟩, ⟨3, 5, 33, 18, 2⟩, ⟨3, 4, 17, 18, 0⟩, ⟨3, 4, 17, 18, 1⟩, ⟨3, 4, 17, 18, 2⟩, ⟨3, 3, 9, 18, 0⟩, ⟨3, 3, 9, 18, 1⟩, ⟨3, 3, 9, 18, 2⟩, ⟨3, 2, 5, 18, 0⟩, ⟨3, 2, 5, 18, 1⟩, ⟨3, 2, 5, 18, 2⟩, ⟨3, 1, 3, 18, 0⟩, ⟨3, 1, 3, 18, 1⟩, ⟨3, 1, 3, 18, 2⟩, ⟨3, 4294967424, 259, 18, 0⟩, ⟨3, 4294967424, 259, 18, 1⟩, ⟨3, 4294967424, 259, 18, 2⟩, ⟨3, 268435568, 131, 18, 0⟩, ⟨3, 268435568, 131, 18, 1⟩, ⟨3, 268435568, 131, 18, 2⟩, ⟨3, 16777312, 67, 18, 0⟩, ⟨3, 16777312, 67, 18, 1⟩, ⟨3, 16777312, 67, 18, 2⟩, ⟨3, 1048656, 35, 18, 0⟩, ⟨3, 1048656, 35, 18, 1⟩, ⟨3, 1048656, 35, 18, 2⟩, ⟨3, 65600, 19, 18, 0⟩, ⟨3, 65600, 19, 18, 1⟩, ⟨3, 65600, 19, 18, 2⟩, ⟨3, 4144, 11, 18, 0⟩, ⟨3, 4144, 11, 18, 1⟩, ⟨3, 4144, 11, 18, 2⟩, ⟨3, 288, 7, 18, 0⟩, ⟨3, 288, 7, 18, 1⟩, ⟨3, 288, 7, 18, 2⟩, ⟨3, 8589936656, 263, 18, 0⟩, ⟨3, 8589936656, 263, 18, 1⟩, ⟨3, 8589936656, 263, 18, 2⟩, ⟨3, 536872720, 135, 18, 0⟩, ⟨3, 536872720, 135, 18, 1⟩, ⟨3, 536872720, 135, 18, 2⟩, ⟨3, 33555984, 71, 18, 0⟩, ⟨3, 33555984, 71, 18, 1⟩, ⟨3, 33555984, 71, 18, 2⟩, ⟨3, 2098448, 39, 18, 0⟩, ⟨3, 2098448, 39, 18, 1⟩, ⟨3, 2098448, 39, 18, 2⟩, ⟨3, 12885066768, 287, 18, 0⟩, ⟨3, 12885066768, 287, 18, 1⟩, ⟨3, 12885066768, 287, 18, 2⟩, ⟨3, 805467152, 159, 18, 0⟩, ⟨3, 805467152, 159, 18, 1⟩, ⟨3, 805467152, 159, 18, 2⟩, ⟨3, 21533713424, 383, 18, 0⟩, ⟨3, 21533713424, 383, 18, 1⟩, ⟨3, 21533713424, 383, 18, 2⟩, ⟨3, 1400005648, 255, 18, 0⟩, ⟨3, 1400005648, 255, 18, 1⟩, ⟨3, 1400005648, 255, 18, 2⟩, ⟨3, 32267985936, 511, 18, 0⟩, ⟨3, 32267985936, 511, 18, 1⟩, ⟨3, 32267985936, 511, 18, 2⟩, ⟨3, 36294517776, 511, 18, 2⟩, ⟨3, 36294517776, 511, 16, 0⟩, ⟨3, 3298320, 63, 16, 0⟩, ⟨3, 3298320, 63, 16, 1⟩, ⟨3, 3298320, 63, 16, 2⟩, ⟨3, 23211422736, 511, 16, 0⟩, ⟨3, 23211422736, 511, 16, 1⟩, ⟨3, 23211422736, 511, 16, 2⟩, ⟨3, 23463080976, 511, 16, 2⟩, ⟨3, 23463080976, 511, 14, 0⟩, ⟨3, 27253683216, 511, 14, 0⟩, ⟨3, 27253683216, 511, 14, 1⟩, ⟨3, 27253683216, 511, 14, 2⟩, ⟨3, 35810063376, 511, 14, 2⟩, ⟨3, 35810063376, 511, 13, 0⟩, ⟨3, 90321936, 127, 13, 0⟩, ⟨3, 90321936, 127, 13, 1⟩, ⟨3, 90321936, 127, 13, 2⟩, ⟨3, 5387280, 63, 13, 0⟩, ⟨3, 5387280, 63, 13, 1⟩, ⟨3, 5387280, 63, 13, 2⟩, ⟨3, 17180402448, 287, 13, 0⟩, ⟨3, 17180402448, 287, 13, 1⟩, ⟨3, 17180402448, 287, 13, 2⟩, ⟨3, 1074209552, 159, 13, 0⟩, ⟨3, 1074209552, 159, 13, 1⟩, ⟨3, 1074209552, 159, 13, 2⟩, ⟨3, 21550736144, 383, 13, 0⟩, ⟨3, 21550736144, 383, 13, 1⟩, ⟨3, 21550736144, 383, 13, 2⟩, ⟨3, 1417028368, 255, 13, 0⟩, ⟨3, 1417028368, 255, 13, 1⟩, ⟨3, 1417028368, 255, 13, 2⟩, ⟨3, 32285008656, 511, 13, 0⟩, ⟨3, 32285008656, 511, 13, 1⟩, ⟨3, 32285008656, 511, 13, 2⟩, ⟨3, 36311540496, 511, 13, 2⟩, ⟨3, 36311540496, 511, 13, 1⟩, ⟨3, 4530960, 63, 11, 0⟩, ⟨3, 4530960, 63, 11, 1⟩, ⟨3, 4530960, 63, 11, 2⟩, ⟨3, 23211549456, 511, 11, 0⟩, ⟨3, 23211549456, 511, 11, 1⟩, ⟨3, 23211549456, 511, 11, 2⟩, ⟨3, 23463207696, 511, 11, 2⟩, ⟨3, 23463207696, 511, 9, 0⟩, ⟨3, 27253809936, 511, 9, 0⟩, ⟨3, 27253809936, 511, 9, 1⟩, ⟨3, 27253809936, 511, 9, 2⟩, ⟨3, 35810190096, 511, 9, 2⟩, ⟨3, 35810190096, 511, 7, 0⟩, ⟨3, 32302703376, 511, 7, 0⟩, ⟨3, 32302703376, 511, 7, 1⟩, ⟨3, 32302703376, 511, 7, 2⟩, ⟨3, 36329235216, 511, 7, 2⟩, ⟨3, 5514000, 63, 3, 0⟩, ⟨3, 5514000, 63, 3, 1⟩, ⟨3, 5514000, 63, 3, 2⟩, ⟨3, 528, 7, 3, 0⟩, ⟨3, 528, 7, 3, 1⟩, ⟨3, 528, 7, 3, 2⟩, ⟨2, 5, 33, 3, 0⟩, ⟨2, 5, 33, 3, 1⟩, ⟨2, 4, 17, 3, 0⟩, ⟨2, 4, 17, 3, 1⟩, ⟨2, 3, 9, 3, 0⟩, ⟨2, 3, 9, 3, 1⟩, ⟨2, 2, 5, 3, 0⟩, ⟨2, 2, 5, 3, 1⟩, ⟨2, 1, 3, 3, 0⟩, ⟨2, 1, 3, 3, 1⟩, ⟨2, 1048656, 35, 3, 0⟩, ⟨2, 1048656, 35, 3, 1⟩, ⟨2, 65600, 19, 3, 0⟩, ⟨2, 65600, 19, 3, 1⟩, ⟨2, 4144, 11, 3, 0⟩, ⟨2, 4144, 11, 3, 1⟩, ⟨2, 288, 7, 3, 0⟩, ⟨2, 288, 7, 3, 1⟩, ⟨2, 2098448, 39, 3, 0⟩, ⟨2, 2098448, 39, 3, 1⟩, ⟨2, 3298320, 63, 3, 0⟩, ⟨2, 3298320, 63, 3, 1⟩, ⟨2, 5387280, 63, 2, 0⟩, ⟨2, 4530960, 63, 2, 0⟩, ⟨2, 4530960, 63, 2, 1⟩, ⟨2, 528, 7, 0, 0⟩, ⟨2, 528, 7, 0, 1⟩]
def tO3 : List Ob := tO3_0
theorem tT3 : topBT 18 3 (List.range' 2 2) tL3 tO3 = true := by kernel_rfl
theorem tC3 : chB 3 tW3 18 tL3 = true := by kernel_rfl
theorem tG3 : goodB 3 tL3 = true := by kernel_rfl
theorem tD3 : Wd 3 tW3 := by unfold Wd tW3; decide
def tW4 : List Nat := [3, 0, 1, 2]
def tL4 : List Ld := [⟨2, 1985167888, 0, 0⟩, ⟨2, 1985167888, 1, 1⟩, ⟨2, 1983140368, 1, 2⟩, ⟨2, 1934909968, 1, 3⟩]
def tO4_0 : List Ob := [⟨2, 7, 129, 4, 0⟩, ⟨2, 7, 129, 4, 1⟩, ⟨2, 6, 65, 4, 0⟩, ⟨2, 6, 65, 4, 1⟩, ⟨2, 5, 33, 4, 0⟩, ⟨2, 5, 33, 4, 1⟩, ⟨2, 4, 17, 4, 0⟩, ⟨2, 4, 17, 4, 1⟩, ⟨2, 3, 9, 4, 0⟩, ⟨2, 3, 9, 4, 1⟩, ⟨2, 2, 5, 4, 0⟩, ⟨2, 2, 5, 4, 1⟩, ⟨2, 1, 3, 4, 0⟩, ⟨2, 1, 3, 4, 1⟩, ⟨2, 268435568, 131, 4, 0⟩, ⟨2, 268435568, 131, 4, 1⟩, ⟨2, 16777312, 67, 4, 0⟩, ⟨2, 16777312, 67, 4, 1⟩, ⟨2, 1048656, 35, 4, 0⟩, ⟨2, 1048656, 35, 4, 1⟩, ⟨2, 65600, 19, 4, 0⟩, ⟨2, 65600, 19, 4, 1⟩, ⟨2, 4144, 11, 4, 0⟩, ⟨2, 4144, 11, 4, 1⟩, ⟨2, 288, 7, 4, 0⟩, ⟨2, 288, 7, 4, 1⟩, ⟨2, 536872720, 135, 4, 0⟩, ⟨2, 536872720, 135, 4, 1⟩, ⟨2, 33555984, 71, 4, 0⟩, ⟨2, 33555984, 71, 4, 1⟩, ⟨2, 2098448, 39, 4, 0⟩, ⟨2, 2098448, 39, 4, 1⟩, ⟨2, 132112, 23, 4, 0⟩, ⟨2, 132112, 23, 4, 1⟩, ⟨2, 8976, 15, 4, 0⟩, ⟨2, 8976, 15, 4, 1⟩, ⟨2, 805335568, 143, 4, 0⟩, ⟨2, 805335568, 143, 4, 1⟩, ⟨2, 1124557328, 223, 4, 0⟩, ⟨2, 1124557328, 223, 4, 1⟩, ⟨2, 54878736, 127, 4, 0⟩, ⟨2, 54878736, 127, 4, 1⟩, ⟨2, 1400136208, 255, 4, 0⟩, ⟨2, 1400136208, 255, 4, 1⟩, ⟨2, 1934909968, 255, 3, 0⟩, ⟨2, 1077367312, 191, 3, 0⟩, ⟨2, 1077367312, 191, 3, 1⟩, ⟨2, 70668816, 127, 3, 0⟩, ⟨2, 70668816, 127, 3, 1⟩, ⟨2, 1731482128, 255, 3, 0⟩, ⟨2, 1731482128, 255, 3, 1⟩, ⟨2, 1983140368, 255, 2, 0⟩, ⟨2, 1349730832, 191, 2, 0⟩, ⟨2, 1349730832, 191, 2, 1⟩, ⟨2, 90391056, 127, 2, 0⟩, ⟨2, 90391056, 127, 2, 1⟩, ⟨2, 1733509648, 255, 2, 0⟩, ⟨2, 1733509648, 255, 2, 1⟩, ⟨2, 12816, 15, 0, 0⟩, ⟨2, 12816, 15, 0, 1⟩]
def tO4 : List Ob := tO4_0
theorem tT4 : topBT 4 4 (List.range' 2 1) tL4 tO4 = true := by kernel_rfl
theorem tC4 : chB 4 tW4 4 tL4 = true := by kernel_rfl
theorem tG4 : goodB 4 tL4 = true := by kernel_rfl
theorem tD4 : Wd 4 tW4 := by unfold Wd tW4; decide
end Go.Proofs.Ytgbjbgdnldklpaa.Q
end
/-! Part MCertT0 -/
section
namespace Go.Proofs.Ytgbjbgdnldklpaa.Q
open Go.RowKit
set_option linter.unusedVariables false
set_option maxRecDepth 100000
theorem tK1_0 : allObT 1 tW1 tO1_0 = true := by kernel_rfl
theorem tK2_0 : allObT 2 tW2 tO2_0 = true := by kernel_rfl
theorem tK3_0 : allObT 3 tW3 tO3_0 = true := by kernel_rfl
theorem tK4_0 : allObT 4 tW4 tO4_0 = true := by kernel_rfl
end Go.Proofs.Ytgbjbgdnldklpaa.Q
end
/-! Part MUnivT -/
section
namespace Go.Proofs.Ytgbjbgdnldklpaa.Q
open Go.RowKit Go.Proofs.YtgbjbgdnldklpaaW.PrintWords Go.Proofs.YtgbjbgdnldklpaaW.PrintLast Go.Proofs.YtgbjbgdnldklpaaW.PrintMore
set_option linter.unusedVariables false
set_option maxRecDepth 100000
/-! ### Universal's words: found, and good for all mazes -/
theorem tS1 {o : Ob} (h : o ∈ tO1) : okR 1 tW1 o = true := by
 unfold tO1 at h
 exact allOb_iffT tK1_0 o h
theorem univT1 {n : Nat} (hn : 1 ≤ n) (hnN : n ≤ 4) : ∃ w, Wd 1 w ∧ w.length ≤ 1 ∧ UniS n 1 w ∧ Ev (fun K => maze_Universal.f K (n : Int) ((1 : Nat) : Int)) (toI w, 0) := by
 have hS := top_ok (n := 4) (by decide) (by decide) tD1 (good_ok _ tG1) (topB_eqT tT1) (fun o ho => tS1 ho)
 exact univ_of (N := 4) (W := tW1) (ls := tL1) (by decide) (by decide) (by decide) tD1 (by decide) hS (ch_ok tD1 _ tC1) rfl hn hnN
theorem tS2 {o : Ob} (h : o ∈ tO2) : okR 2 tW2 o = true := by
 unfold tO2 at h
 exact allOb_iffT tK2_0 o h
theorem univT2 {n : Nat} (hn : 1 ≤ n) (hnN : n ≤ 4) : ∃ w, Wd 2 w ∧ w.length ≤ 14 ∧ UniS n 2 w ∧ Ev (fun K => maze_Universal.f K (n : Int) ((2 : Nat) : Int)) (toI w, 0) := by
 have hS := top_ok (n := 4) (by decide) (by decide) tD2 (good_ok _ tG2) (topB_eqT tT2) (fun o ho => tS2 ho)
 exact univ_of (N := 4) (W := tW2) (ls := tL2) (by decide) (by decide) (by decide) tD2 (by decide) hS (ch_ok tD2 _ tC2) rfl hn hnN
theorem tS3 {o : Ob} (h : o ∈ tO3) : okR 3 tW3 o = true := by
 unfold tO3 at h
 exact allOb_iffT tK3_0 o h
theorem univT3 {n : Nat} (hn : 1 ≤ n) (hnN : n ≤ 3) : ∃ w, Wd 3 w ∧ w.length ≤ 18 ∧ UniS n 3 w ∧ Ev (fun K => maze_Universal.f K (n : Int) ((3 : Nat) : Int)) (toI w, 0) := by
 have hS := top_ok (n := 3) (by decide) (by decide) tD3 (good_ok _ tG3) (topB_eqT tT3) (fun o ho => tS3 ho)
 exact univ_of (N := 3) (W := tW3) (ls := tL3) (by decide) (by decide) (by decide) tD3 (by decide) hS (ch_ok tD3 _ tC3) rfl hn hnN
theorem tS4 {o : Ob} (h : o ∈ tO4) : okR 4 tW4 o = true := by
 unfold tO4 at h
 exact allOb_iffT tK4_0 o h
theorem univT4 {n : Nat} (hn : 1 ≤ n) (hnN : n ≤ 2) : ∃ w, Wd 4 w ∧ w.length ≤ 4 ∧ UniS n 4 w ∧ Ev (fun K => maze_Universal.f K (n : Int) ((4 : Nat) : Int)) (toI w, 0) := by
 have hS := top_ok (n := 2) (by decide) (by decide) tD4 (good_ok _ tG4) (topB_eqT tT4) (fun o ho => tS4 ho)
 exact univ_of (N := 2) (W := tW4) (ls := tL4) (by decide) (by decide) (by decide) tD4 (by decide) hS (ch_ok tD4 _ tC4) rfl hn hnN
theorem univ_top {n d : Nat} (hn : 1 ≤ n) (h : d = 1 ∧ n ≤ 4 ∨ d = 2 ∧ n ≤ 4 ∨ d = 3 ∧ n ≤ 3 ∨ d = 4 ∧ n ≤ 2) : ∃ w, Wd d w ∧ w.length ≤ 56 ∧ UniS n d w ∧ Ev (fun K => maze_Universal.f K (n : Int) (d : Int)) (toI w, 0) := by
 rcases h with ⟨rfl, h⟩ | ⟨rfl, h⟩ | ⟨rfl, h⟩ | ⟨rfl, h⟩
 ·obtain ⟨w, h1, h2, h3, h4⟩ := univT1 hn h
  exact ⟨w, h1, by omega, h3, h4⟩
 ·obtain ⟨w, h1, h2, h3, h4⟩ := univT2 hn h
  exact ⟨w, h1, by omega, h3, h4⟩
 ·obtain ⟨w, h1, h2, h3, h4⟩ := univT3 hn h
  exact ⟨w, h1, by omega, h3, h4⟩
 ·obtain ⟨w, h1, h2, h3, h4⟩ := univT4 hn h
  exact ⟨w, h1, by omega, h3, h4⟩
end Go.Proofs.Ytgbjbgdnldklpaa.Q
end
