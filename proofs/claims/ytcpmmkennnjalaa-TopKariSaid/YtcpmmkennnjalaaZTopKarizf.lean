/- In any Eulerian automaton that has a reset word, whatever set of states, neither empty nor all, is led into by more states with a word of at most n - 1 letters, and its shortest reset word has at most n^2 - 3n + 3 letters; in any circular one at most (n - 1)^2. (At most 9 states) (text 32 of 42) -/
import Derived.Test.YtcpmmkennnjalaaZTopKarizb
import Derived.Test.YtcpmmkennnjalaaZTopKarize
import Derived.Test.YtcpmmkennnjalaaZTopKario
import Derived.Test.YtcpmmkennnjalaaZTopKaril
import Derived.Test.YtcpmmkennnjalaaZTopKarij
section
namespace Go.Proofs.Ytcpmmkennnjalaa.Q
open Go.RowKit Go.Proofs.YtcpmmkennnjalaaW.PrintWords Go.Proofs.YtcpmmkennnjalaaW.PrintLast Go.Proofs.YtcpmmkennnjalaaW.PrintMore
set_option linter.unusedVariables false
set_option linter.unusedSimpArgs false
/-! ### the sets, as a list -/
mutual
def short_sets.l0 : Nat → List (List Int) → List Int → List (Int × Int) → Int → List (Int × List Int) → Option (List (Int × List Int))
  | 0, _, _, _, _, _ => none
  | k + 1, rows, list, steps, i, acc => if i < (list.length : Int) then (if 0 ≤ i then ((short_word.f k steps i).bind fun wd => short_sets.l1 k rows list steps i 0 (acc ++ [(rd list i, wd)])) else none) else some acc
def short_sets.l1 : Nat → List (List Int) → List Int → List (Int × Int) → Int → Int → List (Int × List Int) → Option (List (Int × List Int))
  | 0, _, _, _, _, _, _ => none
  | k + 1, rows, list, steps, i, x, acc => if x < ((rd_L1 rows 0).length : Int) then (if 0 ≤ i then (if i < (list.length : Int) then ((short_set_to.f k (rd list i) rows x).bind fun t => if t ∈ list then short_sets.l1 k rows list steps i (wrap64 (x + 1)) acc else (if list.length < 8796093022208 then (if steps.length < 4398046511104 then short_sets.l1 k rows (list ++ [t]) (steps ++ [(i, x)]) i (wrap64 (x + 1)) acc else none) else none)) else none) else none) else short_sets.l0 k rows list steps (wrap64 (i + 1)) acc
end
def allU (n : Nat) : Int := IntKind.u16.wrap (IntKind.u16.wrap (2 ^ min n 16) - 1)
def short_sets.f (k : Nat) (rows : List (List Int)) : Option (List (Int × List Int)) := short_sets.l0 k rows [allU rows.length] [(-1, 0)] 0 []
/-! ### one thing appended, as a run -/
theorem append_run {α : Type} {P : Program} (d : Kd α) {W : World} (base : Nat) (t e o : TypeId) (z : Value) (bytes : Nat) (ht : P.underlying t = some (.slice e)) (hinfo : (P.info? e).map (fun i => (i.zero, i.size, i.bytes)) = some (some z, d.sz, bytes)) (hz : z.cells.size = d.sz) (hs0 : 0 < d.sz) (hb0 : 0 < bytes)
    (v : Value) (xs : List α) (p : α) (cs : List Value) (ok okp : Nat → Prop) (ad : Addr) (c : Nat) (HO : d.R e W base ok v xs) (hp : d.M W base okp p cs) (hokp : ∀ k, okp k → ok k ∧ some k ≠ v.ownBlock) (hfresh : ∀ k, W.heap.size ≤ k → ok k) (hc : ∀ j u, cs[j]? = some u → W.cell? (ad.add j) = some u) (hbase : base ≤ W.heap.size) (hl : (xs.length + 1) * bytes ≤ 140737488355328) :
    ∃ v1 w1, (Builtin.append_ #[t, t] o #[v, .slice (some ad) 1 c]).run P W = .ok v1 w1 ∧ d.R e w1 base ok v1 (xs ++ [p]) ∧ W.grownBy w1 v.ownBlock ∧ (v1.ownBlock = v.ownBlock ∨ ∃ b, v1.ownBlock = some b ∧ W.heap.size ≤ b) := by
  obtain ⟨i0, hi, hzz⟩ := Option.map_eq_some_iff.1 hinfo
  simp only [Prod.mk.injEq] at hzz
  obtain ⟨hz0, hz1, hz2⟩ := hzz
  have hlen : xs.length + 1 ≤ 140737488355328 := Nat.le_trans (Nat.le_mul_of_pos_right _ hb0) hl
  obtain ⟨hok, inner, hown, hr⟩ := HO
  have hK := d.K_of_M hp
  obtain ⟨v1, w1, hrun, h2, hg, _, hat⟩ := run_append_own_at (P := P) W base t o e i0 z d.sz bytes ht hi hz0 hz1 hz2 hz hs0 v xs.length inner hown ad 1 c cs (by rw [d.K_len hK, Nat.one_mul]) hc (d.K_one hK) (by simp only [maxLen]; omega) hl hbase
  have hat' : v1.ownBlock = v.ownBlock ∨ ∃ b, v1.ownBlock = some b ∧ W.heap.size ≤ b := by
    rcases hat with hat | hat
    · exact .inl hat
    · exact .inr ⟨_, hat, Nat.le_refl _⟩
  exact ⟨v1, w1, hrun, Kd.R_appended hok hr hp hokp hfresh h2 hg hat', hg, hat'⟩
/-! ### the iterator's memory -/
def esM (l : List Int) : List (Int × Value) := l.map fun t => (t, .bool true)
theorem esM_look (t : Int) : ∀ l : List Int, @List.lookup Int Value instBEqOfDecidableEq t (esM l) = if t ∈ l then some (.bool true) else none
  | [] => rfl
  | s :: l => by
    show (match @BEq.beq Int instBEqOfDecidableEq t s with | true => some (Value.bool true) | false => @List.lookup Int Value instBEqOfDecidableEq t (esM l)) = _
    by_cases h : t = s
    · have hb : @BEq.beq Int instBEqOfDecidableEq t s = true := decide_eq_true h
      rw [hb, if_pos (by rw [h]; exact List.mem_cons_self)]
    · have hb : @BEq.beq Int instBEqOfDecidableEq t s = false := decide_eq_false h
      rw [hb]
      show @List.lookup Int Value instBEqOfDecidableEq t (esM l) = _
      rw [esM_look t l]
      by_cases h2 : t ∈ l
      · rw [if_pos h2, if_pos (List.mem_cons_of_mem _ h2)]
      · rw [if_neg h2, if_neg fun h3 => (List.mem_cons.1 h3).elim h h2]
def ownS (Bx X bm : Nat) (v vs : Value) : Nat → Prop := fun b => b = Bx ∨ b = X ∨ b = bm ∨ v.ownBlock = some b ∨ vs.ownBlock = some b
structure SS (w0 : World) (A0 : Option Addr) (n c0 Bx X bm : Nat) (own : Nat → Prop) (Wa W : World) (met : List Int) (v : Value) (list : List Int) (vx vs : Value) (steps : List (Int × Int)) : Prop where
  below : Below w0.heap.size w0 W
  bB : W.heap[Bx]? = some (.cells #[.slice A0 n c0] 24 (0, 0))
  bX : W.heap[X]? = some (.cells #[vx] 110 (0, 0))
  mp : MapIs (IntKey .u16) (Value.int .u16) W bm (esM met)
  lst : Kd.R (Kd.int .u16) 86 W w0.heap.size (fun _ => True) v list
  stp : Kd.R kSt 109 W w0.heap.size (fun _ => True) vs steps
  hB : w0.heap.size ≤ Bx
  hX : w0.heap.size ≤ X
  hbm : w0.heap.size ≤ bm
  kb : KeptBut own Wa W
  oB : own Bx ∨ Wa.heap.size ≤ Bx
  oX : own X ∨ Wa.heap.size ≤ X
  om : own bm ∨ Wa.heap.size ≤ bm
  ol : ∀ b, v.ownBlock = some b → own b ∨ Wa.heap.size ≤ b
  os : ∀ b, vs.ownBlock = some b → own b ∨ Wa.heap.size ≤ b
theorem KeptBut.next {own : Nat → Prop} {w W W1 : World} (h : KeptBut own w W) {row : Option Nat} (hg : W.grownBy W1 row) (hr : ∀ b, row = some b → own b ∨ w.heap.size ≤ b) : KeptBut own w W1 :=
  ⟨hg.os.trans h.os, hg.tape.trans h.tape, hg.output.trans h.output, Nat.le_trans h.size hg.size, fun b hb hn => (hg.block b (Nat.lt_of_lt_of_le hb h.size) fun e => (hr b e.symm).elim hn (by omega)).trans (h.block b hb hn)⟩
theorem kSt_E : kSt.E = [] := rfl
theorem u16_E : (Kd.int .u16).E = [] := rfl
theorem not_map_of {α β : Type} {d : Kd α} {e base b : Nat} {ok : Nat → Prop} {W : World} {v : Value} {l : List α} (h : d.R e W base ok v l) {G : Value → Prop} {enc : β → Value} {es : List (β × Value)} (hm : MapIs G enc W b es) : some b ≠ v.ownBlock := by
  intro e
  obtain ⟨cells, hc⟩ := Kd.R_typed h b e.symm
  obtain ⟨arr, ck, h2, _⟩ := hm
  rw [hc] at h2; cases h2
theorem blk_not_map {β : Type} [DecidableEq β] {b g : Nat} {W : World} {cs : Array Value} {t : TypeId} {fr : Nat × Nat} (h : W.heap[g]? = some (.cells cs t fr)) {G : Value → Prop} {enc : β → Value} {es : List (β × Value)} (hm : MapIs G enc W b es) : some g ≠ some b := by
  intro e
  injection e with e
  exact hm.ne h e.symm
/-- Rows of different types. -/
theorem rows_apart {α β : Type} {d : Kd α} {d' : Kd β} {e e' base base' : Nat} {ok ok' : Nat → Prop} {W : World} {v v' : Value} {l : List α} {l' : List β} (h : d.R e W base ok v l) (h' : d'.R e' W base' ok' v' l') (ht : e ≠ e') : ∀ k, v.ownBlock = some k → some k ≠ v'.ownBlock := by
  intro k hk hk'
  obtain ⟨c, hc⟩ := Kd.R_typed h k hk
  obtain ⟨c', hc'⟩ := Kd.R_typed h' k hk'.symm
  rw [hc] at hc'
  injection hc' with hc'
  injection hc' with _ h2
  exact ht h2
section
variable {w0 Wa W W1 : World} {A0 : Option Addr} {n c0 Bx X bm : Nat} {own : Nat → Prop} {met list list1 : List Int} {v v1 vx vs vs1 : Value} {steps steps1 : List (Int × Int)}
theorem SS.next (h : SS w0 A0 n c0 Bx X bm own Wa W met v list vx vs steps) (hb : Below W.heap.size W W1) : SS w0 A0 n c0 Bx X bm own Wa W1 met v list vx vs steps :=
  ⟨below_step h.below hb, blk_below h.bB hb, blk_below h.bX hb, h.mp.below hb, Kd.R_below h.lst hb, Kd.R_below h.stp hb, h.hB, h.hX, h.hbm, h.kb.next (grown_of_below hb none) (fun b e => by cases e), h.oB, h.oX, h.om, h.ol, h.os⟩
theorem SS.listTo (h : SS w0 A0 n c0 Bx X bm own Wa W met v list vx vs steps) (hg : W.grownBy W1 v.ownBlock) (hR : Kd.R (Kd.int .u16) 86 W1 w0.heap.size (fun _ => True) v1 list1) (hat : v1.ownBlock = v.ownBlock ∨ ∃ k, v1.ownBlock = some k ∧ W.heap.size ≤ k) : SS w0 A0 n c0 Bx X bm own Wa W1 met v1 list1 vx vs steps :=
  ⟨pw_below_grown h.below _ h.below.size hg (fun k e => Kd.R_base h.lst k e), blk_grown h.bB hg (Kd.R_ne h.lst h.bB (by decide)), blk_grown h.bX hg (Kd.R_ne h.lst h.bX (by decide)), h.mp.kept hg (not_map_of h.lst h.mp), hR, Kd.R_grown2 h.stp kSt_E hg (fun k hk => rows_apart h.lst h.stp (by decide) k hk), h.hB, h.hX, h.hbm, h.kb.next hg h.ol, h.oB, h.oX, h.om,
    fun b hb => by
      rcases hat with e | ⟨k, e, hk⟩
      · exact h.ol b (e ▸ hb)
      · rw [e] at hb; injection hb with hb; subst hb; exact Or.inr (Nat.le_trans h.kb.size hk), h.os⟩
theorem SS.stepsTo (h : SS w0 A0 n c0 Bx X bm own Wa W met v list vx vs steps) (hg : W.grownBy W1 vs.ownBlock) (hR : Kd.R kSt 109 W1 w0.heap.size (fun _ => True) vs1 steps1) (hat : vs1.ownBlock = vs.ownBlock ∨ ∃ k, vs1.ownBlock = some k ∧ W.heap.size ≤ k) : SS w0 A0 n c0 Bx X bm own Wa W1 met v list vx vs1 steps1 :=
  ⟨pw_below_grown h.below _ h.below.size hg (fun k e => Kd.R_base h.stp k e), blk_grown h.bB hg (Kd.R_ne h.stp h.bB (by decide)), blk_grown h.bX hg (Kd.R_ne h.stp h.bX (by decide)), h.mp.kept hg (not_map_of h.stp h.mp), Kd.R_grown2 h.lst u16_E hg (fun k hk => rows_apart h.stp h.lst (by decide) k hk), hR, h.hB, h.hX, h.hbm, h.kb.next hg h.os, h.oB, h.oX, h.om, h.ol,
    fun b hb => by
      rcases hat with e | ⟨k, e, hk⟩
      · exact h.os b (e ▸ hb)
      · rw [e] at hb; injection hb with hb; subst hb; exact Or.inr (Nat.le_trans h.kb.size hk)⟩
theorem SS.metTo (h : SS w0 A0 n c0 Bx X bm own Wa W met v list vx vs steps) (hg : W.grownBy W1 (some bm)) {met1 : List Int} (hm : MapIs (IntKey .u16) (Value.int .u16) W1 bm (esM met1)) : SS w0 A0 n c0 Bx X bm own Wa W1 met1 v list vx vs steps :=
  ⟨pw_below_grown h.below _ h.below.size hg (fun k e => by cases e; exact h.hbm), blk_grown h.bB hg (blk_not_map h.bB h.mp), blk_grown h.bX hg (blk_not_map h.bX h.mp), hm, Kd.R_grown1 h.lst u16_E hg (not_map_of h.lst h.mp), Kd.R_grown1 h.stp kSt_E hg (not_map_of h.stp h.mp), h.hB, h.hX, h.hbm, h.kb.next hg (fun b e => by cases e; exact h.om), h.oB, h.oX, h.om, h.ol, h.os⟩
theorem SS.boxTo (h : SS w0 A0 n c0 Bx X bm own Wa W met v list vx vs steps) (u : Value) : SS w0 A0 n c0 Bx X bm own Wa (W.setCell ⟨X, 0, none⟩ u) met v list u vs steps := by
  have hp : (W.setCell ⟨X, 0, none⟩ u).heap[X]? = some (.cells #[u] 110 (0, 0)) := blk_put (cs := #[vx]) h.bX 0 u rfl
  have hg : W.grownBy (W.setCell ⟨X, 0, none⟩ u) (some X) := grownBy_setCell' W X u
  exact ⟨pw_below_grown h.below _ h.below.size hg (fun k e => by cases e; exact h.hX), blk_grown h.bB hg (fun e => by injection e with e; subst e; have := h.bB; rw [h.bX] at this; simp at this), hp, h.mp.kept hg (fun e => blk_not_map h.bX h.mp e.symm), Kd.R_grown1 h.lst u16_E hg (fun e => Kd.R_ne h.lst h.bX (by decide) e), Kd.R_grown1 h.stp kSt_E hg (fun e => Kd.R_ne h.stp h.bX (by decide) e), h.hB, h.hX, h.hbm, h.kb.next hg (fun b e => by cases e; exact h.oX), h.oB, h.oX, h.om, h.ol, h.os⟩
/-- A new count from here. -/
theorem SS.anew (h : SS w0 A0 n c0 Bx X bm own Wa W met v list vx vs steps) : SS w0 A0 n c0 Bx X bm (ownS Bx X bm v vs) W W met v list vx vs steps :=
  ⟨h.below, h.bB, h.bX, h.mp, h.lst, h.stp, h.hB, h.hX, h.hbm, KeptBut.refl _ _, Or.inl (Or.inl rfl), Or.inl (Or.inr (Or.inl rfl)), Or.inl (Or.inr (Or.inr (Or.inl rfl))), fun b hb => Or.inl (Or.inr (Or.inr (Or.inr (Or.inl hb)))), fun b hb => Or.inl (Or.inr (Or.inr (Or.inr (Or.inr hb))))⟩
theorem SS.owns (h : SS w0 A0 n c0 Bx X bm own Wa W met v list vx vs steps) : ∀ b, ownS Bx X bm v vs b → own b ∨ Wa.heap.size ≤ b := by
  rintro b (rfl | rfl | rfl | hb | hb)
  · exact h.oB
  · exact h.oX
  · exact h.om
  · exact h.ol b hb
  · exact h.os b hb
theorem SS.base (h : SS w0 A0 n c0 Bx X bm own Wa W met v list vx vs steps) : ∀ b, ownS Bx X bm v vs b → w0.heap.size ≤ b := by
  rintro b (rfl | rfl | rfl | hb | hb)
  · exact h.hB
  · exact h.hX
  · exact h.hbm
  · exact Kd.R_base h.lst b hb
  · exact Kd.R_base h.stp b hb
theorem SS.lt (h : SS w0 A0 n c0 Bx X bm own Wa W met v list vx vs steps) : ∀ b, ownS Bx X bm v vs b → b < W.heap.size := by
  rintro b (rfl | rfl | rfl | hb | hb)
  · exact blk_lt h.bB
  · exact blk_lt h.bX
  · obtain ⟨arr, ck, h1, _⟩ := h.mp
    exact (Array.getElem?_eq_some_iff.1 h1).1
  · exact Kd.R_lt h.lst b hb
  · exact Kd.R_lt h.stp b hb
/-- Behind a round. -/
theorem SS.round (h : SS w0 A0 n c0 Bx X bm (ownS Bx X bm v vs) Wa W met v list vx vs steps) (hk : RoundKept (fun b => b < w0.heap.size ∨ ownS Bx X bm v vs b) W W1) : SS w0 A0 n c0 Bx X bm (ownS Bx X bm v vs) W1 W1 met v list vx vs steps := by
  have ke : ∀ b, b < W.heap.size → ownS Bx X bm v vs b → W1.heap[b]? = W.heap[b]? := fun b hb ho => hk.block b hb (Or.inr ho)
  have hB1 := (ke Bx (blk_lt h.bB) (Or.inl rfl)).trans h.bB
  have hX1 := (ke X (blk_lt h.bX) (Or.inr (Or.inl rfl))).trans h.bX
  have hm1 : MapIs (IntKey .u16) (Value.int .u16) W1 bm (esM met) := by
    obtain ⟨arr, ck, h1, r⟩ := h.mp
    exact ⟨arr, ck, (ke bm (Array.getElem?_eq_some_iff.1 h1).1 (Or.inr (Or.inr (Or.inl rfl)))).trans h1, r⟩
  have hl1 : Kd.R (Kd.int .u16) 86 W1 w0.heap.size (fun _ => True) v list := Kd.R_mono (Kd.R_step (Kd.R_tight u16_E h.lst) fun k hk hlt => ke k hlt (Or.inr (Or.inr (Or.inr (Or.inl hk.symm))))) fun _ _ => trivial
  have hs1 : Kd.R kSt 109 W1 w0.heap.size (fun _ => True) vs steps := Kd.R_mono (Kd.R_step (Kd.R_tight kSt_E h.stp) fun k hk hlt => ke k hlt (Or.inr (Or.inr (Or.inr (Or.inr hk.symm))))) fun _ _ => trivial
  have hb1 : Below w0.heap.size w0 W1 := ⟨hk.os.trans h.below.os, hk.tape.trans h.below.tape, hk.output.trans h.below.output, Nat.le_trans h.below.size hk.size, fun b hb => (hk.block b (Nat.lt_of_lt_of_le hb h.below.size) (Or.inl hb)).trans (h.below.block b hb)⟩
  exact ⟨hb1, hB1, hX1, hm1, hl1, hs1, h.hB, h.hX, h.hbm, KeptBut.refl _ _, Or.inl (Or.inl rfl), Or.inl (Or.inr (Or.inl rfl)), Or.inl (Or.inr (Or.inr (Or.inl rfl))), fun b hb => Or.inl (Or.inr (Or.inr (Or.inr (Or.inl hb)))), fun b hb => Or.inl (Or.inr (Or.inr (Or.inr (Or.inr hb))))⟩
end
end Go.Proofs.Ytcpmmkennnjalaa.Q
end
