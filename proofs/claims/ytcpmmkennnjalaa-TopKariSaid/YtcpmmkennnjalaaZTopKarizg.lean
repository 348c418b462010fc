/- In any Eulerian automaton that has a reset word, whatever set of states, neither empty nor all, is led into by more states with a word of at most n - 1 letters, and its shortest reset word has at most n^2 - 3n + 3 letters; in any circular one at most (n - 1)^2. (At most 9 states) (text 33 of 42) -/
import Derived.Test.YtcpmmkennnjalaaZTopKarizf
import Derived.Shelf.RegionOpen
import Derived.OwnWalkIn
import Derived.TacticsInMore
import Derived.StillTailTactics
import Derived.Deep.CutRange
section
namespace Go.Proofs.Ytcpmmkennnjalaa.Q
open Go.RowKit Go.Proofs.YtcpmmkennnjalaaW.PrintWords Go.Proofs.YtcpmmkennnjalaaW.PrintLast Go.Proofs.YtcpmmkennnjalaaW.PrintMore
set_option linter.unusedVariables false
set_option linter.unusedSimpArgs false
def EncS (base : Nat) (own : Nat → Prop) (x : Int × List Int) (W : World) (vs : Array Value) : Prop := ∃ wv, vs = #[.int .u16 x.1, wv] ∧ Kd.R (Kd.int .i64) 3 W base (fun b => ¬ own b) wv x.2
theorem info_set : (Try.prog.info? 86).map (fun i => (i.zero, i.size, i.bytes)) = some (some (.int .u16 0), 1, 2) := by kernel_rfl
theorem info_step : (Try.prog.info? 109).map (fun i => (i.zero, i.size, i.bytes)) = some (some (.agg #[.int .i64 0, .int .i64 0]), 2, 16) := by kernel_rfl
theorem look_met {W : World} {b : Nat} {l : List Int} (h : MapIs (IntKey .u16) (Value.int .u16) W b (esM l)) (t : Int) : (Instr.lookup 111 (.map (some b)) (.int .u16 t) false).run Try.prog W = .ok (.bool (decide (t ∈ l))) W := by
  have h1 := MapIs.lookup h (int_keyOk Try.underlying86) (fun a b e => by cases e; rfl) Try.underlying111 (show (zeroValue 4).run Try.prog W = .ok (.bool false) W by kernel_rfl) t ⟨_, rfl⟩ false
  rw [esM_look] at h1
  rw [h1]
  by_cases ht : t ∈ l
  · rw [if_pos ht, decide_eq_true ht]; rfl
  · rw [if_neg ht, decide_eq_false ht]; rfl
theorem upd_met {W : World} {b : Nat} {l : List Int} (h : MapIs (IntKey .u16) (Value.int .u16) W b (esM l)) {t : Int} (ht : t ∉ l) : ∃ W1, (Instr.mapUpdate 111 (.map (some b)) (.int .u16 t) (.bool true)).run Try.prog W = .ok () W1 ∧ MapIs (IntKey .u16) (Value.int .u16) W1 b (esM (l ++ [t])) ∧ W.grownBy W1 (some b) := by
  obtain ⟨W1, h1, h2, h3⟩ := MapIs.update (t := 111) h (int_keyOk Try.underlying86) (fun a b e => by cases e; rfl) Try.underlying111 t ⟨_, rfl⟩ (.bool true)
  have e : putM t (Value.bool true) (esM l) = esM (l ++ [t]) := by
    unfold putM
    rw [esM_look, if_neg ht]
    simp [esM]
  rw [e] at h2
  exact ⟨W1, h1, h2, h3⟩
theorem lit_cells {W : World} {b : Nat} {cs : Array Value} {t : TypeId} (h : W.heap[b]? = some (.cells cs t (0, 0))) : ∀ (j : Nat) (u : Value), cs.toList[j]? = some u → W.cell? ((⟨b, 0, none⟩ : Addr).add j) = some u := by
  intro j u hu
  rw [add_plain]
  exact (blk_cell h j).trans (by simpa using hu)
theorem run_append_op {P : Program} {a : Act} {o : Oper} {W w1 : World} {s x : Operand} {t : TypeId} {v y v1 : Value} (ho : o.op = .call { callee := .builtin .append, args := #[s, x], argTypes := #[t, t] }) (hs : a.eval s = v) (hx : a.eval x = y) (h : (Builtin.append_ #[t, t] o.type #[v, y]).run P W = .ok v1 w1) : (execOp a.eval o).run P W = .ok (.value v1) w1 := by
  simp [execOp, ho, resolve, invoke, builtin, hs, hx, h]
theorem lit_St (W : World) : Kd.R kSt 109 (W.alloc (.cells #[.int .i64 (-1), .int .i64 0] 109)) W.heap.size (fun _ => True) (.slice (some ⟨W.heap.size, 0, none⟩) 1 1) [(-1, 0)] := by
  refine ⟨fun _ _ => trivial, [.int .i64 (-1), .int .i64 0], ?_, ?_⟩
  · have h2 := World.ownsRow_lit (base := W.heap.size) (e := 109) (size := 2) W #[.int .i64 (-1), .int .i64 0] 1 (Nat.le_refl _) (by decide) (by decide)
    have e : kSt.sz = 2 := rfl
    rw [e]
    simpa using h2
  · refine ⟨rfl, fun j p hj => ?_⟩
    cases j with
    | zero =>
      obtain rfl := Option.some.inj hj
      exact ⟨[_], [_], rfl, rfl, rfl⟩
    | succ j => simp at hj
theorem SS.start {w0 W w1 w5 : World} {A0 : Option Addr} {n c0 Bx : Nat} {all : Int} {v1 v2 : Value} (hSb : Below w0.heap.size w0 W) (hSB : W.heap[Bx]? = some (.cells #[.slice A0 n c0] 24 (0, 0))) (hBx : Bx < W.heap.size ∧ w0.heap.size ≤ Bx)
    (hO1 : Kd.R (Kd.int .u16) 86 w1 w0.heap.size (fun _ => True) v1 [all]) (hat : ∃ b, v1.ownBlock = some b ∧ W.heap.size ≤ b) (hB1 : Below W.heap.size W w1) (hO2 : Kd.R kSt 109 (w1.alloc (.cells #[.int .i64 (-1), .int .i64 0] 109)) w0.heap.size (fun _ => True) v2 [(-1, 0)]) (hv2 : Value.slice (some ⟨w1.heap.size, 0, none⟩) 1 1 = v2)
    (hm : MapIs (IntKey .u16) (Value.int .u16) w5 (w1.heap.size + 1 + 1) (esM [all])) (hg : ((((w1.alloc (.cells #[.int .i64 (-1), .int .i64 0] 109)).alloc (.cells #[v2] 110)).alloc (.map #[] 0))).grownBy w5 (some (w1.heap.size + 1 + 1))) :
    SS w0 A0 n c0 Bx (w1.heap.size + 1) (w1.heap.size + 1 + 1) (fun b => b = Bx) W w5 [all] v1 [all] v2 v2 [(-1, 0)] := by
  have h0 : w0.heap.size ≤ W.heap.size := hSb.size
  have h1 : W.heap.size ≤ w1.heap.size := hB1.size
  have hba : Below w1.heap.size w1 (((w1.alloc (.cells #[.int .i64 (-1), .int .i64 0] 109)).alloc (.cells #[v2] 110)).alloc (.map #[] 0)) := ((((Below.refl _ w1).alloc (Nat.le_refl _) _).alloc (by simp) _).alloc (by simp; omega) _)
  have hbW := below_step hB1 hba
  have hX : (((w1.alloc (.cells #[.int .i64 (-1), .int .i64 0] 109)).alloc (.cells #[v2] 110)).alloc (.map #[] 0)).heap[w1.heap.size + 1]? = some (.cells #[v2] 110 (0, 0)) := by
    have := World.alloc_heap_new (w1.alloc (.cells #[.int .i64 (-1), .int .i64 0] 109)) (.cells #[v2] 110)
    rw [World.size_alloc] at this
    exact (Below.heap_alloc _ _ _ (by simp)).trans this
  have hM : MapIs (IntKey .u16) (Value.int .u16) (((w1.alloc (.cells #[.int .i64 (-1), .int .i64 0] 109)).alloc (.cells #[v2] 110)).alloc (.map #[] 0)) (w1.heap.size + 1 + 1) (esM []) := by
    have := MapIs.made (G := IntKey .u16) (enc := Value.int .u16) ((w1.alloc (.cells #[.int .i64 (-1), .int .i64 0] 109)).alloc (.cells #[v2] 110))
    simpa [World.size_alloc, esM] using this
  obtain ⟨b1, hb1, hb2⟩ := hat
  have hS2 := Kd.R_below hO2 (((Below.refl _ (w1.alloc (.cells #[.int .i64 (-1), .int .i64 0] 109))).alloc (Nat.le_refl _) (.cells #[v2] 110)).alloc (by simp) (.map #[] 0))
  have hS : SS w0 A0 n c0 Bx (w1.heap.size + 1) (w1.heap.size + 1 + 1) (fun b => b = Bx) W (((w1.alloc (.cells #[.int .i64 (-1), .int .i64 0] 109)).alloc (.cells #[v2] 110)).alloc (.map #[] 0)) [] v1 [all] v2 v2 [(-1, 0)] :=
    ⟨below_step hSb hbW, blk_below hSB hbW, hX, hM, Kd.R_below hO1 hba, hS2, hBx.2, by omega, by omega, KeptBut.of_below hbW, Or.inl rfl, Or.inr (by omega), Or.inr (by omega), fun b hb => by rw [hb1] at hb; injection hb with hb; exact Or.inr (by omega), fun b hb => by rw [← hv2] at hb; simp [Value.ownBlock] at hb; exact Or.inr (by omega)⟩
  exact hS.metTo hg hm
theorem short_sets.pre_l : ∀ k, (∀ rows list steps i acc L, short_sets.l0 k rows list steps i acc = some L → ∃ r, L = acc ++ r) ∧ (∀ rows list steps i x acc L, short_sets.l1 k rows list steps i x acc = some L → ∃ r, L = acc ++ r)
  | 0 => ⟨fun _ _ _ _ _ _ h => by simp [short_sets.l0] at h, fun _ _ _ _ _ _ _ h => by simp [short_sets.l1] at h⟩
  | k + 1 => by
    obtain ⟨ih0, ih1⟩ := short_sets.pre_l k
    refine ⟨?_, ?_⟩
    · intro rows list steps i acc L h
      simp only [short_sets.l0] at h
      split at h
      · split at h
        · obtain ⟨wd, _, h2⟩ := Option.bind_eq_some_iff.1 h
          obtain ⟨r, hr⟩ := ih1 _ _ _ _ _ _ _ h2
          exact ⟨(rd list i, wd) :: r, by rw [hr]; simp⟩
        · simp at h
      · exact ⟨[], by simpa using h.symm⟩
    · intro rows list steps i x acc L h
      simp only [short_sets.l1] at h
      repeat' split at h
      all_goals first
        | exact ih0 _ _ _ _ _ _ h
        | (exfalso; revert h; simp; done)
        | skip
      all_goals (obtain ⟨t, _, h2⟩ := Option.bind_eq_some_iff.1 h; clear h; (repeat' split at h2) <;> first | exact ih1 _ _ _ _ _ _ _ h2 | (exfalso; revert h2; simp; done))
set_option maxHeartbeats 8000000 in
set_option maxRecDepth 100000 in
theorem short_sets.seq (k : Nat) (A0 : Option Addr) (c0 : Nat) (rows : List (List Int)) (L : List (Int × List Int)) (Bx : Nat) (w0 : World) (hR : Kd.C (Kd.slice 3 (Kd.int .i64)) w0 A0 rows.length rows) (hc : rows.length ≤ c0) (hn : 0 < rows.length) (h : short_sets.f k rows = some L) (s : Nat) :
    SeqP Try.prog w0.heap.size 82 #[.pointer (some ⟨Bx, 0, none⟩)] (EncS s) L (fun b => b = Bx) (fun W => Below w0.heap.size w0 W ∧ W.heap[Bx]? = some (.cells #[.slice A0 rows.length c0] 24 (0, 0)) ∧ s ≤ W.heap.size) := by
  intro l J Jx W hSt hown hbase hsJ hsJx hY h0
  obtain ⟨hSb, hSB, hSs⟩ := hSt
  have HSs := Aside0.mk hSs
  clear hSs
  have HR := Aside0.mk hR
  have HC := Aside0.mk hc
  have HN := Aside0.mk hn
  have H' : Aside0 (short_sets.l0 k rows [allU rows.length] [(-1, 0)] 0 [] = some L) := ⟨h⟩
  have HSb := Aside0.mk hSb
  have HSB := Aside0.mk hSB
  have HBx := Aside0.mk (hown Bx rfl)
  have HsJ := Aside0.mk hsJ
  have HY := Aside0.mk hY
  have HJ := Aside0.mk h0
  have HB0 := Aside0.mk (Below.refl W.heap.size W)
  have hcb : W.cell? ⟨Bx, 0, none⟩ = some (.slice A0 rows.length c0) := (blk_cell hSB 0).trans rfl
  have hmm := @run_makeMap Try.prog
  clear hR hc h hSb hSB hown hsJ hY h0 hn
  have e1 : (#[Value.func (.yield l) #[] #[]] ++ #[Value.pointer (some ⟨Bx, 0, none⟩)] : Array Value) = #[.func (.yield l) #[] #[], .pointer (some ⟨Bx, 0, none⟩)] := rfl
  rw [e1]
  clear e1
  go_enter Try.func82, Try.ntmps82
  have hall : IntKind.u16.wrap (IntKind.u16.wrap (2 ^ min rows.length 16) - 1) = allU rows.length := rfl
  go_wp2_with (first | ((with_reducible refine gate_dst (N := 17) rfl ?_); refine Kd.R_lit (Kd.int .u16) _ 86 ?hg (N := 17) ?hd (xs := [allU rows.length]) (inner := [.int .u16 (allU rows.length)]) (ok := fun _ => True) (okp := fun _ => True) ?hr ?hp (fun _ hk => hk) trivial (Below.refl _ _) (Nat.le_refl _) (by simp) ?_; (case hd => rfl); (case hg => rfl); (case hr => first | (go_simp; done) | (go_simp; rfl)); (case hp => exact (Reps.one (show Kd.M (Kd.int .u16) _ _ _ (allU rows.length) [.int .u16 (allU rows.length)] from rfl) (Reps.none _ _)));  intro v1 w1 hO1 hb1 _ hat1; have HAT := Aside0.mk hat1; clear hat1; have HO1 := Aside0.mk (Kd.R_lower hO1 hbase); have HB1 := Aside0.mk hb1; clear hO1 hb1;  obtain ⟨v2, hv2⟩ : ∃ v2, Value.slice (some ⟨w1.heap.size, 0, none⟩) 1 1 = v2 := ⟨_, rfl⟩;  have HO2 := Aside0.mk (Kd.R_lower (lit_St w1) (Nat.le_trans hbase HB1.out.size)); rw [hv2] at HO2;  obtain ⟨w5, hrun5, hm5, hg5⟩ := upd_met (l := []) (t := allU rows.length) (MapIs.made ((w1.alloc (.cells #[.int .i64 (-1), .int .i64 0] 109)).alloc (.cells #[v2] 110))) (by simp);  have HV2 := Aside0.mk hv2; rw [← hv2] at hrun5; clear hv2; simp only [World.size_alloc] at hrun5;  have HM5 := Aside0.mk hm5; have HG5 := Aside0.mk hg5; clear hm5 hg5))
  have HM6 := HM5.out
  have HG6 := HG5.out
  simp only [World.size_alloc] at HM6 HG6
  have HS := Aside0.mk (SS.start HSb.out HSB.out HBx.out HO1.out HAT.out HB1.out HO2.out HV2.out HM6 HG6)
  have HJ5 : Aside0 (J (ownS Bx (w1.heap.size + 1) (w1.heap.size + 1 + 1) v1 v2) [] w5) := ⟨HsJ.out _ _ _ _ _ HJ.out HS.out.kb (fun b hb => by rw [hb]; exact HBx.out.2) HS.out.owns⟩
  have HS5 := Aside0.mk HS.out.anew
  have HXW : Aside0 (s ≤ w1.heap.size + 1) := ⟨by have := HSs.out; have := HB1.out.size; omega⟩
  clear HM6 HG6 HS HJ HB0 HO1 HO2 HB1 HM5 HG5 hrun5 HV2 HAT hall
  generalize w1.heap.size + 1 = X at HS5 HJ5 HXW ⊢
  generalize X + 1 = bm at HS5 HJ5 ⊢
  go_loopg [4, 8] k (fun kq v4 v8 w' => ∃ (i : Int) (acc : List (Int × List Int)) (list : List Int) (steps : List (Int × Int)) (vs : Value), v8 = .int .i64 i ∧ Aside0 (short_sets.l0 kq rows list steps i acc = some L) ∧ Aside0 (kq ≤ k) ∧ Aside0 (SS w0 A0 rows.length c0 Bx X bm (ownS Bx X bm v4 vs) w' w' list v4 list vs vs steps) ∧ Aside0 (J (ownS Bx X bm v4 vs) acc w'))
  case atStart => exact ⟨0, [], _, _, _, rfl, H', ⟨Nat.le_refl _⟩, HS5, HJ5⟩
  case round =>
    clear H' HS5 HJ5 hcb
    obtain ⟨i, acc, list, steps, vs, rfl, HA, HK, HS, HJ⟩ := hrel
    cases gk with
    | zero => exact absurd HA.out (by simp [short_sets.l0])
    | succ k1 =>
      have H := HA.out
      clear HA
      simp only [short_sets.l0] at H
      by_cases d1 : i < (list.length : Int)
      · rw [if_pos d1] at H
        by_cases d2 : 0 ≤ i
        · rw [if_pos d2] at H
          obtain ⟨wd, hwd, H2⟩ := Option.bind_eq_some_iff.1 H
          have H' := Aside0.mk H2
          have HW := Aside0.mk hwd
          clear H H2 hwd
          obtain ⟨ad, c, e4, hx⟩ : ∃ ad c, u4 = Value.slice (some ad) list.length c ∧ wr.cell? (ad.add i.toNat) = some (.int .u16 (rd list i)) := by
            obtain ⟨A, c, e, _, hC⟩ := Kd.R_reads HS.out.lst
            obtain ⟨ad, cs, e2, _, hK, hc0⟩ := Kd.C_get hC 0 i d2 d1
            subst e2
            have hK2 : cs = [.int .u16 (rd list i)] := hK
            subst hK2
            exact ⟨ad, c, e, by have h9 := hc0 0 _ rfl; rw [show (Kd.int .u16).sz = 1 from rfl] at h9; simpa using h9⟩
          subst e4
          have D1 := Aside0.mk d1
          have D2 := Aside0.mk d2
          have q1 := eq_true d1
          have q2 := eq_true d2
          have HBS0 := Aside0.mk HS.out.base
          go_wp2_with fail
          obtain ⟨rest, hrest⟩ := (short_sets.pre_l k1).2 _ _ _ _ _ _ _ H'.out
          have HP : Aside0 (∃ rest, L = acc ++ (rd list i, wd) :: rest) := ⟨⟨rest, by rw [hrest]; simp⟩⟩
          clear hrest
          go_cut [39] from 24 to 68 (fun cq wc => ∃ bq : Bool, cq = Value.bool (!bq) ∧ Aside0 ((bq = true ∧ J (ownS Bx X bm (Value.slice (some ad) list.length c) vs) (acc ++ [(rd list i, wd)]) wc ∧ SS w0 A0 rows.length c0 Bx X bm (ownS Bx X bm (Value.slice (some ad) list.length c) vs) wc wc list (Value.slice (some ad) list.length c) list vs vs steps) ∨ (bq = false ∧ Jx (ownS Bx X bm (Value.slice (some ad) list.length c) vs) (acc ++ [(rd list i, wd)]) wc)))
          case first =>
            refine (wpIn_wide (n := 0)).1 ?_
            gi_region_with (first | (refine ⟨trivial, rfl, callsIn_wide.2 ((short_word.calls k1 steps i wd X w0.heap.size (fun _ => True) vs _ ?aX ?aS HW.out).mono ?_)⟩; (case aX => exact blk_below HS.out.bX (below_drew (Below.refl _ _))); (case aS => exact Kd.R_drew HS.out.stp); rintro e w2 ⟨v2, rfl, hO, hb⟩; have hb2 := below_step (below_drew (Below.refl _ wr)) hb; have HS2 := Aside0.mk (HS.out.next hb2);  have HJ2 : Aside0 (J (ownS Bx X bm (Value.slice (some ad) list.length c) vs) acc w2) := ⟨HsJ.out _ _ _ _ _ HJ.out (KeptBut.of_below hb2) HS.out.base fun b hb => Or.inl hb⟩;  have hx2 : w2.cell? (ad.add i.toNat) = some (.int .u16 (rd list i)) := (hb2.cell (World.block_lt_of_cell? _ _ hx)).trans hx;  obtain ⟨fn, tmps, assign, body, hy, hrnd⟩ := HY.out _ acc (rd list i, wd) #[.int .u16 (rd list i), v2] w2 HJ2.out HP.out ⟨v2, rfl, Kd.R_lower (Kd.R_mono (Kd.R_bound hO) (fun k hk ho => absurd (HS.out.lt k ho) (by have h9 : wr.heap.size ≤ k := hk.2.1; omega))) (by have h8 := HXW.out; have h9 := blk_lt HS.out.bX; simp only [World.drew] at *; omega)⟩ (fun b hb => Or.inl hb);  have HRN := Aside0.mk hrnd; clear hrnd hO hb hb2)  | (refine ⟨rfl, HRN.out.mono ?_⟩; intro e w3 hE;  obtain ⟨bq, rfl, hD⟩ : ∃ bq, e = .returned (.bool bq) ∧ ((bq = true ∧ J (ownS Bx X bm (Value.slice (some ad) list.length c) vs) (acc ++ [(rd list i, wd)]) w3 ∧ RoundKept (fun b => b < w0.heap.size ∨ ownS Bx X bm (Value.slice (some ad) list.length c) vs b) w2 w3) ∨ (bq = false ∧ Jx (ownS Bx X bm (Value.slice (some ad) list.length c) vs) (acc ++ [(rd list i, wd)]) w3)) := (by rcases hE with ⟨h1, h2, h3⟩ | ⟨h1, h2⟩; exact ⟨true, h1, Or.inl ⟨rfl, h2, h3⟩⟩; exact ⟨false, h1, Or.inr ⟨rfl, h2⟩⟩);  clear hE))
            all_goals (
              have HD : Aside0 ((bq = true ∧ J (ownS Bx X bm (Value.slice (some ad) list.length c) vs) (acc ++ [(rd list i, wd)]) w3 ∧ SS w0 A0 rows.length c0 Bx X bm (ownS Bx X bm (Value.slice (some ad) list.length c) vs) w3 w3 list (Value.slice (some ad) list.length c) list vs vs steps) ∨ (bq = false ∧ Jx (ownS Bx X bm (Value.slice (some ad) list.length c) vs) (acc ++ [(rd list i, wd)]) w3)) := ⟨hD.imp (fun h => ⟨h.1, h.2.1, HS2.out.round h.2.2⟩) (fun h => h)⟩
              clear hx2 HS2 HJ2 hy HRN HS HJ hx HY hD
              go_wp2_with fail
              go_meet
              case rel => exact ⟨bq, rfl, HD⟩)
          case rest =>
            obtain ⟨bq, rfl, HD⟩ := hcut
            clear HS HJ hx HP
            rcases HD.out with ⟨rfl, hJ3, hS3⟩ | ⟨rfl, hx3⟩
            rotate_left
            · have HX3 := Aside0.mk hx3
              have HBS : Aside0 (∀ b, (ownS Bx X bm (Value.slice (some ad) list.length c) vs) b → w0.heap.size ≤ b) := HBS0
              clear hx3 HD
              simp only [Bool.not_false]
              go_wp2_with fail
              (try simp only [Exit.inBlock, Exit.then])
              refine bodyPost_ret (results_none rfl _ _ _) rfl ⟨⟨_, rfl⟩, Or.inr ⟨_, _, HBS.out, HX3.out⟩⟩
            have HS3 := Aside0.mk hS3
            have HJ3 := Aside0.mk hJ3
            have hcb : wc.cell? ⟨Bx, 0, none⟩ = some (.slice A0 rows.length c0) := (blk_cell HS3.out.bB 0).trans rfl
            have q3 : ((0 : Int) < rows.length) := by have := HN.out; omega
            clear hJ3 hS3 HD
            simp only [Bool.not_true]
            go_wp2_with (go_at_call 40; refine (auto_Letters.calls _ _ _ _ _ (Kd.C_below HR.out HS3.out.below) HC.out (if_pos q3)).mono ?_; rintro e w4 ⟨rfl, hb4⟩; have HS4 := Aside0.mk (HS3.out.next hb4).anew; have HJ4 : Aside0 (J (ownS Bx X bm (Value.slice (some ad) list.length c) vs) (acc ++ [(rd list i, wd)]) w4) := ⟨HsJ.out _ _ _ _ _ HJ3.out (KeptBut.of_below hb4) HS3.out.base fun b hb => Or.inl hb⟩; clear hb4)
            clear HS3 HJ3 q3
            have HI4 := Aside0.mk d1
            generalize acc ++ [(rd list i, wd)] = acc2 at H' HJ4
            go_loopg [4, 42] k1 (fun kq v4 v42 w' => ∃ (x : Int) (list' : List Int) (steps' : List (Int × Int)) (vs' : Value), v42 = .int .i64 x ∧ Aside0 (short_sets.l1 kq rows list' steps' i x acc2 = some L) ∧ Aside0 (kq ≤ k1) ∧ Aside0 (SS w0 A0 rows.length c0 Bx X bm (ownS Bx X bm v4 vs') w' w' list' v4 list' vs' vs' steps') ∧ Aside0 (J (ownS Bx X bm v4 vs') acc2 w') ∧ Aside0 (i < (list'.length : Int)))
            case atStart => exact ⟨0, _, _, _, rfl, H', ⟨Nat.le_refl _⟩, HS4, HJ4, HI4⟩
            case round =>
              clear H' HS4 HJ4 HI4 hcb HW q1
              obtain ⟨x, list', steps', vs', rfl, HA, HK2, HS, HJ, HI⟩ := hrel
              cases gk with
              | zero => exact absurd HA.out (by simp [short_sets.l1])
              | succ k2 =>
                have H := HA.out
                clear HA
                simp only [short_sets.l1] at H
                obtain ⟨ad, c, e4, hx⟩ : ∃ ad c, u4 = Value.slice (some ad) list'.length c ∧ wr.cell? (ad.add i.toNat) = some (.int .u16 (rd list' i)) := by
                  obtain ⟨A, c, e, _, hC⟩ := Kd.R_reads HS.out.lst
                  obtain ⟨ad, cs, e2, _, hK, hc0⟩ := Kd.C_get hC 0 i D2.out HI.out
                  subst e2
                  have hK2 : cs = [.int .u16 (rd list' i)] := hK
                  subst hK2
                  exact ⟨ad, c, e, by have h9 := hc0 0 _ rfl; rw [show (Kd.int .u16).sz = 1 from rfl] at h9; simpa using h9⟩
                subst e4
                have hcb : wr.cell? ⟨Bx, 0, none⟩ = some (.slice A0 rows.length c0) := (blk_cell HS.out.bB 0).trans rfl
                by_cases d3 : x < ((rd_L1 rows 0).length : Int)
                · rw [if_pos d3, if_pos D2.out, if_pos HI.out] at H
                  obtain ⟨t, ht, H2⟩ := Option.bind_eq_some_iff.1 H
                  have HT := Aside0.mk ht
                  have q3 := eq_true d3
                  have q1 := eq_true HI.out
                  clear H ht
                  go_wp2_with fail
                  go_cut [10, 42] from 42 to 68 (fun v10 v42 wc => v42 = .int .i64 x ∧ v10 = .int .u16 t ∧ Aside0 (SS w0 A0 rows.length c0 Bx X bm (ownS Bx X bm (Value.slice (some ad) list'.length c) vs') wc wc list' (Value.slice (some ad) list'.length c) list' vs' vs' steps') ∧ Aside0 (J (ownS Bx X bm (Value.slice (some ad) list'.length c) vs') acc2 wc))
                  case first =>
                    refine (wpIn_wide (n := 0)).1 ?_
                    gi_region_with (first | (refine ⟨trivial, rfl, callsIn_wide.2 ((short_set_to.calls k2 _ _ _ _ _ _ _ (Kd.C_drew (Kd.C_below HR.out HS.out.below)) HC.out HT.out).mono ?_)⟩; rintro e w4 ⟨rfl, hb⟩; have hb4 := below_step (below_drew (Below.refl _ wr)) hb; have HS4 := Aside0.mk (HS.out.next hb4).anew;  have HJ4 : Aside0 (J (ownS Bx X bm (Value.slice (some ad) list'.length c) vs') acc2 w4) := ⟨HsJ.out _ _ _ _ _ HJ.out (KeptBut.of_below hb4) HS.out.base fun b hb => Or.inl hb⟩; clear hb hb4))
                    all_goals (
                      clear HS HJ
                      go_wp2_with fail
                      go_meet
                      case rel => exact ⟨rfl, rfl, HS4, HJ4⟩)
                  case rest =>
                    obtain ⟨rfl, rfl, HS4, HJ4⟩ := hcut
                    clear HS HJ hx hcb
                    have hlk := look_met HS4.out.mp t
                    by_cases d4 : t ∈ list'
                    · rw [if_pos d4] at H2
                      have H' := Aside0.mk H2
                      have d4b : decide (t ∈ list') = true := decide_eq_true d4
                      rw [d4b] at hlk
                      clear H2 d4 HT q3 q1 d4b
                      go_wp2_with fail
                      go_roundg k2
                      case measure => omega
                      case rel => exact ⟨_, _, _, _, rfl, H', ⟨by have := HK2.out; omega⟩, HS4, HJ4, HI⟩
                    · rw [if_neg d4] at H2
                      have d4b : decide (t ∈ list') = false := decide_eq_false d4
                      rw [d4b] at hlk
                      by_cases d5 : list'.length < 8796093022208
                      · rw [if_pos d5] at H2
                        by_cases d6 : steps'.length < 4398046511104
                        · rw [if_pos d6] at H2
                          have H' := Aside0.mk H2
                          have D5 := Aside0.mk d5
                          have D6 := Aside0.mk d6
                          obtain ⟨w6, hrun6, hm6, hg6⟩ := upd_met HS4.out.mp d4
                          have HS6 := Aside0.mk (HS4.out.metTo hg6 hm6)
                          clear H2 d4 d4b d5 d6 HT q3 q1 hm6 hg6
                          go_wp2_with fail
                          have HB4 := Aside0.mk HS4.out.base
                          have HS := Aside0.mk (HS6.out.next (below_drew (Below.refl _ w6)))
                          clear HS6
                          refine start_ (n := 12) (S := fun w' => w'.cell? ⟨X, 0, none⟩ = some vs') (ds := [11]) #[false, false, false, false, false, false, false, false, false, false, false, false] (by kernel_rfl) rfl rfl ((blk_cell HS.out.bX 0).trans rfl) (fun hHeld => ?_)
                          generalize w6.drew = W at HS hHeld ⊢
                          refine pure_ (i := 0) (N := some 58) (v := ?_) (a' := ?_) #[true, false, false, false, false, false, false, false, false, false, false, false] rfl rfl (by kernel_rfl) (fun _ _ _ h => h) (Or.inl ⟨by rfl, ?_⟩) ?_ ?_
                          rotate_left
                          · intro w'
                            go_simp
                            (try with_reducible rfl)
                          rotate_left
                          · simp only [Act.put, List.setIfInBounds_toArray, List.set_cons_zero, List.set_cons_succ, i64_w, i32_w]
                            rfl
                          refine pure_ (i := 1) (N := some 59) (v := ?_) (a' := ?_) #[true, true, false, false, false, false, false, false, false, false, false, false] rfl rfl (by kernel_rfl) (fun _ _ _ h => h) (Or.inl ⟨by rfl, ?_⟩) ?_ ?_
                          rotate_left
                          · intro w'
                            go_simp
                            (try with_reducible rfl)
                          rotate_left
                          · simp only [Act.put, List.setIfInBounds_toArray, List.set_cons_zero, List.set_cons_succ, i64_w, i32_w]
                            rfl
                          refine pure_ (i := 5) (N := some 63) (v := ?_) (a' := ?_) #[true, true, false, false, false, true, false, false, false, false, false, false] rfl rfl (by kernel_rfl) (fun _ _ _ h => h) (Or.inl ⟨by rfl, ?_⟩) ?_ ?_
                          rotate_left
                          · intro w'
                            go_simp
                            (try with_reducible rfl)
                          rotate_left
                          · simp only [Act.put, List.setIfInBounds_toArray, List.set_cons_zero, List.set_cons_succ, i64_w, i32_w]
                            rfl
                          refine pure_ (i := 6) (N := some 64) (v := ?_) (a' := ?_) #[true, true, false, false, false, true, true, false, false, false, false, false] rfl rfl (by kernel_rfl) (fun _ _ _ h => h) (Or.inl ⟨by rfl, ?_⟩) ?_ ?_
                          rotate_left
                          · intro w'
                            go_simp
                            (try with_reducible rfl)
                          rotate_left
                          · simp only [Act.put, List.setIfInBounds_toArray, List.set_cons_zero, List.set_cons_succ, i64_w, i32_w]
                            rfl
                          refine pure_ (i := 7) (N := some 65) (v := ?_) (a' := ?_) #[true, true, false, false, false, true, true, true, false, false, false, false] rfl rfl (by kernel_rfl) (fun _ _ _ h => h) (Or.inl ⟨by rfl, ?_⟩) ?_ ?_
                          rotate_left
                          · intro w'
                            go_simp
                            (try with_reducible rfl)
                          rotate_left
                          · simp only [Act.put, List.setIfInBounds_toArray, List.set_cons_zero, List.set_cons_succ, i64_w, i32_w]
                            rfl
                          refine take_ (i := 4) (N := some 62) (v := ?_) (a' := ?_) #[true, true, false, false, true, true, true, true, false, false, false, false] rfl rfl (by kernel_rfl) (fun _ _ _ h => h) (Or.inl ⟨by rfl, ?_⟩) hHeld ?_ ?_
                          rotate_left
                          · intro w' s0
                            go_simp
                            (try with_reducible rfl)
                          rotate_left
                          · simp only [Act.put, List.setIfInBounds_toArray, List.set_cons_zero, List.set_cons_succ, i64_w, i32_w]
                            rfl
                          refine two_ (i := 2) (j := 8) (Ni := some 60) (Nj := some 66) #[true, true, true, false, true, true, true, true, false, false, false, false] #[true, true, false, false, true, true, true, true, true, false, false, false] rfl rfl rfl rfl (by kernel_rfl) (by decide) (by decide) (fun K hK => ?_) (fun K hK => ?_)
                          · refine value_ (v := .slice (some ⟨W.heap.size, 0, none⟩) 1 1) (w1 := W.alloc (.cells #[.int .u16 t] 86)) (by rfl) rfl (by first | (go_simp; done) | (go_simp; rfl)) ?_
                            have HL1 : Aside0 ((W.alloc (.cells #[.int .u16 t] 86)).heap[W.heap.size]? = some (.cells #[.int .u16 t] 86 (0, 0))) := ⟨World.alloc_heap_new _ _⟩
                            have hb_ := below_alloc (Below.refl _ W) (.cells #[.int .u16 t] 86)
                            have HS := Aside0.mk (HS.out.next hb_)
                            clear hb_
                            generalize W.heap.size = b1 at HL1 ⊢
                            generalize W.alloc (.cells #[.int .u16 t] 86) = Wa at HL1 HS ⊢
                            refine hK.out _ _ ((blk_cell HS.out.bX 0).trans rfl) (fun hHeld => ?_)
                            clear hK K
                            refine norm_ (a' := ?_) ?_ ?_
                            rotate_left
                            · show Act.put _ (some 60) _ = _
                              simp only [Act.put, List.setIfInBounds_toArray, List.set_cons_zero, List.set_cons_succ, i64_w, i32_w]
                              rfl
                            refine two_ (i := 3) (j := 8) (Ni := some 61) (Nj := some 66) #[true, true, true, true, true, true, true, true, false, false, false, false] #[true, true, true, false, true, true, true, true, true, false, false, false] rfl rfl rfl rfl (by kernel_rfl) (by decide) (by decide) (fun K hK => ?_) (fun K hK => ?_)
                            · obtain ⟨vn, wn, hrn, hRn, hgn, hatn⟩ := append_run (P := Try.prog) (Kd.int .u16) w0.heap.size 107 86 107 (.int .u16 0) 2 Try.underlying107 info_set rfl (by decide) (by decide) (Value.slice (some ad) list'.length c) list' t [.int .u16 t] (fun _ => True) (fun _ => False) ⟨b1, 0, none⟩ 1 HS.out.lst rfl (fun _ h => h.elim) (fun _ _ => trivial) (lit_cells HL1.out) HS.out.below.size (by have := D5.out; omega)
                              refine value_ (v := vn) (w1 := wn) (by rfl) rfl (run_append_op rfl (by rfl) (by rfl) hrn) ?_
                              clear hrn
                              have HS := Aside0.mk (HS.out.listTo hgn hRn hatn)
                              clear hgn hRn hatn HL1
                              refine hK.out _ _ ((blk_cell HS.out.bX 0).trans rfl) (fun hHeld => ?_)
                              clear hK K
                              refine norm_ (a' := ?_) ?_ ?_
                              rotate_left
                              · show Act.put _ (some 61) _ = _
                                simp only [Act.put, List.setIfInBounds_toArray, List.set_cons_zero, List.set_cons_succ, i64_w, i32_w]
                                rfl
                              refine one_ (i := 8) (N := some 66) #[true, true, true, true, true, true, true, true, true, false, false, false] rfl rfl (by kernel_rfl) (by decide) (fun K hK => ?_)
                              refine value_ (v := .slice (some ⟨wn.heap.size, 0, none⟩) 1 1) (w1 := wn.alloc (.cells #[.int .i64 i, .int .i64 x] 109)) (by rfl) rfl (by first | (go_simp; done) | (go_simp; rfl)) ?_
                              have HL2 : Aside0 ((wn.alloc (.cells #[.int .i64 i, .int .i64 x] 109)).heap[wn.heap.size]? = some (.cells #[.int .i64 i, .int .i64 x] 109 (0, 0))) := ⟨World.alloc_heap_new _ _⟩
                              have hb_ := below_alloc (Below.refl _ wn) (.cells #[.int .i64 i, .int .i64 x] 109)
                              have HS := Aside0.mk (HS.out.next hb_)
                              clear hb_
                              generalize wn.heap.size = b2 at HL2 ⊢
                              generalize wn.alloc (.cells #[.int .i64 i, .int .i64 x] 109) = wnb at HL2 HS ⊢
                              refine hK.out _ _ ((blk_cell HS.out.bX 0).trans rfl) (fun hHeld => ?_)
                              clear hK K
                              refine norm_ (a' := ?_) ?_ ?_
                              rotate_left
                              · show Act.put _ (some 66) _ = _
                                simp only [Act.put, List.setIfInBounds_toArray, List.set_cons_zero, List.set_cons_succ, i64_w, i32_w]
                                rfl
                              refine one_ (i := 9) (N := some 67) #[true, true, true, true, true, true, true, true, true, true, false, false] rfl rfl (by kernel_rfl) (by decide) (fun K hK => ?_)
                              obtain ⟨vm, wm, hrm, hRm, hgm, hatm⟩ := append_run (P := Try.prog) kSt w0.heap.size 110 109 110 (.agg #[.int .i64 0, .int .i64 0]) 16 Try.underlying110 info_step rfl (by decide) (by decide) vs' steps' (i, x) [.int .i64 i, .int .i64 x] (fun _ => True) (fun _ => False) ⟨b2, 0, none⟩ 1 HS.out.stp ⟨[_], [_], rfl, rfl, rfl⟩ (fun _ h => h.elim) (fun _ _ => trivial) (lit_cells HL2.out) HS.out.below.size (by have := D6.out; omega)
                              refine value_ (v := vm) (w1 := wm) (by rfl) rfl (run_append_op rfl (by rfl) (by rfl) hrm) ?_
                              clear hrm
                              have HS := Aside0.mk (HS.out.stepsTo hgm hRm hatm)
                              clear hgm hRm hatm HL2
                              refine hK.out _ _ ((blk_cell HS.out.bX 0).trans rfl) (fun hHeld => ?_)
                              clear hK K
                              refine norm_ (a' := ?_) ?_ ?_
                              rotate_left
                              · show Act.put _ (some 67) _ = _
                                simp only [Act.put, List.setIfInBounds_toArray, List.set_cons_zero, List.set_cons_succ, i64_w, i32_w]
                                rfl
                              refine pure_ (i := 10) (N := some 4) (v := ?_) (a' := ?_) #[true, true, true, true, true, true, true, true, true, true, true, false] rfl rfl (by kernel_rfl) (fun _ _ _ h => h) (Or.inl ⟨by rfl, ?_⟩) ?_ ?_
                              rotate_left
                              · intro w'
                                go_simp
                                (try with_reducible rfl)
                              rotate_left
                              · simp only [Act.put, List.setIfInBounds_toArray, List.set_cons_zero, List.set_cons_succ, i64_w, i32_w]
                                rfl
                              refine last_ (i := 11) (N := none) #[true, true, true, true, true, true, true, true, true, true, true, true] rfl rfl (by kernel_rfl) (by decide) (fun K hK => ?_)
                              refine skip_ (w1 := wm.setCell ⟨X, 0, none⟩ vm) (by rfl) rfl (by have hcX : wm.cell? ⟨X, 0, none⟩ = some vs' := (blk_cell HS.out.bX 0).trans rfl; have hfX := blk_frozen HS.out.bX 0; obtain ⟨am, cm, em⟩ := Kd.R_slice HS.out.stp; subst em; go_simp) ?_
                              have HS := Aside0.mk (HS.out.boxTo vm)
                              refine hK.out _ _ ?_
                              clear hK K
                              refine done_ (by kernel_rfl) ?_
                              go_wp2_with fail
                              have HJ7 : Aside0 (J (ownS Bx X bm vn vm) acc2 (wm.setCell ⟨X, 0, none⟩ vm)) := ⟨HsJ.out _ _ _ _ _ HJ4.out HS.out.kb HB4.out HS.out.owns⟩
                              have HS7 := Aside0.mk HS.out.anew
                              have HI7 : Aside0 (i < ((list' ++ [t]).length : Int)) := ⟨by have := HI.out; rw [List.length_append]; simp; omega⟩
                              (try clear HJ4)
                              go_roundg k2
                              case measure => omega
                              case rel => exact ⟨_, _, _, _, rfl, H', ⟨by have := HK2.out; omega⟩, HS7, HJ7, HI7⟩
                            · refine value_ (v := .slice (some ⟨Wa.heap.size, 0, none⟩) 1 1) (w1 := Wa.alloc (.cells #[.int .i64 i, .int .i64 x] 109)) (by rfl) rfl (by first | (go_simp; done) | (go_simp; rfl)) ?_
                              have HL2 : Aside0 ((Wa.alloc (.cells #[.int .i64 i, .int .i64 x] 109)).heap[Wa.heap.size]? = some (.cells #[.int .i64 i, .int .i64 x] 109 (0, 0))) := ⟨World.alloc_heap_new _ _⟩
                              have hb_ := below_alloc (Below.refl _ Wa) (.cells #[.int .i64 i, .int .i64 x] 109)
                              have HL1 := Aside0.mk (blk_below HL1.out hb_)
                              have HS := Aside0.mk (HS.out.next hb_)
                              clear hb_
                              generalize Wa.heap.size = b2 at HL2 ⊢
                              generalize Wa.alloc (.cells #[.int .i64 i, .int .i64 x] 109) = Wab at HL1 HL2 HS ⊢
                              refine hK.out _ _ ((blk_cell HS.out.bX 0).trans rfl) (fun hHeld => ?_)
                              clear hK K
                              refine norm_ (a' := ?_) ?_ ?_
                              rotate_left
                              · show Act.put _ (some 66) _ = _
                                simp only [Act.put, List.setIfInBounds_toArray, List.set_cons_zero, List.set_cons_succ, i64_w, i32_w]
                                rfl
                              refine one_ (i := 3) (N := some 61) #[true, true, true, true, true, true, true, true, true, false, false, false] rfl rfl (by kernel_rfl) (by decide) (fun K hK => ?_)
                              obtain ⟨vn, wn, hrn, hRn, hgn, hatn⟩ := append_run (P := Try.prog) (Kd.int .u16) w0.heap.size 107 86 107 (.int .u16 0) 2 Try.underlying107 info_set rfl (by decide) (by decide) (Value.slice (some ad) list'.length c) list' t [.int .u16 t] (fun _ => True) (fun _ => False) ⟨b1, 0, none⟩ 1 HS.out.lst rfl (fun _ h => h.elim) (fun _ _ => trivial) (lit_cells HL1.out) HS.out.below.size (by have := D5.out; omega)
                              refine value_ (v := vn) (w1 := wn) (by rfl) rfl (run_append_op rfl (by rfl) (by rfl) hrn) ?_
                              clear hrn
                              have HL2 := Aside0.mk (blk_grown HL2.out hgn (Kd.R_ne HS.out.lst HL2.out (by decide)))
                              have HS := Aside0.mk (HS.out.listTo hgn hRn hatn)
                              clear hgn hRn hatn HL1
                              refine hK.out _ _ ((blk_cell HS.out.bX 0).trans rfl) (fun hHeld => ?_)
                              clear hK K
                              refine norm_ (a' := ?_) ?_ ?_
                              rotate_left
                              · show Act.put _ (some 61) _ = _
                                simp only [Act.put, List.setIfInBounds_toArray, List.set_cons_zero, List.set_cons_succ, i64_w, i32_w]
                                rfl
                              refine one_ (i := 9) (N := some 67) #[true, true, true, true, true, true, true, true, true, true, false, false] rfl rfl (by kernel_rfl) (by decide) (fun K hK => ?_)
                              obtain ⟨vm, wm, hrm, hRm, hgm, hatm⟩ := append_run (P := Try.prog) kSt w0.heap.size 110 109 110 (.agg #[.int .i64 0, .int .i64 0]) 16 Try.underlying110 info_step rfl (by decide) (by decide) vs' steps' (i, x) [.int .i64 i, .int .i64 x] (fun _ => True) (fun _ => False) ⟨b2, 0, none⟩ 1 HS.out.stp ⟨[_], [_], rfl, rfl, rfl⟩ (fun _ h => h.elim) (fun _ _ => trivial) (lit_cells HL2.out) HS.out.below.size (by have := D6.out; omega)
                              refine value_ (v := vm) (w1 := wm) (by rfl) rfl (run_append_op rfl (by rfl) (by rfl) hrm) ?_
                              clear hrm
                              have HS := Aside0.mk (HS.out.stepsTo hgm hRm hatm)
                              clear hgm hRm hatm HL2
                              refine hK.out _ _ ((blk_cell HS.out.bX 0).trans rfl) (fun hHeld => ?_)
                              clear hK K
                              refine norm_ (a' := ?_) ?_ ?_
                              rotate_left
                              · show Act.put _ (some 67) _ = _
                                simp only [Act.put, List.setIfInBounds_toArray, List.set_cons_zero, List.set_cons_succ, i64_w, i32_w]
                                rfl
                              refine pure_ (i := 10) (N := some 4) (v := ?_) (a' := ?_) #[true, true, true, true, true, true, true, true, true, true, true, false] rfl rfl (by kernel_rfl) (fun _ _ _ h => h) (Or.inl ⟨by rfl, ?_⟩) ?_ ?_
                              rotate_left
                              · intro w'
                                go_simp
                                (try with_reducible rfl)
                              rotate_left
                              · simp only [Act.put, List.setIfInBounds_toArray, List.set_cons_zero, List.set_cons_succ, i64_w, i32_w]
                                rfl
                              refine last_ (i := 11) (N := none) #[true, true, true, true, true, true, true, true, true, true, true, true] rfl rfl (by kernel_rfl) (by decide) (fun K hK => ?_)
                              refine skip_ (w1 := wm.setCell ⟨X, 0, none⟩ vm) (by rfl) rfl (by have hcX : wm.cell? ⟨X, 0, none⟩ = some vs' := (blk_cell HS.out.bX 0).trans rfl; have hfX := blk_frozen HS.out.bX 0; obtain ⟨am, cm, em⟩ := Kd.R_slice HS.out.stp; subst em; go_simp) ?_
                              have HS := Aside0.mk (HS.out.boxTo vm)
                              refine hK.out _ _ ?_
                              clear hK K
                              refine done_ (by kernel_rfl) ?_
                              go_wp2_with fail
                              have HJ7 : Aside0 (J (ownS Bx X bm vn vm) acc2 (wm.setCell ⟨X, 0, none⟩ vm)) := ⟨HsJ.out _ _ _ _ _ HJ4.out HS.out.kb HB4.out HS.out.owns⟩
                              have HS7 := Aside0.mk HS.out.anew
                              have HI7 : Aside0 (i < ((list' ++ [t]).length : Int)) := ⟨by have := HI.out; rw [List.length_append]; simp; omega⟩
                              (try clear HJ4)
                              go_roundg k2
                              case measure => omega
                              case rel => exact ⟨_, _, _, _, rfl, H', ⟨by have := HK2.out; omega⟩, HS7, HJ7, HI7⟩
                          · refine value_ (v := .slice (some ⟨W.heap.size, 0, none⟩) 1 1) (w1 := W.alloc (.cells #[.int .i64 i, .int .i64 x] 109)) (by rfl) rfl (by first | (go_simp; done) | (go_simp; rfl)) ?_
                            have HL2 : Aside0 ((W.alloc (.cells #[.int .i64 i, .int .i64 x] 109)).heap[W.heap.size]? = some (.cells #[.int .i64 i, .int .i64 x] 109 (0, 0))) := ⟨World.alloc_heap_new _ _⟩
                            have hb_ := below_alloc (Below.refl _ W) (.cells #[.int .i64 i, .int .i64 x] 109)
                            have HS := Aside0.mk (HS.out.next hb_)
                            clear hb_
                            generalize W.heap.size = b2 at HL2 ⊢
                            generalize W.alloc (.cells #[.int .i64 i, .int .i64 x] 109) = Wb at HL2 HS ⊢
                            refine hK.out _ _ ((blk_cell HS.out.bX 0).trans rfl) (fun hHeld => ?_)
                            clear hK K
                            refine norm_ (a' := ?_) ?_ ?_
                            rotate_left
                            · show Act.put _ (some 66) _ = _
                              simp only [Act.put, List.setIfInBounds_toArray, List.set_cons_zero, List.set_cons_succ, i64_w, i32_w]
                              rfl
                            refine one_ (i := 2) (N := some 60) #[true, true, true, false, true, true, true, true, true, false, false, false] rfl rfl (by kernel_rfl) (by decide) (fun K hK => ?_)
                            refine value_ (v := .slice (some ⟨Wb.heap.size, 0, none⟩) 1 1) (w1 := Wb.alloc (.cells #[.int .u16 t] 86)) (by rfl) rfl (by first | (go_simp; done) | (go_simp; rfl)) ?_
                            have HL1 : Aside0 ((Wb.alloc (.cells #[.int .u16 t] 86)).heap[Wb.heap.size]? = some (.cells #[.int .u16 t] 86 (0, 0))) := ⟨World.alloc_heap_new _ _⟩
                            have hb_ := below_alloc (Below.refl _ Wb) (.cells #[.int .u16 t] 86)
                            have HL2 := Aside0.mk (blk_below HL2.out hb_)
                            have HS := Aside0.mk (HS.out.next hb_)
                            clear hb_
                            generalize Wb.heap.size = b1 at HL1 ⊢
                            generalize Wb.alloc (.cells #[.int .u16 t] 86) = Wba at HL2 HL1 HS ⊢
                            refine hK.out _ _ ((blk_cell HS.out.bX 0).trans rfl) (fun hHeld => ?_)
                            clear hK K
                            refine norm_ (a' := ?_) ?_ ?_
                            rotate_left
                            · show Act.put _ (some 60) _ = _
                              simp only [Act.put, List.setIfInBounds_toArray, List.set_cons_zero, List.set_cons_succ, i64_w, i32_w]
                              rfl
                            refine one_ (i := 3) (N := some 61) #[true, true, true, true, true, true, true, true, true, false, false, false] rfl rfl (by kernel_rfl) (by decide) (fun K hK => ?_)
                            obtain ⟨vn, wn, hrn, hRn, hgn, hatn⟩ := append_run (P := Try.prog) (Kd.int .u16) w0.heap.size 107 86 107 (.int .u16 0) 2 Try.underlying107 info_set rfl (by decide) (by decide) (Value.slice (some ad) list'.length c) list' t [.int .u16 t] (fun _ => True) (fun _ => False) ⟨b1, 0, none⟩ 1 HS.out.lst rfl (fun _ h => h.elim) (fun _ _ => trivial) (lit_cells HL1.out) HS.out.below.size (by have := D5.out; omega)
                            refine value_ (v := vn) (w1 := wn) (by rfl) rfl (run_append_op rfl (by rfl) (by rfl) hrn) ?_
                            clear hrn
                            have HL2 := Aside0.mk (blk_grown HL2.out hgn (Kd.R_ne HS.out.lst HL2.out (by decide)))
                            have HS := Aside0.mk (HS.out.listTo hgn hRn hatn)
                            clear hgn hRn hatn HL1
                            refine hK.out _ _ ((blk_cell HS.out.bX 0).trans rfl) (fun hHeld => ?_)
                            clear hK K
                            refine norm_ (a' := ?_) ?_ ?_
                            rotate_left
                            · show Act.put _ (some 61) _ = _
                              simp only [Act.put, List.setIfInBounds_toArray, List.set_cons_zero, List.set_cons_succ, i64_w, i32_w]
                              rfl
                            refine one_ (i := 9) (N := some 67) #[true, true, true, true, true, true, true, true, true, true, false, false] rfl rfl (by kernel_rfl) (by decide) (fun K hK => ?_)
                            obtain ⟨vm, wm, hrm, hRm, hgm, hatm⟩ := append_run (P := Try.prog) kSt w0.heap.size 110 109 110 (.agg #[.int .i64 0, .int .i64 0]) 16 Try.underlying110 info_step rfl (by decide) (by decide) vs' steps' (i, x) [.int .i64 i, .int .i64 x] (fun _ => True) (fun _ => False) ⟨b2, 0, none⟩ 1 HS.out.stp ⟨[_], [_], rfl, rfl, rfl⟩ (fun _ h => h.elim) (fun _ _ => trivial) (lit_cells HL2.out) HS.out.below.size (by have := D6.out; omega)
                            refine value_ (v := vm) (w1 := wm) (by rfl) rfl (run_append_op rfl (by rfl) (by rfl) hrm) ?_
                            clear hrm
                            have HS := Aside0.mk (HS.out.stepsTo hgm hRm hatm)
                            clear hgm hRm hatm HL2
                            refine hK.out _ _ ((blk_cell HS.out.bX 0).trans rfl) (fun hHeld => ?_)
                            clear hK K
                            refine norm_ (a' := ?_) ?_ ?_
                            rotate_left
                            · show Act.put _ (some 67) _ = _
                              simp only [Act.put, List.setIfInBounds_toArray, List.set_cons_zero, List.set_cons_succ, i64_w, i32_w]
                              rfl
                            refine pure_ (i := 10) (N := some 4) (v := ?_) (a' := ?_) #[true, true, true, true, true, true, true, true, true, true, true, false] rfl rfl (by kernel_rfl) (fun _ _ _ h => h) (Or.inl ⟨by rfl, ?_⟩) ?_ ?_
                            rotate_left
                            · intro w'
                              go_simp
                              (try with_reducible rfl)
                            rotate_left
                            · simp only [Act.put, List.setIfInBounds_toArray, List.set_cons_zero, List.set_cons_succ, i64_w, i32_w]
                              rfl
                            refine last_ (i := 11) (N := none) #[true, true, true, true, true, true, true, true, true, true, true, true] rfl rfl (by kernel_rfl) (by decide) (fun K hK => ?_)
                            refine skip_ (w1 := wm.setCell ⟨X, 0, none⟩ vm) (by rfl) rfl (by have hcX : wm.cell? ⟨X, 0, none⟩ = some vs' := (blk_cell HS.out.bX 0).trans rfl; have hfX := blk_frozen HS.out.bX 0; obtain ⟨am, cm, em⟩ := Kd.R_slice HS.out.stp; subst em; go_simp) ?_
                            have HS := Aside0.mk (HS.out.boxTo vm)
                            refine hK.out _ _ ?_
                            clear hK K
                            refine done_ (by kernel_rfl) ?_
                            go_wp2_with fail
                            have HJ7 : Aside0 (J (ownS Bx X bm vn vm) acc2 (wm.setCell ⟨X, 0, none⟩ vm)) := ⟨HsJ.out _ _ _ _ _ HJ4.out HS.out.kb HB4.out HS.out.owns⟩
                            have HS7 := Aside0.mk HS.out.anew
                            have HI7 : Aside0 (i < ((list' ++ [t]).length : Int)) := ⟨by have := HI.out; rw [List.length_append]; simp; omega⟩
                            (try clear HJ4)
                            go_roundg k2
                            case measure => omega
                            case rel => exact ⟨_, _, _, _, rfl, H', ⟨by have := HK2.out; omega⟩, HS7, HJ7, HI7⟩
                        · rw [if_neg d6] at H2; exact absurd H2 (by simp)
                      · rw [if_neg d5] at H2; exact absurd H2 (by simp)
                · rw [if_neg d3] at H
                  have H' := Aside0.mk H
                  have d3b : decide (x < ((rd_L1 rows 0).length : Int)) = false := decide_eq_false d3
                  clear H d3
                  go_wp2_with fail
                  go_roundg k2
                  case measure => have := HK2.out; omega
                  case rel => exact ⟨_, _, _, _, _, rfl, H', ⟨by have := HK.out; have := HK2.out; omega⟩, HS, HJ⟩
        · rw [if_neg d2] at H; exact absurd H (by simp)
      · rw [if_neg d1] at H
        obtain rfl := Option.some.inj H
        obtain ⟨ad, c, e4⟩ := Kd.R_slice HS.out.lst
        subst e4
        have HBS := Aside0.mk HS.out.base
        have d1b : decide (i < (list.length : Int)) = false := decide_eq_false d1
        clear H HS d1
        go_wp2_with fail
        (try simp only [Exit.inBlock, Exit.then])
        refine bodyPost_end (results_none rfl _ _ _) rfl ⟨⟨_, rfl⟩, Or.inl ⟨_, HBS.out, HJ.out⟩⟩
  
end Go.Proofs.Ytcpmmkennnjalaa.Q
end
