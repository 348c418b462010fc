/- In any Eulerian automaton that has a reset word, whatever set of states, neither empty nor all, is led into by more states with a word of at most n - 1 letters, and its shortest reset word has at most n^2 - 3n + 3 letters; in any circular one at most (n - 1)^2. (At most 9 states) (text 36 of 42) -/
import Derived.Test.YtcpmmkennnjalaaZTopKarizg
import Derived.Test.YtcpmmkennnjalaaZTopKarizi
import Derived.Test.YtcpmmkennnjalaaZTopKaril
import Derived.Test.YtcpmmkennnjalaaZTopKariq
import Derived.RangeFuncLeaves
import Derived.RangeFuncRecord
section
namespace Go.Proofs.Ytcpmmkennnjalaa.Q
open Go.RowKit Go.Proofs.YtcpmmkennnjalaaW.PrintWords Go.Proofs.YtcpmmkennnjalaaW.PrintLast Go.Proofs.YtcpmmkennnjalaaW.PrintMore
attribute [local go_sem] Oper.semAt_some
set_option linter.unusedVariables false
set_option linter.unusedSimpArgs false
/-! ### short.sets, the maker -/
set_option maxHeartbeats 4000000 in
set_option maxRecDepth 100000 in
theorem short_sets.makes (A0 : Option Addr) (n c0 : Nat) (w : World) :
    Calls Try.prog 59 #[.agg #[.slice A0 n c0]] w fun e w' => ∃ B : Nat, e = .returned (.func (.func 82) #[] #[.pointer (some ⟨B, 0, none⟩)]) ∧ w.heap.size ≤ B ∧ w'.heap[B]? = some (.cells #[.slice A0 n c0] 24 (0, 0)) ∧ Below w.heap.size w w' := by
  go_enter Try.func59, Try.ntmps59
  go_wp2_with (first | ((with_reducible refine gate_dst (N := 1) rfl ?_); refine box_event ?hg (N := 1) ?hd (cs := #[.slice A0 n c0]) (t := 24) ?hr ?_; (case hd => rfl); (case hg => rfl); (case hr => first | (go_simp; done) | (go_simp; rfl)); intro B hBe w1 hbox hb1; have HBE := Aside0.mk (show w.heap.size ≤ B by omega); have HX := Aside0.mk hbox; have HB := Aside0.mk hb1; clear hbox hb1 hBe))
  go_ret
  exact ⟨B, rfl, HBE.out, HX.out, HB.out⟩
/-! ### short.Shortest -/
def firstS : List (Int × List Int) → Option (List Int × Int)
  | [] => some ([], 4)
  | x :: r => (short_set_size.f x.1).bind fun n => if n = 1 then some (x.2, 0) else firstS r
def short_Shortest.f (k : Nat) (a0 : List (List Int)) : Option (List Int × Int) := (short_check.f a0).bind fun e => if e = 0 then (if 0 < a0.length then (short_sets.f k a0).bind firstS else none) else some ([], e)
theorem IF.start {w w1 : World} (h : Below w.heap.size w w1) : IF 34 25 w w1.heap.size (w1.heap.size + 1) (fun _ => False) ((w1.alloc (.cells #[.slice none 0 0] 34)).alloc (.cells #[.int .i64 0] 25)) (.slice none 0 0) (.int .i64 0) := by
  have hs := h.size
  refine ⟨(h.alloc hs _).alloc (by simp; omega) _, blk_alloc (World.alloc_heap_new _ _) _, ?_, id, id, hs, by omega⟩
  have := World.alloc_heap_new (w1.alloc (.cells #[.slice none 0 0] 34)) (.cells #[.int .i64 0] 25)
  rwa [World.size_alloc] at this
theorem R_put2 {w : World} {C2 C3 base : Nat} {own ok : Nat → Prop} {W : World} {u2 u3 v v2 v3 : Value} {l : List Int} (h : Kd.R (Kd.int .i64) 3 W base ok v l) (hi : IF 34 25 w C2 C3 own W u2 u3) (_ : 3 ≠ 34 ∧ 3 ≠ 25) : Kd.R (Kd.int .i64) 3 ((W.setCell ⟨C2, 0, none⟩ v2).setCell ⟨C3, 0, none⟩ v3) base ok v l := by
  refine Kd.R_mono (Kd.R_step (Kd.R_bound h) fun b hb hlt => ?_) fun b hb => hb.1
  obtain ⟨_, _, _, q, hq, cells, hc⟩ := hb
  have hE : (Kd.int .i64).E = [] := rfl
  have hq : q = 3 := by rw [hE] at hq; simpa using hq
  subst hq
  have n2 : b ≠ C2 := fun e => by subst e; rw [hi.c2] at hc; cases hc
  have n3 : b ≠ C3 := fun e => by subst e; rw [hi.c3] at hc; cases hc
  rw [Below.heap_setCell _ ⟨C3, 0, none⟩ v3 b n3, Below.heap_setCell _ ⟨C2, 0, none⟩ v2 b n2]
theorem res_cells {fn : Func} (hf : fn.results = #[.cell 2 34, .cell 3 25]) {tmps : Array Value} {C2 C3 : Nat} (h2 : tmps.getD 2 undef = .pointer (some ⟨C2, 0, none⟩)) (h3 : tmps.getD 3 undef = .pointer (some ⟨C3, 0, none⟩)) {W : World} {A : Option Addr} {n c : Nat} {r : Int}
    (c2 : W.cell? ⟨C2, 0, none⟩ = some (.slice A n c)) (c3 : W.cell? ⟨C3, 0, none⟩ = some (.int .i64 r)) : (results fn tmps).run Try.prog W = .ok (.tuple #[.slice A n c, .int .i64 r]) W := by
  have h2' : tmps[2]?.getD undef = .pointer (some ⟨C2, 0, none⟩) := by simpa using h2
  have h3' : tmps[3]?.getD undef = .pointer (some ⟨C3, 0, none⟩) := by simpa using h3
  simp [results, hf, h2', h3', go_sem, c2, c3]
set_option maxHeartbeats 8000000 in
set_option maxRecDepth 100000 in
theorem short_Shortest.calls (k : Nat) (A0_0 : Option Addr) (c0_0 : Nat) (l0_0 : List (List Int)) (r1 : List Int) (r2 : Int) (w : World) (hr0_0 : Kd.C (Kd.slice 3 (Kd.int .i64)) w A0_0 l0_0.length l0_0) (hc0_0 : l0_0.length ≤ c0_0) (h : short_Shortest.f k l0_0 = some (r1, r2)) :
    Calls Try.prog 26 #[.agg #[.slice A0_0 l0_0.length c0_0]] w fun e w' => ∃ v0_ : Value, e = .returned (.tuple #[v0_, .int .i64 r2]) ∧ Kd.R (Kd.int .i64) 3 w' w.heap.size (fun _ => True) v0_ r1 ∧ Below w.heap.size w w' := by
  have HR := Aside0.mk hr0_0
  have HC := Aside0.mk hc0_0
  have HB0 := Below.refl w.heap.size w
  clear hr0_0 hc0_0
  obtain ⟨e, he, h⟩ := Option.bind_eq_some_iff.1 h
  have HE := Aside0.mk he
  have H := Aside0.mk h
  clear he h
  refine callsIn_wide.1 (callsIn_of_wp_marks (n := 0) Try.func26 rfl trivial (wpIn_wide.2 ?_) rfl)
  simp only [Try.ntmps26, List.size_toArray, List.length_cons, List.length_nil, Nat.reduceAdd, Nat.reduceSub, Array.replicate_succ, Array.replicate_zero, List.push_toArray, List.append_toArray, List.nil_append, List.cons_append]
  by_cases d : e = 0
  · rw [if_pos d] at H
    subst d
    have d' : ((0 : Int) == 0) = true := rfl
    go_wp2_with (first | ((with_reducible refine gate_dst (N := 1) rfl ?_); refine box_event ?hg (N := 1) ?hd (cs := #[.slice A0_0 l0_0.length c0_0]) (t := 24) ?hr ?_; (case hd => rfl); (case hg => rfl); (case hr => first | (go_simp; done) | (go_simp; rfl)); intro B hBe w1 hbox hb1; have HBE := Aside0.mk (show w.heap.size ≤ B by omega); have HB1 := Aside0.mk (below_step HB0 hb1);  have hI1 := IF.start HB1.out; have hx1 : ((w1.alloc (.cells #[.slice none 0 0] 34)).alloc (.cells #[.int .i64 0] 25)).heap[B]? = some (.cells #[.slice A0_0 l0_0.length c0_0] 24 (0, 0)) := blk_alloc (blk_alloc hbox _) _; have hcb : ((w1.alloc (.cells #[.slice none 0 0] 34)).alloc (.cells #[.int .i64 0] 25)).cell? ⟨B, 0, none⟩ = some (.slice A0_0 l0_0.length c0_0) := (blk_cell hx1 0).trans rfl; have HX := Aside0.mk hx1; have HI1 := Aside0.mk hI1; clear hbox hb1 hBe hI1 hx1)  | (go_at_call 58; refine (short_check.calls _ _ _ _ _ (Kd.C_below HR.out HI1.out.below) HC.out HE.out).mono ?_; rintro e2 w2 ⟨rfl, hb2⟩; have HI2 := Aside0.mk (HI1.out.next hb2); have hx2 := blk_below HX.out hb2; have HX2 := Aside0.mk hx2; have hcb2 : w2.cell? ⟨B, 0, none⟩ = some (.slice A0_0 l0_0.length c0_0) := (blk_cell hx2 0).trans rfl; have hc2 := blk_cell HI2.out.c2 0; have hf2 := blk_frozen HI2.out.c2 0; have hc3 := blk_cell HI2.out.c3 0; have hf3 := blk_frozen HI2.out.c3 0; simp only [List.getElem?_toArray, List.getElem?_cons_zero] at hc2 hc3; clear hb2 hx2)  | (go_at_call 59; refine (short_sets.makes _ _ _ _).mono ?_; rintro e2 w3 ⟨Bx, rfl, hBx, hx3, hb3⟩; have HI3 := Aside0.mk (HI2.out.next hb3); have HBX := Aside0.mk hBx; have HX3 := Aside0.mk hx3; clear hBx hx3 hb3))
    obtain ⟨hn, H2⟩ : 0 < l0_0.length ∧ (short_sets.f k l0_0).bind firstS = some (r1, r2) := by
      have h1 := H.out
      by_cases c : 0 < l0_0.length
      · exact ⟨c, by rw [if_pos c] at h1; exact h1⟩
      · rw [if_neg c] at h1; cases h1
    obtain ⟨L, hL, hF⟩ := Option.bind_eq_some_iff.1 H2
    have HF := Aside0.mk hF
    have HL := Aside0.mk hL
    clear H2 hF hL H hcb hcb2 hf2 hf3 hc2 hc3 d'
    have HBX' : Aside0 (w.heap.size ≤ Bx) := ⟨Nat.le_trans HI2.out.below.size HBX.out⟩
    have HN2 : Aside0 (w1.heap.size ≠ Bx) := ⟨fun e => by have := blk_ltS HI2.out.c2; have := HBX.out; omega⟩
    have HN3 : Aside0 (w1.heap.size + 1 ≠ Bx) := ⟨fun e => by have := blk_ltS HI2.out.c3; have := HBX.out; omega⟩
    have HNE : Aside0 (w1.heap.size ≠ w1.heap.size + 1) := ⟨by omega⟩
    clear HI1 HI2 HX HX2 HB1
    generalize w1.heap.size + 1 = C3 at HI3 HN3 HNE ⊢
    generalize w1.heap.size = C2 at HI3 HN2 HNE ⊢
    have seq := short_sets.seq k A0_0 c0_0 l0_0 L Bx w HR.out HC.out hn HL.out w3.heap.size
    refine wp_rangeFunc_iter (base := w.heap.size) (own0 := fun b => b = Bx) rfl (enters_ Try.func82 (by kernel_rfl) rfl) seq HI3.out.below.size (fun b hb => by subst hb; exact ⟨blk_ltS HX3.out, HBX'.out⟩) (fun W hW => ⟨below_step HI3.out.below hW, blk_below HX3.out hW, hW.size⟩) (fun own x W vs he => by obtain ⟨wv, rfl, _⟩ := he; rfl)
      (fun own pre W => IF 34 25 w C2 C3 own W (.slice none 0 0) (.int .i64 0) ∧ ∃ rest, L = pre ++ rest ∧ firstS rest = some (r1, r2))
      (fun c own pre W => c = .ret ∧ ∃ A n cp, IF 34 25 w C2 C3 own W (.slice A n cp) (.int .i64 r2) ∧ Kd.R (Kd.int .i64) 3 W w.heap.size (fun b => ¬ own b) (.slice A n cp) r1)
      ?stI ?stX ?start ?round ?done ?stop
    case stI =>
      rintro own own' s A B ⟨hi, hr⟩ hk hs hn
      exact ⟨hi.stable hk hs hn, hr⟩
    case stX =>
      rintro c own own' s A B ⟨rfl, A1, n1, c1, hi, hr⟩ hk hs hn
      exact ⟨rfl, A1, n1, c1, hi.stable hk hs hn, R_stableL hr hk hn⟩
    case start => exact ⟨⟨HI3.out.below, HI3.out.c2, HI3.out.c3, HN2.out, HN3.out, HI3.out.h2, HI3.out.h3⟩, L, rfl, HF.out⟩
    case round =>
      rintro l D own pre x vs W ⟨hi, rest, hL, hF⟩ ⟨rest2, hL2⟩ ⟨wv, rfl, hR⟩ ⟨r, hr⟩ ⟨dd, hd⟩ hl hD hnl hnD hbs
      obtain rfl : rest = x :: rest2 := List.append_cancel_left (hL.symm.trans hL2)
      obtain ⟨nz, hnz, hF2⟩ := Option.bind_eq_some_iff.1 hF
      have HNZ := Aside0.mk hnz
      have HF2 := Aside0.mk hF2
      have HP : Aside0 (L = pre ++ [x] ++ rest2) := ⟨by rw [hL2]; simp⟩
      have HI := Aside0.mk hi
      have HRV := Aside0.mk (Kd.R_lower hR HI3.out.below.size)
      have HBS := Aside0.mk hbs
      have HLW := Aside0.mk (show w.heap.size ≤ l from Nat.le_trans HI3.out.below.size hl)
      have HRL := Aside0.mk hr
      have n2l : C2 ≠ l := fun e => by subst e; rw [hi.c2] at hr; cases hr
      have n3l : C3 ≠ l := fun e => by subst e; rw [hi.c3] at hr; cases hr
      have n2D : C2 ≠ D := fun e => by subst e; rw [hi.c2] at hd; cases hd
      have n3D : C3 ≠ D := fun e => by subst e; rw [hi.c3] at hd; cases hd
      have K2 : Aside0 (¬ keepR w.heap.size own l D C2) := ⟨fun h => by rcases h with (h | h) | h | h; exact absurd hi.h2 (by omega); exact hi.n2 h; exact n2l h; exact n2D h⟩
      have K3 : Aside0 (¬ keepR w.heap.size own l D C3) := ⟨fun h => by rcases h with (h | h) | h | h; exact absurd hi.h3 (by omega); exact hi.n3 h; exact n3l h; exact n3D h⟩
      clear hi hR hbs hnz hF2 hF hL hL2 hd hr n2l n3l n2D n3D
      rw [zip2]
      simp only [List.setIfInBounds_toArray, List.set_cons_succ, List.set_cons_zero]
      gi_wp2
      refine ⟨RoundKept.refl _ _, ?_⟩
      rintro W2 ⟨r0, r1', hr1, rfl⟩
      have HK2 := Aside0.mk (KeptL.putObj (own := own) (.loop r1') hr1 HLW.out)
      have HI2 := Aside0.mk (HI.out.stable HK2.out HBS.out fun b hb => Or.inl hb)
      have HRV2 := Aside0.mk (R_stableL HRV.out HK2.out fun b hb => Or.inl hb)
      clear HK2 HI HRV hr1
      generalize W.putObj l (.loop r1') = W2 at HI2 HRV2 ⊢
      obtain ⟨Aw, cw, rfl⟩ := Kd.R_slice HRV2.out
      by_cases dn : nz = 1
      · subst dn
        have hh := HF2.out
        rw [if_pos rfl] at hh
        obtain ⟨rfl, rfl⟩ := Prod.mk.inj (Option.some.inj hh)
        have b1 : ((1 : Int) == 1) = true := rfl
        clear HF2 hh
        gi_wp2_with (refine ⟨trivial, rfl, ?_⟩; refine (CallsIn.inRound l (callsIn_wide.2 (short_set_size.calls _ _ _ HNZ.out))).mono ?_; rintro e3 W3 ⟨rfl, hd3⟩; have HB3 := Aside0.mk hd3.below; have HI4 := Aside0.mk (HI2.out.next hd3.below); have hc2 := (blk_cell HI4.out.c2 0).trans (rfl : _ = some (Value.slice none 0 0)); have hf2 := blk_frozen HI4.out.c2 0; have ho := HI4.out.other HNE.out (.slice Aw x.2.length cw); have hc3 := (blk_cell ho 0).trans (rfl : _ = some (Value.int .i64 0)); have hf3 := blk_frozen ho 0; have HRV4 := Aside0.mk (Kd.R_below HRV2.out hd3.below); clear hd3 ho)
        have HI5 := HI4.out.put HNE.out (.slice Aw x.2.length cw) (.int .i64 0)
        refine ⟨((RoundKept.of_below HB3.out).trans (RoundKept.set _ K2.out)).trans (RoundKept.set _ K3.out), rfl, _, _, _, HI5, ?_⟩
        exact R_put2 HRV4.out HI4.out (by decide)
      · have hh := HF2.out
        rw [if_neg dn] at hh
        have HF3 := Aside0.mk hh
        have b1 : (nz == 1) = false := by simp [dn]
        clear HF2 hh dn
        gi_wp2_with (refine ⟨trivial, rfl, ?_⟩; refine (CallsIn.inRound l (callsIn_wide.2 (short_set_size.calls _ _ _ HNZ.out))).mono ?_; rintro e3 W3 ⟨rfl, hd3⟩; have HB3 := Aside0.mk hd3.below; have HI4 := Aside0.mk (HI2.out.next hd3.below); clear hd3)
        exact ⟨RoundKept.of_below HB3.out, HI4.out, rest2, HP.out, HF3.out⟩
    case done =>
      rintro D own W ⟨hi, rest, hL, hF⟩ hbs hK hD
      obtain rfl : rest = [] := List.append_cancel_left (hL.symm.trans (List.append_nil L).symm)
      obtain ⟨rfl, rfl⟩ := Prod.mk.inj (Option.some.inj hF)
      have HI := Aside0.mk hi
      have HK := Aside0.mk hK
      have hc2 : W.cell? ⟨C2, 0, none⟩ = some (.slice none 0 0) := (blk_cell hi.c2 0).trans rfl
      have hf2 := blk_frozen hi.c2 0
      have ho := hi.other HNE.out (.slice none 0 0)
      have hc3 : (W.setCell ⟨C2, 0, none⟩ (.slice none 0 0)).cell? ⟨C3, 0, none⟩ = some (.int .i64 0) := (blk_cell ho 0).trans rfl
      have hf3 := blk_frozen ho 0
      have HD := Aside0.mk (show w.heap.size ≤ D from Nat.le_trans HI3.out.below.size hD)
      clear hi hK hL hF seq ho
      go_wp2_with fail
      have hK4 := D_put (D_put HK.out HI.out.c2 (.slice none 0 0)) (HI.out.other HNE.out (.slice none 0 0)) (.int .i64 4)
      have HI4 := (HI.out.put HNE.out (.slice none 0 0) (.int .i64 4)).putD hK4 HD.out (.deferred none)
      refine ⟨by simp, .inl ⟨_, _, rfl, run_takeDeferred hK4, ?_⟩⟩
      exact ⟨_, res_cells rfl rfl rfl ((blk_cell HI4.c2 0).trans rfl) ((blk_cell HI4.c3 0).trans rfl), _, rfl, Kd.R_nil _ _ _ _ _, HI4.below⟩
    case stop =>
      rintro D c own pre W ⟨rfl, A1, n1, c1, hi, hR⟩ hbs hK hD
      have HI := Aside0.mk hi
      have HK := Aside0.mk hK
      have HRV := Aside0.mk hR
      have HD := Aside0.mk (show w.heap.size ≤ D from Nat.le_trans HI3.out.below.size hD)
      clear hi hK hR seq
      go_wp2_with fail
      have HI4 := HI.out.putD HK.out HD.out (.deferred none)
      refine ⟨by simp, .inl ⟨_, _, rfl, run_takeDeferred HK.out, ?_⟩⟩
      exact ⟨_, res_cells rfl rfl rfl ((blk_cell HI4.c2 0).trans rfl) ((blk_cell HI4.c3 0).trans rfl), _, rfl, R_putD HRV.out HK.out _, HI4.below⟩
  · rw [if_neg d] at H
    have hh := Option.some.inj H.out
    obtain ⟨rfl, rfl⟩ := Prod.mk.inj hh
    have d' : (e == 0) = false := by simp [d]
    clear H hh
    go_wp2_with (first | ((with_reducible refine gate_dst (N := 1) rfl ?_); refine box_event ?hg (N := 1) ?hd (cs := #[.slice A0_0 l0_0.length c0_0]) (t := 24) ?hr ?_; (case hd => rfl); (case hg => rfl); (case hr => first | (go_simp; done) | (go_simp; rfl)); intro B hBe w1 hbox hb1; have HBE := Aside0.mk (show w.heap.size ≤ B by omega); have HB1 := Aside0.mk (below_step HB0 hb1);  have hI1 := IF.start HB1.out; have hx1 : ((w1.alloc (.cells #[.slice none 0 0] 34)).alloc (.cells #[.int .i64 0] 25)).heap[B]? = some (.cells #[.slice A0_0 l0_0.length c0_0] 24 (0, 0)) := blk_alloc (blk_alloc hbox _) _; have hcb : ((w1.alloc (.cells #[.slice none 0 0] 34)).alloc (.cells #[.int .i64 0] 25)).cell? ⟨B, 0, none⟩ = some (.slice A0_0 l0_0.length c0_0) := (blk_cell hx1 0).trans rfl; have HX := Aside0.mk hx1; have HI1 := Aside0.mk hI1; clear hbox hb1 hBe hI1 hx1)  | (go_at_call 58; refine (short_check.calls _ _ _ _ _ (Kd.C_below HR.out HI1.out.below) HC.out HE.out).mono ?_; rintro e2 w2 ⟨rfl, hb2⟩; have HI2 := Aside0.mk (HI1.out.next hb2); have hx2 := blk_below HX.out hb2; have HX2 := Aside0.mk hx2; have hcb2 : w2.cell? ⟨B, 0, none⟩ = some (.slice A0_0 l0_0.length c0_0) := (blk_cell hx2 0).trans rfl; have hc2 := blk_cell HI2.out.c2 0; have hf2 := blk_frozen HI2.out.c2 0; have hc3 := blk_cell HI2.out.c3 0; have hf3 := blk_frozen HI2.out.c3 0; simp only [List.getElem?_toArray, List.getElem?_cons_zero] at hc2 hc3; clear hb2 hx2))
    have HI4 := Aside0.mk (HI2.out.put (by omega) (.slice none 0 0) (.int .i64 e))
    refine ⟨_, res_cells rfl rfl rfl ((blk_cell HI4.out.c2 0).trans rfl) ((blk_cell HI4.out.c3 0).trans rfl), _, rfl, Kd.R_nil _ _ _ _ _, HI4.out.below⟩
end Go.Proofs.Ytcpmmkennnjalaa.Q
end
