/- Universal returns a word that visits all rooms of every connected maze of a size, or the documented error, for all numbers of rooms and doors; it is proved for every input, without conditions. (text 7 of 21) -/
import Derived.Test.YtgbjbgdnldklpaaZMazeUniversalf
import Derived.Test.YtgbjbgdnldklpaaZMazeUniversalc
/-! Part XSee -/
section
namespace Go.Proofs.Ytgbjbgdnldklpaa.Q
open Go.RowKit Go.Proofs.YtgbjbgdnldklpaaW.PrintWords Go.Proofs.YtgbjbgdnldklpaaW.PrintLast Go.Proofs.YtgbjbgdnldklpaaW.PrintMore
set_option linter.unusedVariables false
set_option linter.unusedSimpArgs false
/-! ### the reference's visitor: see -/
def ref10_see.l0 : Nat → List (List S44) → Bool → List Int → Int → Option Bool
  | 0, _, _, _, _ => none
  | k + 1, g, wk, l, s => if s < (g.length : Int) then (if wk = true then (mizmazeref10_Visits.f k g s l).bind fun v => (if v = true then ref10_see.l0 k g wk l (wrap64 (s + 1)) else some false) else some true) else some true
def ref10_see.f (k : Nat) (g : List (List S44)) (wk : Bool) (l : List Int) (all con : Int) : Option (Bool × Int × Int) :=
  (mizmazeref10_Connected.f k g).bind fun c => if c = true then (ref10_see.l0 k g wk l 0).bind fun b => some (b, wrap64 (all + 1), wrap64 (con + 1)) else some (true, wrap64 (all + 1), con)
theorem ref10_see.mono_l : ∀ k y0 y1 y2 y3, LeO (ref10_see.l0 k y0 y1 y2 y3) (ref10_see.l0 (k + 1) y0 y1 y2 y3)
  | 0 => fun _ _ _ _ r h => by simp [ref10_see.l0] at h
  | k + 1 => by
    intro y0 y1 y2 y3
    unfold ref10_see.l0
    exact LeO.ite (LeO.ite (LeO.bind (mizmazeref10_Visits.mono _ _ _ _) fun v => LeO.ite (ref10_see.mono_l k _ _ _ _) (LeO.refl _)) (LeO.refl _)) (LeO.refl _)
theorem ref10_see.mono (g : List (List S44)) (wk : Bool) (l : List Int) (all con : Int) (k : Nat) : LeO (ref10_see.f k g wk l all con) (ref10_see.f (k + 1) g wk l all con) :=
  LeO.bind (mizmazeref10_Connected.mono _ _) fun c => LeO.ite (LeO.bind (ref10_see.mono_l k _ _ _ _) fun b => LeO.refl _) (LeO.refl _)
/-- The visitor's block. -/
def VB (W : World) (V : Nat) (wk : Bool) (A : Option Addr) (n c : Nat) (all con : Int) : Prop := W.heap[V]? = some (.cells #[.bool wk, .slice A n c, .int .i64 all, .int .i64 con] 69 (0, 0))
/-- The world behind a visitor: its word, its block, the maze. -/
structure SV (w0 : World) (V : Nat) (wk : Bool) (A : Option Addr) (c : Nat) (l : List Int) (base : Nat) (ok : Nat → Prop) (v : Value) (W : World) (g : List (List S44)) (all con : Int) : Prop where
  word : Kd.C (Kd.int .i64) w0 A l.length l
  wc : l.length ≤ c
  old : Below w0.heap.size w0 W
  hV : w0.heap.size ≤ V
  vb : VB W V wk A l.length c all con
  S : Kd.S (Kd.slice 44 k44) 40 W base ok v g
  hb0 : w0.heap.size ≤ base
section
variable {w0 : World} {V : Nat} {wk : Bool} {A : Option Addr} {c : Nat} {l : List Int} {base : Nat} {ok : Nat → Prop} {v : Value} {W W1 : World} {g : List (List S44)} {all con : Int}
theorem below_setS {w W : World} (hB : Below w.heap.size w W) {V : Nat} (hV : w.heap.size ≤ V) (j : Nat) (u : Value) : Below w.heap.size w (W.setCell ⟨V, j, none⟩ u) :=
  ⟨hB.os, hB.tape, hB.output, Nat.le_trans hB.size (by simp [World.setCell]), fun b hb => (Below.heap_setCell W ⟨V, j, none⟩ u b (show b ≠ V by omega)).trans (hB.block b hb)⟩
theorem SV.below (h : SV w0 V wk A c l base ok v W g all con) (hb : Below W.heap.size W W1) : SV w0 V wk A c l base ok v W1 g all con :=
  ⟨h.word, h.wc, below_step h.old hb, h.hV, blk_below h.vb hb, Kd.S_below h.S hb, h.hb0⟩
theorem SV.putAll (h : SV w0 V wk A c l base ok v W g all con) (z : Int) : SV w0 V wk A c l base ok v (W.setCell ⟨V, 2, none⟩ (.int .i64 z)) g z con :=
  ⟨h.word, h.wc, below_setS h.old h.hV _ _, h.hV, blk_put h.vb 2 _ rfl, Kd.S_set h.S h.vb (by decide) _ _, h.hb0⟩
theorem SV.putCon (h : SV w0 V wk A c l base ok v W g all con) (z : Int) : SV w0 V wk A c l base ok v (W.setCell ⟨V, 3, none⟩ (.int .i64 z)) g all z :=
  ⟨h.word, h.wc, below_setS h.old h.hV _ _, h.hV, blk_put h.vb 3 _ rfl, Kd.S_set h.S h.vb (by decide) _ _, h.hb0⟩
theorem kept_set (W : World) (V j : Nat) (u : Value) : KeptBut (fun b => b = V) W (W.setCell ⟨V, j, none⟩ u) :=
  ⟨rfl, rfl, rfl, by simp [World.setCell], fun b _ hn => Below.heap_setCell W ⟨V, j, none⟩ u b hn⟩
theorem SV.wordC (h : SV w0 V wk A c l base ok v W g all con) : Kd.C (Kd.int .i64) W A l.length l := Kd.C_below h.word h.old
theorem SV.gC {A0 : Option Addr} {n0 c0 : Nat} (h : SV w0 V wk A c l base ok (.slice A0 n0 c0) W g all con) : n0 = g.length ∧ g.length ≤ c0 ∧ Kd.C (Kd.slice 44 k44) W A0 g.length g := by
  obtain ⟨h1, h2, h3⟩ := Kd.S_reads' h.S
  exact ⟨h1, by omega, h3⟩
end
def ref10_see.T8 : Bool × List (List Nat × List Nat) := (true, [([], []), ([], []), ([], []), ([2], [2]), ([3], [3]), ([4], [4]), ([0, 1, 5], [0, 1, 5]), ([6], [6])])
def ref10_see.B8 : List Nat := [0, 0, 0, 4, 12, 28, 63, 127]
theorem ref10_see.tab8 : rtab .any (opsOf Try.f61 8) = ref10_see.T8 := by kernel_rfl
theorem ref10_see.bits8 : waitsOk ref10_see.T8.2 ref10_see.B8 = true := by kernel_rfl
set_option maxHeartbeats 1000000 in
set_option maxRecDepth 100000 in
theorem ref10_see.calls (k : Nat) (w0 : World) (V : Nat) (wk : Bool) (A : Option Addr) (c : Nat) (l : List Int) (base : Nat) (ok : Nat → Prop) (A0 : Option Addr) (c0 : Nat) (w : World) (g : List (List S44)) (all con all2 con2 : Int) (r : Bool)
    (hS : SV w0 V wk A c l base ok (.slice A0 g.length c0) w g all con) (hVw : V < w.heap.size) (h : ref10_see.f k g wk l all con = some (r, all2, con2)) :
    Calls Try.prog 61 #[.pointer (some ⟨V, 0, none⟩), .agg #[.slice A0 g.length c0]] w fun e w' => e = .returned (.bool r) ∧ SV w0 V wk A c l base ok (.slice A0 g.length c0) w' g all2 con2 ∧ KeptBut (fun b => b = V) w w' := by
  have HS := Aside0.mk hS
  have HVw := Aside0.mk hVw
  obtain ⟨b, hb, hh⟩ := Option.bind_eq_some_iff.1 h
  have HC := Aside0.mk hb
  have H := Aside0.mk hh
  clear hS hVw hb h hh
  cases b with
  | false =>
    obtain ⟨rfl, rfl, rfl⟩ : true = r ∧ wrap64 (all + 1) = all2 ∧ con = con2 := by have := H.out; simpa using this
    clear H
    go_enter Try.func61, Try.ntmps61
    go_wp2_with (first | ((with_reducible refine gate_dst (N := 3) rfl ?_); refine box_event ?hg (N := 3) ?hd (cs := #[.slice A0 g.length c0]) (t := 38) ?hr ?_; (case hd => rfl); (case hg => rfl); (case hr => first | (go_simp; done) | (go_simp; rfl)); intro B hBe w1 hbox hb1; go_loud ( have HX := Aside0.mk hbox; have HBV := Aside0.mk (show V < B from Nat.lt_of_lt_of_le HVw.out (by omega)); have HS1 := Aside0.mk (HS.out.below hb1); have HK1 := Aside0.mk (KeptBut.of_below (own := fun b => b = V) hb1); have hv2 : w1.cell? ⟨V, 2, none⟩ = some (.int .i64 all) := (blk_cell HS1.out.vb 2).trans rfl; have hf2 := blk_frozen HS1.out.vb 2; have hcB : w1.cell? ⟨B, 0, none⟩ = some (.slice A0 g.length c0) := (blk_cell hbox 0).trans rfl; have hne : ¬ V = B := Nat.ne_of_lt HBV.out; have hne' : ¬ B = V := fun e => hne e.symm; clear hbox hb1 hBe))  | (go_at_call 34; refine (mizmazeref10_Connected.calls k A0 c0 g false _ (HS1.out.putAll (wrap64 (all + 1))).gC.2.2 (HS1.out.putAll (wrap64 (all + 1))).gC.2.1 HC.out).mono ?_; rintro e w3 ⟨rfl, hb3⟩; have HS3 := Aside0.mk ((HS1.out.putAll (wrap64 (all + 1))).below hb3); have HK3 := Aside0.mk ((HK1.out.trans (kept_set w1 V 2 _)).trans (KeptBut.of_below hb3)); have HX3 := Aside0.mk (blk_below (blk_far HX.out (p := ⟨V, 2, none⟩) hne' _) hb3); clear hb3 hv2 hf2 hcB hne hne'))
    go_ret
    exact ⟨rfl, HS3.out, HK3.out⟩
  | true =>
    obtain ⟨b, hb, h⟩ := Option.bind_eq_some_iff.1 (show (ref10_see.l0 k g wk l 0).bind _ = some _ from H.out)
    obtain ⟨rfl, rfl, rfl⟩ : b = r ∧ wrap64 (all + 1) = all2 ∧ wrap64 (con + 1) = con2 := by simpa using h
    have HL := Aside0.mk hb
    clear hb H h
    go_enter Try.func61, Try.ntmps61
    go_wp2_with (first | ((with_reducible refine gate_dst (N := 3) rfl ?_); refine box_event ?hg (N := 3) ?hd (cs := #[.slice A0 g.length c0]) (t := 38) ?hr ?_; (case hd => rfl); (case hg => rfl); (case hr => first | (go_simp; done) | (go_simp; rfl)); intro B hBe w1 hbox hb1; go_loud ( have HX := Aside0.mk hbox; have HBV := Aside0.mk (show V < B from Nat.lt_of_lt_of_le HVw.out (by omega)); have HS1 := Aside0.mk (HS.out.below hb1); have HK1 := Aside0.mk (KeptBut.of_below (own := fun b => b = V) hb1); have hv2 : w1.cell? ⟨V, 2, none⟩ = some (.int .i64 all) := (blk_cell HS1.out.vb 2).trans rfl; have hf2 := blk_frozen HS1.out.vb 2; have hcB : w1.cell? ⟨B, 0, none⟩ = some (.slice A0 g.length c0) := (blk_cell hbox 0).trans rfl; have hne : ¬ V = B := Nat.ne_of_lt HBV.out; have hne' : ¬ B = V := fun e => hne e.symm; clear hbox hb1 hBe))  | (go_at_call 34; refine (mizmazeref10_Connected.calls k A0 c0 g true _ (HS1.out.putAll (wrap64 (all + 1))).gC.2.2 (HS1.out.putAll (wrap64 (all + 1))).gC.2.1 HC.out).mono ?_; rintro e w3 ⟨rfl, hb3⟩; have HS3 := Aside0.mk ((HS1.out.putAll (wrap64 (all + 1))).below hb3); have HK3 := Aside0.mk ((HK1.out.trans (kept_set w1 V 2 _)).trans (KeptBut.of_below hb3)); have HX3 := Aside0.mk (blk_below (blk_far HX.out (p := ⟨V, 2, none⟩) hne' _) hb3); clear hb3 hv2 hf2 hcB hne hne'; have hv3 : w3.cell? ⟨V, 3, none⟩ = some (.int .i64 con) := (blk_cell HS3.out.vb 3).trans rfl; have hf3 := blk_frozen HS3.out.vb 3))
    have HS4 := Aside0.mk (HS3.out.putCon (wrap64 (con + 1)))
    have HK4 := Aside0.mk (HK3.out.trans (kept_set w3 V 3 (.int .i64 (wrap64 (con + 1)))))
    have HX4 := Aside0.mk (blk_far HX3.out (p := ⟨V, 3, none⟩) (Nat.ne_of_gt HBV.out) (.int .i64 (wrap64 (con + 1))))
    clear hv3 hf3 HS3 HK3 HX3 HS1 HK1 HX
    generalize w3.setCell ⟨V, 3, none⟩ (.int .i64 (wrap64 (con + 1))) = w4 at HS4 HK4 HX4 ⊢
    go_loopg [5] k (fun kq v5 w' => ∃ (s : Int), v5 = .int .i64 s ∧ Aside0 (ref10_see.l0 kq g wk l s = some b) ∧ Aside0 (kq ≤ k) ∧ Aside0 (SV w0 V wk A c l base ok (.slice A0 g.length c0) w' g (wrap64 (all + 1)) (wrap64 (con + 1))) ∧ Aside0 (KeptBut (fun b => b = V) w w') ∧ Aside0 (w'.heap[B]? = some (.cells #[.slice A0 g.length c0] 38 (0, 0))))
    case atStart => exact ⟨0, rfl, HL, ⟨Nat.le_refl _⟩, HS4, HK4, HX4⟩
    case round =>
      clear HL HS4 HK4 HX4
      obtain ⟨s, rfl, HA, HKK, HS5, HK5, HX5⟩ := hrel
      cases gk with
      | zero => exact absurd HA.out (by simp [ref10_see.l0])
      | succ k1 =>
        have H := HA.out
        clear HA
        simp only [ref10_see.l0] at H
        have hcB : wr.cell? ⟨B, 0, none⟩ = some (.slice A0 g.length c0) := (blk_cell HX5.out 0).trans rfl
        have hc0 : wr.cell? ⟨V, 0, none⟩ = some (.bool wk) := (blk_cell HS5.out.vb 0).trans rfl
        by_cases d1 : s < (g.length : Int)
        · rw [if_pos d1] at H
          have d1b := decide_eq_true d1
          clear d1
          by_cases d2 : wk = true
          · rw [if_pos d2] at H
            subst d2
            obtain ⟨vv, hvv, H2⟩ := Option.bind_eq_some_iff.1 H
            have HV := Aside0.mk hvv
            have H3 := Aside0.mk H2
            clear H H2 hvv
            go_wp2_with fail
            have hS : wr.drew.cell? ⟨B, 0, none⟩ = some (.slice A0 g.length c0) ∧ wr.drew.cell? ⟨V, 1, none⟩ = some (.slice A l.length c) := ⟨hcB, (blk_cell HS5.out.vb 1).trans rfl⟩
            refine start_ (n := 8) (S := fun w' => w'.cell? ⟨B, 0, none⟩ = some (.slice A0 g.length c0) ∧ w'.cell? ⟨V, 1, none⟩ = some (.slice A l.length c)) (ds := []) #[false, false, false, false, false, false, false, false] (by kernel_rfl) rfl rfl hS (fun hHeld => ?_); refine with_tabW ref10_see.tab8 ref10_see.bits8 (fun HT_ HW_ => ?_)
            have HSd := Aside0.mk (HS5.out.below (below_drew (Below.refl wr.heap.size wr)))
            have HKd := Aside0.mk (HK5.out.trans (KeptBut.of_below (below_drew (Below.refl wr.heap.size wr))))
            have HXd := Aside0.mk (blk_below HX5.out (below_drew (Below.refl wr.heap.size wr)))
            clear hS hcB hc0
            generalize wr.drew = wd at HSd HKd HXd hHeld ⊢
            refine pure_ (i := 1) (N := some 37) (v := ?_) (a' := ?_) #[false, true, false, false, false, false, false, false] rfl rfl (any_of HT_.out (by kernel_rfl)) (fun _ _ _ h => h) (Or.inl ⟨by rfl, ?_⟩) ?_ ?_
            rotate_left
            · intro w'
              go_simp
              (try with_reducible rfl)
            rotate_left
            · simp only [Act.put, List.setIfInBounds_toArray, List.set_cons_zero, List.set_cons_succ, i64_w, i32_w]
              rfl
            refine pure_ (i := 2) (N := some 38) (v := ?_) (a' := ?_) #[false, true, true, false, false, false, false, false] rfl rfl (any_of HT_.out (by kernel_rfl)) (fun _ _ _ h => h) (Or.inl ⟨by rfl, ?_⟩) ?_ ?_
            rotate_left
            · intro w'
              go_simp
              (try with_reducible rfl)
            rotate_left
            · simp only [Act.put, List.setIfInBounds_toArray, List.set_cons_zero, List.set_cons_succ, i64_w, i32_w]
              rfl
            refine pure_ (i := 3) (N := some 39) (v := ?_) (a' := ?_) #[false, true, true, true, false, false, false, false] rfl rfl (any_of HT_.out (by kernel_rfl)) (fun _ _ _ h => h) (Or.inl ⟨by rfl, ?_⟩) ?_ ?_
            rotate_left
            · intro w'
              go_simp
              (try with_reducible rfl)
            rotate_left
            · simp only [Act.put, List.setIfInBounds_toArray, List.set_cons_zero, List.set_cons_succ, i64_w, i32_w]
              rfl
            refine pure_ (i := 4) (N := some 40) (v := ?_) (a' := ?_) #[false, true, true, true, true, false, false, false] rfl rfl (any_of HT_.out (by kernel_rfl)) (fun _ _ _ h => h) (Or.inl ⟨by rfl, ?_⟩) ?_ ?_
            rotate_left
            · intro w'
              go_simp
              (try with_reducible rfl)
            rotate_left
            · simp only [Act.put, List.setIfInBounds_toArray, List.set_cons_zero, List.set_cons_succ, i64_w, i32_w]
              rfl
            refine take_ (i := 0) (N := some 36) (v := ?_) (a' := ?_) #[true, true, true, true, true, false, false, false] rfl rfl (take_ofW HT_.out HW_.out (by kernel_rfl)) (fun _ _ _ h => h) (Or.inl ⟨by rfl, ?_⟩) hHeld ?_ ?_
            rotate_left
            · intro w' s0
              go_simp
              (try with_reducible rfl)
            rotate_left
            · simp only [Act.put, List.setIfInBounds_toArray, List.set_cons_zero, List.set_cons_succ, i64_w, i32_w]
              rfl
            refine take_ (i := 5) (N := some 41) (v := ?_) (a' := ?_) #[true, true, true, true, true, true, false, false] rfl rfl (take_ofW HT_.out HW_.out (by kernel_rfl)) (fun _ _ _ h => h) (Or.inl ⟨by rfl, ?_⟩) hHeld ?_ ?_
            rotate_left
            · intro w' s0
              go_simp
              (try with_reducible rfl)
            rotate_left
            · simp only [Act.put, List.setIfInBounds_toArray, List.set_cons_zero, List.set_cons_succ, i64_w, i32_w]
              rfl
            refine one_ (i := 6) (N := some 42) #[true, true, true, true, true, true, true, false] rfl rfl (one_of HT_.out (by kernel_rfl)) (by decide) (fun K hK => ?_)
            refine goes_ Try.func36 (by kernel_rfl) rfl #[.agg #[.slice A0 g.length c0], .int .i64 s, .slice A l.length c] (by rfl) rfl rfl (by (try simp only [List.map_toArray, List.map_cons, List.map_nil]); first | done | rfl) ?_
            refine (mizmazeref10_Visits.calls k1 A0 c0 g s A c l vv _ HSd.out.gC.2.2 HSd.out.gC.2.1 HSd.out.wordC HSd.out.wc HV.out).mono ?_
            rintro e w5 ⟨rfl, hb5⟩
            refine ⟨_, rfl, ?_⟩
            have HS6 := Aside0.mk (HSd.out.below hb5)
            have HK6 := Aside0.mk (HKd.out.trans (KeptBut.of_below hb5))
            have HX6 := Aside0.mk (blk_below HXd.out hb5)
            clear hb5 HSd HKd HXd HS5 HK5 HX5
            refine hK.out _ _ ⟨(blk_cell HX6.out 0).trans rfl, (blk_cell HS6.out.vb 1).trans rfl⟩ (fun hHeld => ?_)
            clear hK K
            refine norm_ (a' := ?_) ?_ ?_
            rotate_left
            · show Act.put _ (some 42) _ = _
              simp only [Act.put, List.setIfInBounds_toArray, List.set_cons_zero, List.set_cons_succ, i64_w, i32_w]
              rfl
            refine pure_ (i := 7) (N := some 43) (v := ?_) (a' := ?_) #[true, true, true, true, true, true, true, true] rfl rfl (any_of HT_.out (by kernel_rfl)) (fun _ _ _ h => h) (Or.inl ⟨by rfl, ?_⟩) ?_ ?_
            rotate_left
            · intro w'
              go_simp
              (try with_reducible rfl)
            rotate_left
            · simp only [Act.put, List.setIfInBounds_toArray, List.set_cons_zero, List.set_cons_succ, i64_w, i32_w]
              rfl
            refine done_ (done_of HT_.out (by kernel_rfl)) ?_
            clear HT_ HW_ hHeld
            cases vv with
            | true =>
              have H4 := Aside0.mk ((if_pos rfl).symm.trans H3.out)
              clear H3
              go_wp2_with fail
              go_roundg k1
              case measure => omega
              case rel => exact ⟨_, rfl, H4, ⟨by have := HKK.out; omega⟩, HS6, HK6, HX6⟩
            | false =>
              obtain rfl : false = b := by have := H3.out; simpa using this
              go_wp2_with fail
              go_ret
              exact ⟨rfl, HS6.out, HK6.out⟩
          · rw [if_neg d2] at H
            obtain rfl := Option.some.inj H
            obtain rfl : wk = false := by simpa using d2
            clear H d2
            go_wp2_with fail
            go_ret
            exact ⟨rfl, HS5.out, HK5.out⟩
        · rw [if_neg d1] at H
          obtain rfl := Option.some.inj H
          have d1b := decide_eq_false d1
          clear H d1
          go_wp2_with fail
          go_ret
          exact ⟨rfl, HS5.out, HK5.out⟩
end Go.Proofs.Ytgbjbgdnldklpaa.Q
end
/-! Part XFill -/
section
namespace Go.Proofs.Ytgbjbgdnldklpaa.Q
open Go.RowKit Go.Proofs.YtgbjbgdnldklpaaW.PrintWords Go.Proofs.YtgbjbgdnldklpaaW.PrintLast Go.Proofs.YtgbjbgdnldklpaaW.PrintMore
set_option linter.unusedVariables false
set_option linter.unusedSimpArgs false
/-! ### the reference's visitor: fill -/
abbrev Grid := List (List S44)
def setG (d : Nat) (g : Grid) (p : Nat) (x : S44) : Grid := g.set (p / d) ((rd_L4 g ((p / d : Nat) : Int)).set (p % d) x)
def atG (d : Nat) (g : Grid) (p : Nat) : S44 := rd_T44 (rd_L4 g ((p / d : Nat) : Int)) ((p % d : Nat) : Int)
def noD : S44 := ⟨-1, 0⟩
def doorN (a b : Nat) : S44 := ⟨(a : Int), (b : Int)⟩
mutual
def ref10_fill.l0 : Nat → Nat → Nat → Bool → List Int → Grid → Nat → Int → Int → Option (Bool × Grid × Int × Int)
  | 0, _, _, _, _, _, _, _, _ => none
  | k + 1, n, d, wk, l, g, p, all, con => if p < n * d then (if 0 ≤ (atG d g p).f0 then ref10_fill.l0 k n d wk l g (p + 1) all con else ref10_fill.l1 k n d wk l g p p all con) else (ref10_see.f k g wk l all con).bind fun r => some (r.1, g, r.2.1, r.2.2)
def ref10_fill.l1 : Nat → Nat → Nat → Bool → List Int → Grid → Nat → Nat → Int → Int → Option (Bool × Grid × Int × Int)
  | 0, _, _, _, _, _, _, _, _, _ => none
  | k + 1, n, d, wk, l, g, p, q, all, con => if q < n * d then (if 0 ≤ (atG d g q).f0 then ref10_fill.l1 k n d wk l g p (q + 1) all con else
      (ref10_fill.l0 k n d wk l (setG d (setG d g p (doorN (q / d) (q % d))) q (doorN (p / d) (p % d))) (p + 1) all con).bind fun r =>
        if r.1 = true then ref10_fill.l1 k n d wk l (setG d (setG d r.2.1 p noD) q noD) p (q + 1) r.2.2.1 r.2.2.2 else some (false, setG d (setG d r.2.1 p noD) q noD, r.2.2.1, r.2.2.2)) else some (true, g, all, con)
end
theorem ref10_fill.mono_l : ∀ k, (∀ n d wk l g p all con, LeO (ref10_fill.l0 k n d wk l g p all con) (ref10_fill.l0 (k + 1) n d wk l g p all con)) ∧ (∀ n d wk l g p q all con, LeO (ref10_fill.l1 k n d wk l g p q all con) (ref10_fill.l1 (k + 1) n d wk l g p q all con))
  | 0 => ⟨fun _ _ _ _ _ _ _ _ r h => by simp [ref10_fill.l0] at h, fun _ _ _ _ _ _ _ _ _ r h => by simp [ref10_fill.l1] at h⟩
  | k + 1 => by
    obtain ⟨ih0, ih1⟩ := ref10_fill.mono_l k
    refine ⟨?_, ?_⟩
    · intro n d wk l g p all con
      unfold ref10_fill.l0
      exact LeO.ite (LeO.ite (ih0 _ _ _ _ _ _ _ _) (ih1 _ _ _ _ _ _ _ _ _)) (LeO.bind (ref10_see.mono _ _ _ _ _ _) fun _ => LeO.refl _)
    · intro n d wk l g p q all con
      unfold ref10_fill.l1
      exact LeO.ite (LeO.ite (ih1 _ _ _ _ _ _ _ _ _) (LeO.bind (ih0 _ _ _ _ _ _ _ _) fun r => LeO.ite (ih1 _ _ _ _ _ _ _ _ _) (LeO.refl _))) (LeO.refl _)
structure ShG (n d : Nat) (g : Grid) : Prop where
  len : g.length = n
  n1 : 1 ≤ n
  d1 : 1 ≤ d
  nd : n * d ≤ 12
  row : ∀ r : Nat, r < n → (rd_L4 g (r : Int)).length = d
theorem ShG.cell {n d : Nat} {g : Grid} (h : ShG n d g) {p : Nat} (hp : p < n * d) : p / d < n ∧ p % d < d := by
  have := h.d1
  exact ⟨(Nat.div_lt_iff_lt_mul (by omega)).2 hp, Nat.mod_lt _ (by omega)⟩
theorem ShG.set {n d : Nat} {g : Grid} (h : ShG n d g) (p : Nat) (x : S44) : ShG n d (setG d g p x) := by
  refine ⟨by unfold setG; rw [List.length_set]; exact h.len, h.n1, h.d1, h.nd, fun r hr => ?_⟩
  unfold setG
  have hl := h.len
  show ((g.set (p / d) _).getD r []).length = d
  rw [List.getD_eq_getElem?_getD, List.getElem?_set]
  by_cases e : p / d = r
  · rw [if_pos e, if_pos (by omega)]
    show (List.set _ _ _).length = d
    rw [List.length_set, e]
    exact h.row r hr
  · rw [if_neg e, ← List.getD_eq_getElem?_getD]
    exact h.row r hr
section
variable {w0 : World} {V : Nat} {wk : Bool} {A : Option Addr} {c : Nat} {l : List Int} {base : Nat} {ok : Nat → Prop} {W : World} {g : Grid} {all con : Int} {ad : Addr} {n d c0 : Nat}
theorem SV.put (h : SV w0 V wk A c l base ok (.slice (some ad) n c0) W g all con) (hG : ShG n d g) {p : Nat} (hp : p < n * d) (x : S44) :
    ∃ gi ci, W.cell? (ad.add (p / d)) = some (.slice (some ⟨gi, 0, none⟩) d ci) ∧ SV w0 V wk A c l base ok (.slice (some ad) n c0) (W.setCells gi (p % d * 2) (doorCells x)) (setG d g p x) all con ∧ KeptBut (fun b => ok b) W (W.setCells gi (p % d * 2) (doorCells x)) ∧ (∃ cells, W.heap[gi]? = some (.cells cells 44 (0, 0))) ∧ ok gi ∧
      (Instr.storeAt 44 (.pointer (some ⟨gi, p % d * 2, none⟩)) (.agg #[.int .i64 x.f0, .int .i64 x.f1])).run Try.prog W = .ok () (W.setCells gi (p % d * 2) (doorCells x)) := by
  obtain ⟨h1, h2⟩ := hG.cell hp
  have hrow := hG.row _ h1
  obtain ⟨gi, ci, e1, e2, e3, e4, e5, e6⟩ := grid_put (Kd.S_bound h.S) ((p / d : Nat) : Int) ((p % d : Nat) : Int) (Int.natCast_nonneg _) (Int.ofNat_lt.2 (by rw [← hG.len] at h1; have := h.gC.1; omega)) (Int.natCast_nonneg _) (Int.ofNat_lt.2 (by rw [hrow]; exact h2)) x
  rw [hrow] at e1
  simp only [Int.toNat_natCast] at e1 e4 e5 e6
  have hgb : base ≤ gi := e2.2.1
  have hgV : gi ≠ V := by
    rintro rfl
    obtain ⟨cells, hc⟩ := e3
    have := h.vb
    unfold VB at this
    rw [hc] at this
    have := Option.some.inj this
    injection this with _ ht
    exact absurd ht (by decide)
  refine ⟨gi, ci, e1, ⟨h.word, h.wc, ?_, h.hV, ?_, Kd.S_mono e4 fun k hk => hk.1, h.hb0⟩, KeptBut.of_grown e5 (fun b hb => by injection hb with hb; subst hb; exact e2.1), e3, e2.1, e6⟩
  · have hb := h.hb0
    exact ⟨e5.os.trans h.old.os, e5.tape.trans h.old.tape, e5.output.trans h.old.output, Nat.le_trans h.old.size e5.size, fun b hlt => (e5.block b (Nat.lt_of_lt_of_le hlt h.old.size) (fun e => by injection e with e; omega)).trans (h.old.block b hlt)⟩
  · exact (e5.block V (blk_lt h.vb) (fun e => by injection e with e; exact hgV e.symm)).trans h.vb
theorem SV.put' (h : SV w0 V wk A c l base ok (.slice (some ad) n c0) W g all con) (hG : ShG n d g) {p : Nat} (hp : p < n * d) (x : S44) :
    ∃ gp ci W1, W.cell? (ad.add (p / d)) = some (.slice (some gp) d ci) ∧ SV w0 V wk A c l base ok (.slice (some ad) n c0) W1 (setG d g p x) all con ∧ KeptBut (fun b => ok b) W W1 ∧
      (Instr.storeAt 44 (.pointer (some (gp.add (p % d * 2)))) (.agg #[.int .i64 x.f0, .int .i64 x.f1])).run Try.prog W = .ok () W1 := by
  obtain ⟨gi, ci, h1, h2, h3, _, _, h6⟩ := h.put hG hp x
  refine ⟨⟨gi, 0, none⟩, ci, _, h1, h2, h3, ?_⟩
  rw [add_plain]
  exact h6
theorem SV.mono {ok' : Nat → Prop} {v : Value} (h : SV w0 V wk A c l base ok v W g all con) (hk : ∀ b, ok b → ok' b) : SV w0 V wk A c l base ok' v W g all con := ⟨h.word, h.wc, h.old, h.hV, h.vb, Kd.S_mono h.S hk, h.hb0⟩
theorem SV.but {B : Nat} {cs : Array Value} {v : Value} (h : SV w0 V wk A c l base ok v W g all con) (hB : W.heap[B]? = some (.cells cs 38 (0, 0))) : SV w0 V wk A c l base (fun b => ok b ∧ b ≠ B) v W g all con := ⟨h.word, h.wc, h.old, h.hV, h.vb, Kd.S_types h.S hB (by decide), h.hb0⟩
/-- A door that is read. -/
theorem SV.get (h : SV w0 V wk A c l base ok (.slice (some ad) n c0) W g all con) (hG : ShG n d g) {p : Nat} (hp : p < n * d) :
    ∃ gi ci, W.cell? (ad.add (p / d)) = some (.slice (some gi) d ci) ∧ W.cell? (gi.add (p % d * 2)) = some (.int .i64 (atG d g p).f0) := by
  obtain ⟨h1, h2⟩ := hG.cell hp
  have hrow := hG.row _ h1
  obtain ⟨_, _, hC⟩ := h.gC
  obtain ⟨ad', A0, c1, e, hc, hl, hr⟩ := at_L4 hC ((p / d : Nat) : Int) (Int.natCast_nonneg _) (Int.ofNat_lt.2 (by rw [hG.len]; exact h1))
  injection e with e
  subst e
  obtain ⟨gi, e1, e2, _⟩ := at_T44 hr ((p % d : Nat) : Int) (Int.natCast_nonneg _) (Int.ofNat_lt.2 (by rw [hrow]; exact h2))
  subst e1
  rw [hrow] at hc
  simp only [Int.toNat_natCast] at hc e2
  exact ⟨gi, c1, hc, e2⟩
end
def FillOk (w0 : World) (V : Nat) (wk : Bool) (A : Option Addr) (c : Nat) (l : List Int) (base n d : Nat) (k : Nat) : Prop :=
  ∀ (ok : Nat → Prop) (g : Grid) (p : Nat) (all con all2 con2 : Int) (b : Bool) (g2 : Grid) (ad : Addr) (c0 : Nat) (W : World), ShG n d g → SV w0 V wk A c l base ok (.slice (some ad) n c0) W g all con → V < W.heap.size → p ≤ n * d → ref10_fill.l0 k n d wk l g p all con = some (b, g2, all2, con2) →
    Calls Try.prog 54 #[.pointer (some ⟨V, 0, none⟩), .agg #[.slice (some ad) n c0], .int .i64 (p : Int)] W fun e W' => e = .returned (.bool b) ∧ SV w0 V wk A c l base ok (.slice (some ad) n c0) W' g2 all2 con2 ∧ ShG n d g2 ∧ KeptBut (fun x => x = V ∨ ok x) W W'
theorem run_store_op {P : Program} {f : Operand → Value} {oi : Oper} {t : TypeId} {p v : Operand} {w w1 : World} {ptr u : Value} (ho : oi.op = .store t p v) (hp : f p = ptr) (hu : f v = u) (hst : (Instr.storeAt t ptr u).run P w = .ok () w1) : (execOp f oi).run P w = .ok .skip w1 := by
  unfold execOp
  simp only [ho, hp, hu, Sem.run_bind, Sem.run_pure, Result.andThen_ok, hst]
theorem nat_q {p d : Nat} (hp : p < 13) : Int.tdiv (p : Int) (d : Int) = ((p / d : Nat) : Int) ∧ IntKind.i64.wrap ((p / d : Nat) : Int) = ((p / d : Nat) : Int) ∧ wrap64 ((p / d : Nat) : Int) = ((p / d : Nat) : Int) := by
  have h1 : p / d ≤ p := Nat.div_le_self _ _
  have e : (p : Int).tdiv (d : Int) = ((p / d : Nat) : Int) := by
    rw [Int.tdiv_eq_ediv_of_nonneg (by omega)]; norm_cast
  generalize p / d = r at *
  exact ⟨e, by rw [IntKind.wrap_i64]; omega, by unfold wrap64; omega⟩
theorem nat_r {p d : Nat} (hp : p < 13) : Int.tmod (p : Int) (d : Int) = ((p % d : Nat) : Int) ∧ IntKind.i64.wrap ((p % d : Nat) : Int) = ((p % d : Nat) : Int) ∧ wrap64 ((p % d : Nat) : Int) = ((p % d : Nat) : Int) := by
  have h1 : p % d ≤ p := Nat.mod_le _ _
  have e : (p : Int).tmod (d : Int) = ((p % d : Nat) : Int) := by
    rw [Int.tmod_eq_emod_of_nonneg (by omega)]; norm_cast
  generalize p % d = r at *
  exact ⟨e, by rw [IntKind.wrap_i64]; omega, by unfold wrap64; omega⟩
theorem nat_m {n d : Nat} (h : n * d ≤ 12) : (n : Int) * (d : Int) = ((n * d : Nat) : Int) ∧ IntKind.i64.wrap ((n * d : Nat) : Int) = ((n * d : Nat) : Int) ∧ wrap64 ((n * d : Nat) : Int) = ((n * d : Nat) : Int) := by
  have e : (n : Int) * (d : Int) = ((n * d : Nat) : Int) := by norm_cast
  generalize n * d = r at *
  exact ⟨e, by rw [IntKind.wrap_i64]; omega, by unfold wrap64; omega⟩
def ref10_fill.T10 : Bool × List (List Nat × List Nat) := (true, [([], []), ([0], [0]), ([], []), ([], []), ([2, 3], [2, 3]), ([1, 4], [1, 4]), ([5], [5]), ([], []), ([], []), ([7, 8], [7, 8]), ([], []), ([], []), ([10, 11], [10, 11]), ([], []), ([], []), ([13, 14], [13, 14]), ([12, 15], [12, 15]), ([6, 9, 0, 1, 2, 3, 4, 5, 6, 7, 8, 9, 10, 11, 12, 13, 14, 15, 16], [6, 9]), ([17, 16, 0, 1, 2, 3, 4, 5, 6, 7, 8, 9, 10, 11, 12, 13, 14, 15, 16], [16, 17])])
def ref10_fill.B10 : List Nat := [0, 1, 0, 0, 12, 31, 63, 0, 0, 384, 0, 0, 3072, 0, 0, 24576, 64512, 131071, 262143]
theorem ref10_fill.tab10 : rtab .any (opsOf Try.f54 10) = ref10_fill.T10 := by kernel_rfl
theorem ref10_fill.bits10 : waitsOk ref10_fill.T10.2 ref10_fill.B10 = true := by kernel_rfl
def ref10_fill.T11 : Bool × List (List Nat × List Nat) := (true, [([], []), ([0], [0]), ([], []), ([], []), ([2, 3], [2, 3]), ([1, 4], [1, 4]), ([5], [5]), ([], []), ([], []), ([7, 8], [7, 8]), ([], []), ([], []), ([10, 11], [10, 11]), ([], []), ([], []), ([13, 14], [13, 14]), ([12, 15], [12, 15]), ([6, 9, 0, 1, 2, 3, 4, 5, 6, 7, 8, 9, 10, 11, 12, 13, 14, 15, 16], [6, 9]), ([17, 16, 0, 1, 2, 3, 4, 5, 6, 7, 8, 9, 10, 11, 12, 13, 14, 15, 16], [16, 17])])
def ref10_fill.B11 : List Nat := [0, 1, 0, 0, 12, 31, 63, 0, 0, 384, 0, 0, 3072, 0, 0, 24576, 64512, 131071, 262143]
theorem ref10_fill.tab11 : rtab .any (opsOf Try.f54 11) = ref10_fill.T11 := by kernel_rfl
theorem ref10_fill.bits11 : waitsOk ref10_fill.T11.2 ref10_fill.B11 = true := by kernel_rfl
def ref10_fill.T13 : Bool × List (List Nat × List Nat) := (true, [([], []), ([0], [0]), ([], []), ([], []), ([2, 3], [2, 3]), ([1, 4], [1, 4]), ([5], [5]), ([], []), ([], []), ([7, 8], [7, 8]), ([], []), ([6, 9, 0, 1, 2, 3, 4, 5, 6, 7, 8, 9, 10], [6, 9]), ([11, 10, 0, 1, 2, 3, 4, 5, 6, 7, 8, 9, 10], [10, 11])])
def ref10_fill.B13 : List Nat := [0, 1, 0, 0, 12, 31, 63, 0, 0, 384, 0, 2047, 4095]
theorem ref10_fill.tab13 : rtab .any (opsOf Try.f54 13) = ref10_fill.T13 := by kernel_rfl
theorem ref10_fill.bits13 : waitsOk ref10_fill.T13.2 ref10_fill.B13 = true := by kernel_rfl
def ref10_fill.T14 : Bool × List (List Nat × List Nat) := (true, [([], []), ([0], [0]), ([], []), ([], []), ([2, 3], [2, 3]), ([1, 4], [1, 4]), ([5], [5]), ([], []), ([], []), ([7, 8], [7, 8]), ([], []), ([6, 9, 0, 1, 2, 3, 4, 5, 6, 7, 8, 9, 10], [6, 9]), ([11, 10, 0, 1, 2, 3, 4, 5, 6, 7, 8, 9, 10], [10, 11])])
def ref10_fill.B14 : List Nat := [0, 1, 0, 0, 12, 31, 63, 0, 0, 384, 0, 2047, 4095]
theorem ref10_fill.tab14 : rtab .any (opsOf Try.f54 14) = ref10_fill.T14 := by kernel_rfl
theorem ref10_fill.bits14 : waitsOk ref10_fill.T14.2 ref10_fill.B14 = true := by kernel_rfl
set_option maxHeartbeats 1000000 in
set_option maxRecDepth 100000 in
theorem fill_step (w0 : World) (V : Nat) (wk : Bool) (A : Option Addr) (c : Nat) (l : List Int) (base n d : Nat) (k : Nat) (ih : ∀ j, j < k → FillOk w0 V wk A c l base n d j) : FillOk w0 V wk A c l base n d k := by
  intro ok g p all con all2 con2 b g2 ad c0 W hG hS hV hp h
  have HIH := Aside0.mk ih
  have HG := Aside0.mk hG
  have HS := Aside0.mk hS
  have HV := Aside0.mk hV
  have HP := Aside0.mk hp
  have HL := Aside0.mk h
  obtain ⟨N, hN⟩ : ∃ N, n * d = N := ⟨_, rfl⟩
  have HN := Aside0.mk hN
  have hnd := hG.nd
  have hn1 := hG.n1
  have hd1 := hG.d1
  obtain ⟨em1, em2, em3⟩ := nat_m hnd
  rw [hN] at em1 em2 em3
  have HN0 := Aside0.mk (Nat.mul_pos hn1 hd1)
  have z0 : ((d : Int) = 0) = False := eq_false (by omega)
  have z1 : (d = 0) = False := eq_false (by omega)
  have z2 : (d == 0) = false := by simp; omega
  have q0 : ((0 : Int) < (n : Int)) = True := eq_true (by omega)
  have q1 : (0 < n) = True := eq_true (by omega)
  clear hG hS hV hp h ih hN hnd hn1 hd1
  go_enter Try.func54, Try.ntmps54
  go_wp2_with (first | ((with_reducible refine gate_dst (N := 4) rfl ?_); refine box_event ?hg (N := 4) ?hd (cs := #[.slice (some ad) n c0]) (t := 38) ?hr ?_; (case hd => rfl); (case hg => rfl); (case hr => first | (go_simp; done) | (go_simp; rfl)); intro B hBe w1 hbox hb1; go_loud (have HX := Aside0.mk hbox; have HBV := Aside0.mk (show V < B from Nat.lt_of_lt_of_le HV.out (by omega)); have HBW := Aside0.mk (show W.heap.size ≤ B from (by omega)); have HS1 := Aside0.mk ((HS.out.below hb1).but hbox); have HK1 := Aside0.mk (KeptBut.of_below (own := fun x => x = V ∨ ok x) hb1); have hcB : w1.cell? ⟨B, 0, none⟩ = some (.slice (some ad) n c0) := (blk_cell hbox 0).trans rfl; obtain ⟨gi0, ci0, hrow0, _⟩ := HS1.out.get HG.out (p := 0) HN0.out; rw [Nat.zero_div] at hrow0; have hrow1 : w1.cell? ad = some (.slice (some gi0) d ci0) := (by simpa [Addr.add] using hrow0); clear hbox hb1 hBe hrow0)))
  (try clear hcB)
  (try clear hrow1)
  go_loopg [2] k (fun kq v2 w' => ∃ (p : Nat), v2 = .int .i64 (p : Int) ∧ Aside0 (ref10_fill.l0 kq n d wk l g p all con = some (b, g2, all2, con2)) ∧ Aside0 (kq ≤ k) ∧ Aside0 (p ≤ N) ∧ Aside0 (w'.heap[B]? = some (.cells #[.slice (some ad) n c0] 38 (0, 0))) ∧ Aside0 (SV w0 V wk A c l base (fun b => ok b ∧ b ≠ B) (.slice (some ad) n c0) w' g all con) ∧ Aside0 (KeptBut (fun x => x = V ∨ ok x) W w'))
  case atStart => exact ⟨p, rfl, HL, ⟨Nat.le_refl _⟩, ⟨by rw [← HN.out]; exact HP.out⟩, HX, HS1, HK1⟩
  case round =>
    clear HL HP HX HS1 HK1
    obtain ⟨p, rfl, HA, HKK, HPN, HX2, HS2, HK2⟩ := hrel
    cases gk with
    | zero => exact absurd HA.out (by simp [ref10_fill.l0])
    | succ k1 =>
      have H := HA.out
      clear HA
      simp only [ref10_fill.l0] at H
      have hcB : wr.cell? ⟨B, 0, none⟩ = some (.slice (some ad) n c0) := (blk_cell HX2.out 0).trans rfl
      by_cases d1 : p < N
      · rw [if_pos (by rw [HN.out]; exact d1)] at H
        have D1 := Aside0.mk d1
        have d1b : decide (p < N) = true := decide_eq_true d1
        obtain ⟨gi, ci, hx1, hx2⟩ := HS2.out.get HG.out (p := p) (by rw [HN.out]; exact d1)
        obtain ⟨ha1, hb1⟩ := HG.out.cell (p := p) (by rw [HN.out]; exact d1)
        obtain ⟨eq1, eq2, eq3⟩ := nat_q (p := p) (d := d) (by have := HG.out.nd; rw [HN.out] at this; omega)
        obtain ⟨er1, er2, er3⟩ := nat_r (p := p) (d := d) (by have := HG.out.nd; rw [HN.out] at this; omega)
        obtain ⟨x, hx⟩ : ∃ x, p / d = x := ⟨_, rfl⟩
        obtain ⟨y, hy⟩ : ∃ y, p % d = y := ⟨_, rfl⟩
        rw [hx] at ha1 eq1 eq2 eq3 hx1
        rw [hy] at hb1 er1 er2 er3 hx2
        have i0 : ((0 : Int) ≤ (x : Int)) = True := eq_true (Int.natCast_nonneg _)
        have i1 : ((x : Int) < (n : Int)) = True := eq_true (Int.ofNat_lt.2 ha1)
        have j0 : ((0 : Int) ≤ (y : Int)) = True := eq_true (Int.natCast_nonneg _)
        have j1 : ((y : Int) < (d : Int)) = True := eq_true (Int.ofNat_lt.2 hb1)
        have i1' : (x < n) = True := eq_true ha1
        have j1' : (y < d) = True := eq_true hb1
        have hxi : (p : Int) / (d : Int) = (x : Int) := by rw [← hx]; norm_cast
        have hyi : (p : Int) % (d : Int) = (y : Int) := by rw [← hy]; norm_cast
        clear ha1 hb1 d1
        by_cases d2 : 0 ≤ (atG d g p).f0
        · rw [if_pos d2] at H
          have H2 := Aside0.mk H
          have d2b : decide ((atG d g p).f0 ≥ 0) = true := decide_eq_true d2
          have d2c : decide (0 ≤ (atG d g p).f0) = true := decide_eq_true d2
          clear H d2
          have HS3 := Aside0.mk (fun j => HS2.out.below (pw_below_drewN (Below.refl wr.heap.size wr) j))
          have HK3 := Aside0.mk (fun j => HK2.out.trans (KeptBut.of_below (pw_below_drewN (Below.refl wr.heap.size wr) j)))
          have HX3 := Aside0.mk (fun j => blk_drewN HX2.out j)
          have ep : wrap64 ((p : Int) + 1) = ((p + 1 : Nat) : Int) := by have := HPN.out; have := HG.out.nd; rw [HN.out] at this; unfold wrap64; omega
          go_wp2_with fail
          go_quiet (fail)
          go_wp2_with fail
          go_roundg k1
          case measure => omega
          case rel => exact ⟨p + 1, by first | rfl | (rw [← ep]; rfl) | simp [ep], H2, ⟨by have := HKK.out; omega⟩, ⟨D1.out⟩, ⟨HX3.out nq⟩, ⟨HS3.out nq⟩, ⟨HK3.out nq⟩⟩
        · rw [if_neg d2] at H
          have H2 := Aside0.mk H
          have d2b : decide ((atG d g p).f0 ≥ 0) = false := decide_eq_false d2
          have d2c : decide (0 ≤ (atG d g p).f0) = false := decide_eq_false d2
          have hpN : (p == N) = false := by have := D1.out; simp; omega
          have hpI : ((p : Int) == (N : Int)) = false := by have := D1.out; simp; omega
          have hpN2 : decide (p = N) = false := decide_eq_false (by have := D1.out; omega)
          clear H d2
          go_wp2_with fail
          go_quiet (fail)
          have hcB2 : (wr.drewN nq).cell? ⟨B, 0, none⟩ = some (.slice (some ad) n c0) := hcB
          go_wp2_with fail
          clear hcB hcB2 d1b d2b d2c
          have HS3 := Aside0.mk (HS2.out.below (pw_below_drewN (Below.refl wr.heap.size wr) nq))
          have HK3 := Aside0.mk (HK2.out.trans (KeptBut.of_below (pw_below_drewN (Below.refl wr.heap.size wr) nq)))
          have HX3 := Aside0.mk (blk_drewN HX2.out nq)
          go_loopg [8, 9] k1 (fun kq v8 v9 w' => ∃ (q : Nat) (g' : Grid) (all' con' : Int), v8 = .int .i64 (q : Int) ∧ Aside0 (ref10_fill.l1 kq n d wk l g' p q all' con' = some (b, g2, all2, con2)) ∧ Aside0 (kq ≤ k1) ∧ Aside0 (q ≤ N) ∧ Aside0 (ShG n d g') ∧ Aside0 (w'.heap[B]? = some (.cells #[.slice (some ad) n c0] 38 (0, 0))) ∧ Aside0 (SV w0 V wk A c l base (fun b => ok b ∧ b ≠ B) (.slice (some ad) n c0) w' g' all' con') ∧ Aside0 (KeptBut (fun x => x = V ∨ ok x) W w'))
          case atStart => exact ⟨p, g, all, con, rfl, H2, ⟨Nat.le_refl _⟩, HPN, HG, HX3, HS3, HK3⟩
          case round =>
            clear H2 HPN HG HX3 HS3 HK3 HX2 HS2 HK2
            obtain ⟨q, g', all', con', rfl, HA, HKK2, HQN, HG, HX2, HS2, HK2⟩ := hrel
            rename World => wl
            cases gk with
            | zero => exact absurd HA.out (by simp [ref10_fill.l1])
            | succ k2 =>
              have H := HA.out
              clear HA
              simp only [ref10_fill.l1] at H
              have hcB : wl.cell? ⟨B, 0, none⟩ = some (.slice (some ad) n c0) := (blk_cell HX2.out 0).trans rfl
              by_cases d1 : q < N
              · rw [if_pos (by rw [HN.out]; exact d1)] at H
                have D2 := Aside0.mk d1
                have d1b : decide (q < N) = true := decide_eq_true d1
                obtain ⟨gi2, ci2, hx1, hx2⟩ := HS2.out.get HG.out (p := q) (by rw [HN.out]; exact d1)
                obtain ⟨ha1, hb1⟩ := HG.out.cell (p := q) (by rw [HN.out]; exact d1)
                obtain ⟨fq1, fq2, fq3⟩ := nat_q (p := q) (d := d) (by have := HG.out.nd; rw [HN.out] at this; omega)
                obtain ⟨fr1, fr2, fr3⟩ := nat_r (p := q) (d := d) (by have := HG.out.nd; rw [HN.out] at this; omega)
                obtain ⟨x2, hxq⟩ : ∃ x, q / d = x := ⟨_, rfl⟩
                obtain ⟨y2, hyq⟩ : ∃ y, q % d = y := ⟨_, rfl⟩
                rw [hxq] at ha1 fq1 fq2 fq3 hx1
                rw [hyq] at hb1 fr1 fr2 fr3 hx2
                have k0 : ((0 : Int) ≤ (x2 : Int)) = True := eq_true (Int.natCast_nonneg _)
                have k1_ : ((x2 : Int) < (n : Int)) = True := eq_true (Int.ofNat_lt.2 ha1)
                have l0_ : ((0 : Int) ≤ (y2 : Int)) = True := eq_true (Int.natCast_nonneg _)
                have l1_ : ((y2 : Int) < (d : Int)) = True := eq_true (Int.ofNat_lt.2 hb1)
                have k1' : (x2 < n) = True := eq_true ha1
                have l1' : (y2 < d) = True := eq_true hb1
                have hxi2 : (q : Int) / (d : Int) = (x2 : Int) := by rw [← hxq]; norm_cast
                have hyi2 : (q : Int) % (d : Int) = (y2 : Int) := by rw [← hyq]; norm_cast
                have eq_ : wrap64 ((q : Int) + 1) = ((q + 1 : Nat) : Int) := by have := D2.out; have := HG.out.nd; rw [HN.out] at this; unfold wrap64; omega
                clear ha1 hb1 d1
                by_cases d2 : 0 ≤ (atG d g' q).f0
                · rw [if_pos d2] at H
                  have H2 := Aside0.mk H
                  have d2b : decide ((atG d g' q).f0 ≥ 0) = true := decide_eq_true d2
                  have d2c : decide (0 ≤ (atG d g' q).f0) = true := decide_eq_true d2
                  have HS3 := Aside0.mk (fun j => HS2.out.below (pw_below_drewN (Below.refl wl.heap.size wl) j))
                  have HK3 := Aside0.mk (fun j => HK2.out.trans (KeptBut.of_below (pw_below_drewN (Below.refl wl.heap.size wl) j)))
                  have HX3 := Aside0.mk (fun j => blk_drewN HX2.out j)
                  clear H d2
                  go_wp2_with fail
                  go_quiet (fail)
                  go_wp2_with fail
                  go_roundg k2
                  case measure => omega
                  case rel => exact ⟨q + 1, g', all', con', by first | rfl | (rw [← eq_]; rfl) | simp [eq_], H2, ⟨by have := HKK2.out; omega⟩, ⟨D2.out⟩, HG, ⟨HX3.out nq⟩, ⟨HS3.out nq⟩, ⟨HK3.out nq⟩⟩
                · rw [if_neg d2] at H
                  obtain ⟨⟨rb, rg, ra, rc⟩, hf, h2⟩ := Option.bind_eq_some_iff.1 H
                  have HF := Aside0.mk hf
                  have H2 := Aside0.mk h2
                  have d2b : decide ((atG d g' q).f0 ≥ 0) = false := decide_eq_false d2
                  have d2c : decide (0 ≤ (atG d g' q).f0) = false := decide_eq_false d2
                  have ep : wrap64 ((p : Int) + 1) = ((p + 1 : Nat) : Int) := by have := D1.out; have := HG.out.nd; rw [HN.out] at this; unfold wrap64; omega
                  clear H hf h2 d2
                  go_wp2_with fail
                  go_quiet (fail)
                  have HS3 := Aside0.mk (HS2.out.below (pw_below_drewN (Below.refl wl.heap.size wl) nq))
                  have HK3 := Aside0.mk (HK2.out.trans (KeptBut.of_below (pw_below_drewN (Below.refl wl.heap.size wl) nq)))
                  have HX3 := Aside0.mk (blk_drewN HX2.out nq)
                  clear hcB hx1 hx2 HS2 HK2 HX2
                  generalize wl.drewN nq = wm at HS3 HK3 HX3 ⊢
                  go_wp2_with fail
                  have HD10 := Aside0.mk (HS3.out.below (below_drew (Below.refl wm.heap.size wm)))
                  have HDK10 := Aside0.mk (HK3.out.trans (KeptBut.of_below (below_drew (Below.refl wm.heap.size wm))))
                  have HDX10 := Aside0.mk (blk_below HX3.out (below_drew (Below.refl wm.heap.size wm)))
                  obtain ⟨gp10, ci10, W10, hc10, hs10, hk10, hr10⟩ := HD10.out.put' HG.out (p := p) (by rw [HN.out]; exact D1.out) (doorN (q / d) (q % d))
                  rw [hx] at hc10
                  rw [hy] at hr10
                  simp only [doorN, hxq, hyq] at hr10
                  have HS10 := Aside0.mk hs10
                  have HK10 := Aside0.mk (HDK10.out.trans (hk10.mono (own' := fun x => x = V ∨ ok x) (fun b hb => Or.inr hb.1)))
                  have HX10 := Aside0.mk ((hk10.block B (blk_lt HDX10.out) (fun hb => hb.2 rfl)).trans HDX10.out)
                  have HST10 := Aside0.mk hr10
                  have hS : wm.drew.cell? ⟨B, 0, none⟩ = some (.slice (some ad) n c0) ∧ wm.drew.cell? (ad.add x) = some (.slice (some gp10) d ci10) := ⟨(blk_cell HDX10.out 0).trans rfl, hc10⟩
                  refine start_ (n := 19) (S := fun w' => w'.cell? ⟨B, 0, none⟩ = some (.slice (some ad) n c0) ∧ w'.cell? (ad.add x) = some (.slice (some gp10) d ci10)) (ds := [18]) #[false, false, false, false, false, false, false, false, false, false, false, false, false, false, false, false, false, false, false] (by kernel_rfl) rfl rfl hS (fun hHeld => ?_); refine with_tabW ref10_fill.tab10 ref10_fill.bits10 (fun HT_ HW_ => ?_)
                  clear hS hs10 hk10 hr10 hc10 HS3 HK3 HX3
                  generalize wm.drew = wd10 at HD10 HDK10 HDX10 HST10 hHeld HS10 HK10 HX10 ⊢
                  refine pure_ (i := 0) (N := some 74) (v := ?_) (a' := ?_) #[true, false, false, false, false, false, false, false, false, false, false, false, false, false, false, false, false, false, false] rfl rfl (any_of HT_.out (by kernel_rfl)) (fun _ _ _ h => h) (Or.inl ⟨by rfl, ?_⟩) ?_ ?_
                  rotate_left
                  · intro w'
                    go_simp
                    (try with_reducible rfl)
                  rotate_left
                  · simp only [Act.put, List.setIfInBounds_toArray, List.set_cons_zero, List.set_cons_succ, i64_w, i32_w]
                    rfl
                  refine pure_ (i := 2) (N := some 76) (v := ?_) (a' := ?_) #[true, false, true, false, false, false, false, false, false, false, false, false, false, false, false, false, false, false, false] rfl rfl (any_of HT_.out (by kernel_rfl)) (fun _ _ _ h => h) (Or.inl ⟨by rfl, ?_⟩) ?_ ?_
                  rotate_left
                  · intro w'
                    go_simp
                    (try with_reducible rfl)
                  rotate_left
                  · simp only [Act.put, List.setIfInBounds_toArray, List.set_cons_zero, List.set_cons_succ, i64_w, i32_w]
                    rfl
                  refine pure_ (i := 3) (N := some 77) (v := ?_) (a' := ?_) #[true, false, true, true, false, false, false, false, false, false, false, false, false, false, false, false, false, false, false] rfl rfl (any_of HT_.out (by kernel_rfl)) (fun _ _ _ h => h) (Or.inl ⟨by rfl, ?_⟩) ?_ ?_
                  rotate_left
                  · intro w'
                    go_simp
                    (try with_reducible rfl)
                  rotate_left
                  · simp only [Act.put, List.setIfInBounds_toArray, List.set_cons_zero, List.set_cons_succ, i64_w, i32_w]
                    rfl
                  refine pure_ (i := 4) (N := some 78) (v := ?_) (a' := ?_) #[true, false, true, true, true, false, false, false, false, false, false, false, false, false, false, false, false, false, false] rfl rfl (any_of HT_.out (by kernel_rfl)) (fun _ _ _ h => h) (Or.inl ⟨by rfl, ?_⟩) ?_ ?_
                  rotate_left
                  · intro w'
                    go_simp
                    (try with_reducible rfl)
                  rotate_left
                  · simp only [Act.put, List.setIfInBounds_toArray, List.set_cons_zero, List.set_cons_succ, i64_w, i32_w]
                    rfl
                  refine pure_ (i := 7) (N := some 81) (v := ?_) (a' := ?_) #[true, false, true, true, true, false, false, true, false, false, false, false, false, false, false, false, false, false, false] rfl rfl (any_of HT_.out (by kernel_rfl)) (fun _ _ _ h => h) (Or.inl ⟨by rfl, ?_⟩) ?_ ?_
                  rotate_left
                  · intro w'
                    go_simp
                    (try with_reducible rfl)
                  rotate_left
                  · simp only [Act.put, List.setIfInBounds_toArray, List.set_cons_zero, List.set_cons_succ, i64_w, i32_w]
                    rfl
                  refine pure_ (i := 8) (N := some 82) (v := ?_) (a' := ?_) #[true, false, true, true, true, false, false, true, true, false, false, false, false, false, false, false, false, false, false] rfl rfl (any_of HT_.out (by kernel_rfl)) (fun _ _ _ h => h) (Or.inl ⟨by rfl, ?_⟩) ?_ ?_
                  rotate_left
                  · intro w'
                    go_simp
                    (try with_reducible rfl)
                  rotate_left
                  · simp only [Act.put, List.setIfInBounds_toArray, List.set_cons_zero, List.set_cons_succ, i64_w, i32_w]
                    rfl
                  refine pure_ (i := 9) (N := some 83) (v := ?_) (a' := ?_) #[true, false, true, true, true, false, false, true, true, true, false, false, false, false, false, false, false, false, false] rfl rfl (any_of HT_.out (by kernel_rfl)) (fun _ _ _ h => h) (Or.inl ⟨by rfl, ?_⟩) ?_ ?_
                  rotate_left
                  · intro w'
                    go_simp
                    (try with_reducible rfl)
                  rotate_left
                  · simp only [Act.put, List.setIfInBounds_toArray, List.set_cons_zero, List.set_cons_succ, i64_w, i32_w]
                    rfl
                  refine pure_ (i := 10) (N := some 84) (v := ?_) (a' := ?_) #[true, false, true, true, true, false, false, true, true, true, true, false, false, false, false, false, false, false, false] rfl rfl (any_of HT_.out (by kernel_rfl)) (fun _ _ _ h => h) (Or.inl ⟨by rfl, ?_⟩) ?_ ?_
                  rotate_left
                  · intro w'
                    go_simp
                    (try with_reducible rfl)
                  rotate_left
                  · simp only [Act.put, List.setIfInBounds_toArray, List.set_cons_zero, List.set_cons_succ, i64_w, i32_w]
                    rfl
                  refine pure_ (i := 11) (N := some 85) (v := ?_) (a' := ?_) #[true, false, true, true, true, false, false, true, true, true, true, true, false, false, false, false, false, false, false] rfl rfl (any_of HT_.out (by kernel_rfl)) (fun _ _ _ h => h) (Or.inl ⟨by rfl, ?_⟩) ?_ ?_
                  rotate_left
                  · intro w'
                    go_simp
                    (try with_reducible rfl)
                  rotate_left
                  · simp only [Act.put, List.setIfInBounds_toArray, List.set_cons_zero, List.set_cons_succ, i64_w, i32_w]
                    rfl
                  refine pure_ (i := 12) (N := some 86) (v := ?_) (a' := ?_) #[true, false, true, true, true, false, false, true, true, true, true, true, true, false, false, false, false, false, false] rfl rfl (any_of HT_.out (by kernel_rfl)) (fun _ _ _ h => h) (Or.inl ⟨by rfl, ?_⟩) ?_ ?_
                  rotate_left
                  · intro w'
                    go_simp
                    (try with_reducible rfl)
                  rotate_left
                  · simp only [Act.put, List.setIfInBounds_toArray, List.set_cons_zero, List.set_cons_succ, i64_w, i32_w]
                    rfl
                  refine pure_ (i := 13) (N := some 87) (v := ?_) (a' := ?_) #[true, false, true, true, true, false, false, true, true, true, true, true, true, true, false, false, false, false, false] rfl rfl (any_of HT_.out (by kernel_rfl)) (fun _ _ _ h => h) (Or.inl ⟨by rfl, ?_⟩) ?_ ?_
                  rotate_left
                  · intro w'
                    go_simp
                    (try with_reducible rfl)
                  rotate_left
                  · simp only [Act.put, List.setIfInBounds_toArray, List.set_cons_zero, List.set_cons_succ, i64_w, i32_w]
                    rfl
                  refine pure_ (i := 14) (N := some 88) (v := ?_) (a' := ?_) #[true, false, true, true, true, false, false, true, true, true, true, true, true, true, true, false, false, false, false] rfl rfl (any_of HT_.out (by kernel_rfl)) (fun _ _ _ h => h) (Or.inl ⟨by rfl, ?_⟩) ?_ ?_
                  rotate_left
                  · intro w'
                    go_simp
                    (try with_reducible rfl)
                  rotate_left
                  · simp only [Act.put, List.setIfInBounds_toArray, List.set_cons_zero, List.set_cons_succ, i64_w, i32_w]
                    rfl
                  refine pure_ (i := 15) (N := some 89) (v := ?_) (a' := ?_) #[true, false, true, true, true, false, false, true, true, true, true, true, true, true, true, true, false, false, false] rfl rfl (any_of HT_.out (by kernel_rfl)) (fun _ _ _ h => h) (Or.inl ⟨by rfl, ?_⟩) ?_ ?_
                  rotate_left
                  · intro w'
                    go_simp
                    (try with_reducible rfl)
                  rotate_left
                  · simp only [Act.put, List.setIfInBounds_toArray, List.set_cons_zero, List.set_cons_succ, i64_w, i32_w]
                    rfl
                  refine pure_ (i := 16) (N := some 90) (v := ?_) (a' := ?_) #[true, false, true, true, true, false, false, true, true, true, true, true, true, true, true, true, true, false, false] rfl rfl (any_of HT_.out (by kernel_rfl)) (fun _ _ _ h => h) (Or.inl ⟨by rfl, ?_⟩) ?_ ?_
                  rotate_left
                  · intro w'
                    go_simp
                    (try with_reducible rfl)
                  rotate_left
                  · simp only [Act.put, List.setIfInBounds_toArray, List.set_cons_zero, List.set_cons_succ, i64_w, i32_w]
                    rfl
                  refine take_ (i := 1) (N := some 75) (v := ?_) (a' := ?_) #[true, true, true, true, true, false, false, true, true, true, true, true, true, true, true, true, true, false, false] rfl rfl (take_ofW HT_.out HW_.out (by kernel_rfl)) (fun _ _ _ h => h) (Or.inl ⟨by rfl, ?_⟩) hHeld ?_ ?_
                  rotate_left
                  · intro w' s0
                    go_simp
                    (try with_reducible rfl)
                  rotate_left
                  · simp only [Act.put, List.setIfInBounds_toArray, List.set_cons_zero, List.set_cons_succ, i64_w, i32_w]
                    rfl
                  refine pure_ (i := 5) (N := some 79) (v := ?_) (a' := ?_) #[true, true, true, true, true, true, false, true, true, true, true, true, true, true, true, true, true, false, false] rfl rfl (any_of HT_.out (by kernel_rfl)) (fun _ _ _ h => h) (Or.inl ⟨by rfl, ?_⟩) ?_ ?_
                  rotate_left
                  · intro w'
                    go_simp
                    (try with_reducible rfl)
                  rotate_left
                  · simp only [Act.put, List.setIfInBounds_toArray, List.set_cons_zero, List.set_cons_succ, i64_w, i32_w]
                    rfl
                  refine take_ (i := 6) (N := some 80) (v := ?_) (a' := ?_) #[true, true, true, true, true, true, true, true, true, true, true, true, true, true, true, true, true, false, false] rfl rfl (take_ofW HT_.out HW_.out (by kernel_rfl)) (fun _ _ _ h => h) (Or.inl ⟨by rfl, ?_⟩) hHeld ?_ ?_
                  rotate_left
                  · intro w' s0
                    go_simp
                    (try with_reducible rfl)
                  rotate_left
                  · simp only [Act.put, List.setIfInBounds_toArray, List.set_cons_zero, List.set_cons_succ, i64_w, i32_w]
                    rfl
                  refine pure_ (i := 17) (N := some 91) (v := ?_) (a' := ?_) #[true, true, true, true, true, true, true, true, true, true, true, true, true, true, true, true, true, true, false] rfl rfl (any_of HT_.out (by kernel_rfl)) (fun _ _ _ h => h) (Or.inl ⟨by rfl, ?_⟩) ?_ ?_
                  rotate_left
                  · intro w'
                    go_simp
                    (try with_reducible rfl)
                  rotate_left
                  · simp only [Act.put, List.setIfInBounds_toArray, List.set_cons_zero, List.set_cons_succ, i64_w, i32_w]
                    rfl
                  refine last_ (i := 18) (N := none) #[true, true, true, true, true, true, true, true, true, true, true, true, true, true, true, true, true, true, true] rfl rfl (one_of HT_.out (by kernel_rfl)) (by decide) (fun K hK => ?_)
                  have hst := HST10.out
                  refine skip_ (w1 := W10) (by rfl) rfl (run_store_op (by rfl) (by rfl) (by rfl) hst) ?_
                  clear hst HST10 HD10 HDK10 HDX10 hHeld
                  refine hK.out _ _ ?_
                  clear hK K
                  refine done_ (done_of HT_.out (by kernel_rfl)) ?_
                  clear HT_ HW_
                  have HG10 := Aside0.mk (HG.out.set p (doorN (q / d) (q % d)))
                  go_wp2_with fail
                  have HD11 := Aside0.mk (HS10.out.below (below_drew (Below.refl W10.heap.size W10)))
                  have HDK11 := Aside0.mk (HK10.out.trans (KeptBut.of_below (below_drew (Below.refl W10.heap.size W10))))
                  have HDX11 := Aside0.mk (blk_below HX10.out (below_drew (Below.refl W10.heap.size W10)))
                  obtain ⟨gp11, ci11, W11, hc11, hs11, hk11, hr11⟩ := HD11.out.put' HG10.out (p := q) (by rw [HN.out]; exact D2.out) (doorN (p / d) (p % d))
                  rw [hxq] at hc11
                  rw [hyq] at hr11
                  simp only [doorN, hx, hy] at hr11
                  have HS11 := Aside0.mk hs11
                  have HK11 := Aside0.mk (HDK11.out.trans (hk11.mono (own' := fun x => x = V ∨ ok x) (fun b hb => Or.inr hb.1)))
                  have HX11 := Aside0.mk ((hk11.block B (blk_lt HDX11.out) (fun hb => hb.2 rfl)).trans HDX11.out)
                  have HST11 := Aside0.mk hr11
                  have hS : W10.drew.cell? ⟨B, 0, none⟩ = some (.slice (some ad) n c0) ∧ W10.drew.cell? (ad.add x2) = some (.slice (some gp11) d ci11) := ⟨(blk_cell HDX11.out 0).trans rfl, hc11⟩
                  refine start_ (n := 19) (S := fun w' => w'.cell? ⟨B, 0, none⟩ = some (.slice (some ad) n c0) ∧ w'.cell? (ad.add x2) = some (.slice (some gp11) d ci11)) (ds := [18]) #[false, false, false, false, false, false, false, false, false, false, false, false, false, false, false, false, false, false, false] (by kernel_rfl) rfl rfl hS (fun hHeld => ?_); refine with_tabW ref10_fill.tab11 ref10_fill.bits11 (fun HT_ HW_ => ?_)
                  clear hS hs11 hk11 hr11 hc11 HS10 HK10 HX10
                  generalize W10.drew = wd11 at HD11 HDK11 HDX11 HST11 hHeld HS11 HK11 HX11 ⊢
                  refine pure_ (i := 0) (N := some 92) (v := ?_) (a' := ?_) #[true, false, false, false, false, false, false, false, false, false, false, false, false, false, false, false, false, false, false] rfl rfl (any_of HT_.out (by kernel_rfl)) (fun _ _ _ h => h) (Or.inl ⟨by rfl, ?_⟩) ?_ ?_
                  rotate_left
                  · intro w'
                    go_simp
                    (try with_reducible rfl)
                  rotate_left
                  · simp only [Act.put, List.setIfInBounds_toArray, List.set_cons_zero, List.set_cons_succ, i64_w, i32_w]
                    rfl
                  refine pure_ (i := 2) (N := some 94) (v := ?_) (a' := ?_) #[true, false, true, false, false, false, false, false, false, false, false, false, false, false, false, false, false, false, false] rfl rfl (any_of HT_.out (by kernel_rfl)) (fun _ _ _ h => h) (Or.inl ⟨by rfl, ?_⟩) ?_ ?_
                  rotate_left
                  · intro w'
                    go_simp
                    (try with_reducible rfl)
                  rotate_left
                  · simp only [Act.put, List.setIfInBounds_toArray, List.set_cons_zero, List.set_cons_succ, i64_w, i32_w]
                    rfl
                  refine pure_ (i := 3) (N := some 95) (v := ?_) (a' := ?_) #[true, false, true, true, false, false, false, false, false, false, false, false, false, false, false, false, false, false, false] rfl rfl (any_of HT_.out (by kernel_rfl)) (fun _ _ _ h => h) (Or.inl ⟨by rfl, ?_⟩) ?_ ?_
                  rotate_left
                  · intro w'
                    go_simp
                    (try with_reducible rfl)
                  rotate_left
                  · simp only [Act.put, List.setIfInBounds_toArray, List.set_cons_zero, List.set_cons_succ, i64_w, i32_w]
                    rfl
                  refine pure_ (i := 4) (N := some 96) (v := ?_) (a' := ?_) #[true, false, true, true, true, false, false, false, false, false, false, false, false, false, false, false, false, false, false] rfl rfl (any_of HT_.out (by kernel_rfl)) (fun _ _ _ h => h) (Or.inl ⟨by rfl, ?_⟩) ?_ ?_
                  rotate_left
                  · intro w'
                    go_simp
                    (try with_reducible rfl)
                  rotate_left
                  · simp only [Act.put, List.setIfInBounds_toArray, List.set_cons_zero, List.set_cons_succ, i64_w, i32_w]
                    rfl
                  refine pure_ (i := 7) (N := some 99) (v := ?_) (a' := ?_) #[true, false, true, true, true, false, false, true, false, false, false, false, false, false, false, false, false, false, false] rfl rfl (any_of HT_.out (by kernel_rfl)) (fun _ _ _ h => h) (Or.inl ⟨by rfl, ?_⟩) ?_ ?_
                  rotate_left
                  · intro w'
                    go_simp
                    (try with_reducible rfl)
                  rotate_left
                  · simp only [Act.put, List.setIfInBounds_toArray, List.set_cons_zero, List.set_cons_succ, i64_w, i32_w]
                    rfl
                  refine pure_ (i := 8) (N := some 100) (v := ?_) (a' := ?_) #[true, false, true, true, true, false, false, true, true, false, false, false, false, false, false, false, false, false, false] rfl rfl (any_of HT_.out (by kernel_rfl)) (fun _ _ _ h => h) (Or.inl ⟨by rfl, ?_⟩) ?_ ?_
                  rotate_left
                  · intro w'
                    go_simp
                    (try with_reducible rfl)
                  rotate_left
                  · simp only [Act.put, List.setIfInBounds_toArray, List.set_cons_zero, List.set_cons_succ, i64_w, i32_w]
                    rfl
                  refine pure_ (i := 9) (N := some 101) (v := ?_) (a' := ?_) #[true, false, true, true, true, false, false, true, true, true, false, false, false, false, false, false, false, false, false] rfl rfl (any_of HT_.out (by kernel_rfl)) (fun _ _ _ h => h) (Or.inl ⟨by rfl, ?_⟩) ?_ ?_
                  rotate_left
                  · intro w'
                    go_simp
                    (try with_reducible rfl)
                  rotate_left
                  · simp only [Act.put, List.setIfInBounds_toArray, List.set_cons_zero, List.set_cons_succ, i64_w, i32_w]
                    rfl
                  refine pure_ (i := 10) (N := some 102) (v := ?_) (a' := ?_) #[true, false, true, true, true, false, false, true, true, true, true, false, false, false, false, false, false, false, false] rfl rfl (any_of HT_.out (by kernel_rfl)) (fun _ _ _ h => h) (Or.inl ⟨by rfl, ?_⟩) ?_ ?_
                  rotate_left
                  · intro w'
                    go_simp
                    (try with_reducible rfl)
                  rotate_left
                  · simp only [Act.put, List.setIfInBounds_toArray, List.set_cons_zero, List.set_cons_succ, i64_w, i32_w]
                    rfl
                  refine pure_ (i := 11) (N := some 103) (v := ?_) (a' := ?_) #[true, false, true, true, true, false, false, true, true, true, true, true, false, false, false, false, false, false, false] rfl rfl (any_of HT_.out (by kernel_rfl)) (fun _ _ _ h => h) (Or.inl ⟨by rfl, ?_⟩) ?_ ?_
                  rotate_left
                  · intro w'
                    go_simp
                    (try with_reducible rfl)
                  rotate_left
                  · simp only [Act.put, List.setIfInBounds_toArray, List.set_cons_zero, List.set_cons_succ, i64_w, i32_w]
                    rfl
                  refine pure_ (i := 12) (N := some 104) (v := ?_) (a' := ?_) #[true, false, true, true, true, false, false, true, true, true, true, true, true, false, false, false, false, false, false] rfl rfl (any_of HT_.out (by kernel_rfl)) (fun _ _ _ h => h) (Or.inl ⟨by rfl, ?_⟩) ?_ ?_
                  rotate_left
                  · intro w'
                    go_simp
                    (try with_reducible rfl)
                  rotate_left
                  · simp only [Act.put, List.setIfInBounds_toArray, List.set_cons_zero, List.set_cons_succ, i64_w, i32_w]
                    rfl
                  refine pure_ (i := 13) (N := some 105) (v := ?_) (a' := ?_) #[true, false, true, true, true, false, false, true, true, true, true, true, true, true, false, false, false, false, false] rfl rfl (any_of HT_.out (by kernel_rfl)) (fun _ _ _ h => h) (Or.inl ⟨by rfl, ?_⟩) ?_ ?_
                  rotate_left
                  · intro w'
                    go_simp
                    (try with_reducible rfl)
                  rotate_left
                  · simp only [Act.put, List.setIfInBounds_toArray, List.set_cons_zero, List.set_cons_succ, i64_w, i32_w]
                    rfl
                  refine pure_ (i := 14) (N := some 106) (v := ?_) (a' := ?_) #[true, false, true, true, true, false, false, true, true, true, true, true, true, true, true, false, false, false, false] rfl rfl (any_of HT_.out (by kernel_rfl)) (fun _ _ _ h => h) (Or.inl ⟨by rfl, ?_⟩) ?_ ?_
                  rotate_left
                  · intro w'
                    go_simp
                    (try with_reducible rfl)
                  rotate_left
                  · simp only [Act.put, List.setIfInBounds_toArray, List.set_cons_zero, List.set_cons_succ, i64_w, i32_w]
                    rfl
                  refine pure_ (i := 15) (N := some 107) (v := ?_) (a' := ?_) #[true, false, true, true, true, false, false, true, true, true, true, true, true, true, true, true, false, false, false] rfl rfl (any_of HT_.out (by kernel_rfl)) (fun _ _ _ h => h) (Or.inl ⟨by rfl, ?_⟩) ?_ ?_
                  rotate_left
                  · intro w'
                    go_simp
                    (try with_reducible rfl)
                  rotate_left
                  · simp only [Act.put, List.setIfInBounds_toArray, List.set_cons_zero, List.set_cons_succ, i64_w, i32_w]
                    rfl
                  refine pure_ (i := 16) (N := some 108) (v := ?_) (a' := ?_) #[true, false, true, true, true, false, false, true, true, true, true, true, true, true, true, true, true, false, false] rfl rfl (any_of HT_.out (by kernel_rfl)) (fun _ _ _ h => h) (Or.inl ⟨by rfl, ?_⟩) ?_ ?_
                  rotate_left
                  · intro w'
                    go_simp
                    (try with_reducible rfl)
                  rotate_left
                  · simp only [Act.put, List.setIfInBounds_toArray, List.set_cons_zero, List.set_cons_succ, i64_w, i32_w]
                    rfl
                  refine take_ (i := 1) (N := some 93) (v := ?_) (a' := ?_) #[true, true, true, true, true, false, false, true, true, true, true, true, true, true, true, true, true, false, false] rfl rfl (take_ofW HT_.out HW_.out (by kernel_rfl)) (fun _ _ _ h => h) (Or.inl ⟨by rfl, ?_⟩) hHeld ?_ ?_
                  rotate_left
                  · intro w' s0
                    go_simp
                    (try with_reducible rfl)
                  rotate_left
                  · simp only [Act.put, List.setIfInBounds_toArray, List.set_cons_zero, List.set_cons_succ, i64_w, i32_w]
                    rfl
                  refine pure_ (i := 5) (N := some 97) (v := ?_) (a' := ?_) #[true, true, true, true, true, true, false, true, true, true, true, true, true, true, true, true, true, false, false] rfl rfl (any_of HT_.out (by kernel_rfl)) (fun _ _ _ h => h) (Or.inl ⟨by rfl, ?_⟩) ?_ ?_
                  rotate_left
                  · intro w'
                    go_simp
                    (try with_reducible rfl)
                  rotate_left
                  · simp only [Act.put, List.setIfInBounds_toArray, List.set_cons_zero, List.set_cons_succ, i64_w, i32_w]
                    rfl
                  refine take_ (i := 6) (N := some 98) (v := ?_) (a' := ?_) #[true, true, true, true, true, true, true, true, true, true, true, true, true, true, true, true, true, false, false] rfl rfl (take_ofW HT_.out HW_.out (by kernel_rfl)) (fun _ _ _ h => h) (Or.inl ⟨by rfl, ?_⟩) hHeld ?_ ?_
                  rotate_left
                  · intro w' s0
                    go_simp
                    (try with_reducible rfl)
                  rotate_left
                  · simp only [Act.put, List.setIfInBounds_toArray, List.set_cons_zero, List.set_cons_succ, i64_w, i32_w]
                    rfl
                  refine pure_ (i := 17) (N := some 109) (v := ?_) (a' := ?_) #[true, true, true, true, true, true, true, true, true, true, true, true, true, true, true, true, true, true, false] rfl rfl (any_of HT_.out (by kernel_rfl)) (fun _ _ _ h => h) (Or.inl ⟨by rfl, ?_⟩) ?_ ?_
                  rotate_left
                  · intro w'
                    go_simp
                    (try with_reducible rfl)
                  rotate_left
                  · simp only [Act.put, List.setIfInBounds_toArray, List.set_cons_zero, List.set_cons_succ, i64_w, i32_w]
                    rfl
                  refine last_ (i := 18) (N := none) #[true, true, true, true, true, true, true, true, true, true, true, true, true, true, true, true, true, true, true] rfl rfl (one_of HT_.out (by kernel_rfl)) (by decide) (fun K hK => ?_)
                  have hst := HST11.out
                  refine skip_ (w1 := W11) (by rfl) rfl (run_store_op (by rfl) (by rfl) (by rfl) hst) ?_
                  clear hst HST11 HD11 HDK11 HDX11 hHeld
                  refine hK.out _ _ ?_
                  clear hK K
                  refine done_ (done_of HT_.out (by kernel_rfl)) ?_
                  clear HT_ HW_
                  have HG11 := Aside0.mk (HG10.out.set q (doorN (p / d) (p % d)))
                  have hcB : W11.cell? ⟨B, 0, none⟩ = some (.slice (some ad) n c0) := (blk_cell HX11.out 0).trans rfl
                  go_wp2_with ((go_at_call 54; refine (HIH.out k2 (by have := HKK.out; have := HKK2.out; omega) (fun b => ok b ∧ b ≠ B) _ (p + 1) all' con' ra rc rb rg ad c0 W11 HG11.out HS11.out (blk_lt HS11.out.vb) (by rw [HN.out]; exact D1.out) HF.out).mono ?_; rintro e w5 ⟨rfl, hS5, hG5, hK5⟩; have HS12 := Aside0.mk hS5; have HG12 := Aside0.mk hG5; have HK12 := Aside0.mk (HK11.out.trans (hK5.mono (own' := fun x => x = V ∨ ok x) (fun b hb => hb.imp id And.left))); have HX12 := Aside0.mk ((hK5.block B (blk_lt HX11.out) (fun hb => hb.elim (fun e => Nat.ne_of_gt HBV.out e) (fun h => h.2 rfl))).trans HX11.out); clear hS5 hG5 hK5 hcB HS11 HK11 HX11))
                  have HD13 := Aside0.mk (HS12.out.below (below_drew (Below.refl w5.heap.size w5)))
                  have HDK13 := Aside0.mk (HK12.out.trans (KeptBut.of_below (below_drew (Below.refl w5.heap.size w5))))
                  have HDX13 := Aside0.mk (blk_below HX12.out (below_drew (Below.refl w5.heap.size w5)))
                  obtain ⟨gp13, ci13, W13, hc13, hs13, hk13, hr13⟩ := HD13.out.put' HG12.out (p := p) (by rw [HN.out]; exact D1.out) (noD)
                  rw [hx] at hc13
                  rw [hy] at hr13
                  simp only [noD] at hr13
                  have HS13 := Aside0.mk hs13
                  have HK13 := Aside0.mk (HDK13.out.trans (hk13.mono (own' := fun x => x = V ∨ ok x) (fun b hb => Or.inr hb.1)))
                  have HX13 := Aside0.mk ((hk13.block B (blk_lt HDX13.out) (fun hb => hb.2 rfl)).trans HDX13.out)
                  have HST13 := Aside0.mk hr13
                  have hS : w5.drew.cell? ⟨B, 0, none⟩ = some (.slice (some ad) n c0) ∧ w5.drew.cell? (ad.add x) = some (.slice (some gp13) d ci13) := ⟨(blk_cell HDX13.out 0).trans rfl, hc13⟩
                  refine start_ (n := 13) (S := fun w' => w'.cell? ⟨B, 0, none⟩ = some (.slice (some ad) n c0) ∧ w'.cell? (ad.add x) = some (.slice (some gp13) d ci13)) (ds := [12]) #[false, false, false, false, false, false, false, false, false, false, false, false, false] (by kernel_rfl) rfl rfl hS (fun hHeld => ?_); refine with_tabW ref10_fill.tab13 ref10_fill.bits13 (fun HT_ HW_ => ?_)
                  clear hS hs13 hk13 hr13 hc13 HS12 HK12 HX12
                  generalize w5.drew = wd13 at HD13 HDK13 HDX13 HST13 hHeld HS13 HK13 HX13 ⊢
                  refine pure_ (i := 0) (N := some 115) (v := ?_) (a' := ?_) #[true, false, false, false, false, false, false, false, false, false, false, false, false] rfl rfl (any_of HT_.out (by kernel_rfl)) (fun _ _ _ h => h) (Or.inl ⟨by rfl, ?_⟩) ?_ ?_
                  rotate_left
                  · intro w'
                    go_simp
                    (try with_reducible rfl)
                  rotate_left
                  · simp only [Act.put, List.setIfInBounds_toArray, List.set_cons_zero, List.set_cons_succ, i64_w, i32_w]
                    rfl
                  refine pure_ (i := 2) (N := some 117) (v := ?_) (a' := ?_) #[true, false, true, false, false, false, false, false, false, false, false, false, false] rfl rfl (any_of HT_.out (by kernel_rfl)) (fun _ _ _ h => h) (Or.inl ⟨by rfl, ?_⟩) ?_ ?_
                  rotate_left
                  · intro w'
                    go_simp
                    (try with_reducible rfl)
                  rotate_left
                  · simp only [Act.put, List.setIfInBounds_toArray, List.set_cons_zero, List.set_cons_succ, i64_w, i32_w]
                    rfl
                  refine pure_ (i := 3) (N := some 118) (v := ?_) (a' := ?_) #[true, false, true, true, false, false, false, false, false, false, false, false, false] rfl rfl (any_of HT_.out (by kernel_rfl)) (fun _ _ _ h => h) (Or.inl ⟨by rfl, ?_⟩) ?_ ?_
                  rotate_left
                  · intro w'
                    go_simp
                    (try with_reducible rfl)
                  rotate_left
                  · simp only [Act.put, List.setIfInBounds_toArray, List.set_cons_zero, List.set_cons_succ, i64_w, i32_w]
                    rfl
                  refine pure_ (i := 4) (N := some 119) (v := ?_) (a' := ?_) #[true, false, true, true, true, false, false, false, false, false, false, false, false] rfl rfl (any_of HT_.out (by kernel_rfl)) (fun _ _ _ h => h) (Or.inl ⟨by rfl, ?_⟩) ?_ ?_
                  rotate_left
                  · intro w'
                    go_simp
                    (try with_reducible rfl)
                  rotate_left
                  · simp only [Act.put, List.setIfInBounds_toArray, List.set_cons_zero, List.set_cons_succ, i64_w, i32_w]
                    rfl
                  refine pure_ (i := 7) (N := some 122) (v := ?_) (a' := ?_) #[true, false, true, true, true, false, false, true, false, false, false, false, false] rfl rfl (any_of HT_.out (by kernel_rfl)) (fun _ _ _ h => h) (Or.inl ⟨by rfl, ?_⟩) ?_ ?_
                  rotate_left
                  · intro w'
                    go_simp
                    (try with_reducible rfl)
                  rotate_left
                  · simp only [Act.put, List.setIfInBounds_toArray, List.set_cons_zero, List.set_cons_succ, i64_w, i32_w]
                    rfl
                  refine pure_ (i := 8) (N := some 123) (v := ?_) (a' := ?_) #[true, false, true, true, true, false, false, true, true, false, false, false, false] rfl rfl (any_of HT_.out (by kernel_rfl)) (fun _ _ _ h => h) (Or.inl ⟨by rfl, ?_⟩) ?_ ?_
                  rotate_left
                  · intro w'
                    go_simp
                    (try with_reducible rfl)
                  rotate_left
                  · simp only [Act.put, List.setIfInBounds_toArray, List.set_cons_zero, List.set_cons_succ, i64_w, i32_w]
                    rfl
                  refine pure_ (i := 9) (N := some 124) (v := ?_) (a' := ?_) #[true, false, true, true, true, false, false, true, true, true, false, false, false] rfl rfl (any_of HT_.out (by kernel_rfl)) (fun _ _ _ h => h) (Or.inl ⟨by rfl, ?_⟩) ?_ ?_
                  rotate_left
                  · intro w'
                    go_simp
                    (try with_reducible rfl)
                  rotate_left
                  · simp only [Act.put, List.setIfInBounds_toArray, List.set_cons_zero, List.set_cons_succ, i64_w, i32_w]
                    rfl
                  refine pure_ (i := 10) (N := some 125) (v := ?_) (a' := ?_) #[true, false, true, true, true, false, false, true, true, true, true, false, false] rfl rfl (any_of HT_.out (by kernel_rfl)) (fun _ _ _ h => h) (Or.inl ⟨by rfl, ?_⟩) ?_ ?_
                  rotate_left
                  · intro w'
                    go_simp
                    (try with_reducible rfl)
                  rotate_left
                  · simp only [Act.put, List.setIfInBounds_toArray, List.set_cons_zero, List.set_cons_succ, i64_w, i32_w]
                    rfl
                  refine take_ (i := 1) (N := some 116) (v := ?_) (a' := ?_) #[true, true, true, true, true, false, false, true, true, true, true, false, false] rfl rfl (take_ofW HT_.out HW_.out (by kernel_rfl)) (fun _ _ _ h => h) (Or.inl ⟨by rfl, ?_⟩) hHeld ?_ ?_
                  rotate_left
                  · intro w' s0
                    go_simp
                    (try with_reducible rfl)
                  rotate_left
                  · simp only [Act.put, List.setIfInBounds_toArray, List.set_cons_zero, List.set_cons_succ, i64_w, i32_w]
                    rfl
                  refine pure_ (i := 5) (N := some 120) (v := ?_) (a' := ?_) #[true, true, true, true, true, true, false, true, true, true, true, false, false] rfl rfl (any_of HT_.out (by kernel_rfl)) (fun _ _ _ h => h) (Or.inl ⟨by rfl, ?_⟩) ?_ ?_
                  rotate_left
                  · intro w'
                    go_simp
                    (try with_reducible rfl)
                  rotate_left
                  · simp only [Act.put, List.setIfInBounds_toArray, List.set_cons_zero, List.set_cons_succ, i64_w, i32_w]
                    rfl
                  refine take_ (i := 6) (N := some 121) (v := ?_) (a' := ?_) #[true, true, true, true, true, true, true, true, true, true, true, false, false] rfl rfl (take_ofW HT_.out HW_.out (by kernel_rfl)) (fun _ _ _ h => h) (Or.inl ⟨by rfl, ?_⟩) hHeld ?_ ?_
                  rotate_left
                  · intro w' s0
                    go_simp
                    (try with_reducible rfl)
                  rotate_left
                  · simp only [Act.put, List.setIfInBounds_toArray, List.set_cons_zero, List.set_cons_succ, i64_w, i32_w]
                    rfl
                  refine pure_ (i := 11) (N := some 126) (v := ?_) (a' := ?_) #[true, true, true, true, true, true, true, true, true, true, true, true, false] rfl rfl (any_of HT_.out (by kernel_rfl)) (fun _ _ _ h => h) (Or.inl ⟨by rfl, ?_⟩) ?_ ?_
                  rotate_left
                  · intro w'
                    go_simp
                    (try with_reducible rfl)
                  rotate_left
                  · simp only [Act.put, List.setIfInBounds_toArray, List.set_cons_zero, List.set_cons_succ, i64_w, i32_w]
                    rfl
                  refine last_ (i := 12) (N := none) #[true, true, true, true, true, true, true, true, true, true, true, true, true] rfl rfl (one_of HT_.out (by kernel_rfl)) (by decide) (fun K hK => ?_)
                  have hst := HST13.out
                  refine skip_ (w1 := W13) (by rfl) rfl (run_store_op (by rfl) (by rfl) (by rfl) hst) ?_
                  clear hst HST13 HD13 HDK13 HDX13 hHeld
                  refine hK.out _ _ ?_
                  clear hK K
                  refine done_ (done_of HT_.out (by kernel_rfl)) ?_
                  clear HT_ HW_
                  have HG13 := Aside0.mk (HG12.out.set p noD)
                  go_wp2_with fail
                  have HD14 := Aside0.mk (HS13.out.below (below_drew (Below.refl W13.heap.size W13)))
                  have HDK14 := Aside0.mk (HK13.out.trans (KeptBut.of_below (below_drew (Below.refl W13.heap.size W13))))
                  have HDX14 := Aside0.mk (blk_below HX13.out (below_drew (Below.refl W13.heap.size W13)))
                  obtain ⟨gp14, ci14, W14, hc14, hs14, hk14, hr14⟩ := HD14.out.put' HG13.out (p := q) (by rw [HN.out]; exact D2.out) (noD)
                  rw [hxq] at hc14
                  rw [hyq] at hr14
                  simp only [noD] at hr14
                  have HS14 := Aside0.mk hs14
                  have HK14 := Aside0.mk (HDK14.out.trans (hk14.mono (own' := fun x => x = V ∨ ok x) (fun b hb => Or.inr hb.1)))
                  have HX14 := Aside0.mk ((hk14.block B (blk_lt HDX14.out) (fun hb => hb.2 rfl)).trans HDX14.out)
                  have HST14 := Aside0.mk hr14
                  have hS : W13.drew.cell? ⟨B, 0, none⟩ = some (.slice (some ad) n c0) ∧ W13.drew.cell? (ad.add x2) = some (.slice (some gp14) d ci14) := ⟨(blk_cell HDX14.out 0).trans rfl, hc14⟩
                  refine start_ (n := 13) (S := fun w' => w'.cell? ⟨B, 0, none⟩ = some (.slice (some ad) n c0) ∧ w'.cell? (ad.add x2) = some (.slice (some gp14) d ci14)) (ds := [12]) #[false, false, false, false, false, false, false, false, false, false, false, false, false] (by kernel_rfl) rfl rfl hS (fun hHeld => ?_); refine with_tabW ref10_fill.tab14 ref10_fill.bits14 (fun HT_ HW_ => ?_)
                  clear hS hs14 hk14 hr14 hc14 HS13 HK13 HX13
                  generalize W13.drew = wd14 at HD14 HDK14 HDX14 HST14 hHeld HS14 HK14 HX14 ⊢
                  refine pure_ (i := 0) (N := some 127) (v := ?_) (a' := ?_) #[true, false, false, false, false, false, false, false, false, false, false, false, false] rfl rfl (any_of HT_.out (by kernel_rfl)) (fun _ _ _ h => h) (Or.inl ⟨by rfl, ?_⟩) ?_ ?_
                  rotate_left
                  · intro w'
                    go_simp
                    (try with_reducible rfl)
                  rotate_left
                  · simp only [Act.put, List.setIfInBounds_toArray, List.set_cons_zero, List.set_cons_succ, i64_w, i32_w]
                    rfl
                  refine pure_ (i := 2) (N := some 129) (v := ?_) (a' := ?_) #[true, false, true, false, false, false, false, false, false, false, false, false, false] rfl rfl (any_of HT_.out (by kernel_rfl)) (fun _ _ _ h => h) (Or.inl ⟨by rfl, ?_⟩) ?_ ?_
                  rotate_left
                  · intro w'
                    go_simp
                    (try with_reducible rfl)
                  rotate_left
                  · simp only [Act.put, List.setIfInBounds_toArray, List.set_cons_zero, List.set_cons_succ, i64_w, i32_w]
                    rfl
                  refine pure_ (i := 3) (N := some 130) (v := ?_) (a' := ?_) #[true, false, true, true, false, false, false, false, false, false, false, false, false] rfl rfl (any_of HT_.out (by kernel_rfl)) (fun _ _ _ h => h) (Or.inl ⟨by rfl, ?_⟩) ?_ ?_
                  rotate_left
                  · intro w'
                    go_simp
                    (try with_reducible rfl)
                  rotate_left
                  · simp only [Act.put, List.setIfInBounds_toArray, List.set_cons_zero, List.set_cons_succ, i64_w, i32_w]
                    rfl
                  refine pure_ (i := 4) (N := some 131) (v := ?_) (a' := ?_) #[true, false, true, true, true, false, false, false, false, false, false, false, false] rfl rfl (any_of HT_.out (by kernel_rfl)) (fun _ _ _ h => h) (Or.inl ⟨by rfl, ?_⟩) ?_ ?_
                  rotate_left
                  · intro w'
                    go_simp
                    (try with_reducible rfl)
                  rotate_left
                  · simp only [Act.put, List.setIfInBounds_toArray, List.set_cons_zero, List.set_cons_succ, i64_w, i32_w]
                    rfl
                  refine pure_ (i := 7) (N := some 134) (v := ?_) (a' := ?_) #[true, false, true, true, true, false, false, true, false, false, false, false, false] rfl rfl (any_of HT_.out (by kernel_rfl)) (fun _ _ _ h => h) (Or.inl ⟨by rfl, ?_⟩) ?_ ?_
                  rotate_left
                  · intro w'
                    go_simp
                    (try with_reducible rfl)
                  rotate_left
                  · simp only [Act.put, List.setIfInBounds_toArray, List.set_cons_zero, List.set_cons_succ, i64_w, i32_w]
                    rfl
                  refine pure_ (i := 8) (N := some 135) (v := ?_) (a' := ?_) #[true, false, true, true, true, false, false, true, true, false, false, false, false] rfl rfl (any_of HT_.out (by kernel_rfl)) (fun _ _ _ h => h) (Or.inl ⟨by rfl, ?_⟩) ?_ ?_
                  rotate_left
                  · intro w'
                    go_simp
                    (try with_reducible rfl)
                  rotate_left
                  · simp only [Act.put, List.setIfInBounds_toArray, List.set_cons_zero, List.set_cons_succ, i64_w, i32_w]
                    rfl
                  refine pure_ (i := 9) (N := some 136) (v := ?_) (a' := ?_) #[true, false, true, true, true, false, false, true, true, true, false, false, false] rfl rfl (any_of HT_.out (by kernel_rfl)) (fun _ _ _ h => h) (Or.inl ⟨by rfl, ?_⟩) ?_ ?_
                  rotate_left
                  · intro w'
                    go_simp
                    (try with_reducible rfl)
                  rotate_left
                  · simp only [Act.put, List.setIfInBounds_toArray, List.set_cons_zero, List.set_cons_succ, i64_w, i32_w]
                    rfl
                  refine pure_ (i := 10) (N := some 137) (v := ?_) (a' := ?_) #[true, false, true, true, true, false, false, true, true, true, true, false, false] rfl rfl (any_of HT_.out (by kernel_rfl)) (fun _ _ _ h => h) (Or.inl ⟨by rfl, ?_⟩) ?_ ?_
                  rotate_left
                  · intro w'
                    go_simp
                    (try with_reducible rfl)
                  rotate_left
                  · simp only [Act.put, List.setIfInBounds_toArray, List.set_cons_zero, List.set_cons_succ, i64_w, i32_w]
                    rfl
                  refine take_ (i := 1) (N := some 128) (v := ?_) (a' := ?_) #[true, true, true, true, true, false, false, true, true, true, true, false, false] rfl rfl (take_ofW HT_.out HW_.out (by kernel_rfl)) (fun _ _ _ h => h) (Or.inl ⟨by rfl, ?_⟩) hHeld ?_ ?_
                  rotate_left
                  · intro w' s0
                    go_simp
                    (try with_reducible rfl)
                  rotate_left
                  · simp only [Act.put, List.setIfInBounds_toArray, List.set_cons_zero, List.set_cons_succ, i64_w, i32_w]
                    rfl
                  refine pure_ (i := 5) (N := some 132) (v := ?_) (a' := ?_) #[true, true, true, true, true, true, false, true, true, true, true, false, false] rfl rfl (any_of HT_.out (by kernel_rfl)) (fun _ _ _ h => h) (Or.inl ⟨by rfl, ?_⟩) ?_ ?_
                  rotate_left
                  · intro w'
                    go_simp
                    (try with_reducible rfl)
                  rotate_left
                  · simp only [Act.put, List.setIfInBounds_toArray, List.set_cons_zero, List.set_cons_succ, i64_w, i32_w]
                    rfl
                  refine take_ (i := 6) (N := some 133) (v := ?_) (a' := ?_) #[true, true, true, true, true, true, true, true, true, true, true, false, false] rfl rfl (take_ofW HT_.out HW_.out (by kernel_rfl)) (fun _ _ _ h => h) (Or.inl ⟨by rfl, ?_⟩) hHeld ?_ ?_
                  rotate_left
                  · intro w' s0
                    go_simp
                    (try with_reducible rfl)
                  rotate_left
                  · simp only [Act.put, List.setIfInBounds_toArray, List.set_cons_zero, List.set_cons_succ, i64_w, i32_w]
                    rfl
                  refine pure_ (i := 11) (N := some 138) (v := ?_) (a' := ?_) #[true, true, true, true, true, true, true, true, true, true, true, true, false] rfl rfl (any_of HT_.out (by kernel_rfl)) (fun _ _ _ h => h) (Or.inl ⟨by rfl, ?_⟩) ?_ ?_
                  rotate_left
                  · intro w'
                    go_simp
                    (try with_reducible rfl)
                  rotate_left
                  · simp only [Act.put, List.setIfInBounds_toArray, List.set_cons_zero, List.set_cons_succ, i64_w, i32_w]
                    rfl
                  refine last_ (i := 12) (N := none) #[true, true, true, true, true, true, true, true, true, true, true, true, true] rfl rfl (one_of HT_.out (by kernel_rfl)) (by decide) (fun K hK => ?_)
                  have hst := HST14.out
                  refine skip_ (w1 := W14) (by rfl) rfl (run_store_op (by rfl) (by rfl) (by rfl) hst) ?_
                  clear hst HST14 HD14 HDK14 HDX14 hHeld
                  refine hK.out _ _ ?_
                  clear hK K
                  refine done_ (done_of HT_.out (by kernel_rfl)) ?_
                  clear HT_ HW_
                  have HG14 := Aside0.mk (HG13.out.set q noD)
                  cases rb with
                  | true =>
                    have H3 := Aside0.mk ((if_pos rfl).symm.trans H2.out)
                    go_wp2_with fail
                    go_roundg k2
                    case measure => omega
                    case rel => exact ⟨q + 1, _, ra, rc, by first | rfl | (rw [← eq_]; rfl) | simp [eq_], H3, ⟨by have := HKK2.out; omega⟩, ⟨D2.out⟩, HG14, HX14, HS14, HK14⟩
                  | false =>
                    obtain ⟨rfl, rfl, rfl, rfl⟩ : false = b ∧ setG d (setG d rg p noD) q noD = g2 ∧ ra = all2 ∧ rc = con2 := by have := H2.out; simpa using this
                    go_wp2_with fail
                    go_ret
                    exact ⟨rfl, HS14.out.mono fun b hb => hb.1, HG14.out, HK14.out⟩
              · rw [if_neg (by rw [HN.out]; exact d1)] at H
                obtain ⟨rfl, rfl, rfl, rfl⟩ : true = b ∧ g' = g2 ∧ all' = all2 ∧ con' = con2 := by simpa using H
                have d1b : decide (q < N) = false := decide_eq_false d1
                clear H d1
                go_wp2_with fail
                go_ret
                exact ⟨rfl, HS2.out.mono fun b hb => hb.1, HG.out, HK2.out⟩
      · rw [if_neg (by rw [HN.out]; exact d1)] at H
        obtain rfl : p = N := by have := HPN.out; omega
        obtain ⟨⟨b', a', c'⟩, hse, hh⟩ := Option.bind_eq_some_iff.1 H
        obtain ⟨rfl, rfl, rfl, rfl⟩ : b' = b ∧ g = g2 ∧ a' = all2 ∧ c' = con2 := by simpa using hh
        have HSE := Aside0.mk hse
        have d1b : decide (p < p) = false := decide_eq_false d1
        clear H hse hh d1
        go_wp2_with fail
        go_quiet (fail)
        have hcB2 : (wr.drewN nq).cell? ⟨B, 0, none⟩ = some (.slice (some ad) n c0) := hcB
        have hS3 := HS2.out.below (pw_below_drewN (Below.refl wr.heap.size wr) nq)
        have hK3 := HK2.out.trans (KeptBut.of_below (pw_below_drewN (Below.refl wr.heap.size wr) nq))
        have HV3 := Aside0.mk (show V < (wr.drewN nq).heap.size from blk_lt hS3.vb)
        have HCS := Aside0.mk (ref10_see.calls k1 w0 V wk A c l base (fun b => ok b ∧ b ≠ B) (some ad) c0 (wr.drewN nq) g all con a' c' b' (by rw [HG.out.len]; exact hS3) HV3.out HSE.out)
        have HK3 := Aside0.mk hK3
        clear hS3 hK3
        rw [HG.out.len] at HCS
        go_wp2_with ((go_at_call 61; refine HCS.out.mono ?_; rintro e w5 ⟨rfl, hS5, hK5⟩; have HS5 := Aside0.mk hS5; have HK5 := Aside0.mk (HK3.out.trans (hK5.mono (own' := fun x => x = V ∨ ok x) (fun b hb => Or.inl hb))); clear hS5 hK5 hcB2))
        go_ret
        exact ⟨rfl, HS5.out.mono fun b hb => hb.1, HG.out, HK5.out⟩
theorem fill_ok (w0 : World) (V : Nat) (wk : Bool) (A : Option Addr) (c : Nat) (l : List Int) (base n d : Nat) (k : Nat) : FillOk w0 V wk A c l base n d k := by
  induction k using Nat.strongRecOn with
  | _ k ih => exact fill_step w0 V wk A c l base n d k ih
end Go.Proofs.Ytgbjbgdnldklpaa.Q
end
/-! Part XEach -/
section
namespace Go.Proofs.Ytgbjbgdnldklpaa.Q
open Go.RowKit Go.Proofs.YtgbjbgdnldklpaaW.PrintWords Go.Proofs.YtgbjbgdnldklpaaW.PrintLast Go.Proofs.YtgbjbgdnldklpaaW.PrintMore
set_option linter.unusedVariables false
set_option linter.unusedSimpArgs false
/-! ### the reference's visitor: each -/
def rowN (j d : Nat) : List S44 := List.replicate j noD ++ List.replicate (d - j) z44
def emptyG (n d : Nat) : Grid := List.replicate n (rowN d d)
def ref10_each.f (k n d : Nat) (wk : Bool) (l : List Int) (all con : Int) : Option (Bool × Int × Int) := (ref10_fill.l0 k n d wk l (emptyG n d) 0 all con).bind fun r => some (r.1, r.2.2.1, r.2.2.2)
theorem ref10_each.mono (n d : Nat) (wk : Bool) (l : List Int) (all con : Int) (k : Nat) : LeO (ref10_each.f k n d wk l all con) (ref10_each.f (k + 1) n d wk l all con) := LeO.bind ((ref10_fill.mono_l k).1 _ _ _ _ _ _ _ _) fun _ => LeO.refl _
theorem rowN_len {j d : Nat} (h : j ≤ d) : (rowN j d).length = d := by simp [rowN]; omega
theorem rowN_set {j d : Nat} (h : j < d) : (rowN j d).set j noD = rowN (j + 1) d := by
  unfold rowN
  rw [List.set_append_right _ _ (by simp)]
  simp only [List.length_replicate, Nat.sub_self]
  obtain ⟨e, he⟩ : ∃ e, d - j = e + 1 := ⟨d - j - 1, by omega⟩
  rw [he, List.replicate_succ, List.set_cons_zero, List.replicate_succ', List.append_assoc, show d - (j + 1) = e by omega]
  rfl
theorem emptyG_sh {n d : Nat} (hn : 1 ≤ n) (hd : 1 ≤ d) (h : n * d ≤ 12) : ShG n d (emptyG n d) := by
  refine ⟨by simp [emptyG], hn, hd, h, fun r hr => ?_⟩
  show ((emptyG n d).getD r []).length = d
  rw [List.getD_eq_getElem?_getD]
  simp [emptyG, hr, rowN_len (Nat.le_refl d)]
theorem info_row : (Try.prog.info? 40).map (fun i => (i.zero, i.size, i.bytes)) = some (some (.slice none 0 0), 1, 24) := by kernel_rfl
theorem info_door3 : (Try.prog.info? 44).map (fun i => (i.zero, i.size, i.bytes)) = some (some (.agg #[.int .i64 0, .int .i64 0]), 2, 16) := by kernel_rfl
/-- The maze that grows. -/
structure EI (w0 : World) (V : Nat) (wk : Bool) (A : Option Addr) (c : Nat) (l : List Int) (w W : World) (Z : Nat) (v : Value) (g : Grid) (all con : Int) : Prop where
  sv : SV w0 V wk A c l w.heap.size (fun k => k ≠ Z ∧ w.heap.size ≤ k) v W g all con
  bz : W.heap[Z]? = some (.cells #[v] 38 (0, 0))
  below : Below w.heap.size w W
  hZ : w.heap.size ≤ Z
theorem EI.next {w0 : World} {V : Nat} {wk : Bool} {A : Option Addr} {c : Nat} {l : List Int} {w W W2 W3 : World} {Z : Nat} {v v1 : Value} {g : Grid} {row : List S44} {all con : Int} (h : EI w0 V wk A c l w W Z v g all con) (hold : Below w0.heap.size w0 w) (hV : V < w.heap.size) (hb : Below W.heap.size W W2)
    (hS : Kd.S (Kd.slice 44 k44) 40 W3 w.heap.size (fun k => k ≠ Z ∧ w.heap.size ≤ k) v1 (g ++ [row])) (hb3 : Below w.heap.size w W3) (hg : W2.grownBy W3 v.ownBlock) :
    W3.heap[Z]? = some (.cells #[v] 38 (0, 0)) ∧ EI w0 V wk A c l w (W3.setCell ⟨Z, 0, none⟩ v1) Z v1 (g ++ [row]) all con := by
  have hown : ∀ k, v.ownBlock = some k → k ≠ Z ∧ w.heap.size ≤ k := fun k hk => (Kd.S_R h.sv.S).1 k hk
  have hz : W3.heap[Z]? = some (.cells #[v] 38 (0, 0)) := blk_grown (blk_below h.bz hb) hg (fun e => (hown Z e.symm).1 rfl)
  have hv : VB W3 V wk A l.length c all con := blk_grown (blk_below h.sv.vb hb) hg (fun e => by have := (hown V e.symm).2; omega)
  refine ⟨hz, ⟨h.sv.word, h.sv.wc, below_step hold (below_setS hb3 h.hZ _ _), h.sv.hV, ?_, Kd.S_far (p := ⟨Z, 0, none⟩) hS (fun k hk => hk.1) v1, h.sv.hb0⟩, blk_put hz 0 v1 rfl, below_setS hb3 h.hZ _ _, h.hZ⟩
  exact (Below.heap_setCell W3 ⟨Z, 0, none⟩ v1 V (show V ≠ Z by have := h.hZ; omega)).trans hv
theorem row_new {W W1 : World} {d : Nat} {v : Value} (h : k44.R 44 W1 W.heap.size (fun b => b = W.heap.size) v (List.replicate (d : Int).toNat z44)) (hd : 1 ≤ d) (hb : Below W.heap.size W W1) :
    ∃ G ci, v = .slice (some ⟨G, 0, none⟩) d ci ∧ k44.R 44 W1 W.heap.size (fun b => b = G) (.slice (some ⟨G, 0, none⟩) d ci) (rowN 0 d) ∧ G = W.heap.size ∧ Below W.heap.size W W1 := by
  rw [Int.toNat_natCast] at h
  obtain ⟨g, ci, hv, _, _, _⟩ := Kd.R_form h (by rw [List.length_replicate]; omega)
  rw [List.length_replicate] at hv
  subst hv
  have hg : g = W.heap.size := h.1 g rfl
  refine ⟨g, ci, rfl, ?_, hg, hb⟩
  subst hg
  have e : rowN 0 d = List.replicate d z44 := by simp [rowN]
  rw [e]
  exact h
theorem row_set {W : World} {base d G ci j : Nat} (h : k44.R 44 W base (fun b => b = G) (.slice (some ⟨G, 0, none⟩) d ci) (rowN j d)) (hj : j < d) :
    (∃ u, W.cell? ⟨G, j * 2, none⟩ = some u) ∧ W.frozen? ⟨G, j * 2, none⟩ = false ∧ k44.R 44 (W.setCell ⟨G, j * 2, none⟩ (.int .i64 (-1))) base (fun b => b = G) (.slice (some ⟨G, 0, none⟩) d ci) (rowN (j + 1) d) := by
  have hl : (j : Int) < ((d : Nat) : Int) := Int.ofNat_lt.2 hj
  have hs : k44.sz = 2 := rfl
  obtain ⟨c, hc1, hc2, hc3, hc4⟩ := Kd.R_elem h z44 (j : Int) (Int.natCast_nonneg _) hl
  rw [Int.toNat_natCast] at hc2
  have ez : (rowN j d).getD j z44 = z44 := by
    unfold rowN
    rw [List.getD_eq_getElem?_getD, List.getElem?_append_right (by simp)]
    simp [show 0 < d - j by omega]
  rw [ez] at hc2
  obtain ⟨c1, c2, rfl, hx, hy⟩ := hc2
  obtain rfl : c1 = [.int .i64 0] := hx
  obtain rfl : c2 = [.int .i64 0] := hy
  obtain ⟨cells, hcells⟩ := Kd.R_typed h G rfl
  obtain ⟨h1, h2⟩ := Kd.R_seg h (j : Int) (Int.natCast_nonneg _) hl (seg := [.int .i64 (-1)]) (j := 0) hc1 hc3 (by rw [hs]; decide) (x' := noD) (okp := fun _ => False) ⟨[.int .i64 (-1)], [.int .i64 0], rfl, rfl, rfl⟩ (fun _ h => h.elim)
  rw [Int.toNat_natCast, rowN_set hj] at h1
  refine ⟨⟨.int .i64 0, ?_⟩, blk_frozen hcells _, h1⟩
  have := hc3 0 (.int .i64 0) rfl
  rw [Int.toNat_natCast] at this
  exact this
set_option maxHeartbeats 1000000 in
set_option maxRecDepth 100000 in
theorem ref10_each.calls (k : Nat) (w0 : World) (V : Nat) (wk : Bool) (A : Option Addr) (c : Nat) (l : List Int) (n d : Nat) (w : World) (all con all2 con2 : Int) (b : Bool) (hn : 1 ≤ n) (hd : 1 ≤ d) (hnd : n * d ≤ 12)
    (hword : Kd.C (Kd.int .i64) w0 A l.length l) (hwc : l.length ≤ c) (hold : Below w0.heap.size w0 w) (hV0 : w0.heap.size ≤ V) (hV : V < w.heap.size) (hvb : VB w V wk A l.length c all con) (h : ref10_each.f k n d wk l all con = some (b, all2, con2)) :
    Calls Try.prog 40 #[.pointer (some ⟨V, 0, none⟩), .int .i64 (n : Int), .int .i64 (d : Int)] w fun e w' => e = .returned (.bool b) ∧ VB w' V wk A l.length c all2 con2 ∧ KeptBut (fun x => x = V) w w' := by
  obtain ⟨⟨b', g', a', c'⟩, hf, hh⟩ := Option.bind_eq_some_iff.1 h
  obtain ⟨rfl, rfl, rfl⟩ : b' = b ∧ a' = all2 ∧ c' = con2 := by simpa using hh
  have HF := Aside0.mk hf
  have hz : Below w.heap.size w (w.alloc (.cells #[.slice none 0 0] 38)) := below_alloc (Below.refl _ _) _
  have HE0 := Aside0.mk (show EI w0 V wk A c l w (w.alloc (.cells #[.slice none 0 0] 38)) w.heap.size (.slice none 0 0) [] all con from ⟨⟨hword, hwc, below_step hold hz, hV0, blk_below hvb hz, Kd.S_nil _ _ _ _ _, hold.size⟩, blk_new _ _, hz, Nat.le_refl _⟩)
  have HN1 := Aside0.mk hn
  have HD1 := Aside0.mk hd
  have HND := Aside0.mk hnd
  have HV := Aside0.mk hV
  have HOLD := Aside0.mk hold
  clear hf hh h hz hword hwc hold hV0 hV hvb hn hd hnd
  go_enter Try.func40, Try.ntmps40
  go_wp2_with fail
  have HMD := Aside0.mk (nat_m HND.out)
  have hdl : (d : Int) ≤ 12 := by
    have h1 : d ≤ n * d := Nat.le_mul_of_pos_left d (Nat.lt_of_lt_of_le Nat.zero_lt_one HN1.out)
    have := HND.out
    omega
  have hnl : n ≤ 12 := by
    have h1 : n ≤ n * d := Nat.le_mul_of_pos_right n (Nat.lt_of_lt_of_le Nat.zero_lt_one HD1.out)
    have := HND.out
    omega
  have HDL := Aside0.mk hdl
  have HNL := Aside0.mk hnl
  clear hdl hnl
  generalize (w.alloc (.cells #[.slice none 0 0] 38)) = wz at HE0 ⊢
  generalize w.heap.size = Z at HE0 ⊢
  have q1 : ((0 : Int) ≤ (d : Int)) = True := eq_true (Int.natCast_nonneg _)
  go_loopg [8] (n + 1) (fun kq v8 w' => ∃ (r : Nat) (v : Value), v8 = .int .i64 (r : Int) ∧ Aside0 (r + kq = n + 1) ∧ Aside0 (r ≤ n) ∧ Aside0 (EI w0 V wk A c l w w' Z v (List.replicate r (rowN d d)) all con))
  case atStart => exact ⟨0, _, rfl, ⟨by omega⟩, ⟨Nat.zero_le _⟩, HE0⟩
  case round =>
    clear HE0
    obtain ⟨r, v, rfl, HKQ, HRN, HE⟩ := hrel
    cases gk with
    | zero => exact absurd HKQ.out (by have := HRN.out; omega)
    | succ k1 =>
      by_cases d1 : r < n
      · have D1 := Aside0.mk d1
        have d1b : decide (r < n) = true := decide_eq_true d1
        have eq_ : wrap64 ((r : Int) + 1) = ((r + 1 : Nat) : Int) := by have := HNL.out; unfold wrap64; omega
        have hlen16 : (d : Int).toNat * 16 ≤ 281474976710656 := by have := HDL.out; omega
        clear d1
        go_wp2_with ((with_reducible refine gate_dst (N := 18) rfl ?_); refine Kd.R_make k44 _ 44 rfl (N := 18) rfl 40 _ _ rfl (d : Int) rfl rfl Try.underlying40 (.agg #[.int .i64 0, .int .i64 0]) 16 info_door3 rfl (by decide) (by omega) z44 (ok := fun b => b = wr.heap.size) (okp := fun _ => False) ⟨[.int .i64 0], [.int .i64 0], rfl, rfl, rfl⟩ (fun _ hk => hk.elim) rfl (Int.natCast_nonneg _) hlen16 (Below.refl _ _) (Nat.le_refl _) ?_;  intro v9 w9 hR hb9 hg9 hn9; clear hg9 hn9 hlen16; obtain ⟨G9, ci, rfl, hR2, hG9, hb9'⟩ := row_new hR HD1.out hb9; have HR9 := Aside0.mk hR2; have HG9 := Aside0.mk hG9; have HB9 := Aside0.mk hb9'; clear hR hb9 hR2 hG9 hb9')
        go_loopg [10] (d + 1) (fun kq v10 w' => ∃ (j : Nat), v10 = .int .i64 (j : Int) ∧ Aside0 (j + kq = d + 1) ∧ Aside0 (j ≤ d) ∧ Aside0 (k44.R 44 w' wr.heap.size (fun b => b = G9) (.slice (some ⟨G9, 0, none⟩) d ci) (rowN j d)) ∧ Aside0 (Below wr.heap.size wr w'))
        case atStart => exact ⟨0, rfl, ⟨by omega⟩, ⟨Nat.zero_le _⟩, HR9, HB9⟩
        case round =>
          clear HR9 HB9
          rename World => wi
          obtain ⟨j, rfl, HJK, HJD, HRj, HBj⟩ := hrel
          cases gk with
          | zero => exact absurd HJK.out (by have := HJD.out; omega)
          | succ k2 =>
            by_cases d2 : j < d
            · obtain ⟨⟨u, hu⟩, hfz, hR2⟩ := row_set HRj.out d2
              have HR3 := Aside0.mk hR2
              have HB3 := Aside0.mk (below_setS HBj.out (Nat.le_of_eq HG9.out.symm) (j * 2) (.int .i64 (-1)))
              have D2 := Aside0.mk d2
              have d2b : decide (j < d) = true := decide_eq_true d2
              have e0 : ((0 : Int) ≤ (j : Int)) = True := eq_true (Int.natCast_nonneg _)
              have e1 : ((j : Int) < (d : Int)) = True := eq_true (Int.ofNat_lt.2 d2)
              have e2 : (j < d) = True := eq_true d2
              have eqj : wrap64 ((j : Int) + 1) = ((j + 1 : Nat) : Int) := by have := HDL.out; unfold wrap64; omega
              clear d2 hR2
              go_wp2_with fail
              go_roundg k2
              case measure => omega
              case rel => exact ⟨j + 1, by first | rfl | (rw [← eqj]; rfl) | simp [eqj], ⟨by have := HJK.out; omega⟩, ⟨D2.out⟩, HR3, HB3⟩
            · have d2b : decide (j < d) = false := decide_eq_false d2
              obtain rfl : j = d := Nat.le_antisymm HJD.out (Nat.le_of_not_lt d2)
              have HRw := Aside0.mk (Kd.R_lower HRj.out HE.out.below.size)
              have hap : w.heap.size ≤ wr.heap.size ∧ Z < wr.heap.size := ⟨HE.out.below.size, blk_lt HE.out.bz⟩
              have HAK : Aside0 (∀ k, k = G9 → (k ≠ Z ∧ w.heap.size ≤ k) ∧ some k ≠ v.ownBlock) := ⟨fun k hk => by
                rw [HG9.out] at hk
                subst hk
                exact ⟨⟨by omega, hap.1⟩, fun e => by have := Kd.S_lt HE.out.sv.S _ e.symm; omega⟩⟩
              have HAF : Aside0 (∀ k, wi.heap.size ≤ k → k ≠ Z ∧ w.heap.size ≤ k) := ⟨fun k hk => by have := HBj.out.size; omega⟩
              have HAO := Aside0.mk (Kd.S_mono (ok' := fun k => (k ≠ Z ∧ w.heap.size ≤ k) ∧ ¬ k = G9) (Kd.S_old HE.out.sv.S HBj.out) (fun k hk => ⟨hk.1, fun e => by rw [HG9.out] at e; omega⟩))
              have HAB := Aside0.mk (below_step HE.out.below HBj.out)
              have HAL : Aside0 (((List.replicate r (rowN j j)).length + 1) * 24 ≤ 140737488355328) := ⟨by rw [List.length_replicate]; have := HNL.out; have := D1.out; omega⟩
              have hz : wi.cell? ⟨Z, 0, none⟩ = some v := (blk_cell (blk_below HE.out.bz HBj.out) 0).trans rfl
              have hfz := blk_frozen (blk_below HE.out.bz HBj.out) 0
              clear d2 hap
              go_wp2_with ((with_reducible refine gate_builtin (b := .append) (xs := #[.tmp 29, .tmp 31]) rfl ?_); at_builtin; refine Kd.S_append (Kd.slice 44 k44) (w0 := w) w.heap.size rfl (.tmp 29) (.tmp 31) 36 40 (.slice none 0 0) 24 rfl Try.underlying36 info_row rfl (by decide) (by omega) v (List.replicate r (rowN j j)) (rowN j j) [.slice (some ⟨G9, 0, none⟩) j ci] (fun k => k ≠ Z ∧ w.heap.size ≤ k) (fun b => b = G9) rfl rfl ⟨_, rfl, HRw.out⟩ HAK.out HAF.out HAO.out HAB.out HAB.out.size HAL.out ?_;  intro v8 w8 hS8 hb8 hg8 hat8; obtain ⟨A8, c8, hv8, _, _⟩ := Kd.S_reads hS8; rw [show (List.replicate r (rowN j j) ++ [rowN j j]).length = r + 1 from by simp] at hv8; subst hv8; obtain ⟨hz8, hE8⟩ := HE.out.next HOLD.out HV.out HBj.out hS8 hb8 hg8; have HE8 := Aside0.mk hE8; have hz9 : w8.cell? ⟨Z, 0, none⟩ = some v := (blk_cell hz8 0).trans rfl; have hfz9 := blk_frozen hz8 0; clear hS8 hb8 hg8 hat8 hE8 hz8 hz hfz)
              go_roundg k1
              case measure => omega
              case rel => exact ⟨r + 1, _, by first | rfl | (rw [← eq_]; rfl) | simp [eq_], ⟨by have := HKQ.out; omega⟩, ⟨D1.out⟩, ⟨by rw [List.replicate_succ']; exact HE8.out⟩⟩
      · have d1b : decide (r < n) = false := decide_eq_false d1
        obtain rfl : r = n := Nat.le_antisymm HRN.out (Nat.le_of_not_lt d1)
        obtain ⟨ad, c0, hvv⟩ : ∃ ad c0, v = .slice (some ad) r c0 := by
          obtain ⟨g0, ci0, hv0, _⟩ := Kd.R_form (Kd.S_R HE.out.sv.S) (by rw [List.length_replicate]; exact HN1.out)
          rw [List.length_replicate] at hv0
          exact ⟨_, _, hv0⟩
        subst hvv
        have hz : wr.cell? ⟨Z, 0, none⟩ = some (.slice (some ad) r c0) := (blk_cell HE.out.bz 0).trans rfl
        have HSH := Aside0.mk (emptyG_sh HN1.out HD1.out HND.out)
        have HC := Aside0.mk (fill_ok w0 V wk A c l w.heap.size r d k (fun x => x ≠ Z ∧ w.heap.size ≤ x) (emptyG r d) 0 all con a' c' b' g' ad c0 wr HSH.out HE.out.sv (blk_lt HE.out.sv.vb) (Nat.zero_le _) HF.out)
        clear d1
        go_wp2_with (go_at_call 54; refine HC.out.mono ?_; rintro e w5 ⟨rfl, hS5, hG5, hK5⟩; have HS5 := Aside0.mk hS5; have HK5 := Aside0.mk hK5; clear hS5 hG5 hK5)
        go_ret
        refine ⟨rfl, HS5.out.vb, ?_⟩
        have hb := HE.out.below
        have hk := HK5.out
        exact ⟨hk.os.trans hb.os, hk.tape.trans hb.tape, hk.output.trans hb.output, Nat.le_trans hb.size hk.size, fun b hb1 hb2 => (hk.block b (Nat.lt_of_lt_of_le hb1 hb.size) (fun h => h.elim hb2 fun h => by have := h.2; omega)).trans (hb.block b hb1)⟩
end Go.Proofs.Ytgbjbgdnldklpaa.Q
end
/-! Part XRMazes -/
section
namespace Go.Proofs.Ytgbjbgdnldklpaa.Q
open Go.RowKit Go.Proofs.YtgbjbgdnldklpaaW.PrintWords Go.Proofs.YtgbjbgdnldklpaaW.PrintLast Go.Proofs.YtgbjbgdnldklpaaW.PrintMore
set_option linter.unusedVariables false
set_option linter.unusedSimpArgs false
/-! ### the reference's Mazes and Check -/
def eachG (k : Nat) (n d : Int) (wk : Bool) (l : List Int) (all con : Int) : Option (Bool × Int × Int) := if 1 ≤ n ∧ 1 ≤ d ∧ n.toNat * d.toNat ≤ 12 then ref10_each.f k n.toNat d.toNat wk l all con else none
theorem eachG.mono (n d : Int) (wk : Bool) (l : List Int) (all con : Int) (k : Nat) : LeO (eachG k n d wk l all con) (eachG (k + 1) n d wk l all con) := LeO.ite (ref10_each.mono _ _ _ _ _ _ _) (LeO.refl _)
def mizmazeref10_Check.l0 : Nat → Int → Int → List Int → Int → Int → Int → Option Bool
  | 0, _, _, _, _, _, _ => none
  | k + 1, a0, a1, l, r, all, con => if r ≤ a0 then (eachG k r a1 true l all con).bind fun p => (if p.1 = true then mizmazeref10_Check.l0 k a0 a1 l (wrap64 (r + 1)) p.2.1 p.2.2 else some false) else some true
def mizmazeref10_Check.f (k : Nat) (a0 a1 : Int) (l : List Int) : Option Bool := mizmazeref10_Check.l0 k a0 a1 l 1 0 0
theorem mizmazeref10_Check.mono_l : ∀ k y0 y1 y2 y3 y4 y5, LeO (mizmazeref10_Check.l0 k y0 y1 y2 y3 y4 y5) (mizmazeref10_Check.l0 (k + 1) y0 y1 y2 y3 y4 y5)
  | 0 => fun _ _ _ _ _ _ r h => by simp [mizmazeref10_Check.l0] at h
  | k + 1 => by
    intro y0 y1 y2 y3 y4 y5
    unfold mizmazeref10_Check.l0
    exact LeO.ite (LeO.bind (eachG.mono _ _ _ _ _ _ _) fun p => LeO.ite (mizmazeref10_Check.mono_l k _ _ _ _ _ _) (LeO.refl _)) (LeO.refl _)
theorem mizmazeref10_Check.mono : ∀ a0 a1 a2 k, LeO (mizmazeref10_Check.f k a0 a1 a2) (mizmazeref10_Check.f (k + 1) a0 a1 a2) := fun _ _ _ k => mizmazeref10_Check.mono_l k _ _ _ _ _ _
theorem each_G (k : Nat) (w0 : World) (V : Nat) (wk : Bool) (A : Option Addr) (c : Nat) (l : List Int) (n d : Int) (w : World) (all con all2 con2 : Int) (b : Bool)
    (hword : Kd.C (Kd.int .i64) w0 A l.length l) (hwc : l.length ≤ c) (hold : Below w0.heap.size w0 w) (hV0 : w0.heap.size ≤ V) (hvb : VB w V wk A l.length c all con) (h : eachG k n d wk l all con = some (b, all2, con2)) :
    Calls Try.prog 40 #[.pointer (some ⟨V, 0, none⟩), .int .i64 n, .int .i64 d] w fun e w' => e = .returned (.bool b) ∧ VB w' V wk A l.length c all2 con2 ∧ Below w0.heap.size w0 w' := by
  unfold eachG at h
  by_cases hg : 1 ≤ n ∧ 1 ≤ d ∧ n.toNat * d.toNat ≤ 12
  · rw [if_pos hg] at h
    have e1 : n = ((n.toNat : Nat) : Int) := by omega
    have e2 : d = ((d.toNat : Nat) : Int) := by omega
    have hc := ref10_each.calls k w0 V wk A c l n.toNat d.toNat w all con all2 con2 b (by omega) (by omega) hg.2.2 hword hwc hold hV0 (blk_lt hvb) hvb h
    rw [← e1, ← e2] at hc
    refine hc.mono ?_
    rintro e w' ⟨h1, h2, hk⟩
    exact ⟨h1, h2, hk.os.trans hold.os, hk.tape.trans hold.tape, hk.output.trans hold.output, Nat.le_trans hold.size hk.size, fun x hx => (hk.block x (Nat.lt_of_lt_of_le hx hold.size) (fun e => by omega)).trans (hold.block x hx)⟩
  · rw [if_neg hg] at h
    cases h
set_option maxHeartbeats 1000000 in
set_option maxRecDepth 100000 in
theorem mizmazeref10_Check.calls (k : Nat) (a0 a1 : Int) (A2 : Option Addr) (c2 : Nat) (l2 : List Int) (r : Bool) (w : World) (hr2 : Kd.C (Kd.int .i64) w A2 l2.length l2) (hc2 : l2.length ≤ c2) (h : mizmazeref10_Check.f k a0 a1 l2 = some r) :
    Calls Try.prog 19 #[.int .i64 a0, .int .i64 a1, .slice A2 l2.length c2] w fun e w' => e = .returned (.bool r) ∧ Below w.heap.size w w' := by
  have HL := Aside0.mk (show mizmazeref10_Check.l0 k a0 a1 l2 1 0 0 = some r from h)
  have HR := Aside0.mk hr2
  have HC := Aside0.mk hc2
  clear h hr2 hc2
  go_enter Try.func19, Try.ntmps19
  have HX := Aside0.mk (show VB (w.alloc (.cells #[.bool true, .slice A2 l2.length c2, .int .i64 0, .int .i64 0] 69)) w.heap.size true A2 l2.length c2 0 0 from blk_new _ _)
  have HB1 := Aside0.mk (below_alloc (Below.refl w.heap.size w) (.cells #[.bool true, .slice A2 l2.length c2, .int .i64 0, .int .i64 0] 69))
  have HBe := Aside0.mk (Nat.le_refl w.heap.size)
  go_wp2_with fail
  go_loopg [8] k (fun kq v8 w' => ∃ (s all con : Int), v8 = .int .i64 s ∧ Aside0 (mizmazeref10_Check.l0 kq a0 a1 l2 s all con = some r) ∧ Aside0 (VB w' w.heap.size true A2 l2.length c2 all con) ∧ Aside0 (Below w.heap.size w w'))
  case atStart => exact ⟨1, 0, 0, rfl, HL, HX, HB1⟩
  case round =>
    clear HL HX HB1
    obtain ⟨s, all, con, rfl, HA, HX, HB1⟩ := hrel
    cases gk with
    | zero => exact absurd HA.out (by simp [mizmazeref10_Check.l0])
    | succ k1 =>
      have H := HA.out
      clear HA
      simp only [mizmazeref10_Check.l0] at H
      by_cases d1 : s ≤ a0
      · rw [if_pos d1] at H
        obtain ⟨⟨b, x1, x2⟩, hf, hh⟩ := Option.bind_eq_some_iff.1 H
        have d1b : decide (s ≤ a0) = true := decide_eq_true d1
        have HE := Aside0.mk (each_G k1 w w.heap.size true A2 c2 l2 s a1 wr all con x1 x2 b HR.out HC.out HB1.out HBe.out HX.out hf)
        cases b with
        | true =>
          have H2 := Aside0.mk (show mizmazeref10_Check.l0 k1 a0 a1 l2 (wrap64 (s + 1)) x1 x2 = some r from hh)
          clear H hf hh d1
          go_wp2_with (go_at_call 40; refine HE.out.mono ?_; rintro e w2 ⟨rfl, hv2, hb2⟩; have HV2 := Aside0.mk hv2; have HB2 := Aside0.mk hb2; clear hv2 hb2)
          go_roundg k1
          case measure => omega
          case rel => exact ⟨_, x1, x2, rfl, H2, HV2, HB2⟩
        | false =>
          obtain rfl : false = r := by simpa using hh
          clear H hf hh d1
          go_wp2_with (go_at_call 40; refine HE.out.mono ?_; rintro e w2 ⟨rfl, hv2, hb2⟩; have HV2 := Aside0.mk hv2; have HB2 := Aside0.mk hb2; clear hv2 hb2)
          go_ret
          exact ⟨rfl, HB2.out⟩
      · rw [if_neg d1] at H
        obtain rfl := Option.some.inj H
        have d1b : decide (s ≤ a0) = false := decide_eq_false d1
        clear H d1
        go_wp2_with fail
        go_ret
        exact ⟨rfl, HB1.out⟩
end Go.Proofs.Ytgbjbgdnldklpaa.Q
end
