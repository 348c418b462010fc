/- What Merge returns merges the two states; no shorter word does, and none of the same length that comes before it, for any automaton, states and word. (text 23 of 25) -/
import Derived.Test.YtogoppejcmaocaaZResetMergedo
import Derived.Test.YtogoppejcmaocaaZResetMergeds
import Derived.Test.YtogoppejcmaocaaZResetMergedv
import Derived.Test.YtogoppejcmaocaaZResetMergedg
import Derived.Test.YtogoppejcmaocaaZResetMergedj
import Derived.Test.YtogoppejcmaocaaZResetMergedu
/-! Part XReset -/
section
namespace Go.Proofs.Ytogoppejcmaocaa.Q
open Go.RowKit Go.Proofs.YtogoppejcmaocaaW.PrintWords Go.Proofs.YtogoppejcmaocaaW.PrintLast Go.Proofs.YtogoppejcmaocaaW.PrintMore
set_option linter.unusedVariables false
set_option linter.unusedSimpArgs false
/-! ### Reset's memory -/
theorem int_not_map {α : Type} {d : Kd α} {e base b : Nat} {ok : Nat → Prop} {W : World} {v : Value} {l : List α} (h : d.R e W base ok v l) {es : List ((Int × Int) × Value)} (hm : MapIs PairG encP W b es) : some b ≠ v.ownBlock := by
  intro e
  obtain ⟨cells, hc⟩ := Kd.R_typed h b e.symm
  obtain ⟨arr, ck, h2, _⟩ := hm
  rw [hc] at h2; cases h2
structure RI (w W : World) (A0 : Option Addr) (n c0 D M b : Nat) (left : List ((Int × Int) × Int)) (v : Value) (out : List Int) (u : Value) (set : List Int) : Prop where
  below : Below w.heap.size w W
  bD : W.heap[D]? = some (.cells #[.slice A0 n c0] 24 (0, 0))
  bM : W.heap[M]? = some (.cells #[.slice A0 n c0, .map (some b)] 94 (0, 0))
  left : MapIs PairG encP W b (lv left)
  out : Kd.R (Kd.int .i64) 3 W w.heap.size (fun _ => True) v out
  st : Kd.R (Kd.int .i64) 3 W w.heap.size (fun _ => True) u set
  ne : NeRow v u
theorem int_E : (Kd.int .i64).E = [] := rfl
theorem R_far {x y : Value} {W W1 : World} {base : Nat} {l : List Int} (hR : Kd.R (Kd.int .i64) 3 W base (fun _ => True) y l) (h : NeRow x y) (hg : W.grownBy W1 x.ownBlock) : Kd.R (Kd.int .i64) 3 W1 base (fun _ => True) y l :=
  Kd.R_grown2 hR int_E hg fun k hk e => h k hk e.symm
theorem ne_hat {x x1 y : Value} {W : World} {base : Nat} {l : List Int} {ok : Nat → Prop} (h : NeRow x y) (hR : Kd.R (Kd.int .i64) 3 W base ok y l) (hat : x1.ownBlock = x.ownBlock ∨ ∃ k, x1.ownBlock = some k ∧ W.heap.size ≤ k) : NeRow x1 y := by
  intro k hk hk'
  rcases hat with hat | ⟨k', hk1, hle⟩
  · exact h k (hat ▸ hk) hk'
  · have := Kd.R_lt hR k hk'
    rw [hk1] at hk; injection hk with hk; omega
theorem ne_young {x y : Value} {W W1 : World} {base : Nat} {l l' : List Int} {ok ok' : Nat → Prop} (hx : Kd.R (Kd.int .i64) 3 W base ok x l) (hy : Kd.R (Kd.int .i64) 3 W1 W.heap.size ok' y l') : NeRow x y := by
  intro k hk hk'
  have := Kd.R_lt hx k hk
  have := Kd.R_base hy k hk'
  omega
section
variable {w W W1 : World} {A0 : Option Addr} {n c0 D M b : Nat} {left : List ((Int × Int) × Int)} {v v1 u u1 : Value} {out out1 set set1 : List Int}
theorem RI.next (h : RI w W A0 n c0 D M b left v out u set) (hb : Below W.heap.size W W1) : RI w W1 A0 n c0 D M b left v out u set :=
  ⟨below_step h.below hb, blk_below h.bD hb, blk_below h.bM hb, h.left.below hb, Kd.R_below h.out hb, Kd.R_below h.st hb, h.ne⟩
theorem RI.setTo (h : RI w W A0 n c0 D M b left v out u set) (hg : W.grownBy W1 u.ownBlock) (hR : Kd.R (Kd.int .i64) 3 W1 w.heap.size (fun _ => True) u1 set1) (he : u1.ownBlock = u.ownBlock) : RI w W1 A0 n c0 D M b left v out u1 set1 :=
  ⟨pw_below_grown h.below _ h.below.size hg (fun k e => Kd.R_base h.st k e), blk_grown h.bD hg (Kd.R_ne h.st h.bD (by decide)), blk_grown h.bM hg (Kd.R_ne h.st h.bM (by decide)), h.left.kept hg (int_not_map h.st h.left),
    R_far h.out (ne_symm h.ne) hg, hR, fun k hk hk' => h.ne k hk (he ▸ hk')⟩
theorem RI.outTo (h : RI w W A0 n c0 D M b left v out u set) (hg : W.grownBy W1 v.ownBlock) (hR : Kd.R (Kd.int .i64) 3 W1 w.heap.size (fun _ => True) v1 out1) (hat : v1.ownBlock = v.ownBlock ∨ ∃ k, v1.ownBlock = some k ∧ W.heap.size ≤ k) : RI w W1 A0 n c0 D M b left v1 out1 u set :=
  ⟨pw_below_grown h.below _ h.below.size hg (fun k e => Kd.R_base h.out k e), blk_grown h.bD hg (Kd.R_ne h.out h.bD (by decide)), blk_grown h.bM hg (Kd.R_ne h.out h.bM (by decide)), h.left.kept hg (int_not_map h.out h.left),
    hR, R_far h.st h.ne hg, ne_hat h.ne h.st hat⟩
end
set_option maxHeartbeats 4000000 in
set_option maxRecDepth 100000 in
theorem reset_Reset.calls (k : Nat) (A0_0 : Option Addr) (c0_0 : Nat) (l0_0 : List (List Int)) (r1 : List Int) (r2 : Int) (w : World) (hr0_0 : Kd.C (Kd.slice 3 (Kd.int .i64)) w A0_0 l0_0.length l0_0) (hc0_0 : l0_0.length ≤ c0_0) (h : reset_Reset.f k l0_0 = some (r1, r2)) :
    Calls Try.prog 29 #[.agg #[.slice A0_0 l0_0.length c0_0]] w fun e w' => ∃ v0_ : Value, e = .returned (.tuple #[v0_, .int .i64 r2]) ∧ Kd.R (Kd.int .i64) 3 w' w.heap.size (fun _ => True) v0_ r1 ∧ Below w.heap.size w w' := by
  have HR := Aside0.mk hr0_0
  have HC := Aside0.mk hc0_0
  have HB0 := Below.refl w.heap.size w
  clear hr0_0 hc0_0
  have H := h
  clear h
  unfold reset_Reset.f at H
  replace H := Option.bind_eq_some_iff.mp H
  obtain ⟨v, hv, H⟩ := H
  have HV := Aside0.mk hv
  clear hv
  cases v with
  | false =>
    rw [if_neg (by decide)] at H
    simp only [Option.some.injEq, Prod.mk.injEq] at H
    obtain ⟨rfl, rfl⟩ := H
    go_enter Try.func29, Try.ntmps29
    go_wp2_with ((with_reducible refine gate_dst (N := 1) rfl ?_); refine box_event ?hg (N := 1) ?hd (cs := #[.slice A0_0 l0_0.length c0_0]) (t := 24) ?hr ?_; (case hd => rfl); (case hg => rfl); (case hr => first | (go_simp; done) | (go_simp; rfl)); intro D hBe w1 hbox hb1;  have hcb : w1.cell? ⟨D, 0, none⟩ = some (.slice A0_0 l0_0.length c0_0) := (blk_cell hbox 0).trans rfl; have HBox := Aside0.mk hbox; have HB1 := Aside0.mk (below_step HB0 hb1); have HBE := Aside0.mk (show w.heap.size ≤ D by omega); clear hbox hb1 hBe)
    refine (auto_Valid.calls _ _ l0_0 false _ (Kd.C_below HR.out HB1.out) HC.out HV.out).mono ?_
    rintro e w2 ⟨rfl, hb2⟩
    have HB2 := Aside0.mk (below_step HB1.out hb2)
    have HBox2 := Aside0.mk (blk_below HBox.out hb2)
    have hcb2 : w2.cell? ⟨D, 0, none⟩ = some (.slice A0_0 l0_0.length c0_0) := (blk_cell HBox2.out 0).trans rfl
    clear hb2 hcb
    go_wp2
    (try simp only [Exit.noGoto_ret])
    go_ret2
    exact ⟨_, rfl, Kd.R_nil _ _ _ _ _, HB2.out⟩
  | true =>
    rw [if_pos rfl] at H
    replace H := Option.bind_eq_some_iff.mp H
    obtain ⟨left, hleft, H⟩ := H
    replace H := Option.bind_eq_some_iff.mp H
    obtain ⟨set0, hset, H⟩ := H
    have HLeft := Aside0.mk hleft
    have HSet := Aside0.mk hset
    have H' := Aside0.mk H
    clear hleft hset H
    go_enter Try.func29, Try.ntmps29
    go_wp2_with ((with_reducible refine gate_dst (N := 1) rfl ?_); refine box_event ?hg (N := 1) ?hd (cs := #[.slice A0_0 l0_0.length c0_0]) (t := 24) ?hr ?_; (case hd => rfl); (case hg => rfl); (case hr => first | (go_simp; done) | (go_simp; rfl)); intro D hBe w1 hbox hb1;  have hcb : w1.cell? ⟨D, 0, none⟩ = some (.slice A0_0 l0_0.length c0_0) := (blk_cell hbox 0).trans rfl; have HBox := Aside0.mk hbox; have HB1 := Aside0.mk (below_step HB0 hb1); have HBE := Aside0.mk (show w.heap.size ≤ D by omega); clear hbox hb1 hBe)
    refine (auto_Valid.calls _ _ l0_0 true _ (Kd.C_below HR.out HB1.out) HC.out HV.out).mono ?_
    rintro e w2 ⟨rfl, hb2⟩
    have HB2 := Aside0.mk (below_step HB1.out hb2)
    have HBox2 := Aside0.mk (blk_below HBox.out hb2)
    have hcb2 : w2.cell? ⟨D, 0, none⟩ = some (.slice A0_0 l0_0.length c0_0) := (blk_cell HBox2.out 0).trans rfl
    clear hb2 hcb
    go_wp2_with fail
    refine (newMerger.calls k A0_0 c0_0 l0_0 left _ (Kd.C_below HR.out HB2.out) HC.out HLeft.out).mono ?_
    rintro e w5 ⟨M, b, rfl, hMs, hbs, hM, hL, hb5⟩
    have HB5 := Aside0.mk (below_step HB2.out hb5)
    have HD5 := Aside0.mk (blk_below HBox2.out hb5)
    have HM5 := Aside0.mk hM
    have HL5 := Aside0.mk hL
    have hcb5 : w5.cell? ⟨D, 0, none⟩ = some (.slice A0_0 l0_0.length c0_0) := (blk_cell HD5.out 0).trans rfl
    clear hMs hbs hM hL hb5 hcb2
    go_wp2_with fail
    refine (auto_All.calls k A0_0 c0_0 l0_0 set0 _ (Kd.C_below HR.out HB5.out) HC.out HSet.out).mono ?_
    rintro e w6 ⟨v6, rfl, hS6, hb6⟩
    have HI6 : Aside0 (RI w w6 A0_0 l0_0.length c0_0 D M b left (.slice none 0 0) [] v6 set0) := ⟨⟨below_step HB5.out hb6, blk_below HD5.out hb6, blk_below HM5.out hb6, HL5.out.below hb6, Kd.R_nil _ _ _ _ _, Kd.R_lower hS6 HB5.out.size, ne_nil _⟩⟩
    clear hS6 hb6 hcb5
    go_wp2_with fail
    go_loopg [5, 6] k (fun kq v5 v6 w' => ∃ (out set : List Int), Aside0 (reset_Reset.l0 kq l0_0 left out set = some (r1, r2)) ∧ Aside0 (kq ≤ k) ∧ Aside0 (RI w w' A0_0 l0_0.length c0_0 D M b left v5 out v6 set))
    case atStart => exact ⟨[], set0, H', ⟨Nat.le_refl _⟩, HI6⟩
    case round =>
      clear H' HI6
      obtain ⟨out, set, HA, HK, HI⟩ := hrel
      cases gk with
      | zero => exact absurd HA.out (by simp [reset_Reset.l0])
      | succ k1 =>
        have H := HA.out
        clear HA
        simp only [reset_Reset.l0] at H
        obtain ⟨A6, c6, e6, hc6, hC6⟩ := Kd.R_reads HI.out.st
        have e6' : u6 = .slice A6 set.length c6 := e6
        clear e6
        subst e6'
        by_cases d1 : (set.length : Int) > 1
        · rw [if_pos d1] at H
          obtain ⟨g, cap, eg, hgb, hgl, _⟩ := Kd.R_form HI.out.st (by omega)
          injection eg with eg1 eg2 eg3
          subst eg1
          subst eg3
          clear eg2
          replace H := Option.bind_eq_some_iff.mp H
          obtain ⟨⟨t1, t2, ok⟩, hnear, H⟩ := H
          simp only at H
          have HNear := Aside0.mk hnear
          have d1b : decide (1 < (set.length : Int)) = true := decide_eq_true d1
          have HC6 := Aside0.mk hC6
          have Hc6 := Aside0.mk hc6
          have D1 := Aside0.mk d1
          clear hnear d1 hC6 hc6
          cases ok with
          | false =>
            rw [if_neg (by decide)] at H
            simp only [Option.some.injEq, Prod.mk.injEq] at H
            obtain ⟨rfl, rfl⟩ := H
            go_wp2_with (refine (merger_nearest.calls k1 l0_0.length left M b _ (some ⟨g, 0, none⟩) c6 set t1 t2 false _ HI.out.bM HI.out.left HC6.out Hc6.out HNear.out).mono ?_; rintro e w7 ⟨rfl, hb7⟩; have HI7 := Aside0.mk (HI.out.next hb7); clear hb7)
            (try simp only [Exit.noGoto_ret])
            go_ret2
            exact ⟨_, rfl, Kd.R_nil _ _ _ _ _, below_step HI7.out.below (below_alloc (Below.refl _ _) _)⟩
          | true =>
            rw [if_pos rfl] at H
            replace H := Option.bind_eq_some_iff.mp H
            obtain ⟨⟨wd, wok⟩, hword, H⟩ := H
            simp only at H
            have HWord := Aside0.mk hword
            clear hword
            by_cases e1 : out.length + wd.length < 17592186044416
            · rw [if_pos e1] at H
              by_cases e2 : set.length < 4611686018427387904
              · rw [if_pos e2] at H
                replace H := Option.bind_eq_some_iff.mp H
                obtain ⟨set2, hset2, H⟩ := H
                by_cases e3 : set2.length < 4611686018427387904
                · rw [if_pos e3] at H
                  by_cases e4 : (tidy set2).length ≤ set2.length
                  · rw [if_pos e4] at H
                    have H' := Aside0.mk H
                    have HS2 := Aside0.mk hset2
                    have E1 := Aside0.mk e1
                    have E3 := Aside0.mk e3
                    have E4 := Aside0.mk e4
                    clear H hset2 e1 e2 e3 e4
                    go_wp2_with (refine (merger_nearest.calls k1 l0_0.length left M b _ (some ⟨g, 0, none⟩) c6 set t1 t2 true _ HI.out.bM HI.out.left HC6.out Hc6.out HNear.out).mono ?_; rintro e w7 ⟨rfl, hb7⟩; have HI7 := Aside0.mk (HI.out.next hb7); clear hb7)
                    obtain ⟨W8, hW8⟩ : ∃ W8, W8 = w7.alloc (.cells #[.int .i64 t1, .int .i64 t2] 85) := ⟨_, rfl⟩
                    have hb8 : Below w7.heap.size w7 W8 := by rw [hW8]; exact below_alloc (Below.refl _ _) _
                    rw [← hW8]
                    have HI8 := Aside0.mk (HI7.out.next hb8)
                    clear hb8 hW8 HI7
                    refine (merger_word.calls k1 A0_0 c0_0 l0_0 left M b t1 t2 wd wok _ (Kd.C_below HR.out HI8.out.below) HC.out HI8.out.bM HI8.out.left HWord.out).mono ?_
                    rintro e w9 ⟨v9, rfl, hR9, hb9⟩
                    have HI9 := Aside0.mk (HI8.out.next hb9)
                    have HN1 := Aside0.mk (ne_young HI8.out.out hR9)
                    have HN2 := Aside0.mk (ne_young HI8.out.st hR9)
                    have HW9 := Aside0.mk (Kd.R_lower hR9 HI8.out.below.size)
                    obtain ⟨A9, c9, e9, hc9, hC9⟩ := Kd.R_reads hR9
                    subst e9
                    have HC9 := Aside0.mk hC9
                    have Hc9 := Aside0.mk hc9
                    clear hb9 hR9 hC9 hc9 HI8
                    go_wp2_with ((with_reducible refine gate_builtin (b := .append) (xs := #[.tmp 37, .tmp 38]) rfl ?_); at_builtin; refine Kd.R_append_rows (Kd.int .i64) (Rr := fun (x : Int) cs => cs = [.int .i64 x]) (w0 := w) w.heap.size rfl (.tmp 37) (.tmp 38) 25 3 (.int .i64 0) 8 rfl Try.underlying25 info3 rfl (by decide) (by omega) u5 out wd A9 wd.length c9 (fun _ => True) (fun _ => False) rfl rfl ?aO HC9.out ?aP (fun _ hk => hk.elim) ?aF ?aB ?aS ?aL ?_; (case aP => exact (fun x cs e => e)); (case aB => exact HI9.out.below); (case aF => exact (fun _ _ => trivial)); (case aO => exact HI9.out.out); (case aS => exact HI9.out.below.size); (case aL => have := E1.out; omega); intro v10 w10 ho hb hg hat;  have HI10 := Aside0.mk (HI9.out.outTo hg ho hat); have HW10 := Aside0.mk (R_far HW9.out HN1.out hg); clear ho hb hg hat)
                    go_loopg [42] k1 (fun kq v42 w' => ∃ (i : Int) (st : List Int), v42 = .int .i64 i ∧ Aside0 (reset_Reset.l1 kq l0_0 st wd i = some set2) ∧ Aside0 (kq ≤ k1) ∧ Aside0 (st.length = set.length) ∧ Aside0 (RI w w' A0_0 l0_0.length c0_0 D M b left v10 (out ++ wd) (.slice (some ⟨g, 0, none⟩) set.length c6) st) ∧ Aside0 (Kd.R (Kd.int .i64) 3 w' w.heap.size (fun _ => True) (.slice A9 wd.length c9) wd))
                    case atStart => exact ⟨0, set, rfl, HS2, ⟨Nat.le_refl _⟩, ⟨rfl⟩, HI10, HW10⟩
                    case round =>
                      clear HS2 HI10 HW10 HI9 HW9 HC9 HI HC6
                      obtain ⟨i, st, rfl, HA, HK1, HSl, HI, HW⟩ := hrel
                      cases gk with
                      | zero => exact absurd HA.out (by simp [reset_Reset.l1])
                      | succ k2 =>
                        have H := HA.out
                        clear HA
                        simp only [reset_Reset.l1] at H
                        rw [HSl.out] at H
                        by_cases f1 : i < (set.length : Int)
                        · rw [if_pos f1] at H
                          by_cases f2 : 0 ≤ i
                          · rw [if_pos f2] at H
                            replace H := Option.bind_eq_some_iff.mp H
                            obtain ⟨t, ht, H⟩ := H
                            have HT := Aside0.mk ht
                            have HS2 := Aside0.mk H
                            obtain ⟨hx0, hf0⟩ := Kd.R_celln 0 HI.out.st i f2 f1
                            have hx0' : wr.cell? ⟨g, i.toNat, none⟩ = some (.int .i64 (rd st i)) := hx0
                            have hcb : wr.cell? ⟨D, 0, none⟩ = some (.slice A0_0 l0_0.length c0_0) := (blk_cell HI.out.bD 0).trans rfl
                            have f1b := decide_eq_true f1
                            have F1 := Aside0.mk f1
                            have F2 := Aside0.mk f2
                            have q1 := eq_true f1
                            have q2 := eq_true f2
                            obtain ⟨_, _, eW, _, hCW⟩ := Kd.R_reads HW.out
                            injection eW with eW1 eW2 eW3
                            subst eW1
                            have HCW := Aside0.mk hCW
                            clear H ht hx0 f1 f2 eW2 eW3 hCW
                            go_wp2_with (first | (refine (auto_Lead.calls k2 A0_0 c0_0 l0_0 (rd st i) _ c9 wd t _ (Kd.C_below HR.out HI.out.below) HC.out HCW.out Hc9.out HT.out).mono ?_; rintro e w11 ⟨rfl, hb11⟩; have HI11 := Aside0.mk (HI.out.next hb11); have HW11 := Aside0.mk (Kd.R_below HW.out hb11);  obtain ⟨hx11, hf11⟩ := Kd.R_celln 0 HI11.out.st i F2.out F1.out; obtain ⟨hO1, hG1⟩ := Kd.R_putg HI11.out.st i t; have HO1 := Aside0.mk hO1; have HG1 := Aside0.mk hG1; clear hb11 hcb hx0' hf0 hO1 hG1)  | ((with_reducible refine gate_store (t := 3) (p := 53) rfl ?_); refine store_event (t := 3) (p := 53) (v := ?vo) (w1 := (w11.setCell ⟨g, i.toNat, none⟩ (.int .i64 t))) ?hg ?ho ?hn ?hr ?_; (case ho => rfl); (case hg => rfl); (case hn => rfl); (case hr => first | (go_simp; done) | (go_simp; rfl)); intro w12 hw;  have HI12 := Aside0.mk (HI11.out.setTo (W1 := w12) (by rw [hw]; exact HG1.out) (by rw [hw]; exact HO1.out) rfl); have HW12 := Aside0.mk (R_far (W1 := w12) HW11.out HN2.out (by rw [hw]; exact HG1.out)); clear hw hx11 hf11))
                            go_roundg k2
                            case measure => omega
                            case rel => exact ⟨_, _, rfl, HS2, ⟨by have := HK1.out; omega⟩, ⟨by rw [List.length_set]; exact HSl.out⟩, HI12, HW12⟩
                          · rw [if_neg f2] at H; exact absurd H (by simp)
                        · rw [if_neg f1] at H
                          obtain rfl := Option.some.inj H
                          have f1b := decide_eq_false f1
                          clear H f1
                          go_wp2_with (first | (go_at_call 66; refine (sort_R HI.out.st E3.out).mono ?_; rintro e w13 ⟨rfl, hS, hg⟩; have HI13 := Aside0.mk (HI.out.setTo hg hS rfl); clear hS hg)  | (go_at_call 67; refine (compact_R HI13.out.st (by have := E4.out; rw [tidy_eq] at this; rw [List.length_mergeSort]; exact this)).mono ?_; rintro e w14 ⟨v14, rfl, hown, hS, hg⟩; rw [← tidy_eq] at hS; have HI14 := Aside0.mk (HI13.out.setTo hg hS hown); clear hS hg hown))
                          go_roundg k1
                          case measure => omega
                          case rel => exact ⟨_, _, H', ⟨by have := HK.out; omega⟩, HI14⟩
                  · rw [if_neg e4] at H; exact absurd H (by simp)
                · rw [if_neg e3] at H; exact absurd H (by simp)
              · rw [if_neg e2] at H; exact absurd H (by simp)
            · rw [if_neg e1] at H; exact absurd H (by simp)
        · rw [if_neg d1] at H
          simp only [Option.some.injEq, Prod.mk.injEq] at H
          obtain ⟨rfl, rfl⟩ := H
          have d1b : decide (1 < (set.length : Int)) = false := decide_eq_false d1
          clear d1
          go_wp2
          (try simp only [Exit.noGoto_ret])
          go_ret2
          exact ⟨_, rfl, HI.out.out, HI.out.below⟩
end Go.Proofs.Ytogoppejcmaocaa.Q
end
/-! Part QLaw03Awake -/
section
-- Written by xprint.py, a program of this session's, over the kit's print. Lean checks it.
namespace Go.Proofs.Ytogoppejcmaocaa.Q
open Go.RowKit Go.Proofs.YtogoppejcmaocaaW.PrintWords Go.Proofs.YtogoppejcmaocaaW.PrintLast Go.Proofs.YtogoppejcmaocaaW.PrintMore
attribute [local go_sem] max2_int min2_int max_two min_two max_three min_three max_four min_four
set_option linter.unusedVariables false
set_option linter.unusedSimpArgs false

/-! ### mizmazelaw03_awake: function 37 -/
def mizmazelaw03_awake.f (k : Nat)  : Option (Bool) := (reset_Merge.f k (([(([1, 0] : List Int)), (([0, 0] : List Int))] : List (List Int))) 0 1).bind fun bt687 => ((some (([(([1, 1] : List Int)), (([0, 0] : List Int))] : List (List Int)) : List (List Int))).bind fun y697 => ((reset_Apart.f k y697).bind fun bt701 => ((reset_Reset.f k y697).bind fun bt705 => ((reset_Reset.f k (([(([1, 0] : List Int)), (([2, 1] : List Int)), (([0, 0] : List Int))] : List (List Int)))).bind fun bt721 => (if bt687.2 = 0 then ((mizmazeref01_Same.f k bt687.1 (([1] : List Int))).bind fun t728 => (if t728 = true then (if bt701.2 = 0 then ((mizmazeref03_Pairs.f k bt701.1 (([(⟨0, 1⟩ : S49)] : List (S49)))).bind fun t732 => (if t732 = true then (if bt705.2 = 4 then (if bt721.2 = 0 then (some ((bt721.1.length : Int) == 4)) else (none)) else (none)) else (none))) else (none)) else (none))) else (none))))))
theorem mizmazelaw03_awake.mono : ∀ k, LeO (mizmazelaw03_awake.f k ) (mizmazelaw03_awake.f (k + 1) ) := by
  intro  k
  unfold mizmazelaw03_awake.f
  repeat' first
      | (with_reducible exact mizmazeref01_Same.mono _ _ _)
      | (with_reducible exact mizmazeref03_Pairs.mono _ _ _)
      | (with_reducible exact reset_Apart.mono _ _)
      | (with_reducible exact reset_Merge.mono _ _ _ _)
      | (with_reducible exact reset_Reset.mono _ _)
      | (with_reducible exact LeO.refl _)
      | (with_reducible exact LeO.none _)
      | (with_reducible refine LeO.ite ?_ ?_)
      | (with_reducible refine LeO.bind ?_ (fun _ => ?_))
      | exact mizmazeref01_Same.mono _ _ _
      | exact mizmazeref03_Pairs.mono _ _ _
      | exact reset_Apart.mono _ _
      | exact reset_Merge.mono _ _ _ _
      | exact reset_Reset.mono _ _
      | exact LeO.none _
      | refine LeO.ite ?_ ?_
      | refine LeO.bind ?_ (fun _ => ?_)
set_option maxHeartbeats 8000000 in
set_option maxRecDepth 100000 in
theorem mizmazelaw03_awake.calls (k : Nat)  (r : Bool) (w : World) (h : mizmazelaw03_awake.f k  = some r) :
    Calls Try.prog 37 #[] w fun e w' => e = .returned (.bool r) ∧ Below w.heap.size w w' := by
  have hu24 := Try.underlying24
  have hu49 := Try.underlying49
  have HB := Aside0.mk (Below.refl w.heap.size w)
  have H : ((reset_Merge.f k (([(([1, 0] : List Int)), (([0, 0] : List Int))] : List (List Int))) 0 1).bind fun bt687 => ((some (([(([1, 1] : List Int)), (([0, 0] : List Int))] : List (List Int)) : List (List Int))).bind fun y697 => ((reset_Apart.f k y697).bind fun bt701 => ((reset_Reset.f k y697).bind fun bt705 => ((reset_Reset.f k (([(([1, 0] : List Int)), (([2, 1] : List Int)), (([0, 0] : List Int))] : List (List Int)))).bind fun bt721 => (if bt687.2 = 0 then ((mizmazeref01_Same.f k bt687.1 (([1] : List Int))).bind fun t728 => (if t728 = true then (if bt701.2 = 0 then ((mizmazeref03_Pairs.f k bt701.1 (([(⟨0, 1⟩ : S49)] : List (S49)))).bind fun t732 => (if t732 = true then (if bt705.2 = 4 then (if bt721.2 = 0 then (some ((bt721.1.length : Int) == 4)) else (none)) else (none)) else (none))) else (none)) else (none))) else (none))))))) = some r := h
  clear h
  obtain ⟨y678, hy678⟩ : ∃ y_ : List Int, y_ = (([1, 0] : List Int)) := ⟨_, rfl⟩
  replace H : ((reset_Merge.f k (([y678, (([0, 0] : List Int))] : List (List Int))) 0 1).bind fun bt687 => ((some (([(([1, 1] : List Int)), (([0, 0] : List Int))] : List (List Int)) : List (List Int))).bind fun y697 => ((reset_Apart.f k y697).bind fun bt701 => ((reset_Reset.f k y697).bind fun bt705 => ((reset_Reset.f k (([(([1, 0] : List Int)), (([2, 1] : List Int)), (([0, 0] : List Int))] : List (List Int)))).bind fun bt721 => (if bt687.2 = 0 then ((mizmazeref01_Same.f k bt687.1 (([1] : List Int))).bind fun t728 => (if t728 = true then (if bt701.2 = 0 then ((mizmazeref03_Pairs.f k bt701.1 (([(⟨0, 1⟩ : S49)] : List (S49)))).bind fun t732 => (if t732 = true then (if bt705.2 = 4 then (if bt721.2 = 0 then (some ((bt721.1.length : Int) == 4)) else (none)) else (none)) else (none))) else (none)) else (none))) else (none))))))) = some r := by first | (rw [hy678]; with_reducible exact H) | (have H2_ := (Option.bind_some _ _).symm.trans H; rw [hy678]; with_reducible exact H2_) | (have H2_ := (Option.bind_some _ _).symm.trans H; with_reducible exact H2_) | with_reducible exact H | (rw [hy678]; exact H) | exact H
  have Ny678 := Aside0.mk hy678
  clear hy678
  obtain ⟨y681, hy681⟩ : ∃ y_ : List Int, y_ = (([0, 0] : List Int)) := ⟨_, rfl⟩
  replace H : ((reset_Merge.f k (([y678, y681] : List (List Int))) 0 1).bind fun bt687 => ((some (([(([1, 1] : List Int)), (([0, 0] : List Int))] : List (List Int)) : List (List Int))).bind fun y697 => ((reset_Apart.f k y697).bind fun bt701 => ((reset_Reset.f k y697).bind fun bt705 => ((reset_Reset.f k (([(([1, 0] : List Int)), (([2, 1] : List Int)), (([0, 0] : List Int))] : List (List Int)))).bind fun bt721 => (if bt687.2 = 0 then ((mizmazeref01_Same.f k bt687.1 (([1] : List Int))).bind fun t728 => (if t728 = true then (if bt701.2 = 0 then ((mizmazeref03_Pairs.f k bt701.1 (([(⟨0, 1⟩ : S49)] : List (S49)))).bind fun t732 => (if t732 = true then (if bt705.2 = 4 then (if bt721.2 = 0 then (some ((bt721.1.length : Int) == 4)) else (none)) else (none)) else (none))) else (none)) else (none))) else (none))))))) = some r := by first | (rw [hy681]; with_reducible exact H) | (have H2_ := (Option.bind_some _ _).symm.trans H; rw [hy681]; with_reducible exact H2_) | (have H2_ := (Option.bind_some _ _).symm.trans H; with_reducible exact H2_) | with_reducible exact H | (rw [hy681]; exact H) | exact H
  have Ny681 := Aside0.mk hy681
  clear hy681
  obtain ⟨y684, hy684⟩ : ∃ y_ : List (List Int), y_ = (([y678, y681] : List (List Int))) := ⟨_, rfl⟩
  replace H : ((reset_Merge.f k y684 0 1).bind fun bt687 => ((some (([(([1, 1] : List Int)), (([0, 0] : List Int))] : List (List Int)) : List (List Int))).bind fun y697 => ((reset_Apart.f k y697).bind fun bt701 => ((reset_Reset.f k y697).bind fun bt705 => ((reset_Reset.f k (([(([1, 0] : List Int)), (([2, 1] : List Int)), (([0, 0] : List Int))] : List (List Int)))).bind fun bt721 => (if bt687.2 = 0 then ((mizmazeref01_Same.f k bt687.1 (([1] : List Int))).bind fun t728 => (if t728 = true then (if bt701.2 = 0 then ((mizmazeref03_Pairs.f k bt701.1 (([(⟨0, 1⟩ : S49)] : List (S49)))).bind fun t732 => (if t732 = true then (if bt705.2 = 4 then (if bt721.2 = 0 then (some ((bt721.1.length : Int) == 4)) else (none)) else (none)) else (none))) else (none)) else (none))) else (none))))))) = some r := by first | (rw [hy684]; with_reducible exact H) | (have H2_ := (Option.bind_some _ _).symm.trans H; rw [hy684]; with_reducible exact H2_) | (have H2_ := (Option.bind_some _ _).symm.trans H; with_reducible exact H2_) | with_reducible exact H | (rw [hy684]; exact H) | exact H
  have Ny684 := Aside0.mk hy684
  clear hy684
  replace H := Option.bind_eq_some_iff.mp H
  obtain ⟨⟨t687, t690⟩, A10, H⟩ := H
  replace H : ((some (([(([1, 1] : List Int)), (([0, 0] : List Int))] : List (List Int)) : List (List Int))).bind fun y697 => ((reset_Apart.f k y697).bind fun bt701 => ((reset_Reset.f k y697).bind fun bt705 => ((reset_Reset.f k (([(([1, 0] : List Int)), (([2, 1] : List Int)), (([0, 0] : List Int))] : List (List Int)))).bind fun bt721 => (if t690 = 0 then ((mizmazeref01_Same.f k t687 (([1] : List Int))).bind fun t728 => (if t728 = true then (if bt701.2 = 0 then ((mizmazeref03_Pairs.f k bt701.1 (([(⟨0, 1⟩ : S49)] : List (S49)))).bind fun t732 => (if t732 = true then (if bt705.2 = 4 then (if bt721.2 = 0 then (some ((bt721.1.length : Int) == 4)) else (none)) else (none)) else (none))) else (none)) else (none))) else (none)))))) = some r := H
  have A1 := Aside0.mk A10
  clear A10
  obtain ⟨y691, hy691⟩ : ∃ y_ : List Int, y_ = (([1, 1] : List Int)) := ⟨_, rfl⟩
  replace H : ((some (([y691, (([0, 0] : List Int))] : List (List Int)) : List (List Int))).bind fun y697 => ((reset_Apart.f k y697).bind fun bt701 => ((reset_Reset.f k y697).bind fun bt705 => ((reset_Reset.f k (([(([1, 0] : List Int)), (([2, 1] : List Int)), (([0, 0] : List Int))] : List (List Int)))).bind fun bt721 => (if t690 = 0 then ((mizmazeref01_Same.f k t687 (([1] : List Int))).bind fun t728 => (if t728 = true then (if bt701.2 = 0 then ((mizmazeref03_Pairs.f k bt701.1 (([(⟨0, 1⟩ : S49)] : List (S49)))).bind fun t732 => (if t732 = true then (if bt705.2 = 4 then (if bt721.2 = 0 then (some ((bt721.1.length : Int) == 4)) else (none)) else (none)) else (none))) else (none)) else (none))) else (none)))))) = some r := by first | (rw [hy691]; with_reducible exact H) | (have H2_ := (Option.bind_some _ _).symm.trans H; rw [hy691]; with_reducible exact H2_) | (have H2_ := (Option.bind_some _ _).symm.trans H; with_reducible exact H2_) | with_reducible exact H | (rw [hy691]; exact H) | exact H
  have Ny691 := Aside0.mk hy691
  clear hy691
  obtain ⟨y694, hy694⟩ : ∃ y_ : List Int, y_ = (([0, 0] : List Int)) := ⟨_, rfl⟩
  replace H : ((some (([y691, y694] : List (List Int)) : List (List Int))).bind fun y697 => ((reset_Apart.f k y697).bind fun bt701 => ((reset_Reset.f k y697).bind fun bt705 => ((reset_Reset.f k (([(([1, 0] : List Int)), (([2, 1] : List Int)), (([0, 0] : List Int))] : List (List Int)))).bind fun bt721 => (if t690 = 0 then ((mizmazeref01_Same.f k t687 (([1] : List Int))).bind fun t728 => (if t728 = true then (if bt701.2 = 0 then ((mizmazeref03_Pairs.f k bt701.1 (([(⟨0, 1⟩ : S49)] : List (S49)))).bind fun t732 => (if t732 = true then (if bt705.2 = 4 then (if bt721.2 = 0 then (some ((bt721.1.length : Int) == 4)) else (none)) else (none)) else (none))) else (none)) else (none))) else (none)))))) = some r := by first | (rw [hy694]; with_reducible exact H) | (have H2_ := (Option.bind_some _ _).symm.trans H; rw [hy694]; with_reducible exact H2_) | (have H2_ := (Option.bind_some _ _).symm.trans H; with_reducible exact H2_) | with_reducible exact H | (rw [hy694]; exact H) | exact H
  have Ny694 := Aside0.mk hy694
  clear hy694
  obtain ⟨y697, hy697⟩ : ∃ y_ : List (List Int), y_ = (([y691, y694] : List (List Int))) := ⟨_, rfl⟩
  replace H : ((reset_Apart.f k y697).bind fun bt701 => ((reset_Reset.f k y697).bind fun bt705 => ((reset_Reset.f k (([(([1, 0] : List Int)), (([2, 1] : List Int)), (([0, 0] : List Int))] : List (List Int)))).bind fun bt721 => (if t690 = 0 then ((mizmazeref01_Same.f k t687 (([1] : List Int))).bind fun t728 => (if t728 = true then (if bt701.2 = 0 then ((mizmazeref03_Pairs.f k bt701.1 (([(⟨0, 1⟩ : S49)] : List (S49)))).bind fun t732 => (if t732 = true then (if bt705.2 = 4 then (if bt721.2 = 0 then (some ((bt721.1.length : Int) == 4)) else (none)) else (none)) else (none))) else (none)) else (none))) else (none))))) = some r := by first | (rw [hy697]; with_reducible exact H) | (have H2_ := (Option.bind_some _ _).symm.trans H; rw [hy697]; with_reducible exact H2_) | (have H2_ := (Option.bind_some _ _).symm.trans H; with_reducible exact H2_) | with_reducible exact H | (rw [hy697]; exact H) | exact H
  have Ny697 := Aside0.mk hy697
  clear hy697
  replace H := Option.bind_eq_some_iff.mp H
  obtain ⟨⟨t701, t704⟩, A20, H⟩ := H
  replace H : ((reset_Reset.f k y697).bind fun bt705 => ((reset_Reset.f k (([(([1, 0] : List Int)), (([2, 1] : List Int)), (([0, 0] : List Int))] : List (List Int)))).bind fun bt721 => (if t690 = 0 then ((mizmazeref01_Same.f k t687 (([1] : List Int))).bind fun t728 => (if t728 = true then (if t704 = 0 then ((mizmazeref03_Pairs.f k t701 (([(⟨0, 1⟩ : S49)] : List (S49)))).bind fun t732 => (if t732 = true then (if bt705.2 = 4 then (if bt721.2 = 0 then (some ((bt721.1.length : Int) == 4)) else (none)) else (none)) else (none))) else (none)) else (none))) else (none)))) = some r := H
  have A2 := Aside0.mk A20
  clear A20
  replace H := Option.bind_eq_some_iff.mp H
  obtain ⟨⟨t705, t708⟩, A30, H⟩ := H
  replace H : ((reset_Reset.f k (([(([1, 0] : List Int)), (([2, 1] : List Int)), (([0, 0] : List Int))] : List (List Int)))).bind fun bt721 => (if t690 = 0 then ((mizmazeref01_Same.f k t687 (([1] : List Int))).bind fun t728 => (if t728 = true then (if t704 = 0 then ((mizmazeref03_Pairs.f k t701 (([(⟨0, 1⟩ : S49)] : List (S49)))).bind fun t732 => (if t732 = true then (if t708 = 4 then (if bt721.2 = 0 then (some ((bt721.1.length : Int) == 4)) else (none)) else (none)) else (none))) else (none)) else (none))) else (none))) = some r := H
  have A3 := Aside0.mk A30
  clear A30
  obtain ⟨y709, hy709⟩ : ∃ y_ : List Int, y_ = (([1, 0] : List Int)) := ⟨_, rfl⟩
  replace H : ((reset_Reset.f k (([y709, (([2, 1] : List Int)), (([0, 0] : List Int))] : List (List Int)))).bind fun bt721 => (if t690 = 0 then ((mizmazeref01_Same.f k t687 (([1] : List Int))).bind fun t728 => (if t728 = true then (if t704 = 0 then ((mizmazeref03_Pairs.f k t701 (([(⟨0, 1⟩ : S49)] : List (S49)))).bind fun t732 => (if t732 = true then (if t708 = 4 then (if bt721.2 = 0 then (some ((bt721.1.length : Int) == 4)) else (none)) else (none)) else (none))) else (none)) else (none))) else (none))) = some r := by first | (rw [hy709]; with_reducible exact H) | (have H2_ := (Option.bind_some _ _).symm.trans H; rw [hy709]; with_reducible exact H2_) | (have H2_ := (Option.bind_some _ _).symm.trans H; with_reducible exact H2_) | with_reducible exact H | (rw [hy709]; exact H) | exact H
  have Ny709 := Aside0.mk hy709
  clear hy709
  obtain ⟨y712, hy712⟩ : ∃ y_ : List Int, y_ = (([2, 1] : List Int)) := ⟨_, rfl⟩
  replace H : ((reset_Reset.f k (([y709, y712, (([0, 0] : List Int))] : List (List Int)))).bind fun bt721 => (if t690 = 0 then ((mizmazeref01_Same.f k t687 (([1] : List Int))).bind fun t728 => (if t728 = true then (if t704 = 0 then ((mizmazeref03_Pairs.f k t701 (([(⟨0, 1⟩ : S49)] : List (S49)))).bind fun t732 => (if t732 = true then (if t708 = 4 then (if bt721.2 = 0 then (some ((bt721.1.length : Int) == 4)) else (none)) else (none)) else (none))) else (none)) else (none))) else (none))) = some r := by first | (rw [hy712]; with_reducible exact H) | (have H2_ := (Option.bind_some _ _).symm.trans H; rw [hy712]; with_reducible exact H2_) | (have H2_ := (Option.bind_some _ _).symm.trans H; with_reducible exact H2_) | with_reducible exact H | (rw [hy712]; exact H) | exact H
  have Ny712 := Aside0.mk hy712
  clear hy712
  obtain ⟨y715, hy715⟩ : ∃ y_ : List Int, y_ = (([0, 0] : List Int)) := ⟨_, rfl⟩
  replace H : ((reset_Reset.f k (([y709, y712, y715] : List (List Int)))).bind fun bt721 => (if t690 = 0 then ((mizmazeref01_Same.f k t687 (([1] : List Int))).bind fun t728 => (if t728 = true then (if t704 = 0 then ((mizmazeref03_Pairs.f k t701 (([(⟨0, 1⟩ : S49)] : List (S49)))).bind fun t732 => (if t732 = true then (if t708 = 4 then (if bt721.2 = 0 then (some ((bt721.1.length : Int) == 4)) else (none)) else (none)) else (none))) else (none)) else (none))) else (none))) = some r := by first | (rw [hy715]; with_reducible exact H) | (have H2_ := (Option.bind_some _ _).symm.trans H; rw [hy715]; with_reducible exact H2_) | (have H2_ := (Option.bind_some _ _).symm.trans H; with_reducible exact H2_) | with_reducible exact H | (rw [hy715]; exact H) | exact H
  have Ny715 := Aside0.mk hy715
  clear hy715
  obtain ⟨y718, hy718⟩ : ∃ y_ : List (List Int), y_ = (([y709, y712, y715] : List (List Int))) := ⟨_, rfl⟩
  replace H : ((reset_Reset.f k y718).bind fun bt721 => (if t690 = 0 then ((mizmazeref01_Same.f k t687 (([1] : List Int))).bind fun t728 => (if t728 = true then (if t704 = 0 then ((mizmazeref03_Pairs.f k t701 (([(⟨0, 1⟩ : S49)] : List (S49)))).bind fun t732 => (if t732 = true then (if t708 = 4 then (if bt721.2 = 0 then (some ((bt721.1.length : Int) == 4)) else (none)) else (none)) else (none))) else (none)) else (none))) else (none))) = some r := by first | (rw [hy718]; with_reducible exact H) | (have H2_ := (Option.bind_some _ _).symm.trans H; rw [hy718]; with_reducible exact H2_) | (have H2_ := (Option.bind_some _ _).symm.trans H; with_reducible exact H2_) | with_reducible exact H | (rw [hy718]; exact H) | exact H
  have Ny718 := Aside0.mk hy718
  clear hy718
  replace H := Option.bind_eq_some_iff.mp H
  obtain ⟨⟨t721, t724⟩, A40, H⟩ := H
  replace H : (if t690 = 0 then ((mizmazeref01_Same.f k t687 (([1] : List Int))).bind fun t728 => (if t728 = true then (if t704 = 0 then ((mizmazeref03_Pairs.f k t701 (([(⟨0, 1⟩ : S49)] : List (S49)))).bind fun t732 => (if t732 = true then (if t708 = 4 then (if t724 = 0 then (some ((t721.length : Int) == 4)) else (none)) else (none)) else (none))) else (none)) else (none))) else (none)) = some r := H
  have A4 := Aside0.mk A40
  clear A40
  by_cases c5 : t690 = 0
  · rw [if_pos c5] at H
    have c5b0 : (t690 == 0) = true := beq_iff_eq.mpr c5
    have c5b1 : (t690 != 0) = false := bne_eq_false_iff_eq.mpr c5
    clear c5
    obtain ⟨y725, hy725⟩ : ∃ y_ : List Int, y_ = (([1] : List Int)) := ⟨_, rfl⟩
    replace H : ((mizmazeref01_Same.f k t687 y725).bind fun t728 => (if t728 = true then (if t704 = 0 then ((mizmazeref03_Pairs.f k t701 (([(⟨0, 1⟩ : S49)] : List (S49)))).bind fun t732 => (if t732 = true then (if t708 = 4 then (if t724 = 0 then (some ((t721.length : Int) == 4)) else (none)) else (none)) else (none))) else (none)) else (none))) = some r := by first | (rw [hy725]; with_reducible exact H) | (have H2_ := (Option.bind_some _ _).symm.trans H; rw [hy725]; with_reducible exact H2_) | (have H2_ := (Option.bind_some _ _).symm.trans H; with_reducible exact H2_) | with_reducible exact H | (rw [hy725]; exact H) | exact H
    have Ny725 := Aside0.mk hy725
    clear hy725
    replace H := Option.bind_eq_some_iff.mp H
    obtain ⟨t728, A60, H⟩ := H
    replace H : (if t728 = true then (if t704 = 0 then ((mizmazeref03_Pairs.f k t701 (([(⟨0, 1⟩ : S49)] : List (S49)))).bind fun t732 => (if t732 = true then (if t708 = 4 then (if t724 = 0 then (some ((t721.length : Int) == 4)) else (none)) else (none)) else (none))) else (none)) else (none)) = some r := H
    have A6 := Aside0.mk A60
    clear A60
    by_cases c7 : t728 = true
    · subst c7
      have H1 : (if t704 = 0 then ((mizmazeref03_Pairs.f k t701 (([(⟨0, 1⟩ : S49)] : List (S49)))).bind fun t732 => (if t732 = true then (if t708 = 4 then (if t724 = 0 then (some ((t721.length : Int) == 4)) else (none)) else (none)) else (none))) else (none)) = some r := by rw [if_pos rfl] at H; exact H
      clear H
      have H := H1
      clear H1
      by_cases c8 : t704 = 0
      · rw [if_pos c8] at H
        have c8b0 : (t704 == 0) = true := beq_iff_eq.mpr c8
        have c8b1 : (t704 != 0) = false := bne_eq_false_iff_eq.mpr c8
        clear c8
        obtain ⟨y729, hy729⟩ : ∃ y_ : List (S49), y_ = (([(⟨0, 1⟩ : S49)] : List (S49))) := ⟨_, rfl⟩
        replace H : ((mizmazeref03_Pairs.f k t701 y729).bind fun t732 => (if t732 = true then (if t708 = 4 then (if t724 = 0 then (some ((t721.length : Int) == 4)) else (none)) else (none)) else (none))) = some r := by first | (rw [hy729]; with_reducible exact H) | (have H2_ := (Option.bind_some _ _).symm.trans H; rw [hy729]; with_reducible exact H2_) | (have H2_ := (Option.bind_some _ _).symm.trans H; with_reducible exact H2_) | with_reducible exact H | (rw [hy729]; exact H) | exact H
        have Ny729 := Aside0.mk hy729
        clear hy729
        replace H := Option.bind_eq_some_iff.mp H
        obtain ⟨t732, A90, H⟩ := H
        replace H : (if t732 = true then (if t708 = 4 then (if t724 = 0 then (some ((t721.length : Int) == 4)) else (none)) else (none)) else (none)) = some r := H
        have A9 := Aside0.mk A90
        clear A90
        by_cases c10 : t732 = true
        · subst c10
          have H1 : (if t708 = 4 then (if t724 = 0 then (some ((t721.length : Int) == 4)) else (none)) else (none)) = some r := by rw [if_pos rfl] at H; exact H
          clear H
          have H := H1
          clear H1
          by_cases c11 : t708 = 4
          · rw [if_pos c11] at H
            have c11b0 : (t708 == 4) = true := beq_iff_eq.mpr c11
            have c11b1 : (t708 != 4) = false := bne_eq_false_iff_eq.mpr c11
            clear c11
            by_cases c12 : t724 = 0
            · rw [if_pos c12] at H
              have c12b0 : (t724 == 0) = true := beq_iff_eq.mpr c12
              have c12b1 : (t724 != 0) = false := bne_eq_false_iff_eq.mpr c12
              clear c12
              obtain rfl := Option.some.inj H
              go_enter Try.func37, Try.ntmps37
              go_wp2_with (first | ((with_reducible refine gate_dst (N := 11) rfl ?_); (try (refine gate_guard (by rfl) ?_; dsimp only)); refine Kd.R_lit (Kd.int .i64) _ 3 ?hg (N := 11) ?hd (xs := ([1, 0] : List Int)) (inner := [.int .i64 1, .int .i64 0]) (ok := fun _ => True) (okp := fun _ => True) ?hr ?hp (fun _ hk => hk) trivial (Below.refl _ _) (Nat.le_refl _) (by simp) ?_; (case hd => rfl); (case hg => rfl); (case hr => first | (go_simp; done) | (go_simp; rfl)); (case hp => exact (Reps.one (show Kd.M (Kd.int .i64) _ _ _ 1 [.int .i64 1] from rfl) (Reps.one (show Kd.M (Kd.int .i64) _ _ _ 0 [.int .i64 0] from rfl) (Reps.none _ _)))); intro v679 w13 ho14 hb hg_ hnew_; clear hg_ hnew_; (first | rw [← Ny678.out] at ho14 | (simp only [Int.reduceToNat] at ho14; rw [← Ny678.out] at ho14)); have n0_ := Aside0.mk (Kd.R_lower ho14 (below_size (by repeat (first | (with_reducible first | exact HB.out | apply below_alloc | apply pw_below_drewN | apply below_drew1) | exact HB.out)))); have n1_ := Aside0.mk (below_step (by repeat (first | (with_reducible first | exact HB.out | apply below_alloc | apply pw_below_drewN | apply below_drew1) | exact HB.out)) hb); clear HB; have HO680 := n0_; have HB := n1_; clear n0_ n1_; clear hb ho14) | ((with_reducible refine gate_dst (N := 12) rfl ?_); (try (refine gate_guard (by rfl) ?_; dsimp only)); refine Kd.R_lit (Kd.int .i64) _ 3 ?hg (N := 12) ?hd (xs := ([0, 0] : List Int)) (inner := [.int .i64 0, .int .i64 0]) (ok := fun _ => True) (okp := fun _ => True) ?hr ?hp (fun _ hk => hk) trivial (Below.refl _ _) (Nat.le_refl _) (by simp) ?_; (case hd => rfl); (case hg => rfl); (case hr => first | (go_simp; done) | (go_simp; rfl)); (case hp => exact (Reps.one (show Kd.M (Kd.int .i64) _ _ _ 0 [.int .i64 0] from rfl) (Reps.one (show Kd.M (Kd.int .i64) _ _ _ 0 [.int .i64 0] from rfl) (Reps.none _ _)))); intro v682 w15 ho16 hb hg_ hnew_; clear hg_ hnew_; (first | rw [← Ny681.out] at ho16 | (simp only [Int.reduceToNat] at ho16; rw [← Ny681.out] at ho16)); have n0_ := Aside0.mk (Kd.R_elder' (by (with_reducible repeat (first | apply Kd.R_alloc | apply Kd.R_drewN | apply Kd.R_drew)); exact HO680.out) (Kd.R_base ho16) hb); have n1_ := Aside0.mk (Kd.R_lower (Kd.R_new' ho16 (Kd.R_lt (by (with_reducible repeat (first | apply Kd.R_alloc | apply Kd.R_drewN | apply Kd.R_drew)); exact HO680.out))) (below_size (by repeat (first | (with_reducible first | exact HB.out | apply below_alloc | apply pw_below_drewN | apply below_drew1) | exact HB.out)))); have n2_ := Aside0.mk (below_step (by repeat (first | (with_reducible first | exact HB.out | apply below_alloc | apply pw_below_drewN | apply below_drew1) | exact HB.out)) hb); clear HO680; clear HB; have HO680 := n0_; have HO683 := n1_; have HB := n2_; clear n0_ n1_ n2_; clear hb ho16; obtain ⟨Ao17, co17, eo17⟩ := Kd.R_slice HO680.out; subst eo17; obtain ⟨Ao18, co18, eo18⟩ := Kd.R_slice HO683.out; subst eo18) | ((with_reducible refine gate_dst (N := 13) rfl ?_); (try (refine gate_guard (by rfl) ?_; dsimp only)); refine Kd.N_lit (Kd.slice 3 (Kd.int .i64)) _ 25 ?hg (N' := 13) ?hd (xs := ([y678, y681] : List (List Int))) (inner := [.slice Ao17 y678.length co17, .slice Ao18 y681.length co18]) (ok := (fun _ => True)) (okp := (fun _ => True)) ?hr ?hp (fun _ hk => hk) ((show ∀ k_, w15.heap.size ≤ k_ → (fun _ => True) k_ from fun k_ hk => trivial) _ (Nat.le_refl _)) (Below.refl _ _) (Nat.le_refl _) (by simp) ?_; (case hd => rfl); (case hg => rfl); (case hr => first | (go_simp; done) | (go_simp; rfl)); (case hp => exact (Reps.one (show Kd.FK (Kd.slice 3 (Kd.int .i64)) _ _ y678 [.slice Ao17 y678.length co17] from (Kd.FK_slice_mk (Kd.R_reads' (Kd.R_mono (ok' := (fun _ => True)) (HO680.out) (fun k_ hk => trivial))).2.1 (Kd.R_F (Kd.R_mono (ok' := (fun _ => True)) (HO680.out) (fun k_ hk => trivial))))) (Reps.one (show Kd.FK (Kd.slice 3 (Kd.int .i64)) _ _ y681 [.slice Ao18 y681.length co18] from (Kd.FK_slice_mk (Kd.R_reads' (Kd.R_mono (ok' := (fun _ => True)) (HO683.out) (fun k_ hk => trivial))).2.1 (Kd.R_F (Kd.R_mono (ok' := (fun _ => True)) (HO683.out) (fun k_ hk => trivial))))) (Reps.none _ _)))); intro v685 w19 ho20 hb hg_ hnew_; clear hg_ hnew_; (first | rw [← Ny684.out] at ho20 | (simp only [Int.reduceToNat] at ho20; rw [← Ny684.out] at ho20)); have n0_ := Aside0.mk (Kd.N_lower ho20 (below_size (by repeat (first | (with_reducible first | exact HB.out | apply below_alloc | apply pw_below_drewN | apply below_drew1) | exact HB.out)))); have n1_ := Aside0.mk (below_step (by repeat (first | (with_reducible first | exact HB.out | apply below_alloc | apply pw_below_drewN | apply below_drew1) | exact HB.out)) hb); clear HB; clear HO680; clear HO683; have HO686 := n0_; have HB := n1_; clear n0_ n1_; clear hb ho20; obtain ⟨Ao21, co21, eo21⟩ := Kd.N_slice HO686.out; subst eo21) | ((with_reducible refine gate_callee (f := 36) rfl ?_); refine goesL_ (some 15) rfl rfl Try.func36 (by kernel_rfl) rfl #[.agg #[.slice Ao21 y684.length co21], .int .i64 0, .int .i64 1] rfl (by (try simp only [List.map_toArray, List.map_cons, List.map_nil]); first | done | rfl | (simp only [List.length_drop, List.length_take]; rfl)) ?_; (with_reducible refine (reset_Merge.calls k _ _ y684 0 1 t687 t690 _ ?side1 ?side2 A1.out).mono ?_); (case side1 => repeat (first | exact (Kd.N_reads' HO686.out).2.2 | (with_reducible refine Kd.C_alloc ?_ _) | (with_reducible refine Kd.C_drewN ?_ _) | (with_reducible refine Kd.C_drew ?_))); (case side2 => exact (Kd.N_reads' HO686.out).2.1); rintro e w22 ⟨v688, rfl, ho0, hb⟩; refine ⟨_, rfl, ?_⟩; have n0_ := Aside0.mk (Kd.N_elder' (by (with_reducible repeat (first | apply Kd.N_alloc | apply Kd.N_drewN | apply Kd.N_drew)); exact HO686.out) (Kd.R_base ho0) hb); have n1_ := Aside0.mk (Kd.R_lower ho0 (below_size (by repeat (first | (with_reducible first | exact HB.out | apply below_alloc | apply pw_below_drewN | apply below_drew1) | exact HB.out)))); have n2_ := Aside0.mk (below_step (by repeat (first | (with_reducible first | exact HB.out | apply below_alloc | apply pw_below_drewN | apply below_drew1) | exact HB.out)) hb); clear HO686; clear HB; have HO686 := n0_; have HO689 := n1_; have HB := n2_; clear n0_ n1_ n2_; (try clear hb); (try clear hb2); (try clear hk); (try clear hi); (try clear ho0)) | ((with_reducible refine gate_dst (N := 18) rfl ?_); (try (refine gate_guard (by rfl) ?_; dsimp only)); refine Kd.R_lit (Kd.int .i64) _ 3 ?hg (N := 18) ?hd (xs := ([1, 1] : List Int)) (inner := [.int .i64 1, .int .i64 1]) (ok := fun _ => True) (okp := fun _ => True) ?hr ?hp (fun _ hk => hk) trivial (Below.refl _ _) (Nat.le_refl _) (by simp) ?_; (case hd => rfl); (case hg => rfl); (case hr => first | (go_simp; done) | (go_simp; rfl)); (case hp => exact (Reps.one (show Kd.M (Kd.int .i64) _ _ _ 1 [.int .i64 1] from rfl) (Reps.one (show Kd.M (Kd.int .i64) _ _ _ 1 [.int .i64 1] from rfl) (Reps.none _ _)))); intro v692 w23 ho24 hb hg_ hnew_; clear hg_ hnew_; (first | rw [← Ny691.out] at ho24 | (simp only [Int.reduceToNat] at ho24; rw [← Ny691.out] at ho24)); have n0_ := Aside0.mk (Kd.N_elder' (by (with_reducible repeat (first | apply Kd.N_alloc | apply Kd.N_drewN | apply Kd.N_drew)); exact HO686.out) (Kd.R_base ho24) hb); have n1_ := Aside0.mk (Kd.R_elder' (by (with_reducible repeat (first | apply Kd.R_alloc | apply Kd.R_drewN | apply Kd.R_drew)); exact HO689.out) (Kd.R_base ho24) hb); have n2_ := Aside0.mk (Kd.R_lower (Kd.R_new' ho24 (Kd.R_lt (by (with_reducible repeat (first | apply Kd.R_alloc | apply Kd.R_drewN | apply Kd.R_drew)); exact HO689.out))) (below_size (by repeat (first | (with_reducible first | exact HB.out | apply below_alloc | apply pw_below_drewN | apply below_drew1) | exact HB.out)))); have n3_ := Aside0.mk (below_step (by repeat (first | (with_reducible first | exact HB.out | apply below_alloc | apply pw_below_drewN | apply below_drew1) | exact HB.out)) hb); clear HO686; clear HO689; clear HB; have HO686 := n0_; have HO689 := n1_; have HO693 := n2_; have HB := n3_; clear n0_ n1_ n2_ n3_; clear hb ho24) | ((with_reducible refine gate_dst (N := 19) rfl ?_); (try (refine gate_guard (by rfl) ?_; dsimp only)); refine Kd.R_lit (Kd.int .i64) _ 3 ?hg (N := 19) ?hd (xs := ([0, 0] : List Int)) (inner := [.int .i64 0, .int .i64 0]) (ok := fun _ => True) (okp := fun _ => True) ?hr ?hp (fun _ hk => hk) trivial (Below.refl _ _) (Nat.le_refl _) (by simp) ?_; (case hd => rfl); (case hg => rfl); (case hr => first | (go_simp; done) | (go_simp; rfl)); (case hp => exact (Reps.one (show Kd.M (Kd.int .i64) _ _ _ 0 [.int .i64 0] from rfl) (Reps.one (show Kd.M (Kd.int .i64) _ _ _ 0 [.int .i64 0] from rfl) (Reps.none _ _)))); intro v695 w25 ho26 hb hg_ hnew_; clear hg_ hnew_; (first | rw [← Ny694.out] at ho26 | (simp only [Int.reduceToNat] at ho26; rw [← Ny694.out] at ho26)); have n0_ := Aside0.mk (Kd.N_elder' (by (with_reducible repeat (first | apply Kd.N_alloc | apply Kd.N_drewN | apply Kd.N_drew)); exact HO686.out) (Kd.R_base ho26) hb); have n1_ := Aside0.mk (Kd.R_elder' (by (with_reducible repeat (first | apply Kd.R_alloc | apply Kd.R_drewN | apply Kd.R_drew)); exact HO689.out) (Kd.R_base ho26) hb); have n2_ := Aside0.mk (Kd.R_elder' (by (with_reducible repeat (first | apply Kd.R_alloc | apply Kd.R_drewN | apply Kd.R_drew)); exact HO693.out) (Kd.R_base ho26) hb); have n3_ := Aside0.mk (Kd.R_lower (Kd.R_new' (Kd.R_new' ho26 (Kd.R_lt (by (with_reducible repeat (first | apply Kd.R_alloc | apply Kd.R_drewN | apply Kd.R_drew)); exact HO689.out))) (Kd.R_lt (by (with_reducible repeat (first | apply Kd.R_alloc | apply Kd.R_drewN | apply Kd.R_drew)); exact HO693.out))) (below_size (by repeat (first | (with_reducible first | exact HB.out | apply below_alloc | apply pw_below_drewN | apply below_drew1) | exact HB.out)))); have n4_ := Aside0.mk (below_step (by repeat (first | (with_reducible first | exact HB.out | apply below_alloc | apply pw_below_drewN | apply below_drew1) | exact HB.out)) hb); clear HO686; clear HO689; clear HO693; clear HB; have HO686 := n0_; have HO689 := n1_; have HO693 := n2_; have HO696 := n3_; have HB := n4_; clear n0_ n1_ n2_ n3_ n4_; clear hb ho26; obtain ⟨Ao27, co27, eo27⟩ := Kd.R_slice HO693.out; subst eo27; obtain ⟨Ao28, co28, eo28⟩ := Kd.R_slice HO696.out; subst eo28) | ((with_reducible refine gate_dst (N := 20) rfl ?_); (try (refine gate_guard (by rfl) ?_; dsimp only)); refine Kd.N_lit (Kd.slice 3 (Kd.int .i64)) _ 25 ?hg (N' := 20) ?hd (xs := ([y691, y694] : List (List Int))) (inner := [.slice Ao27 y691.length co27, .slice Ao28 y694.length co28]) (ok := (fun k_ => some k_ ≠ (.slice Ao21 y684.length co21 : Value).ownBlock ∧ some k_ ≠ (v688 : Value).ownBlock)) (okp := (fun k_ => some k_ ≠ (.slice Ao21 y684.length co21 : Value).ownBlock ∧ some k_ ≠ (v688 : Value).ownBlock)) ?hr ?hp (fun _ hk => hk) ((show ∀ k_, w25.heap.size ≤ k_ → (fun k_ => some k_ ≠ (.slice Ao21 y684.length co21 : Value).ownBlock ∧ some k_ ≠ (v688 : Value).ownBlock) k_ from fun k_ hk => ⟨Kd.fresh' (Kd.N_lt (by (with_reducible repeat (first | apply Kd.N_alloc | apply Kd.N_drewN | apply Kd.N_drew)); exact HO686.out)) k_ hk, Kd.fresh' (Kd.R_lt (by (with_reducible repeat (first | apply Kd.R_alloc | apply Kd.R_drewN | apply Kd.R_drew)); exact HO689.out)) k_ hk⟩) _ (Nat.le_refl _)) (Below.refl _ _) (Nat.le_refl _) (by simp) ?_; (case hd => rfl); (case hg => rfl); (case hr => first | (go_simp; done) | (go_simp; rfl)); (case hp => exact (Reps.one (show Kd.FK (Kd.slice 3 (Kd.int .i64)) _ _ y691 [.slice Ao27 y691.length co27] from (Kd.FK_slice_mk (Kd.R_reads' (Kd.R_mono (ok' := (fun k_ => some k_ ≠ (.slice Ao21 y684.length co21 : Value).ownBlock ∧ some k_ ≠ (v688 : Value).ownBlock)) (Kd.R_apart' (HO693.out) (Kd.N_typed HO686.out) (by decide)) (fun k_ hk => ⟨hk.2, hk.1.1.2⟩))).2.1 (Kd.R_F (Kd.R_mono (ok' := (fun k_ => some k_ ≠ (.slice Ao21 y684.length co21 : Value).ownBlock ∧ some k_ ≠ (v688 : Value).ownBlock)) (Kd.R_apart' (HO693.out) (Kd.N_typed HO686.out) (by decide)) (fun k_ hk => ⟨hk.2, hk.1.1.2⟩))))) (Reps.one (show Kd.FK (Kd.slice 3 (Kd.int .i64)) _ _ y694 [.slice Ao28 y694.length co28] from (Kd.FK_slice_mk (Kd.R_reads' (Kd.R_mono (ok' := (fun k_ => some k_ ≠ (.slice Ao21 y684.length co21 : Value).ownBlock ∧ some k_ ≠ (v688 : Value).ownBlock)) (Kd.R_apart' (HO696.out) (Kd.N_typed HO686.out) (by decide)) (fun k_ hk => ⟨hk.2, hk.1.1.2⟩))).2.1 (Kd.R_F (Kd.R_mono (ok' := (fun k_ => some k_ ≠ (.slice Ao21 y684.length co21 : Value).ownBlock ∧ some k_ ≠ (v688 : Value).ownBlock)) (Kd.R_apart' (HO696.out) (Kd.N_typed HO686.out) (by decide)) (fun k_ hk => ⟨hk.2, hk.1.1.2⟩))))) (Reps.none _ _)))); intro v698 w29 ho30 hb hg_ hnew_; clear hg_ hnew_; (first | rw [← Ny697.out] at ho30 | (simp only [Int.reduceToNat] at ho30; rw [← Ny697.out] at ho30)); have n0_ := Aside0.mk (Kd.N_elder' (by (with_reducible repeat (first | apply Kd.N_alloc | apply Kd.N_drewN | apply Kd.N_drew)); exact HO686.out) (by first | exact Kd.N_base ho30 | exact Kd.S_base ho30 | exact Kd.R_base ho30) hb); have n1_ := Aside0.mk (Kd.R_below (by (with_reducible repeat (first | apply Kd.R_alloc | apply Kd.R_drewN | apply Kd.R_drew)); exact HO689.out) hb); have n2_ := Aside0.mk (Kd.N_lower ho30 (below_size (by repeat (first | (with_reducible first | exact HB.out | apply below_alloc | apply pw_below_drewN | apply below_drew1) | exact HB.out)))); have n3_ := Aside0.mk (below_step (by repeat (first | (with_reducible first | exact HB.out | apply below_alloc | apply pw_below_drewN | apply below_drew1) | exact HB.out)) hb); clear HO686; clear HO689; clear HB; clear HO693; clear HO696; have HO686 := n0_; have HO689 := n1_; have HO699 := n2_; have HB := n3_; clear n0_ n1_ n2_ n3_; clear hb ho30; obtain ⟨Ao31, co31, eo31⟩ := Kd.N_slice HO699.out; subst eo31) | ((with_reducible refine gate_dst (N := 3) rfl ?_); (try (refine gate_guard (by rfl) ?_; dsimp only)); refine box_event ?hg (N := 3) ?hd (cs := #[.slice none 0 0]) (t := 24) ?hr ?_; (case hd => rfl); (case hg => rfl); (case hr => first | (go_simp; done) | (go_simp; rfl)); intro gb700 hg w32 hbox hb; have n0_ := Aside0.mk (Kd.N_below (Kd.N_elderB (by (with_reducible repeat (first | apply Kd.N_alloc | apply Kd.N_drewN | apply Kd.N_drew)); exact HO686.out) gb700 (Nat.le_of_eq hg.symm)) hb); have n1_ := Aside0.mk (Kd.R_below (by (with_reducible repeat (first | apply Kd.R_alloc | apply Kd.R_drewN | apply Kd.R_drew)); exact HO689.out) hb); have n2_ := Aside0.mk (Kd.N_below (Kd.N_elderB (by (with_reducible repeat (first | apply Kd.N_alloc | apply Kd.N_drewN | apply Kd.N_drew)); exact HO699.out) gb700 (Nat.le_of_eq hg.symm)) hb); have n3_ := Aside0.mk (below_step (by repeat (first | (with_reducible first | exact HB.out | apply below_alloc | apply pw_below_drewN | apply below_drew1) | exact HB.out)) hb); have n4_ := Aside0.mk (hbox); have n5_ := Aside0.mk ((by rw [hg]; exact (below_size (by repeat (first | (with_reducible first | exact HB.out | apply below_alloc | apply pw_below_drewN | apply below_drew1) | exact HB.out))) : w.heap.size ≤ gb700)); have n6_ := Aside0.mk ((by rw [hg]; exact (below_size (by repeat (first | (with_reducible first | exact HB.out | apply below_alloc | apply pw_below_drewN | apply below_drew1) | exact HB.out))) : w.heap.size ≤ gb700)); clear HO686; clear HO689; clear HO699; clear HB; have HO686 := n0_; have HO689 := n1_; have HO699 := n2_; have HB := n3_; have BK700 := n4_; have GW700 := n5_; have GE700 := n6_; clear n0_ n1_ n2_ n3_ n4_ n5_ n6_; clear hb hbox hg; have hcz33_0 : w32.cell? ⟨gb700, 0, none⟩ = some (.slice none 0 0) := (blk_cell BK700.out 0).trans rfl; have hfz33_0 := blk_frozen BK700.out 0) | ((with_reducible refine gate_callee (f := 30) rfl ?_); refine goesL_ (some 24) rfl rfl Try.func30 (by kernel_rfl) rfl #[.agg #[.slice Ao31 y697.length co31]] rfl (by (try simp only [List.map_toArray, List.map_cons, List.map_nil]); first | done | rfl | (simp only [List.length_drop, List.length_take]; rfl)) ?_; (with_reducible refine (reset_Apart.calls k _ _ y697 t701 t704 _ ?side1 ?side2 A2.out).mono ?_); (case side1 => refine (Kd.N_reads' (e := 25) (base := w.heap.size) (ok := fun k_ => ((some k_ ≠ (.slice Ao21 y684.length co21 : Value).ownBlock ∧ some k_ ≠ (v688 : Value).ownBlock) ∧ k_ ≠ gb700)) (n := y697.length) (c := co31) ?_).2.2; exact (by (with_reducible repeat (first | apply Kd.N_alloc | apply Kd.N_drewN | apply Kd.N_drew)); exact (Kd.N_mono (Kd.N_far (p := ⟨gb700, 0, none⟩) (Kd.N_mono HO699.out (fun k_ hk => (⟨hk, hk.2⟩ : _ ∧ k_ ≠ gb700))) (fun _ hk => hk.2) (.slice Ao31 y697.length co31)) (fun _ h_ => h_.1)))); (case side2 => exact (Kd.N_reads' HO699.out).2.1); rintro e w34 ⟨v702, rfl, ho0, hb⟩; refine ⟨_, rfl, ?_⟩; have n0_ := Aside0.mk (Kd.N_elder' (by (with_reducible repeat (first | apply Kd.N_alloc | apply Kd.N_drewN | apply Kd.N_drew)); exact (Kd.N_mono (Kd.N_far (p := ⟨gb700, 0, none⟩) (Kd.N_mono HO686.out (fun k_ hk => (⟨hk, hk.2⟩ : _ ∧ k_ ≠ gb700))) (fun _ hk => hk.2) (.slice Ao31 y697.length co31)) (fun _ h_ => h_.1))) (Kd.R_base ho0) hb); have n1_ := Aside0.mk (Kd.R_below (by (with_reducible repeat (first | apply Kd.R_alloc | apply Kd.R_drewN | apply Kd.R_drew)); exact (Kd.R_mono (Kd.R_far (p := ⟨gb700, 0, none⟩) (Kd.R_types HO689.out BK700.out (by decide)) (fun _ hk => hk.2) (.slice Ao31 y697.length co31)) (fun _ h_ => h_.1))) hb); have n2_ := Aside0.mk (Kd.N_elder' (by (with_reducible repeat (first | apply Kd.N_alloc | apply Kd.N_drewN | apply Kd.N_drew)); exact (Kd.N_mono (Kd.N_far (p := ⟨gb700, 0, none⟩) (Kd.N_mono HO699.out (fun k_ hk => (⟨hk, hk.2⟩ : _ ∧ k_ ≠ gb700))) (fun _ hk => hk.2) (.slice Ao31 y697.length co31)) (fun _ h_ => h_.1))) (Kd.R_base ho0) hb); have n3_ := Aside0.mk (Kd.R_lower ho0 (below_size (by repeat (first | (with_reducible first | exact HB.out | apply below_alloc | apply pw_below_drewN | apply below_drew1 | refine below_set ?_ GE700.out) | exact HB.out)))); have n4_ := Aside0.mk (blk_below (g := gb700) (o := .cells #[.slice Ao31 y697.length co31] 24 (0, 0)) (by (with_reducible repeat (first | refine blk_drewN ?_ _ | refine blk_drew ?_ | refine blk_alloc ?_ _)); refine blk_put (cs := #[.slice none 0 0]) ?_ 0 _ rfl; (with_reducible repeat (first | refine blk_drewN ?_ _ | refine blk_drew ?_ | refine blk_alloc ?_ _)); exact BK700.out) hb); have n5_ := Aside0.mk (below_step (by repeat (first | (with_reducible first | exact HB.out | apply below_alloc | apply pw_below_drewN | apply below_drew1 | refine below_set ?_ GE700.out) | exact HB.out)) hb); clear HO686; clear HO689; clear HO699; clear BK700; clear HB; have HO686 := n0_; have HO689 := n1_; have HO699 := n2_; have HO703 := n3_; have BK700 := n4_; have HB := n5_; clear n0_ n1_ n2_ n3_ n4_ n5_; (try clear hb); (try clear hb2); (try clear hk); (try clear hi); (try clear ho0); have hcz35_0 : w34.cell? ⟨gb700, 0, none⟩ = some (.slice Ao31 y697.length co31) := (blk_cell BK700.out 0).trans rfl; have hfz35_0 := blk_frozen BK700.out 0) | ((with_reducible refine gate_callee (f := 29) rfl ?_); refine goesL_ (some 29) rfl rfl Try.func29 (by kernel_rfl) rfl #[.agg #[.slice Ao31 y697.length co31]] rfl (by (try simp only [List.map_toArray, List.map_cons, List.map_nil]); first | done | rfl | (simp only [List.length_drop, List.length_take]; rfl)) ?_; (with_reducible refine (reset_Reset.calls k _ _ y697 t705 t708 _ ?side1 ?side2 A3.out).mono ?_); (case side1 => repeat (first | exact (Kd.N_reads' HO699.out).2.2 | (with_reducible refine Kd.C_alloc ?_ _) | (with_reducible refine Kd.C_drewN ?_ _) | (with_reducible refine Kd.C_drew ?_))); (case side2 => exact (Kd.N_reads' HO699.out).2.1); rintro e w36 ⟨v706, rfl, ho0, hb⟩; refine ⟨_, rfl, ?_⟩; have n0_ := Aside0.mk (Kd.N_elder' (by (with_reducible repeat (first | apply Kd.N_alloc | apply Kd.N_drewN | apply Kd.N_drew)); exact HO686.out) (Kd.R_base ho0) hb); have n1_ := Aside0.mk (Kd.R_elder' (by (with_reducible repeat (first | apply Kd.R_alloc | apply Kd.R_drewN | apply Kd.R_drew)); exact HO689.out) (Kd.R_base ho0) hb); have n2_ := Aside0.mk (Kd.N_elder' (by (with_reducible repeat (first | apply Kd.N_alloc | apply Kd.N_drewN | apply Kd.N_drew)); exact HO699.out) (Kd.R_base ho0) hb); have n3_ := Aside0.mk (Kd.R_below (by (with_reducible repeat (first | apply Kd.R_alloc | apply Kd.R_drewN | apply Kd.R_drew)); exact HO703.out) hb); have n4_ := Aside0.mk (Kd.R_lower (Kd.R_new' ho0 (Kd.R_lt (by (with_reducible repeat (first | apply Kd.R_alloc | apply Kd.R_drewN | apply Kd.R_drew)); exact HO689.out))) (below_size (by repeat (first | (with_reducible first | exact HB.out | apply below_alloc | apply pw_below_drewN | apply below_drew1 | refine below_set ?_ GE700.out) | exact HB.out)))); have n5_ := Aside0.mk (blk_below (g := gb700) (o := .cells #[.slice Ao31 y697.length co31] 24 (0, 0)) (by (with_reducible repeat (first | refine blk_drewN ?_ _ | refine blk_drew ?_ | refine blk_alloc ?_ _)); exact BK700.out) hb); have n6_ := Aside0.mk (below_step (by repeat (first | (with_reducible first | exact HB.out | apply below_alloc | apply pw_below_drewN | apply below_drew1 | refine below_set ?_ GE700.out) | exact HB.out)) hb); clear HO686; clear HO689; clear HO699; clear HO703; clear BK700; clear HB; have HO686 := n0_; have HO689 := n1_; have HO699 := n2_; have HO703 := n3_; have HO707 := n4_; have BK700 := n5_; have HB := n6_; clear n0_ n1_ n2_ n3_ n4_ n5_ n6_; (try clear hb); (try clear hb2); (try clear hk); (try clear hi); (try clear ho0)) | ((with_reducible refine gate_dst (N := 33) rfl ?_); (try (refine gate_guard (by rfl) ?_; dsimp only)); refine Kd.R_lit (Kd.int .i64) _ 3 ?hg (N := 33) ?hd (xs := ([1, 0] : List Int)) (inner := [.int .i64 1, .int .i64 0]) (ok := fun _ => True) (okp := fun _ => True) ?hr ?hp (fun _ hk => hk) trivial (Below.refl _ _) (Nat.le_refl _) (by simp) ?_; (case hd => rfl); (case hg => rfl); (case hr => first | (go_simp; done) | (go_simp; rfl)); (case hp => exact (Reps.one (show Kd.M (Kd.int .i64) _ _ _ 1 [.int .i64 1] from rfl) (Reps.one (show Kd.M (Kd.int .i64) _ _ _ 0 [.int .i64 0] from rfl) (Reps.none _ _)))); intro v710 w37 ho38 hb hg_ hnew_; clear hg_ hnew_; (first | rw [← Ny709.out] at ho38 | (simp only [Int.reduceToNat] at ho38; rw [← Ny709.out] at ho38)); have n0_ := Aside0.mk (Kd.N_elder' (by (with_reducible repeat (first | apply Kd.N_alloc | apply Kd.N_drewN | apply Kd.N_drew)); exact HO686.out) (Kd.R_base ho38) hb); have n1_ := Aside0.mk (Kd.R_elder' (by (with_reducible repeat (first | apply Kd.R_alloc | apply Kd.R_drewN | apply Kd.R_drew)); exact HO689.out) (Kd.R_base ho38) hb); have n2_ := Aside0.mk (Kd.N_elder' (by (with_reducible repeat (first | apply Kd.N_alloc | apply Kd.N_drewN | apply Kd.N_drew)); exact HO699.out) (Kd.R_base ho38) hb); have n3_ := Aside0.mk (Kd.R_below (by (with_reducible repeat (first | apply Kd.R_alloc | apply Kd.R_drewN | apply Kd.R_drew)); exact HO703.out) hb); have n4_ := Aside0.mk (Kd.R_elder' (by (with_reducible repeat (first | apply Kd.R_alloc | apply Kd.R_drewN | apply Kd.R_drew)); exact HO707.out) (Kd.R_base ho38) hb); have n5_ := Aside0.mk (Kd.R_lower (Kd.R_new' (Kd.R_new' ho38 (Kd.R_lt (by (with_reducible repeat (first | apply Kd.R_alloc | apply Kd.R_drewN | apply Kd.R_drew)); exact HO689.out))) (Kd.R_lt (by (with_reducible repeat (first | apply Kd.R_alloc | apply Kd.R_drewN | apply Kd.R_drew)); exact HO707.out))) (below_size (by repeat (first | (with_reducible first | exact HB.out | apply below_alloc | apply pw_below_drewN | apply below_drew1 | refine below_set ?_ GE700.out) | exact HB.out)))); have n6_ := Aside0.mk (blk_below (g := gb700) (o := .cells #[.slice Ao31 y697.length co31] 24 (0, 0)) (by (with_reducible repeat (first | refine blk_drewN ?_ _ | refine blk_drew ?_ | refine blk_alloc ?_ _)); exact BK700.out) hb); have n7_ := Aside0.mk (below_step (by repeat (first | (with_reducible first | exact HB.out | apply below_alloc | apply pw_below_drewN | apply below_drew1 | refine below_set ?_ GE700.out) | exact HB.out)) hb); clear HO686; clear HO689; clear HO699; clear HO703; clear HO707; clear BK700; clear HB; have HO686 := n0_; have HO689 := n1_; have HO699 := n2_; have HO703 := n3_; have HO707 := n4_; have HO711 := n5_; have BK700 := n6_; have HB := n7_; clear n0_ n1_ n2_ n3_ n4_ n5_ n6_ n7_; clear hb ho38) | ((with_reducible refine gate_dst (N := 34) rfl ?_); (try (refine gate_guard (by rfl) ?_; dsimp only)); refine Kd.R_lit (Kd.int .i64) _ 3 ?hg (N := 34) ?hd (xs := ([2, 1] : List Int)) (inner := [.int .i64 2, .int .i64 1]) (ok := fun _ => True) (okp := fun _ => True) ?hr ?hp (fun _ hk => hk) trivial (Below.refl _ _) (Nat.le_refl _) (by simp) ?_; (case hd => rfl); (case hg => rfl); (case hr => first | (go_simp; done) | (go_simp; rfl)); (case hp => exact (Reps.one (show Kd.M (Kd.int .i64) _ _ _ 2 [.int .i64 2] from rfl) (Reps.one (show Kd.M (Kd.int .i64) _ _ _ 1 [.int .i64 1] from rfl) (Reps.none _ _)))); intro v713 w39 ho40 hb hg_ hnew_; clear hg_ hnew_; (first | rw [← Ny712.out] at ho40 | (simp only [Int.reduceToNat] at ho40; rw [← Ny712.out] at ho40)); have n0_ := Aside0.mk (Kd.N_elder' (by (with_reducible repeat (first | apply Kd.N_alloc | apply Kd.N_drewN | apply Kd.N_drew)); exact HO686.out) (Kd.R_base ho40) hb); have n1_ := Aside0.mk (Kd.R_elder' (by (with_reducible repeat (first | apply Kd.R_alloc | apply Kd.R_drewN | apply Kd.R_drew)); exact HO689.out) (Kd.R_base ho40) hb); have n2_ := Aside0.mk (Kd.N_elder' (by (with_reducible repeat (first | apply Kd.N_alloc | apply Kd.N_drewN | apply Kd.N_drew)); exact HO699.out) (Kd.R_base ho40) hb); have n3_ := Aside0.mk (Kd.R_below (by (with_reducible repeat (first | apply Kd.R_alloc | apply Kd.R_drewN | apply Kd.R_drew)); exact HO703.out) hb); have n4_ := Aside0.mk (Kd.R_elder' (by (with_reducible repeat (first | apply Kd.R_alloc | apply Kd.R_drewN | apply Kd.R_drew)); exact HO707.out) (Kd.R_base ho40) hb); have n5_ := Aside0.mk (Kd.R_elder' (by (with_reducible repeat (first | apply Kd.R_alloc | apply Kd.R_drewN | apply Kd.R_drew)); exact HO711.out) (Kd.R_base ho40) hb); have n6_ := Aside0.mk (Kd.R_lower (Kd.R_new' (Kd.R_new' (Kd.R_new' ho40 (Kd.R_lt (by (with_reducible repeat (first | apply Kd.R_alloc | apply Kd.R_drewN | apply Kd.R_drew)); exact HO689.out))) (Kd.R_lt (by (with_reducible repeat (first | apply Kd.R_alloc | apply Kd.R_drewN | apply Kd.R_drew)); exact HO707.out))) (Kd.R_lt (by (with_reducible repeat (first | apply Kd.R_alloc | apply Kd.R_drewN | apply Kd.R_drew)); exact HO711.out))) (below_size (by repeat (first | (with_reducible first | exact HB.out | apply below_alloc | apply pw_below_drewN | apply below_drew1 | refine below_set ?_ GE700.out) | exact HB.out)))); have n7_ := Aside0.mk (blk_below (g := gb700) (o := .cells #[.slice Ao31 y697.length co31] 24 (0, 0)) (by (with_reducible repeat (first | refine blk_drewN ?_ _ | refine blk_drew ?_ | refine blk_alloc ?_ _)); exact BK700.out) hb); have n8_ := Aside0.mk (below_step (by repeat (first | (with_reducible first | exact HB.out | apply below_alloc | apply pw_below_drewN | apply below_drew1 | refine below_set ?_ GE700.out) | exact HB.out)) hb); clear HO686; clear HO689; clear HO699; clear HO703; clear HO707; clear HO711; clear BK700; clear HB; have HO686 := n0_; have HO689 := n1_; have HO699 := n2_; have HO703 := n3_; have HO707 := n4_; have HO711 := n5_; have HO714 := n6_; have BK700 := n7_; have HB := n8_; clear n0_ n1_ n2_ n3_ n4_ n5_ n6_ n7_ n8_; clear hb ho40) | ((with_reducible refine gate_dst (N := 35) rfl ?_); (try (refine gate_guard (by rfl) ?_; dsimp only)); refine Kd.R_lit (Kd.int .i64) _ 3 ?hg (N := 35) ?hd (xs := ([0, 0] : List Int)) (inner := [.int .i64 0, .int .i64 0]) (ok := fun _ => True) (okp := fun _ => True) ?hr ?hp (fun _ hk => hk) trivial (Below.refl _ _) (Nat.le_refl _) (by simp) ?_; (case hd => rfl); (case hg => rfl); (case hr => first | (go_simp; done) | (go_simp; rfl)); (case hp => exact (Reps.one (show Kd.M (Kd.int .i64) _ _ _ 0 [.int .i64 0] from rfl) (Reps.one (show Kd.M (Kd.int .i64) _ _ _ 0 [.int .i64 0] from rfl) (Reps.none _ _)))); intro v716 w41 ho42 hb hg_ hnew_; clear hg_ hnew_; (first | rw [← Ny715.out] at ho42 | (simp only [Int.reduceToNat] at ho42; rw [← Ny715.out] at ho42)); have n0_ := Aside0.mk (Kd.N_elder' (by (with_reducible repeat (first | apply Kd.N_alloc | apply Kd.N_drewN | apply Kd.N_drew)); exact HO686.out) (Kd.R_base ho42) hb); have n1_ := Aside0.mk (Kd.R_elder' (by (with_reducible repeat (first | apply Kd.R_alloc | apply Kd.R_drewN | apply Kd.R_drew)); exact HO689.out) (Kd.R_base ho42) hb); have n2_ := Aside0.mk (Kd.N_elder' (by (with_reducible repeat (first | apply Kd.N_alloc | apply Kd.N_drewN | apply Kd.N_drew)); exact HO699.out) (Kd.R_base ho42) hb); have n3_ := Aside0.mk (Kd.R_below (by (with_reducible repeat (first | apply Kd.R_alloc | apply Kd.R_drewN | apply Kd.R_drew)); exact HO703.out) hb); have n4_ := Aside0.mk (Kd.R_elder' (by (with_reducible repeat (first | apply Kd.R_alloc | apply Kd.R_drewN | apply Kd.R_drew)); exact HO707.out) (Kd.R_base ho42) hb); have n5_ := Aside0.mk (Kd.R_elder' (by (with_reducible repeat (first | apply Kd.R_alloc | apply Kd.R_drewN | apply Kd.R_drew)); exact HO711.out) (Kd.R_base ho42) hb); have n6_ := Aside0.mk (Kd.R_elder' (by (with_reducible repeat (first | apply Kd.R_alloc | apply Kd.R_drewN | apply Kd.R_drew)); exact HO714.out) (Kd.R_base ho42) hb); have n7_ := Aside0.mk (Kd.R_lower (Kd.R_new' (Kd.R_new' (Kd.R_new' (Kd.R_new' ho42 (Kd.R_lt (by (with_reducible repeat (first | apply Kd.R_alloc | apply Kd.R_drewN | apply Kd.R_drew)); exact HO689.out))) (Kd.R_lt (by (with_reducible repeat (first | apply Kd.R_alloc | apply Kd.R_drewN | apply Kd.R_drew)); exact HO707.out))) (Kd.R_lt (by (with_reducible repeat (first | apply Kd.R_alloc | apply Kd.R_drewN | apply Kd.R_drew)); exact HO711.out))) (Kd.R_lt (by (with_reducible repeat (first | apply Kd.R_alloc | apply Kd.R_drewN | apply Kd.R_drew)); exact HO714.out))) (below_size (by repeat (first | (with_reducible first | exact HB.out | apply below_alloc | apply pw_below_drewN | apply below_drew1 | refine below_set ?_ GE700.out) | exact HB.out)))); have n8_ := Aside0.mk (blk_below (g := gb700) (o := .cells #[.slice Ao31 y697.length co31] 24 (0, 0)) (by (with_reducible repeat (first | refine blk_drewN ?_ _ | refine blk_drew ?_ | refine blk_alloc ?_ _)); exact BK700.out) hb); have n9_ := Aside0.mk (below_step (by repeat (first | (with_reducible first | exact HB.out | apply below_alloc | apply pw_below_drewN | apply below_drew1 | refine below_set ?_ GE700.out) | exact HB.out)) hb); clear HO686; clear HO689; clear HO699; clear HO703; clear HO707; clear HO711; clear HO714; clear BK700; clear HB; have HO686 := n0_; have HO689 := n1_; have HO699 := n2_; have HO703 := n3_; have HO707 := n4_; have HO711 := n5_; have HO714 := n6_; have HO717 := n7_; have BK700 := n8_; have HB := n9_; clear n0_ n1_ n2_ n3_ n4_ n5_ n6_ n7_ n8_ n9_; clear hb ho42; obtain ⟨Ao43, co43, eo43⟩ := Kd.R_slice HO711.out; subst eo43; obtain ⟨Ao44, co44, eo44⟩ := Kd.R_slice HO714.out; subst eo44; obtain ⟨Ao45, co45, eo45⟩ := Kd.R_slice HO717.out; subst eo45) | ((with_reducible refine gate_dst (N := 36) rfl ?_); (try (refine gate_guard (by rfl) ?_; dsimp only)); refine Kd.N_lit (Kd.slice 3 (Kd.int .i64)) _ 25 ?hg (N' := 36) ?hd (xs := ([y709, y712, y715] : List (List Int))) (inner := [.slice Ao43 y709.length co43, .slice Ao44 y712.length co44, .slice Ao45 y715.length co45]) (ok := (fun k_ => some k_ ≠ (.slice Ao21 y684.length co21 : Value).ownBlock ∧ some k_ ≠ (v688 : Value).ownBlock ∧ some k_ ≠ (.slice Ao31 y697.length co31 : Value).ownBlock ∧ some k_ ≠ (v702 : Value).ownBlock ∧ some k_ ≠ (v706 : Value).ownBlock ∧ k_ ≠ gb700)) (okp := (fun k_ => some k_ ≠ (.slice Ao21 y684.length co21 : Value).ownBlock ∧ some k_ ≠ (v688 : Value).ownBlock ∧ some k_ ≠ (.slice Ao31 y697.length co31 : Value).ownBlock ∧ some k_ ≠ (v702 : Value).ownBlock ∧ some k_ ≠ (v706 : Value).ownBlock ∧ k_ ≠ gb700)) ?hr ?hp (fun _ hk => hk) ((show ∀ k_, w41.heap.size ≤ k_ → (fun k_ => some k_ ≠ (.slice Ao21 y684.length co21 : Value).ownBlock ∧ some k_ ≠ (v688 : Value).ownBlock ∧ some k_ ≠ (.slice Ao31 y697.length co31 : Value).ownBlock ∧ some k_ ≠ (v702 : Value).ownBlock ∧ some k_ ≠ (v706 : Value).ownBlock ∧ k_ ≠ gb700) k_ from fun k_ hk => ⟨Kd.fresh' (Kd.N_lt (by (with_reducible repeat (first | apply Kd.N_alloc | apply Kd.N_drewN | apply Kd.N_drew)); exact HO686.out)) k_ hk, Kd.fresh' (Kd.R_lt (by (with_reducible repeat (first | apply Kd.R_alloc | apply Kd.R_drewN | apply Kd.R_drew)); exact HO689.out)) k_ hk, Kd.fresh' (Kd.N_lt (by (with_reducible repeat (first | apply Kd.N_alloc | apply Kd.N_drewN | apply Kd.N_drew)); exact HO699.out)) k_ hk, Kd.fresh' (Kd.R_lt (by (with_reducible repeat (first | apply Kd.R_alloc | apply Kd.R_drewN | apply Kd.R_drew)); exact HO703.out)) k_ hk, Kd.fresh' (Kd.R_lt (by (with_reducible repeat (first | apply Kd.R_alloc | apply Kd.R_drewN | apply Kd.R_drew)); exact HO707.out)) k_ hk, Kd.freshB (g := gb700) (o := .cells #[.slice Ao31 y697.length co31] 24 (0, 0)) (by (with_reducible repeat (first | refine blk_drewN ?_ _ | refine blk_drew ?_ | refine blk_alloc ?_ _)); exact BK700.out) k_ hk⟩) _ (Nat.le_refl _)) (Below.refl _ _) (Nat.le_refl _) (by simp) ?_; (case hd => rfl); (case hg => rfl); (case hr => first | (go_simp; done) | (go_simp; rfl)); (case hp => exact (Reps.one (show Kd.FK (Kd.slice 3 (Kd.int .i64)) _ _ y709 [.slice Ao43 y709.length co43] from (Kd.FK_slice_mk (Kd.R_reads' (Kd.R_mono (ok' := (fun k_ => some k_ ≠ (.slice Ao21 y684.length co21 : Value).ownBlock ∧ some k_ ≠ (v688 : Value).ownBlock ∧ some k_ ≠ (.slice Ao31 y697.length co31 : Value).ownBlock ∧ some k_ ≠ (v702 : Value).ownBlock ∧ some k_ ≠ (v706 : Value).ownBlock ∧ k_ ≠ gb700)) (Kd.R_types (Kd.R_apart' (Kd.R_apart' (Kd.R_apart' (HO711.out) (Kd.N_typed HO686.out) (by decide)) (Kd.N_typed HO699.out) (by decide)) (Kd.R_typed HO703.out) (by decide)) BK700.out (by decide)) (fun k_ hk => ⟨hk.1.1.1.2, ⟨hk.1.1.1.1.1.1.1.2, ⟨hk.1.1.2, ⟨hk.1.2, ⟨hk.1.1.1.1.1.1.2, hk.2⟩⟩⟩⟩⟩))).2.1 (Kd.R_F (Kd.R_mono (ok' := (fun k_ => some k_ ≠ (.slice Ao21 y684.length co21 : Value).ownBlock ∧ some k_ ≠ (v688 : Value).ownBlock ∧ some k_ ≠ (.slice Ao31 y697.length co31 : Value).ownBlock ∧ some k_ ≠ (v702 : Value).ownBlock ∧ some k_ ≠ (v706 : Value).ownBlock ∧ k_ ≠ gb700)) (Kd.R_types (Kd.R_apart' (Kd.R_apart' (Kd.R_apart' (HO711.out) (Kd.N_typed HO686.out) (by decide)) (Kd.N_typed HO699.out) (by decide)) (Kd.R_typed HO703.out) (by decide)) BK700.out (by decide)) (fun k_ hk => ⟨hk.1.1.1.2, ⟨hk.1.1.1.1.1.1.1.2, ⟨hk.1.1.2, ⟨hk.1.2, ⟨hk.1.1.1.1.1.1.2, hk.2⟩⟩⟩⟩⟩))))) (Reps.one (show Kd.FK (Kd.slice 3 (Kd.int .i64)) _ _ y712 [.slice Ao44 y712.length co44] from (Kd.FK_slice_mk (Kd.R_reads' (Kd.R_mono (ok' := (fun k_ => some k_ ≠ (.slice Ao21 y684.length co21 : Value).ownBlock ∧ some k_ ≠ (v688 : Value).ownBlock ∧ some k_ ≠ (.slice Ao31 y697.length co31 : Value).ownBlock ∧ some k_ ≠ (v702 : Value).ownBlock ∧ some k_ ≠ (v706 : Value).ownBlock ∧ k_ ≠ gb700)) (Kd.R_types (Kd.R_apart' (Kd.R_apart' (Kd.R_apart' (HO714.out) (Kd.N_typed HO686.out) (by decide)) (Kd.N_typed HO699.out) (by decide)) (Kd.R_typed HO703.out) (by decide)) BK700.out (by decide)) (fun k_ hk => ⟨hk.1.1.1.2, ⟨hk.1.1.1.1.1.1.1.2, ⟨hk.1.1.2, ⟨hk.1.2, ⟨hk.1.1.1.1.1.1.2, hk.2⟩⟩⟩⟩⟩))).2.1 (Kd.R_F (Kd.R_mono (ok' := (fun k_ => some k_ ≠ (.slice Ao21 y684.length co21 : Value).ownBlock ∧ some k_ ≠ (v688 : Value).ownBlock ∧ some k_ ≠ (.slice Ao31 y697.length co31 : Value).ownBlock ∧ some k_ ≠ (v702 : Value).ownBlock ∧ some k_ ≠ (v706 : Value).ownBlock ∧ k_ ≠ gb700)) (Kd.R_types (Kd.R_apart' (Kd.R_apart' (Kd.R_apart' (HO714.out) (Kd.N_typed HO686.out) (by decide)) (Kd.N_typed HO699.out) (by decide)) (Kd.R_typed HO703.out) (by decide)) BK700.out (by decide)) (fun k_ hk => ⟨hk.1.1.1.2, ⟨hk.1.1.1.1.1.1.1.2, ⟨hk.1.1.2, ⟨hk.1.2, ⟨hk.1.1.1.1.1.1.2, hk.2⟩⟩⟩⟩⟩))))) (Reps.one (show Kd.FK (Kd.slice 3 (Kd.int .i64)) _ _ y715 [.slice Ao45 y715.length co45] from (Kd.FK_slice_mk (Kd.R_reads' (Kd.R_mono (ok' := (fun k_ => some k_ ≠ (.slice Ao21 y684.length co21 : Value).ownBlock ∧ some k_ ≠ (v688 : Value).ownBlock ∧ some k_ ≠ (.slice Ao31 y697.length co31 : Value).ownBlock ∧ some k_ ≠ (v702 : Value).ownBlock ∧ some k_ ≠ (v706 : Value).ownBlock ∧ k_ ≠ gb700)) (Kd.R_types (Kd.R_apart' (Kd.R_apart' (Kd.R_apart' (HO717.out) (Kd.N_typed HO686.out) (by decide)) (Kd.N_typed HO699.out) (by decide)) (Kd.R_typed HO703.out) (by decide)) BK700.out (by decide)) (fun k_ hk => ⟨hk.1.1.1.2, ⟨hk.1.1.1.1.1.1.1.2, ⟨hk.1.1.2, ⟨hk.1.2, ⟨hk.1.1.1.1.1.1.2, hk.2⟩⟩⟩⟩⟩))).2.1 (Kd.R_F (Kd.R_mono (ok' := (fun k_ => some k_ ≠ (.slice Ao21 y684.length co21 : Value).ownBlock ∧ some k_ ≠ (v688 : Value).ownBlock ∧ some k_ ≠ (.slice Ao31 y697.length co31 : Value).ownBlock ∧ some k_ ≠ (v702 : Value).ownBlock ∧ some k_ ≠ (v706 : Value).ownBlock ∧ k_ ≠ gb700)) (Kd.R_types (Kd.R_apart' (Kd.R_apart' (Kd.R_apart' (HO717.out) (Kd.N_typed HO686.out) (by decide)) (Kd.N_typed HO699.out) (by decide)) (Kd.R_typed HO703.out) (by decide)) BK700.out (by decide)) (fun k_ hk => ⟨hk.1.1.1.2, ⟨hk.1.1.1.1.1.1.1.2, ⟨hk.1.1.2, ⟨hk.1.2, ⟨hk.1.1.1.1.1.1.2, hk.2⟩⟩⟩⟩⟩))))) (Reps.none _ _))))); intro v719 w46 ho47 hb hg_ hnew_; clear hg_ hnew_; (first | rw [← Ny718.out] at ho47 | (simp only [Int.reduceToNat] at ho47; rw [← Ny718.out] at ho47)); have n0_ := Aside0.mk (Kd.N_elder' (by (with_reducible repeat (first | apply Kd.N_alloc | apply Kd.N_drewN | apply Kd.N_drew)); exact HO686.out) (by first | exact Kd.N_base ho47 | exact Kd.S_base ho47 | exact Kd.R_base ho47) hb); have n1_ := Aside0.mk (Kd.R_below (by (with_reducible repeat (first | apply Kd.R_alloc | apply Kd.R_drewN | apply Kd.R_drew)); exact HO689.out) hb); have n2_ := Aside0.mk (Kd.N_elder' (by (with_reducible repeat (first | apply Kd.N_alloc | apply Kd.N_drewN | apply Kd.N_drew)); exact HO699.out) (by first | exact Kd.N_base ho47 | exact Kd.S_base ho47 | exact Kd.R_base ho47) hb); have n3_ := Aside0.mk (Kd.R_below (by (with_reducible repeat (first | apply Kd.R_alloc | apply Kd.R_drewN | apply Kd.R_drew)); exact HO703.out) hb); have n4_ := Aside0.mk (Kd.R_below (by (with_reducible repeat (first | apply Kd.R_alloc | apply Kd.R_drewN | apply Kd.R_drew)); exact HO707.out) hb); have n5_ := Aside0.mk (Kd.N_lower ho47 (below_size (by repeat (first | (with_reducible first | exact HB.out | apply below_alloc | apply pw_below_drewN | apply below_drew1 | refine below_set ?_ GE700.out) | exact HB.out)))); have n6_ := Aside0.mk (blk_below (g := gb700) (o := .cells #[.slice Ao31 y697.length co31] 24 (0, 0)) (by (with_reducible repeat (first | refine blk_drewN ?_ _ | refine blk_drew ?_ | refine blk_alloc ?_ _)); exact BK700.out) hb); have n7_ := Aside0.mk (below_step (by repeat (first | (with_reducible first | exact HB.out | apply below_alloc | apply pw_below_drewN | apply below_drew1 | refine below_set ?_ GE700.out) | exact HB.out)) hb); clear HO686; clear HO689; clear HO699; clear HO703; clear HO707; clear BK700; clear HB; clear HO711; clear HO714; clear HO717; have HO686 := n0_; have HO689 := n1_; have HO699 := n2_; have HO703 := n3_; have HO707 := n4_; have HO720 := n5_; have BK700 := n6_; have HB := n7_; clear n0_ n1_ n2_ n3_ n4_ n5_ n6_ n7_; clear hb ho47; obtain ⟨Ao48, co48, eo48⟩ := Kd.N_slice HO720.out; subst eo48) | ((with_reducible refine gate_callee (f := 29) rfl ?_); refine goesL_ (some 38) rfl rfl Try.func29 (by kernel_rfl) rfl #[.agg #[.slice Ao48 y718.length co48]] rfl (by (try simp only [List.map_toArray, List.map_cons, List.map_nil]); first | done | rfl | (simp only [List.length_drop, List.length_take]; rfl)) ?_; (with_reducible refine (reset_Reset.calls k _ _ y718 t721 t724 _ ?side1 ?side2 A4.out).mono ?_); (case side1 => repeat (first | exact (Kd.N_reads' HO720.out).2.2 | (with_reducible refine Kd.C_alloc ?_ _) | (with_reducible refine Kd.C_drewN ?_ _) | (with_reducible refine Kd.C_drew ?_))); (case side2 => exact (Kd.N_reads' HO720.out).2.1); rintro e w49 ⟨v722, rfl, ho0, hb⟩; refine ⟨_, rfl, ?_⟩; have n0_ := Aside0.mk (Kd.N_elder' (by (with_reducible repeat (first | apply Kd.N_alloc | apply Kd.N_drewN | apply Kd.N_drew)); exact HO686.out) (Kd.R_base ho0) hb); have n1_ := Aside0.mk (Kd.R_elder' (by (with_reducible repeat (first | apply Kd.R_alloc | apply Kd.R_drewN | apply Kd.R_drew)); exact HO689.out) (Kd.R_base ho0) hb); have n2_ := Aside0.mk (Kd.N_elder' (by (with_reducible repeat (first | apply Kd.N_alloc | apply Kd.N_drewN | apply Kd.N_drew)); exact HO699.out) (Kd.R_base ho0) hb); have n3_ := Aside0.mk (Kd.R_below (by (with_reducible repeat (first | apply Kd.R_alloc | apply Kd.R_drewN | apply Kd.R_drew)); exact HO703.out) hb); have n4_ := Aside0.mk (Kd.R_elder' (by (with_reducible repeat (first | apply Kd.R_alloc | apply Kd.R_drewN | apply Kd.R_drew)); exact HO707.out) (Kd.R_base ho0) hb); have n5_ := Aside0.mk (Kd.N_elder' (by (with_reducible repeat (first | apply Kd.N_alloc | apply Kd.N_drewN | apply Kd.N_drew)); exact HO720.out) (Kd.R_base ho0) hb); have n6_ := Aside0.mk (Kd.R_lower (Kd.R_new' (Kd.R_new' ho0 (Kd.R_lt (by (with_reducible repeat (first | apply Kd.R_alloc | apply Kd.R_drewN | apply Kd.R_drew)); exact HO689.out))) (Kd.R_lt (by (with_reducible repeat (first | apply Kd.R_alloc | apply Kd.R_drewN | apply Kd.R_drew)); exact HO707.out))) (below_size (by repeat (first | (with_reducible first | exact HB.out | apply below_alloc | apply pw_below_drewN | apply below_drew1 | refine below_set ?_ GE700.out) | exact HB.out)))); have n7_ := Aside0.mk (blk_below (g := gb700) (o := .cells #[.slice Ao31 y697.length co31] 24 (0, 0)) (by (with_reducible repeat (first | refine blk_drewN ?_ _ | refine blk_drew ?_ | refine blk_alloc ?_ _)); exact BK700.out) hb); have n8_ := Aside0.mk (below_step (by repeat (first | (with_reducible first | exact HB.out | apply below_alloc | apply pw_below_drewN | apply below_drew1 | refine below_set ?_ GE700.out) | exact HB.out)) hb); clear HO686; clear HO689; clear HO699; clear HO703; clear HO707; clear HO720; clear BK700; clear HB; have HO686 := n0_; have HO689 := n1_; have HO699 := n2_; have HO703 := n3_; have HO707 := n4_; have HO720 := n5_; have HO723 := n6_; have BK700 := n7_; have HB := n8_; clear n0_ n1_ n2_ n3_ n4_ n5_ n6_ n7_ n8_; (try clear hb); (try clear hb2); (try clear hk); (try clear hi); (try clear ho0)) | ((with_reducible refine gate_dst (N := 45) rfl ?_); (try (refine gate_guard (by rfl) ?_; dsimp only)); refine Kd.R_lit (Kd.int .i64) _ 3 ?hg (N := 45) ?hd (xs := ([1] : List Int)) (inner := [.int .i64 1]) (ok := fun _ => True) (okp := fun _ => True) ?hr ?hp (fun _ hk => hk) trivial (Below.refl _ _) (Nat.le_refl _) (by simp) ?_; (case hd => rfl); (case hg => rfl); (case hr => first | (go_simp; done) | (go_simp; rfl)); (case hp => exact (Reps.one (show Kd.M (Kd.int .i64) _ _ _ 1 [.int .i64 1] from rfl) (Reps.none _ _))); intro v726 w50 ho51 hb hg_ hnew_; clear hg_ hnew_; (first | rw [← Ny725.out] at ho51 | (simp only [Int.reduceToNat] at ho51; rw [← Ny725.out] at ho51)); have n0_ := Aside0.mk (Kd.N_elder' (by (with_reducible repeat (first | apply Kd.N_alloc | apply Kd.N_drewN | apply Kd.N_drew)); exact HO686.out) (Kd.R_base ho51) hb); have n1_ := Aside0.mk (Kd.R_elder' (by (with_reducible repeat (first | apply Kd.R_alloc | apply Kd.R_drewN | apply Kd.R_drew)); exact HO689.out) (Kd.R_base ho51) hb); have n2_ := Aside0.mk (Kd.N_elder' (by (with_reducible repeat (first | apply Kd.N_alloc | apply Kd.N_drewN | apply Kd.N_drew)); exact HO699.out) (Kd.R_base ho51) hb); have n3_ := Aside0.mk (Kd.R_below (by (with_reducible repeat (first | apply Kd.R_alloc | apply Kd.R_drewN | apply Kd.R_drew)); exact HO703.out) hb); have n4_ := Aside0.mk (Kd.R_elder' (by (with_reducible repeat (first | apply Kd.R_alloc | apply Kd.R_drewN | apply Kd.R_drew)); exact HO707.out) (Kd.R_base ho51) hb); have n5_ := Aside0.mk (Kd.N_elder' (by (with_reducible repeat (first | apply Kd.N_alloc | apply Kd.N_drewN | apply Kd.N_drew)); exact HO720.out) (Kd.R_base ho51) hb); have n6_ := Aside0.mk (Kd.R_elder' (by (with_reducible repeat (first | apply Kd.R_alloc | apply Kd.R_drewN | apply Kd.R_drew)); exact HO723.out) (Kd.R_base ho51) hb); have n7_ := Aside0.mk (Kd.R_lower (Kd.R_new' (Kd.R_new' (Kd.R_new' ho51 (Kd.R_lt (by (with_reducible repeat (first | apply Kd.R_alloc | apply Kd.R_drewN | apply Kd.R_drew)); exact HO689.out))) (Kd.R_lt (by (with_reducible repeat (first | apply Kd.R_alloc | apply Kd.R_drewN | apply Kd.R_drew)); exact HO707.out))) (Kd.R_lt (by (with_reducible repeat (first | apply Kd.R_alloc | apply Kd.R_drewN | apply Kd.R_drew)); exact HO723.out))) (below_size (by repeat (first | (with_reducible first | exact HB.out | apply below_alloc | apply pw_below_drewN | apply below_drew1 | refine below_set ?_ GE700.out) | exact HB.out)))); have n8_ := Aside0.mk (blk_below (g := gb700) (o := .cells #[.slice Ao31 y697.length co31] 24 (0, 0)) (by (with_reducible repeat (first | refine blk_drewN ?_ _ | refine blk_drew ?_ | refine blk_alloc ?_ _)); exact BK700.out) hb); have n9_ := Aside0.mk (below_step (by repeat (first | (with_reducible first | exact HB.out | apply below_alloc | apply pw_below_drewN | apply below_drew1 | refine below_set ?_ GE700.out) | exact HB.out)) hb); clear HO686; clear HO689; clear HO699; clear HO703; clear HO707; clear HO720; clear HO723; clear BK700; clear HB; have HO686 := n0_; have HO689 := n1_; have HO699 := n2_; have HO703 := n3_; have HO707 := n4_; have HO720 := n5_; have HO723 := n6_; have HO727 := n7_; have BK700 := n8_; have HB := n9_; clear n0_ n1_ n2_ n3_ n4_ n5_ n6_ n7_ n8_ n9_; clear hb ho51; obtain ⟨Ao52, co52, eo52⟩ := Kd.R_slice HO689.out; subst eo52; obtain ⟨Ao53, co53, eo53⟩ := Kd.R_slice HO727.out; subst eo53) | (go_at_call 19; (with_reducible refine (mizmazeref01_Same.calls k _ _ t687 _ _ y725 true _ ?side1 ?side2 ?side3 ?side4 A6.out).mono ?_); (case side1 => repeat (first | exact (Kd.R_reads' HO689.out).2.2 | (with_reducible refine Kd.C_alloc ?_ _) | (with_reducible refine Kd.C_drewN ?_ _) | (with_reducible refine Kd.C_drew ?_))); (case side2 => exact (Kd.R_reads' HO689.out).2.1); (case side3 => repeat (first | exact (Kd.R_reads' HO727.out).2.2 | (with_reducible refine Kd.C_alloc ?_ _) | (with_reducible refine Kd.C_drewN ?_ _) | (with_reducible refine Kd.C_drew ?_))); (case side4 => exact (Kd.R_reads' HO727.out).2.1); rintro e w' ⟨rfl, ⟨nd, rfl⟩⟩) | ((with_reducible refine gate_dst (N := 55) rfl ?_); (try (refine gate_guard (by rfl) ?_; dsimp only)); refine Kd.R_lit k49 _ 49 ?hg (N := 55) ?hd (xs := ([(⟨0, 1⟩ : S49)] : List (S49))) (inner := [.int .i64 0, .int .i64 1]) (ok := fun _ => True) (okp := fun _ => True) ?hr ?hp (fun _ hk => hk) trivial (Below.refl _ _) (Nat.le_refl _) (by simp) ?_; (case hd => rfl); (case hg => rfl); (case hr => first | (go_simp; done) | (go_simp; rfl)); (case hp => exact (Reps.c2 (show Kd.M k49 _ _ _ (⟨0, 1⟩ : S49) [.int .i64 0, .int .i64 1] from (k49_mkM _ _ _ (⟨0, 1⟩ : S49) )) (Reps.none _ _))); intro v730 w54 ho55 hb hg_ hnew_; clear hg_ hnew_; (first | rw [← Ny729.out] at ho55 | (simp only [Int.reduceToNat] at ho55; rw [← Ny729.out] at ho55)); have n0_ := Aside0.mk (Kd.N_elder' (by (with_reducible repeat (first | apply Kd.N_alloc | apply Kd.N_drewN | apply Kd.N_drew)); exact HO686.out) (Kd.R_base ho55) hb); have n1_ := Aside0.mk (Kd.R_below (by (with_reducible repeat (first | apply Kd.R_alloc | apply Kd.R_drewN | apply Kd.R_drew)); exact HO689.out) hb); have n2_ := Aside0.mk (Kd.N_elder' (by (with_reducible repeat (first | apply Kd.N_alloc | apply Kd.N_drewN | apply Kd.N_drew)); exact HO699.out) (Kd.R_base ho55) hb); have n3_ := Aside0.mk (Kd.R_elder' (by (with_reducible repeat (first | apply Kd.R_alloc | apply Kd.R_drewN | apply Kd.R_drew)); exact HO703.out) (Kd.R_base ho55) hb); have n4_ := Aside0.mk (Kd.R_below (by (with_reducible repeat (first | apply Kd.R_alloc | apply Kd.R_drewN | apply Kd.R_drew)); exact HO707.out) hb); have n5_ := Aside0.mk (Kd.N_elder' (by (with_reducible repeat (first | apply Kd.N_alloc | apply Kd.N_drewN | apply Kd.N_drew)); exact HO720.out) (Kd.R_base ho55) hb); have n6_ := Aside0.mk (Kd.R_below (by (with_reducible repeat (first | apply Kd.R_alloc | apply Kd.R_drewN | apply Kd.R_drew)); exact HO723.out) hb); have n7_ := Aside0.mk (Kd.R_below (by (with_reducible repeat (first | apply Kd.R_alloc | apply Kd.R_drewN | apply Kd.R_drew)); exact HO727.out) hb); have n8_ := Aside0.mk (Kd.R_lower (Kd.R_new' ho55 (Kd.R_lt (by (with_reducible repeat (first | apply Kd.R_alloc | apply Kd.R_drewN | apply Kd.R_drew)); exact HO703.out))) (below_size (by repeat (first | (with_reducible first | exact HB.out | apply below_alloc | apply pw_below_drewN | apply below_drew1 | refine below_set ?_ GE700.out) | exact HB.out)))); have n9_ := Aside0.mk (blk_below (g := gb700) (o := .cells #[.slice Ao31 y697.length co31] 24 (0, 0)) (by (with_reducible repeat (first | refine blk_drewN ?_ _ | refine blk_drew ?_ | refine blk_alloc ?_ _)); exact BK700.out) hb); have n10_ := Aside0.mk (below_step (by repeat (first | (with_reducible first | exact HB.out | apply below_alloc | apply pw_below_drewN | apply below_drew1 | refine below_set ?_ GE700.out) | exact HB.out)) hb); clear HO686; clear HO689; clear HO699; clear HO703; clear HO707; clear HO720; clear HO723; clear HO727; clear BK700; clear HB; have HO686 := n0_; have HO689 := n1_; have HO699 := n2_; have HO703 := n3_; have HO707 := n4_; have HO720 := n5_; have HO723 := n6_; have HO727 := n7_; have HO731 := n8_; have BK700 := n9_; have HB := n10_; clear n0_ n1_ n2_ n3_ n4_ n5_ n6_ n7_ n8_ n9_ n10_; clear hb ho55; obtain ⟨Ao56, co56, eo56⟩ := Kd.R_slice HO703.out; subst eo56; obtain ⟨Ao57, co57, eo57⟩ := Kd.R_slice HO731.out; subst eo57) | (go_at_call 38; (with_reducible refine (mizmazeref03_Pairs.calls k _ _ t701 _ _ y729 true _ ?side1 ?side2 ?side3 ?side4 A9.out).mono ?_); (case side1 => repeat (first | exact (Kd.R_reads' HO703.out).2.2 | (with_reducible refine Kd.C_alloc ?_ _) | (with_reducible refine Kd.C_drewN ?_ _) | (with_reducible refine Kd.C_drew ?_))); (case side2 => exact (Kd.R_reads' HO703.out).2.1); (case side3 => repeat (first | exact (Kd.R_reads' HO731.out).2.2 | (with_reducible refine Kd.C_alloc ?_ _) | (with_reducible refine Kd.C_drewN ?_ _) | (with_reducible refine Kd.C_drew ?_))); (case side4 => exact (Kd.R_reads' HO731.out).2.1); rintro e w' ⟨rfl, ⟨nd, rfl⟩⟩; obtain ⟨Ao58, co58, eo58⟩ := Kd.R_slice HO723.out; subst eo58))
              go_ret
              exact ⟨by first | rfl | (simp [errW_none, errW_some] <;> rfl) | (simp [*, errW_none, errW_some] <;> rfl), by repeat (first | (with_reducible first | exact HB.out | apply below_alloc | apply pw_below_drewN | apply below_drew1 | refine below_set ?_ GE700.out) | exact HB.out)⟩
            · rw [if_neg c12] at H
              exact absurd H (by simp)
          · rw [if_neg c11] at H
            exact absurd H (by simp)
        · replace c10 := Bool.eq_false_iff.mpr c10
          subst c10
          have H1 : (none) = some r := by rw [if_neg (show ¬ (false = true) by decide)] at H; exact H
          clear H
          have H := H1
          clear H1
          exact absurd H (by simp)
      · rw [if_neg c8] at H
        exact absurd H (by simp)
    · replace c7 := Bool.eq_false_iff.mpr c7
      subst c7
      have H1 : (none) = some r := by rw [if_neg (show ¬ (false = true) by decide)] at H; exact H
      clear H
      have H := H1
      clear H1
      exact absurd H (by simp)
  · rw [if_neg c5] at H
    exact absurd H (by simp)

end Go.Proofs.Ytogoppejcmaocaa.Q
end
/-! Part QLaw03ResetMerged -/
section
-- Written by xprint.py, a program of this session's, over the kit's print. Lean checks it.
namespace Go.Proofs.Ytogoppejcmaocaa.Q
open Go.RowKit Go.Proofs.YtogoppejcmaocaaW.PrintWords Go.Proofs.YtogoppejcmaocaaW.PrintLast Go.Proofs.YtogoppejcmaocaaW.PrintMore
attribute [local go_sem] max2_int min2_int max_two min_two max_three min_three max_four min_four
set_option linter.unusedVariables false
set_option linter.unusedSimpArgs false

/-! ### mizmazelaw03_ResetMerged: function 12 -/
mutual
def mizmazelaw03_ResetMerged.j0 : Nat → Int → Int → List Int → Bool → List (List Int) → Option (Bool)
  | 0, _, _, _, _, _ => none
  | k + 1, x1, x2, x3, x40, x868000 => if x40 = true then ((mizmazelaw03_awake.f k).bind fun t872 => (some t872)) else ((reset_Merge.f k x868000 x1 x2).bind fun bt873 => (if bt873.2 = 0 then ((auto_Run.f k x868000 x1 bt873.1).bind fun bt877 => ((auto_Run.f k x868000 x2 bt873.1).bind fun bt879 => (if bt877.2 = 0 then (if bt879.2 = 0 then (if bt877.1 = bt879.1 then (mizmazelaw03_ResetMerged.j1 k x1 x2 x3 bt873.1 bt873.2 x868000) else (some false)) else (some false)) else (some false)))) else (mizmazelaw03_ResetMerged.j1 k x1 x2 x3 bt873.1 bt873.2 x868000)))
def mizmazelaw03_ResetMerged.j1 : Nat → Int → Int → List Int → List Int → Int → List (List Int) → Option (Bool)
  | 0, _, _, _, _, _, _ => none
  | k + 1, x1, x2, x3, x9, x10, x868000 => mizmazelaw03_ResetMerged.l0 k x1 x2 x3 x9 x10 0 x868000
def mizmazelaw03_ResetMerged.l0 : Nat → Int → Int → List Int → List Int → Int → Int → List (List Int) → Option (Bool)
  | 0, _, _, _, _, _, _, _ => none
  | k + 1, x1, x2, x3, x9, x10, x15, x868000 => if x15 ≤ (x3.length : Int) then (mizmazelaw03_ResetMerged.j3 k x1 x2 x3 x9 x10 x15 (decide (x15 ≤ 200)) x868000) else (mizmazelaw03_ResetMerged.j3 k x1 x2 x3 x9 x10 x15 false x868000)
def mizmazelaw03_ResetMerged.j3 : Nat → Int → Int → List Int → List Int → Int → Int → Bool → List (List Int) → Option (Bool)
  | 0, _, _, _, _, _, _, _, _ => none
  | k + 1, x1, x2, x3, x9, x10, x15, x83, x868000 => if x83 = true then (if 0 ≤ x15 then (if x15 ≤ (x3.length : Int) then ((auto_Run.f k x868000 x1 (x3.take (x15 : Int).toNat)).bind fun bt883 => ((auto_Run.f k x868000 x2 (x3.take (x15 : Int).toNat)).bind fun bt886 => (if bt883.2 = 0 then (mizmazelaw03_ResetMerged.j4 k x1 x2 x3 x9 x10 x15 bt883.1 bt886.1 (bt886.2 != 0) x868000) else (mizmazelaw03_ResetMerged.j4 k x1 x2 x3 x9 x10 x15 bt883.1 bt886.1 true x868000)))) else (none)) else (none)) else ((mizmazelaw03_awake.f k).bind fun t881 => (some t881))
def mizmazelaw03_ResetMerged.j4 : Nat → Int → Int → List Int → List Int → Int → Int → Int → Int → Bool → List (List Int) → Option (Bool)
  | 0, _, _, _, _, _, _, _, _, _, _ => none
  | k + 1, x1, x2, x3, x9, x10, x15, x16, x18, x109, x868000 => if x109 = true then (some false) else (if x16 = x18 then (if x10 = 0 then (if x15 < (x9.length : Int) then (some false) else (if x15 = (x9.length : Int) then (if 0 ≤ x15 then (if x15 ≤ (x3.length : Int) then ((mizmazeref01_Before.f k (x3.take (x15 : Int).toNat) x9).bind fun t889 => (if t889 = true then (some false) else (mizmazelaw03_ResetMerged.l0 k x1 x2 x3 x9 x10 (wrap64 (x15 + 1)) x868000))) else (none)) else (none)) else (mizmazelaw03_ResetMerged.l0 k x1 x2 x3 x9 x10 (wrap64 (x15 + 1)) x868000))) else (some false)) else (mizmazelaw03_ResetMerged.l0 k x1 x2 x3 x9 x10 (wrap64 (x15 + 1)) x868000))
end
def mizmazelaw03_ResetMerged.f (k : Nat) (l0_0 : List (List Int)) (a1 : Int) (a2 : Int) (l3 : List Int) : Option (Bool) := (mizmazeref01_Valid.f k l0_0).bind fun t868 => (if t868 = true then ((mizmazeref01_State.f l0_0 a1).bind fun t869 => (if t869 = true then ((mizmazeref01_State.f l0_0 a2).bind fun t870 => (if t870 = true then ((mizmazeref01_Word.f k l0_0 l3).bind fun t871 => (mizmazelaw03_ResetMerged.j0 k a1 a2 l3 (!t871) l0_0)) else (mizmazelaw03_ResetMerged.j0 k a1 a2 l3 true l0_0))) else (mizmazelaw03_ResetMerged.j0 k a1 a2 l3 true l0_0))) else (mizmazelaw03_ResetMerged.j0 k a1 a2 l3 true l0_0))
theorem mizmazelaw03_ResetMerged.mono_l : ∀ k, (∀ y0 y1 y2 y3 y4, LeO (mizmazelaw03_ResetMerged.j0 k y0 y1 y2 y3 y4) (mizmazelaw03_ResetMerged.j0 (k + 1) y0 y1 y2 y3 y4)) ∧ (∀ y0 y1 y2 y3 y4 y5, LeO (mizmazelaw03_ResetMerged.j1 k y0 y1 y2 y3 y4 y5) (mizmazelaw03_ResetMerged.j1 (k + 1) y0 y1 y2 y3 y4 y5)) ∧ (∀ y0 y1 y2 y3 y4 y5 y6, LeO (mizmazelaw03_ResetMerged.l0 k y0 y1 y2 y3 y4 y5 y6) (mizmazelaw03_ResetMerged.l0 (k + 1) y0 y1 y2 y3 y4 y5 y6)) ∧ (∀ y0 y1 y2 y3 y4 y5 y6 y7, LeO (mizmazelaw03_ResetMerged.j3 k y0 y1 y2 y3 y4 y5 y6 y7) (mizmazelaw03_ResetMerged.j3 (k + 1) y0 y1 y2 y3 y4 y5 y6 y7)) ∧ (∀ y0 y1 y2 y3 y4 y5 y6 y7 y8 y9, LeO (mizmazelaw03_ResetMerged.j4 k y0 y1 y2 y3 y4 y5 y6 y7 y8 y9) (mizmazelaw03_ResetMerged.j4 (k + 1) y0 y1 y2 y3 y4 y5 y6 y7 y8 y9))
  | 0 => ⟨fun _ _ _ _ _ r h => by simp [mizmazelaw03_ResetMerged.j0] at h, fun _ _ _ _ _ _ r h => by simp [mizmazelaw03_ResetMerged.j1] at h, fun _ _ _ _ _ _ _ r h => by simp [mizmazelaw03_ResetMerged.l0] at h, fun _ _ _ _ _ _ _ _ r h => by simp [mizmazelaw03_ResetMerged.j3] at h, fun _ _ _ _ _ _ _ _ _ _ r h => by simp [mizmazelaw03_ResetMerged.j4] at h⟩
  | k + 1 => by
    obtain ⟨ih0, ih1, ih2, ih3, ih4⟩ := mizmazelaw03_ResetMerged.mono_l k
    refine ⟨?_, ?_, ?_, ?_, ?_⟩
    · intro y0 y1 y2 y3 y4
      unfold mizmazelaw03_ResetMerged.j0
      repeat' first
      | (with_reducible exact ih0 _ _ _ _ _)
      | (with_reducible exact ih1 _ _ _ _ _ _)
      | (with_reducible exact ih2 _ _ _ _ _ _ _)
      | (with_reducible exact ih3 _ _ _ _ _ _ _ _)
      | (with_reducible exact ih4 _ _ _ _ _ _ _ _ _ _)
      | (with_reducible exact auto_Run.mono _ _ _ _)
      | (with_reducible exact mizmazelaw03_awake.mono _)
      | (with_reducible exact mizmazeref01_Before.mono _ _ _)
      | (with_reducible exact mizmazeref01_Valid.mono _ _)
      | (with_reducible exact mizmazeref01_Word.mono _ _ _)
      | (with_reducible exact reset_Merge.mono _ _ _ _)
      | (with_reducible exact LeO.refl _)
      | (with_reducible exact LeO.none _)
      | (with_reducible refine LeO.ite ?_ ?_)
      | (with_reducible refine LeO.bind ?_ (fun _ => ?_))
      | exact ih0 _ _ _ _ _
      | exact ih1 _ _ _ _ _ _
      | exact ih2 _ _ _ _ _ _ _
      | exact ih3 _ _ _ _ _ _ _ _
      | exact ih4 _ _ _ _ _ _ _ _ _ _
      | exact auto_Run.mono _ _ _ _
      | exact mizmazelaw03_awake.mono _
      | exact mizmazeref01_Before.mono _ _ _
      | exact mizmazeref01_Valid.mono _ _
      | exact mizmazeref01_Word.mono _ _ _
      | exact reset_Merge.mono _ _ _ _
      | exact LeO.none _
      | refine LeO.ite ?_ ?_
      | refine LeO.bind ?_ (fun _ => ?_)
    · intro y0 y1 y2 y3 y4 y5
      unfold mizmazelaw03_ResetMerged.j1
      repeat' first
      | (with_reducible exact ih0 _ _ _ _ _)
      | (with_reducible exact ih1 _ _ _ _ _ _)
      | (with_reducible exact ih2 _ _ _ _ _ _ _)
      | (with_reducible exact ih3 _ _ _ _ _ _ _ _)
      | (with_reducible exact ih4 _ _ _ _ _ _ _ _ _ _)
      | (with_reducible exact auto_Run.mono _ _ _ _)
      | (with_reducible exact mizmazelaw03_awake.mono _)
      | (with_reducible exact mizmazeref01_Before.mono _ _ _)
      | (with_reducible exact mizmazeref01_Valid.mono _ _)
      | (with_reducible exact mizmazeref01_Word.mono _ _ _)
      | (with_reducible exact reset_Merge.mono _ _ _ _)
      | (with_reducible exact LeO.refl _)
      | (with_reducible exact LeO.none _)
      | (with_reducible refine LeO.ite ?_ ?_)
      | (with_reducible refine LeO.bind ?_ (fun _ => ?_))
      | exact ih0 _ _ _ _ _
      | exact ih1 _ _ _ _ _ _
      | exact ih2 _ _ _ _ _ _ _
      | exact ih3 _ _ _ _ _ _ _ _
      | exact ih4 _ _ _ _ _ _ _ _ _ _
      | exact auto_Run.mono _ _ _ _
      | exact mizmazelaw03_awake.mono _
      | exact mizmazeref01_Before.mono _ _ _
      | exact mizmazeref01_Valid.mono _ _
      | exact mizmazeref01_Word.mono _ _ _
      | exact reset_Merge.mono _ _ _ _
      | exact LeO.none _
      | refine LeO.ite ?_ ?_
      | refine LeO.bind ?_ (fun _ => ?_)
    · intro y0 y1 y2 y3 y4 y5 y6
      unfold mizmazelaw03_ResetMerged.l0
      repeat' first
      | (with_reducible exact ih0 _ _ _ _ _)
      | (with_reducible exact ih1 _ _ _ _ _ _)
      | (with_reducible exact ih2 _ _ _ _ _ _ _)
      | (with_reducible exact ih3 _ _ _ _ _ _ _ _)
      | (with_reducible exact ih4 _ _ _ _ _ _ _ _ _ _)
      | (with_reducible exact auto_Run.mono _ _ _ _)
      | (with_reducible exact mizmazelaw03_awake.mono _)
      | (with_reducible exact mizmazeref01_Before.mono _ _ _)
      | (with_reducible exact mizmazeref01_Valid.mono _ _)
      | (with_reducible exact mizmazeref01_Word.mono _ _ _)
      | (with_reducible exact reset_Merge.mono _ _ _ _)
      | (with_reducible exact LeO.refl _)
      | (with_reducible exact LeO.none _)
      | (with_reducible refine LeO.ite ?_ ?_)
      | (with_reducible refine LeO.bind ?_ (fun _ => ?_))
      | exact ih0 _ _ _ _ _
      | exact ih1 _ _ _ _ _ _
      | exact ih2 _ _ _ _ _ _ _
      | exact ih3 _ _ _ _ _ _ _ _
      | exact ih4 _ _ _ _ _ _ _ _ _ _
      | exact auto_Run.mono _ _ _ _
      | exact mizmazelaw03_awake.mono _
      | exact mizmazeref01_Before.mono _ _ _
      | exact mizmazeref01_Valid.mono _ _
      | exact mizmazeref01_Word.mono _ _ _
      | exact reset_Merge.mono _ _ _ _
      | exact LeO.none _
      | refine LeO.ite ?_ ?_
      | refine LeO.bind ?_ (fun _ => ?_)
    · intro y0 y1 y2 y3 y4 y5 y6 y7
      unfold mizmazelaw03_ResetMerged.j3
      repeat' first
      | (with_reducible exact ih0 _ _ _ _ _)
      | (with_reducible exact ih1 _ _ _ _ _ _)
      | (with_reducible exact ih2 _ _ _ _ _ _ _)
      | (with_reducible exact ih3 _ _ _ _ _ _ _ _)
      | (with_reducible exact ih4 _ _ _ _ _ _ _ _ _ _)
      | (with_reducible exact auto_Run.mono _ _ _ _)
      | (with_reducible exact mizmazelaw03_awake.mono _)
      | (with_reducible exact mizmazeref01_Before.mono _ _ _)
      | (with_reducible exact mizmazeref01_Valid.mono _ _)
      | (with_reducible exact mizmazeref01_Word.mono _ _ _)
      | (with_reducible exact reset_Merge.mono _ _ _ _)
      | (with_reducible exact LeO.refl _)
      | (with_reducible exact LeO.none _)
      | (with_reducible refine LeO.ite ?_ ?_)
      | (with_reducible refine LeO.bind ?_ (fun _ => ?_))
      | exact ih0 _ _ _ _ _
      | exact ih1 _ _ _ _ _ _
      | exact ih2 _ _ _ _ _ _ _
      | exact ih3 _ _ _ _ _ _ _ _
      | exact ih4 _ _ _ _ _ _ _ _ _ _
      | exact auto_Run.mono _ _ _ _
      | exact mizmazelaw03_awake.mono _
      | exact mizmazeref01_Before.mono _ _ _
      | exact mizmazeref01_Valid.mono _ _
      | exact mizmazeref01_Word.mono _ _ _
      | exact reset_Merge.mono _ _ _ _
      | exact LeO.none _
      | refine LeO.ite ?_ ?_
      | refine LeO.bind ?_ (fun _ => ?_)
    · intro y0 y1 y2 y3 y4 y5 y6 y7 y8 y9
      unfold mizmazelaw03_ResetMerged.j4
      repeat' first
      | (with_reducible exact ih0 _ _ _ _ _)
      | (with_reducible exact ih1 _ _ _ _ _ _)
      | (with_reducible exact ih2 _ _ _ _ _ _ _)
      | (with_reducible exact ih3 _ _ _ _ _ _ _ _)
      | (with_reducible exact ih4 _ _ _ _ _ _ _ _ _ _)
      | (with_reducible exact auto_Run.mono _ _ _ _)
      | (with_reducible exact mizmazelaw03_awake.mono _)
      | (with_reducible exact mizmazeref01_Before.mono _ _ _)
      | (with_reducible exact mizmazeref01_Valid.mono _ _)
      | (with_reducible exact mizmazeref01_Word.mono _ _ _)
      | (with_reducible exact reset_Merge.mono _ _ _ _)
      | (with_reducible exact LeO.refl _)
      | (with_reducible exact LeO.none _)
      | (with_reducible refine LeO.ite ?_ ?_)
      | (with_reducible refine LeO.bind ?_ (fun _ => ?_))
      | exact ih0 _ _ _ _ _
      | exact ih1 _ _ _ _ _ _
      | exact ih2 _ _ _ _ _ _ _
      | exact ih3 _ _ _ _ _ _ _ _
      | exact ih4 _ _ _ _ _ _ _ _ _ _
      | exact auto_Run.mono _ _ _ _
      | exact mizmazelaw03_awake.mono _
      | exact mizmazeref01_Before.mono _ _ _
      | exact mizmazeref01_Valid.mono _ _
      | exact mizmazeref01_Word.mono _ _ _
      | exact reset_Merge.mono _ _ _ _
      | exact LeO.none _
      | refine LeO.ite ?_ ?_
      | refine LeO.bind ?_ (fun _ => ?_)
theorem mizmazelaw03_ResetMerged.mono : ∀ a0 a1 a2 a3 k, LeO (mizmazelaw03_ResetMerged.f k a0 a1 a2 a3) (mizmazelaw03_ResetMerged.f (k + 1) a0 a1 a2 a3) := by
  intro a0 a1 a2 a3 k
  obtain ⟨ih0, ih1, ih2, ih3, ih4⟩ := mizmazelaw03_ResetMerged.mono_l k
  unfold mizmazelaw03_ResetMerged.f
  repeat' first
      | (with_reducible exact ih0 _ _ _ _ _)
      | (with_reducible exact ih1 _ _ _ _ _ _)
      | (with_reducible exact ih2 _ _ _ _ _ _ _)
      | (with_reducible exact ih3 _ _ _ _ _ _ _ _)
      | (with_reducible exact ih4 _ _ _ _ _ _ _ _ _ _)
      | (with_reducible exact auto_Run.mono _ _ _ _)
      | (with_reducible exact mizmazelaw03_awake.mono _)
      | (with_reducible exact mizmazeref01_Before.mono _ _ _)
      | (with_reducible exact mizmazeref01_Valid.mono _ _)
      | (with_reducible exact mizmazeref01_Word.mono _ _ _)
      | (with_reducible exact reset_Merge.mono _ _ _ _)
      | (with_reducible exact LeO.refl _)
      | (with_reducible exact LeO.none _)
      | (with_reducible refine LeO.ite ?_ ?_)
      | (with_reducible refine LeO.bind ?_ (fun _ => ?_))
      | exact ih0 _ _ _ _ _
      | exact ih1 _ _ _ _ _ _
      | exact ih2 _ _ _ _ _ _ _
      | exact ih3 _ _ _ _ _ _ _ _
      | exact ih4 _ _ _ _ _ _ _ _ _ _
      | exact auto_Run.mono _ _ _ _
      | exact mizmazelaw03_awake.mono _
      | exact mizmazeref01_Before.mono _ _ _
      | exact mizmazeref01_Valid.mono _ _
      | exact mizmazeref01_Word.mono _ _ _
      | exact reset_Merge.mono _ _ _ _
      | exact LeO.none _
      | refine LeO.ite ?_ ?_
      | refine LeO.bind ?_ (fun _ => ?_)
def mizmazelaw03_ResetMerged.T12 : Bool × List (List Nat × List Nat) := (true, [([], []), ([], []), ([], []), ([], []), ([2, 3], [2, 3]), ([0, 1, 4], [0, 1, 4]), ([5], [5]), ([6], [6]), ([6], [6]), ([7, 5, 0, 1, 2, 3, 4, 5, 6, 7], [7]), ([8, 9, 0, 1, 2, 3, 4, 5, 6, 7, 8, 9], [8])])
def mizmazelaw03_ResetMerged.B12 : List Nat := [0, 0, 0, 0, 12, 31, 63, 127, 127, 255, 1023]
theorem mizmazelaw03_ResetMerged.tab12 : rtab .any (opsOf Try.f12 12) = mizmazelaw03_ResetMerged.T12 := by kernel_rfl
theorem mizmazelaw03_ResetMerged.bits12 : waitsOk mizmazelaw03_ResetMerged.T12.2 mizmazelaw03_ResetMerged.B12 = true := by kernel_rfl
def mizmazelaw03_ResetMerged.T13 : Bool × List (List Nat × List Nat) := (true, [([], []), ([], []), ([], []), ([], []), ([2, 3], [2, 3]), ([0, 1, 4], [0, 1, 4]), ([5], [5]), ([6], [6]), ([6], [6]), ([7, 5, 0, 1, 2, 3, 4, 5, 6, 7], [7]), ([8, 9, 0, 1, 2, 3, 4, 5, 6, 7, 8, 9], [8])])
def mizmazelaw03_ResetMerged.B13 : List Nat := [0, 0, 0, 0, 12, 31, 63, 127, 127, 255, 1023]
theorem mizmazelaw03_ResetMerged.tab13 : rtab .any (opsOf Try.f12 13) = mizmazelaw03_ResetMerged.T13 := by kernel_rfl
theorem mizmazelaw03_ResetMerged.bits13 : waitsOk mizmazelaw03_ResetMerged.T13.2 mizmazelaw03_ResetMerged.B13 = true := by kernel_rfl
set_option maxHeartbeats 8000000 in
set_option maxRecDepth 100000 in
theorem mizmazelaw03_ResetMerged.calls (k : Nat) (A0_0 : Option Addr) (c0_0 : Nat) (l0_0 : List (List Int)) (a1 : Int) (a2 : Int) (A3 : Option Addr) (c3 : Nat) (l3 : List Int) (r : Bool) (w : World) (hr0_0 : Kd.C (Kd.slice 3 (Kd.int .i64)) w A0_0 l0_0.length l0_0) (hc0_0 : l0_0.length ≤ c0_0) (hr3 : Kd.C (Kd.int .i64) w A3 l3.length l3) (hc3 : l3.length ≤ c3) (h : mizmazelaw03_ResetMerged.f k l0_0 a1 a2 l3 = some r) :
    Calls Try.prog 12 #[.agg #[.slice A0_0 l0_0.length c0_0], .int .i64 a1, .int .i64 a2, .slice A3 l3.length c3] w fun e w' => e = .returned (.bool r) ∧ Below w.heap.size w w' := by
  have hu24 := Try.underlying24
  have HR0_0 := Aside0.mk hr0_0
  have HC0_0 := Aside0.mk hc0_0
  clear hr0_0 hc0_0
  have HR3 := Aside0.mk hr3
  have HC3 := Aside0.mk hc3
  clear hr3 hc3
  have HB := Aside0.mk (Below.refl w.heap.size w)
  have H : ((mizmazeref01_Valid.f k l0_0).bind fun t868 => (if t868 = true then ((mizmazeref01_State.f l0_0 a1).bind fun t869 => (if t869 = true then ((mizmazeref01_State.f l0_0 a2).bind fun t870 => (if t870 = true then ((mizmazeref01_Word.f k l0_0 l3).bind fun t871 => (mizmazelaw03_ResetMerged.j0 k a1 a2 l3 (!t871) l0_0)) else (mizmazelaw03_ResetMerged.j0 k a1 a2 l3 true l0_0))) else (mizmazelaw03_ResetMerged.j0 k a1 a2 l3 true l0_0))) else (mizmazelaw03_ResetMerged.j0 k a1 a2 l3 true l0_0))) = some r := h
  clear h
  have HC5 := Aside0.mk H
  clear H
  go_enter Try.func12, Try.ntmps12
  go_upto_region 1 with (first | ((with_reducible refine gate_dst (N := 4) rfl ?_); (try (refine gate_guard (by rfl) ?_; dsimp only)); refine box_event ?hg (N := 4) ?hd (cs := #[.slice A0_0 l0_0.length c0_0]) (t := 24) ?hr ?_; (case hd => rfl); (case hg => rfl); (case hr => first | (go_simp; done) | (go_simp; rfl)); intro gb867 hg w6 hbox hb; have n0_ := Aside0.mk (below_step (by repeat (first | (with_reducible first | exact HB.out | apply below_alloc | apply pw_below_drewN | apply below_drew1) | exact HB.out)) hb); have n1_ := Aside0.mk (hbox); have n2_ := Aside0.mk ((by rw [hg]; exact (below_size (by repeat (first | (with_reducible first | exact HB.out | apply below_alloc | apply pw_below_drewN | apply below_drew1) | exact HB.out))) : w.heap.size ≤ gb867)); have n3_ := Aside0.mk ((by rw [hg]; exact (below_size (by repeat (first | (with_reducible first | exact HB.out | apply below_alloc | apply pw_below_drewN | apply below_drew1) | exact HB.out))) : w.heap.size ≤ gb867)); clear HB; have HB := n0_; have BK867 := n1_; have GW867 := n2_; have GE867 := n3_; clear n0_ n1_ n2_ n3_; clear hb hbox hg))
  (try simp only [Act.put, List.setIfInBounds_toArray, List.set_cons_zero, List.set_cons_succ])
  go_cut [40] (fun v40 wc => ∃ (kq : Nat) (x40_4 : Bool), v40 = .bool x40_4 ∧ Aside0 (mizmazelaw03_ResetMerged.j0 kq a1 a2 l3 x40_4 l0_0 = some r) ∧ Aside0 (kq ≤ k) ∧ Aside0 (wc.heap[gb867]? = some (.cells #[(.slice A0_0 l0_0.length c0_0)] 24 (0, 0))) ∧ Aside0 (Below w.heap.size w wc))
  case first =>
    have H := HC5.out
    clear HC5
    replace H := Option.bind_eq_some_iff.mp H
    obtain ⟨t868, A70, H⟩ := H
    replace H : (if t868 = true then ((mizmazeref01_State.f l0_0 a1).bind fun t869 => (if t869 = true then ((mizmazeref01_State.f l0_0 a2).bind fun t870 => (if t870 = true then ((mizmazeref01_Word.f k l0_0 l3).bind fun t871 => (mizmazelaw03_ResetMerged.j0 k a1 a2 l3 (!t871) l0_0)) else (mizmazelaw03_ResetMerged.j0 k a1 a2 l3 true l0_0))) else (mizmazelaw03_ResetMerged.j0 k a1 a2 l3 true l0_0))) else (mizmazelaw03_ResetMerged.j0 k a1 a2 l3 true l0_0)) = some r := H
    have A7 := Aside0.mk A70
    clear A70
    by_cases c8 : t868 = true
    · subst c8
      have H1 : ((mizmazeref01_State.f l0_0 a1).bind fun t869 => (if t869 = true then ((mizmazeref01_State.f l0_0 a2).bind fun t870 => (if t870 = true then ((mizmazeref01_Word.f k l0_0 l3).bind fun t871 => (mizmazelaw03_ResetMerged.j0 k a1 a2 l3 (!t871) l0_0)) else (mizmazelaw03_ResetMerged.j0 k a1 a2 l3 true l0_0))) else (mizmazelaw03_ResetMerged.j0 k a1 a2 l3 true l0_0))) = some r := by rw [if_pos rfl] at H; exact H
      clear H
      have H := H1
      clear H1
      replace H := Option.bind_eq_some_iff.mp H
      obtain ⟨t869, A90, H⟩ := H
      replace H : (if t869 = true then ((mizmazeref01_State.f l0_0 a2).bind fun t870 => (if t870 = true then ((mizmazeref01_Word.f k l0_0 l3).bind fun t871 => (mizmazelaw03_ResetMerged.j0 k a1 a2 l3 (!t871) l0_0)) else (mizmazelaw03_ResetMerged.j0 k a1 a2 l3 true l0_0))) else (mizmazelaw03_ResetMerged.j0 k a1 a2 l3 true l0_0)) = some r := H
      have A9 := Aside0.mk A90
      clear A90
      by_cases c10 : t869 = true
      · subst c10
        have H1 : ((mizmazeref01_State.f l0_0 a2).bind fun t870 => (if t870 = true then ((mizmazeref01_Word.f k l0_0 l3).bind fun t871 => (mizmazelaw03_ResetMerged.j0 k a1 a2 l3 (!t871) l0_0)) else (mizmazelaw03_ResetMerged.j0 k a1 a2 l3 true l0_0))) = some r := by rw [if_pos rfl] at H; exact H
        clear H
        have H := H1
        clear H1
        replace H := Option.bind_eq_some_iff.mp H
        obtain ⟨t870, A110, H⟩ := H
        replace H : (if t870 = true then ((mizmazeref01_Word.f k l0_0 l3).bind fun t871 => (mizmazelaw03_ResetMerged.j0 k a1 a2 l3 (!t871) l0_0)) else (mizmazelaw03_ResetMerged.j0 k a1 a2 l3 true l0_0)) = some r := H
        have A11 := Aside0.mk A110
        clear A110
        by_cases c12 : t870 = true
        · subst c12
          have H1 : ((mizmazeref01_Word.f k l0_0 l3).bind fun t871 => (mizmazelaw03_ResetMerged.j0 k a1 a2 l3 (!t871) l0_0)) = some r := by rw [if_pos rfl] at H; exact H
          clear H
          have H := H1
          clear H1
          replace H := Option.bind_eq_some_iff.mp H
          obtain ⟨t871, A130, H⟩ := H
          replace H : (mizmazelaw03_ResetMerged.j0 k a1 a2 l3 (!t871) l0_0) = some r := H
          have A13 := Aside0.mk A130
          clear A130
          have H' := Aside0.mk H
          clear H
          have hcz14_0 : w6.cell? ⟨gb867, 0, none⟩ = some (.slice A0_0 l0_0.length c0_0) := (blk_cell BK867.out 0).trans rfl
          have hfz14_0 := blk_frozen BK867.out 0
          go_wp2_with (first | ((with_reducible refine gate_callee (f := 16) rfl ?_); refine goesL_ (some 21) rfl rfl Try.func16 (by kernel_rfl) rfl #[.agg #[.slice A0_0 l0_0.length c0_0]] rfl (by (try simp only [List.map_toArray, List.map_cons, List.map_nil]); first | done | rfl | (simp only [List.length_drop, List.length_take]; rfl)) ?_; (with_reducible refine (mizmazeref01_Valid.calls k _ _ l0_0 true _ ?side1 ?side2 A7.out).mono ?_); (case side1 => repeat (first | exact (Kd.C_below HR0_0.out HB.out) | (with_reducible refine Kd.C_alloc ?_ _) | (with_reducible refine Kd.C_drewN ?_ _) | (with_reducible refine Kd.C_drew ?_))); (case side2 => exact HC0_0.out); rintro e w15 ⟨rfl, hb⟩; refine ⟨_, rfl, ?_⟩; have n0_ := Aside0.mk (blk_below (g := gb867) (o := .cells #[.slice A0_0 l0_0.length c0_0] 24 (0, 0)) (by (with_reducible repeat (first | refine blk_drewN ?_ _ | refine blk_drew ?_ | refine blk_alloc ?_ _)); exact BK867.out) hb); have n1_ := Aside0.mk (below_step (by repeat (first | (with_reducible first | exact HB.out | apply below_alloc | apply pw_below_drewN | apply below_drew1 | refine below_set ?_ GE867.out) | exact HB.out)) hb); clear BK867; clear HB; have BK867 := n0_; have HB := n1_; clear n0_ n1_; (try clear hb); (try clear hb2); (try clear hk); (try clear hi); have hcz16_0 : w15.cell? ⟨gb867, 0, none⟩ = some (.slice A0_0 l0_0.length c0_0) := (blk_cell BK867.out 0).trans rfl; have hfz16_0 := blk_frozen BK867.out 0) | (go_at_call 40; (with_reducible refine (mizmazeref01_State.calls _ _ l0_0 a1 true _ ?side1 ?side2 A9.out).mono ?_); (case side1 => repeat (first | exact (Kd.C_below HR0_0.out HB.out) | (with_reducible refine Kd.C_alloc ?_ _) | (with_reducible refine Kd.C_drewN ?_ _) | (with_reducible refine Kd.C_drew ?_))); (case side2 => exact HC0_0.out); rintro e w17 ⟨rfl, hb⟩; have n0_ := Aside0.mk (blk_below (g := gb867) (o := .cells #[.slice A0_0 l0_0.length c0_0] 24 (0, 0)) (by (with_reducible repeat (first | refine blk_drewN ?_ _ | refine blk_drew ?_ | refine blk_alloc ?_ _)); exact BK867.out) hb); have n1_ := Aside0.mk (below_step (by repeat (first | (with_reducible first | exact HB.out | apply below_alloc | apply pw_below_drewN | apply below_drew1 | refine below_set ?_ GE867.out) | exact HB.out)) hb); clear BK867; clear HB; have BK867 := n0_; have HB := n1_; clear n0_ n1_; (try clear hb); (try clear hb2); (try clear hk); (try clear hi); have hcz18_0 : w17.cell? ⟨gb867, 0, none⟩ = some (.slice A0_0 l0_0.length c0_0) := (blk_cell BK867.out 0).trans rfl; have hfz18_0 := blk_frozen BK867.out 0) | (go_at_call 40; (with_reducible refine (mizmazeref01_State.calls _ _ l0_0 a2 true _ ?side1 ?side2 A11.out).mono ?_); (case side1 => repeat (first | exact (Kd.C_below HR0_0.out HB.out) | (with_reducible refine Kd.C_alloc ?_ _) | (with_reducible refine Kd.C_drewN ?_ _) | (with_reducible refine Kd.C_drew ?_))); (case side2 => exact HC0_0.out); rintro e w19 ⟨rfl, hb⟩; have n0_ := Aside0.mk (blk_below (g := gb867) (o := .cells #[.slice A0_0 l0_0.length c0_0] 24 (0, 0)) (by (with_reducible repeat (first | refine blk_drewN ?_ _ | refine blk_drew ?_ | refine blk_alloc ?_ _)); exact BK867.out) hb); have n1_ := Aside0.mk (below_step (by repeat (first | (with_reducible first | exact HB.out | apply below_alloc | apply pw_below_drewN | apply below_drew1 | refine below_set ?_ GE867.out) | exact HB.out)) hb); clear BK867; clear HB; have BK867 := n0_; have HB := n1_; clear n0_ n1_; (try clear hb); (try clear hb2); (try clear hk); (try clear hi); have hcz20_0 : w19.cell? ⟨gb867, 0, none⟩ = some (.slice A0_0 l0_0.length c0_0) := (blk_cell BK867.out 0).trans rfl; have hfz20_0 := blk_frozen BK867.out 0) | (go_at_call 46; (with_reducible refine (mizmazeref01_Word.calls k _ _ l0_0 _ _ l3 t871 _ ?side1 ?side2 ?side3 ?side4 A13.out).mono ?_); (case side1 => repeat (first | exact (Kd.C_below HR0_0.out HB.out) | (with_reducible refine Kd.C_alloc ?_ _) | (with_reducible refine Kd.C_drewN ?_ _) | (with_reducible refine Kd.C_drew ?_))); (case side2 => exact HC0_0.out); (case side3 => repeat (first | exact (Kd.C_below HR3.out HB.out) | (with_reducible refine Kd.C_alloc ?_ _) | (with_reducible refine Kd.C_drewN ?_ _) | (with_reducible refine Kd.C_drew ?_))); (case side4 => exact HC3.out); rintro e w21 ⟨rfl, hb⟩; have n0_ := Aside0.mk (blk_below (g := gb867) (o := .cells #[.slice A0_0 l0_0.length c0_0] 24 (0, 0)) (by (with_reducible repeat (first | refine blk_drewN ?_ _ | refine blk_drew ?_ | refine blk_alloc ?_ _)); exact BK867.out) hb); have n1_ := Aside0.mk (below_step (by repeat (first | (with_reducible first | exact HB.out | apply below_alloc | apply pw_below_drewN | apply below_drew1 | refine below_set ?_ GE867.out) | exact HB.out)) hb); clear BK867; clear HB; have BK867 := n0_; have HB := n1_; clear n0_ n1_; (try clear hb); (try clear hb2); (try clear hk); (try clear hi)))
          go_meet
          case rel => exact ⟨_, (!t871), (by first | rfl | (simp; done) | (simp [*]; done)), H', ⟨by first | omega | exact Nat.le_refl _⟩, ⟨by (with_reducible repeat (first | refine blk_drewN ?_ _ | refine blk_drew ?_ | refine blk_alloc ?_ _)); exact BK867.out⟩, ⟨by repeat (first | (with_reducible first | exact HB.out | apply below_alloc | apply pw_below_drewN | apply below_drew1 | refine below_set ?_ GE867.out) | exact HB.out)⟩⟩
        · replace c12 := Bool.eq_false_iff.mpr c12
          subst c12
          have H1 : (mizmazelaw03_ResetMerged.j0 k a1 a2 l3 true l0_0) = some r := by rw [if_neg (show ¬ (false = true) by decide)] at H; exact H
          clear H
          have H := H1
          clear H1
          have H' := Aside0.mk H
          clear H
          have hcz22_0 : w6.cell? ⟨gb867, 0, none⟩ = some (.slice A0_0 l0_0.length c0_0) := (blk_cell BK867.out 0).trans rfl
          have hfz22_0 := blk_frozen BK867.out 0
          go_wp2_with (first | ((with_reducible refine gate_callee (f := 16) rfl ?_); refine goesL_ (some 21) rfl rfl Try.func16 (by kernel_rfl) rfl #[.agg #[.slice A0_0 l0_0.length c0_0]] rfl (by (try simp only [List.map_toArray, List.map_cons, List.map_nil]); first | done | rfl | (simp only [List.length_drop, List.length_take]; rfl)) ?_; (with_reducible refine (mizmazeref01_Valid.calls k _ _ l0_0 true _ ?side1 ?side2 A7.out).mono ?_); (case side1 => repeat (first | exact (Kd.C_below HR0_0.out HB.out) | (with_reducible refine Kd.C_alloc ?_ _) | (with_reducible refine Kd.C_drewN ?_ _) | (with_reducible refine Kd.C_drew ?_))); (case side2 => exact HC0_0.out); rintro e w23 ⟨rfl, hb⟩; refine ⟨_, rfl, ?_⟩; have n0_ := Aside0.mk (blk_below (g := gb867) (o := .cells #[.slice A0_0 l0_0.length c0_0] 24 (0, 0)) (by (with_reducible repeat (first | refine blk_drewN ?_ _ | refine blk_drew ?_ | refine blk_alloc ?_ _)); exact BK867.out) hb); have n1_ := Aside0.mk (below_step (by repeat (first | (with_reducible first | exact HB.out | apply below_alloc | apply pw_below_drewN | apply below_drew1 | refine below_set ?_ GE867.out) | exact HB.out)) hb); clear BK867; clear HB; have BK867 := n0_; have HB := n1_; clear n0_ n1_; (try clear hb); (try clear hb2); (try clear hk); (try clear hi); have hcz24_0 : w23.cell? ⟨gb867, 0, none⟩ = some (.slice A0_0 l0_0.length c0_0) := (blk_cell BK867.out 0).trans rfl; have hfz24_0 := blk_frozen BK867.out 0) | (go_at_call 40; (with_reducible refine (mizmazeref01_State.calls _ _ l0_0 a1 true _ ?side1 ?side2 A9.out).mono ?_); (case side1 => repeat (first | exact (Kd.C_below HR0_0.out HB.out) | (with_reducible refine Kd.C_alloc ?_ _) | (with_reducible refine Kd.C_drewN ?_ _) | (with_reducible refine Kd.C_drew ?_))); (case side2 => exact HC0_0.out); rintro e w25 ⟨rfl, hb⟩; have n0_ := Aside0.mk (blk_below (g := gb867) (o := .cells #[.slice A0_0 l0_0.length c0_0] 24 (0, 0)) (by (with_reducible repeat (first | refine blk_drewN ?_ _ | refine blk_drew ?_ | refine blk_alloc ?_ _)); exact BK867.out) hb); have n1_ := Aside0.mk (below_step (by repeat (first | (with_reducible first | exact HB.out | apply below_alloc | apply pw_below_drewN | apply below_drew1 | refine below_set ?_ GE867.out) | exact HB.out)) hb); clear BK867; clear HB; have BK867 := n0_; have HB := n1_; clear n0_ n1_; (try clear hb); (try clear hb2); (try clear hk); (try clear hi); have hcz26_0 : w25.cell? ⟨gb867, 0, none⟩ = some (.slice A0_0 l0_0.length c0_0) := (blk_cell BK867.out 0).trans rfl; have hfz26_0 := blk_frozen BK867.out 0) | (go_at_call 40; (with_reducible refine (mizmazeref01_State.calls _ _ l0_0 a2 false _ ?side1 ?side2 A11.out).mono ?_); (case side1 => repeat (first | exact (Kd.C_below HR0_0.out HB.out) | (with_reducible refine Kd.C_alloc ?_ _) | (with_reducible refine Kd.C_drewN ?_ _) | (with_reducible refine Kd.C_drew ?_))); (case side2 => exact HC0_0.out); rintro e w27 ⟨rfl, hb⟩; have n0_ := Aside0.mk (blk_below (g := gb867) (o := .cells #[.slice A0_0 l0_0.length c0_0] 24 (0, 0)) (by (with_reducible repeat (first | refine blk_drewN ?_ _ | refine blk_drew ?_ | refine blk_alloc ?_ _)); exact BK867.out) hb); have n1_ := Aside0.mk (below_step (by repeat (first | (with_reducible first | exact HB.out | apply below_alloc | apply pw_below_drewN | apply below_drew1 | refine below_set ?_ GE867.out) | exact HB.out)) hb); clear BK867; clear HB; have BK867 := n0_; have HB := n1_; clear n0_ n1_; (try clear hb); (try clear hb2); (try clear hk); (try clear hi)))
          go_meet
          case rel => exact ⟨_, (true), (by first | rfl | (simp; done) | (simp [*]; done)), H', ⟨by first | omega | exact Nat.le_refl _⟩, ⟨by (with_reducible repeat (first | refine blk_drewN ?_ _ | refine blk_drew ?_ | refine blk_alloc ?_ _)); exact BK867.out⟩, ⟨by repeat (first | (with_reducible first | exact HB.out | apply below_alloc | apply pw_below_drewN | apply below_drew1 | refine below_set ?_ GE867.out) | exact HB.out)⟩⟩
      · replace c10 := Bool.eq_false_iff.mpr c10
        subst c10
        have H1 : (mizmazelaw03_ResetMerged.j0 k a1 a2 l3 true l0_0) = some r := by rw [if_neg (show ¬ (false = true) by decide)] at H; exact H
        clear H
        have H := H1
        clear H1
        have H' := Aside0.mk H
        clear H
        have hcz28_0 : w6.cell? ⟨gb867, 0, none⟩ = some (.slice A0_0 l0_0.length c0_0) := (blk_cell BK867.out 0).trans rfl
        have hfz28_0 := blk_frozen BK867.out 0
        go_wp2_with (first | ((with_reducible refine gate_callee (f := 16) rfl ?_); refine goesL_ (some 21) rfl rfl Try.func16 (by kernel_rfl) rfl #[.agg #[.slice A0_0 l0_0.length c0_0]] rfl (by (try simp only [List.map_toArray, List.map_cons, List.map_nil]); first | done | rfl | (simp only [List.length_drop, List.length_take]; rfl)) ?_; (with_reducible refine (mizmazeref01_Valid.calls k _ _ l0_0 true _ ?side1 ?side2 A7.out).mono ?_); (case side1 => repeat (first | exact (Kd.C_below HR0_0.out HB.out) | (with_reducible refine Kd.C_alloc ?_ _) | (with_reducible refine Kd.C_drewN ?_ _) | (with_reducible refine Kd.C_drew ?_))); (case side2 => exact HC0_0.out); rintro e w29 ⟨rfl, hb⟩; refine ⟨_, rfl, ?_⟩; have n0_ := Aside0.mk (blk_below (g := gb867) (o := .cells #[.slice A0_0 l0_0.length c0_0] 24 (0, 0)) (by (with_reducible repeat (first | refine blk_drewN ?_ _ | refine blk_drew ?_ | refine blk_alloc ?_ _)); exact BK867.out) hb); have n1_ := Aside0.mk (below_step (by repeat (first | (with_reducible first | exact HB.out | apply below_alloc | apply pw_below_drewN | apply below_drew1 | refine below_set ?_ GE867.out) | exact HB.out)) hb); clear BK867; clear HB; have BK867 := n0_; have HB := n1_; clear n0_ n1_; (try clear hb); (try clear hb2); (try clear hk); (try clear hi); have hcz30_0 : w29.cell? ⟨gb867, 0, none⟩ = some (.slice A0_0 l0_0.length c0_0) := (blk_cell BK867.out 0).trans rfl; have hfz30_0 := blk_frozen BK867.out 0) | (go_at_call 40; (with_reducible refine (mizmazeref01_State.calls _ _ l0_0 a1 false _ ?side1 ?side2 A9.out).mono ?_); (case side1 => repeat (first | exact (Kd.C_below HR0_0.out HB.out) | (with_reducible refine Kd.C_alloc ?_ _) | (with_reducible refine Kd.C_drewN ?_ _) | (with_reducible refine Kd.C_drew ?_))); (case side2 => exact HC0_0.out); rintro e w31 ⟨rfl, hb⟩; have n0_ := Aside0.mk (blk_below (g := gb867) (o := .cells #[.slice A0_0 l0_0.length c0_0] 24 (0, 0)) (by (with_reducible repeat (first | refine blk_drewN ?_ _ | refine blk_drew ?_ | refine blk_alloc ?_ _)); exact BK867.out) hb); have n1_ := Aside0.mk (below_step (by repeat (first | (with_reducible first | exact HB.out | apply below_alloc | apply pw_below_drewN | apply below_drew1 | refine below_set ?_ GE867.out) | exact HB.out)) hb); clear BK867; clear HB; have BK867 := n0_; have HB := n1_; clear n0_ n1_; (try clear hb); (try clear hb2); (try clear hk); (try clear hi)))
        go_meet
        case rel => exact ⟨_, (true), (by first | rfl | (simp; done) | (simp [*]; done)), H', ⟨by first | omega | exact Nat.le_refl _⟩, ⟨by (with_reducible repeat (first | refine blk_drewN ?_ _ | refine blk_drew ?_ | refine blk_alloc ?_ _)); exact BK867.out⟩, ⟨by repeat (first | (with_reducible first | exact HB.out | apply below_alloc | apply pw_below_drewN | apply below_drew1 | refine below_set ?_ GE867.out) | exact HB.out)⟩⟩
    · replace c8 := Bool.eq_false_iff.mpr c8
      subst c8
      have H1 : (mizmazelaw03_ResetMerged.j0 k a1 a2 l3 true l0_0) = some r := by rw [if_neg (show ¬ (false = true) by decide)] at H; exact H
      clear H
      have H := H1
      clear H1
      have H' := Aside0.mk H
      clear H
      have hcz32_0 : w6.cell? ⟨gb867, 0, none⟩ = some (.slice A0_0 l0_0.length c0_0) := (blk_cell BK867.out 0).trans rfl
      have hfz32_0 := blk_frozen BK867.out 0
      go_wp2_with (first | ((with_reducible refine gate_callee (f := 16) rfl ?_); refine goesL_ (some 21) rfl rfl Try.func16 (by kernel_rfl) rfl #[.agg #[.slice A0_0 l0_0.length c0_0]] rfl (by (try simp only [List.map_toArray, List.map_cons, List.map_nil]); first | done | rfl | (simp only [List.length_drop, List.length_take]; rfl)) ?_; (with_reducible refine (mizmazeref01_Valid.calls k _ _ l0_0 false _ ?side1 ?side2 A7.out).mono ?_); (case side1 => repeat (first | exact (Kd.C_below HR0_0.out HB.out) | (with_reducible refine Kd.C_alloc ?_ _) | (with_reducible refine Kd.C_drewN ?_ _) | (with_reducible refine Kd.C_drew ?_))); (case side2 => exact HC0_0.out); rintro e w33 ⟨rfl, hb⟩; refine ⟨_, rfl, ?_⟩; have n0_ := Aside0.mk (blk_below (g := gb867) (o := .cells #[.slice A0_0 l0_0.length c0_0] 24 (0, 0)) (by (with_reducible repeat (first | refine blk_drewN ?_ _ | refine blk_drew ?_ | refine blk_alloc ?_ _)); exact BK867.out) hb); have n1_ := Aside0.mk (below_step (by repeat (first | (with_reducible first | exact HB.out | apply below_alloc | apply pw_below_drewN | apply below_drew1 | refine below_set ?_ GE867.out) | exact HB.out)) hb); clear BK867; clear HB; have BK867 := n0_; have HB := n1_; clear n0_ n1_; (try clear hb); (try clear hb2); (try clear hk); (try clear hi)))
      go_meet
      case rel => exact ⟨_, (true), (by first | rfl | (simp; done) | (simp [*]; done)), H', ⟨by first | omega | exact Nat.le_refl _⟩, ⟨by (with_reducible repeat (first | refine blk_drewN ?_ _ | refine blk_drew ?_ | refine blk_alloc ?_ _)); exact BK867.out⟩, ⟨by repeat (first | (with_reducible first | exact HB.out | apply below_alloc | apply pw_below_drewN | apply below_drew1 | refine below_set ?_ GE867.out) | exact HB.out)⟩⟩
  case rest =>
    clear HC5
    try clear c1
    try clear p2
    try clear c3
    try clear c8
    try clear c10
    try clear c12
    try clear c16
    try clear hcz14_0
    try clear hcz16_0
    try clear hcz18_0
    try clear hcz20_0
    try clear hcz22_0
    try clear hcz24_0
    try clear hcz26_0
    try clear hcz28_0
    try clear hcz30_0
    try clear hcz32_0
    try clear hfz14_0
    try clear hfz16_0
    try clear hfz18_0
    try clear hfz20_0
    try clear hfz22_0
    try clear hfz24_0
    try clear hfz26_0
    try clear hfz28_0
    try clear hfz30_0
    try clear hfz32_0
    obtain ⟨kq, x40_4, rfl, HA, HJ4, BK867, HB⟩ := hcut
    cases kq with
    | zero => exact absurd HA.out (by simp [mizmazelaw03_ResetMerged.j0])
    | succ kj4 =>
      have H := HA.out
      clear HA
      simp only [mizmazelaw03_ResetMerged.j0] at H
      by_cases c34 : x40_4 = true
      · subst c34
        have H1 : ((mizmazelaw03_awake.f kj4).bind fun t872 => (some t872)) = some r := by rw [if_pos rfl] at H; exact H
        clear H
        have H := H1
        clear H1
        replace H := Option.bind_eq_some_iff.mp H
        obtain ⟨t872, A350, H⟩ := H
        replace H : (some t872) = some r := H
        have A35 := Aside0.mk A350
        clear A350
        obtain rfl := Option.some.inj H
        go_wp2_with (first | ((with_reducible refine gate_callee (f := 37) rfl ?_); refine goesL_ (some 41) rfl rfl Try.func37 (by kernel_rfl) rfl #[] rfl (by (try simp only [List.map_toArray, List.map_cons, List.map_nil]); first | done | rfl | (simp only [List.length_drop, List.length_take]; rfl)) ?_; (with_reducible refine (mizmazelaw03_awake.calls kj4  t872 _ A35.out).mono ?_); rintro e w36 ⟨rfl, hb⟩; refine ⟨_, rfl, ?_⟩; have n0_ := Aside0.mk (blk_below (g := gb867) (o := .cells #[.slice A0_0 l0_0.length c0_0] 24 (0, 0)) (by (with_reducible repeat (first | refine blk_drewN ?_ _ | refine blk_drew ?_ | refine blk_alloc ?_ _)); exact BK867.out) hb); have n1_ := Aside0.mk (below_step (by repeat (first | (with_reducible first | exact HB.out | apply below_alloc | apply pw_below_drewN | apply below_drew1 | refine below_set ?_ GE867.out) | exact HB.out)) hb); clear BK867; clear HB; have BK867 := n0_; have HB := n1_; clear n0_ n1_; (try clear hb); (try clear hb2); (try clear hk); (try clear hi)))
        go_ret
        exact ⟨by first | rfl | (simp [errW_none, errW_some] <;> rfl) | (simp [*, errW_none, errW_some] <;> rfl), by repeat (first | (with_reducible first | exact HB.out | apply below_alloc | apply pw_below_drewN | apply below_drew1 | refine below_set ?_ GE867.out) | exact HB.out)⟩
      · replace c34 := Bool.eq_false_iff.mpr c34
        subst c34
        have H1 : ((reset_Merge.f kj4 l0_0 a1 a2).bind fun bt873 => (if bt873.2 = 0 then ((auto_Run.f kj4 l0_0 a1 bt873.1).bind fun bt877 => ((auto_Run.f kj4 l0_0 a2 bt873.1).bind fun bt879 => (if bt877.2 = 0 then (if bt879.2 = 0 then (if bt877.1 = bt879.1 then (mizmazelaw03_ResetMerged.j1 kj4 a1 a2 l3 bt873.1 bt873.2 l0_0) else (some false)) else (some false)) else (some false)))) else (mizmazelaw03_ResetMerged.j1 kj4 a1 a2 l3 bt873.1 bt873.2 l0_0))) = some r := by rw [if_neg (show ¬ (false = true) by decide)] at H; exact H
        clear H
        have H := H1
        clear H1
        replace H := Option.bind_eq_some_iff.mp H
        obtain ⟨⟨t873, t876⟩, A370, H⟩ := H
        replace H : (if t876 = 0 then ((auto_Run.f kj4 l0_0 a1 t873).bind fun bt877 => ((auto_Run.f kj4 l0_0 a2 t873).bind fun bt879 => (if bt877.2 = 0 then (if bt879.2 = 0 then (if bt877.1 = bt879.1 then (mizmazelaw03_ResetMerged.j1 kj4 a1 a2 l3 t873 t876 l0_0) else (some false)) else (some false)) else (some false)))) else (mizmazelaw03_ResetMerged.j1 kj4 a1 a2 l3 t873 t876 l0_0)) = some r := H
        have A37 := Aside0.mk A370
        clear A370
        have HC38 := Aside0.mk H
        clear H
        have hcz39_0 : wc.cell? ⟨gb867, 0, none⟩ = some (.slice A0_0 l0_0.length c0_0) := (blk_cell BK867.out 0).trans rfl
        have hfz39_0 := blk_frozen BK867.out 0
        go_upto_if 50 with (first | ((with_reducible refine gate_callee (f := 36) rfl ?_); refine goesL_ (some 46) rfl rfl Try.func36 (by kernel_rfl) rfl #[.agg #[.slice A0_0 l0_0.length c0_0], .int .i64 a1, .int .i64 a2] rfl (by (try simp only [List.map_toArray, List.map_cons, List.map_nil]); first | done | rfl | (simp only [List.length_drop, List.length_take]; rfl)) ?_; (with_reducible refine (reset_Merge.calls kj4 _ _ l0_0 a1 a2 t873 t876 _ ?side1 ?side2 A37.out).mono ?_); (case side1 => repeat (first | exact (Kd.C_below HR0_0.out HB.out) | (with_reducible refine Kd.C_alloc ?_ _) | (with_reducible refine Kd.C_drewN ?_ _) | (with_reducible refine Kd.C_drew ?_))); (case side2 => exact HC0_0.out); rintro e w40 ⟨v874, rfl, ho0, hb⟩; refine ⟨_, rfl, ?_⟩; have n0_ := Aside0.mk (Kd.R_lower ho0 (below_size (by repeat (first | (with_reducible first | exact HB.out | apply below_alloc | apply pw_below_drewN | apply below_drew1 | refine below_set ?_ GE867.out) | exact HB.out)))); have n1_ := Aside0.mk (blk_below (g := gb867) (o := .cells #[.slice A0_0 l0_0.length c0_0] 24 (0, 0)) (by (with_reducible repeat (first | refine blk_drewN ?_ _ | refine blk_drew ?_ | refine blk_alloc ?_ _)); exact BK867.out) hb); have n2_ := Aside0.mk (below_step (by repeat (first | (with_reducible first | exact HB.out | apply below_alloc | apply pw_below_drewN | apply below_drew1 | refine below_set ?_ GE867.out) | exact HB.out)) hb); clear BK867; clear HB; have HO875 := n0_; have BK867 := n1_; have HB := n2_; clear n0_ n1_ n2_; (try clear hb); (try clear hb2); (try clear hk); (try clear hi); (try clear ho0)))
        (try simp only [Act.put, List.setIfInBounds_toArray, List.set_cons_zero, List.set_cons_succ])
        go_cut [] (fun wc => ∃ (kq : Nat), Aside0 (mizmazelaw03_ResetMerged.j1 kq a1 a2 l3 t873 t876 l0_0 = some r) ∧ Aside0 (kq ≤ kj4) ∧ Aside0 (Kd.R (Kd.int .i64) 3 wc w.heap.size (fun _ => True) v874 t873) ∧ Aside0 (wc.heap[gb867]? = some (.cells #[(.slice A0_0 l0_0.length c0_0)] 24 (0, 0))) ∧ Aside0 (Below w.heap.size w wc))
        case first =>
          have H := HC38.out
          clear HC38
          by_cases c41 : t876 = 0
          · rw [if_pos c41] at H
            have c41b0 : (t876 == 0) = true := beq_iff_eq.mpr c41
            have c41b1 : (t876 != 0) = false := bne_eq_false_iff_eq.mpr c41
            clear c41
            (first | rw [c41b0] | (simp only [i64_w, i32_w]; rw [c41b0]) | skip)
            replace H := Option.bind_eq_some_iff.mp H
            obtain ⟨⟨t877, t878⟩, A420, H⟩ := H
            replace H : ((auto_Run.f kj4 l0_0 a2 t873).bind fun bt879 => (if t878 = 0 then (if bt879.2 = 0 then (if t877 = bt879.1 then (mizmazelaw03_ResetMerged.j1 kj4 a1 a2 l3 t873 t876 l0_0) else (some false)) else (some false)) else (some false))) = some r := H
            have A42 := Aside0.mk A420
            clear A420
            replace H := Option.bind_eq_some_iff.mp H
            obtain ⟨⟨t879, t880⟩, A430, H⟩ := H
            replace H : (if t878 = 0 then (if t880 = 0 then (if t877 = t879 then (mizmazelaw03_ResetMerged.j1 kj4 a1 a2 l3 t873 t876 l0_0) else (some false)) else (some false)) else (some false)) = some r := H
            have A43 := Aside0.mk A430
            clear A430
            by_cases c44 : t878 = 0
            · rw [if_pos c44] at H
              have c44b0 : (t878 == 0) = true := beq_iff_eq.mpr c44
              have c44b1 : (t878 != 0) = false := bne_eq_false_iff_eq.mpr c44
              clear c44
              by_cases c45 : t880 = 0
              · rw [if_pos c45] at H
                have c45b0 : (t880 == 0) = true := beq_iff_eq.mpr c45
                have c45b1 : (t880 != 0) = false := bne_eq_false_iff_eq.mpr c45
                clear c45
                by_cases c46 : t877 = t879
                · rw [if_pos c46] at H
                  have c46b0 : (t877 == t879) = true := beq_iff_eq.mpr c46
                  have c46b1 : (t877 != t879) = false := bne_eq_false_iff_eq.mpr c46
                  clear c46
                  have H' := Aside0.mk H
                  clear H
                  have hcz47_0 : w40.cell? ⟨gb867, 0, none⟩ = some (.slice A0_0 l0_0.length c0_0) := (blk_cell BK867.out 0).trans rfl
                  have hfz47_0 := blk_frozen BK867.out 0
                  obtain ⟨Ao48, co48, eo48⟩ := Kd.R_slice HO875.out
                  subst eo48
                  go_wp2_with (first | ((with_reducible refine gate_callee (f := 50) rfl ?_); refine goesL_ (some 55) rfl rfl Try.func50 (by kernel_rfl) rfl #[.agg #[.slice A0_0 l0_0.length c0_0], .int .i64 a1, .slice Ao48 t873.length co48] rfl (by (try simp only [List.map_toArray, List.map_cons, List.map_nil]); first | done | rfl | (simp only [List.length_drop, List.length_take]; rfl)) ?_; (with_reducible refine (auto_Run.calls kj4 _ _ l0_0 a1 _ _ t873 t877 t878 _ ?side1 ?side2 ?side3 ?side4 A42.out).mono ?_); (case side1 => repeat (first | exact (Kd.C_below HR0_0.out HB.out) | (with_reducible refine Kd.C_alloc ?_ _) | (with_reducible refine Kd.C_drewN ?_ _) | (with_reducible refine Kd.C_drew ?_))); (case side2 => exact HC0_0.out); (case side3 => repeat (first | exact (Kd.R_reads' HO875.out).2.2 | (with_reducible refine Kd.C_alloc ?_ _) | (with_reducible refine Kd.C_drewN ?_ _) | (with_reducible refine Kd.C_drew ?_))); (case side4 => exact (Kd.R_reads' HO875.out).2.1); rintro e w49 ⟨rfl, hb⟩; refine ⟨_, rfl, ?_⟩; have n0_ := Aside0.mk (Kd.R_below (by (with_reducible repeat (first | apply Kd.R_alloc | apply Kd.R_drewN | apply Kd.R_drew)); exact HO875.out) hb); have n1_ := Aside0.mk (blk_below (g := gb867) (o := .cells #[.slice A0_0 l0_0.length c0_0] 24 (0, 0)) (by (with_reducible repeat (first | refine blk_drewN ?_ _ | refine blk_drew ?_ | refine blk_alloc ?_ _)); exact BK867.out) hb); have n2_ := Aside0.mk (below_step (by repeat (first | (with_reducible first | exact HB.out | apply below_alloc | apply pw_below_drewN | apply below_drew1 | refine below_set ?_ GE867.out) | exact HB.out)) hb); clear HO875; clear BK867; clear HB; have HO875 := n0_; have BK867 := n1_; have HB := n2_; clear n0_ n1_ n2_; (try clear hb); (try clear hb2); (try clear hk); (try clear hi); have hcz50_0 : w49.cell? ⟨gb867, 0, none⟩ = some (.slice A0_0 l0_0.length c0_0) := (blk_cell BK867.out 0).trans rfl; have hfz50_0 := blk_frozen BK867.out 0) | ((with_reducible refine gate_callee (f := 50) rfl ?_); refine goesL_ (some 62) rfl rfl Try.func50 (by kernel_rfl) rfl #[.agg #[.slice A0_0 l0_0.length c0_0], .int .i64 a2, .slice Ao48 t873.length co48] rfl (by (try simp only [List.map_toArray, List.map_cons, List.map_nil]); first | done | rfl | (simp only [List.length_drop, List.length_take]; rfl)) ?_; (with_reducible refine (auto_Run.calls kj4 _ _ l0_0 a2 _ _ t873 t879 t880 _ ?side1 ?side2 ?side3 ?side4 A43.out).mono ?_); (case side1 => repeat (first | exact (Kd.C_below HR0_0.out HB.out) | (with_reducible refine Kd.C_alloc ?_ _) | (with_reducible refine Kd.C_drewN ?_ _) | (with_reducible refine Kd.C_drew ?_))); (case side2 => exact HC0_0.out); (case side3 => repeat (first | exact (Kd.R_reads' HO875.out).2.2 | (with_reducible refine Kd.C_alloc ?_ _) | (with_reducible refine Kd.C_drewN ?_ _) | (with_reducible refine Kd.C_drew ?_))); (case side4 => exact (Kd.R_reads' HO875.out).2.1); rintro e w51 ⟨rfl, hb⟩; refine ⟨_, rfl, ?_⟩; have n0_ := Aside0.mk (Kd.R_below (by (with_reducible repeat (first | apply Kd.R_alloc | apply Kd.R_drewN | apply Kd.R_drew)); exact HO875.out) hb); have n1_ := Aside0.mk (blk_below (g := gb867) (o := .cells #[.slice A0_0 l0_0.length c0_0] 24 (0, 0)) (by (with_reducible repeat (first | refine blk_drewN ?_ _ | refine blk_drew ?_ | refine blk_alloc ?_ _)); exact BK867.out) hb); have n2_ := Aside0.mk (below_step (by repeat (first | (with_reducible first | exact HB.out | apply below_alloc | apply pw_below_drewN | apply below_drew1 | refine below_set ?_ GE867.out) | exact HB.out)) hb); clear HO875; clear BK867; clear HB; have HO875 := n0_; have BK867 := n1_; have HB := n2_; clear n0_ n1_ n2_; (try clear hb); (try clear hb2); (try clear hk); (try clear hi)))
                  go_meet
                  case rel => exact ⟨_, H', ⟨by have := HJ4.out; first | omega | exact Nat.le_refl _⟩, ⟨by (with_reducible repeat (first | apply Kd.R_alloc | apply Kd.R_drewN | apply Kd.R_drew)); exact HO875.out⟩, ⟨by (with_reducible repeat (first | refine blk_drewN ?_ _ | refine blk_drew ?_ | refine blk_alloc ?_ _)); exact BK867.out⟩, ⟨by repeat (first | (with_reducible first | exact HB.out | apply below_alloc | apply pw_below_drewN | apply below_drew1 | refine below_set ?_ GE867.out) | exact HB.out)⟩⟩
                · rw [if_neg c46] at H
                  have c46b0 : (t877 == t879) = false := beq_eq_false_iff_ne.mpr c46
                  have c46b1 : (t877 != t879) = true := bne_iff_ne.mpr c46
                  obtain rfl := Option.some.inj H
                  have hcz52_0 : w40.cell? ⟨gb867, 0, none⟩ = some (.slice A0_0 l0_0.length c0_0) := (blk_cell BK867.out 0).trans rfl
                  have hfz52_0 := blk_frozen BK867.out 0
                  obtain ⟨Ao53, co53, eo53⟩ := Kd.R_slice HO875.out
                  subst eo53
                  go_wp2_with (first | ((with_reducible refine gate_callee (f := 50) rfl ?_); refine goesL_ (some 55) rfl rfl Try.func50 (by kernel_rfl) rfl #[.agg #[.slice A0_0 l0_0.length c0_0], .int .i64 a1, .slice Ao53 t873.length co53] rfl (by (try simp only [List.map_toArray, List.map_cons, List.map_nil]); first | done | rfl | (simp only [List.length_drop, List.length_take]; rfl)) ?_; (with_reducible refine (auto_Run.calls kj4 _ _ l0_0 a1 _ _ t873 t877 t878 _ ?side1 ?side2 ?side3 ?side4 A42.out).mono ?_); (case side1 => repeat (first | exact (Kd.C_below HR0_0.out HB.out) | (with_reducible refine Kd.C_alloc ?_ _) | (with_reducible refine Kd.C_drewN ?_ _) | (with_reducible refine Kd.C_drew ?_))); (case side2 => exact HC0_0.out); (case side3 => repeat (first | exact (Kd.R_reads' HO875.out).2.2 | (with_reducible refine Kd.C_alloc ?_ _) | (with_reducible refine Kd.C_drewN ?_ _) | (with_reducible refine Kd.C_drew ?_))); (case side4 => exact (Kd.R_reads' HO875.out).2.1); rintro e w54 ⟨rfl, hb⟩; refine ⟨_, rfl, ?_⟩; have n0_ := Aside0.mk (Kd.R_below (by (with_reducible repeat (first | apply Kd.R_alloc | apply Kd.R_drewN | apply Kd.R_drew)); exact HO875.out) hb); have n1_ := Aside0.mk (blk_below (g := gb867) (o := .cells #[.slice A0_0 l0_0.length c0_0] 24 (0, 0)) (by (with_reducible repeat (first | refine blk_drewN ?_ _ | refine blk_drew ?_ | refine blk_alloc ?_ _)); exact BK867.out) hb); have n2_ := Aside0.mk (below_step (by repeat (first | (with_reducible first | exact HB.out | apply below_alloc | apply pw_below_drewN | apply below_drew1 | refine below_set ?_ GE867.out) | exact HB.out)) hb); clear HO875; clear BK867; clear HB; have HO875 := n0_; have BK867 := n1_; have HB := n2_; clear n0_ n1_ n2_; (try clear hb); (try clear hb2); (try clear hk); (try clear hi); have hcz55_0 : w54.cell? ⟨gb867, 0, none⟩ = some (.slice A0_0 l0_0.length c0_0) := (blk_cell BK867.out 0).trans rfl; have hfz55_0 := blk_frozen BK867.out 0) | ((with_reducible refine gate_callee (f := 50) rfl ?_); refine goesL_ (some 62) rfl rfl Try.func50 (by kernel_rfl) rfl #[.agg #[.slice A0_0 l0_0.length c0_0], .int .i64 a2, .slice Ao53 t873.length co53] rfl (by (try simp only [List.map_toArray, List.map_cons, List.map_nil]); first | done | rfl | (simp only [List.length_drop, List.length_take]; rfl)) ?_; (with_reducible refine (auto_Run.calls kj4 _ _ l0_0 a2 _ _ t873 t879 t880 _ ?side1 ?side2 ?side3 ?side4 A43.out).mono ?_); (case side1 => repeat (first | exact (Kd.C_below HR0_0.out HB.out) | (with_reducible refine Kd.C_alloc ?_ _) | (with_reducible refine Kd.C_drewN ?_ _) | (with_reducible refine Kd.C_drew ?_))); (case side2 => exact HC0_0.out); (case side3 => repeat (first | exact (Kd.R_reads' HO875.out).2.2 | (with_reducible refine Kd.C_alloc ?_ _) | (with_reducible refine Kd.C_drewN ?_ _) | (with_reducible refine Kd.C_drew ?_))); (case side4 => exact (Kd.R_reads' HO875.out).2.1); rintro e w56 ⟨rfl, hb⟩; refine ⟨_, rfl, ?_⟩; have n0_ := Aside0.mk (Kd.R_below (by (with_reducible repeat (first | apply Kd.R_alloc | apply Kd.R_drewN | apply Kd.R_drew)); exact HO875.out) hb); have n1_ := Aside0.mk (blk_below (g := gb867) (o := .cells #[.slice A0_0 l0_0.length c0_0] 24 (0, 0)) (by (with_reducible repeat (first | refine blk_drewN ?_ _ | refine blk_drew ?_ | refine blk_alloc ?_ _)); exact BK867.out) hb); have n2_ := Aside0.mk (below_step (by repeat (first | (with_reducible first | exact HB.out | apply below_alloc | apply pw_below_drewN | apply below_drew1 | refine below_set ?_ GE867.out) | exact HB.out)) hb); clear HO875; clear BK867; clear HB; have HO875 := n0_; have BK867 := n1_; have HB := n2_; clear n0_ n1_ n2_; (try clear hb); (try clear hb2); (try clear hk); (try clear hi)))
                  go_ret
                  exact ⟨by first | rfl | (simp [errW_none, errW_some] <;> rfl) | (simp [*, errW_none, errW_some] <;> rfl), by repeat (first | (with_reducible first | exact HB.out | apply below_alloc | apply pw_below_drewN | apply below_drew1 | refine below_set ?_ GE867.out) | exact HB.out)⟩
              · rw [if_neg c45] at H
                have c45b0 : (t880 == 0) = false := beq_eq_false_iff_ne.mpr c45
                have c45b1 : (t880 != 0) = true := bne_iff_ne.mpr c45
                obtain rfl := Option.some.inj H
                have hcz57_0 : w40.cell? ⟨gb867, 0, none⟩ = some (.slice A0_0 l0_0.length c0_0) := (blk_cell BK867.out 0).trans rfl
                have hfz57_0 := blk_frozen BK867.out 0
                obtain ⟨Ao58, co58, eo58⟩ := Kd.R_slice HO875.out
                subst eo58
                go_wp2_with (first | ((with_reducible refine gate_callee (f := 50) rfl ?_); refine goesL_ (some 55) rfl rfl Try.func50 (by kernel_rfl) rfl #[.agg #[.slice A0_0 l0_0.length c0_0], .int .i64 a1, .slice Ao58 t873.length co58] rfl (by (try simp only [List.map_toArray, List.map_cons, List.map_nil]); first | done | rfl | (simp only [List.length_drop, List.length_take]; rfl)) ?_; (with_reducible refine (auto_Run.calls kj4 _ _ l0_0 a1 _ _ t873 t877 t878 _ ?side1 ?side2 ?side3 ?side4 A42.out).mono ?_); (case side1 => repeat (first | exact (Kd.C_below HR0_0.out HB.out) | (with_reducible refine Kd.C_alloc ?_ _) | (with_reducible refine Kd.C_drewN ?_ _) | (with_reducible refine Kd.C_drew ?_))); (case side2 => exact HC0_0.out); (case side3 => repeat (first | exact (Kd.R_reads' HO875.out).2.2 | (with_reducible refine Kd.C_alloc ?_ _) | (with_reducible refine Kd.C_drewN ?_ _) | (with_reducible refine Kd.C_drew ?_))); (case side4 => exact (Kd.R_reads' HO875.out).2.1); rintro e w59 ⟨rfl, hb⟩; refine ⟨_, rfl, ?_⟩; have n0_ := Aside0.mk (Kd.R_below (by (with_reducible repeat (first | apply Kd.R_alloc | apply Kd.R_drewN | apply Kd.R_drew)); exact HO875.out) hb); have n1_ := Aside0.mk (blk_below (g := gb867) (o := .cells #[.slice A0_0 l0_0.length c0_0] 24 (0, 0)) (by (with_reducible repeat (first | refine blk_drewN ?_ _ | refine blk_drew ?_ | refine blk_alloc ?_ _)); exact BK867.out) hb); have n2_ := Aside0.mk (below_step (by repeat (first | (with_reducible first | exact HB.out | apply below_alloc | apply pw_below_drewN | apply below_drew1 | refine below_set ?_ GE867.out) | exact HB.out)) hb); clear HO875; clear BK867; clear HB; have HO875 := n0_; have BK867 := n1_; have HB := n2_; clear n0_ n1_ n2_; (try clear hb); (try clear hb2); (try clear hk); (try clear hi); have hcz60_0 : w59.cell? ⟨gb867, 0, none⟩ = some (.slice A0_0 l0_0.length c0_0) := (blk_cell BK867.out 0).trans rfl; have hfz60_0 := blk_frozen BK867.out 0) | ((with_reducible refine gate_callee (f := 50) rfl ?_); refine goesL_ (some 62) rfl rfl Try.func50 (by kernel_rfl) rfl #[.agg #[.slice A0_0 l0_0.length c0_0], .int .i64 a2, .slice Ao58 t873.length co58] rfl (by (try simp only [List.map_toArray, List.map_cons, List.map_nil]); first | done | rfl | (simp only [List.length_drop, List.length_take]; rfl)) ?_; (with_reducible refine (auto_Run.calls kj4 _ _ l0_0 a2 _ _ t873 t879 t880 _ ?side1 ?side2 ?side3 ?side4 A43.out).mono ?_); (case side1 => repeat (first | exact (Kd.C_below HR0_0.out HB.out) | (with_reducible refine Kd.C_alloc ?_ _) | (with_reducible refine Kd.C_drewN ?_ _) | (with_reducible refine Kd.C_drew ?_))); (case side2 => exact HC0_0.out); (case side3 => repeat (first | exact (Kd.R_reads' HO875.out).2.2 | (with_reducible refine Kd.C_alloc ?_ _) | (with_reducible refine Kd.C_drewN ?_ _) | (with_reducible refine Kd.C_drew ?_))); (case side4 => exact (Kd.R_reads' HO875.out).2.1); rintro e w61 ⟨rfl, hb⟩; refine ⟨_, rfl, ?_⟩; have n0_ := Aside0.mk (Kd.R_below (by (with_reducible repeat (first | apply Kd.R_alloc | apply Kd.R_drewN | apply Kd.R_drew)); exact HO875.out) hb); have n1_ := Aside0.mk (blk_below (g := gb867) (o := .cells #[.slice A0_0 l0_0.length c0_0] 24 (0, 0)) (by (with_reducible repeat (first | refine blk_drewN ?_ _ | refine blk_drew ?_ | refine blk_alloc ?_ _)); exact BK867.out) hb); have n2_ := Aside0.mk (below_step (by repeat (first | (with_reducible first | exact HB.out | apply below_alloc | apply pw_below_drewN | apply below_drew1 | refine below_set ?_ GE867.out) | exact HB.out)) hb); clear HO875; clear BK867; clear HB; have HO875 := n0_; have BK867 := n1_; have HB := n2_; clear n0_ n1_ n2_; (try clear hb); (try clear hb2); (try clear hk); (try clear hi)))
                go_ret
                exact ⟨by first | rfl | (simp [errW_none, errW_some] <;> rfl) | (simp [*, errW_none, errW_some] <;> rfl), by repeat (first | (with_reducible first | exact HB.out | apply below_alloc | apply pw_below_drewN | apply below_drew1 | refine below_set ?_ GE867.out) | exact HB.out)⟩
            · rw [if_neg c44] at H
              have c44b0 : (t878 == 0) = false := beq_eq_false_iff_ne.mpr c44
              have c44b1 : (t878 != 0) = true := bne_iff_ne.mpr c44
              obtain rfl := Option.some.inj H
              have hcz62_0 : w40.cell? ⟨gb867, 0, none⟩ = some (.slice A0_0 l0_0.length c0_0) := (blk_cell BK867.out 0).trans rfl
              have hfz62_0 := blk_frozen BK867.out 0
              obtain ⟨Ao63, co63, eo63⟩ := Kd.R_slice HO875.out
              subst eo63
              go_wp2_with (first | ((with_reducible refine gate_callee (f := 50) rfl ?_); refine goesL_ (some 55) rfl rfl Try.func50 (by kernel_rfl) rfl #[.agg #[.slice A0_0 l0_0.length c0_0], .int .i64 a1, .slice Ao63 t873.length co63] rfl (by (try simp only [List.map_toArray, List.map_cons, List.map_nil]); first | done | rfl | (simp only [List.length_drop, List.length_take]; rfl)) ?_; (with_reducible refine (auto_Run.calls kj4 _ _ l0_0 a1 _ _ t873 t877 t878 _ ?side1 ?side2 ?side3 ?side4 A42.out).mono ?_); (case side1 => repeat (first | exact (Kd.C_below HR0_0.out HB.out) | (with_reducible refine Kd.C_alloc ?_ _) | (with_reducible refine Kd.C_drewN ?_ _) | (with_reducible refine Kd.C_drew ?_))); (case side2 => exact HC0_0.out); (case side3 => repeat (first | exact (Kd.R_reads' HO875.out).2.2 | (with_reducible refine Kd.C_alloc ?_ _) | (with_reducible refine Kd.C_drewN ?_ _) | (with_reducible refine Kd.C_drew ?_))); (case side4 => exact (Kd.R_reads' HO875.out).2.1); rintro e w64 ⟨rfl, hb⟩; refine ⟨_, rfl, ?_⟩; have n0_ := Aside0.mk (Kd.R_below (by (with_reducible repeat (first | apply Kd.R_alloc | apply Kd.R_drewN | apply Kd.R_drew)); exact HO875.out) hb); have n1_ := Aside0.mk (blk_below (g := gb867) (o := .cells #[.slice A0_0 l0_0.length c0_0] 24 (0, 0)) (by (with_reducible repeat (first | refine blk_drewN ?_ _ | refine blk_drew ?_ | refine blk_alloc ?_ _)); exact BK867.out) hb); have n2_ := Aside0.mk (below_step (by repeat (first | (with_reducible first | exact HB.out | apply below_alloc | apply pw_below_drewN | apply below_drew1 | refine below_set ?_ GE867.out) | exact HB.out)) hb); clear HO875; clear BK867; clear HB; have HO875 := n0_; have BK867 := n1_; have HB := n2_; clear n0_ n1_ n2_; (try clear hb); (try clear hb2); (try clear hk); (try clear hi); have hcz65_0 : w64.cell? ⟨gb867, 0, none⟩ = some (.slice A0_0 l0_0.length c0_0) := (blk_cell BK867.out 0).trans rfl; have hfz65_0 := blk_frozen BK867.out 0) | ((with_reducible refine gate_callee (f := 50) rfl ?_); refine goesL_ (some 62) rfl rfl Try.func50 (by kernel_rfl) rfl #[.agg #[.slice A0_0 l0_0.length c0_0], .int .i64 a2, .slice Ao63 t873.length co63] rfl (by (try simp only [List.map_toArray, List.map_cons, List.map_nil]); first | done | rfl | (simp only [List.length_drop, List.length_take]; rfl)) ?_; (with_reducible refine (auto_Run.calls kj4 _ _ l0_0 a2 _ _ t873 t879 t880 _ ?side1 ?side2 ?side3 ?side4 A43.out).mono ?_); (case side1 => repeat (first | exact (Kd.C_below HR0_0.out HB.out) | (with_reducible refine Kd.C_alloc ?_ _) | (with_reducible refine Kd.C_drewN ?_ _) | (with_reducible refine Kd.C_drew ?_))); (case side2 => exact HC0_0.out); (case side3 => repeat (first | exact (Kd.R_reads' HO875.out).2.2 | (with_reducible refine Kd.C_alloc ?_ _) | (with_reducible refine Kd.C_drewN ?_ _) | (with_reducible refine Kd.C_drew ?_))); (case side4 => exact (Kd.R_reads' HO875.out).2.1); rintro e w66 ⟨rfl, hb⟩; refine ⟨_, rfl, ?_⟩; have n0_ := Aside0.mk (Kd.R_below (by (with_reducible repeat (first | apply Kd.R_alloc | apply Kd.R_drewN | apply Kd.R_drew)); exact HO875.out) hb); have n1_ := Aside0.mk (blk_below (g := gb867) (o := .cells #[.slice A0_0 l0_0.length c0_0] 24 (0, 0)) (by (with_reducible repeat (first | refine blk_drewN ?_ _ | refine blk_drew ?_ | refine blk_alloc ?_ _)); exact BK867.out) hb); have n2_ := Aside0.mk (below_step (by repeat (first | (with_reducible first | exact HB.out | apply below_alloc | apply pw_below_drewN | apply below_drew1 | refine below_set ?_ GE867.out) | exact HB.out)) hb); clear HO875; clear BK867; clear HB; have HO875 := n0_; have BK867 := n1_; have HB := n2_; clear n0_ n1_ n2_; (try clear hb); (try clear hb2); (try clear hk); (try clear hi)))
              go_ret
              exact ⟨by first | rfl | (simp [errW_none, errW_some] <;> rfl) | (simp [*, errW_none, errW_some] <;> rfl), by repeat (first | (with_reducible first | exact HB.out | apply below_alloc | apply pw_below_drewN | apply below_drew1 | refine below_set ?_ GE867.out) | exact HB.out)⟩
          · rw [if_neg c41] at H
            have c41b0 : (t876 == 0) = false := beq_eq_false_iff_ne.mpr c41
            have c41b1 : (t876 != 0) = true := bne_iff_ne.mpr c41
            (first | rw [c41b0] | (simp only [i64_w, i32_w]; rw [c41b0]) | skip)
            have H' := Aside0.mk H
            clear H
            go_wp2
            go_meet
            case rel => exact ⟨_, H', ⟨by have := HJ4.out; first | omega | exact Nat.le_refl _⟩, ⟨by (with_reducible repeat (first | apply Kd.R_alloc | apply Kd.R_drewN | apply Kd.R_drew)); exact HO875.out⟩, ⟨by (with_reducible repeat (first | refine blk_drewN ?_ _ | refine blk_drew ?_ | refine blk_alloc ?_ _)); exact BK867.out⟩, ⟨by repeat (first | (with_reducible first | exact HB.out | apply below_alloc | apply pw_below_drewN | apply below_drew1 | refine below_set ?_ GE867.out) | exact HB.out)⟩⟩
        case rest =>
          clear HC38
          try clear c1
          try clear p2
          try clear c3
          try clear c4
          try clear c5
          try clear c8
          try clear c10
          try clear c12
          try clear c16
          try clear c34
          try clear c36
          try clear c37
          try clear c41
          try clear c41b0
          try clear c41b1
          try clear c44
          try clear c44b0
          try clear c44b1
          try clear c45
          try clear c45b0
          try clear c45b1
          try clear c46
          try clear c46b0
          try clear c46b1
          try clear c50
          try clear hcz14_0
          try clear hcz16_0
          try clear hcz18_0
          try clear hcz20_0
          try clear hcz22_0
          try clear hcz24_0
          try clear hcz26_0
          try clear hcz28_0
          try clear hcz30_0
          try clear hcz32_0
          try clear hcz39_0
          try clear hcz47_0
          try clear hcz50_0
          try clear hcz52_0
          try clear hcz55_0
          try clear hcz57_0
          try clear hcz60_0
          try clear hcz62_0
          try clear hcz65_0
          try clear hfz14_0
          try clear hfz16_0
          try clear hfz18_0
          try clear hfz20_0
          try clear hfz22_0
          try clear hfz24_0
          try clear hfz26_0
          try clear hfz28_0
          try clear hfz30_0
          try clear hfz32_0
          try clear hfz39_0
          try clear hfz47_0
          try clear hfz50_0
          try clear hfz52_0
          try clear hfz55_0
          try clear hfz57_0
          try clear hfz60_0
          try clear hfz62_0
          try clear hfz65_0
          try clear p2
          obtain ⟨kq, HA, HJ37, HO_9, BK867, HB⟩ := hcut
          cases kq with
          | zero => exact absurd HA.out (by simp [mizmazelaw03_ResetMerged.j1])
          | succ kj37 =>
            have H := HA.out
            clear HA
            simp only [mizmazelaw03_ResetMerged.j1] at H
            have H' := Aside0.mk H
            clear H
            go_wp2
            go_loopg [15] kj37 (fun kq v15 w' => ∃ (x15_3 : Int), v15 = .int .i64 x15_3 ∧ Aside0 (mizmazelaw03_ResetMerged.l0 kq a1 a2 l3 t873 t876 x15_3 l0_0 = some r) ∧ Aside0 (kq ≤ kj37) ∧ Aside0 (Kd.R (Kd.int .i64) 3 w' w.heap.size (fun _ => True) v874 t873) ∧ Aside0 (w'.heap[gb867]? = some (.cells #[(.slice A0_0 l0_0.length c0_0)] 24 (0, 0))) ∧ Aside0 (Below w.heap.size w w'))
            case atStart => exact ⟨(0), (by first | rfl | (simp; done) | (simp [*]; done)), H', ⟨Nat.le_refl _⟩, ⟨by (with_reducible repeat (first | apply Kd.R_alloc | apply Kd.R_drewN | apply Kd.R_drew)); exact HO_9.out⟩, ⟨by (with_reducible repeat (first | refine blk_drewN ?_ _ | refine blk_drew ?_ | refine blk_alloc ?_ _)); exact BK867.out⟩, ⟨by repeat (first | (with_reducible first | exact HB.out | apply below_alloc | apply pw_below_drewN | apply below_drew1 | refine below_set ?_ GE867.out) | exact HB.out)⟩⟩
            case round =>
              clear H'
              try clear c1
              try clear p2
              try clear c3
              try clear c4
              try clear c5
              try clear c8
              try clear c10
              try clear c12
              try clear c16
              try clear c34
              try clear c36
              try clear c37
              try clear c41
              try clear c41b0
              try clear c41b1
              try clear c44
              try clear c44b0
              try clear c44b1
              try clear c45
              try clear c45b0
              try clear c45b1
              try clear c46
              try clear c46b0
              try clear c46b1
              try clear c50
              try clear hcz14_0
              try clear hcz16_0
              try clear hcz18_0
              try clear hcz20_0
              try clear hcz22_0
              try clear hcz24_0
              try clear hcz26_0
              try clear hcz28_0
              try clear hcz30_0
              try clear hcz32_0
              try clear hcz39_0
              try clear hcz47_0
              try clear hcz50_0
              try clear hcz52_0
              try clear hcz55_0
              try clear hcz57_0
              try clear hcz60_0
              try clear hcz62_0
              try clear hcz65_0
              try clear hfz14_0
              try clear hfz16_0
              try clear hfz18_0
              try clear hfz20_0
              try clear hfz22_0
              try clear hfz24_0
              try clear hfz26_0
              try clear hfz28_0
              try clear hfz30_0
              try clear hfz32_0
              try clear hfz39_0
              try clear hfz47_0
              try clear hfz50_0
              try clear hfz52_0
              try clear hfz55_0
              try clear hfz57_0
              try clear hfz60_0
              try clear hfz62_0
              try clear hfz65_0
              try clear p2
              obtain ⟨x15_3, rfl, HA, HK3, HO_9, BK867, HB⟩ := hrel
              cases gk with
              | zero => exact absurd HA.out (by simp [mizmazelaw03_ResetMerged.l0])
              | succ k3 =>
                have H := HA.out
                clear HA
                simp only [mizmazelaw03_ResetMerged.l0] at H
                have HC67 := Aside0.mk H
                clear H
                go_upto_region 10 with (fail)
                go_cut [83] (fun v83 wc => ∃ (kq : Nat) (x83_66 : Bool), v83 = .bool x83_66 ∧ Aside0 (mizmazelaw03_ResetMerged.j3 kq a1 a2 l3 t873 t876 x15_3 x83_66 l0_0 = some r) ∧ Aside0 (kq ≤ k3) ∧ Aside0 (Kd.R (Kd.int .i64) 3 wc w.heap.size (fun _ => True) v874 t873) ∧ Aside0 (wc.heap[gb867]? = some (.cells #[(.slice A0_0 l0_0.length c0_0)] 24 (0, 0))) ∧ Aside0 (Below w.heap.size w wc))
                case first =>
                  have H := HC67.out
                  clear HC67
                  by_cases c68 : x15_3 ≤ (l3.length : Int)
                  · rw [if_pos c68] at H
                    have c68b0 : decide (x15_3 ≤ (l3.length : Int)) = true := decide_eq_true c68
                    clear c68
                    (first | rw [c68b0] | (simp only [i64_w, i32_w]; rw [c68b0]) | skip)
                    have H' := Aside0.mk H
                    clear H
                    go_wp2
                    go_meet
                    case rel => exact ⟨_, (decide (x15_3 ≤ 200)), (by first | rfl | (simp; done) | (simp [*]; done)), H', ⟨by have := HJ4.out; have := HJ37.out; have := HK3.out; first | omega | exact Nat.le_refl _⟩, ⟨by (with_reducible repeat (first | apply Kd.R_alloc | apply Kd.R_drewN | apply Kd.R_drew)); exact HO_9.out⟩, ⟨by (with_reducible repeat (first | refine blk_drewN ?_ _ | refine blk_drew ?_ | refine blk_alloc ?_ _)); exact BK867.out⟩, ⟨by repeat (first | (with_reducible first | exact HB.out | apply below_alloc | apply pw_below_drewN | apply below_drew1 | refine below_set ?_ GE867.out) | exact HB.out)⟩⟩
                  · rw [if_neg c68] at H
                    have c68b0 : decide (x15_3 ≤ (l3.length : Int)) = false := decide_eq_false c68
                    clear c68
                    (first | rw [c68b0] | (simp only [i64_w, i32_w]; rw [c68b0]) | skip)
                    have H' := Aside0.mk H
                    clear H
                    go_wp2
                    go_meet
                    case rel => exact ⟨_, (false), (by first | rfl | (simp; done) | (simp [*]; done)), H', ⟨by have := HJ4.out; have := HJ37.out; have := HK3.out; first | omega | exact Nat.le_refl _⟩, ⟨by (with_reducible repeat (first | apply Kd.R_alloc | apply Kd.R_drewN | apply Kd.R_drew)); exact HO_9.out⟩, ⟨by (with_reducible repeat (first | refine blk_drewN ?_ _ | refine blk_drew ?_ | refine blk_alloc ?_ _)); exact BK867.out⟩, ⟨by repeat (first | (with_reducible first | exact HB.out | apply below_alloc | apply pw_below_drewN | apply below_drew1 | refine below_set ?_ GE867.out) | exact HB.out)⟩⟩
                case rest =>
                  clear HC67
                  try clear c1
                  try clear p2
                  try clear c3
                  try clear c4
                  try clear c5
                  try clear c6
                  try clear c8
                  try clear c10
                  try clear c12
                  try clear c16
                  try clear c34
                  try clear c36
                  try clear c37
                  try clear c41
                  try clear c41b0
                  try clear c41b1
                  try clear c44
                  try clear c44b0
                  try clear c44b1
                  try clear c45
                  try clear c45b0
                  try clear c45b1
                  try clear c46
                  try clear c46b0
                  try clear c46b1
                  try clear c50
                  try clear c68
                  try clear c68b0
                  try clear hcz14_0
                  try clear hcz16_0
                  try clear hcz18_0
                  try clear hcz20_0
                  try clear hcz22_0
                  try clear hcz24_0
                  try clear hcz26_0
                  try clear hcz28_0
                  try clear hcz30_0
                  try clear hcz32_0
                  try clear hcz39_0
                  try clear hcz47_0
                  try clear hcz50_0
                  try clear hcz52_0
                  try clear hcz55_0
                  try clear hcz57_0
                  try clear hcz60_0
                  try clear hcz62_0
                  try clear hcz65_0
                  try clear hfz14_0
                  try clear hfz16_0
                  try clear hfz18_0
                  try clear hfz20_0
                  try clear hfz22_0
                  try clear hfz24_0
                  try clear hfz26_0
                  try clear hfz28_0
                  try clear hfz30_0
                  try clear hfz32_0
                  try clear hfz39_0
                  try clear hfz47_0
                  try clear hfz50_0
                  try clear hfz52_0
                  try clear hfz55_0
                  try clear hfz57_0
                  try clear hfz60_0
                  try clear hfz62_0
                  try clear hfz65_0
                  try clear p2
                  obtain ⟨kq, x83_66, rfl, HA, HJ66, HO_9, BK867, HB⟩ := hcut
                  cases kq with
                  | zero => exact absurd HA.out (by simp [mizmazelaw03_ResetMerged.j3])
                  | succ kj66 =>
                    have H := HA.out
                    clear HA
                    simp only [mizmazelaw03_ResetMerged.j3] at H
                    by_cases c69 : x83_66 = true
                    · subst c69
                      have H1 : (if 0 ≤ x15_3 then (if x15_3 ≤ (l3.length : Int) then ((auto_Run.f kj66 l0_0 a1 (l3.take (x15_3 : Int).toNat)).bind fun bt883 => ((auto_Run.f kj66 l0_0 a2 (l3.take (x15_3 : Int).toNat)).bind fun bt886 => (if bt883.2 = 0 then (mizmazelaw03_ResetMerged.j4 kj66 a1 a2 l3 t873 t876 x15_3 bt883.1 bt886.1 (bt886.2 != 0) l0_0) else (mizmazelaw03_ResetMerged.j4 kj66 a1 a2 l3 t873 t876 x15_3 bt883.1 bt886.1 true l0_0)))) else (none)) else (none)) = some r := by rw [if_pos rfl] at H; exact H
                      clear H
                      have H := H1
                      clear H1
                      by_cases c70 : 0 ≤ x15_3
                      · rw [if_pos c70] at H
                        have c70b0 := eq_true c70
                        have c70b1 : decide (0 ≤ x15_3) = true := decide_eq_true c70
                        clear c70
                        by_cases c71 : x15_3 ≤ (l3.length : Int)
                        · rw [if_pos c71] at H
                          have c71b0 := eq_true c71
                          have c71b1 : decide (x15_3 ≤ (l3.length : Int)) = true := decide_eq_true c71
                          clear c71
                          replace H := Option.bind_eq_some_iff.mp H
                          obtain ⟨⟨t883, t884⟩, A720, H⟩ := H
                          replace H : ((auto_Run.f kj66 l0_0 a2 (l3.take (x15_3 : Int).toNat)).bind fun bt886 => (if t884 = 0 then (mizmazelaw03_ResetMerged.j4 kj66 a1 a2 l3 t873 t876 x15_3 t883 bt886.1 (bt886.2 != 0) l0_0) else (mizmazelaw03_ResetMerged.j4 kj66 a1 a2 l3 t873 t876 x15_3 t883 bt886.1 true l0_0))) = some r := H
                          have A72 := Aside0.mk A720
                          clear A720
                          have c73b0 := eq_true (of_decide_eq_true (by first | (with_reducible assumption) | assumption) : 0 ≤ x15_3)
                          have c74b0 := eq_true (of_decide_eq_true (by first | (with_reducible assumption) | assumption) : x15_3 ≤ (l3.length : Int))
                          replace H := Option.bind_eq_some_iff.mp H
                          obtain ⟨⟨t886, t887⟩, A750, H⟩ := H
                          replace H : (if t884 = 0 then (mizmazelaw03_ResetMerged.j4 kj66 a1 a2 l3 t873 t876 x15_3 t883 t886 (t887 != 0) l0_0) else (mizmazelaw03_ResetMerged.j4 kj66 a1 a2 l3 t873 t876 x15_3 t883 t886 true l0_0)) = some r := H
                          have A75 := Aside0.mk A750
                          clear A750
                          have HC76 := Aside0.mk H
                          clear H
                          try go_wp2
                          have n0_ := Aside0.mk (Kd.R_drew HO_9.out)
                          have n1_ := Aside0.mk (blk_drew BK867.out)
                          have n2_ := Aside0.mk (below_drew1 HB.out)
                          clear HO_9
                          clear BK867
                          clear HB
                          have HO_9 := n0_
                          have BK867 := n1_
                          have HB := n2_
                          clear n0_ n1_ n2_
                          obtain ⟨i078, hi078, _, hsz78, _⟩ := info_parts info3
                          obtain ⟨hcut78, hA78, hC78⟩ := print_take_of (P := Try.prog) (Value.int .i64) 0 25 3 .i64 Try.underlying25 hi078 hsz78 A3 c3 l3 x15_3 (of_decide_eq_true (by first | (with_reducible assumption) | assumption)) (of_decide_eq_true (by first | (with_reducible assumption) | assumption)) HC3.out
                          have HR882 := Aside0.mk (Kd.C_of_reads (h1 := fun _ => rfl) (hA78 _ (Kd.reads_of_C HR3.out)))
                          have HC882 := Aside0.mk hC78
                          clear hA78 hC78 hi078 hsz78
                          refine start_ (n := 11) (S := fun w' => w'.cell? ⟨gb867, 0, none⟩ = some (.slice A0_0 l0_0.length c0_0)) (ds := []) #[false, false, false, false, false, false, false, false, false, false, false] (by kernel_rfl) rfl rfl ((blk_cell BK867.out 0).trans rfl) (fun hHeld => ?_); refine with_tabW mizmazelaw03_ResetMerged.tab12 mizmazelaw03_ResetMerged.bits12 (fun HT_ HW_ => ?_)
                          generalize wc.drew = w77 at HO_9 BK867 HB HR882 hHeld ⊢
                          refine pure_ (i := 1) (N := some 88) (v := ?_) (a' := ?_) #[false, true, false, false, false, false, false, false, false, false, false] rfl rfl (any_of HT_.out (by kernel_rfl)) (fun _ _ _ h => h) (Or.inl ⟨by rfl, ?_⟩) ?_ ?_
                          rotate_left
                          · intro w'
                            go_simp
                            with_reducible rfl
                          rotate_left
                          · simp only [Act.put, List.setIfInBounds_toArray, List.set_cons_zero, List.set_cons_succ, i64_w, i32_w]
                            rfl
                          refine pure_ (i := 2) (N := some 89) (v := ?_) (a' := ?_) #[false, true, true, false, false, false, false, false, false, false, false] rfl rfl (any_of HT_.out (by kernel_rfl)) (fun _ _ _ h => h) (Or.inl ⟨by rfl, ?_⟩) ?_ ?_
                          rotate_left
                          · intro w'
                            go_simp
                            with_reducible rfl
                          rotate_left
                          · simp only [Act.put, List.setIfInBounds_toArray, List.set_cons_zero, List.set_cons_succ, i64_w, i32_w]
                            rfl
                          refine pure_ (i := 3) (N := some 90) (v := ?_) (a' := ?_) #[false, true, true, true, false, false, false, false, false, false, false] rfl rfl (any_of HT_.out (by kernel_rfl)) (fun _ _ _ h => h) (Or.inl ⟨by rfl, ?_⟩) ?_ ?_
                          rotate_left
                          · intro w'
                            go_simp
                            with_reducible rfl
                          rotate_left
                          · simp only [Act.put, List.setIfInBounds_toArray, List.set_cons_zero, List.set_cons_succ, i64_w, i32_w]
                            rfl
                          refine pure_ (i := 4) (N := some 91) (v := ?_) (a' := ?_) #[false, true, true, true, true, false, false, false, false, false, false] rfl rfl (any_of HT_.out (by kernel_rfl)) (fun _ _ _ h => h) (Or.inl ⟨by rfl, ?_⟩) ?_ ?_
                          rotate_left
                          · intro w'
                            go_simp
                            with_reducible rfl
                          rotate_left
                          · simp only [Act.put, List.setIfInBounds_toArray, List.set_cons_zero, List.set_cons_succ, i64_w, i32_w]
                            rfl
                          refine take_ (i := 0) (N := some 87) (v := ?_) (a' := ?_) #[true, true, true, true, true, false, false, false, false, false, false] rfl rfl (take_ofW HT_.out HW_.out (by kernel_rfl)) (fun _ _ _ h => h) (Or.inl ⟨by rfl, ?_⟩) hHeld ?_ ?_
                          rotate_left
                          · intro w' s0
                            go_simp
                            with_reducible rfl
                          rotate_left
                          · simp only [Act.put, List.setIfInBounds_toArray, List.set_cons_zero, List.set_cons_succ, i64_w, i32_w]
                            rfl
                          refine one_ (i := 5) (N := some 92) #[true, true, true, true, true, true, false, false, false, false, false] rfl rfl (one_of HT_.out (by kernel_rfl)) (by decide) (fun K hK => ?_)
                          refine goes_ Try.func50 (by kernel_rfl) rfl #[.agg #[.slice A0_0 l0_0.length c0_0], .int .i64 a1, .slice A3 (l3.take (x15_3 : Int).toNat).length c3] (by rfl) rfl rfl (by (try simp only [List.map_toArray, List.map_cons, List.map_nil]); first | done | (rw [show (l3.take (x15_3 : Int).toNat).length = x15_3.toNat from (by rw [List.length_take]; have h_ : (x15_3 : Int) ≤ (l3.length : Int) := of_decide_eq_true (by first | (with_reducible assumption) | assumption); omega)] <;> rfl) | rfl | (simp only [List.length_drop, List.length_take]; rfl)) ?_
                          with_reducible refine (auto_Run.calls kj66 _ _ l0_0 a1 _ _ (l3.take (x15_3 : Int).toNat) t883 t884 _ ?side1 ?side2 ?side3 ?side4 A72.out).mono ?_
                          (case side1 => repeat (first | exact (Kd.C_below HR0_0.out HB.out) | (with_reducible refine Kd.C_alloc ?_ _) | (with_reducible refine Kd.C_drewN ?_ _) | (with_reducible refine Kd.C_drew ?_)))
                          (case side2 => exact HC0_0.out)
                          (case side3 => repeat (first | exact (Kd.C_below HR882.out HB.out) | (with_reducible refine Kd.C_alloc ?_ _) | (with_reducible refine Kd.C_drewN ?_ _) | (with_reducible refine Kd.C_drew ?_)))
                          (case side4 => exact HC882.out)
                          rintro e w79 ⟨rfl, hb⟩
                          refine ⟨_, rfl, ?_⟩
                          have n0_ := Aside0.mk (Kd.R_below (by (with_reducible repeat (first | apply Kd.R_alloc | apply Kd.R_drewN | apply Kd.R_drew)); exact HO_9.out) hb)
                          have n1_ := Aside0.mk (blk_below (g := gb867) (o := .cells #[.slice A0_0 l0_0.length c0_0] 24 (0, 0)) (by (with_reducible repeat (first | refine blk_drewN ?_ _ | refine blk_drew ?_ | refine blk_alloc ?_ _)); exact BK867.out) hb)
                          have n2_ := Aside0.mk (below_step (by repeat (first | (with_reducible first | exact HB.out | apply below_alloc | apply pw_below_drewN | apply below_drew1 | refine below_set ?_ GE867.out) | exact HB.out)) hb)
                          clear HO_9
                          clear BK867
                          clear HB
                          have HO_9 := n0_
                          have BK867 := n1_
                          have HB := n2_
                          clear n0_ n1_ n2_
                          (try clear hb)
                          (try clear hb2)
                          (try clear hk)
                          (try clear hi)
                          refine hK.out _ _ ((blk_cell BK867.out 0).trans rfl) (fun hHeld => ?_)
                          clear hK K
                          refine norm_ (a' := ?_) ?_ ?_
                          rotate_left
                          · show Act.put _ (some 92) _ = _
                            simp only [Act.put, List.setIfInBounds_toArray, List.set_cons_zero, List.set_cons_succ, i64_w, i32_w]
                            rfl
                          refine pure_ (i := 6) (N := some 86) (v := ?_) (a' := ?_) #[true, true, true, true, true, true, true, false, false, false, false] rfl rfl (any_of HT_.out (by kernel_rfl)) (fun _ _ _ h => h) (Or.inl ⟨by rfl, ?_⟩) ?_ ?_
                          rotate_left
                          · intro w'
                            go_simp
                            with_reducible rfl
                          rotate_left
                          · simp only [Act.put, List.setIfInBounds_toArray, List.set_cons_zero, List.set_cons_succ, i64_w, i32_w]
                            rfl
                          refine pure_ (i := 7) (N := some 93) (v := ?_) (a' := ?_) #[true, true, true, true, true, true, true, true, false, false, false] rfl rfl (any_of HT_.out (by kernel_rfl)) (fun _ _ _ h => h) (Or.inl ⟨by rfl, ?_⟩) ?_ ?_
                          rotate_left
                          · intro w'
                            go_simp
                            with_reducible rfl
                          rotate_left
                          · simp only [Act.put, List.setIfInBounds_toArray, List.set_cons_zero, List.set_cons_succ, i64_w, i32_w]
                            rfl
                          refine pure_ (i := 8) (N := some 94) (v := ?_) (a' := ?_) #[true, true, true, true, true, true, true, true, true, false, false] rfl rfl (any_of HT_.out (by kernel_rfl)) (fun _ _ _ h => h) (Or.inl ⟨by rfl, ?_⟩) ?_ ?_
                          rotate_left
                          · intro w'
                            go_simp
                            with_reducible rfl
                          rotate_left
                          · simp only [Act.put, List.setIfInBounds_toArray, List.set_cons_zero, List.set_cons_succ, i64_w, i32_w]
                            rfl
                          refine pure_ (i := 9) (N := some 16) (v := ?_) (a' := ?_) #[true, true, true, true, true, true, true, true, true, true, false] rfl rfl (any_of HT_.out (by kernel_rfl)) (fun _ _ _ h => h) (Or.inl ⟨by rfl, ?_⟩) ?_ ?_
                          rotate_left
                          · intro w'
                            go_simp
                            with_reducible rfl
                          rotate_left
                          · simp only [Act.put, List.setIfInBounds_toArray, List.set_cons_zero, List.set_cons_succ, i64_w, i32_w]
                            rfl
                          refine pure_ (i := 10) (N := some 17) (v := ?_) (a' := ?_) #[true, true, true, true, true, true, true, true, true, true, true] rfl rfl (any_of HT_.out (by kernel_rfl)) (fun _ _ _ h => h) (Or.inl ⟨by rfl, ?_⟩) ?_ ?_
                          rotate_left
                          · intro w'
                            go_simp
                            with_reducible rfl
                          rotate_left
                          · simp only [Act.put, List.setIfInBounds_toArray, List.set_cons_zero, List.set_cons_succ, i64_w, i32_w]
                            rfl
                          refine done_ (done_of HT_.out (by kernel_rfl)) ?_
                          try go_wp2
                          have n0_ := Aside0.mk (Kd.R_drew HO_9.out)
                          have n1_ := Aside0.mk (blk_drew BK867.out)
                          have n2_ := Aside0.mk (below_drew1 HB.out)
                          clear HO_9
                          clear BK867
                          clear HB
                          have HO_9 := n0_
                          have BK867 := n1_
                          have HB := n2_
                          clear n0_ n1_ n2_
                          obtain ⟨i081, hi081, _, hsz81, _⟩ := info_parts info3
                          obtain ⟨hcut81, hA81, hC81⟩ := print_take_of (P := Try.prog) (Value.int .i64) 0 25 3 .i64 Try.underlying25 hi081 hsz81 A3 c3 l3 x15_3 (of_decide_eq_true (by first | (with_reducible assumption) | assumption)) (of_decide_eq_true (by first | (with_reducible assumption) | assumption)) HC3.out
                          have HR885 := Aside0.mk (Kd.C_of_reads (h1 := fun _ => rfl) (hA81 _ (Kd.reads_of_C HR3.out)))
                          have HC885 := Aside0.mk hC81
                          clear hA81 hC81 hi081 hsz81
                          refine start_ (n := 11) (S := fun w' => w'.cell? ⟨gb867, 0, none⟩ = some (.slice A0_0 l0_0.length c0_0)) (ds := []) #[false, false, false, false, false, false, false, false, false, false, false] (by kernel_rfl) rfl rfl ((blk_cell BK867.out 0).trans rfl) (fun hHeld => ?_); refine with_tabW mizmazelaw03_ResetMerged.tab13 mizmazelaw03_ResetMerged.bits13 (fun HT_ HW_ => ?_)
                          generalize w79.drew = w80 at HO_9 BK867 HB HR885 hHeld ⊢
                          refine pure_ (i := 1) (N := some 97) (v := ?_) (a' := ?_) #[false, true, false, false, false, false, false, false, false, false, false] rfl rfl (any_of HT_.out (by kernel_rfl)) (fun _ _ _ h => h) (Or.inl ⟨by rfl, ?_⟩) ?_ ?_
                          rotate_left
                          · intro w'
                            go_simp
                            with_reducible rfl
                          rotate_left
                          · simp only [Act.put, List.setIfInBounds_toArray, List.set_cons_zero, List.set_cons_succ, i64_w, i32_w]
                            rfl
                          refine pure_ (i := 2) (N := some 98) (v := ?_) (a' := ?_) #[false, true, true, false, false, false, false, false, false, false, false] rfl rfl (any_of HT_.out (by kernel_rfl)) (fun _ _ _ h => h) (Or.inl ⟨by rfl, ?_⟩) ?_ ?_
                          rotate_left
                          · intro w'
                            go_simp
                            with_reducible rfl
                          rotate_left
                          · simp only [Act.put, List.setIfInBounds_toArray, List.set_cons_zero, List.set_cons_succ, i64_w, i32_w]
                            rfl
                          refine pure_ (i := 3) (N := some 99) (v := ?_) (a' := ?_) #[false, true, true, true, false, false, false, false, false, false, false] rfl rfl (any_of HT_.out (by kernel_rfl)) (fun _ _ _ h => h) (Or.inl ⟨by rfl, ?_⟩) ?_ ?_
                          rotate_left
                          · intro w'
                            go_simp
                            with_reducible rfl
                          rotate_left
                          · simp only [Act.put, List.setIfInBounds_toArray, List.set_cons_zero, List.set_cons_succ, i64_w, i32_w]
                            rfl
                          refine pure_ (i := 4) (N := some 100) (v := ?_) (a' := ?_) #[false, true, true, true, true, false, false, false, false, false, false] rfl rfl (any_of HT_.out (by kernel_rfl)) (fun _ _ _ h => h) (Or.inl ⟨by rfl, ?_⟩) ?_ ?_
                          rotate_left
                          · intro w'
                            go_simp
                            with_reducible rfl
                          rotate_left
                          · simp only [Act.put, List.setIfInBounds_toArray, List.set_cons_zero, List.set_cons_succ, i64_w, i32_w]
                            rfl
                          refine take_ (i := 0) (N := some 96) (v := ?_) (a' := ?_) #[true, true, true, true, true, false, false, false, false, false, false] rfl rfl (take_ofW HT_.out HW_.out (by kernel_rfl)) (fun _ _ _ h => h) (Or.inl ⟨by rfl, ?_⟩) hHeld ?_ ?_
                          rotate_left
                          · intro w' s0
                            go_simp
                            with_reducible rfl
                          rotate_left
                          · simp only [Act.put, List.setIfInBounds_toArray, List.set_cons_zero, List.set_cons_succ, i64_w, i32_w]
                            rfl
                          refine one_ (i := 5) (N := some 101) #[true, true, true, true, true, true, false, false, false, false, false] rfl rfl (one_of HT_.out (by kernel_rfl)) (by decide) (fun K hK => ?_)
                          refine goes_ Try.func50 (by kernel_rfl) rfl #[.agg #[.slice A0_0 l0_0.length c0_0], .int .i64 a2, .slice A3 (l3.take (x15_3 : Int).toNat).length c3] (by rfl) rfl rfl (by (try simp only [List.map_toArray, List.map_cons, List.map_nil]); first | done | (rw [show (l3.take (x15_3 : Int).toNat).length = x15_3.toNat from (by rw [List.length_take]; have h_ : (x15_3 : Int) ≤ (l3.length : Int) := of_decide_eq_true (by first | (with_reducible assumption) | assumption); omega)] <;> rfl) | rfl | (simp only [List.length_drop, List.length_take]; rfl)) ?_
                          with_reducible refine (auto_Run.calls kj66 _ _ l0_0 a2 _ _ (l3.take (x15_3 : Int).toNat) t886 t887 _ ?side1 ?side2 ?side3 ?side4 A75.out).mono ?_
                          (case side1 => repeat (first | exact (Kd.C_below HR0_0.out HB.out) | (with_reducible refine Kd.C_alloc ?_ _) | (with_reducible refine Kd.C_drewN ?_ _) | (with_reducible refine Kd.C_drew ?_)))
                          (case side2 => exact HC0_0.out)
                          (case side3 => repeat (first | exact (Kd.C_below HR885.out HB.out) | (with_reducible refine Kd.C_alloc ?_ _) | (with_reducible refine Kd.C_drewN ?_ _) | (with_reducible refine Kd.C_drew ?_)))
                          (case side4 => exact HC885.out)
                          rintro e w82 ⟨rfl, hb⟩
                          refine ⟨_, rfl, ?_⟩
                          have n0_ := Aside0.mk (Kd.R_below (by (with_reducible repeat (first | apply Kd.R_alloc | apply Kd.R_drewN | apply Kd.R_drew)); exact HO_9.out) hb)
                          have n1_ := Aside0.mk (blk_below (g := gb867) (o := .cells #[.slice A0_0 l0_0.length c0_0] 24 (0, 0)) (by (with_reducible repeat (first | refine blk_drewN ?_ _ | refine blk_drew ?_ | refine blk_alloc ?_ _)); exact BK867.out) hb)
                          have n2_ := Aside0.mk (below_step (by repeat (first | (with_reducible first | exact HB.out | apply below_alloc | apply pw_below_drewN | apply below_drew1 | refine below_set ?_ GE867.out) | exact HB.out)) hb)
                          clear HO_9
                          clear BK867
                          clear HB
                          have HO_9 := n0_
                          have BK867 := n1_
                          have HB := n2_
                          clear n0_ n1_ n2_
                          (try clear hb)
                          (try clear hb2)
                          (try clear hk)
                          (try clear hi)
                          refine hK.out _ _ ((blk_cell BK867.out 0).trans rfl) (fun hHeld => ?_)
                          clear hK K
                          refine norm_ (a' := ?_) ?_ ?_
                          rotate_left
                          · show Act.put _ (some 101) _ = _
                            simp only [Act.put, List.setIfInBounds_toArray, List.set_cons_zero, List.set_cons_succ, i64_w, i32_w]
                            rfl
                          refine pure_ (i := 6) (N := some 95) (v := ?_) (a' := ?_) #[true, true, true, true, true, true, true, false, false, false, false] rfl rfl (any_of HT_.out (by kernel_rfl)) (fun _ _ _ h => h) (Or.inl ⟨by rfl, ?_⟩) ?_ ?_
                          rotate_left
                          · intro w'
                            go_simp
                            with_reducible rfl
                          rotate_left
                          · simp only [Act.put, List.setIfInBounds_toArray, List.set_cons_zero, List.set_cons_succ, i64_w, i32_w]
                            rfl
                          refine pure_ (i := 7) (N := some 102) (v := ?_) (a' := ?_) #[true, true, true, true, true, true, true, true, false, false, false] rfl rfl (any_of HT_.out (by kernel_rfl)) (fun _ _ _ h => h) (Or.inl ⟨by rfl, ?_⟩) ?_ ?_
                          rotate_left
                          · intro w'
                            go_simp
                            with_reducible rfl
                          rotate_left
                          · simp only [Act.put, List.setIfInBounds_toArray, List.set_cons_zero, List.set_cons_succ, i64_w, i32_w]
                            rfl
                          refine pure_ (i := 8) (N := some 103) (v := ?_) (a' := ?_) #[true, true, true, true, true, true, true, true, true, false, false] rfl rfl (any_of HT_.out (by kernel_rfl)) (fun _ _ _ h => h) (Or.inl ⟨by rfl, ?_⟩) ?_ ?_
                          rotate_left
                          · intro w'
                            go_simp
                            with_reducible rfl
                          rotate_left
                          · simp only [Act.put, List.setIfInBounds_toArray, List.set_cons_zero, List.set_cons_succ, i64_w, i32_w]
                            rfl
                          refine pure_ (i := 9) (N := some 18) (v := ?_) (a' := ?_) #[true, true, true, true, true, true, true, true, true, true, false] rfl rfl (any_of HT_.out (by kernel_rfl)) (fun _ _ _ h => h) (Or.inl ⟨by rfl, ?_⟩) ?_ ?_
                          rotate_left
                          · intro w'
                            go_simp
                            with_reducible rfl
                          rotate_left
                          · simp only [Act.put, List.setIfInBounds_toArray, List.set_cons_zero, List.set_cons_succ, i64_w, i32_w]
                            rfl
                          refine pure_ (i := 10) (N := some 19) (v := ?_) (a' := ?_) #[true, true, true, true, true, true, true, true, true, true, true] rfl rfl (any_of HT_.out (by kernel_rfl)) (fun _ _ _ h => h) (Or.inl ⟨by rfl, ?_⟩) ?_ ?_
                          rotate_left
                          · intro w'
                            go_simp
                            with_reducible rfl
                          rotate_left
                          · simp only [Act.put, List.setIfInBounds_toArray, List.set_cons_zero, List.set_cons_succ, i64_w, i32_w]
                            rfl
                          refine done_ (done_of HT_.out (by kernel_rfl)) ?_
                          go_upto_region 14 with (fail)
                          go_cut [109] (fun v109 wc => ∃ (kq : Nat) (x109_75 : Bool), v109 = .bool x109_75 ∧ Aside0 (mizmazelaw03_ResetMerged.j4 kq a1 a2 l3 t873 t876 x15_3 t883 t886 x109_75 l0_0 = some r) ∧ Aside0 (kq ≤ kj66) ∧ Aside0 (Kd.R (Kd.int .i64) 3 wc w.heap.size (fun _ => True) v874 t873) ∧ Aside0 (wc.heap[gb867]? = some (.cells #[(.slice A0_0 l0_0.length c0_0)] 24 (0, 0))) ∧ Aside0 (Below w.heap.size w wc))
                          case first =>
                            have H := HC76.out
                            clear HC76
                            by_cases c83 : t884 = 0
                            · rw [if_pos c83] at H
                              have c83b0 : (t884 == 0) = true := beq_iff_eq.mpr c83
                              have c83b1 : (t884 != 0) = false := bne_eq_false_iff_eq.mpr c83
                              clear c83
                              (first | rw [c83b0] | (simp only [i64_w, i32_w]; rw [c83b0]) | skip)
                              have H' := Aside0.mk H
                              clear H
                              go_wp2
                              go_meet
                              case rel => exact ⟨_, ((t887 != 0)), (by first | rfl | (simp; done) | (simp [*]; done)), H', ⟨by have := HJ4.out; have := HJ37.out; have := HK3.out; have := HJ66.out; first | omega | exact Nat.le_refl _⟩, ⟨by (with_reducible repeat (first | apply Kd.R_alloc | apply Kd.R_drewN | apply Kd.R_drew)); exact HO_9.out⟩, ⟨by (with_reducible repeat (first | refine blk_drewN ?_ _ | refine blk_drew ?_ | refine blk_alloc ?_ _)); exact BK867.out⟩, ⟨by repeat (first | (with_reducible first | exact HB.out | apply below_alloc | apply pw_below_drewN | apply below_drew1 | refine below_set ?_ GE867.out) | exact HB.out)⟩⟩
                            · rw [if_neg c83] at H
                              have c83b0 : (t884 == 0) = false := beq_eq_false_iff_ne.mpr c83
                              have c83b1 : (t884 != 0) = true := bne_iff_ne.mpr c83
                              (first | rw [c83b0] | (simp only [i64_w, i32_w]; rw [c83b0]) | skip)
                              have H' := Aside0.mk H
                              clear H
                              go_wp2
                              go_meet
                              case rel => exact ⟨_, (true), (by first | rfl | (simp; done) | (simp [*]; done)), H', ⟨by have := HJ4.out; have := HJ37.out; have := HK3.out; have := HJ66.out; first | omega | exact Nat.le_refl _⟩, ⟨by (with_reducible repeat (first | apply Kd.R_alloc | apply Kd.R_drewN | apply Kd.R_drew)); exact HO_9.out⟩, ⟨by (with_reducible repeat (first | refine blk_drewN ?_ _ | refine blk_drew ?_ | refine blk_alloc ?_ _)); exact BK867.out⟩, ⟨by repeat (first | (with_reducible first | exact HB.out | apply below_alloc | apply pw_below_drewN | apply below_drew1 | refine below_set ?_ GE867.out) | exact HB.out)⟩⟩
                          case rest =>
                            clear HC76
                            try clear c1
                            try clear p2
                            try clear c3
                            try clear c4
                            try clear c5
                            try clear c6
                            try clear c7
                            try clear c8
                            try clear c10
                            try clear c12
                            try clear c16
                            try clear c34
                            try clear c36
                            try clear c37
                            try clear c41
                            try clear c41b0
                            try clear c41b1
                            try clear c44
                            try clear c44b0
                            try clear c44b1
                            try clear c45
                            try clear c45b0
                            try clear c45b1
                            try clear c46
                            try clear c46b0
                            try clear c46b1
                            try clear c50
                            try clear c68
                            try clear c68b0
                            try clear c69
                            try clear c70
                            try clear c70b0
                            try clear c70b1
                            try clear c71
                            try clear c71b0
                            try clear c71b1
                            try clear c73
                            try clear c73b0
                            try clear c74
                            try clear c74b0
                            try clear c83
                            try clear c83b0
                            try clear c83b1
                            try clear hcz14_0
                            try clear hcz16_0
                            try clear hcz18_0
                            try clear hcz20_0
                            try clear hcz22_0
                            try clear hcz24_0
                            try clear hcz26_0
                            try clear hcz28_0
                            try clear hcz30_0
                            try clear hcz32_0
                            try clear hcz39_0
                            try clear hcz47_0
                            try clear hcz50_0
                            try clear hcz52_0
                            try clear hcz55_0
                            try clear hcz57_0
                            try clear hcz60_0
                            try clear hcz62_0
                            try clear hcz65_0
                            try clear hfz14_0
                            try clear hfz16_0
                            try clear hfz18_0
                            try clear hfz20_0
                            try clear hfz22_0
                            try clear hfz24_0
                            try clear hfz26_0
                            try clear hfz28_0
                            try clear hfz30_0
                            try clear hfz32_0
                            try clear hfz39_0
                            try clear hfz47_0
                            try clear hfz50_0
                            try clear hfz52_0
                            try clear hfz55_0
                            try clear hfz57_0
                            try clear hfz60_0
                            try clear hfz62_0
                            try clear hfz65_0
                            try clear p2
                            obtain ⟨kq, x109_75, rfl, HA, HJ75, HO_9, BK867, HB⟩ := hcut
                            cases kq with
                            | zero => exact absurd HA.out (by simp [mizmazelaw03_ResetMerged.j4])
                            | succ kj75 =>
                              have H := HA.out
                              clear HA
                              simp only [mizmazelaw03_ResetMerged.j4] at H
                              by_cases c84 : x109_75 = true
                              · subst c84
                                have H1 : (some false) = some r := by rw [if_pos rfl] at H; exact H
                                clear H
                                have H := H1
                                clear H1
                                obtain rfl := Option.some.inj H
                                go_wp2
                                go_ret
                                exact ⟨by first | rfl | (simp [errW_none, errW_some] <;> rfl) | (simp [*, errW_none, errW_some] <;> rfl), by repeat (first | (with_reducible first | exact HB.out | apply below_alloc | apply pw_below_drewN | apply below_drew1 | refine below_set ?_ GE867.out) | exact HB.out)⟩
                              · replace c84 := Bool.eq_false_iff.mpr c84
                                subst c84
                                have H1 : (if t883 = t886 then (if t876 = 0 then (if x15_3 < (t873.length : Int) then (some false) else (if x15_3 = (t873.length : Int) then (if 0 ≤ x15_3 then (if x15_3 ≤ (l3.length : Int) then ((mizmazeref01_Before.f kj75 (l3.take (x15_3 : Int).toNat) t873).bind fun t889 => (if t889 = true then (some false) else (mizmazelaw03_ResetMerged.l0 kj75 a1 a2 l3 t873 t876 (wrap64 (x15_3 + 1)) l0_0))) else (none)) else (none)) else (mizmazelaw03_ResetMerged.l0 kj75 a1 a2 l3 t873 t876 (wrap64 (x15_3 + 1)) l0_0))) else (some false)) else (mizmazelaw03_ResetMerged.l0 kj75 a1 a2 l3 t873 t876 (wrap64 (x15_3 + 1)) l0_0)) = some r := by rw [if_neg (show ¬ (false = true) by decide)] at H; exact H
                                clear H
                                have H := H1
                                clear H1
                                by_cases c85 : t883 = t886
                                · rw [if_pos c85] at H
                                  have c85b0 : (t883 == t886) = true := beq_iff_eq.mpr c85
                                  have c85b1 : (t883 != t886) = false := bne_eq_false_iff_eq.mpr c85
                                  clear c85
                                  by_cases c86 : t876 = 0
                                  · rw [if_pos c86] at H
                                    have c86b0 : (t876 == 0) = true := beq_iff_eq.mpr c86
                                    have c86b1 : (t876 != 0) = false := bne_eq_false_iff_eq.mpr c86
                                    clear c86
                                    by_cases c87 : x15_3 < (t873.length : Int)
                                    · rw [if_pos c87] at H
                                      have c87b0 : decide (x15_3 < (t873.length : Int)) = true := decide_eq_true c87
                                      clear c87
                                      obtain rfl := Option.some.inj H
                                      obtain ⟨Ao88, co88, eo88⟩ := Kd.R_slice HO_9.out
                                      subst eo88
                                      go_wp2
                                      go_ret
                                      exact ⟨by first | rfl | (simp [errW_none, errW_some] <;> rfl) | (simp [*, errW_none, errW_some] <;> rfl), by repeat (first | (with_reducible first | exact HB.out | apply below_alloc | apply pw_below_drewN | apply below_drew1 | refine below_set ?_ GE867.out) | exact HB.out)⟩
                                    · rw [if_neg c87] at H
                                      have c87b0 : decide (x15_3 < (t873.length : Int)) = false := decide_eq_false c87
                                      clear c87
                                      by_cases c89 : x15_3 = (t873.length : Int)
                                      · rw [if_pos c89] at H
                                        have c89b0 : (x15_3 == (t873.length : Int)) = true := beq_iff_eq.mpr c89
                                        have c89b1 : (x15_3 != (t873.length : Int)) = false := bne_eq_false_iff_eq.mpr c89
                                        clear c89
                                        by_cases c90 : 0 ≤ x15_3
                                        · rw [if_pos c90] at H
                                          have c90b0 := eq_true c90
                                          have c90b1 : decide (0 ≤ x15_3) = true := decide_eq_true c90
                                          clear c90
                                          by_cases c91 : x15_3 ≤ (l3.length : Int)
                                          · rw [if_pos c91] at H
                                            have c91b0 := eq_true c91
                                            have c91b1 : decide (x15_3 ≤ (l3.length : Int)) = true := decide_eq_true c91
                                            clear c91
                                            replace H := Option.bind_eq_some_iff.mp H
                                            obtain ⟨t889, A920, H⟩ := H
                                            replace H : (if t889 = true then (some false) else (mizmazelaw03_ResetMerged.l0 kj75 a1 a2 l3 t873 t876 (wrap64 (x15_3 + 1)) l0_0)) = some r := H
                                            have A92 := Aside0.mk A920
                                            clear A920
                                            by_cases c93 : t889 = true
                                            · subst c93
                                              have H1 : (some false) = some r := by rw [if_pos rfl] at H; exact H
                                              clear H
                                              have H := H1
                                              clear H1
                                              obtain rfl := Option.some.inj H
                                              obtain ⟨Ao94, co94, eo94⟩ := Kd.R_slice HO_9.out
                                              subst eo94
                                              obtain ⟨i095, hi095, _, hsz95, _⟩ := info_parts info3
                                              obtain ⟨hcut95, hA95, hC95⟩ := print_take_of (P := Try.prog) (Value.int .i64) 0 25 3 .i64 Try.underlying25 hi095 hsz95 A3 c3 l3 x15_3 (of_decide_eq_true (by first | (with_reducible assumption) | assumption)) (of_decide_eq_true (by first | (with_reducible assumption) | assumption)) HC3.out
                                              have HR888 := Aside0.mk (Kd.C_of_reads (h1 := fun _ => rfl) (hA95 _ (Kd.reads_of_C HR3.out)))
                                              have HC888 := Aside0.mk hC95
                                              clear hA95 hC95 hi095 hsz95
                                              go_wp2_with (first | (go_at_call 49; rw [show (x15_3 : Int).toNat = (l3.take (x15_3 : Int).toNat).length from (by rw [List.length_take]; have h_ : (x15_3 : Int) ≤ (l3.length : Int) := of_decide_eq_true (by first | (with_reducible assumption) | assumption); omega)]; (with_reducible refine (mizmazeref01_Before.calls kj75 _ _ (l3.take (x15_3 : Int).toNat) _ _ t873 true _ ?side1 ?side2 ?side3 ?side4 A92.out).mono ?_); (case side1 => repeat (first | exact (Kd.C_below HR888.out HB.out) | (with_reducible refine Kd.C_alloc ?_ _) | (with_reducible refine Kd.C_drewN ?_ _) | (with_reducible refine Kd.C_drew ?_))); (case side2 => exact HC888.out); (case side3 => repeat (first | exact (Kd.R_reads' HO_9.out).2.2 | (with_reducible refine Kd.C_alloc ?_ _) | (with_reducible refine Kd.C_drewN ?_ _) | (with_reducible refine Kd.C_drew ?_))); (case side4 => exact (Kd.R_reads' HO_9.out).2.1); rintro e w' ⟨rfl, ⟨nd, rfl⟩⟩))
                                              go_ret
                                              exact ⟨by first | rfl | (simp [errW_none, errW_some] <;> rfl) | (simp [*, errW_none, errW_some] <;> rfl), by repeat (first | (with_reducible first | exact HB.out | apply below_alloc | apply pw_below_drewN | apply below_drew1 | refine below_set ?_ GE867.out) | exact HB.out)⟩
                                            · replace c93 := Bool.eq_false_iff.mpr c93
                                              subst c93
                                              have H1 : (mizmazelaw03_ResetMerged.l0 kj75 a1 a2 l3 t873 t876 (wrap64 (x15_3 + 1)) l0_0) = some r := by rw [if_neg (show ¬ (false = true) by decide)] at H; exact H
                                              clear H
                                              have H := H1
                                              clear H1
                                              have H' := Aside0.mk H
                                              clear H
                                              obtain ⟨Ao96, co96, eo96⟩ := Kd.R_slice HO_9.out
                                              subst eo96
                                              obtain ⟨i097, hi097, _, hsz97, _⟩ := info_parts info3
                                              obtain ⟨hcut97, hA97, hC97⟩ := print_take_of (P := Try.prog) (Value.int .i64) 0 25 3 .i64 Try.underlying25 hi097 hsz97 A3 c3 l3 x15_3 (of_decide_eq_true (by first | (with_reducible assumption) | assumption)) (of_decide_eq_true (by first | (with_reducible assumption) | assumption)) HC3.out
                                              have HR888 := Aside0.mk (Kd.C_of_reads (h1 := fun _ => rfl) (hA97 _ (Kd.reads_of_C HR3.out)))
                                              have HC888 := Aside0.mk hC97
                                              clear hA97 hC97 hi097 hsz97
                                              go_wp2_with (first | (go_at_call 49; rw [show (x15_3 : Int).toNat = (l3.take (x15_3 : Int).toNat).length from (by rw [List.length_take]; have h_ : (x15_3 : Int) ≤ (l3.length : Int) := of_decide_eq_true (by first | (with_reducible assumption) | assumption); omega)]; (with_reducible refine (mizmazeref01_Before.calls kj75 _ _ (l3.take (x15_3 : Int).toNat) _ _ t873 false _ ?side1 ?side2 ?side3 ?side4 A92.out).mono ?_); (case side1 => repeat (first | exact (Kd.C_below HR888.out HB.out) | (with_reducible refine Kd.C_alloc ?_ _) | (with_reducible refine Kd.C_drewN ?_ _) | (with_reducible refine Kd.C_drew ?_))); (case side2 => exact HC888.out); (case side3 => repeat (first | exact (Kd.R_reads' HO_9.out).2.2 | (with_reducible refine Kd.C_alloc ?_ _) | (with_reducible refine Kd.C_drewN ?_ _) | (with_reducible refine Kd.C_drew ?_))); (case side4 => exact (Kd.R_reads' HO_9.out).2.1); rintro e w' ⟨rfl, ⟨nd, rfl⟩⟩))
                                              go_roundg kj75
                                              case measure => have := HJ4.out; have := HJ37.out; have := HK3.out; have := HJ66.out; have := HJ75.out; omega
                                              case rel => exact ⟨(wrap64 (x15_3 + 1)), (by first | rfl | (simp; done) | (simp [*]; done)), H', ⟨by have := HJ4.out; have := HJ37.out; have := HK3.out; have := HJ66.out; have := HJ75.out; omega⟩, ⟨by (with_reducible repeat (first | apply Kd.R_alloc | apply Kd.R_drewN | apply Kd.R_drew)); exact HO_9.out⟩, ⟨by (with_reducible repeat (first | refine blk_drewN ?_ _ | refine blk_drew ?_ | refine blk_alloc ?_ _)); exact BK867.out⟩, ⟨by repeat (first | (with_reducible first | exact HB.out | apply below_alloc | apply pw_below_drewN | apply below_drew1 | refine below_set ?_ GE867.out) | exact HB.out)⟩⟩
                                          · rw [if_neg c91] at H
                                            exact absurd H (by simp)
                                        · rw [if_neg c90] at H
                                          exact absurd H (by simp)
                                      · rw [if_neg c89] at H
                                        have c89b0 : (x15_3 == (t873.length : Int)) = false := beq_eq_false_iff_ne.mpr c89
                                        have c89b1 : (x15_3 != (t873.length : Int)) = true := bne_iff_ne.mpr c89
                                        have H' := Aside0.mk H
                                        clear H
                                        obtain ⟨Ao98, co98, eo98⟩ := Kd.R_slice HO_9.out
                                        subst eo98
                                        go_wp2
                                        go_roundg kj75
                                        case measure => have := HJ4.out; have := HJ37.out; have := HK3.out; have := HJ66.out; have := HJ75.out; omega
                                        case rel => exact ⟨(wrap64 (x15_3 + 1)), (by first | rfl | (simp; done) | (simp [*]; done)), H', ⟨by have := HJ4.out; have := HJ37.out; have := HK3.out; have := HJ66.out; have := HJ75.out; omega⟩, ⟨by (with_reducible repeat (first | apply Kd.R_alloc | apply Kd.R_drewN | apply Kd.R_drew)); exact HO_9.out⟩, ⟨by (with_reducible repeat (first | refine blk_drewN ?_ _ | refine blk_drew ?_ | refine blk_alloc ?_ _)); exact BK867.out⟩, ⟨by repeat (first | (with_reducible first | exact HB.out | apply below_alloc | apply pw_below_drewN | apply below_drew1 | refine below_set ?_ GE867.out) | exact HB.out)⟩⟩
                                  · rw [if_neg c86] at H
                                    have c86b0 : (t876 == 0) = false := beq_eq_false_iff_ne.mpr c86
                                    have c86b1 : (t876 != 0) = true := bne_iff_ne.mpr c86
                                    obtain rfl := Option.some.inj H
                                    go_wp2
                                    go_ret
                                    exact ⟨by first | rfl | (simp [errW_none, errW_some] <;> rfl) | (simp [*, errW_none, errW_some] <;> rfl), by repeat (first | (with_reducible first | exact HB.out | apply below_alloc | apply pw_below_drewN | apply below_drew1 | refine below_set ?_ GE867.out) | exact HB.out)⟩
                                · rw [if_neg c85] at H
                                  have c85b0 : (t883 == t886) = false := beq_eq_false_iff_ne.mpr c85
                                  have c85b1 : (t883 != t886) = true := bne_iff_ne.mpr c85
                                  have H' := Aside0.mk H
                                  clear H
                                  go_wp2
                                  go_roundg kj75
                                  case measure => have := HJ4.out; have := HJ37.out; have := HK3.out; have := HJ66.out; have := HJ75.out; omega
                                  case rel => exact ⟨(wrap64 (x15_3 + 1)), (by first | rfl | (simp; done) | (simp [*]; done)), H', ⟨by have := HJ4.out; have := HJ37.out; have := HK3.out; have := HJ66.out; have := HJ75.out; omega⟩, ⟨by (with_reducible repeat (first | apply Kd.R_alloc | apply Kd.R_drewN | apply Kd.R_drew)); exact HO_9.out⟩, ⟨by (with_reducible repeat (first | refine blk_drewN ?_ _ | refine blk_drew ?_ | refine blk_alloc ?_ _)); exact BK867.out⟩, ⟨by repeat (first | (with_reducible first | exact HB.out | apply below_alloc | apply pw_below_drewN | apply below_drew1 | refine below_set ?_ GE867.out) | exact HB.out)⟩⟩
                        · rw [if_neg c71] at H
                          exact absurd H (by simp)
                      · rw [if_neg c70] at H
                        exact absurd H (by simp)
                    · replace c69 := Bool.eq_false_iff.mpr c69
                      subst c69
                      have H1 : ((mizmazelaw03_awake.f kj66).bind fun t881 => (some t881)) = some r := by rw [if_neg (show ¬ (false = true) by decide)] at H; exact H
                      clear H
                      have H := H1
                      clear H1
                      replace H := Option.bind_eq_some_iff.mp H
                      obtain ⟨t881, A990, H⟩ := H
                      replace H : (some t881) = some r := H
                      have A99 := Aside0.mk A990
                      clear A990
                      obtain rfl := Option.some.inj H
                      go_wp2_with (first | ((with_reducible refine gate_callee (f := 37) rfl ?_); refine goesL_ (some 136) rfl rfl Try.func37 (by kernel_rfl) rfl #[] rfl (by (try simp only [List.map_toArray, List.map_cons, List.map_nil]); first | done | rfl | (simp only [List.length_drop, List.length_take]; rfl)) ?_; (with_reducible refine (mizmazelaw03_awake.calls kj66  t881 _ A99.out).mono ?_); rintro e w100 ⟨rfl, hb⟩; refine ⟨_, rfl, ?_⟩; have n0_ := Aside0.mk (Kd.R_below (by (with_reducible repeat (first | apply Kd.R_alloc | apply Kd.R_drewN | apply Kd.R_drew)); exact HO_9.out) hb); have n1_ := Aside0.mk (blk_below (g := gb867) (o := .cells #[.slice A0_0 l0_0.length c0_0] 24 (0, 0)) (by (with_reducible repeat (first | refine blk_drewN ?_ _ | refine blk_drew ?_ | refine blk_alloc ?_ _)); exact BK867.out) hb); have n2_ := Aside0.mk (below_step (by repeat (first | (with_reducible first | exact HB.out | apply below_alloc | apply pw_below_drewN | apply below_drew1 | refine below_set ?_ GE867.out) | exact HB.out)) hb); clear HO_9; clear BK867; clear HB; have HO_9 := n0_; have BK867 := n1_; have HB := n2_; clear n0_ n1_ n2_; (try clear hb); (try clear hb2); (try clear hk); (try clear hi)))
                      go_ret
                      exact ⟨by first | rfl | (simp [errW_none, errW_some] <;> rfl) | (simp [*, errW_none, errW_some] <;> rfl), by repeat (first | (with_reducible first | exact HB.out | apply below_alloc | apply pw_below_drewN | apply below_drew1 | refine below_set ?_ GE867.out) | exact HB.out)⟩

end Go.Proofs.Ytogoppejcmaocaa.Q
end
