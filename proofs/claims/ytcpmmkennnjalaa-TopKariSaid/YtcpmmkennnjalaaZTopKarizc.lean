/- In any Eulerian automaton that has a reset word, whatever set of states, neither empty nor all, is led into by more states with a word of at most n - 1 letters, and its shortest reset word has at most n^2 - 3n + 3 letters; in any circular one at most (n - 1)^2. (At most 9 states) (text 29 of 42) -/
import Derived.Test.YtcpmmkennnjalaaZTopKaris
import Derived.Test.YtcpmmkennnjalaaZTopKariy
import Derived.Test.YtcpmmkennnjalaaZTopKarizb
section
namespace Go.Proofs.Ytcpmmkennnjalaa.Q
open Go.RowKit Go.Proofs.YtcpmmkennnjalaaW.PrintWords Go.Proofs.YtcpmmkennnjalaaW.PrintLast Go.Proofs.YtcpmmkennnjalaaW.PrintMore
set_option linter.unusedVariables false
set_option linter.unusedSimpArgs false
/-! ### Reset's memory -/
theorem int_not_map {α : Type} {d : Kd α} {e base b : Nat} {ok : Nat → Prop} {W : World} {v : Value} {l : List α} (h : d.R e W base ok v l) {es : List ((Int × Int) × Value)} (hm : MapIs PairG encP W b es) : some b ≠ v.ownBlock := by
  intro e
  obtain ⟨cells, hc⟩ := Kd.R_typed h b e.symm
  obtain ⟨arr, ck, h2, _⟩ := hm
  rw [hc] at h2; cases h2
structure RI (w W : World) (A0 : Option Addr) (n c0 D M b : Nat) (left : List ((Int × Int) × Int)) (v : Value) (out : List Int) (u : Value) (set : List Int) : Prop where
  below : Below w.heap.size w W
  bD : W.heap[D]? = some (.cells #[.slice A0 n c0] 24 (0, 0))
  bM : W.heap[M]? = some (.cells #[.slice A0 n c0, .map (some b)] 100 (0, 0))
  left : MapIs PairG encP W b (lv left)
  out : Kd.R (Kd.int .i64) 3 W w.heap.size (fun _ => True) v out
  st : Kd.R (Kd.int .i64) 3 W w.heap.size (fun _ => True) u set
  ne : NeRow v u
theorem int_E : (Kd.int .i64).E = [] := rfl
theorem R_far {x y : Value} {W W1 : World} {base : Nat} {l : List Int} (hR : Kd.R (Kd.int .i64) 3 W base (fun _ => True) y l) (h : NeRow x y) (hg : W.grownBy W1 x.ownBlock) : Kd.R (Kd.int .i64) 3 W1 base (fun _ => True) y l :=
  Kd.R_grown2 hR int_E hg fun k hk e => h k hk e.symm
theorem ne_hat {x x1 y : Value} {W : World} {base : Nat} {l : List Int} {ok : Nat → Prop} (h : NeRow x y) (hR : Kd.R (Kd.int .i64) 3 W base ok y l) (hat : x1.ownBlock = x.ownBlock ∨ ∃ k, x1.ownBlock = some k ∧ W.heap.size ≤ k) : NeRow x1 y := by
  intro k hk hk'
  rcases hat with hat | ⟨k', hk1, hle⟩
  · exact h k (hat ▸ hk) hk'
  · have := Kd.R_lt hR k hk'
    rw [hk1] at hk; injection hk with hk; omega
theorem ne_young {x y : Value} {W W1 : World} {base : Nat} {l l' : List Int} {ok ok' : Nat → Prop} (hx : Kd.R (Kd.int .i64) 3 W base ok x l) (hy : Kd.R (Kd.int .i64) 3 W1 W.heap.size ok' y l') : NeRow x y := by
  intro k hk hk'
  have := Kd.R_lt hx k hk
  have := Kd.R_base hy k hk'
  omega
section
variable {w W W1 : World} {A0 : Option Addr} {n c0 D M b : Nat} {left : List ((Int × Int) × Int)} {v v1 u u1 : Value} {out out1 set set1 : List Int}
theorem RI.next (h : RI w W A0 n c0 D M b left v out u set) (hb : Below W.heap.size W W1) : RI w W1 A0 n c0 D M b left v out u set :=
  ⟨below_step h.below hb, blk_below h.bD hb, blk_below h.bM hb, h.left.below hb, Kd.R_below h.out hb, Kd.R_below h.st hb, h.ne⟩
theorem RI.setTo (h : RI w W A0 n c0 D M b left v out u set) (hg : W.grownBy W1 u.ownBlock) (hR : Kd.R (Kd.int .i64) 3 W1 w.heap.size (fun _ => True) u1 set1) (he : u1.ownBlock = u.ownBlock) : RI w W1 A0 n c0 D M b left v out u1 set1 :=
  ⟨pw_below_grown h.below _ h.below.size hg (fun k e => Kd.R_base h.st k e), blk_grown h.bD hg (Kd.R_ne h.st h.bD (by decide)), blk_grown h.bM hg (Kd.R_ne h.st h.bM (by decide)), h.left.kept hg (int_not_map h.st h.left),
    R_far h.out (ne_symm h.ne) hg, hR, fun k hk hk' => h.ne k hk (he ▸ hk')⟩
theorem RI.outTo (h : RI w W A0 n c0 D M b left v out u set) (hg : W.grownBy W1 v.ownBlock) (hR : Kd.R (Kd.int .i64) 3 W1 w.heap.size (fun _ => True) v1 out1) (hat : v1.ownBlock = v.ownBlock ∨ ∃ k, v1.ownBlock = some k ∧ W.heap.size ≤ k) : RI w W1 A0 n c0 D M b left v1 out1 u set :=
  ⟨pw_below_grown h.below _ h.below.size hg (fun k e => Kd.R_base h.out k e), blk_grown h.bD hg (Kd.R_ne h.out h.bD (by decide)), blk_grown h.bM hg (Kd.R_ne h.out h.bM (by decide)), h.left.kept hg (int_not_map h.out h.left),
    hR, R_far h.st h.ne hg, ne_hat h.ne h.st hat⟩
end
set_option maxHeartbeats 4000000 in
set_option maxRecDepth 100000 in
theorem reset_Reset.calls (k : Nat) (A0_0 : Option Addr) (c0_0 : Nat) (l0_0 : List (List Int)) (r1 : List Int) (r2 : Int) (w : World) (hr0_0 : Kd.C (Kd.slice 3 (Kd.int .i64)) w A0_0 l0_0.length l0_0) (hc0_0 : l0_0.length ≤ c0_0) (h : reset_Reset.f k l0_0 = some (r1, r2)) :
    Calls Try.prog 21 #[.agg #[.slice A0_0 l0_0.length c0_0]] w fun e w' => ∃ v0_ : Value, e = .returned (.tuple #[v0_, .int .i64 r2]) ∧ Kd.R (Kd.int .i64) 3 w' w.heap.size (fun _ => True) v0_ r1 ∧ Below w.heap.size w w' := by
  have HR := Aside0.mk hr0_0
  have HC := Aside0.mk hc0_0
  have HB0 := Below.refl w.heap.size w
  clear hr0_0 hc0_0
  have H := h
  clear h
  unfold reset_Reset.f at H
  replace H := Option.bind_eq_some_iff.mp H
  obtain ⟨v, hv, H⟩ := H
  have HV := Aside0.mk hv
  clear hv
  cases v with
  | false =>
    rw [if_neg (by decide)] at H
    simp only [Option.some.injEq, Prod.mk.injEq] at H
    obtain ⟨rfl, rfl⟩ := H
    go_enter Try.func21, Try.ntmps21
    go_wp2_with ((with_reducible refine gate_dst (N := 1) rfl ?_); refine box_event ?hg (N := 1) ?hd (cs := #[.slice A0_0 l0_0.length c0_0]) (t := 24) ?hr ?_; (case hd => rfl); (case hg => rfl); (case hr => first | (go_simp; done) | (go_simp; rfl)); intro D hBe w1 hbox hb1;  have hcb : w1.cell? ⟨D, 0, none⟩ = some (.slice A0_0 l0_0.length c0_0) := (blk_cell hbox 0).trans rfl; have HBox := Aside0.mk hbox; have HB1 := Aside0.mk (below_step HB0 hb1); have HBE := Aside0.mk (show w.heap.size ≤ D by omega); clear hbox hb1 hBe)
    refine (auto_Valid.calls _ _ l0_0 false _ (Kd.C_below HR.out HB1.out) HC.out HV.out).mono ?_
    rintro e w2 ⟨rfl, hb2⟩
    have HB2 := Aside0.mk (below_step HB1.out hb2)
    have HBox2 := Aside0.mk (blk_below HBox.out hb2)
    have hcb2 : w2.cell? ⟨D, 0, none⟩ = some (.slice A0_0 l0_0.length c0_0) := (blk_cell HBox2.out 0).trans rfl
    clear hb2 hcb
    go_wp2
    (try simp only [Exit.noGoto_ret])
    go_ret2
    exact ⟨_, rfl, Kd.R_nil _ _ _ _ _, HB2.out⟩
  | true =>
    rw [if_pos rfl] at H
    replace H := Option.bind_eq_some_iff.mp H
    obtain ⟨left, hleft, H⟩ := H
    replace H := Option.bind_eq_some_iff.mp H
    obtain ⟨set0, hset, H⟩ := H
    have HLeft := Aside0.mk hleft
    have HSet := Aside0.mk hset
    have H' := Aside0.mk H
    clear hleft hset H
    go_enter Try.func21, Try.ntmps21
    go_wp2_with ((with_reducible refine gate_dst (N := 1) rfl ?_); refine box_event ?hg (N := 1) ?hd (cs := #[.slice A0_0 l0_0.length c0_0]) (t := 24) ?hr ?_; (case hd => rfl); (case hg => rfl); (case hr => first | (go_simp; done) | (go_simp; rfl)); intro D hBe w1 hbox hb1;  have hcb : w1.cell? ⟨D, 0, none⟩ = some (.slice A0_0 l0_0.length c0_0) := (blk_cell hbox 0).trans rfl; have HBox := Aside0.mk hbox; have HB1 := Aside0.mk (below_step HB0 hb1); have HBE := Aside0.mk (show w.heap.size ≤ D by omega); clear hbox hb1 hBe)
    refine (auto_Valid.calls _ _ l0_0 true _ (Kd.C_below HR.out HB1.out) HC.out HV.out).mono ?_
    rintro e w2 ⟨rfl, hb2⟩
    have HB2 := Aside0.mk (below_step HB1.out hb2)
    have HBox2 := Aside0.mk (blk_below HBox.out hb2)
    have hcb2 : w2.cell? ⟨D, 0, none⟩ = some (.slice A0_0 l0_0.length c0_0) := (blk_cell HBox2.out 0).trans rfl
    clear hb2 hcb
    go_wp2_with fail
    refine (newMerger.calls k A0_0 c0_0 l0_0 left _ (Kd.C_below HR.out HB2.out) HC.out HLeft.out).mono ?_
    rintro e w5 ⟨M, b, rfl, hMs, hbs, hM, hL, hb5⟩
    have HB5 := Aside0.mk (below_step HB2.out hb5)
    have HD5 := Aside0.mk (blk_below HBox2.out hb5)
    have HM5 := Aside0.mk hM
    have HL5 := Aside0.mk hL
    have hcb5 : w5.cell? ⟨D, 0, none⟩ = some (.slice A0_0 l0_0.length c0_0) := (blk_cell HD5.out 0).trans rfl
    clear hMs hbs hM hL hb5 hcb2
    go_wp2_with fail
    refine (auto_All.calls k A0_0 c0_0 l0_0 set0 _ (Kd.C_below HR.out HB5.out) HC.out HSet.out).mono ?_
    rintro e w6 ⟨v6, rfl, hS6, hb6⟩
    have HI6 : Aside0 (RI w w6 A0_0 l0_0.length c0_0 D M b left (.slice none 0 0) [] v6 set0) := ⟨⟨below_step HB5.out hb6, blk_below HD5.out hb6, blk_below HM5.out hb6, HL5.out.below hb6, Kd.R_nil _ _ _ _ _, Kd.R_lower hS6 HB5.out.size, ne_nil _⟩⟩
    clear hS6 hb6 hcb5
    go_wp2_with fail
    go_loopg [5, 6] k (fun kq v5 v6 w' => ∃ (out set : List Int), Aside0 (reset_Reset.l0 kq l0_0 left out set = some (r1, r2)) ∧ Aside0 (kq ≤ k) ∧ Aside0 (RI w w' A0_0 l0_0.length c0_0 D M b left v5 out v6 set))
    case atStart => exact ⟨[], set0, H', ⟨Nat.le_refl _⟩, HI6⟩
    case round =>
      clear H' HI6
      obtain ⟨out, set, HA, HK, HI⟩ := hrel
      cases gk with
      | zero => exact absurd HA.out (by simp [reset_Reset.l0])
      | succ k1 =>
        have H := HA.out
        clear HA
        simp only [reset_Reset.l0] at H
        obtain ⟨A6, c6, e6, hc6, hC6⟩ := Kd.R_reads HI.out.st
        have e6' : u6 = .slice A6 set.length c6 := e6
        clear e6
        subst e6'
        by_cases d1 : (set.length : Int) > 1
        · rw [if_pos d1] at H
          obtain ⟨g, cap, eg, hgb, hgl, _⟩ := Kd.R_form HI.out.st (by omega)
          injection eg with eg1 eg2 eg3
          subst eg1
          subst eg3
          clear eg2
          replace H := Option.bind_eq_some_iff.mp H
          obtain ⟨⟨t1, t2, ok⟩, hnear, H⟩ := H
          simp only at H
          have HNear := Aside0.mk hnear
          have d1b : decide (1 < (set.length : Int)) = true := decide_eq_true d1
          have HC6 := Aside0.mk hC6
          have Hc6 := Aside0.mk hc6
          have D1 := Aside0.mk d1
          clear hnear d1 hC6 hc6
          cases ok with
          | false =>
            rw [if_neg (by decide)] at H
            simp only [Option.some.injEq, Prod.mk.injEq] at H
            obtain ⟨rfl, rfl⟩ := H
            go_wp2_with (refine (merger_nearest.calls k1 l0_0.length left M b _ (some ⟨g, 0, none⟩) c6 set t1 t2 false _ HI.out.bM HI.out.left HC6.out Hc6.out HNear.out).mono ?_; rintro e w7 ⟨rfl, hb7⟩; have HI7 := Aside0.mk (HI.out.next hb7); clear hb7)
            (try simp only [Exit.noGoto_ret])
            go_ret2
            exact ⟨_, rfl, Kd.R_nil _ _ _ _ _, below_step HI7.out.below (below_alloc (Below.refl _ _) _)⟩
          | true =>
            rw [if_pos rfl] at H
            replace H := Option.bind_eq_some_iff.mp H
            obtain ⟨⟨wd, wok⟩, hword, H⟩ := H
            simp only at H
            have HWord := Aside0.mk hword
            clear hword
            by_cases e1 : out.length + wd.length < 17592186044416
            · rw [if_pos e1] at H
              by_cases e2 : set.length < 4611686018427387904
              · rw [if_pos e2] at H
                replace H := Option.bind_eq_some_iff.mp H
                obtain ⟨set2, hset2, H⟩ := H
                by_cases e3 : set2.length < 4611686018427387904
                · rw [if_pos e3] at H
                  by_cases e4 : (tidy set2).length ≤ set2.length
                  · rw [if_pos e4] at H
                    have H' := Aside0.mk H
                    have HS2 := Aside0.mk hset2
                    have E1 := Aside0.mk e1
                    have E3 := Aside0.mk e3
                    have E4 := Aside0.mk e4
                    clear H hset2 e1 e2 e3 e4
                    go_wp2_with (refine (merger_nearest.calls k1 l0_0.length left M b _ (some ⟨g, 0, none⟩) c6 set t1 t2 true _ HI.out.bM HI.out.left HC6.out Hc6.out HNear.out).mono ?_; rintro e w7 ⟨rfl, hb7⟩; have HI7 := Aside0.mk (HI.out.next hb7); clear hb7)
                    obtain ⟨W8, hW8⟩ : ∃ W8, W8 = w7.alloc (.cells #[.int .i64 t1, .int .i64 t2] 74) := ⟨_, rfl⟩
                    have hb8 : Below w7.heap.size w7 W8 := by rw [hW8]; exact below_alloc (Below.refl _ _) _
                    rw [← hW8]
                    have HI8 := Aside0.mk (HI7.out.next hb8)
                    clear hb8 hW8 HI7
                    refine (merger_word.calls k1 A0_0 c0_0 l0_0 left M b t1 t2 wd wok _ (Kd.C_below HR.out HI8.out.below) HC.out HI8.out.bM HI8.out.left HWord.out).mono ?_
                    rintro e w9 ⟨v9, rfl, hR9, hb9⟩
                    have HI9 := Aside0.mk (HI8.out.next hb9)
                    have HN1 := Aside0.mk (ne_young HI8.out.out hR9)
                    have HN2 := Aside0.mk (ne_young HI8.out.st hR9)
                    have HW9 := Aside0.mk (Kd.R_lower hR9 HI8.out.below.size)
                    obtain ⟨A9, c9, e9, hc9, hC9⟩ := Kd.R_reads hR9
                    subst e9
                    have HC9 := Aside0.mk hC9
                    have Hc9 := Aside0.mk hc9
                    clear hb9 hR9 hC9 hc9 HI8
                    go_wp2_with ((with_reducible refine gate_builtin (b := .append) (xs := #[.tmp 37, .tmp 38]) rfl ?_); at_builtin; refine Kd.R_append_rows (Kd.int .i64) (Rr := fun (x : Int) cs => cs = [.int .i64 x]) (w0 := w) w.heap.size rfl (.tmp 37) (.tmp 38) 34 3 (.int .i64 0) 8 rfl Try.underlying34 info3 rfl (by decide) (by omega) u5 out wd A9 wd.length c9 (fun _ => True) (fun _ => False) rfl rfl ?aO HC9.out ?aP (fun _ hk => hk.elim) ?aF ?aB ?aS ?aL ?_; (case aP => exact (fun x cs e => e)); (case aB => exact HI9.out.below); (case aF => exact (fun _ _ => trivial)); (case aO => exact HI9.out.out); (case aS => exact HI9.out.below.size); (case aL => have := E1.out; omega); intro v10 w10 ho hb hg hat;  have HI10 := Aside0.mk (HI9.out.outTo hg ho hat); have HW10 := Aside0.mk (R_far HW9.out HN1.out hg); clear ho hb hg hat)
                    go_loopg [42] k1 (fun kq v42 w' => ∃ (i : Int) (st : List Int), v42 = .int .i64 i ∧ Aside0 (reset_Reset.l1 kq l0_0 st wd i = some set2) ∧ Aside0 (kq ≤ k1) ∧ Aside0 (st.length = set.length) ∧ Aside0 (RI w w' A0_0 l0_0.length c0_0 D M b left v10 (out ++ wd) (.slice (some ⟨g, 0, none⟩) set.length c6) st) ∧ Aside0 (Kd.R (Kd.int .i64) 3 w' w.heap.size (fun _ => True) (.slice A9 wd.length c9) wd))
                    case atStart => exact ⟨0, set, rfl, HS2, ⟨Nat.le_refl _⟩, ⟨rfl⟩, HI10, HW10⟩
                    case round =>
                      clear HS2 HI10 HW10 HI9 HW9 HC9 HI HC6
                      obtain ⟨i, st, rfl, HA, HK1, HSl, HI, HW⟩ := hrel
                      cases gk with
                      | zero => exact absurd HA.out (by simp [reset_Reset.l1])
                      | succ k2 =>
                        have H := HA.out
                        clear HA
                        simp only [reset_Reset.l1] at H
                        rw [HSl.out] at H
                        by_cases f1 : i < (set.length : Int)
                        · rw [if_pos f1] at H
                          by_cases f2 : 0 ≤ i
                          · rw [if_pos f2] at H
                            replace H := Option.bind_eq_some_iff.mp H
                            obtain ⟨t, ht, H⟩ := H
                            have HT := Aside0.mk ht
                            have HS2 := Aside0.mk H
                            obtain ⟨hx0, hf0⟩ := Kd.R_celln 0 HI.out.st i f2 f1
                            have hx0' : wr.cell? ⟨g, i.toNat, none⟩ = some (.int .i64 (rd st i)) := hx0
                            have hcb : wr.cell? ⟨D, 0, none⟩ = some (.slice A0_0 l0_0.length c0_0) := (blk_cell HI.out.bD 0).trans rfl
                            have f1b := decide_eq_true f1
                            have F1 := Aside0.mk f1
                            have F2 := Aside0.mk f2
                            have q1 := eq_true f1
                            have q2 := eq_true f2
                            obtain ⟨_, _, eW, _, hCW⟩ := Kd.R_reads HW.out
                            injection eW with eW1 eW2 eW3
                            subst eW1
                            have HCW := Aside0.mk hCW
                            clear H ht hx0 f1 f2 eW2 eW3 hCW
                            go_wp2_with (first | (refine (auto_Lead.calls k2 A0_0 c0_0 l0_0 (rd st i) _ c9 wd t _ (Kd.C_below HR.out HI.out.below) HC.out HCW.out Hc9.out HT.out).mono ?_; rintro e w11 ⟨rfl, hb11⟩; have HI11 := Aside0.mk (HI.out.next hb11); have HW11 := Aside0.mk (Kd.R_below HW.out hb11);  obtain ⟨hx11, hf11⟩ := Kd.R_celln 0 HI11.out.st i F2.out F1.out; obtain ⟨hO1, hG1⟩ := Kd.R_putg HI11.out.st i t; have HO1 := Aside0.mk hO1; have HG1 := Aside0.mk hG1; clear hb11 hcb hx0' hf0 hO1 hG1)  | ((with_reducible refine gate_store (t := 3) (p := 53) rfl ?_); refine store_event (t := 3) (p := 53) (v := ?vo) (w1 := (w11.setCell ⟨g, i.toNat, none⟩ (.int .i64 t))) ?hg ?ho ?hn ?hr ?_; (case ho => rfl); (case hg => rfl); (case hn => rfl); (case hr => first | (go_simp; done) | (go_simp; rfl)); intro w12 hw;  have HI12 := Aside0.mk (HI11.out.setTo (W1 := w12) (by rw [hw]; exact HG1.out) (by rw [hw]; exact HO1.out) rfl); have HW12 := Aside0.mk (R_far (W1 := w12) HW11.out HN2.out (by rw [hw]; exact HG1.out)); clear hw hx11 hf11))
                            go_roundg k2
                            case measure => omega
                            case rel => exact ⟨_, _, rfl, HS2, ⟨by have := HK1.out; omega⟩, ⟨by rw [List.length_set]; exact HSl.out⟩, HI12, HW12⟩
                          · rw [if_neg f2] at H; exact absurd H (by simp)
                        · rw [if_neg f1] at H
                          obtain rfl := Option.some.inj H
                          have f1b := decide_eq_false f1
                          clear H f1
                          go_wp2_with (first | (go_at_call 54; refine (sort_R HI.out.st E3.out).mono ?_; rintro e w13 ⟨rfl, hS, hg⟩; have HI13 := Aside0.mk (HI.out.setTo hg hS rfl); clear hS hg)  | (go_at_call 55; refine (compact_R HI13.out.st (by have := E4.out; rw [tidy_eq] at this; rw [List.length_mergeSort]; exact this)).mono ?_; rintro e w14 ⟨v14, rfl, hown, hS, hg⟩; rw [← tidy_eq] at hS; have HI14 := Aside0.mk (HI13.out.setTo hg hS hown); clear hS hg hown))
                          go_roundg k1
                          case measure => omega
                          case rel => exact ⟨_, _, H', ⟨by have := HK.out; omega⟩, HI14⟩
                  · rw [if_neg e4] at H; exact absurd H (by simp)
                · rw [if_neg e3] at H; exact absurd H (by simp)
              · rw [if_neg e2] at H; exact absurd H (by simp)
            · rw [if_neg e1] at H; exact absurd H (by simp)
        · rw [if_neg d1] at H
          simp only [Option.some.injEq, Prod.mk.injEq] at H
          obtain ⟨rfl, rfl⟩ := H
          have d1b : decide (1 < (set.length : Int)) = false := decide_eq_false d1
          clear d1
          go_wp2
          (try simp only [Exit.noGoto_ret])
          go_ret2
          exact ⟨_, rfl, HI.out.out, HI.out.below⟩
end Go.Proofs.Ytcpmmkennnjalaa.Q
end
