/- The law TopHome holds: any automaton has a reset word of at most (n^3 - n) / 6 letters that is found, and with whatever letters before it and after it it leads all states to one, or there are pairs of states that are found and that no word merges; no bound on the arguments beyond their types'. (text 23 of 26) -/
import Derived.Test.YtogoppejcmaocaaZTopHomel
import Derived.Test.YtogoppejcmaocaaZTopHomeq
/-! Part XApart -/
section
namespace Go.Proofs.Ytogoppejcmaocaa.Q
open Go.RowKit Go.Proofs.YtogoppejcmaocaaW.PrintWords Go.Proofs.YtogoppejcmaocaaW.PrintLast Go.Proofs.YtogoppejcmaocaaW.PrintMore
set_option linter.unusedVariables false
set_option linter.unusedSimpArgs false
theorem infoA : (Try.prog.info? 49).map (fun i => (i.zero, i.size, i.bytes)) = some (some (.agg #[.int .i64 0, .int .i64 0]), 2, 16) := by kernel_rfl
/-- A row is no map. -/
theorem R_not_map {α β : Type} {d : Kd α} {e base b : Nat} {ok : Nat → Prop} {W : World} {v : Value} {l : List α} (h : d.R e W base ok v l) {G : Value → Prop} {enc : β → Value} {es : List (β × Value)} (hm : MapIs G enc W b es) : some b ≠ v.ownBlock := by
  intro e
  obtain ⟨cells, hc⟩ := Kd.R_typed h b e.symm
  obtain ⟨arr, ck, h2, _⟩ := hm
  rw [hc] at h2; cases h2
set_option maxHeartbeats 2000000 in
set_option maxRecDepth 100000 in
theorem reset_Apart.calls (k : Nat) (A0_0 : Option Addr) (c0_0 : Nat) (l0_0 : List (List Int)) (r1 : List S49) (r2 : Int) (w : World) (hr0_0 : Kd.C (Kd.slice 3 (Kd.int .i64)) w A0_0 l0_0.length l0_0) (hc0_0 : l0_0.length ≤ c0_0) (h : reset_Apart.f k l0_0 = some (r1, r2)) :
    Calls Try.prog 30 #[.agg #[.slice A0_0 l0_0.length c0_0]] w fun e w' => ∃ v0_ : Value, e = .returned (.tuple #[v0_, .int .i64 r2]) ∧ Kd.R k49 49 w' w.heap.size (fun _ => True) v0_ r1 ∧ Below w.heap.size w w' := by
  have HR := Aside0.mk hr0_0
  have HC := Aside0.mk hc0_0
  have HB0 := Below.refl w.heap.size w
  clear hr0_0 hc0_0
  have H := h
  clear h
  unfold reset_Apart.f at H
  replace H := Option.bind_eq_some_iff.mp H
  obtain ⟨v, hv, H⟩ := H
  have HV := Aside0.mk hv
  clear hv
  cases v with
  | false =>
    rw [if_neg (by decide)] at H
    simp only [Option.some.injEq, Prod.mk.injEq] at H
    obtain ⟨rfl, rfl⟩ := H
    go_enter Try.func30, Try.ntmps30
    go_wp2_with ((with_reducible refine gate_dst (N := 1) rfl ?_); refine box_event ?hg (N := 1) ?hd (cs := #[.slice A0_0 l0_0.length c0_0]) (t := 24) ?hr ?_; (case hd => rfl); (case hg => rfl); (case hr => first | (go_simp; done) | (go_simp; rfl)); intro D hBe w1 hbox hb1;  have hcb : w1.cell? ⟨D, 0, none⟩ = some (.slice A0_0 l0_0.length c0_0) := (blk_cell hbox 0).trans rfl; have HBox := Aside0.mk hbox; have HB1 := Aside0.mk (below_step HB0 hb1); have HBE := Aside0.mk (show w.heap.size ≤ D by omega); clear hbox hb1 hBe)
    refine (auto_Valid.calls _ _ l0_0 false _ (Kd.C_below HR.out HB1.out) HC.out HV.out).mono ?_
    rintro e w2 ⟨rfl, hb2⟩
    have HB2 := Aside0.mk (below_step HB1.out hb2)
    have HBox2 := Aside0.mk (blk_below HBox.out hb2)
    have hcb2 : w2.cell? ⟨D, 0, none⟩ = some (.slice A0_0 l0_0.length c0_0) := (blk_cell HBox2.out 0).trans rfl
    clear hb2 hcb
    go_wp2
    (try simp only [Exit.noGoto_ret])
    go_ret2
    exact ⟨_, rfl, Kd.R_nil _ _ _ _ _, HB2.out⟩
  | true =>
    rw [if_pos rfl] at H
    replace H := Option.bind_eq_some_iff.mp H
    obtain ⟨left, hleft, H⟩ := H
    replace H := Option.bind_eq_some_iff.mp H
    obtain ⟨lo, hlo, H⟩ := H
    simp only [Option.some.injEq, Prod.mk.injEq] at H
    obtain ⟨rfl, rfl⟩ := H
    have HLeft := Aside0.mk hleft
    have H' := Aside0.mk hlo
    clear hleft hlo
    go_enter Try.func30, Try.ntmps30
    go_wp2_with ((with_reducible refine gate_dst (N := 1) rfl ?_); refine box_event ?hg (N := 1) ?hd (cs := #[.slice A0_0 l0_0.length c0_0]) (t := 24) ?hr ?_; (case hd => rfl); (case hg => rfl); (case hr => first | (go_simp; done) | (go_simp; rfl)); intro D hBe w1 hbox hb1;  have hcb : w1.cell? ⟨D, 0, none⟩ = some (.slice A0_0 l0_0.length c0_0) := (blk_cell hbox 0).trans rfl; have HBox := Aside0.mk hbox; have HB1 := Aside0.mk (below_step HB0 hb1); have HBE := Aside0.mk (show w.heap.size ≤ D by omega); clear hbox hb1 hBe)
    refine (auto_Valid.calls _ _ l0_0 true _ (Kd.C_below HR.out HB1.out) HC.out HV.out).mono ?_
    rintro e w2 ⟨rfl, hb2⟩
    have HB2 := Aside0.mk (below_step HB1.out hb2)
    have HBox2 := Aside0.mk (blk_below HBox.out hb2)
    have hcb2 : w2.cell? ⟨D, 0, none⟩ = some (.slice A0_0 l0_0.length c0_0) := (blk_cell HBox2.out 0).trans rfl
    clear hb2 hcb
    go_wp2_with fail
    refine (newMerger.calls k A0_0 c0_0 l0_0 left _ (Kd.C_below HR.out HB2.out) HC.out HLeft.out).mono ?_
    rintro e w5 ⟨M, b, rfl, hMs, hbs, hM, hL, hb5⟩
    have HB5 := Aside0.mk (below_step HB2.out hb5)
    have HD5 := Aside0.mk (blk_below HBox2.out hb5)
    have HM5 := Aside0.mk hM
    have HL5 := Aside0.mk hL
    have hcb5 : w5.cell? ⟨D, 0, none⟩ = some (.slice A0_0 l0_0.length c0_0) := (blk_cell HD5.out 0).trans rfl
    clear hMs hbs hM hL hb5 hcb2
    go_wp2_with fail
    go_loopg [5, 18] k (fun kq v5 v18 w' => ∃ (p : Int) (out : List S49), v18 = .int .i64 p ∧ Aside0 (reset_Apart.l0 kq l0_0.length left out p = some lo) ∧ Aside0 (kq ≤ k) ∧ Aside0 (w'.heap[D]? = some (.cells #[.slice A0_0 l0_0.length c0_0] 24 (0, 0))) ∧ Aside0 (w'.heap[M]? = some (.cells #[.slice A0_0 l0_0.length c0_0, .map (some b)] 94 (0, 0))) ∧ Aside0 (MapIs PairG encP w' b (lv left)) ∧ Aside0 (Kd.R k49 49 w' w.heap.size (fun _ => True) v5 out) ∧ Aside0 (Below w.heap.size w w'))
    case atStart => exact ⟨0, [], rfl, H', ⟨Nat.le_refl _⟩, HD5, HM5, HL5, ⟨Kd.R_nil _ _ _ _ _⟩, HB5⟩
    case round =>
      clear H' HD5 HM5 HL5 HB5 hcb5
      obtain ⟨p, out, rfl, HA, HK, HD, HM, HL, HO, HB⟩ := hrel
      cases gk with
      | zero => exact absurd HA.out (by simp [reset_Apart.l0])
      | succ k1 =>
        have H := HA.out
        clear HA
        simp only [reset_Apart.l0] at H
        by_cases d1 : p < (l0_0.length : Int)
        · rw [if_pos d1] at H
          have H' := Aside0.mk H
          have d1b := decide_eq_true d1
          clear H d1
          go_wp2_with fail
          go_loopg [5, 7] k1 (fun kq v5 v7 w' => ∃ (q : Int) (out : List S49), v7 = .int .i64 q ∧ Aside0 (reset_Apart.l1 kq l0_0.length left out p q = some lo) ∧ Aside0 (kq ≤ k1) ∧ Aside0 (w'.heap[D]? = some (.cells #[.slice A0_0 l0_0.length c0_0] 24 (0, 0))) ∧ Aside0 (w'.heap[M]? = some (.cells #[.slice A0_0 l0_0.length c0_0, .map (some b)] 94 (0, 0))) ∧ Aside0 (MapIs PairG encP w' b (lv left)) ∧ Aside0 (Kd.R k49 49 w' w.heap.size (fun _ => True) v5 out) ∧ Aside0 (Below w.heap.size w w'))
          case atStart => exact ⟨_, _, rfl, H', ⟨Nat.le_refl _⟩, HD, HM, HL, HO, HB⟩
          case round =>
            clear H' HD HM HL HO HB
            obtain ⟨q, out, rfl, HA, HK1, HD, HM, HL, HO, HB⟩ := hrel
            cases gk with
            | zero => exact absurd HA.out (by simp [reset_Apart.l1])
            | succ k2 =>
              have H := HA.out
              clear HA
              simp only [reset_Apart.l1] at H
              have hcb : wr.cell? ⟨D, 0, none⟩ = some (.slice A0_0 l0_0.length c0_0) := (blk_cell HD.out 0).trans rfl
              by_cases e1 : q < (l0_0.length : Int)
              · rw [if_pos e1] at H
                have e1b := decide_eq_true e1
                by_cases e2 : inP l0_0.length p q = true
                · rw [if_pos e2] at H
                  have hG := (inPG HR.out.2.1 e2).2
                  have hlk := look_left HL.out hG true
                  have hm1 : wr.cell? ⟨M, 1, none⟩ = some (.map (some b)) := (blk_cell HM.out 1).trans rfl
                  cases hs : (lkP (p, q) left).isSome with
                  | true =>
                    rw [if_pos hs] at H
                    simp only [if_true, hs] at hlk
                    have H' := Aside0.mk H
                    clear H e1 e2 hG
                    go_wp2_with fail
                    clear hlk hm1 hcb
                    repeat (go_quiet (fail); try go_wp2_with fail)
                    go_roundg k2
                    case measure => omega
                    case rel => exact ⟨_, _, rfl, H', ⟨by have := HK1.out; omega⟩, HD, HM, HL, HO, HB⟩
                  | false =>
                    rw [if_neg (by rw [hs]; decide)] at H
                    simp only [if_true, hs] at hlk
                    by_cases e3 : out.length < 8796093022208
                    · rw [if_pos e3] at H
                      have E3 := Aside0.mk e3
                      have H' := Aside0.mk H
                      clear H e1 e2 e3 hG
                      go_wp2_with ((with_reducible refine gate_builtin (b := .append) (xs := #[.tmp 43, .tmp 47]) rfl ?_); at_builtin; refine Kd.R_append k49 (w0 := w) w.heap.size rfl (.tmp 43) (.tmp 47) 43 49 (.agg #[.int .i64 0, .int .i64 0]) 16 rfl Try.underlying43 infoA rfl (by decide) (by omega) u5 out ⟨p, q⟩ [.int .i64 p, .int .i64 q] (fun _ => True) (fun _ => False) rfl rfl ?aP (fun _ hk => hk.elim) ?aF ?aO ?aB ?aS ?aL ?_; (case aP => exact k49_mkM _ _ _ ⟨p, q⟩); (case aB => exact HB.out); (case aF => exact (fun _ _ => trivial)); (case aO => exact HO.out); (case aS => exact HB.out.size); (case aL => have := E3.out; omega); intro v8 w8 ho hb hg hat;  have HO8 := Aside0.mk ho; have HB8 := Aside0.mk hb; have HD8 := Aside0.mk (blk_grown HD.out hg (Kd.R_ne HO.out HD.out (by decide))); have HM8 := Aside0.mk (blk_grown HM.out hg (Kd.R_ne HO.out HM.out (by decide))); have HL8 := Aside0.mk (MapIs.kept HL.out hg (R_not_map HO.out HL.out)); clear ho hb hg hat)
                      go_roundg k2
                      case measure => omega
                      case rel => exact ⟨_, _, rfl, H', ⟨by have := HK1.out; omega⟩, HD8, HM8, HL8, HO8, HB8⟩
                    · rw [if_neg e3] at H; exact absurd H (by simp)
                · rw [if_neg e2] at H; exact absurd H (by simp)
              · rw [if_neg e1] at H
                have H' := Aside0.mk H
                have e1b := decide_eq_false e1
                clear H e1
                go_wp2_with fail
                go_roundg k2
                case measure => have := HK.out; have := HK1.out; omega
                case rel => exact ⟨_, _, rfl, H', ⟨by have := HK.out; have := HK1.out; omega⟩, HD, HM, HL, HO, HB⟩
        · rw [if_neg d1] at H
          obtain rfl := Option.some.inj H
          have d1b := decide_eq_false d1
          clear H d1
          go_wp2
          (try simp only [Exit.noGoto_ret])
          go_ret2
          exact ⟨_, rfl, HO.out, HB.out⟩
end Go.Proofs.Ytogoppejcmaocaa.Q
end
