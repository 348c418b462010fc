/- In any Eulerian automaton that has a reset word, whatever set of states, neither empty nor all, is led into by more states with a word of at most n - 1 letters, and its shortest reset word has at most n^2 - 3n + 3 letters; in any circular one at most (n - 1)^2. (At most 9 states) (text 19 of 42) -/
import Derived.Test.YtcpmmkennnjalaaZTopKarip
import Derived.StillTailTactics
section
namespace Go.Proofs.Ytcpmmkennnjalaa.Q
open Go.RowKit Go.Proofs.YtcpmmkennnjalaaW.PrintWords Go.Proofs.YtcpmmkennnjalaaW.PrintLast Go.Proofs.YtcpmmkennnjalaaW.PrintMore
set_option linter.unusedVariables false
set_option linter.unusedSimpArgs false
theorem infoP : (Try.prog.info? 74).map (fun i => (i.zero, i.size, i.bytes)) = some (some (.agg #[.int .i64 0, .int .i64 0]), 2, 16) := by kernel_rfl
set_option maxHeartbeats 4000000 in
set_option maxRecDepth 100000 in
theorem newMerger.calls (k : Nat) (A0_0 : Option Addr) (c0_0 : Nat) (l0_0 : List (List Int)) (left : List ((Int × Int) × Int)) (w : World) (hR : Kd.C (Kd.slice 3 (Kd.int .i64)) w A0_0 l0_0.length l0_0) (hc0 : l0_0.length ≤ c0_0) (h : newMerger.f k l0_0 = some left) :
    Calls Try.prog 49 #[.agg #[.slice A0_0 l0_0.length c0_0]] w fun e w' => ∃ M b : Nat, e = .returned (.pointer (some ⟨M, 0, none⟩)) ∧ w.heap.size ≤ M ∧ w.heap.size ≤ b ∧ w'.heap[M]? = some (.cells #[.slice A0_0 l0_0.length c0_0, .map (some b)] 100 (0, 0)) ∧ MapIs PairG encP w' b (lv left) ∧ Below w.heap.size w w' := by
  have HR := Aside0.mk hR
  have HC := Aside0.mk hc0
  have HB0 := Below.refl w.heap.size w
  have H' := Aside0.mk h
  clear hR hc0 h
  have hmm := @run_makeMap Try.prog
  go_enter Try.func49, Try.ntmps49
  go_wp2_with (first | ((with_reducible refine gate_dst (N := 1) rfl ?_); refine box_event ?hg (N := 1) ?hd (cs := #[.slice A0_0 l0_0.length c0_0]) (t := 24) ?hr ?_; (case hd => rfl); (case hg => rfl); (case hr => first | (go_simp; done) | (go_simp; rfl)); intro D hDe w1 hbox hb1;  have hcb : w1.cell? ⟨D, 0, none⟩ = some (.slice A0_0 l0_0.length c0_0) := (blk_cell hbox 0).trans rfl;  have HD := Aside0.mk hbox; have HB1 := Aside0.mk (below_step HB0 hb1); have HDE := Aside0.mk (show w.heap.size ≤ D by omega); clear hbox hb1 hDe)  | ((with_reducible refine gate_dst (N := 18) rfl ?_); refine box_event ?hg (N := 18) ?hd (cs := #[.slice A0_0 l0_0.length c0_0, .map (some w1.heap.size)]) (t := 100) ?hr ?_; (case hd => rfl); (case hg => rfl); (case hr => first | (go_simp; done) | (go_simp; rfl)); intro M hMe w3 hbox hb3;  have HMx := Aside0.mk hbox; have HL3 := Aside0.mk (MapIs.below (MapIs.made (α := Int × Int) (G := PairG) (enc := encP) w1) hb3); have HD3 := Aside0.mk (blk_below (blk_alloc HD.out (.map #[] 0)) hb3);  have HB3 := Aside0.mk (below_step (below_step HB1.out (below_alloc (Below.refl _ _) (.map #[] 0))) hb3); have HbE := Aside0.mk (show w.heap.size ≤ w1.heap.size from HB1.out.size);  have HME := Aside0.mk (show w.heap.size ≤ M by have := (below_step HB1.out (below_alloc (Below.refl w1.heap.size w1) (.map #[] 0))).size; omega);  have hcb4 : (w3.alloc (.map #[] 0)).cell? ⟨D, 0, none⟩ = some (.slice A0_0 l0_0.length c0_0) := (blk_cell (blk_alloc HD3.out (.map #[] 0)) 0).trans rfl; clear hcb hbox hb3 hMe))
  obtain ⟨W0, hW0⟩ : ∃ W0, W0 = w3.alloc (.map #[] 0) := ⟨_, rfl⟩
  have hb0 : Below w3.heap.size w3 W0 := by rw [hW0]; exact below_alloc (Below.refl _ _) _
  have hm2 : MapIs PairG encP W0 w3.heap.size (esB []) := by rw [hW0]; exact MapIs.made w3
  have HI0 : Aside0 (MI w W0 A0_0 l0_0.length c0_0 D M w1.heap.size w3.heap.size [] [] (.slice none 0 0) []) := ⟨⟨below_step HB3.out hb0, blk_below HD3.out hb0, blk_below HMx.out hb0, MapIs.below HL3.out hb0, hm2, fun e => by have := MapIs.lt HL3.out; omega, HDE.out, HME.out, HbE.out, HB3.out.size, (fun p hp => nomatch hp), Kd.R_nil _ _ _ _ _, List.Pairwise.nil, (fun p hp => nomatch hp)⟩⟩
  rw [← hW0]
  clear hm2 hb0 hW0 HL3 HD3 HMx
  generalize w1.heap.size = b at HI0 ⊢
  generalize w3.heap.size = b2 at HI0 ⊢
  go_loopg [5, 23] k (fun kq v5 v23 w' => ∃ (p : Int) (left1 : List ((Int × Int) × Int)) (B : List RowB) (list : List (Int × Int)), v23 = .int .i64 p ∧ Aside0 (newMerger.l0 kq l0_0 left1 (lsB B) list p = some left) ∧ Aside0 (kq ≤ k) ∧ Aside0 (MI w w' A0_0 l0_0.length c0_0 D M b b2 left1 B v5 list) ∧ Aside0 (GL list ∧ GB (lsB B)))
  case atStart => exact ⟨0, [], [], [], rfl, H', ⟨Nat.le_refl _⟩, HI0, ⟨(fun x hx => nomatch hx), (fun e he => nomatch he)⟩⟩
  case round =>
    clear H' HI0
    obtain ⟨p, left1, B, list, rfl, HA, HK, HI, HGG⟩ := hrel
    cases gk with
    | zero => exact absurd HA.out (by simp [newMerger.l0])
    | succ k1 =>
      have H := HA.out
      clear HA
      simp only [newMerger.l0] at H
      by_cases d1 : p < (l0_0.length : Int)
      · rw [if_pos d1] at H
        by_cases d2 : inP l0_0.length p p = true
        · rw [if_pos d2] at H
          by_cases d3 : list.length < 8796093022208
          · rw [if_pos d3] at H
            have H' := Aside0.mk H
            have hpp := inPG (HR.out.2.1) d2
            have HGp := Aside0.mk hpp.2
            have HP0 := Aside0.mk hpp.1.1
            have hcM1 : wr.cell? ⟨M, 1, none⟩ = some (.map (some b)) := (blk_cell HI.out.bM 1).trans rfl
            obtain ⟨W1, hrun1, hI1, _⟩ := MI.setLeft HI.out hpp.2 0
            have HI1 := Aside0.mk hI1
            have d1b := decide_eq_true d1
            have D1 := Aside0.mk d1
            have D3 := Aside0.mk d3
            clear H d1 d2 d3 hI1 hpp hcb4
            go_wp2_with ((with_reducible refine gate_builtin (b := .append) (xs := #[.tmp 33, .tmp 37]) rfl ?_); at_builtin; refine Kd.R_append kP (w0 := w) w.heap.size rfl (.tmp 33) (.tmp 37) 102 74 (.agg #[.int .i64 0, .int .i64 0]) 16 rfl Try.underlying102 infoP rfl (by decide) (by omega) u5 list (p, p) [.int .i64 p, .int .i64 p] (fun _ => True) (fun _ => False) rfl rfl ?aP (fun _ hk => hk.elim) ?aF ?aO ?aB ?aS ?aL ?_; (case aP => exact ⟨[.int .i64 p], [.int .i64 p], rfl, rfl, rfl⟩); (case aB => exact HI1.out.below); (case aF => exact (fun _ _ => trivial)); (case aO => exact HI1.out.lst); (case aS => exact HI1.out.below.size); (case aL => have := D3.out; omega); intro v6 w6 ho hb hg hat;  have HI6 := Aside0.mk (HI1.out.listTo hg ho hat); have hcD6 : w6.cell? ⟨D, 0, none⟩ = some (.slice A0_0 l0_0.length c0_0) := (blk_cell HI6.out.bD 0).trans rfl; clear ho hb hg hat)
            go_loopg [7] k1 (fun kq v7 w' => ∃ (q : Int) (B1 : List RowB), v7 = .int .i64 q ∧ Aside0 (newMerger.l1 kq l0_0 (putL (p, p) 0 left1) (lsB B1) (list ++ [(p, p)]) p q = some left) ∧ Aside0 (kq ≤ k1) ∧ Aside0 (MI w w' A0_0 l0_0.length c0_0 D M b b2 (putL (p, p) 0 left1) B1 v6 (list ++ [(p, p)])) ∧ Aside0 (GB (lsB B1)))
            case atStart => exact ⟨_, B, rfl, H', ⟨Nat.le_refl _⟩, HI6, ⟨HGG.out.2⟩⟩
            case round =>
              clear H' HI6 HI HI1 hcD6 hcM1 hrun1
              obtain ⟨q, B1, rfl, HA, HK1, HI, HGB⟩ := hrel
              cases gk with
              | zero => exact absurd HA.out (by simp [newMerger.l1])
              | succ k2 =>
                have H := HA.out
                clear HA
                simp only [newMerger.l1] at H
                have hcD : wr.cell? ⟨D, 0, none⟩ = some (.slice A0_0 l0_0.length c0_0) := (blk_cell HI.out.bD 0).trans rfl
                by_cases e1 : q < (l0_0.length : Int)
                · rw [if_pos e1] at H
                  have H' := Aside0.mk H
                  have e1b := decide_eq_true e1
                  have hpos : 0 < l0_0.length := by have := HP0.out; have := D1.out; omega
                  have HLet : Aside0 (auto_Letters.f l0_0 = some ((rd_L1 l0_0 0).length : Int)) := ⟨by unfold auto_Letters.f; rw [if_pos (by omega)]⟩
                  clear H e1 hpos
                  go_wp2_with (refine (auto_Letters.calls _ _ l0_0 _ _ (Kd.C_below HR.out HI.out.below) HC.out HLet.out).mono ?_; rintro e w3 ⟨rfl, hb3⟩; have HI3 := Aside0.mk (HI.out.next hb3); clear hb3 hcD)
                  go_loopg [50] k2 (fun kq v50 w' => ∃ (x : Int) (B2 : List RowB), v50 = .int .i64 x ∧ Aside0 (newMerger.l2 kq l0_0 (putL (p, p) 0 left1) (lsB B2) (list ++ [(p, p)]) p q x = some left) ∧ Aside0 (kq ≤ k2) ∧ Aside0 (MI w w' A0_0 l0_0.length c0_0 D M b b2 (putL (p, p) 0 left1) B2 v6 (list ++ [(p, p)])) ∧ Aside0 (GB (lsB B2)))
                  case atStart => exact ⟨_, B1, rfl, H', ⟨Nat.le_refl _⟩, HI3, HGB⟩
                  case round =>
                    clear H' HI3 HI HLet HGB
                    obtain ⟨x, B2, rfl, HA, HK2, HI, HGB⟩ := hrel
                    cases gk with
                    | zero => exact absurd HA.out (by simp [newMerger.l2])
                    | succ k3 =>
                      have H := HA.out
                      clear HA
                      simp only [newMerger.l2] at H
                      by_cases f1 : x < ((rd_L1 l0_0 0).length : Int)
                      · rw [if_pos f1] at H
                        by_cases f2 : 0 ≤ x
                        · rw [if_pos f2] at H
                          by_cases f2b : inP l0_0.length p q = true
                          · rw [if_pos f2b] at H
                            by_cases f3 : x < ((rd_L1 l0_0 p).length : Int)
                            · rw [if_pos f3] at H
                              by_cases f4 : x < ((rd_L1 l0_0 q).length : Int)
                              · rw [if_pos f4] at H
                                obtain ⟨⟨t1, t2⟩, hof, H⟩ := Option.bind_eq_some_iff.mp H
                                simp only at H
                                by_cases f5 : inP l0_0.length t1 t2 = true
                                · rw [if_pos f5] at H
                                  by_cases f6 : ((lkB (t1, t2) (lsB B2)).getD []).length < 8796093022208
                                  · rw [if_pos f6] at H
                                    have hpq := inPG HR.out.2.1 f2b
                                    have hG2 := (inPG HR.out.2.1 f5).2
                                    have HG2 := Aside0.mk hG2
                                    have F6 := Aside0.mk f6
                                    have HGpq := Aside0.mk hpq.2
                                    have HSt := Aside0.mk (step_calls A0_0 c0_0 l0_0 M (.map (some b)) p q x t1 t2 wr (Kd.C_below HR.out HI.out.below) HI.out.bM hpq.1.1 hpq.1.2.1 hpq.1.2.2.1 hpq.1.2.2.2 f2 f3 f4 hof)
                                    have f1b := decide_eq_true f1
                                    have H' := Aside0.mk H
                                    clear H hof hG2 f1 f2 f3 f4 f5 f6 f2b hpq
                                    go_wp2_with (first | (refine HSt.out.mono ?_; rintro e w4 ⟨rfl, hb4⟩; have HI4 := Aside0.mk (HI.out.next hb4); clear hb4;  have hI6 := ((HI4.out.next (below_alloc (Below.refl _ _) (.cells #[.int .i64 t1, .int .i64 t2] 74))).next (below_alloc (Below.refl _ _) (.cells #[.int .i64 p, .int .i64 q] 74)));  obtain ⟨W7, born, Ba, Bb, u, l, hrun7, hI7, hBorn, hg7, hl, hadd⟩ := MI.ask hI6 HG2.out;  have HI7 := Aside0.mk hI7; have HBorn := Aside0.mk hBorn; have HAdd := Aside0.mk hadd; have HLe := Aside0.mk hl;  have HLit : Aside0 (ReadsRow (fun (x : Int × Int) cs => cs = [.int .i64 x.1, .int .i64 x.2]) 2 W7 (some ⟨w4.heap.size + 1, 0, none⟩) 1 [(p, q)]) := ⟨by have h9 := lit_P (blk_grown (blk_new _ _) hg7 (fun e => by injection e with e; exact hI6.bef.ne (blk_new _ _) e.symm)); rwa [World.size_alloc] at h9⟩; clear hI6 hI7 hBorn hg7 hadd hl)  | ((with_reducible refine gate_builtin (b := .append) (xs := #[.tmp 61, .tmp 65]) rfl ?_); at_builtin; refine Kd.R_append_rows kP (Rr := fun (x : Int × Int) cs => cs = [.int .i64 x.1, .int .i64 x.2]) (w0 := w) w.heap.size rfl (.tmp 61) (.tmp 65) 102 74 (.agg #[.int .i64 0, .int .i64 0]) 16 rfl Try.underlying102 infoP rfl (by decide) (by omega) u l [(p, q)] _ 1 1 (fun _ => True) (fun _ => False) rfl rfl ?aO HLit.out ?aP (fun _ hk => hk.elim) ?aF ?aB ?aS ?aL ?_; (case aP => exact (fun x cs e => by rw [e]; exact ⟨[_], [_], rfl, rfl, rfl⟩)); (case aB => exact HI7.out.below); (case aF => exact (fun _ _ => trivial)); (case aO => exact HI7.out.rows _ (List.mem_append_right _ List.mem_cons_self)); (case aS => exact HI7.out.below.size); (case aL => have := F6.out; rw [HLe.out]; omega); intro v8 w8 ho hb hg hat;  obtain ⟨W9, hrun9, hI9⟩ := MI.estore HI7.out HBorn.out hg ho hat; have HI9 := Aside0.mk hI9; clear ho hb hg hat hI9))
                                    go_roundg k3
                                    case measure => omega
                                    case rel => exact ⟨_, Ba ++ ((t1, t2), v8, l ++ [(p, q)]) :: Bb, rfl, ⟨by rw [← HAdd.out]; exact H'.out⟩, ⟨by have := HK2.out; omega⟩, HI9, ⟨by rw [← HAdd.out]; exact HGB.out.add HGpq.out⟩⟩
                                  · rw [if_neg f6] at H; exact absurd H (by simp)
                                · rw [if_neg f5] at H; exact absurd H (by simp)
                              · rw [if_neg f4] at H; exact absurd H (by simp)
                            · rw [if_neg f3] at H; exact absurd H (by simp)
                          · rw [if_neg f2b] at H; exact absurd H (by simp)
                        · rw [if_neg f2] at H; exact absurd H (by simp)
                      · rw [if_neg f1] at H
                        have H' := Aside0.mk H
                        have f1b := decide_eq_false f1
                        clear H f1
                        go_wp2_with fail
                        go_roundg k3
                        case measure => have := HK1.out; have := HK2.out; omega
                        case rel => exact ⟨_, B2, rfl, H', ⟨by have := HK1.out; have := HK2.out; omega⟩, HI, HGB⟩
                · rw [if_neg e1] at H
                  have H' := Aside0.mk H
                  have e1b := decide_eq_false e1
                  clear H e1
                  go_wp2_with fail
                  go_roundg k2
                  case measure => have := HK.out; have := HK1.out; omega
                  case rel => exact ⟨_, _, B1, _, rfl, H', ⟨by have := HK.out; have := HK1.out; omega⟩, HI, ⟨HGG.out.1.snoc HGp.out, HGB.out⟩⟩
          · rw [if_neg d3] at H; exact absurd H (by simp)
        · rw [if_neg d2] at H; exact absurd H (by simp)
      · rw [if_neg d1] at H
        have H' := Aside0.mk H
        have d1b := decide_eq_false d1
        clear H d1 hcb4
        go_wp2_with fail
        go_loopg [5, 10] k1 (fun kq v5 v10 w' => ∃ (i : Int) (left2 : List ((Int × Int) × Int)) (list2 : List (Int × Int)), v10 = .int .i64 i ∧ Aside0 (newMerger.b0 kq left2 (lsB B) list2 i = some left) ∧ Aside0 (kq ≤ k1) ∧ Aside0 (MI w w' A0_0 l0_0.length c0_0 D M b b2 left2 B v5 list2) ∧ Aside0 (GL list2))
        case atStart => exact ⟨0, _, _, rfl, H', ⟨Nat.le_refl _⟩, HI, ⟨HGG.out.1⟩⟩
        case round =>
          have HGB := Aside0.mk HGG.out.2
          clear H' HI HGG
          obtain ⟨i, left2, list2, rfl, HA, HK1, HI, HGl⟩ := hrel
          cases gk with
          | zero => exact absurd HA.out (by simp [newMerger.b0])
          | succ k2 =>
            have H := HA.out
            clear HA
            simp only [newMerger.b0] at H
            obtain ⟨A5, c5, e5, _, _⟩ := Kd.R_reads HI.out.lst
            have e5' : u5 = .slice A5 list2.length c5 := e5
            clear e5
            subst e5'
            by_cases e1 : i < (list2.length : Int)
            · rw [if_pos e1] at H
              by_cases e2 : 0 ≤ i
              · rw [if_pos e2] at H
                have H' := Aside0.mk H
                obtain ⟨ad, c5', e5, hx0, hx1⟩ := R_at_P HI.out.lst i e2 e1
                injection e5 with e5a e5b e5c
                subst e5a
                have HG1 := Aside0.mk (HGl.out.rd e2 e1)
                obtain ⟨A6, c6, hrun6, he6⟩ := MI.look HI.out HG1.out
                generalize (lkB ((rdP list2 i).1, (rdP list2 i).2) (lsB B)).getD [] = cs at H' hrun6 he6
                have HE := Aside0.mk he6
                have e1b := decide_eq_true e1
                have E2 := Aside0.mk e2
                have E1 := Aside0.mk e1
                have q1 := eq_true e1
                have q2 := eq_true e2
                clear H e1 e2 he6 e5b e5c
                go_wp2_with fail
                go_loopg [5, 84] k2 (fun kq v5 v84 w' => ∃ (j : Int) (left3 : List ((Int × Int) × Int)) (list3 : List (Int × Int)), v84 = .int .i64 j ∧ Aside0 (newMerger.b1 kq left3 (lsB B) list3 i cs j = some left) ∧ Aside0 (kq ≤ k2) ∧ Aside0 (MI w w' A0_0 l0_0.length c0_0 D M b b2 left3 B v5 list3) ∧ Aside0 (GL list3))
                case atStart => exact ⟨0, _, _, rfl, H', ⟨Nat.le_refl _⟩, HI, HGl⟩
                case round =>
                  clear H' HI HGl E1 e1b q1 hx0 hx1 hrun6 HG1
                  obtain ⟨j, left3, list3, rfl, HA, HK2, HI, HGl⟩ := hrel
                  cases gk with
                  | zero => exact absurd HA.out (by simp [newMerger.b1])
                  | succ k3 =>
                    have H := HA.out
                    clear HA
                    simp only [newMerger.b1] at H
                    by_cases f1 : j < (cs.length : Int)
                    · rw [if_pos f1] at H
                      by_cases f2 : 0 ≤ j
                      · rw [if_pos f2] at H
                        obtain ⟨ad6, c6', e6, hx0, hx1⟩ := R_at_P (MI.row HI.out HE.out) j f2 f1
                        injection e6 with e6a e6b e6c
                        subst e6a
                        have HGc := Aside0.mk ((HE.out.G HGB.out).rd f2 f1)
                        generalize (rdP cs j) = cc at H HGc hx0 hx1
                        obtain ⟨c1, c2⟩ := cc
                        simp only at H HGc hx0 hx1
                        have f1b := decide_eq_true f1
                        have q3 := eq_true f1
                        have q4 := eq_true f2
                        have H' := Aside0.mk H
                        clear H f1 f2 e6b e6c
                        go_wp2_with fail
                        obtain ⟨W5, hW5⟩ : ∃ W5, W5 = wr.alloc (.cells #[.int .i64 c1, .int .i64 c2] 74) := ⟨_, rfl⟩
                        have hb5 : Below wr.heap.size wr W5 := by rw [hW5]; exact below_alloc (Below.refl _ _) _
                        have hT5 : W5.heap[wr.heap.size]? = some (.cells #[.int .i64 c1, .int .i64 c2] 74 (0, 0)) := by rw [hW5]; exact blk_new _ _
                        rw [← hW5]
                        have HT5 := Aside0.mk hT5
                        have HI5 := Aside0.mk (HI.out.next hb5)
                        clear hb5 hT5 hW5 hx0 hx1 HI
                        generalize wr.heap.size = T at HT5 ⊢
                        have ht0 : W5.cell? ⟨T, 0, none⟩ = some (.int .i64 c1) := (blk_cell HT5.out 0).trans rfl
                        have ht1 : W5.cell? ⟨T, 1, none⟩ = some (.int .i64 c2) := (blk_cell HT5.out 1).trans rfl
                        have hm1 : W5.cell? ⟨M, 1, none⟩ = some (.map (some b)) := (blk_cell HI5.out.bM 1).trans rfl
                        have hlk := look_leftN HI5.out.left HGc.out true
                        cases hs : (lkP (c1, c2) left3).isSome with
                        | true =>
                          have H := H'.out
                          rw [if_pos hs] at H
                          have H' := Aside0.mk H
                          clear H
                          simp only [if_true, hs] at hlk
                          go_quiet (fail)
                          have HI6 := Aside0.mk (HI5.out.next (pw_below_drewN (Below.refl _ _) nq))
                          clear ht0 ht1 hm1 hlk
                          go_wp2_with fail
                          go_roundg k3
                          case measure => omega
                          case rel => exact ⟨_, _, _, rfl, H', ⟨by have := HK2.out; omega⟩, HI6, HGl⟩
                        | false =>
                          have H := H'.out
                          rw [if_neg (by rw [hs]; decide)] at H
                          simp only [if_true, hs] at hlk
                          by_cases g1 : i < (list3.length : Int)
                          · rw [if_pos g1] at H
                            by_cases g2 : list3.length < 8796093022208
                            · rw [if_pos g2] at H
                              have H' := Aside0.mk H
                              clear H
                              go_quiet (fail)
                              have HI6 := Aside0.mk (HI5.out.next (pw_below_drewN (Below.refl _ _) nq))
                              have HT6 := Aside0.mk (blk_drewN HT5.out nq)
                              clear ht0 ht1 hm1 hlk
                              go_wp2_with fail
                              obtain ⟨W6, hW6⟩ : ∃ W6, W6 = W5.drewN nq := ⟨_, rfl⟩
                              rw [← hW6] at HI6 HT6 ⊢
                              clear hW6
                              refine wp_region_still_tail 15 (by kernel_rfl) (by kernel_rfl) ?_
                              obtain ⟨W7, hW7⟩ : ∃ W7, W7 = W6.drew := ⟨_, rfl⟩
                              have hb7 : Below W6.heap.size W6 W7 := by rw [hW7]; exact pw_below_drewN (Below.refl _ _) 1
                              change wpStill _ _ W6.drew (fun a' => wpList _ _ _ _ a' W6.drew) _ _
                              rw [← hW7]
                              have HI7 := Aside0.mk (HI6.out.next hb7)
                              have HT7 := Aside0.mk (blk_below HT6.out hb7)
                              clear hW7 hb7 HI6 HT6 HI5 HT5
                              obtain ⟨ad5, c5', e5, hy0, hy1⟩ := R_at_P HI7.out.lst i E2.out g1
                              have HGi := Aside0.mk (HGl.out.rd E2.out g1)
                              subst e5
                              generalize rdP list3 i = dd at H' HGi hy0 hy1
                              obtain ⟨d1, d2⟩ := dd
                              simp only at hy0 hy1 HGi
                              have ht0 : W7.cell? ⟨T, 0, none⟩ = some (.int .i64 c1) := (blk_cell HT7.out 0).trans rfl
                              have ht1 : W7.cell? ⟨T, 1, none⟩ = some (.int .i64 c2) := (blk_cell HT7.out 1).trans rfl
                              have hm1 : W7.cell? ⟨M, 1, none⟩ = some (.map (some b)) := (blk_cell HI7.out.bM 1).trans rfl
                              have hlk := look_left HI7.out.left HGi.out false
                              rw [if_neg (by decide)] at hlk
                              obtain ⟨W8, hrun8, hI8, hg8⟩ := MI.setLeft HI7.out HGc.out (wrap64 ((lkP (d1, d2) left3).getD 0 + 1))
                              have HI8 := Aside0.mk hI8
                              have hT8 := blk_grown HT7.out hg8 (fun e => by injection e with e; exact HI7.out.left.ne HT7.out e.symm)
                              have hu0 : W8.cell? ⟨T, 0, none⟩ = some (.int .i64 c1) := (blk_cell hT8 0).trans rfl
                              have hu1 : W8.cell? ⟨T, 1, none⟩ = some (.int .i64 c2) := (blk_cell hT8 1).trans rfl
                              have q5 := eq_true g1
                              have G2 := Aside0.mk g2
                              clear hI8 g1 g2 hg8 hT8
                              simp only [List.take_succ_cons, List.take_zero, List.drop_succ_cons, List.drop_zero]
                              repeat still_step
                              refine wpStill_nil ?_
                              clear hy0 hy1 ht0 ht1 hm1 hlk
                              go_wp2_with fail
                              rw [hrun8]
                              go_wp2_with ((with_reducible refine gate_builtin (b := .append) (xs := #[.tmp 114, .tmp 116]) rfl ?_); at_builtin; refine Kd.R_append kP (w0 := w) w.heap.size rfl (.tmp 114) (.tmp 116) 102 74 (.agg #[.int .i64 0, .int .i64 0]) 16 rfl Try.underlying102 infoP rfl (by decide) (by omega) (.slice (some ad5) list3.length c5') list3 (c1, c2) [.int .i64 c1, .int .i64 c2] (fun _ => True) (fun _ => False) rfl rfl ?aP (fun _ hk => hk.elim) ?aF ?aO ?aB ?aS ?aL ?_; (case aP => exact ⟨[_], [_], rfl, rfl, rfl⟩); (case aB => exact HI8.out.below); (case aF => exact (fun _ _ => trivial)); (case aO => exact HI8.out.lst); (case aS => exact HI8.out.below.size); (case aL => have := G2.out; omega); intro v9 w9 ho hb hg hat;  have HI9 := Aside0.mk (HI8.out.listTo hg ho hat); clear ho hb hg hat)
                              go_roundg k3
                              case measure => omega
                              case rel => exact ⟨_, _, _, rfl, H', ⟨by have := HK2.out; omega⟩, HI9, ⟨HGl.out.snoc HGc.out⟩⟩
                            · rw [if_neg g2] at H; exact absurd H (by simp)
                          · rw [if_neg g1] at H; exact absurd H (by simp)
                      · rw [if_neg f2] at H; exact absurd H (by simp)
                    · rw [if_neg f1] at H
                      have H' := Aside0.mk H
                      have f1b := decide_eq_false f1
                      clear H f1
                      go_wp2_with fail
                      go_roundg k3
                      case measure => have := HK1.out; have := HK2.out; omega
                      case rel => exact ⟨_, _, _, rfl, H', ⟨by have := HK1.out; have := HK2.out; omega⟩, HI, HGl⟩
              · rw [if_neg e2] at H; exact absurd H (by simp)
            · rw [if_neg e1] at H
              obtain rfl := Option.some.inj H
              have e1b := decide_eq_false e1
              clear H e1
              go_wp2_with fail
              go_ret
              exact ⟨M, b, rfl, HI.out.hM, HI.out.hb, HI.out.bM, HI.out.left, HI.out.below⟩
end Go.Proofs.Ytcpmmkennnjalaa.Q
end
