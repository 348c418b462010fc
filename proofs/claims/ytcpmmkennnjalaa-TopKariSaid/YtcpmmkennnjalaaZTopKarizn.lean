/- In any Eulerian automaton that has a reset word, whatever set of states, neither empty nor all, is led into by more states with a word of at most n - 1 letters, and its shortest reset word has at most n^2 - 3n + 3 letters; in any circular one at most (n - 1)^2. (At most 9 states) (text 40 of 42) -/
import Derived.Test.YtcpmmkennnjalaaZTopKarizm
import Derived.Test.YtcpmmkennnjalaaZTopKario
import Derived.Test.YtcpmmkennnjalaaZTopKarim
import Derived.Test.YtcpmmkennnjalaaZTopKarij
import Derived.Test.YtcpmmkennnjalaaZTopKaril
section
namespace Go.Proofs.Ytcpmmkennnjalaa.Q
open Go.RowKit Go.Proofs.YtcpmmkennnjalaaW.PrintWords Go.Proofs.YtcpmmkennnjalaaW.PrintLast Go.Proofs.YtcpmmkennnjalaaW.PrintMore
set_option linter.unusedVariables false
set_option linter.unusedSimpArgs false
/-! ### euler.fresh -/
theorem infoMf : (Try.prog.info? 58).map (fun i => (i.zero, i.size, i.bytes)) = some (some (.agg #[.int .u16 0, .slice none 0 0]), 2, 32) := by kernel_rfl
def freshF : List (Int × List Int) → List Int → List (Int × List Int) × List Int
  | [], met => ([], met)
  | p :: L, met => if p.1 ∈ met then freshF L met else (p :: (freshF L (met ++ [p.1])).1, (freshF L (met ++ [p.1])).2)
def metE (met : List Int) : List (Int × Value) := met.map fun s => (s, .bool true)
theorem metE_lookup (x : Int) : ∀ met : List Int, (metE met).lookup x = if x ∈ met then some (.bool true) else none
  | [] => rfl
  | s :: met => by
    show List.lookup x ((s, Value.bool true) :: metE met) = _
    rw [List.lookup_cons]
    by_cases h : x = s
    · subst h; simp
    · have : (x == s) = false := by simp [h]
      rw [this]
      show List.lookup x (metE met) = _
      rw [metE_lookup x met]
      simp [h]
theorem metE_put {x : Int} {met : List Int} (h : x ∉ met) : putM x (Value.bool true) (metE met) = metE (met ++ [x]) := by
  rw [putM_new (by rw [metE_lookup, if_neg h])]
  unfold metE
  rw [List.map_append]; rfl
section
variable {w w1 : World} {base bm : Nat} {es : List (Int × Value)}
abbrev MetIs (w : World) (b : Nat) (met : List Int) : Prop := MapIs (α := Int) (IntKey .u16) (Value.int .u16) w b (metE met)
theorem R_butMap {α : Type} {d : Kd α} {e : Nat} {ok : Nat → Prop} {v : Value} {xs : List α} (h : d.R e w base ok v xs) (hm : MapIs (α := Int) (IntKey .u16) (Value.int .u16) w bm es) (hk : ∀ k, k < w.heap.size → k ≠ bm → w1.heap[k]? = w.heap[k]?) : d.R e w1 base ok v xs :=
  Kd.R_mono (Kd.R_move (Kd.R_bound h) (fun k hb => hk k hb.2.2.1 (by
    obtain ⟨_, _, _, q, _, cells, hc⟩ := hb
    exact fun e => hm.ne hc e.symm))) (fun _ hb => hb.1)
theorem GM.butMap {v : Value} {L : List (Int × List Int)} (h : GM w base v L) (hm : MapIs (α := Int) (IntKey .u16) (Value.int .u16) w bm es) (hk : ∀ k, k < w.heap.size → k ≠ bm → w1.heap[k]? = w.heap[k]?) : GM w1 base v L := by
  obtain ⟨zs, h1, h2, h3⟩ := h
  exact ⟨zs, R_butMap h1 hm hk, h2, fun i z r a b => ⟨(h3 i z r a b).1, R_butMap (h3 i z r a b).2 hm hk⟩⟩
theorem MapIs.same {b : Nat} (h : MapIs (α := Int) (IntKey .u16) (Value.int .u16) w b es) (e : w1.heap[b]? = w.heap[b]?) : MapIs (α := Int) (IntKey .u16) (Value.int .u16) w1 b es := by
  obtain ⟨arr, clock, hb, r⟩ := h
  exact ⟨arr, clock, e.trans hb, r⟩
/-- the row that is being made: its own block from b1 on, its words from base on -/
def GO (w : World) (b1 base : Nat) (v : Value) (L : List (Int × List Int)) : Prop := ∃ zs, Kd.R kMo 58 w b1 (fun _ => True) v zs ∧ zs.length = L.length ∧ ∀ (i : Nat) z r, zs[i]? = some z → L[i]? = some r → z.1 = r.1 ∧ PS w base z.2 r.2
theorem GO.nil (w : World) (b1 base : Nat) : GO w b1 base (.slice none 0 0) [] := ⟨[], Kd.R_nil _ _ _ _ _, rfl, fun i z r h => by simp at h⟩
theorem GO.lower {b1 : Nat} {v : Value} {L : List (Int × List Int)} (h : GO w b1 base v L) (hb : base ≤ b1) : GM w base v L := by
  obtain ⟨zs, h1, h2, h3⟩ := h
  exact ⟨zs, Kd.R_lower h1 hb, h2, h3⟩
theorem GO.below {b1 : Nat} {v : Value} {L : List (Int × List Int)} (h : GO w b1 base v L) (hb : Below w.heap.size w w1) : GO w1 b1 base v L := by
  obtain ⟨zs, h1, h2, h3⟩ := h
  exact ⟨zs, Kd.R_below h1 hb, h2, fun i z r a b => ⟨(h3 i z r a b).1, Kd.R_below (h3 i z r a b).2 hb⟩⟩
theorem GO.butMap {b1 : Nat} {v : Value} {L : List (Int × List Int)} (h : GO w b1 base v L) (hm : MapIs (α := Int) (IntKey .u16) (Value.int .u16) w bm es) (hk : ∀ k, k < w.heap.size → k ≠ bm → w1.heap[k]? = w.heap[k]?) : GO w1 b1 base v L := by
  obtain ⟨zs, h1, h2, h3⟩ := h
  exact ⟨zs, R_butMap h1 hm hk, h2, fun i z r a b => ⟨(h3 i z r a b).1, R_butMap (h3 i z r a b).2 hm hk⟩⟩
theorem GO.snoc {b1 : Nat} {zs : List (Int × Hd)} {l : List (Int × List Int)} {z : Int × Hd} {r : Int × List Int} {v1 : Value} (hR : Kd.R kMo 58 w1 b1 (fun _ => True) v1 (zs ++ [z])) (hl : zs.length = l.length) (h3 : ∀ (i : Nat) z r, zs[i]? = some z → l[i]? = some r → z.1 = r.1 ∧ PS w1 base z.2 r.2) (h1 : z.1 = r.1) (hz : PS w1 base z.2 r.2) : GO w1 b1 base v1 (l ++ [r]) := by
  refine ⟨zs ++ [z], hR, by simp [hl], fun i z' r' a b => ?_⟩
  rcases snoc_get a with a | ⟨a1, rfl⟩
  · rcases snoc_get b with b | ⟨b1, rfl⟩
    · exact h3 i z' r' a b
    · have := (List.getElem?_eq_some_iff.1 a).1; omega
  · rcases snoc_get b with b | ⟨b1, rfl⟩
    · have := (List.getElem?_eq_some_iff.1 b).1; omega
    · exact ⟨h1, hz⟩
end
theorem drop_rd {L : List (Int × List Int)} {i : Nat} (h : i < L.length) : L.drop i = rdMo L (i : Int) :: L.drop (i + 1) := by
  rw [List.drop_eq_getElem_cons h]
  congr 1
  show _ = L.getD (i : Int).toNat (0, [])
  rw [Int.toNat_natCast, List.getD_eq_getElem?_getD, List.getElem?_eq_getElem h]; rfl
set_option maxHeartbeats 2000000 in
set_option maxRecDepth 100000 in
theorem fresh_calls (v : Value) (L : List (Int × List Int)) (met : List Int) (bm base : Nat) (w : World) (hG : GM w base v L) (hM : MetIs w bm met) (hb : base ≤ bm) (h0 : 0 < L.length) (hL : L.length ≤ 4000000000000) (hs : ∀ r ∈ L, r.2.length < 1000000000000000000) (hn : (L.map (·.2)).Nodup) :
    Calls Try.prog 45 #[v, .map (some bm)] w fun x w' => ∃ v1, x = .returned v1 ∧ GM w' base v1 (freshF (sortM L) met).1 ∧ MetIs w' bm (freshF (sortM L) met).2 ∧ Below base w w' ∧ ∀ k, k < w.heap.size → k ≠ bm → some k ≠ v.ownBlock → w'.heap[k]? = w.heap[k]? := by
  have HS := Aside0.mk (sortM_calls v L base w hG h0 (by omega) hs hn)
  have hlen : (sortM L).length = L.length := (sortM_perm L).length_eq
  have hown : ∀ k, v.ownBlock = some k → base ≤ k ∧ bm ≠ k := fun k hk => by
    obtain ⟨zs, z1, _, _⟩ := hG
    obtain ⟨cells, hc⟩ := Kd.R_typed z1 k hk
    obtain ⟨inner, ho⟩ := Kd.R_own z1
    exact ⟨own_base ho k hk, hM.ne hc⟩
  have HOW := Aside0.mk hown
  have HM0 := Aside0.mk hM
  have HBM := Aside0.mk hb
  have HL := Aside0.mk hL
  obtain ⟨Av, cv, ev⟩ : ∃ A c, v = Value.slice A L.length c := by
    obtain ⟨zs, z1, z2, _⟩ := hG
    obtain ⟨A, c, e⟩ := Kd.R_slice z1
    exact ⟨A, c, by rw [e, z2]⟩
  have HBZ := Aside0.mk (Nat.le_trans hb (Nat.le_of_lt hM.lt))
  clear hG hM hown hb hL hs hn h0
  subst ev
  generalize hSS : sortM L = S at HS hlen ⊢
  clear hSS
  go_enter Try.func45, Try.ntmps45
  go_wp2_with (go_at_call 75; refine Calls.mono HS.out ?_; rintro x wp ⟨rfl, hG1, hg1⟩)
  have HGp := Aside0.mk hG1
  have HMp : Aside0 (MetIs wp bm met) := ⟨HM0.out.kept hg1 (fun e => (HOW.out bm e.symm).2 rfl)⟩
  have HBp : Aside0 (Below base w wp) := ⟨pw_below_grown (Below.refl base w) _ HBZ.out hg1 fun k hk => (HOW.out k hk).1⟩
  have HB0 := Aside0.mk (Below.refl base wp)
  have HG1 := Aside0.mk hg1
  have HZ : Aside0 (base ≤ wp.heap.size ∧ bm < wp.heap.size) := ⟨Nat.le_trans HBZ.out HBp.out.size, HMp.out.lt⟩
  clear hG1 hg1 HS HM0 HOW
  go_wp2_with fail
  go_loopg [5, 12] L.length (fun kx v5 v12 w' => ∃ (i : Nat) (out : List (Int × List Int)) (met2 : List Int), v12 = .int .i64 i ∧ Aside0 (i + kx = L.length ∧ out.length ≤ i) ∧ Aside0 (out ++ (freshF (S.drop i) met2).1 = (freshF S met).1 ∧ (freshF (S.drop i) met2).2 = (freshF S met).2) ∧ Aside0 (GO w' wp.heap.size base v5 out) ∧ Aside0 (MetIs w' bm met2) ∧ Aside0 (Below base wp w') ∧ Aside0 (∀ k, k < wp.heap.size → k ≠ bm → w'.heap[k]? = wp.heap[k]?))
  case atStart => exact ⟨0, [], met, rfl, ⟨by omega, by simp⟩, ⟨rfl, rfl⟩, ⟨GO.nil _ _ _⟩, HMp, HB0, ⟨fun _ _ _ => rfl⟩⟩
  case round =>
    clear HB0
    obtain ⟨i, out, met2, rfl, HI, HF, HO, HM, HB, HKp⟩ := hrel
    cases gk with
    | zero =>
      have hi : i = L.length := HI.out.1
      subst hi
      have hf := HF.out
      rw [List.drop_eq_nil_of_le (by rw [hlen]; exact Nat.le_refl _)] at hf
      have hf1 : out = (freshF S met).1 := by have := hf.1; simpa [freshF] using this
      have hf2 : met2 = (freshF S met).2 := hf.2
      clear hf
      have HF1 := Aside0.mk hf1
      have HF2 := Aside0.mk hf2
      clear hf1 hf2 HF HI
      go_wp2
      go_ret
      refine ⟨_, rfl, ?_, ?_, HBp.out.trans HB.out, fun k hk h1 h2 => (HKp.out k (Nat.lt_of_lt_of_le hk HG1.out.size) h1).trans (HG1.out.block k hk h2)⟩
      · rw [← HF1.out]; exact HO.out.lower HZ.out.1
      · rw [← HF2.out]; exact HM.out
    | succ kx =>
      have hi : i < L.length := by have := HI.out; omega
      have hiz : (i : Int) < (L.length : Int) := by omega
      obtain ⟨ad, cl, Aw, cw, el, hy0, hy1, hlw, hCw, hRw⟩ := (HGp.out.butMap HMp.out HKp.out).at_ (i : Int) (by omega) (by rw [hlen]; exact hiz)
      rw [hlen] at el
      obtain ⟨rfl, rfl⟩ : Av = some ad ∧ cv = cl := by injection el with e1 _ e3; exact ⟨e1, e3⟩
      have hdr := drop_rd (L := S) (i := i) (by rw [hlen]; exact hi)
      generalize rdMo S (i : Int) = mo at hy0 hy1 hlw hCw hRw hdr
      obtain ⟨s0, wd⟩ := mo
      simp only at hy0 hy1 hlw hCw hRw
      rw [Int.toNat_natCast] at hy0 hy1
      have HRw := Aside0.mk hRw
      have HDR := Aside0.mk hdr
      have rw1 : IntKind.i64.wrap ((i : Int) + 1) = (i : Int) + 1 := by rw [IntKind.wrap_i64]; have := HL.out; omega
      obtain ⟨W1, hW1⟩ : ∃ W1, wr.alloc (.cells #[.int .u16 s0, .slice Aw wd.length cw] 58) = W1 := ⟨_, rfl⟩
      have hba : Below wr.heap.size wr W1 := hW1 ▸ below_alloc (Below.refl wr.heap.size wr) _
      have HBA := Aside0.mk hba
      have HM1 : Aside0 (MetIs W1 bm met2) := ⟨HM.out.below hba⟩
      have HO1 : Aside0 (GO W1 wp.heap.size base u5 out) := ⟨HO.out.below hba⟩
      have HP1 : Aside0 (PS W1 base (Aw, wd.length, cw) wd) := ⟨Kd.R_below hRw hba⟩
      have HB1 : Aside0 (Below base wp W1) := ⟨HB.out.trans ⟨hba.os, hba.tape, hba.output, hba.size, fun k hk => hba.block k (Nat.lt_of_lt_of_le hk (Nat.le_trans HZ.out.1 HB.out.size))⟩⟩
      have HK1 : Aside0 (∀ k, k < wp.heap.size → k ≠ bm → W1.heap[k]? = wp.heap[k]?) := ⟨fun k hk hne => (hba.block k (Nat.lt_of_lt_of_le hk HB.out.size)).trans (HKp.out k hk hne)⟩
      have hlk := HM1.out.lookup (t := 56) (int_keyOk Try.underlying55) (fun a b e => by cases e; rfl) Try.underlying56 (z := .bool false) (by go_simp) s0 ⟨_, rfl⟩ false
      rw [metE_lookup] at hlk
      by_cases hin : s0 ∈ met2
      · have e1 : (freshF (S.drop i) met2) = freshF (S.drop (i + 1)) met2 := by rw [hdr, freshF, if_pos hin]
        have HF1 : Aside0 (out ++ (freshF (S.drop (i + 1)) met2).1 = (freshF S met).1 ∧ (freshF (S.drop (i + 1)) met2).2 = (freshF S met).2) := ⟨by rw [← e1]; exact HF.out⟩
        rw [if_pos hin] at hlk
        simp only [Option.getD_some, Bool.false_eq_true, if_false] at hlk
        subst hW1
        clear hdr hin e1 hRw hCw hlw hba HF HO HM HKp
        go_wp2_with fail
        go_roundg kx
        case measure => omega
        case rel => exact ⟨i + 1, out, met2, by go_num, ⟨by have := HI.out; omega, by have := HI.out; omega⟩, HF1, HO1, HM1, HB1, HK1⟩
      · have e1 : (freshF (S.drop i) met2) = ((s0, wd) :: (freshF (S.drop (i + 1)) (met2 ++ [s0])).1, (freshF (S.drop (i + 1)) (met2 ++ [s0])).2) := by rw [hdr, freshF, if_neg hin]
        have HF1 : Aside0 ((out ++ [(s0, wd)]) ++ (freshF (S.drop (i + 1)) (met2 ++ [s0])).1 = (freshF S met).1 ∧ (freshF (S.drop (i + 1)) (met2 ++ [s0])).2 = (freshF S met).2) := ⟨by
          have := HF.out
          rw [e1] at this
          refine ⟨?_, this.2⟩
          rw [List.append_assoc]
          exact this.1⟩
        rw [if_neg hin] at hlk
        simp only [Option.getD_none, Bool.false_eq_true, if_false] at hlk
        obtain ⟨W2, hup, hm2, hg2⟩ := MapIs.update (t := 56) HM1.out (int_keyOk Try.underlying55) (fun a b e => by cases e; rfl) Try.underlying56 s0 ⟨_, rfl⟩ (.bool true)
        rw [metE_put hin] at hm2
        have hkb : ∀ k, k < W1.heap.size → k ≠ bm → W2.heap[k]? = W1.heap[k]? := fun k hk hne => hg2.block k hk (fun e => hne (Option.some.inj e))
        have HM2 := Aside0.mk hm2
        have HO2 : Aside0 (GO W2 wp.heap.size base u5 out) := ⟨HO1.out.butMap HM1.out hkb⟩
        have HP2 : Aside0 (PS W2 base (Aw, wd.length, cw) wd) := ⟨R_butMap HP1.out HM1.out hkb⟩
        have HB2 : Aside0 (Below base wp W2) := ⟨pw_below_grown HB1.out _ (Nat.le_trans HZ.out.1 HB1.out.size) hg2 fun k e => by cases e; exact HBM.out⟩
        have HK2 : Aside0 (∀ k, k < wp.heap.size → k ≠ bm → W2.heap[k]? = wp.heap[k]?) := ⟨fun k hk hne => (hkb k (Nat.lt_of_lt_of_le hk HB1.out.size) hne).trans (HK1.out k hk hne)⟩
        have HWB : Aside0 (W2.heap[wr.heap.size]? = some (.cells #[.int .u16 s0, .slice Aw wd.length cw] 58 (0, 0))) := ⟨by
          have hne : wr.heap.size ≠ bm := by have := HM.out.lt; omega
          have hlt : wr.heap.size < W1.heap.size := by rw [← hW1]; simp
          rw [hkb _ hlt hne, ← hW1]
          exact blk_new wr _⟩
        have hc0 : W2.cell? ⟨wr.heap.size, 0, none⟩ = some (.int .u16 s0) := (blk_cell HWB.out 0).trans rfl
        have hc1 : W2.cell? ⟨wr.heap.size, 1, none⟩ = some (.slice Aw wd.length cw) := (blk_cell HWB.out 1).trans rfl
        have HSZ : Aside0 (wp.heap.size ≤ W2.heap.size) := ⟨HB2.out.size⟩
        subst hW1
        clear hdr hin e1 hRw hCw hlw hba HF HO HM HKp hm2 hg2 hkb HO1 HM1 HP1 HB1 HK1
        go_wp2_with ((with_reducible refine gate_builtin (b := .append) (xs := #[.tmp 24, .tmp 26]) rfl ?_); obtain ⟨zsn, zn1, zn2, zn3⟩ := HO2.out; have ZN1 := Aside0.mk zn1; have ZN2 := Aside0.mk zn2; have ZN3 := Aside0.mk zn3; clear zn1 zn2 zn3; at_builtin; refine Kd.R_append kMo (w0 := W2) wp.heap.size rfl (.tmp 24) (.tmp 26) 59 58 (.agg #[.int .u16 0, .slice none 0 0]) 32 rfl Try.underlying59 infoMf rfl (by decide) (by omega) u5 zsn (s0, Aw, wd.length, cw) [.int .u16 s0, .slice Aw wd.length cw] (fun _ => True) (fun _ => False) rfl rfl ?aP (fun _ hk => hk.elim) ?aF ?aO ?aB ?aS ?aL ?_; (case aP => exact kMo_M); (case aF => exact (fun _ _ => trivial)); (case aO => exact ZN1.out); (case aB => exact Below.refl _ _); (case aS => exact HSZ.out); (case aL => have h1 := HL.out; have h2 := ZN2.out; have h3 := HI.out; omega);  intro v10 w10 ho hb hg hat; have HO3 := Aside0.mk (GO.snoc (r := (s0, wd)) ho ZN2.out (fun i z r a b => ⟨(ZN3.out i z r a b).1, (ZN3.out i z r a b).2.over (Kd.R_typed ZN1.out) (by decide) hg⟩) rfl (HP2.out.over (Kd.R_typed ZN1.out) (by decide) hg)); have HB3 := Aside0.mk hb; clear ho hb hg hat)
        have HB4 : Aside0 (Below base wp w10) := ⟨HB2.out.trans ⟨HB3.out.os, HB3.out.tape, HB3.out.output, HB3.out.size, fun k hk => HB3.out.block k (Nat.lt_of_lt_of_le hk HZ.out.1)⟩⟩
        have HK4 : Aside0 (∀ k, k < wp.heap.size → k ≠ bm → w10.heap[k]? = wp.heap[k]?) := ⟨fun k hk hne => (HB3.out.block k hk).trans (HK2.out k hk hne)⟩
        have HM4 : Aside0 (MetIs w10 bm (met2 ++ [s0])) := ⟨HM2.out.same (HB3.out.block bm HZ.out.2)⟩
        clear hc0 hc1 hlk hup
        go_wp2_with fail
        go_roundg kx
        case measure => omega
        case rel => exact ⟨i + 1, out ++ [(s0, wd)], met2 ++ [s0], by go_num, ⟨by have := HI.out; omega, by have := HI.out; rw [List.length_append]; simp; omega⟩, HF1, HO3, HM4, HB4, HK4⟩
end Go.Proofs.Ytcpmmkennnjalaa.Q
end
section
namespace Go.Proofs.Ytcpmmkennnjalaa.Q
open Go.RowKit Go.Proofs.YtcpmmkennnjalaaW.PrintWords Go.Proofs.YtcpmmkennnjalaaW.PrintLast Go.Proofs.YtcpmmkennnjalaaW.PrintMore
set_option linter.unusedVariables false
set_option linter.unusedSimpArgs false
theorem infoI : (Try.prog.info? 34).map (fun i => (i.zero, i.size, i.bytes)) = some (some (.slice none 0 0), 1, 24) := by kernel_rfl
theorem infoM : (Try.prog.info? 58).map (fun i => (i.zero, i.size, i.bytes)) = some (some (.agg #[.int .u16 0, .slice none 0 0]), 2, 32) := by kernel_rfl
def firstE (set : List Int) : Int := set.foldl (fun a s => Go.bits .or .u16 a (IntKind.u16.wrap (2 ^ min s.toNat 16))) 0
def euler_Extend.l2 : Nat → List (List Int) → Int → List (Int × List Int) → Int → Int → List (Int × List Int) → List (List Int) → Option (List (Int × List Int) × List (List Int))
  | 0, _, _, _, _, _, _, _ => none
  | k + 1, rows, n, level, x, j, next, found => if j < (level.length : Int) then (if 0 ≤ j then ((euler_back.f k rows (rdMo level j).1 x).bind fun t => if (rdMo level j).2.length < 17592186044415 then ((euler_size.f k t).bind fun s => if next.length < 4000000000000 then (if n < s then (if found.length < 5000000000000 then euler_Extend.l2 k rows n level x (wrap64 (j + 1)) (next ++ [(t, x :: (rdMo level j).2)]) (found ++ [x :: (rdMo level j).2]) else none) else euler_Extend.l2 k rows n level x (wrap64 (j + 1)) (next ++ [(t, x :: (rdMo level j).2)]) found) else none) else none) else none) else some (next, found)
def euler_Extend.l1 : Nat → List (List Int) → Int → List (Int × List Int) → Int → Int → List (Int × List Int) → List (List Int) → Option (List (Int × List Int) × List (List Int))
  | 0, _, _, _, _, _, _, _ => none
  | k + 1, rows, n, level, m, x, next, found => if x < m then ((euler_Extend.l2 k rows n level x 0 next found).bind fun p => euler_Extend.l1 k rows n level m (wrap64 (x + 1)) p.1 p.2) else some (next, found)
/-- what the sort asks of a level -/
def freshOk (L : List (Int × List Int)) : Bool := decide (0 < L.length ∧ L.length ≤ 4000000000000 ∧ (∀ r ∈ L, r.2.length < 1000000000000000000) ∧ (L.map (·.2)).Nodup)
def euler_Extend.l0 : Nat → List (List Int) → Int → List (Int × List Int) → List Int → Option (List Int × Int)
  | 0, _, _, _, _ => none
  | k + 1, rows, n, level, met => if 0 < level.length then ((auto_Letters.f rows).bind fun m => (euler_Extend.l1 k rows n level m 0 [] []).bind fun p => if 0 < p.2.length then ((slices_MinFunc.f k p.2).bind fun o => some (o, 0)) else (if freshOk p.1 = true then euler_Extend.l0 k rows n (freshF (sortM p.1) met).1 (freshF (sortM p.1) met).2 else none)) else some ([], 4)
def euler_Extend.f (k : Nat) (l0_0 : List (List Int)) (l1 : List Int) : Option (List Int × Int) := (auto_Valid.f l0_0).bind fun v => if v = true then ((auto_Set.f k l0_0 l1).bind fun s => if s = true then (if 12 < l0_0.length then some ([], 3) else (if inB l0_0.length l1 = true then euler_Extend.l0 k l0_0 (l1.length : Int) [(firstE l1, [])] [firstE l1] else none)) else some ([], 2)) else some ([], 1)
theorem firstE_drop {l : List Int} {x a r : Int} (h0 : 0 ≤ x) (h1 : x < l.length) (h : (l.drop x.toNat).foldl (fun a s => Go.bits .or .u16 a (IntKind.u16.wrap (2 ^ min s.toNat 16))) a = r) : (l.drop (x.toNat + 1)).foldl (fun a s => Go.bits .or .u16 a (IntKind.u16.wrap (2 ^ min s.toNat 16))) (Go.bits .or .u16 a (IntKind.u16.wrap (2 ^ min (rd l x).toNat 16))) = r := by
  obtain ⟨i, rfl⟩ := Int.eq_ofNat_of_zero_le h0
  have hi : i < l.length := by omega
  have e : rd l (i : Int) = l[i] := by
    show l.getD i 0 = _
    rw [List.getD_eq_getElem?_getD, List.getElem?_eq_getElem hi]; rfl
  rw [Int.toNat_natCast, List.drop_eq_getElem_cons hi] at h
  rw [e]; exact h
theorem inB_at {n : Int} {l : List Int} (h : inB n l = true) {x : Int} (h0 : 0 ≤ x) (h1 : x < l.length) : 0 ≤ rd l x := by
  obtain ⟨i, rfl⟩ := Int.eq_ofNat_of_zero_le h0
  have hi : i < l.length := by omega
  have e : rd l (i : Int) = l[i] := by
    show l.getD i 0 = _
    rw [List.getD_eq_getElem?_getD, List.getElem?_eq_getElem hi]; rfl
  rw [e]
  unfold inB at h
  rw [List.all_eq_true] at h
  have := h _ (List.getElem_mem hi)
  simp at this
  exact this.1
theorem lit_Mo (W : World) (a : Int) : GM (W.alloc (.cells #[.int .u16 a, .slice none 0 0] 58)) W.heap.size (.slice (some ⟨W.heap.size, 0, none⟩) 1 1) [(a, [])] := by
  refine ⟨[(a, none, 0, 0)], ⟨fun _ _ => trivial, [.int .u16 a, .slice none 0 0], ?_, ?_⟩, rfl, fun i z r h1 h2 => ?_⟩
  · have h2 := World.ownsRow_lit (base := W.heap.size) (e := 58) (size := 2) W #[.int .u16 a, .slice none 0 0] 1 (Nat.le_refl _) (by first | rfl | decide) (by first | rfl | decide)
    have e : kMo.sz = 2 := rfl
    rw [e]
    simpa using h2
  · refine ⟨rfl, fun j p hj => ?_⟩
    cases j with
    | zero =>
      obtain rfl := Option.some.inj hj
      exact ⟨[_], [_], rfl, rfl, rfl⟩
    | succ j => simp at hj
  · cases i with
    | zero =>
      obtain rfl := Option.some.inj h1
      obtain rfl := Option.some.inj h2
      exact ⟨rfl, Kd.R_nil _ _ _ _ _⟩
    | succ i => simp at h1
/-- the map with its first set -/
theorem met_first (W : World) (a : Int) : ∃ W1, (Instr.mapUpdate 56 (.map (some W.heap.size)) (.int .u16 a) (.bool true)).run Try.prog (W.alloc (.map #[] 0)) = .ok () W1 ∧ Below W.heap.size W W1 ∧ MetIs W1 W.heap.size [a] := by
  obtain ⟨W1, h1, h2, h3⟩ := MapIs.update (t := 56) (MapIs.made (α := Int) (G := IntKey .u16) (enc := Value.int .u16) W) (int_keyOk Try.underlying55) (fun a b e => by cases e; rfl) Try.underlying56 a ⟨_, rfl⟩ (.bool true)
  have hb := below_alloc (Below.refl W.heap.size W) (.map #[] 0)
  exact ⟨W1, h1, pw_below_grown hb (some W.heap.size) hb.size h3 fun k e => by cases e; exact Nat.le_refl _, h2⟩
set_option maxHeartbeats 4000000 in
set_option maxRecDepth 100000 in
theorem euler_Extend.calls (k : Nat) (A0_0 : Option Addr) (c0_0 : Nat) (l0_0 : List (List Int)) (A1 : Option Addr) (c1 : Nat) (l1 : List Int) (r1 : List Int) (r2 : Int) (w : World) (hr0_0 : Kd.C (Kd.slice 3 (Kd.int .i64)) w A0_0 l0_0.length l0_0) (hc0_0 : l0_0.length ≤ c0_0) (hr1 : Kd.C (Kd.int .i64) w A1 l1.length l1) (hc1 : l1.length ≤ c1) (h : euler_Extend.f k l0_0 l1 = some (r1, r2)) :
    Calls Try.prog 17 #[.agg #[.slice A0_0 l0_0.length c0_0], .slice A1 l1.length c1] w fun e w' => ∃ v0_ : Value, e = .returned (.tuple #[v0_, .int .i64 r2]) ∧ Kd.R (Kd.int .i64) 3 w' w.heap.size (fun _ => True) v0_ r1 ∧ Below w.heap.size w w' := by
  have HR := Aside0.mk hr0_0
  have HC := Aside0.mk hc0_0
  have HS := Aside0.mk hr1
  have HC1 := Aside0.mk hc1
  have HB0 := Below.refl w.heap.size w
  clear hr0_0 hc0_0 hr1 hc1
  have H := h
  clear h
  unfold euler_Extend.f at H
  obtain ⟨v, hv, H⟩ := Option.bind_eq_some_iff.mp H
  have HV := Aside0.mk hv
  clear hv
  cases v with
  | false =>
    rw [if_neg (by decide)] at H
    simp only [Option.some.injEq, Prod.mk.injEq] at H
    obtain ⟨rfl, rfl⟩ := H
    go_enter Try.func17, Try.ntmps17
    go_wp2_with ((with_reducible refine gate_dst (N := 2) rfl ?_); refine box_event ?hg (N := 2) ?hd (cs := #[.slice A0_0 l0_0.length c0_0]) (t := 24) ?hr ?_; (case hd => rfl); (case hg => rfl); (case hr => first | (go_simp; done) | (go_simp; rfl)); intro B hBe w1 hbox hb1;  have hcb : w1.cell? ⟨B, 0, none⟩ = some (.slice A0_0 l0_0.length c0_0) := (blk_cell hbox 0).trans rfl;  have HBox := Aside0.mk hbox; have HB1 := Aside0.mk (below_step HB0 hb1); clear hbox hb1 hBe)
    refine (auto_Valid.calls _ _ l0_0 false _ (Kd.C_below HR.out HB1.out) HC.out HV.out).mono ?_
    rintro e w2 ⟨rfl, hb2⟩
    have HB2 := Aside0.mk (below_step HB1.out hb2)
    have HBox2 := Aside0.mk (blk_below HBox.out hb2)
    have hcb2 : w2.cell? ⟨B, 0, none⟩ = some (.slice A0_0 l0_0.length c0_0) := (blk_cell HBox2.out 0).trans rfl
    clear hb2 hcb
    go_wp2
    go_ret2
    exact ⟨_, rfl, Kd.R_nil _ _ _ _ _, HB2.out⟩
  | true =>
    rw [if_pos rfl] at H
    obtain ⟨b1, hb1, H⟩ := Option.bind_eq_some_iff.mp H
    have HS1 := Aside0.mk hb1
    clear hb1
    cases b1 with
    | false =>
      rw [if_neg (by decide)] at H
      simp only [Option.some.injEq, Prod.mk.injEq] at H
      obtain ⟨rfl, rfl⟩ := H
      go_enter Try.func17, Try.ntmps17
      go_wp2_with ((with_reducible refine gate_dst (N := 2) rfl ?_); refine box_event ?hg (N := 2) ?hd (cs := #[.slice A0_0 l0_0.length c0_0]) (t := 24) ?hr ?_; (case hd => rfl); (case hg => rfl); (case hr => first | (go_simp; done) | (go_simp; rfl)); intro B hBe w1 hbox hb1;  have hcb : w1.cell? ⟨B, 0, none⟩ = some (.slice A0_0 l0_0.length c0_0) := (blk_cell hbox 0).trans rfl;  have HBox := Aside0.mk hbox; have HB1 := Aside0.mk (below_step HB0 hb1); clear hbox hb1 hBe)
      refine (auto_Valid.calls _ _ l0_0 true _ (Kd.C_below HR.out HB1.out) HC.out HV.out).mono ?_
      rintro e w2 ⟨rfl, hb2⟩
      have HB2 := Aside0.mk (below_step HB1.out hb2)
      have HBox2 := Aside0.mk (blk_below HBox.out hb2)
      have hcb2 : w2.cell? ⟨B, 0, none⟩ = some (.slice A0_0 l0_0.length c0_0) := (blk_cell HBox2.out 0).trans rfl
      clear hb2 hcb
      go_wp2_with fail
      refine (auto_Set.calls k _ _ l0_0 _ _ l1 false _ (Kd.C_below HR.out HB2.out) HC.out (Kd.C_below HS.out HB2.out) HC1.out HS1.out).mono ?_
      rintro e w3 ⟨rfl, hb3⟩
      have HB3 := Aside0.mk (below_step HB2.out hb3)
      have HBox3 := Aside0.mk (blk_below HBox2.out hb3)
      have hcb3 : w3.cell? ⟨B, 0, none⟩ = some (.slice A0_0 l0_0.length c0_0) := (blk_cell HBox3.out 0).trans rfl
      clear hb3 hcb2
      go_wp2
      go_ret2
      exact ⟨_, rfl, Kd.R_nil _ _ _ _ _, HB3.out⟩
    | true =>
      rw [if_pos rfl] at H
      by_cases d0 : 12 < l0_0.length
      · rw [if_pos d0] at H
        simp only [Option.some.injEq, Prod.mk.injEq] at H
        obtain ⟨rfl, rfl⟩ := H
        have d0b : decide ((l0_0.length : Int) > 12) = true := decide_eq_true (by omega)
        have d0c : decide (12 < l0_0.length) = true := decide_eq_true d0
        clear d0
        go_enter Try.func17, Try.ntmps17
        go_wp2_with ((with_reducible refine gate_dst (N := 2) rfl ?_); refine box_event ?hg (N := 2) ?hd (cs := #[.slice A0_0 l0_0.length c0_0]) (t := 24) ?hr ?_; (case hd => rfl); (case hg => rfl); (case hr => first | (go_simp; done) | (go_simp; rfl)); intro B hBe w1 hbox hb1;  have hcb : w1.cell? ⟨B, 0, none⟩ = some (.slice A0_0 l0_0.length c0_0) := (blk_cell hbox 0).trans rfl;  have HBox := Aside0.mk hbox; have HB1 := Aside0.mk (below_step HB0 hb1); clear hbox hb1 hBe)
        refine (auto_Valid.calls _ _ l0_0 true _ (Kd.C_below HR.out HB1.out) HC.out HV.out).mono ?_
        rintro e w2 ⟨rfl, hb2⟩
        have HB2 := Aside0.mk (below_step HB1.out hb2)
        have HBox2 := Aside0.mk (blk_below HBox.out hb2)
        have hcb2 : w2.cell? ⟨B, 0, none⟩ = some (.slice A0_0 l0_0.length c0_0) := (blk_cell HBox2.out 0).trans rfl
        clear hb2 hcb
        go_wp2_with fail
        refine (auto_Set.calls k _ _ l0_0 _ _ l1 true _ (Kd.C_below HR.out HB2.out) HC.out (Kd.C_below HS.out HB2.out) HC1.out HS1.out).mono ?_
        rintro e w3 ⟨rfl, hb3⟩
        have HB3 := Aside0.mk (below_step HB2.out hb3)
        have HBox3 := Aside0.mk (blk_below HBox2.out hb3)
        have hcb3 : w3.cell? ⟨B, 0, none⟩ = some (.slice A0_0 l0_0.length c0_0) := (blk_cell HBox3.out 0).trans rfl
        clear hb3 hcb2
        go_wp2
        go_ret2
        exact ⟨_, rfl, Kd.R_nil _ _ _ _ _, HB3.out⟩
      · rw [if_neg d0] at H
        by_cases e1 : inB l0_0.length l1 = true
        rotate_left
        · rw [if_neg e1] at H; cases H
        rw [if_pos e1] at H
        have H0 := Aside0.mk H
        have E1 := Aside0.mk e1
        have d0b : decide ((l0_0.length : Int) > 12) = false := decide_eq_false (by omega)
        have d0c : decide (12 < l0_0.length) = false := decide_eq_false d0
        clear H e1 d0
        go_enter Try.func17, Try.ntmps17
        go_wp2_with ((with_reducible refine gate_dst (N := 2) rfl ?_); refine box_event ?hg (N := 2) ?hd (cs := #[.slice A0_0 l0_0.length c0_0]) (t := 24) ?hr ?_; (case hd => rfl); (case hg => rfl); (case hr => first | (go_simp; done) | (go_simp; rfl)); intro B hBe w1 hbox hb1;  have hcb : w1.cell? ⟨B, 0, none⟩ = some (.slice A0_0 l0_0.length c0_0) := (blk_cell hbox 0).trans rfl;  have HBox := Aside0.mk hbox; have HB1 := Aside0.mk (below_step HB0 hb1); clear hbox hb1 hBe)
        refine (auto_Valid.calls _ _ l0_0 true _ (Kd.C_below HR.out HB1.out) HC.out HV.out).mono ?_
        rintro e w2 ⟨rfl, hb2⟩
        have HB2 := Aside0.mk (below_step HB1.out hb2)
        have HBox2 := Aside0.mk (blk_below HBox.out hb2)
        have hcb2 : w2.cell? ⟨B, 0, none⟩ = some (.slice A0_0 l0_0.length c0_0) := (blk_cell HBox2.out 0).trans rfl
        clear hb2 hcb
        go_wp2_with fail
        refine (auto_Set.calls k _ _ l0_0 _ _ l1 true _ (Kd.C_below HR.out HB2.out) HC.out (Kd.C_below HS.out HB2.out) HC1.out HS1.out).mono ?_
        rintro e w3 ⟨rfl, hb3⟩
        have HB3 := Aside0.mk (below_step HB2.out hb3)
        have HBox3 := Aside0.mk (blk_below HBox2.out hb3)
        have hcb3 : w3.cell? ⟨B, 0, none⟩ = some (.slice A0_0 l0_0.length c0_0) := (blk_cell HBox3.out 0).trans rfl
        clear hb3 hcb2
        go_wp2_with fail
        clear d0b d0c
        go_loopg [6, 34] l1.length (fun kq v6 v34 w' => ∃ (x a : Int), v34 = .int .i64 x ∧ v6 = .int .u16 a ∧ Aside0 (0 ≤ x ∧ x + (kq : Int) = (l1.length : Int)) ∧ Aside0 ((l1.drop x.toNat).foldl (fun a s => Go.bits .or .u16 a (IntKind.u16.wrap (2 ^ min s.toNat 16))) a = firstE l1) ∧ Aside0 (Below w.heap.size w w') ∧ Aside0 (w'.heap[B]? = some (.cells #[.slice A0_0 l0_0.length c0_0] 24 (0, 0))))
        case atStart => exact ⟨0, 0, rfl, rfl, ⟨⟨by omega, by omega⟩⟩, ⟨rfl⟩, HB3, HBox3⟩
        case round =>
          obtain ⟨x, a, rfl, rfl, HK, HF, HB, HBx⟩ := hrel
          by_cases d1 : x < (l1.length : Int)
          · have d2 : 0 ≤ x := HK.out.1
            obtain ⟨ad, e2, hxr⟩ := Kd.at_int (Kd.C_below HS.out HB.out) x d2 d1
            cases e2
            have t1 := inB_at E1.out d2 d1
            have hdr := firstE_drop d2 d1 HF.out
            have hw : wrap64 (x + 1) = x + 1 := by have h2 := HS.out.2.1; unfold wrap64; omega
            generalize rd l1 x = t at hxr t1 hdr
            have HF1 := Aside0.mk hdr
            have HW1 := Aside0.mk hw
            have d1b := decide_eq_true d1
            have q1 := eq_true d1
            have q2 := eq_true d2
            have q3 := eq_true t1
            have HD := Aside0.mk d1
            clear d1 d2 t1 hdr hw
            go_wp2_with fail
            obtain ⟨g1, rfl⟩ : ∃ g1, gk = g1 + 1 := ⟨gk - 1, by have := HK.out; have := HD.out; omega⟩
            go_roundg g1
            case measure => omega
            case rel => exact ⟨x + 1, _, by rw [HW1.out], rfl, ⟨⟨by have := HK.out.1; omega, by have := HK.out.2; omega⟩⟩, ⟨by have h1 := HK.out.1; rw [show (x + 1).toNat = x.toNat + 1 from by omega]; exact HF1.out⟩, HB, HBx⟩
          · have ha : a = firstE l1 := by
              have h1 := HK.out
              have h3 := HF.out
              rw [List.drop_eq_nil_of_le (by omega)] at h3
              exact h3
            have d1b := decide_eq_false d1
            obtain ⟨w5, hrun5, hb5, hm5⟩ := met_first wr a
            obtain ⟨bm, hbm⟩ : ∃ bm, wr.heap.size = bm := ⟨_, rfl⟩
            have HBM := Aside0.mk (show w.heap.size ≤ bm from hbm ▸ HB.out.size)
            have HB5 := Aside0.mk (below_step HB.out hb5)
            have HBx5 := Aside0.mk (blk_below HBx.out hb5)
            have hmm := @run_makeMap Try.prog
            have HA := Aside0.mk ha
            have HMa : Aside0 (MetIs (w5.alloc (.cells #[.int .u16 a, .slice none 0 0] 58)) bm [a]) := ⟨hbm ▸ hm5.below (below_alloc (Below.refl w5.heap.size w5) _)⟩
            have HBM2 := Aside0.mk hbm
            clear d1 ha hb5 hm5 hbm
            go_wp2_with fail
            have HB6 := Aside0.mk (below_alloc HB5.out (.cells #[.int .u16 a, .slice none 0 0] 58))
            have HBx6 := Aside0.mk (blk_alloc HBx5.out (.cells #[.int .u16 a, .slice none 0 0] 58))
            have HG6 := Aside0.mk ((lit_Mo w5 a).lower HB5.out.size)
            rw [HA.out] at HG6 HB6 HBx6 HMa ⊢
            clear hrun5 hmm
            rw [HBM2.out]
            generalize (Value.slice (some ⟨w5.heap.size, 0, none⟩) 1 1) = v10 at HG6 ⊢
            generalize (w5.alloc (.cells #[.int .u16 (firstE l1), .slice none 0 0] 58)) = w6 at HG6 HB6 HBx6 HMa ⊢
            go_loopg [10] k (fun kq v10 w' => ∃ (level : List (Int × List Int)) (met : List Int), Aside0 (MetIs w' bm met) ∧ Aside0 (euler_Extend.l0 kq l0_0 (l1.length : Int) level met = some (r1, r2)) ∧ Aside0 (kq ≤ k) ∧ Aside0 (GM w' w.heap.size v10 level) ∧ Aside0 (Below w.heap.size w w') ∧ Aside0 (w'.heap[B]? = some (.cells #[.slice A0_0 l0_0.length c0_0] 24 (0, 0))))
            case atStart => exact ⟨_, _, HMa, H0, ⟨Nat.le_refl _⟩, HG6, HB6, HBx6⟩
            case round =>
              clear H0 HG6 HB6 HBx6 HMa
              obtain ⟨level, met, HMt, HA0, HK0, HG, HB, HBx⟩ := hrel
              obtain ⟨g9, hg9⟩ : ∃ g9, g9 = gk := ⟨_, rfl⟩
              cases gk with
              | zero => exact absurd HA0.out (by simp [euler_Extend.l0])
              | succ k1 =>
                have HG9 := Aside0.mk hg9
                clear hg9
                have H := HA0.out
                clear HA0
                simp only [euler_Extend.l0] at H
                obtain ⟨AL, cL, eL⟩ : ∃ A c, u10 = Value.slice A level.length c := by
                  obtain ⟨zs, z1, z2, _⟩ := HG.out
                  obtain ⟨A, c, e⟩ := Kd.R_slice z1
                  exact ⟨A, c, by rw [e, z2]⟩
                subst eL
                by_cases d1 : 0 < level.length
                · rw [if_pos d1] at H
                  obtain ⟨m, hm, H⟩ := Option.bind_eq_some_iff.1 H
                  obtain ⟨⟨nx, fo⟩, hp, H⟩ := Option.bind_eq_some_iff.1 H
                  have HM := Aside0.mk hm
                  have HP := Aside0.mk hp
                  have HE := Aside0.mk H
                  have d1b : decide ((level.length : Int) > 0) = true := decide_eq_true (by omega)
                  have d1c : decide (0 < level.length) = true := decide_eq_true d1
                  have hcb : wr.cell? ⟨B, 0, none⟩ = some (.slice A0_0 l0_0.length c0_0) := (blk_cell HBx.out 0).trans rfl
                  clear H hm hp d1
                  go_wp2_with fail
                  refine (auto_Letters.calls _ _ l0_0 m _ (Kd.C_below HR.out HB.out) HC.out HM.out).mono ?_
                  rintro e wp ⟨rfl, hbp⟩
                  have HBp := Aside0.mk (below_step HB.out hbp)
                  have HBxp := Aside0.mk (blk_below HBx.out hbp)
                  have HGp := Aside0.mk (HG.out.below hbp)
                  have HMp := Aside0.mk (HMt.out.below hbp)
                  have HBpp := Aside0.mk (Below.refl wp.heap.size wp)
                  clear hbp hcb d1b d1c
                  go_wp2_with fail
                  go_loopg [11, 12, 54] k1 (fun kq v11 v12 v54 w' => ∃ (x : Int) (next : List (Int × List Int)) (found : List (List Int)), v54 = .int .i64 x ∧ Aside0 (euler_Extend.l1 kq l0_0 (l1.length : Int) level m x next found = some (nx, fo)) ∧ Aside0 (kq ≤ k1) ∧ Aside0 (GM w' wp.heap.size v11 next) ∧ Aside0 (GS w' wp.heap.size v12 found) ∧ Aside0 (Below wp.heap.size wp w'))
                  case atStart => exact ⟨0, [], [], rfl, HP, ⟨Nat.le_refl _⟩, ⟨GM.nil _ _⟩, ⟨GS.nil _ _⟩, HBpp⟩
                  case round =>
                    clear HP HBpp
                    obtain ⟨x, next, found, rfl, HA1, HK1, HNx, HFo, HBr⟩ := hrel
                    obtain ⟨g0, hg0⟩ : ∃ g0, g0 = gk := ⟨_, rfl⟩
                    cases gk with
                    | zero => exact absurd HA1.out (by simp [euler_Extend.l1])
                    | succ k2 =>
                      have H := HA1.out
                      clear HA1
                      simp only [euler_Extend.l1] at H
                      have HG0 := Aside0.mk hg0
                      clear hg0
                      by_cases d2 : x < m
                      · rw [if_pos d2] at H
                        obtain ⟨⟨nx2, fo2⟩, hp2, H⟩ := Option.bind_eq_some_iff.1 H
                        have HP2 := Aside0.mk hp2
                        have HE2 := Aside0.mk H
                        have d2b := decide_eq_true d2
                        clear H hp2 d2
                        go_wp2_with fail
                        go_loopg [11, 12, 59] k2 (fun kq v11 v12 v59 w' => ∃ (j : Int) (next : List (Int × List Int)) (found : List (List Int)), v59 = .int .i64 j ∧ Aside0 (euler_Extend.l2 kq l0_0 (l1.length : Int) level x j next found = some (nx2, fo2)) ∧ Aside0 (kq ≤ k2) ∧ Aside0 (GM w' wp.heap.size v11 next) ∧ Aside0 (GS w' wp.heap.size v12 found) ∧ Aside0 (Below wp.heap.size wp w'))
                        case atStart => exact ⟨0, _, _, rfl, HP2, ⟨Nat.le_refl _⟩, HNx, HFo, HBr⟩
                        case round =>
                          clear HP2 HNx HFo HBr
                          obtain ⟨j, next, found, rfl, HA2, HK2, HNx, HFo, HBs⟩ := hrel
                          cases gk with
                          | zero => exact absurd HA2.out (by simp [euler_Extend.l2])
                          | succ k3 =>
                            have H := HA2.out
                            clear HA2
                            simp only [euler_Extend.l2] at H
                            by_cases d4 : j < (level.length : Int)
                            · rw [if_pos d4] at H
                              by_cases d5 : 0 ≤ j
                              · rw [if_pos d5] at H
                                obtain ⟨t, ht, H⟩ := Option.bind_eq_some_iff.1 H
                                by_cases d6 : (rdMo level j).2.length < 17592186044415
                                · rw [if_pos d6] at H
                                  obtain ⟨sz, hsz, H⟩ := Option.bind_eq_some_iff.1 H
                                  by_cases d7 : next.length < 4000000000000
                                  · rw [if_pos d7] at H
                                    obtain ⟨ad, cl, Aw, cw, el, hy0, hy1, hlw, hCw, _⟩ := (HGp.out.below HBs.out).at_ j d5 d4
                                    cases el
                                    generalize rdMo level j = mo at ht H hy0 hy1 hlw hCw d6
                                    obtain ⟨s0, wd⟩ := mo
                                    simp only at ht H hy0 hy1 hlw hCw d6
                                    have HT := Aside0.mk ht
                                    have HSZ := Aside0.mk hsz
                                    have HLw := Aside0.mk d6
                                    have HCw := Aside0.mk hCw
                                    have L4 := Aside0.mk d7
                                    have d4b := decide_eq_true d4
                                    have q4 := eq_true d4
                                    have q5 := eq_true d5
                                    clear ht hsz hCw hlw d4 d5 d6 d7
                                    by_cases d8 : (l1.length : Int) < sz
                                    · rw [if_pos d8] at H
                                      by_cases d9 : found.length < 5000000000000
                                      · rw [if_pos d9] at H
                                        have HE3 := Aside0.mk H
                                        have L5 := Aside0.mk d9
                                        have d8b : decide (sz > (l1.length : Int)) = true := decide_eq_true d8
                                        clear H d8 d9
                                        have HOBL := Aside0.mk (below_alloc (Below.refl wr.heap.size wr) (.cells #[.int .u16 s0, .slice Aw wd.length cw] 58))
                                        have HBxr := Aside0.mk (blk_below HBxp.out HBs.out)
                                        have HN0 := Aside0.mk (blk_new wr (.cells #[.int .u16 s0, .slice Aw wd.length cw] 58))
                                        have hcb : (wr.alloc (.cells #[.int .u16 s0, .slice Aw wd.length cw] 58)).cell? ⟨B, 0, none⟩ = some (.slice A0_0 l0_0.length c0_0) := (blk_cell (blk_alloc HBxr.out (.cells #[.int .u16 s0, .slice Aw wd.length cw] 58)) 0).trans rfl
                                        go_wp2_with fail
                                        refine (euler_back.calls k3 _ _ l0_0 s0 x t _ (Kd.C_below (Kd.C_below HR.out (below_step HBp.out HBs.out)) HOBL.out) HC.out HT.out).mono ?_
                                        rintro e w4 ⟨rfl, hb4⟩
                                        have HB4 := Aside0.mk (below_step HOBL.out hb4)
                                        have HN4 := Aside0.mk (blk_below HN0.out hb4)
                                        have hf1 : w4.cell? ⟨wr.heap.size, 1, none⟩ = some (.slice Aw wd.length cw) := (blk_cell HN4.out 1).trans rfl
                                        clear hb4 hcb hy0 hy1
                                        go_wp2_with (first | ((with_reducible refine gate_dst (N := 69) rfl ?_); refine Kd.R_lit (Kd.int .i64) _ 3 ?hg (N := 69) ?hd (xs := ([x] : List Int)) (inner := [.int .i64 x]) (ok := fun _ => True) (okp := fun _ => True) ?hr ?hp (fun _ hk => hk) trivial (Below.refl _ _) (Nat.le_refl _) (by simp) ?_; (case hd => rfl); (case hg => rfl); (case hr => first | (go_simp; done) | (go_simp; rfl)); (case hp => exact (Reps.one (show Kd.M (Kd.int .i64) _ _ _ x [.int .i64 x] from rfl) (Reps.none _ _)));  intro v5 w5 hO hb _ _; have HO5 := Aside0.mk hO; have HB5 := Aside0.mk hb; have hf5 : w5.cell? ⟨wr.heap.size, 1, none⟩ = some (.slice Aw wd.length cw) := (blk_cell (blk_below HN4.out hb) 1).trans rfl; have HCw5 := Aside0.mk (Kd.C_below HCw.out (below_step HB4.out hb)); clear hO hb hf1)  | ((with_reducible refine gate_builtin (b := .append) (xs := #[.tmp 69, .tmp 71]) rfl ?_); at_builtin; refine Kd.R_append_rows (Kd.int .i64) (w0 := w4) w4.heap.size rfl (.tmp 69) (.tmp 71) 34 3 (.int .i64 0) 8 rfl Try.underlying34 info3 rfl (by decide) (by omega) v5 [x] wd _ _ _ (fun _ => True) (fun _ => False) rfl rfl ?aO ?aR (fun _ _ h => h) (fun _ h => h.elim) ?aF ?aB ?aS ?aL ?_; (case aR => exact HCw5.out); (case aF => exact (fun _ _ => trivial)); (case aO => exact HO5.out); (case aB => exact HB5.out); (case aS => exact below_size HB5.out); (case aL => have := HLw.out; simp only [List.length_singleton]; omega);  intro v6 w6 ho hb hg hat; obtain ⟨A6, c6, e6⟩ := Kd.R_slice ho; subst e6; have HO6 := Aside0.mk ho; have HB6 := Aside0.mk hb; clear ho hb hg hat hf5))
                                        refine (euler_size.calls k3 t sz _ HSZ.out).mono ?_
                                        rintro e w7 ⟨rfl, hd7⟩
                                        have hb7 := drawn_below hd7
                                        have HB7r := Aside0.mk (below_step HB4.out (below_step HB6.out hb7))
                                        have HB7 := Aside0.mk (below_step HBs.out HB7r.out)
                                        have HO7 : Aside0 (PS w7 wp.heap.size (A6, (x :: wd).length, c6) (x :: wd)) := ⟨Kd.R_lower (Kd.R_below HO6.out hb7) (Nat.le_trans HBs.out.size HB4.out.size)⟩
                                        have HNx7 := Aside0.mk (HNx.out.below HB7r.out)
                                        have HFo7 := Aside0.mk (HFo.out.below HB7r.out)
                                        clear hd7 hb7
                                        go_wp2_with (first | ((with_reducible refine gate_builtin (b := .append) (xs := #[.tmp 78, .tmp 80]) rfl ?_); obtain ⟨zsf, zf1, zf2, zf3⟩ := HFo7.out; have ZF1 := Aside0.mk zf1; have ZF2 := Aside0.mk zf2; have ZF3 := Aside0.mk zf3; clear zf1 zf2 zf3; at_builtin; refine Kd.R_append kWd (w0 := wp) wp.heap.size rfl (.tmp 78) (.tmp 80) 22 34 (.slice none 0 0) 24 rfl Try.underlying22 infoI rfl (by decide) (by omega) u12 zsf (A6, (x :: wd).length, c6) [.slice A6 (x :: wd).length c6] (fun _ => True) (fun _ => False) rfl rfl ?aP (fun _ hk => hk.elim) ?aF ?aO ?aB ?aS ?aL ?_; (case aP => exact rfl); (case aF => exact (fun _ _ => trivial)); (case aO => exact ZF1.out); (case aB => exact HB7.out); (case aS => exact HB7.out.size); (case aL => have h1 := L5.out; have h2 := ZF2.out; omega);  intro v8 w8 ho hb hg hat; have HFo8 := Aside0.mk (GS.snoc (r := x :: wd) ho ZF2.out (fun i z r a b => (ZF3.out i z r a b).over (Kd.R_typed ZF1.out) (by decide) hg) (HO7.out.over (Kd.R_typed ZF1.out) (by decide) hg)); have HNx8 := Aside0.mk (HNx7.out.over (Kd.R_typed ZF1.out) (by decide) (by decide) hg); have HO8 := Aside0.mk (HO7.out.over (Kd.R_typed ZF1.out) (by decide) hg); have HB8 := Aside0.mk hb; clear ho hb hg hat)  | ((with_reducible refine gate_builtin (b := .append) (xs := #[.tmp 82, .tmp 86]) rfl ?_); obtain ⟨zsn, zn1, zn2, zn3⟩ := HNx8.out; have ZN1 := Aside0.mk zn1; have ZN2 := Aside0.mk zn2; have ZN3 := Aside0.mk zn3; clear zn1 zn2 zn3; at_builtin; refine Kd.R_append kMo (w0 := wp) wp.heap.size rfl (.tmp 82) (.tmp 86) 59 58 (.agg #[.int .u16 0, .slice none 0 0]) 32 rfl Try.underlying59 infoM rfl (by decide) (by omega) u11 zsn (t, A6, (x :: wd).length, c6) [.int .u16 t, .slice A6 (x :: wd).length c6] (fun _ => True) (fun _ => False) rfl rfl ?aP (fun _ hk => hk.elim) ?aF ?aO ?aB ?aS ?aL ?_; (case aP => exact kMo_M); (case aF => exact (fun _ _ => trivial)); (case aO => exact ZN1.out); (case aB => exact HB8.out); (case aS => exact HB8.out.size); (case aL => have h1 := L4.out; have h2 := ZN2.out; omega);  intro v10 w10 ho hb hg hat; have HNx10 := Aside0.mk (GM.snoc (r := (t, x :: wd)) ho ZN2.out (fun i z r a b => ⟨(ZN3.out i z r a b).1, (ZN3.out i z r a b).2.over (Kd.R_typed ZN1.out) (by decide) hg⟩) rfl (HO8.out.over (Kd.R_typed ZN1.out) (by decide) hg)); have HFo10 := Aside0.mk (HFo8.out.over (Kd.R_typed ZN1.out) (by decide) (by decide) hg); have HB10 := Aside0.mk hb; clear ho hb hg hat))
                                        go_roundg k3
                                        case measure => omega
                                        case rel => exact ⟨_, _, _, rfl, HE3, ⟨by have := HK2.out; omega⟩, HNx10, HFo10, HB10⟩
                                      · rw [if_neg d9] at H; cases H
                                    · rw [if_neg d8] at H
                                      have HE3 := Aside0.mk H
                                      have d8b : decide (sz > (l1.length : Int)) = false := decide_eq_false d8
                                      clear H d8
                                      have HOBL := Aside0.mk (below_alloc (Below.refl wr.heap.size wr) (.cells #[.int .u16 s0, .slice Aw wd.length cw] 58))
                                      have HBxr := Aside0.mk (blk_below HBxp.out HBs.out)
                                      have HN0 := Aside0.mk (blk_new wr (.cells #[.int .u16 s0, .slice Aw wd.length cw] 58))
                                      have hcb : (wr.alloc (.cells #[.int .u16 s0, .slice Aw wd.length cw] 58)).cell? ⟨B, 0, none⟩ = some (.slice A0_0 l0_0.length c0_0) := (blk_cell (blk_alloc HBxr.out (.cells #[.int .u16 s0, .slice Aw wd.length cw] 58)) 0).trans rfl
                                      go_wp2_with fail
                                      refine (euler_back.calls k3 _ _ l0_0 s0 x t _ (Kd.C_below (Kd.C_below HR.out (below_step HBp.out HBs.out)) HOBL.out) HC.out HT.out).mono ?_
                                      rintro e w4 ⟨rfl, hb4⟩
                                      have HB4 := Aside0.mk (below_step HOBL.out hb4)
                                      have HN4 := Aside0.mk (blk_below HN0.out hb4)
                                      have hf1 : w4.cell? ⟨wr.heap.size, 1, none⟩ = some (.slice Aw wd.length cw) := (blk_cell HN4.out 1).trans rfl
                                      clear hb4 hcb hy0 hy1
                                      go_wp2_with (first | ((with_reducible refine gate_dst (N := 69) rfl ?_); refine Kd.R_lit (Kd.int .i64) _ 3 ?hg (N := 69) ?hd (xs := ([x] : List Int)) (inner := [.int .i64 x]) (ok := fun _ => True) (okp := fun _ => True) ?hr ?hp (fun _ hk => hk) trivial (Below.refl _ _) (Nat.le_refl _) (by simp) ?_; (case hd => rfl); (case hg => rfl); (case hr => first | (go_simp; done) | (go_simp; rfl)); (case hp => exact (Reps.one (show Kd.M (Kd.int .i64) _ _ _ x [.int .i64 x] from rfl) (Reps.none _ _)));  intro v5 w5 hO hb _ _; have HO5 := Aside0.mk hO; have HB5 := Aside0.mk hb; have hf5 : w5.cell? ⟨wr.heap.size, 1, none⟩ = some (.slice Aw wd.length cw) := (blk_cell (blk_below HN4.out hb) 1).trans rfl; have HCw5 := Aside0.mk (Kd.C_below HCw.out (below_step HB4.out hb)); clear hO hb hf1)  | ((with_reducible refine gate_builtin (b := .append) (xs := #[.tmp 69, .tmp 71]) rfl ?_); at_builtin; refine Kd.R_append_rows (Kd.int .i64) (w0 := w4) w4.heap.size rfl (.tmp 69) (.tmp 71) 34 3 (.int .i64 0) 8 rfl Try.underlying34 info3 rfl (by decide) (by omega) v5 [x] wd _ _ _ (fun _ => True) (fun _ => False) rfl rfl ?aO ?aR (fun _ _ h => h) (fun _ h => h.elim) ?aF ?aB ?aS ?aL ?_; (case aR => exact HCw5.out); (case aF => exact (fun _ _ => trivial)); (case aO => exact HO5.out); (case aB => exact HB5.out); (case aS => exact below_size HB5.out); (case aL => have := HLw.out; simp only [List.length_singleton]; omega);  intro v6 w6 ho hb hg hat; obtain ⟨A6, c6, e6⟩ := Kd.R_slice ho; subst e6; have HO6 := Aside0.mk ho; have HB6 := Aside0.mk hb; clear ho hb hg hat hf5))
                                      refine (euler_size.calls k3 t sz _ HSZ.out).mono ?_
                                      rintro e w7 ⟨rfl, hd7⟩
                                      have hb7 := drawn_below hd7
                                      have HB7r := Aside0.mk (below_step HB4.out (below_step HB6.out hb7))
                                      have HB7 := Aside0.mk (below_step HBs.out HB7r.out)
                                      have HO7 : Aside0 (PS w7 wp.heap.size (A6, (x :: wd).length, c6) (x :: wd)) := ⟨Kd.R_lower (Kd.R_below HO6.out hb7) (Nat.le_trans HBs.out.size HB4.out.size)⟩
                                      have HNx7 := Aside0.mk (HNx.out.below HB7r.out)
                                      have HFo7 := Aside0.mk (HFo.out.below HB7r.out)
                                      clear hd7 hb7
                                      go_wp2_with ((with_reducible refine gate_builtin (b := .append) (xs := #[.tmp 82, .tmp 86]) rfl ?_); obtain ⟨zsn, zn1, zn2, zn3⟩ := HNx7.out; have ZN1 := Aside0.mk zn1; have ZN2 := Aside0.mk zn2; have ZN3 := Aside0.mk zn3; clear zn1 zn2 zn3; at_builtin; refine Kd.R_append kMo (w0 := wp) wp.heap.size rfl (.tmp 82) (.tmp 86) 59 58 (.agg #[.int .u16 0, .slice none 0 0]) 32 rfl Try.underlying59 infoM rfl (by decide) (by omega) u11 zsn (t, A6, (x :: wd).length, c6) [.int .u16 t, .slice A6 (x :: wd).length c6] (fun _ => True) (fun _ => False) rfl rfl ?aP (fun _ hk => hk.elim) ?aF ?aO ?aB ?aS ?aL ?_; (case aP => exact kMo_M); (case aF => exact (fun _ _ => trivial)); (case aO => exact ZN1.out); (case aB => exact HB7.out); (case aS => exact HB7.out.size); (case aL => have h1 := L4.out; have h2 := ZN2.out; omega);  intro v10 w10 ho hb hg hat; have HNx10 := Aside0.mk (GM.snoc (r := (t, x :: wd)) ho ZN2.out (fun i z r a b => ⟨(ZN3.out i z r a b).1, (ZN3.out i z r a b).2.over (Kd.R_typed ZN1.out) (by decide) hg⟩) rfl (HO7.out.over (Kd.R_typed ZN1.out) (by decide) hg)); have HFo10 := Aside0.mk (HFo7.out.over (Kd.R_typed ZN1.out) (by decide) (by decide) hg); have HB10 := Aside0.mk hb; clear ho hb hg hat)
                                      go_roundg k3
                                      case measure => omega
                                      case rel => exact ⟨_, _, _, rfl, HE3, ⟨by have := HK2.out; omega⟩, HNx10, HFo10, HB10⟩
                                  · rw [if_neg d7] at H; cases H
                                · rw [if_neg d6] at H; cases H
                              · rw [if_neg d5] at H; cases H
                            · rw [if_neg d4] at H
                              obtain ⟨rfl, rfl⟩ := Prod.mk.inj (Option.some.inj H)
                              have d4b := decide_eq_false d4
                              clear H d4
                              go_wp2_with fail
                              go_roundg k2
                              case measure => have := HG0.out; omega
                              case rel => exact ⟨_, _, _, rfl, HE2, ⟨by have := HK1.out; omega⟩, HNx, HFo, HBs⟩
                      · rw [if_neg d2] at H
                        obtain ⟨rfl, rfl⟩ := Prod.mk.inj (Option.some.inj H)
                        have d2b := decide_eq_false d2
                        clear H d2
                        obtain ⟨AF, cF, eF⟩ : ∃ A c, u12 = Value.slice A found.length c := by
                          obtain ⟨zs, z1, z2, _⟩ := HFo.out
                          obtain ⟨A, c, e⟩ := Kd.R_slice z1
                          exact ⟨A, c, by rw [e, z2]⟩
                        subst eF
                        have H := HE.out
                        by_cases d3 : 0 < found.length
                        · rw [if_pos d3] at H
                          obtain ⟨o, ho, H⟩ := Option.bind_eq_some_iff.1 H
                          obtain ⟨rfl, rfl⟩ := Prod.mk.inj (Option.some.inj H)
                          have HO := Aside0.mk ho
                          have d3b : decide ((found.length : Int) > 0) = true := decide_eq_true (by omega)
                          have d3c : decide (0 < found.length) = true := decide_eq_true d3
                          clear H ho d3
                          go_wp2_with fail
                          refine (slices_MinFunc.calls k1 _ found o wp.heap.size _ HFo.out HO.out).mono ?_
                          rintro e w9 ⟨v0, rfl, hO9, hb9⟩
                          have HO9 := Aside0.mk (Kd.R_lower hO9 HBp.out.size)
                          have HB9 := Aside0.mk (below_step HBp.out (below_step HBr.out hb9))
                          clear hO9 hb9
                          go_wp2
                          go_ret2
                          exact ⟨_, rfl, HO9.out, HB9.out⟩
                        · rw [if_neg d3] at H
                          by_cases f1 : freshOk next = true
                          rotate_left
                          · rw [if_neg f1] at H; cases H
                          rw [if_pos f1] at H
                          have HE4 := Aside0.mk H
                          have d3b : decide ((found.length : Int) > 0) = false := decide_eq_false (by omega)
                          have d3c : decide (0 < found.length) = false := decide_eq_false d3
                          have f2 := of_decide_eq_true f1
                          have hmw := HMp.out.below HBr.out
                          have hnx := HNx.out.lower HBp.out.size
                          have hne : B ≠ bm := fun e => hmw.ne (blk_below HBxp.out HBr.out) e.symm
                          have hno : some B ≠ u11.ownBlock := fun e => by
                            obtain ⟨cells, hc⟩ := HNx.out.typed B e.symm
                            have h9 := blk_below HBxp.out HBr.out
                            rw [hc] at h9
                            injection h9 with h9
                            injection h9 with _ h9
                            exact absurd h9 (by decide)
                          have HFr := Aside0.mk (fresh_calls u11 next met bm w.heap.size wr hnx hmw HBM.out f2.1 f2.2.1 f2.2.2.1 f2.2.2.2)
                          have HBr9 := Aside0.mk (below_step HBp.out HBr.out)
                          have HBxr := Aside0.mk (blk_below HBxp.out HBr.out)
                          have HNE := Aside0.mk hne
                          have HNO := Aside0.mk hno
                          clear H d3 f1 f2 hmw hnx hne hno
                          go_wp2_with (go_at_call 45; refine Calls.mono HFr.out ?_; rintro x9 w9 ⟨v9, rfl, hG9, hM9, hB9, hK9⟩)
                          have HG5 := Aside0.mk hG9
                          have HM5 := Aside0.mk hM9
                          have HB5' := Aside0.mk (HBr9.out.trans hB9)
                          have HBx5' := Aside0.mk ((hK9 B (blk_lt HBxr.out) HNE.out HNO.out).trans HBxr.out)
                          clear hG9 hM9 hB9 hK9 HFr
                          go_wp2_with fail
                          go_roundg k1
                          case measure => have := HG9.out; omega
                          case rel => exact ⟨_, _, HM5, HE4, ⟨by have := HK0.out; omega⟩, HG5, HB5', HBx5'⟩
                · rw [if_neg d1] at H
                  obtain ⟨rfl, rfl⟩ := Prod.mk.inj (Option.some.inj H)
                  have d1b : decide ((level.length : Int) > 0) = false := decide_eq_false (by omega)
                  have d1c : decide (0 < level.length) = false := decide_eq_false d1
                  clear H d1
                  go_wp2
                  go_ret2
                  exact ⟨_, rfl, Kd.R_nil _ _ _ _ _, HB.out⟩
end Go.Proofs.Ytcpmmkennnjalaa.Q
end
