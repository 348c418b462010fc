/- In an Eulerian automaton of at most MaxSmall states that has a reset word, Extend of each set that is neither empty nor contains all states is a word of at most n - 1 letters whose preimage has more states. (text 15 of 44) -/
import Derived.Test.YtcpmmkennnjalaaZEulerKaril
import Derived.Laws.EntriesVeiled
import Derived.Test.YtcpmmkennnjalaaZEulerKarin
section
namespace Go.Proofs.Ytcpmmkennnjalaa.Q
open Go.RowKit Go.Proofs.YtcpmmkennnjalaaW.PrintWords Go.Proofs.YtcpmmkennnjalaaW.PrintLast Go.Proofs.YtcpmmkennnjalaaW.PrintMore
set_option linter.unusedVariables false
set_option linter.unusedSimpArgs false
/-! ### rows of words, rows of sets with their words -/
abbrev Hd := Option Addr × Nat × Nat
def kWd : Kd Hd := Kd.scalar (fun z : Hd => Value.slice z.1 z.2.1 z.2.2) (fun _ => rfl)
def kMo : Kd (Int × Hd) := Kd.pair (Kd.int .u16) kWd
theorem kMo_M {W : World} {base : Nat} {ok : Nat → Prop} {z : Int × Hd} : kMo.M W base ok z [.int .u16 z.1, .slice z.2.1 z.2.2.1 z.2.2.2] := ⟨[_], [_], rfl, rfl, rfl⟩
def PS (W : World) (base : Nat) (z : Hd) (r : List Int) : Prop := Kd.R (Kd.int .i64) 3 W base (fun _ => True) (.slice z.1 z.2.1 z.2.2) r
def GS (W : World) (base : Nat) (v : Value) (l : List (List Int)) : Prop := ∃ zs, Kd.R kWd 34 W base (fun _ => True) v zs ∧ zs.length = l.length ∧ ∀ (i : Nat) z r, zs[i]? = some z → l[i]? = some r → PS W base z r
def GM (W : World) (base : Nat) (v : Value) (l : List (Int × List Int)) : Prop := ∃ zs, Kd.R kMo 58 W base (fun _ => True) v zs ∧ zs.length = l.length ∧ ∀ (i : Nat) z r, zs[i]? = some z → l[i]? = some r → z.1 = r.1 ∧ PS W base z.2 r.2
theorem GS.nil (W : World) (base : Nat) : GS W base (.slice none 0 0) [] := ⟨[], Kd.R_nil _ _ _ _ _, rfl, fun i z r h => by simp at h⟩
theorem GM.nil (W : World) (base : Nat) : GM W base (.slice none 0 0) [] := ⟨[], Kd.R_nil _ _ _ _ _, rfl, fun i z r h => by simp at h⟩
section
variable {W W1 : World} {base : Nat} {v : Value}
theorem GS.below {l : List (List Int)} (h : GS W base v l) (hb : Below W.heap.size W W1) : GS W1 base v l := by
  obtain ⟨zs, h1, h2, h3⟩ := h
  exact ⟨zs, Kd.R_below h1 hb, h2, fun i z r a b => Kd.R_below (h3 i z r a b) hb⟩
theorem GM.below {l : List (Int × List Int)} (h : GM W base v l) (hb : Below W.heap.size W W1) : GM W1 base v l := by
  obtain ⟨zs, h1, h2, h3⟩ := h
  exact ⟨zs, Kd.R_below h1 hb, h2, fun i z r a b => ⟨(h3 i z r a b).1, Kd.R_below (h3 i z r a b).2 hb⟩⟩
theorem GS.lower {b2 : Nat} {l : List (List Int)} (h : GS W base v l) (hb : b2 ≤ base) : GS W b2 v l := by
  obtain ⟨zs, h1, h2, h3⟩ := h
  exact ⟨zs, Kd.R_lower h1 hb, h2, fun i z r a b => Kd.R_lower (h3 i z r a b) hb⟩
theorem GM.lower {b2 : Nat} {l : List (Int × List Int)} (h : GM W base v l) (hb : b2 ≤ base) : GM W b2 v l := by
  obtain ⟨zs, h1, h2, h3⟩ := h
  exact ⟨zs, Kd.R_lower h1 hb, h2, fun i z r a b => ⟨(h3 i z r a b).1, Kd.R_lower (h3 i z r a b).2 hb⟩⟩
/-- another row, of another type, has been written -/
theorem PS.over {u : Value} {e' : Nat} {z : Hd} {r : List Int} (h : PS W base z r) (hty : ∀ k, u.ownBlock = some k → ∃ cells, W.heap[k]? = some (.cells cells e' (0, 0))) (h3 : (3 : Nat) ≠ e') (hg : W.grownBy W1 u.ownBlock) : PS W1 base z r :=
  Kd.R_over' h hty (fun q hq => by
    rcases List.mem_cons.1 hq with rfl | hq
    · exact h3
    · cases hq) hg
theorem GS.over {u : Value} {e' : Nat} {l : List (List Int)} (h : GS W base v l) (hty : ∀ k, u.ownBlock = some k → ∃ cells, W.heap[k]? = some (.cells cells e' (0, 0))) (h1 : (34 : Nat) ≠ e') (h3 : (3 : Nat) ≠ e') (hg : W.grownBy W1 u.ownBlock) : GS W1 base v l := by
  obtain ⟨zs, a1, a2, a3⟩ := h
  refine ⟨zs, Kd.R_over' a1 hty (fun q hq => ?_) hg, a2, fun i z r a b => (a3 i z r a b).over hty h3 hg⟩
  rcases List.mem_cons.1 hq with rfl | hq
  · exact h1
  · cases hq
theorem GM.over {u : Value} {e' : Nat} {l : List (Int × List Int)} (h : GM W base v l) (hty : ∀ k, u.ownBlock = some k → ∃ cells, W.heap[k]? = some (.cells cells e' (0, 0))) (h1 : (58 : Nat) ≠ e') (h3 : (3 : Nat) ≠ e') (hg : W.grownBy W1 u.ownBlock) : GM W1 base v l := by
  obtain ⟨zs, a1, a2, a3⟩ := h
  refine ⟨zs, Kd.R_over' a1 hty (fun q hq => ?_) hg, a2, fun i z r a b => ⟨(a3 i z r a b).1, (a3 i z r a b).2.over hty h3 hg⟩⟩
  rcases List.mem_cons.1 hq with rfl | hq
  · exact h1
  · cases hq
theorem GS.typed {l : List (List Int)} (h : GS W base v l) : ∀ k, v.ownBlock = some k → ∃ cells, W.heap[k]? = some (.cells cells 34 (0, 0)) := by
  obtain ⟨zs, a1, _, _⟩ := h; exact Kd.R_typed a1
theorem GM.typed {l : List (Int × List Int)} (h : GM W base v l) : ∀ k, v.ownBlock = some k → ∃ cells, W.heap[k]? = some (.cells cells 58 (0, 0)) := by
  obtain ⟨zs, a1, _, _⟩ := h; exact Kd.R_typed a1
theorem snoc_get {α : Type} {l : List α} {x y : α} {i : Nat} (h : (l ++ [x])[i]? = some y) : l[i]? = some y ∨ (i = l.length ∧ y = x) := by
  rcases Nat.lt_or_ge i l.length with hi | hi
  · rw [List.getElem?_append_left hi] at h; exact .inl h
  · rw [List.getElem?_append_right hi] at h
    rcases Nat.eq_or_lt_of_le hi with he | he
    · rw [← he, Nat.sub_self] at h; exact .inr ⟨he.symm, (Option.some.inj h).symm⟩
    · have : i - l.length ≠ 0 := by omega
      obtain ⟨j, hj⟩ := Nat.exists_eq_succ_of_ne_zero this
      rw [hj] at h; simp at h
theorem GS.snoc {zs : List Hd} {l : List (List Int)} {z : Hd} {r : List Int} {v1 : Value} (hR : Kd.R kWd 34 W1 base (fun _ => True) v1 (zs ++ [z])) (hl : zs.length = l.length) (h3 : ∀ (i : Nat) z r, zs[i]? = some z → l[i]? = some r → PS W1 base z r) (hz : PS W1 base z r) : GS W1 base v1 (l ++ [r]) := by
  refine ⟨zs ++ [z], hR, by simp [hl], fun i z' r' a b => ?_⟩
  rcases snoc_get a with a | ⟨a1, rfl⟩
  · rcases snoc_get b with b | ⟨b1, rfl⟩
    · exact h3 i z' r' a b
    · have := (List.getElem?_eq_some_iff.1 a).1; omega
  · rcases snoc_get b with b | ⟨b1, rfl⟩
    · have := (List.getElem?_eq_some_iff.1 b).1; omega
    · exact hz
theorem GM.snoc {zs : List (Int × Hd)} {l : List (Int × List Int)} {z : Int × Hd} {r : Int × List Int} {v1 : Value} (hR : Kd.R kMo 58 W1 base (fun _ => True) v1 (zs ++ [z])) (hl : zs.length = l.length) (h3 : ∀ (i : Nat) z r, zs[i]? = some z → l[i]? = some r → z.1 = r.1 ∧ PS W1 base z.2 r.2) (h1 : z.1 = r.1) (hz : PS W1 base z.2 r.2) : GM W1 base v1 (l ++ [r]) := by
  refine ⟨zs ++ [z], hR, by simp [hl], fun i z' r' a b => ?_⟩
  rcases snoc_get a with a | ⟨a1, rfl⟩
  · rcases snoc_get b with b | ⟨b1, rfl⟩
    · exact h3 i z' r' a b
    · have := (List.getElem?_eq_some_iff.1 a).1; omega
  · rcases snoc_get b with b | ⟨b1, rfl⟩
    · have := (List.getElem?_eq_some_iff.1 b).1; omega
    · exact ⟨h1, hz⟩
/-- an element that is read -/
theorem GS.at_ {l : List (List Int)} (h : GS W base v l) (i : Int) (h0 : 0 ≤ i) (h1 : i < (l.length : Int)) :
    ∃ ad c A c2, v = .slice (some ad) l.length c ∧ W.cell? (ad.add i.toNat) = some (.slice A (rd_L1 l i).length c2) ∧ (rd_L1 l i).length ≤ c2 ∧ Kd.C (Kd.int .i64) W A (rd_L1 l i).length (rd_L1 l i) ∧ Kd.R (Kd.int .i64) 3 W base (fun _ => True) (.slice A (rd_L1 l i).length c2) (rd_L1 l i) := by
  obtain ⟨zs, a1, a2, a3⟩ := h
  obtain ⟨A, c, e, _, hC⟩ := Kd.R_reads a1
  obtain ⟨ad, cs, e2, _, hK, hc0⟩ := Kd.C_get hC (none, 0, 0) i h0 (by omega)
  subst e2
  obtain ⟨j, rfl⟩ := Int.eq_ofNat_of_zero_le h0
  have hj : j < l.length := by omega
  rw [Int.toNat_natCast] at hK hc0 ⊢
  have hz : zs[j]? = some (zs.getD j (none, 0, 0)) := by rw [List.getD_eq_getElem?_getD, List.getElem?_eq_getElem (by omega)]; rfl
  have hr : l[j]? = some (rd_L1 l (j : Int)) := by
    show _ = some (l.getD j [])
    rw [List.getD_eq_getElem?_getD, List.getElem?_eq_getElem hj]; rfl
  generalize zs.getD j (none, 0, 0) = z at hK hz
  generalize rd_L1 l (j : Int) = r at hr ⊢
  have hk : cs = [.slice z.1 z.2.1 z.2.2] := hK
  subst hk
  have hp := a3 j z r hz hr
  have hq := Kd.R_reads' hp
  have h9 := hc0 0 _ rfl
  rw [show kWd.sz = 1 from rfl] at h9
  refine ⟨ad, c, z.1, z.2.2, by rw [e, a2], by rw [← hq.1]; simpa using h9, by rw [← hq.1]; exact hq.2.1, hq.2.2, ?_⟩
  rw [← hq.1]; exact hp
def rdMo (l : List (Int × List Int)) (i : Int) : Int × List Int := l.getD i.toNat (0, [])
theorem GM.at_ {l : List (Int × List Int)} (h : GM W base v l) (i : Int) (h0 : 0 ≤ i) (h1 : i < (l.length : Int)) :
    ∃ ad c A c2, v = .slice (some ad) l.length c ∧ W.cell? (ad.add (i.toNat * 2)) = some (.int .u16 (rdMo l i).1) ∧ W.cell? ⟨(ad.add (i.toNat * 2)).block, (ad.add (i.toNat * 2)).off + 1, none⟩ = some (.slice A (rdMo l i).2.length c2) ∧ (rdMo l i).2.length ≤ c2 ∧ Kd.C (Kd.int .i64) W A (rdMo l i).2.length (rdMo l i).2 ∧ Kd.R (Kd.int .i64) 3 W base (fun _ => True) (.slice A (rdMo l i).2.length c2) (rdMo l i).2 := by
  obtain ⟨zs, a1, a2, a3⟩ := h
  obtain ⟨A, c, e, _, hC⟩ := Kd.R_reads a1
  obtain ⟨ad, cs, e2, _, hK, hc0⟩ := Kd.C_get hC (0, none, 0, 0) i h0 (by omega)
  subst e2
  obtain ⟨j, rfl⟩ := Int.eq_ofNat_of_zero_le h0
  have hj : j < l.length := by omega
  have hc : ∀ j' u, cs[j']? = some u → W.cell? (ad.add (j * 2 + j')) = some u := hc0
  rw [Int.toNat_natCast] at hK ⊢
  have hz : zs[j]? = some (zs.getD j (0, none, 0, 0)) := by rw [List.getD_eq_getElem?_getD, List.getElem?_eq_getElem (by omega)]; rfl
  have hr : l[j]? = some (rdMo l (j : Int)) := by
    show _ = some (l.getD j (0, []))
    rw [List.getD_eq_getElem?_getD, List.getElem?_eq_getElem hj]; rfl
  generalize zs.getD j (0, none, 0, 0) = z at hK hz
  generalize rdMo l (j : Int) = r at hr ⊢
  obtain ⟨b0, b1, rfl, k0, k1⟩ := hK
  have e0 : b0 = [.int .u16 z.1] := k0
  have e1 : b1 = [.slice z.2.1 z.2.2.1 z.2.2.2] := k1
  subst e0; subst e1
  obtain ⟨hp1, hp⟩ := a3 j z r hz hr
  have hq := Kd.R_reads' hp
  refine ⟨ad, c, z.2.1, z.2.2.2, by rw [e, a2], by rw [← hp1]; exact hc 0 _ rfl, by rw [← hq.1, ← add_field _ _ 1 (by omega)]; exact hc 1 _ rfl, by rw [← hq.1]; exact hq.2.1, hq.2.2, ?_⟩
  rw [← hq.1]; exact hp
end
end Go.Proofs.Ytcpmmkennnjalaa.Q
end
section
namespace Go.Proofs.Ytcpmmkennnjalaa.Q
open Go.RowKit Go.Proofs.YtcpmmkennnjalaaW.PrintWords Go.Proofs.YtcpmmkennnjalaaW.PrintLast Go.Proofs.YtcpmmkennnjalaaW.PrintMore
set_option linter.unusedVariables false
set_option linter.unusedSimpArgs false
def slices_MinFunc.l0 : Nat → List (List Int) → List Int → Int → Option (List Int)
  | 0, _, _, _ => none
  | k + 1, ls, m, i => if i < (ls.length : Int) then (if 0 ≤ i then ((slices_Compare_int_int.f k (rd_L1 ls i) m).bind fun c => if c < 0 then slices_MinFunc.l0 k ls (rd_L1 ls i) (wrap64 (i + 1)) else slices_MinFunc.l0 k ls m (wrap64 (i + 1))) else none) else some m
def slices_MinFunc.f (k : Nat) (ls : List (List Int)) : Option (List Int) := if 0 < ls.length then slices_MinFunc.l0 k ls (rd_L1 ls 0) 1 else none
theorem slices_MinFunc.mono_l : ∀ k, ∀ y0 y1 y2, LeO (slices_MinFunc.l0 k y0 y1 y2) (slices_MinFunc.l0 (k + 1) y0 y1 y2)
  | 0 => fun _ _ _ r h => by simp [slices_MinFunc.l0] at h
  | k + 1 => by
    have ih := slices_MinFunc.mono_l k
    intro y0 y1 y2
    unfold slices_MinFunc.l0
    repeat' first
    | (with_reducible exact ih _ _ _)
    | (with_reducible exact slices_Compare_int_int.mono _ _ _)
    | (with_reducible exact LeO.refl _)
    | (with_reducible exact LeO.none _)
    | (with_reducible refine LeO.ite ?_ ?_)
    | (with_reducible refine LeO.bind ?_ (fun _ => ?_))
theorem slices_MinFunc.mono : ∀ a0 k, LeO (slices_MinFunc.f k a0) (slices_MinFunc.f (k + 1) a0) := by
  intro a0 k
  have ih0 := slices_MinFunc.mono_l k
  unfold slices_MinFunc.f
  repeat' first
    | (with_reducible exact ih0 _ _ _)
    | (with_reducible exact LeO.none _)
    | (with_reducible refine LeO.ite ?_ ?_)
theorem drawn_below {w w' : World} (h : Drawn0 w w') : Below w.heap.size w w' := h.below
set_option maxHeartbeats 1000000 in
set_option maxRecDepth 100000 in
theorem slices_MinFunc.calls (k : Nat) (v : Value) (ls : List (List Int)) (r : List Int) (base : Nat) (w : World) (hG : GS w base v ls) (h : slices_MinFunc.f k ls = some r) :
    Calls Try.prog 43 #[v, .func (.func 44) #[] #[]] w fun e w' => ∃ v0_ : Value, e = .returned v0_ ∧ Kd.R (Kd.int .i64) 3 w' base (fun _ => True) v0_ r ∧ Below w.heap.size w w' := by
  unfold slices_MinFunc.f at h
  by_cases d0 : 0 < ls.length
  rotate_left
  · rw [if_neg d0] at h; cases h
  rw [if_pos d0] at h
  obtain ⟨ad, c, A0, c0, rfl, hx0, hl0, hC0, hR0⟩ := hG.at_ 0 (by omega) (by omega)
  have HG := Aside0.mk hG
  have H' := Aside0.mk h
  have HR0 := Aside0.mk hR0
  have HB0 := Aside0.mk (Below.refl w.heap.size w)
  have D0 := Aside0.mk d0
  have d0b : decide ((ls.length : Int) < 1) = false := decide_eq_false (by omega)
  have d0c : decide (ls.length < 1) = false := decide_eq_false (by omega)
  have q0 := eq_true (show (0 : Int) < (ls.length : Int) by omega)
  have q0n := eq_true d0
  rw [Int.toNat_zero, show ad.add 0 = ad from rfl] at hx0
  clear hG h hR0 hC0 hl0 d0
  go_enter Try.func43, Try.ntmps43
  go_wp2_with fail
  generalize Value.slice A0 (rd_L1 ls 0).length c0 = v5 at HR0 hx0 ⊢
  clear hx0
  go_loopg [5, 6] k (fun kq v5 v6 w' => ∃ (i : Int) (m : List Int), v6 = .int .i64 i ∧ Aside0 (slices_MinFunc.l0 kq ls m i = some r) ∧ Aside0 (kq ≤ k) ∧ Aside0 (Kd.R (Kd.int .i64) 3 w' base (fun _ => True) v5 m) ∧ Aside0 (Below w.heap.size w w'))
  case atStart => exact ⟨1, _, rfl, H', ⟨Nat.le_refl _⟩, HR0, HB0⟩
  case round =>
    clear H' HR0 HB0
    obtain ⟨i, m, rfl, HA, HK, HM, HB⟩ := hrel
    cases gk with
    | zero => exact absurd HA.out (by simp [slices_MinFunc.l0])
    | succ k1 =>
      have H := HA.out
      clear HA
      simp only [slices_MinFunc.l0] at H
      by_cases d1 : i < (ls.length : Int)
      · rw [if_pos d1] at H
        by_cases d2 : 0 ≤ i
        · rw [if_pos d2] at H
          obtain ⟨cv, hcv, H⟩ := Option.bind_eq_some_iff.1 H
          have HCV := Aside0.mk hcv
          obtain ⟨ad2, c2, A, ca, e2, hx, hl, hC, hRi⟩ := (HG.out.below HB.out).at_ i d2 d1
          cases e2
          obtain ⟨Am, cm, em, hlm, hCm⟩ := Kd.R_reads HM.out
          subst em
          have HL := Aside0.mk hl
          have HCi := Aside0.mk hC
          have HRi := Aside0.mk hRi
          have HLm := Aside0.mk hlm
          have HCm := Aside0.mk hCm
          have q1 := eq_true d1
          have q2 := eq_true d2
          have d1b := decide_eq_true d1
          clear d1 d2 hcv hl hC hRi hlm hCm
          by_cases d3 : cv < 0
          · rw [if_pos d3] at H
            have H' := Aside0.mk H
            have d3b := decide_eq_true d3
            clear H d3
            have HXi := Aside0.mk hx
            go_wp2_with fail
            refine (slices_Compare_int_int.calls k1 _ _ (rd_L1 ls i) _ _ m cv _ HCi.out HL.out HCm.out HLm.out HCV.out).mono ?_
            rintro e w3 ⟨rfl, hd⟩
            have hb3 := drawn_below hd
            have HB3 := Aside0.mk (below_step HB.out hb3)
            have HR3 := Aside0.mk (Kd.R_below HRi.out hb3)
            have hx3 := pw_cell_below hb3 HXi.out
            clear hd hb3 hx
            go_wp2_with fail
            go_roundg k1
            case measure => omega
            case rel => exact ⟨_, _, rfl, H', ⟨by have := HK.out; omega⟩, HR3, HB3⟩
          · rw [if_neg d3] at H
            have H' := Aside0.mk H
            have d3b := decide_eq_false d3
            clear H d3
            go_wp2_with fail
            refine (slices_Compare_int_int.calls k1 _ _ (rd_L1 ls i) _ _ m cv _ HCi.out HL.out HCm.out HLm.out HCV.out).mono ?_
            rintro e w3 ⟨rfl, hd⟩
            have hb3 := drawn_below hd
            have HB3 := Aside0.mk (below_step HB.out hb3)
            have HR3 := Aside0.mk (Kd.R_below HM.out hb3)
            clear hd hb3 hx
            go_wp2_with fail
            go_roundg k1
            case measure => omega
            case rel => exact ⟨_, _, rfl, H', ⟨by have := HK.out; omega⟩, HR3, HB3⟩
        · rw [if_neg d2] at H; exact absurd H (by simp)
      · rw [if_neg d1] at H
        obtain rfl := Option.some.inj H
        have d1b := decide_eq_false d1
        clear H d1
        go_wp2
        go_ret
        exact ⟨_, rfl, HM.out, HB.out⟩
end Go.Proofs.Ytcpmmkennnjalaa.Q
end
section
namespace Go.Proofs.Ytcpmmkennnjalaa.Q
open Go.RowKit Go.Proofs.YtcpmmkennnjalaaW.PrintWords Go.Proofs.YtcpmmkennnjalaaW.PrintLast Go.Proofs.YtcpmmkennnjalaaW.PrintMore
set_option linter.unusedVariables false
set_option linter.unusedSimpArgs false
end Go.Proofs.Ytcpmmkennnjalaa.Q
end
section
namespace Go.Proofs.Ytcpmmkennnjalaa.Q
open Go.RowKit Go.Proofs.YtcpmmkennnjalaaW.PrintWords Go.Proofs.YtcpmmkennnjalaaW.PrintLast Go.Proofs.YtcpmmkennnjalaaW.PrintMore
set_option linter.unusedVariables false
set_option linter.unusedSimpArgs false

/-- the marks of a set -/
def metS (n : Nat) (l : List Int) : List Bool := l.foldl (fun m t => m.set t.toNat true) (List.replicate n false)
def auto_Preimage.l0 : Nat → List Int → List (List Int) → List Bool → List Int → Int → Option (List Int)
  | 0, _, _, _, _, _ => none
  | k + 1, out, rows, met, word, i => if i < (rows.length : Int) then (if 0 ≤ i then ((auto_Lead.f k rows i word).bind fun t => if 0 ≤ t then (if t < (met.length : Int) then (if rdOf false met t = true then (if out.length < 17592186044416 then auto_Preimage.l0 k (out ++ [i]) rows met word (wrap64 (i + 1)) else none) else auto_Preimage.l0 k out rows met word (wrap64 (i + 1))) else none) else none) else none) else some out
def auto_Preimage.f (k : Nat) (l0_0 : List (List Int)) (l1 : List Int) (l2 : List Int) : Option (List Int × Int) := (auto_Valid.f l0_0).bind fun v => if v = true then ((auto_Set.f k l0_0 l1).bind fun s => if s = true then ((auto_Word.f l0_0 l2).bind fun wd => if wd = true then (if inB l0_0.length l1 = true then (if 0 < l0_0.length then (if l0_0.length ≤ 281474976710656 then ((auto_Preimage.l0 k [] l0_0 (metS l0_0.length l1) l2 0).bind fun o => some (o, 0)) else none) else none) else none) else some ([], 2)) else some ([], 2)) else some ([], 1)
set_option maxHeartbeats 1000000 in
set_option maxRecDepth 100000 in
theorem preim1_calls (k : Nat) (l0_0 : List (List Int)) (met : List Bool) (l2 : List Int) (A0_0 AM A2 : Option Addr) (c0_0 cM c2 BA BW : Nat) (r : List Int) (w : World)
    (hR : Kd.C (Kd.slice 3 (Kd.int .i64)) w A0_0 l0_0.length l0_0) (hc0 : l0_0.length ≤ c0_0) (hM : Kd.C Kd.bool w AM met.length met) (hW : Kd.C (Kd.int .i64) w A2 l2.length l2) (hc2 : l2.length ≤ c2)
    (xA : w.cell? ⟨BA, 0, none⟩ = some (.slice A0_0 l0_0.length c0_0)) (xW : w.cell? ⟨BW, 0, none⟩ = some (.slice A2 l2.length c2))
    (h : auto_Preimage.l0 k [] l0_0 met l2 0 = some r) :
    Calls Try.prog 56 #[.slice AM met.length cM, .pointer (some ⟨BA, 0, none⟩), .pointer (some ⟨BW, 0, none⟩)] w fun e w' => ∃ v0_ : Value, e = .returned v0_ ∧ Kd.R (Kd.int .i64) 3 w' w.heap.size (fun _ => True) v0_ r ∧ Below w.heap.size w w' := by
  have HR := Aside0.mk hR
  have HC := Aside0.mk hc0
  have HM := Aside0.mk hM
  have HW := Aside0.mk hW
  have HC2 := Aside0.mk hc2
  have XA := Aside0.mk xA
  have XW := Aside0.mk xW
  have H' := Aside0.mk h
  clear h hR hc0 hM hW hc2 xW
  go_enter Try.func56, Try.ntmps56
  go_wp2_with ((with_reducible refine gate_dst (N := 7) rfl ?_); refine Kd.R_lit (Kd.int .i64) _ 3 ?hg (N := 7) ?hd (xs := ([] : List Int)) (inner := []) (ok := fun _ => True) (okp := fun _ => True) ?hr ?hp (fun _ hk => hk) trivial (Below.refl _ _) (Nat.le_refl _) (by simp) ?_; (case hd => rfl); (case hg => rfl); (case hr => first | (go_simp; done) | (go_simp; rfl)); (case hp => exact (Reps.none _ _));  intro v1 w1 hO hb _ _; have HO1 := Aside0.mk hO; have HB1 := Aside0.mk hb; have xA1 := pw_cell_below hb XA.out; clear hO hb xA)
  go_loopg [5, 11] k (fun kq v5 v11 w' => ∃ (x : Int) (out : List Int), v11 = .int .i64 x ∧ Aside0 (auto_Preimage.l0 kq out l0_0 met l2 x = some r) ∧ Aside0 (kq ≤ k) ∧ Aside0 (Kd.R (Kd.int .i64) 3 w' w.heap.size (fun _ => True) v5 out) ∧ Aside0 (Below w.heap.size w w'))
  case atStart => exact ⟨0, [], rfl, H', ⟨Nat.le_refl _⟩, HO1, HB1⟩
  case round =>
    clear H' xA1
    obtain ⟨x, out, rfl, HA, HK1, HO, HB⟩ := hrel
    cases gk with
    | zero => exact absurd HA.out (by simp [auto_Preimage.l0])
    | succ k1 =>
      have H := HA.out
      clear HA
      simp only [auto_Preimage.l0] at H
      by_cases d1 : x < (l0_0.length : Int)
      · rw [if_pos d1] at H
        by_cases d2 : 0 ≤ x
        · rw [if_pos d2] at H
          obtain ⟨t, ht, H⟩ := Option.bind_eq_some_iff.mp H
          by_cases d3 : 0 ≤ t
          · rw [if_pos d3] at H
            by_cases d4 : t < (met.length : Int)
            · rw [if_pos d4] at H
              have HT := Aside0.mk ht
              have xA := pw_cell_below HB.out XA.out
              have xW := pw_cell_below HB.out XW.out
              have d1b := decide_eq_true d1
              have q3 := eq_true d3
              have q4 := eq_true d4
              have D3 := Aside0.mk d3
              have D4 := Aside0.mk d4
              clear d1 d2 d3 d4 ht
              cases hb : rdOf false met t with
              | true =>
                rw [if_pos hb] at H
                by_cases d5 : out.length < 17592186044416
                · rw [if_pos d5] at H
                  have H' := Aside0.mk H
                  have L3 := Aside0.mk d5
                  have HBT := Aside0.mk hb
                  clear H d5 hb
                  go_wp2_with fail
                  refine (auto_Lead.calls k1 _ _ l0_0 x _ _ l2 t _ (Kd.C_below HR.out HB.out) HC.out (Kd.C_below HW.out HB.out) HC2.out HT.out).mono ?_
                  rintro e w3 ⟨rfl, hb3⟩
                  have HB3 := Aside0.mk (below_step HB.out hb3)
                  have HO3 := Aside0.mk (Kd.R_below HO.out hb3)
                  obtain ⟨ad, e2, hxr⟩ := Kd.at_bool (Kd.C_below HM.out HB3.out) t D3.out D4.out
                  cases e2
                  rw [HBT.out] at hxr
                  clear hb3 xA xW
                  go_wp2_with ((with_reducible refine gate_builtin (b := .append) (xs := #[.tmp 21, .tmp 23]) rfl ?_); at_builtin; refine Kd.R_append (Kd.int .i64) (w0 := w) w.heap.size rfl (.tmp 21) (.tmp 23) 34 3 (.int .i64 0) 8 rfl Try.underlying34 info3 rfl (by decide) (by omega) u5 out x [.int .i64 x] (fun _ => True) (fun _ => False) rfl rfl ?aP (fun _ hk => hk.elim) ?aF ?aO ?aB ?aS ?aL ?_; (case aP => exact rfl); (case aB => exact (by repeat (first | (with_reducible first | exact HB3.out | apply below_alloc | apply pw_below_drewN | apply below_drew1) | exact HB3.out))); (case aF => exact (fun _ _ => trivial)); (case aO => exact (by (with_reducible repeat (first | apply Kd.R_alloc | apply Kd.R_drewN | apply Kd.R_drew)); exact HO3.out)); (case aS => exact (below_size (by repeat (first | (with_reducible first | exact HB3.out | apply below_alloc | apply pw_below_drewN | apply below_drew1) | exact HB3.out)))); (case aL => have := L3.out; omega); intro v4 w4 ho hb hg hat; have HO4 := Aside0.mk ho; have HB4 := Aside0.mk hb; clear ho hb hg hat hxr)
                  go_roundg k1
                  case measure => have := HK1.out; omega
                  case rel => exact ⟨_, out ++ [x], rfl, H', ⟨by have := HK1.out; omega⟩, HO4, HB4⟩
                · rw [if_neg d5] at H; exact absurd H (by simp)
              | false =>
                rw [if_neg (by rw [hb]; decide)] at H
                have H' := Aside0.mk H
                have HBT := Aside0.mk hb
                clear H hb
                go_wp2_with fail
                refine (auto_Lead.calls k1 _ _ l0_0 x _ _ l2 t _ (Kd.C_below HR.out HB.out) HC.out (Kd.C_below HW.out HB.out) HC2.out HT.out).mono ?_
                rintro e w3 ⟨rfl, hb3⟩
                have HB3 := Aside0.mk (below_step HB.out hb3)
                have HO3 := Aside0.mk (Kd.R_below HO.out hb3)
                obtain ⟨ad, e2, hxr⟩ := Kd.at_bool (Kd.C_below HM.out HB3.out) t D3.out D4.out
                cases e2
                rw [HBT.out] at hxr
                clear hb3 xA xW
                go_wp2_with fail
                go_roundg k1
                case measure => have := HK1.out; omega
                case rel => exact ⟨_, out, rfl, H', ⟨by have := HK1.out; omega⟩, HO3, HB3⟩
            · rw [if_neg d4] at H; exact absurd H (by simp)
          · rw [if_neg d3] at H; exact absurd H (by simp)
        · rw [if_neg d2] at H; exact absurd H (by simp)
      · rw [if_neg d1] at H
        obtain rfl := Option.some.inj H
        have d1b := decide_eq_false d1
        clear H d1
        go_wp2
        go_ret
        exact ⟨_, rfl, HO.out, HB.out⟩
end Go.Proofs.Ytcpmmkennnjalaa.Q
end
section
namespace Go.Proofs.Ytcpmmkennnjalaa.Q
open Go.RowKit Go.Proofs.YtcpmmkennnjalaaW.PrintWords Go.Proofs.YtcpmmkennnjalaaW.PrintLast Go.Proofs.YtcpmmkennnjalaaW.PrintMore
set_option linter.unusedVariables false
set_option linter.unusedSimpArgs false
theorem inB_rd {n : Int} {l : List Int} (h : inB n l = true) {x : Int} (h0 : 0 ≤ x) (h1 : x < l.length) : 0 ≤ rd l x ∧ rd l x < n := by
  obtain ⟨i, rfl⟩ := Int.eq_ofNat_of_zero_le h0
  have hi : i < l.length := by omega
  have e : rd l (i : Int) = l[i] := by
    show l.getD i 0 = _
    rw [List.getD_eq_getElem?_getD, List.getElem?_eq_getElem hi]; rfl
  rw [e]
  unfold inB at h
  rw [List.all_eq_true] at h
  simpa using h _ (List.getElem_mem hi)

theorem info4p : (Try.prog.info? 4).map (fun i => (i.zero, i.size, i.bytes)) = some (some (.bool false), 1, 1) := by kernel_rfl

theorem metS_drop {l : List Int} {x : Int} {mm r : List Bool} (h0 : 0 ≤ x) (h1 : x < l.length) (h : (l.drop x.toNat).foldl (fun m t => m.set t.toNat true) mm = r) : (l.drop (x.toNat + 1)).foldl (fun m t => m.set t.toNat true) (mm.set (rd l x).toNat true) = r := by
  obtain ⟨i, rfl⟩ := Int.eq_ofNat_of_zero_le h0
  have hi : i < l.length := by omega
  have e : rd l (i : Int) = l[i] := by
    show l.getD i 0 = _
    rw [List.getD_eq_getElem?_getD, List.getElem?_eq_getElem hi]; rfl
  rw [Int.toNat_natCast, List.drop_eq_getElem_cons hi] at h
  rw [e]; exact h

set_option maxHeartbeats 2000000 in
set_option maxRecDepth 100000 in
theorem psets_calls (k : Nat) (l0_0 : List (List Int)) (l1 l2 : List Int) (A0_0 A1 A2 : Option Addr) (c0_0 c1 c2 BA BW : Nat) (r1 : List Int) (r2 : Int) (w : World)
    (hR : Kd.C (Kd.slice 3 (Kd.int .i64)) w A0_0 l0_0.length l0_0) (hc0 : l0_0.length ≤ c0_0) (hS : Kd.C (Kd.int .i64) w A1 l1.length l1) (hc1 : l1.length ≤ c1) (hW : Kd.C (Kd.int .i64) w A2 l2.length l2) (hc2 : l2.length ≤ c2)
    (xA : w.cell? ⟨BA, 0, none⟩ = some (.slice A0_0 l0_0.length c0_0)) (xW : w.cell? ⟨BW, 0, none⟩ = some (.slice A2 l2.length c2))
    (h : auto_Preimage.f k l0_0 l1 l2 = some (r1, r2)) :
    Calls Try.prog 57 #[.agg #[.slice A0_0 l0_0.length c0_0], .slice A1 l1.length c1, .slice A2 l2.length c2, .func (.func 56) #[] #[.pointer (some ⟨BA, 0, none⟩), .pointer (some ⟨BW, 0, none⟩)]] w fun e w' => ∃ v0_ : Value, e = .returned (.tuple #[v0_, .int .i64 r2]) ∧ Kd.R (Kd.int .i64) 3 w' w.heap.size (fun _ => True) v0_ r1 ∧ Below w.heap.size w w' := by
  have HR := Aside0.mk hR
  have HC := Aside0.mk hc0
  have HS := Aside0.mk hS
  have HC1 := Aside0.mk hc1
  have HW := Aside0.mk hW
  have HC2 := Aside0.mk hc2
  have XA := Aside0.mk xA
  have XW := Aside0.mk xW
  have HB0 := Below.refl w.heap.size w
  clear hR hc0 hS hc1 hW hc2 xA xW
  have H := h
  clear h
  unfold auto_Preimage.f at H
  replace H := Option.bind_eq_some_iff.mp H
  obtain ⟨v, hv, H⟩ := H
  have HV := Aside0.mk hv
  clear hv
  cases v with
  | false =>
    rw [if_neg (by decide)] at H
    simp only [Option.some.injEq, Prod.mk.injEq] at H
    obtain ⟨rfl, rfl⟩ := H
    go_enter Try.func57, Try.ntmps57
    go_wp2_with ((with_reducible refine gate_dst (N := 4) rfl ?_); refine box_event ?hg (N := 4) ?hd (cs := #[.slice A0_0 l0_0.length c0_0]) (t := 24) ?hr ?_; (case hd => rfl); (case hg => rfl); (case hr => first | (go_simp; done) | (go_simp; rfl)); intro B hBe w1 hbox hb1;  have hcb : w1.cell? ⟨B, 0, none⟩ = some (.slice A0_0 l0_0.length c0_0) := (blk_cell hbox 0).trans rfl;  have HBox := Aside0.mk hbox; have HB1 := Aside0.mk (below_step HB0 hb1); clear hbox hb1 hBe)
    refine (auto_Valid.calls _ _ l0_0 false _ (Kd.C_below HR.out HB1.out) HC.out HV.out).mono ?_
    rintro e w2 ⟨rfl, hb2⟩
    have HB2 := Aside0.mk (below_step HB1.out hb2)
    clear hb2
    go_wp2
    go_ret2
    exact ⟨_, rfl, Kd.R_nil _ _ _ _ _, HB2.out⟩
  | true =>
    rw [if_pos rfl] at H
    replace H := Option.bind_eq_some_iff.mp H
    obtain ⟨b1, hb1, H⟩ := H
    have HS1 := Aside0.mk hb1
    clear hb1
    cases b1 with
    | false =>
      rw [if_neg (by decide)] at H
      simp only [Option.some.injEq, Prod.mk.injEq] at H
      obtain ⟨rfl, rfl⟩ := H
      go_enter Try.func57, Try.ntmps57
      go_wp2_with ((with_reducible refine gate_dst (N := 4) rfl ?_); refine box_event ?hg (N := 4) ?hd (cs := #[.slice A0_0 l0_0.length c0_0]) (t := 24) ?hr ?_; (case hd => rfl); (case hg => rfl); (case hr => first | (go_simp; done) | (go_simp; rfl)); intro B hBe w1 hbox hb1;  have hcb : w1.cell? ⟨B, 0, none⟩ = some (.slice A0_0 l0_0.length c0_0) := (blk_cell hbox 0).trans rfl;  have HBox := Aside0.mk hbox; have HB1 := Aside0.mk (below_step HB0 hb1); clear hbox hb1 hBe)
      refine (auto_Valid.calls _ _ l0_0 true _ (Kd.C_below HR.out HB1.out) HC.out HV.out).mono ?_
      rintro e w2 ⟨rfl, hb2⟩
      have HB2 := Aside0.mk (below_step HB1.out hb2)
      have hcb2 : w2.cell? ⟨B, 0, none⟩ = some (.slice A0_0 l0_0.length c0_0) := (blk_cell (blk_below HBox.out hb2) 0).trans rfl
      clear hb2 hcb
      go_wp2_with fail
      refine (auto_Set.calls k _ _ l0_0 _ _ l1 false _ (Kd.C_below HR.out HB2.out) HC.out (Kd.C_below HS.out HB2.out) HC1.out HS1.out).mono ?_
      rintro e w3 ⟨rfl, hb3⟩
      have HB3 := Aside0.mk (below_step HB2.out hb3)
      clear hb3 hcb2
      go_wp2
      go_ret2
      exact ⟨_, rfl, Kd.R_nil _ _ _ _ _, HB3.out⟩
    | true =>
      rw [if_pos rfl] at H
      replace H := Option.bind_eq_some_iff.mp H
      obtain ⟨b2, hb2, H⟩ := H
      have HS2 := Aside0.mk hb2
      clear hb2
      cases b2 with
      | false =>
        rw [if_neg (by decide)] at H
        simp only [Option.some.injEq, Prod.mk.injEq] at H
        obtain ⟨rfl, rfl⟩ := H
        go_enter Try.func57, Try.ntmps57
        go_wp2_with ((with_reducible refine gate_dst (N := 4) rfl ?_); refine box_event ?hg (N := 4) ?hd (cs := #[.slice A0_0 l0_0.length c0_0]) (t := 24) ?hr ?_; (case hd => rfl); (case hg => rfl); (case hr => first | (go_simp; done) | (go_simp; rfl)); intro B hBe w1 hbox hb1;  have hcb : w1.cell? ⟨B, 0, none⟩ = some (.slice A0_0 l0_0.length c0_0) := (blk_cell hbox 0).trans rfl;  have HBox := Aside0.mk hbox; have HB1 := Aside0.mk (below_step HB0 hb1); clear hbox hb1 hBe)
        refine (auto_Valid.calls _ _ l0_0 true _ (Kd.C_below HR.out HB1.out) HC.out HV.out).mono ?_
        rintro e w2 ⟨rfl, hb2⟩
        have HB2 := Aside0.mk (below_step HB1.out hb2)
        have HBox2 := Aside0.mk (blk_below HBox.out hb2)
        have hcb2 : w2.cell? ⟨B, 0, none⟩ = some (.slice A0_0 l0_0.length c0_0) := (blk_cell HBox2.out 0).trans rfl
        clear hb2 hcb
        go_wp2_with fail
        refine (auto_Set.calls k _ _ l0_0 _ _ l1 true _ (Kd.C_below HR.out HB2.out) HC.out (Kd.C_below HS.out HB2.out) HC1.out HS1.out).mono ?_
        rintro e w3 ⟨rfl, hb3⟩
        have HB3 := Aside0.mk (below_step HB2.out hb3)
        have hcb3 : w3.cell? ⟨B, 0, none⟩ = some (.slice A0_0 l0_0.length c0_0) := (blk_cell (blk_below HBox2.out hb3) 0).trans rfl
        clear hb3 hcb2
        go_wp2_with fail
        refine (auto_Word.calls _ _ l0_0 _ _ l2 false _ (Kd.C_below HR.out HB3.out) HC.out (Kd.C_below HW.out HB3.out) HC2.out HS2.out).mono ?_
        rintro e w4 ⟨rfl, hb4⟩
        have HB4 := Aside0.mk (below_step HB3.out hb4)
        clear hb4 hcb3
        go_wp2
        go_ret2
        exact ⟨_, rfl, Kd.R_nil _ _ _ _ _, HB4.out⟩
      | true =>
        rw [if_pos rfl] at H
        by_cases e1 : inB l0_0.length l1 = true
        · rw [if_pos e1] at H
          by_cases e2 : 0 < l0_0.length
          · rw [if_pos e2] at H
            by_cases e3 : l0_0.length ≤ 281474976710656
            · rw [if_pos e3] at H
              obtain ⟨o, hO, H⟩ := Option.bind_eq_some_iff.mp H
              simp only [Option.some.injEq, Prod.mk.injEq] at H
              obtain ⟨rfl, rfl⟩ := H
              have HI := Aside0.mk hO
              have E1 := Aside0.mk e1
              have E2 := Aside0.mk e2
              have E3 := Aside0.mk e3
              clear hO e1 e2 e3
              go_enter Try.func57, Try.ntmps57
              go_wp2_with ((with_reducible refine gate_dst (N := 4) rfl ?_); refine box_event ?hg (N := 4) ?hd (cs := #[.slice A0_0 l0_0.length c0_0]) (t := 24) ?hr ?_; (case hd => rfl); (case hg => rfl); (case hr => first | (go_simp; done) | (go_simp; rfl)); intro B hBe w1 hbox hb1;  have hcb : w1.cell? ⟨B, 0, none⟩ = some (.slice A0_0 l0_0.length c0_0) := (blk_cell hbox 0).trans rfl;  have HBox := Aside0.mk hbox; have HB1 := Aside0.mk (below_step HB0 hb1); clear hbox hb1 hBe)
              refine (auto_Valid.calls _ _ l0_0 true _ (Kd.C_below HR.out HB1.out) HC.out HV.out).mono ?_
              rintro e w2 ⟨rfl, hb2⟩
              have HB2 := Aside0.mk (below_step HB1.out hb2)
              have HBox2 := Aside0.mk (blk_below HBox.out hb2)
              have hcb2 : w2.cell? ⟨B, 0, none⟩ = some (.slice A0_0 l0_0.length c0_0) := (blk_cell HBox2.out 0).trans rfl
              clear hb2 hcb
              go_wp2_with fail
              refine (auto_Set.calls k _ _ l0_0 _ _ l1 true _ (Kd.C_below HR.out HB2.out) HC.out (Kd.C_below HS.out HB2.out) HC1.out HS1.out).mono ?_
              rintro e w3 ⟨rfl, hb3⟩
              have HB3 := Aside0.mk (below_step HB2.out hb3)
              have HBox3 := Aside0.mk (blk_below HBox2.out hb3)
              have hcb3 : w3.cell? ⟨B, 0, none⟩ = some (.slice A0_0 l0_0.length c0_0) := (blk_cell HBox3.out 0).trans rfl
              clear hb3 hcb2
              go_wp2_with fail
              refine (auto_Word.calls _ _ l0_0 _ _ l2 true _ (Kd.C_below HR.out HB3.out) HC.out (Kd.C_below HW.out HB3.out) HC2.out HS2.out).mono ?_
              rintro e w4 ⟨rfl, hb4⟩
              have HB4 := Aside0.mk (below_step HB3.out hb4)
              have hcb4 : w4.cell? ⟨B, 0, none⟩ = some (.slice A0_0 l0_0.length c0_0) := (blk_cell (blk_below HBox3.out hb4) 0).trans rfl
              clear hb4 hcb3
              go_wp2_with ((with_reducible refine gate_dst (N := 31) rfl ?_); refine Kd.R_make Kd.bool _ 4 rfl (N := 31) rfl 80 _ _ rfl (l0_0.length : Int) rfl rfl Try.underlying80 (.bool false) 1 info4p rfl (by decide) (by omega) false (ok := fun _ => True) (okp := fun _ => True) rfl (fun _ hk => hk) trivial (by omega) (by have := E3.out; omega) (Below.refl _ _) (Nat.le_refl _) ?_;  intro v1 w5 hO hb2 hg2 hnew;  have HO := Aside0.mk (Kd.R_lower hO (show w.heap.size ≤ w4.heap.size from HB4.out.size));  obtain ⟨R, c, hv, hRb, hRl, hcl, hRh⟩ := Kd.R_form HO.out (by have := E2.out; simp; omega);  subst hv;  have HB5 := Aside0.mk (below_step HB4.out hb2); clear hcb4 hO hb2 hg2 hnew hRh)
              have hO5 := HO.out
              simp only [Int.toNat_natCast, List.length_replicate] at hO5
              have HO5 := Aside0.mk hO5
              have HLen : Aside0 ((List.replicate l0_0.length false).length = l0_0.length) := ⟨List.length_replicate⟩
              clear hO5
              have hRb2 := hRb
              go_loopg [34] l1.length (fun kq v34 w' => ∃ (x : Int) (mm : List Bool), v34 = .int .i64 x ∧ Aside0 (0 ≤ x ∧ x + (kq : Int) = (l1.length : Int)) ∧ Aside0 (mm.length = l0_0.length) ∧ Aside0 ((l1.drop x.toNat).foldl (fun m t => m.set t.toNat true) mm = metS l0_0.length l1) ∧ Aside0 (Kd.R Kd.bool 4 w' w.heap.size (fun _ => True) (.slice (some ⟨R, 0, none⟩) l0_0.length c) mm) ∧ Aside0 (Below w.heap.size w w'))
              case atStart => exact ⟨0, _, rfl, ⟨⟨by omega, by omega⟩⟩, HLen, ⟨rfl⟩, HO5, HB5⟩
              case round =>
                obtain ⟨x, mm, rfl, HK, HL, HF, HOr, HBr⟩ := hrel
                by_cases d1 : x < (l1.length : Int)
                · have d2 : 0 ≤ x := HK.out.1
                  obtain ⟨ad, e2, hxr⟩ := Kd.at_int (Kd.C_below HS.out HBr.out) x d2 d1
                  cases e2
                  obtain ⟨t1, t2⟩ := inB_rd E1.out d2 d1
                  have hdr := metS_drop d2 d1 HF.out
                  generalize rd l1 x = t at hxr t1 t2 hdr
                  have HF1 := Aside0.mk hdr
                  clear hdr
                  obtain ⟨hO1, hG1⟩ := Kd.R_putg HOr.out t true
                  have HO1 := Aside0.mk hO1
                  have HG1 := Aside0.mk hG1
                  obtain ⟨hx0, hf0⟩ := Kd.R_celln false HOr.out t t1 t2
                  clear hO1 hG1
                  have d1b := decide_eq_true d1
                  have q1 := eq_true d1
                  have q2 := eq_true d2
                  have q3 := eq_true t1
                  have q4 := eq_true t2
                  have HT1 := Aside0.mk t1
                  have HD := Aside0.mk d1
                  clear d1 d2 t1 t2
                  go_wp2_with ((with_reducible refine gate_store (t := 4) (p := 40) rfl ?_); refine store_event (t := 4) (p := 40) (v := ?vo) (w1 := (wr.setCell ⟨R, t.toNat, none⟩ (.bool true))) ?hg ?ho ?hn ?hr ?_; (case ho => rfl); (case hg => rfl); (case hn => rfl); (case hr => first | (go_simp; done) | (go_simp; rfl)); intro w6 hw;  have HG6 : Aside0 (wr.grownBy w6 (some R)) := (by rw [hw]; exact HG1); have HO6 : Aside0 (Kd.R Kd.bool 4 w6 w.heap.size (fun _ => True) (.slice (some ⟨R, 0, none⟩) l0_0.length c) (mm.set t.toNat true)) := (by rw [hw]; exact HO1); clear hw hx0 hf0)
                  obtain ⟨k1, rfl⟩ : ∃ k1, gk = k1 + 1 := ⟨gk - 1, by have := HK.out; have := HD.out; omega⟩
                  go_roundg k1
                  case measure => omega
                  case rel => exact ⟨x + 1, mm.set t.toNat true, by have h1 := HD.out; have h2 := HS.out.2.1; have h3 := HK.out.1; rw [show wrap64 (x + 1) = x + 1 from by unfold wrap64; omega], ⟨⟨by have := HK.out.1; omega, by have := HK.out.2; omega⟩⟩, ⟨by rw [List.length_set]; exact HL.out⟩, ⟨by have h1 := HK.out.1; rw [show (x + 1).toNat = x.toNat + 1 from by omega]; exact HF1.out⟩, HO6, ⟨pw_below_grown HBr.out (some R) HBr.out.size HG6.out (fun k e => by cases e; exact hRb2)⟩⟩
                · have d1b := decide_eq_false d1
                  clear d1
                  have XA2 := pw_cell_below HBr.out XA.out
                  have XW2 := pw_cell_below HBr.out XW.out
                  have HX2 := Aside0.mk XA2
                  have HX3 := Aside0.mk XW2
                  have hmm : mm = metS l0_0.length l1 := by
                    have h1 := HK.out
                    have h2 := of_decide_eq_false d1b
                    have h3 := HF.out
                    rw [List.drop_eq_nil_of_le (by omega)] at h3
                    exact h3
                  have hI := HI.out
                  rw [← hmm] at hI
                  have HI2 := Aside0.mk hI
                  have HM2 := Aside0.mk (Kd.R_reads' HOr.out).2.2
                  have HL2 := HL.out
                  clear XA2 XW2 hI hmm
                  go_wp2_with fail
                  rw [← HL2]
                  refine (preim1_calls k l0_0 mm l2 A0_0 _ A2 c0_0 _ c2 BA BW _ _ (Kd.C_below HR.out HBr.out) HC.out HM2.out (Kd.C_below HW.out HBr.out) HC2.out HX2.out HX3.out HI2.out).mono ?_
                  rintro e w7 ⟨v0, rfl, hO7, hb7⟩
                  have HO7 := Aside0.mk (Kd.R_lower hO7 (show w.heap.size ≤ wr.heap.size from HBr.out.size))
                  have HB7 := Aside0.mk (below_step HBr.out hb7)
                  clear hO7 hb7
                  go_wp2
                  go_ret2
                  exact ⟨_, rfl, HO7.out, HB7.out⟩
            · rw [if_neg e3] at H; exact absurd H (by simp)
          · rw [if_neg e2] at H; exact absurd H (by simp)
        · rw [if_neg e1] at H; exact absurd H (by simp)
end Go.Proofs.Ytcpmmkennnjalaa.Q
end
section
namespace Go.Proofs.Ytcpmmkennnjalaa.Q
open Go.RowKit Go.Proofs.YtcpmmkennnjalaaW.PrintWords Go.Proofs.YtcpmmkennnjalaaW.PrintLast Go.Proofs.YtcpmmkennnjalaaW.PrintMore
set_option linter.unusedVariables false
set_option linter.unusedSimpArgs false
set_option maxHeartbeats 2000000 in
set_option maxRecDepth 100000 in
theorem auto_Preimage.calls (k : Nat) (A0_0 : Option Addr) (c0_0 : Nat) (l0_0 : List (List Int)) (A1 : Option Addr) (c1 : Nat) (l1 : List Int) (A2 : Option Addr) (c2 : Nat) (l2 : List Int) (r1 : List Int) (r2 : Int) (w : World) (hr0_0 : Kd.C (Kd.slice 3 (Kd.int .i64)) w A0_0 l0_0.length l0_0) (hc0_0 : l0_0.length ≤ c0_0) (hr1 : Kd.C (Kd.int .i64) w A1 l1.length l1) (hc1 : l1.length ≤ c1) (hr2 : Kd.C (Kd.int .i64) w A2 l2.length l2) (hc2 : l2.length ≤ c2) (h : auto_Preimage.f k l0_0 l1 l2 = some (r1, r2)) :
    Calls Try.prog 22 #[.agg #[.slice A0_0 l0_0.length c0_0], .slice A1 l1.length c1, .slice A2 l2.length c2] w fun e w' => ∃ v0_ : Value, e = .returned (.tuple #[v0_, .int .i64 r2]) ∧ Kd.R (Kd.int .i64) 3 w' w.heap.size (fun _ => True) v0_ r1 ∧ Below w.heap.size w w' := by
  have HR := Aside0.mk hr0_0
  have HC := Aside0.mk hc0_0
  have HS := Aside0.mk hr1
  have HC1 := Aside0.mk hc1
  have HW := Aside0.mk hr2
  have HC2 := Aside0.mk hc2
  have HB0 := Below.refl w.heap.size w
  have H := Aside0.mk h
  clear hr0_0 hc0_0 hr1 hc1 hr2 hc2 h
  go_enter Try.func22, Try.ntmps22
  go_wp2_with (first | ((with_reducible refine gate_dst (N := 3) rfl ?_); refine box_event ?hg (N := 3) ?hd (cs := #[.slice A0_0 l0_0.length c0_0]) (t := 24) ?hr ?_; (case hd => rfl); (case hg => rfl); (case hr => first | (go_simp; done) | (go_simp; rfl)); intro BA hBAe w1 hbox hb1;  have HBA := Aside0.mk hbox; have HB1 := Aside0.mk (below_step HB0 hb1); clear hbox hb1 hBAe)  | ((with_reducible refine gate_dst (N := 5) rfl ?_); refine box_event ?hg (N := 5) ?hd (cs := #[.slice A2 l2.length c2]) (t := 34) ?hr ?_; (case hd => rfl); (case hg => rfl); (case hr => first | (go_simp; done) | (go_simp; rfl)); intro BW hBWe w3 hbox hb3;  have HBW := Aside0.mk hbox; have HBA3 := Aside0.mk (blk_below HBA.out hb3); have HB3 := Aside0.mk (below_step HB1.out hb3);  have xA : w3.cell? ⟨BA, 0, none⟩ = some (.slice A0_0 l0_0.length c0_0) := (blk_cell HBA3.out 0).trans rfl;  have xW : w3.cell? ⟨BW, 0, none⟩ = some (.slice A2 l2.length c2) := (blk_cell HBW.out 0).trans rfl;  have XA := Aside0.mk xA; have XW := Aside0.mk xW; clear hbox hb3 hBWe))
  refine (psets_calls k l0_0 l1 l2 A0_0 A1 A2 c0_0 c1 c2 BA BW r1 r2 _ (Kd.C_below HR.out HB3.out) HC.out (Kd.C_below HS.out HB3.out) HC1.out (Kd.C_below HW.out HB3.out) HC2.out XA.out XW.out H.out).mono ?_
  rintro e w4 ⟨v0, rfl, hO, hb⟩
  have HO := Aside0.mk (Kd.R_lower hO (show w.heap.size ≤ w3.heap.size from HB3.out.size))
  have HB4 := Aside0.mk (below_step HB3.out hb)
  clear hO hb xA xW
  go_wp2
  go_ret2
  exact ⟨_, rfl, HO.out, HB4.out⟩
end Go.Proofs.Ytcpmmkennnjalaa.Q
end
section
-- Written by xprint.py, a program of this session's, over the kit's print. Lean checks it.
namespace Go.Proofs.Ytcpmmkennnjalaa.Q
open Go.RowKit Go.Proofs.YtcpmmkennnjalaaW.PrintWords Go.Proofs.YtcpmmkennnjalaaW.PrintLast Go.Proofs.YtcpmmkennnjalaaW.PrintMore
attribute [local go_sem] max2_int min2_int max_two min_two max_three min_three max_four min_four
set_option linter.unusedVariables false
set_option linter.unusedSimpArgs false

/-! ### mizmazelaw06_together: function 23 -/
end Go.Proofs.Ytcpmmkennnjalaa.Q
end
