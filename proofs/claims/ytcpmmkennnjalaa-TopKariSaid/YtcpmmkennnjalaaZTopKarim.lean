/- In any Eulerian automaton that has a reset word, whatever set of states, neither empty nor all, is led into by more states with a word of at most n - 1 letters, and its shortest reset word has at most n^2 - 3n + 3 letters; in any circular one at most (n - 1)^2. (At most 9 states) (text 13 of 42) -/
import Derived.Test.YtcpmmkennnjalaaZTopKarij
import Derived.Laws.EntriesVeiled
import Derived.Test.YtcpmmkennnjalaaZTopKaril
section
namespace Go.Proofs.Ytcpmmkennnjalaa.Q
open Go.RowKit Go.Proofs.YtcpmmkennnjalaaW.PrintWords Go.Proofs.YtcpmmkennnjalaaW.PrintLast Go.Proofs.YtcpmmkennnjalaaW.PrintMore
set_option linter.unusedVariables false
set_option linter.unusedSimpArgs false
/-! ### rows of words, rows of sets with their words -/
abbrev Hd := Option Addr × Nat × Nat
def kWd : Kd Hd := Kd.scalar (fun z : Hd => Value.slice z.1 z.2.1 z.2.2) (fun _ => rfl)
def kMo : Kd (Int × Hd) := Kd.pair (Kd.int .u16) kWd
theorem kMo_M {W : World} {base : Nat} {ok : Nat → Prop} {z : Int × Hd} : kMo.M W base ok z [.int .u16 z.1, .slice z.2.1 z.2.2.1 z.2.2.2] := ⟨[_], [_], rfl, rfl, rfl⟩
def PS (W : World) (base : Nat) (z : Hd) (r : List Int) : Prop := Kd.R (Kd.int .i64) 3 W base (fun _ => True) (.slice z.1 z.2.1 z.2.2) r
def GS (W : World) (base : Nat) (v : Value) (l : List (List Int)) : Prop := ∃ zs, Kd.R kWd 34 W base (fun _ => True) v zs ∧ zs.length = l.length ∧ ∀ (i : Nat) z r, zs[i]? = some z → l[i]? = some r → PS W base z r
def GM (W : World) (base : Nat) (v : Value) (l : List (Int × List Int)) : Prop := ∃ zs, Kd.R kMo 58 W base (fun _ => True) v zs ∧ zs.length = l.length ∧ ∀ (i : Nat) z r, zs[i]? = some z → l[i]? = some r → z.1 = r.1 ∧ PS W base z.2 r.2
theorem GS.nil (W : World) (base : Nat) : GS W base (.slice none 0 0) [] := ⟨[], Kd.R_nil _ _ _ _ _, rfl, fun i z r h => by simp at h⟩
theorem GM.nil (W : World) (base : Nat) : GM W base (.slice none 0 0) [] := ⟨[], Kd.R_nil _ _ _ _ _, rfl, fun i z r h => by simp at h⟩
section
variable {W W1 : World} {base : Nat} {v : Value}
theorem GS.below {l : List (List Int)} (h : GS W base v l) (hb : Below W.heap.size W W1) : GS W1 base v l := by
  obtain ⟨zs, h1, h2, h3⟩ := h
  exact ⟨zs, Kd.R_below h1 hb, h2, fun i z r a b => Kd.R_below (h3 i z r a b) hb⟩
theorem GM.below {l : List (Int × List Int)} (h : GM W base v l) (hb : Below W.heap.size W W1) : GM W1 base v l := by
  obtain ⟨zs, h1, h2, h3⟩ := h
  exact ⟨zs, Kd.R_below h1 hb, h2, fun i z r a b => ⟨(h3 i z r a b).1, Kd.R_below (h3 i z r a b).2 hb⟩⟩
theorem GS.lower {b2 : Nat} {l : List (List Int)} (h : GS W base v l) (hb : b2 ≤ base) : GS W b2 v l := by
  obtain ⟨zs, h1, h2, h3⟩ := h
  exact ⟨zs, Kd.R_lower h1 hb, h2, fun i z r a b => Kd.R_lower (h3 i z r a b) hb⟩
theorem GM.lower {b2 : Nat} {l : List (Int × List Int)} (h : GM W base v l) (hb : b2 ≤ base) : GM W b2 v l := by
  obtain ⟨zs, h1, h2, h3⟩ := h
  exact ⟨zs, Kd.R_lower h1 hb, h2, fun i z r a b => ⟨(h3 i z r a b).1, Kd.R_lower (h3 i z r a b).2 hb⟩⟩
/-- another row, of another type, has been written -/
theorem PS.over {u : Value} {e' : Nat} {z : Hd} {r : List Int} (h : PS W base z r) (hty : ∀ k, u.ownBlock = some k → ∃ cells, W.heap[k]? = some (.cells cells e' (0, 0))) (h3 : (3 : Nat) ≠ e') (hg : W.grownBy W1 u.ownBlock) : PS W1 base z r :=
  Kd.R_over' h hty (fun q hq => by
    rcases List.mem_cons.1 hq with rfl | hq
    · exact h3
    · cases hq) hg
theorem GS.over {u : Value} {e' : Nat} {l : List (List Int)} (h : GS W base v l) (hty : ∀ k, u.ownBlock = some k → ∃ cells, W.heap[k]? = some (.cells cells e' (0, 0))) (h1 : (34 : Nat) ≠ e') (h3 : (3 : Nat) ≠ e') (hg : W.grownBy W1 u.ownBlock) : GS W1 base v l := by
  obtain ⟨zs, a1, a2, a3⟩ := h
  refine ⟨zs, Kd.R_over' a1 hty (fun q hq => ?_) hg, a2, fun i z r a b => (a3 i z r a b).over hty h3 hg⟩
  rcases List.mem_cons.1 hq with rfl | hq
  · exact h1
  · cases hq
theorem GM.over {u : Value} {e' : Nat} {l : List (Int × List Int)} (h : GM W base v l) (hty : ∀ k, u.ownBlock = some k → ∃ cells, W.heap[k]? = some (.cells cells e' (0, 0))) (h1 : (58 : Nat) ≠ e') (h3 : (3 : Nat) ≠ e') (hg : W.grownBy W1 u.ownBlock) : GM W1 base v l := by
  obtain ⟨zs, a1, a2, a3⟩ := h
  refine ⟨zs, Kd.R_over' a1 hty (fun q hq => ?_) hg, a2, fun i z r a b => ⟨(a3 i z r a b).1, (a3 i z r a b).2.over hty h3 hg⟩⟩
  rcases List.mem_cons.1 hq with rfl | hq
  · exact h1
  · cases hq
theorem GS.typed {l : List (List Int)} (h : GS W base v l) : ∀ k, v.ownBlock = some k → ∃ cells, W.heap[k]? = some (.cells cells 34 (0, 0)) := by
  obtain ⟨zs, a1, _, _⟩ := h; exact Kd.R_typed a1
theorem GM.typed {l : List (Int × List Int)} (h : GM W base v l) : ∀ k, v.ownBlock = some k → ∃ cells, W.heap[k]? = some (.cells cells 58 (0, 0)) := by
  obtain ⟨zs, a1, _, _⟩ := h; exact Kd.R_typed a1
theorem snoc_get {α : Type} {l : List α} {x y : α} {i : Nat} (h : (l ++ [x])[i]? = some y) : l[i]? = some y ∨ (i = l.length ∧ y = x) := by
  rcases Nat.lt_or_ge i l.length with hi | hi
  · rw [List.getElem?_append_left hi] at h; exact .inl h
  · rw [List.getElem?_append_right hi] at h
    rcases Nat.eq_or_lt_of_le hi with he | he
    · rw [← he, Nat.sub_self] at h; exact .inr ⟨he.symm, (Option.some.inj h).symm⟩
    · have : i - l.length ≠ 0 := by omega
      obtain ⟨j, hj⟩ := Nat.exists_eq_succ_of_ne_zero this
      rw [hj] at h; simp at h
theorem GS.snoc {zs : List Hd} {l : List (List Int)} {z : Hd} {r : List Int} {v1 : Value} (hR : Kd.R kWd 34 W1 base (fun _ => True) v1 (zs ++ [z])) (hl : zs.length = l.length) (h3 : ∀ (i : Nat) z r, zs[i]? = some z → l[i]? = some r → PS W1 base z r) (hz : PS W1 base z r) : GS W1 base v1 (l ++ [r]) := by
  refine ⟨zs ++ [z], hR, by simp [hl], fun i z' r' a b => ?_⟩
  rcases snoc_get a with a | ⟨a1, rfl⟩
  · rcases snoc_get b with b | ⟨b1, rfl⟩
    · exact h3 i z' r' a b
    · have := (List.getElem?_eq_some_iff.1 a).1; omega
  · rcases snoc_get b with b | ⟨b1, rfl⟩
    · have := (List.getElem?_eq_some_iff.1 b).1; omega
    · exact hz
theorem GM.snoc {zs : List (Int × Hd)} {l : List (Int × List Int)} {z : Int × Hd} {r : Int × List Int} {v1 : Value} (hR : Kd.R kMo 58 W1 base (fun _ => True) v1 (zs ++ [z])) (hl : zs.length = l.length) (h3 : ∀ (i : Nat) z r, zs[i]? = some z → l[i]? = some r → z.1 = r.1 ∧ PS W1 base z.2 r.2) (h1 : z.1 = r.1) (hz : PS W1 base z.2 r.2) : GM W1 base v1 (l ++ [r]) := by
  refine ⟨zs ++ [z], hR, by simp [hl], fun i z' r' a b => ?_⟩
  rcases snoc_get a with a | ⟨a1, rfl⟩
  · rcases snoc_get b with b | ⟨b1, rfl⟩
    · exact h3 i z' r' a b
    · have := (List.getElem?_eq_some_iff.1 a).1; omega
  · rcases snoc_get b with b | ⟨b1, rfl⟩
    · have := (List.getElem?_eq_some_iff.1 b).1; omega
    · exact ⟨h1, hz⟩
/-- an element that is read -/
theorem GS.at_ {l : List (List Int)} (h : GS W base v l) (i : Int) (h0 : 0 ≤ i) (h1 : i < (l.length : Int)) :
    ∃ ad c A c2, v = .slice (some ad) l.length c ∧ W.cell? (ad.add i.toNat) = some (.slice A (rd_L1 l i).length c2) ∧ (rd_L1 l i).length ≤ c2 ∧ Kd.C (Kd.int .i64) W A (rd_L1 l i).length (rd_L1 l i) ∧ Kd.R (Kd.int .i64) 3 W base (fun _ => True) (.slice A (rd_L1 l i).length c2) (rd_L1 l i) := by
  obtain ⟨zs, a1, a2, a3⟩ := h
  obtain ⟨A, c, e, _, hC⟩ := Kd.R_reads a1
  obtain ⟨ad, cs, e2, _, hK, hc0⟩ := Kd.C_get hC (none, 0, 0) i h0 (by omega)
  subst e2
  obtain ⟨j, rfl⟩ := Int.eq_ofNat_of_zero_le h0
  have hj : j < l.length := by omega
  rw [Int.toNat_natCast] at hK hc0 ⊢
  have hz : zs[j]? = some (zs.getD j (none, 0, 0)) := by rw [List.getD_eq_getElem?_getD, List.getElem?_eq_getElem (by omega)]; rfl
  have hr : l[j]? = some (rd_L1 l (j : Int)) := by
    show _ = some (l.getD j [])
    rw [List.getD_eq_getElem?_getD, List.getElem?_eq_getElem hj]; rfl
  generalize zs.getD j (none, 0, 0) = z at hK hz
  generalize rd_L1 l (j : Int) = r at hr ⊢
  have hk : cs = [.slice z.1 z.2.1 z.2.2] := hK
  subst hk
  have hp := a3 j z r hz hr
  have hq := Kd.R_reads' hp
  have h9 := hc0 0 _ rfl
  rw [show kWd.sz = 1 from rfl] at h9
  refine ⟨ad, c, z.1, z.2.2, by rw [e, a2], by rw [← hq.1]; simpa using h9, by rw [← hq.1]; exact hq.2.1, hq.2.2, ?_⟩
  rw [← hq.1]; exact hp
def rdMo (l : List (Int × List Int)) (i : Int) : Int × List Int := l.getD i.toNat (0, [])
theorem GM.at_ {l : List (Int × List Int)} (h : GM W base v l) (i : Int) (h0 : 0 ≤ i) (h1 : i < (l.length : Int)) :
    ∃ ad c A c2, v = .slice (some ad) l.length c ∧ W.cell? (ad.add (i.toNat * 2)) = some (.int .u16 (rdMo l i).1) ∧ W.cell? ⟨(ad.add (i.toNat * 2)).block, (ad.add (i.toNat * 2)).off + 1, none⟩ = some (.slice A (rdMo l i).2.length c2) ∧ (rdMo l i).2.length ≤ c2 ∧ Kd.C (Kd.int .i64) W A (rdMo l i).2.length (rdMo l i).2 ∧ Kd.R (Kd.int .i64) 3 W base (fun _ => True) (.slice A (rdMo l i).2.length c2) (rdMo l i).2 := by
  obtain ⟨zs, a1, a2, a3⟩ := h
  obtain ⟨A, c, e, _, hC⟩ := Kd.R_reads a1
  obtain ⟨ad, cs, e2, _, hK, hc0⟩ := Kd.C_get hC (0, none, 0, 0) i h0 (by omega)
  subst e2
  obtain ⟨j, rfl⟩ := Int.eq_ofNat_of_zero_le h0
  have hj : j < l.length := by omega
  have hc : ∀ j' u, cs[j']? = some u → W.cell? (ad.add (j * 2 + j')) = some u := hc0
  rw [Int.toNat_natCast] at hK ⊢
  have hz : zs[j]? = some (zs.getD j (0, none, 0, 0)) := by rw [List.getD_eq_getElem?_getD, List.getElem?_eq_getElem (by omega)]; rfl
  have hr : l[j]? = some (rdMo l (j : Int)) := by
    show _ = some (l.getD j (0, []))
    rw [List.getD_eq_getElem?_getD, List.getElem?_eq_getElem hj]; rfl
  generalize zs.getD j (0, none, 0, 0) = z at hK hz
  generalize rdMo l (j : Int) = r at hr ⊢
  obtain ⟨b0, b1, rfl, k0, k1⟩ := hK
  have e0 : b0 = [.int .u16 z.1] := k0
  have e1 : b1 = [.slice z.2.1 z.2.2.1 z.2.2.2] := k1
  subst e0; subst e1
  obtain ⟨hp1, hp⟩ := a3 j z r hz hr
  have hq := Kd.R_reads' hp
  refine ⟨ad, c, z.2.1, z.2.2.2, by rw [e, a2], by rw [← hp1]; exact hc 0 _ rfl, by rw [← hq.1, ← add_field _ _ 1 (by omega)]; exact hc 1 _ rfl, by rw [← hq.1]; exact hq.2.1, hq.2.2, ?_⟩
  rw [← hq.1]; exact hp
end
end Go.Proofs.Ytcpmmkennnjalaa.Q
end
section
namespace Go.Proofs.Ytcpmmkennnjalaa.Q
open Go.RowKit Go.Proofs.YtcpmmkennnjalaaW.PrintWords Go.Proofs.YtcpmmkennnjalaaW.PrintLast Go.Proofs.YtcpmmkennnjalaaW.PrintMore
set_option linter.unusedVariables false
set_option linter.unusedSimpArgs false
def slices_MinFunc.l0 : Nat → List (List Int) → List Int → Int → Option (List Int)
  | 0, _, _, _ => none
  | k + 1, ls, m, i => if i < (ls.length : Int) then (if 0 ≤ i then ((slices_Compare_int_int.f k (rd_L1 ls i) m).bind fun c => if c < 0 then slices_MinFunc.l0 k ls (rd_L1 ls i) (wrap64 (i + 1)) else slices_MinFunc.l0 k ls m (wrap64 (i + 1))) else none) else some m
def slices_MinFunc.f (k : Nat) (ls : List (List Int)) : Option (List Int) := if 0 < ls.length then slices_MinFunc.l0 k ls (rd_L1 ls 0) 1 else none
theorem drawn_below {w w' : World} (h : Drawn0 w w') : Below w.heap.size w w' := h.below
set_option maxHeartbeats 1000000 in
set_option maxRecDepth 100000 in
theorem slices_MinFunc.calls (k : Nat) (v : Value) (ls : List (List Int)) (r : List Int) (base : Nat) (w : World) (hG : GS w base v ls) (h : slices_MinFunc.f k ls = some r) :
    Calls Try.prog 43 #[v, .func (.func 44) #[] #[]] w fun e w' => ∃ v0_ : Value, e = .returned v0_ ∧ Kd.R (Kd.int .i64) 3 w' base (fun _ => True) v0_ r ∧ Below w.heap.size w w' := by
  unfold slices_MinFunc.f at h
  by_cases d0 : 0 < ls.length
  rotate_left
  · rw [if_neg d0] at h; cases h
  rw [if_pos d0] at h
  obtain ⟨ad, c, A0, c0, rfl, hx0, hl0, hC0, hR0⟩ := hG.at_ 0 (by omega) (by omega)
  have HG := Aside0.mk hG
  have H' := Aside0.mk h
  have HR0 := Aside0.mk hR0
  have HB0 := Aside0.mk (Below.refl w.heap.size w)
  have D0 := Aside0.mk d0
  have d0b : decide ((ls.length : Int) < 1) = false := decide_eq_false (by omega)
  have d0c : decide (ls.length < 1) = false := decide_eq_false (by omega)
  have q0 := eq_true (show (0 : Int) < (ls.length : Int) by omega)
  have q0n := eq_true d0
  rw [Int.toNat_zero, show ad.add 0 = ad from rfl] at hx0
  clear hG h hR0 hC0 hl0 d0
  go_enter Try.func43, Try.ntmps43
  go_wp2_with fail
  generalize Value.slice A0 (rd_L1 ls 0).length c0 = v5 at HR0 hx0 ⊢
  clear hx0
  go_loopg [5, 6] k (fun kq v5 v6 w' => ∃ (i : Int) (m : List Int), v6 = .int .i64 i ∧ Aside0 (slices_MinFunc.l0 kq ls m i = some r) ∧ Aside0 (kq ≤ k) ∧ Aside0 (Kd.R (Kd.int .i64) 3 w' base (fun _ => True) v5 m) ∧ Aside0 (Below w.heap.size w w'))
  case atStart => exact ⟨1, _, rfl, H', ⟨Nat.le_refl _⟩, HR0, HB0⟩
  case round =>
    clear H' HR0 HB0
    obtain ⟨i, m, rfl, HA, HK, HM, HB⟩ := hrel
    cases gk with
    | zero => exact absurd HA.out (by simp [slices_MinFunc.l0])
    | succ k1 =>
      have H := HA.out
      clear HA
      simp only [slices_MinFunc.l0] at H
      by_cases d1 : i < (ls.length : Int)
      · rw [if_pos d1] at H
        by_cases d2 : 0 ≤ i
        · rw [if_pos d2] at H
          obtain ⟨cv, hcv, H⟩ := Option.bind_eq_some_iff.1 H
          have HCV := Aside0.mk hcv
          obtain ⟨ad2, c2, A, ca, e2, hx, hl, hC, hRi⟩ := (HG.out.below HB.out).at_ i d2 d1
          cases e2
          obtain ⟨Am, cm, em, hlm, hCm⟩ := Kd.R_reads HM.out
          subst em
          have HL := Aside0.mk hl
          have HCi := Aside0.mk hC
          have HRi := Aside0.mk hRi
          have HLm := Aside0.mk hlm
          have HCm := Aside0.mk hCm
          have q1 := eq_true d1
          have q2 := eq_true d2
          have d1b := decide_eq_true d1
          clear d1 d2 hcv hl hC hRi hlm hCm
          by_cases d3 : cv < 0
          · rw [if_pos d3] at H
            have H' := Aside0.mk H
            have d3b := decide_eq_true d3
            clear H d3
            have HXi := Aside0.mk hx
            go_wp2_with fail
            refine (slices_Compare_int_int.calls k1 _ _ (rd_L1 ls i) _ _ m cv _ HCi.out HL.out HCm.out HLm.out HCV.out).mono ?_
            rintro e w3 ⟨rfl, hd⟩
            have hb3 := drawn_below hd
            have HB3 := Aside0.mk (below_step HB.out hb3)
            have HR3 := Aside0.mk (Kd.R_below HRi.out hb3)
            have hx3 := pw_cell_below hb3 HXi.out
            clear hd hb3 hx
            go_wp2_with fail
            go_roundg k1
            case measure => omega
            case rel => exact ⟨_, _, rfl, H', ⟨by have := HK.out; omega⟩, HR3, HB3⟩
          · rw [if_neg d3] at H
            have H' := Aside0.mk H
            have d3b := decide_eq_false d3
            clear H d3
            go_wp2_with fail
            refine (slices_Compare_int_int.calls k1 _ _ (rd_L1 ls i) _ _ m cv _ HCi.out HL.out HCm.out HLm.out HCV.out).mono ?_
            rintro e w3 ⟨rfl, hd⟩
            have hb3 := drawn_below hd
            have HB3 := Aside0.mk (below_step HB.out hb3)
            have HR3 := Aside0.mk (Kd.R_below HM.out hb3)
            clear hd hb3 hx
            go_wp2_with fail
            go_roundg k1
            case measure => omega
            case rel => exact ⟨_, _, rfl, H', ⟨by have := HK.out; omega⟩, HR3, HB3⟩
        · rw [if_neg d2] at H; exact absurd H (by simp)
      · rw [if_neg d1] at H
        obtain rfl := Option.some.inj H
        have d1b := decide_eq_false d1
        clear H d1
        go_wp2
        go_ret
        exact ⟨_, rfl, HM.out, HB.out⟩
end Go.Proofs.Ytcpmmkennnjalaa.Q
end
section
namespace Go.Proofs.Ytcpmmkennnjalaa.Q
open Go.RowKit Go.Proofs.YtcpmmkennnjalaaW.PrintWords Go.Proofs.YtcpmmkennnjalaaW.PrintLast Go.Proofs.YtcpmmkennnjalaaW.PrintMore
set_option linter.unusedVariables false
set_option linter.unusedSimpArgs false
end Go.Proofs.Ytcpmmkennnjalaa.Q
end
section
namespace Go.Proofs.Ytcpmmkennnjalaa.Q
open Go.RowKit Go.Proofs.YtcpmmkennnjalaaW.PrintWords Go.Proofs.YtcpmmkennnjalaaW.PrintLast Go.Proofs.YtcpmmkennnjalaaW.PrintMore
set_option linter.unusedVariables false
set_option linter.unusedSimpArgs false

end Go.Proofs.Ytcpmmkennnjalaa.Q
end
section
namespace Go.Proofs.Ytcpmmkennnjalaa.Q
open Go.RowKit Go.Proofs.YtcpmmkennnjalaaW.PrintWords Go.Proofs.YtcpmmkennnjalaaW.PrintLast Go.Proofs.YtcpmmkennnjalaaW.PrintMore
set_option linter.unusedVariables false
set_option linter.unusedSimpArgs false
end Go.Proofs.Ytcpmmkennnjalaa.Q
end
section
namespace Go.Proofs.Ytcpmmkennnjalaa.Q
open Go.RowKit Go.Proofs.YtcpmmkennnjalaaW.PrintWords Go.Proofs.YtcpmmkennnjalaaW.PrintLast Go.Proofs.YtcpmmkennnjalaaW.PrintMore
set_option linter.unusedVariables false
set_option linter.unusedSimpArgs false
end Go.Proofs.Ytcpmmkennnjalaa.Q
end
section
-- Written by xprint.py, a program of this session's, over the kit's print. Lean checks it.
namespace Go.Proofs.Ytcpmmkennnjalaa.Q
open Go.RowKit Go.Proofs.YtcpmmkennnjalaaW.PrintWords Go.Proofs.YtcpmmkennnjalaaW.PrintLast Go.Proofs.YtcpmmkennnjalaaW.PrintMore
attribute [local go_sem] max2_int min2_int max_two min_two max_three min_three max_four min_four
set_option linter.unusedVariables false
set_option linter.unusedSimpArgs false

/-! ### mizmazelaw06_together: function 23 -/
end Go.Proofs.Ytcpmmkennnjalaa.Q
end
