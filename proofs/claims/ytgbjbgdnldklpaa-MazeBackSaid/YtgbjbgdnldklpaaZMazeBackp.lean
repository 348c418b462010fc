/- The law MazeBack holds: whoever goes back through a door is where one was, and a word is walked back through the same rooms; no bound on the arguments beyond their types'. (text 16 of 17) -/
import Derived.Test.YtgbjbgdnldklpaaZMazeBackn
import Derived.Test.YtgbjbgdnldklpaaZMazeBacko
import Derived.Test.YtgbjbgdnldklpaaZMazeBackm
import Derived.Test.YtgbjbgdnldklpaaZMazeBackg
/-! Part StmtMazeBack -/
section
-- Written by xrow.py, a program of this session's. Lean checks it.
namespace Go.Proofs.Ytgbjbgdnldklpaa.Q
/-- What is left to prove of the law MazeBack. -/
def mizmazelaw10_MazeBack.Pure : Prop := ∀ (l0_0 : List (List S44)), ∀ (a1 : Int), ∀ (l2 : List Int), MazeOk l0_0 → (-9223372036854775808 ≤ a1 ∧ a1 ≤ 9223372036854775807) → IntsOk l2 → ∃ k, mizmazelaw10_MazeBack.f k l0_0 a1 l2 = some true
end Go.Proofs.Ytgbjbgdnldklpaa.Q
end
/-! Part PureMazeBack -/
section
namespace Go.Proofs.Ytgbjbgdnldklpaa.Pure
open Go.RowKit Go.Proofs.YtgbjbgdnldklpaaW.PrintWords Go.Proofs.YtgbjbgdnldklpaaW.PrintLast Go.Proofs.YtgbjbgdnldklpaaW.PrintMore Go.Proofs.Ytgbjbgdnldklpaa.Q
set_option linter.unusedVariables false
set_option linter.unusedSectionVars false
set_option linter.unusedSimpArgs false
section
variable {z : List (List S44)} {n m : Nat} (V : VZ z n m)
include V
theorem back_last {w u : List Nat} (hw : w.length ≤ 1000000) (hu : u = w.reverse) : ∀ (e i : Nat), i + e = w.length → Ev (fun k => mizmazelaw10_MazeBack.l1 k (toI w) (toI u) (i : Int)) true
  | 0, i, he => Ev.step (fun k => by rw [mizmazelaw10_MazeBack.l1, if_neg (by rw [toI_len]; omega)]) awake10_end
  | e + 1, i, he => by
    have hul : u.length = w.length := by rw [hu]; simp
    have hi : i < w.length := by omega
    have e1 : wrap64 (wrap64 (((toI w).length : Int) - 1) - (i : Int)) = ((w.length - 1 - i : Nat) : Int) := by
      rw [toI_len, wrapI (z := (w.length : Int) - 1) (by omega) (by omega), wrapI (by omega) (by omega)]; omega
    have e2 : rd (toI u) ((w.length - 1 - i : Nat) : Int) = rd (toI w) (i : Int) := by
      rw [toI_rd (by omega), toI_rd hi]
      subst hu
      rw [List.getElem_reverse]
      congr 2
      omega
    refine Ev.step (fun k => by rw [mizmazelaw10_MazeBack.l1, if_pos (by rw [toI_len]; omega), e1, if_pos (by omega), if_pos (by rw [toI_len]; omega), if_pos (by omega), if_pos e2, wrapS (by omega)]) (back_last hw hu e (i + 1) (by omega))
theorem back_loop {w : List Nat} (hw : Wd m w) (hl : w.length ≤ 500) {s : Nat} (hs : s < n) : ∀ (e i : Nat) (b : List Int), i + e = w.length → b.length = w.length → (∀ (j : Nat) (hj : j < w.length), j < i → rd b ((w.length - 1 - j : Nat) : Int) = ((dz z ((pathZ z s w)[j]'(by rw [pathZ_len]; omega)) w[j] : Nat) : Int)) →
    Ev (fun k => mizmazelaw10_MazeBack.l0 k (toI w) (toI (pathZ z s w)) b (i : Int) z) true
  | 0, i, b, he, hb, h => by
    have hpl := pathZ_len z s w
    have e1 : b = toI (bkZ z s w) := by
      refine List.ext_getElem (by rw [toI_len, bkZ_len, hb]) fun p h1 h2 => ?_
      have h3 := h (w.length - 1 - p) (by omega) (by omega)
      have e : w.length - 1 - (w.length - 1 - p) = p := by omega
      rw [e, rdE h1] at h3
      rw [h3]
      have h4 := bkZ_at V hs hw (w.length - 1 - p) (by omega)
      simp only [e] at h4
      rw [← h4]
      simp [toI]
    subst e1
    have hp := bk_ends V hs hw
    have e2 : wrap64 (((toI (pathZ z s w)).length : Int) - 1) = ((w.length : Nat) : Int) := by
      rw [toI_len, hpl, wrapI (by omega) (by omega)]; omega
    have e3 : rd (toI (pathZ z s w)) ((w.length : Nat) : Int) = ((endZ z s w : Nat) : Int) := by
      rw [toI_rd (by omega), pathZ_last]
    refine Ev.step (fun k => by rw [mizmazelaw10_MazeBack.l0, if_neg (by rw [toI_len]; omega), e2, if_pos (by omega), if_pos (by rw [toI_len]; omega), e3]) ?_
    refine Ev.bind (walk_ev V (bkZ_wd V hs hw) (by rw [bkZ_len]; omega) (endZ_lt V hs hw)) ?_
    simp only [if_true]
    have e4 : (((toI (pathZ z (endZ z s w) (bkZ z s w))).length : Int) != ((toI (pathZ z s w)).length : Int)) = false := by
      rw [toI_len, toI_len, pathZ_len, pathZ_len, bkZ_len]; simp
    rw [e4]
    refine Ev.step (fun k => by rw [mizmazelaw10_MazeBack.j2, if_neg (by simp)]) ?_
    exact back_last V (by omega) hp.2 _ 0 (by rw [Nat.zero_add])
  | e + 1, i, b, he, hb, h => by
    have hpl := pathZ_len z s w
    have hi : i < w.length := by omega
    have hx : w[i] < m := hw _ (List.getElem_mem hi)
    have hp : (pathZ z s w)[i]'(by omega) < n := pathZ_lt V hs hw _ (List.getElem_mem _)
    have hlen := V.len
    have hrow := V.row _ hp
    have e1 : wrap64 (wrap64 (((toI w).length : Int) - 1) - (i : Int)) = ((w.length - 1 - i : Nat) : Int) := by
      rw [toI_len, wrapI (z := (w.length : Int) - 1) (by omega) (by omega), wrapI (by omega) (by omega)]; omega
    have e2 : rd (toI (pathZ z s w)) (i : Int) = (((pathZ z s w)[i]'(by omega) : Nat) : Int) := toI_rd (by omega)
    have ih := back_loop hw hl hs e (i + 1) (b.set (w.length - 1 - i) ((dz z ((pathZ z s w)[i]'(by omega)) w[i] : Nat) : Int)) (by omega) (by rw [List.length_set]; exact hb) (fun j hj hji => by
      rw [rdI_put (by omega)]
      by_cases hc : w.length - 1 - i = w.length - 1 - j
      · rw [if_pos hc]
        have : i = j := by omega
        subst this; rfl
      · rw [if_neg hc]
        exact h j hj (by omega))
    refine Ev.step (fun k => by rw [mizmazelaw10_MazeBack.l0, if_pos (by rw [toI_len]; omega), if_pos (by omega), if_pos (by rw [toI_len]; omega), e2, if_neg (by omega), if_neg (by omega), if_pos (by omega), if_pos (by omega), toI_rd hi, if_pos (by omega), if_pos (by omega), e1, if_pos (by omega), if_pos (by omega), V.f1 _ _ hp hx, Int.toNat_natCast, wrapS (by omega)]) ih
end
theorem MazeBack : Q.mizmazelaw10_MazeBack.Pure := by
  intro z a l hz ha hl
  refine Ev.rounds (g := fun k => mizmazelaw10_MazeBack.f k z a l) ?_
  unfold mizmazelaw10_MazeBack.f
  have out : Ev (fun k => mizmazelaw10_MazeBack.j0 k a l true z) true := by
    refine Ev.next ?_
    simp only [mizmazelaw10_MazeBack.j0, if_true]
    exact awake10_end
  · obtain ⟨b, hb, hv⟩ := wide_ev z
    refine Ev.bind hb ?_
    cases b with
    | true => simp only [if_true]; exact out
    | false =>
      simp only [Bool.false_eq_true, if_false]
      by_cases h5 : (l.length : Int) > 500
      · simp only [if_pos h5]; exact out
      simp only [if_neg h5]
      refine Ev.bind (ref_valid10 z) ?_
      cases hm : mvB z with
      | false => simp only [Bool.false_eq_true, if_false]; exact out
      | true =>
        have V := mvB_iff.1 hm
        generalize hn : z.length = n at V
        generalize hk : (rd_L4 z 0).length = m at V
        have h0 := V.n0
        simp only [if_true, if_pos (show 0 < (n : Int) by omega)]
        refine Ev.bind (ref_word10 (m : Int) l) ?_
        rw [decide_eq_true (by omega), Bool.true_and]
        cases hw : inB (m : Int) l with
        | false => exact out
        | true =>
          obtain ⟨w, hw', rfl⟩ := toI_of hw
          rw [toI_len] at h5
          refine Ev.next ?_
          simp only [mizmazelaw10_MazeBack.j0, Bool.not_true, Bool.false_eq_true, if_false]
          by_cases hs : 0 ≤ a ∧ a < (n : Int)
          · obtain ⟨s, rfl⟩ := Int.eq_ofNat_of_zero_le hs.1
            have hs' : s < n := by omega
            refine Ev.bind (walk_ev V hw' (by omega) hs') ?_
            have e1 : ((toI (pathZ z s w)).length : Int) = wrap64 (((toI w).length : Int) + 1) := by
              rw [toI_len, toI_len, pathZ_len, wrapS (by omega)]
            simp only [if_true, if_pos e1, if_pos (show 0 ≤ ((toI w).length : Int) by omega), Int.toNat_natCast, if_pos (show (toI w).length ≤ 35184372088832 by rw [toI_len]; omega)]
            exact back_loop V hw' (by omega) hs' w.length 0 _ (by omega) (by rw [List.length_replicate, toI_len]) (fun j hj hji => by omega)
          · refine Ev.bind (walk_arg V (fun h => hs h.1)) ?_
            simp only [show ¬ (2 : Int) = 0 by decide, if_false]
            exact awake10_end
end Go.Proofs.Ytgbjbgdnldklpaa.Pure
end
