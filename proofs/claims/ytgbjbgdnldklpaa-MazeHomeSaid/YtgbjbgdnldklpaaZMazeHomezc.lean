/- Whatever connected maze of the size there is, and wherever one begins, what Universal returns visits all of its rooms, also with letters before it and behind it; it is proved for every input, without conditions. (text 29 of 30) -/
import Derived.Test.YtgbjbgdnldklpaaZMazeHomen
import Derived.Test.YtgbjbgdnldklpaaZMazeHomeo
import Derived.Test.YtgbjbgdnldklpaaZMazeHomezb
import Derived.Test.YtgbjbgdnldklpaaZMazeHomeza
import Derived.Test.YtgbjbgdnldklpaaZMazeHomey
import Derived.Test.YtgbjbgdnldklpaaZMazeHomev
/-! Part StmtMazeHome -/
section
-- Written by xrow.py, a program of this session's. Lean checks it.
namespace Go.Proofs.Ytgbjbgdnldklpaa.Q
/-- What is left to prove of the law MazeHome. -/
def mizmazelaw10_MazeHome.Pure : Prop := ∀ (l0_0 : List (List S44)), ∀ (a1 : Int), ∀ (a2 : Int), ∀ (l3 : List Int), ∀ (l4 : List Int), MazeOk l0_0 → (0 ≤ a1 ∧ a1 ≤ 255) → (-9223372036854775808 ≤ a2 ∧ a2 ≤ 9223372036854775807) → IntsOk l3 → IntsOk l4 → ∃ k, mizmazelaw10_MazeHome.f k l0_0 a1 a2 l3 l4 = some true
end Go.Proofs.Ytgbjbgdnldklpaa.Q
end
/-! Part PureMazeHome -/
section
namespace Go.Proofs.Ytgbjbgdnldklpaa.Pure
open Go.RowKit Go.Proofs.YtgbjbgdnldklpaaW.PrintWords Go.Proofs.YtgbjbgdnldklpaaW.PrintLast Go.Proofs.YtgbjbgdnldklpaaW.PrintMore Go.Proofs.Ytgbjbgdnldklpaa.Q
set_option linter.unusedVariables false
set_option linter.unusedSectionVars false
set_option linter.unusedSimpArgs false
theorem MazeHome : Q.mizmazelaw10_MazeHome.Pure := by
 intro z more a bef beh hz hm0 ha hbef hbeh
 refine Ev.rounds (g := fun k => mizmazelaw10_MazeHome.f k z more a bef beh) ?_
 unfold mizmazelaw10_MazeHome.f
 have out : Ev (fun k => mizmazelaw10_MazeHome.j0 k more a bef beh true z) true := by
  refine Ev.next ?_
  simp only [mizmazelaw10_MazeHome.j0, if_true]
  exact awake10_end
 obtain ⟨b, hb, hv⟩ := wide_ev z
 refine Ev.bind hb ?_
 cases b with
 | true => simp only [if_true]; exact out
 | false =>
  simp only [Bool.false_eq_true, if_false]
  refine Ev.bind (ref_valid10 z) ?_
  cases hm : mvB z with
  | false => simp only [Bool.false_eq_true, if_false]; exact out
  | true =>
   simp only [if_true]
   by_cases h3 : (bef.length : Int) > 200
   ·simp only [if_pos h3]; exact out
   simp only [if_neg h3]
   by_cases h4 : (beh.length : Int) > 200
   ·rw [decide_eq_true h4]; exact out
   rw [decide_eq_false h4]
   have V := mvB_iff.1 hm
   generalize hn : z.length = n at V
   generalize hk : (rd_L4 z 0).length = m at V
   have h0 := V.n0
   have h60 := V.n60
   have k0 := V.k0
   have k6 := V.k6
   obtain ⟨mo, rfl⟩ := Int.eq_ofNat_of_zero_le hm0.1
   have e0 : wrap64 ((n : Int) + (Int.tmod (wrap64 (mo : Int)) 2)) = ((n + mo % 2 : Nat) : Int) := by
    rw [wrapI (z := (mo : Int)) (by omega) (by omega), Int.tmod_eq_emod_of_nonneg (by omega), wrapI (by omega) (by omega)]; omega
   refine Ev.next ?_
   simp only [mizmazelaw10_MazeHome.j0, Bool.false_eq_true, if_false, hn, hk, if_pos (show (0 : Int) < (n : Int) by omega), e0]
   have hmo : mo % 2 < 2 := Nat.mod_lt _ (by decide)
   generalize mo % 2 = p at hmo ⊢
   by_cases hf : fitsP ((n + p : Nat) : Int) (m : Int)
   ·simp only [fits_good hf, Option.bind_some, if_true]
    obtain ⟨n', d', e1, e2, hn', hd', h6', hN'⟩ := fits_nat hf
    obtain rfl : n' = n + p := by omega
    obtain rfl : d' = m := by omega
    obtain ⟨w, hw, hl, hU, hE⟩ := univ_word hn' hd' h6' hN'
    obtain ⟨c, hc1, hc2, hc3⟩ := conn_both V
    refine Ev.bind hc1 (Ev.bind hE ?_)
    simp only [if_true, bne_self_eq_false]
    refine Ev.next ?_
    simp only [mizmazelaw10_MazeHome.j1, Bool.false_eq_true, if_false]
    have fin : Ev (fun k => mizmazelaw10_MazeHome.j2 k a bef beh (toI w) true z) true := by
     refine Ev.next ?_
     simp only [mizmazelaw10_MazeHome.j2, if_true]
     exact awake10_end
    cases c with
    | false => simp only [Bool.false_eq_true, if_false]; exact fin
    | true =>
     simp only [if_true]
     by_cases h1 : a < 0
     ·simp only [if_pos h1]; exact fin
     simp only [if_neg h1, hn]
     by_cases h2 : a ≥ (n : Int)
     ·simp only [if_pos h2]; exact fin
     simp only [if_neg h2]
     obtain ⟨s, rfl⟩ := Int.eq_ofNat_of_zero_le (show 0 ≤ a by omega)
     have hs : s < n := by omega
     refine Ev.bind (ref_word10 (d' : Int) bef) ?_
     by_cases c3 : (decide (bef.length ≤ 40000) && inB (d' : Int) bef) = true
     ·simp only [c3, if_true]
      refine Ev.bind (ref_word10 (d' : Int) beh) ?_
      by_cases c4 : (decide (beh.length ≤ 40000) && inB (d' : Int) beh) = true
      ·simp only [c4, Bool.not_true]
       rw [Bool.and_eq_true] at c3 c4
       obtain ⟨u, hu, rfl⟩ := toI_of c3.2
       obtain ⟨v, hv2, rfl⟩ := toI_of c4.2
       rw [toI_len] at h3 h4
       have hNn : n * d' ≤ 12 := Nat.le_trans (Nat.mul_le_mul_right d' (by omega)) hN'
       have hall := fun {s0 : Nat} (hs0 : s0 < n) => uni_visits V hNn (show n ≤ n + p by omega) hw hU (hc3.1 rfl) hs0
       obtain ⟨r1, hr1, hr1'⟩ := visits_ev V hw (by omega) hs
       obtain ⟨r2, hr2, hr2'⟩ := visits_ev V ((hu.app hw).app hv2) (by rw [List.length_append, List.length_append]; omega) hs
       have t1 := hr1'.2 (hall hs)
       have t2 := hr2'.2 fun t ht => pathZ_mid (hall (endZ_lt V hs hu) t ht)
       subst t1 t2
       refine Ev.next ?_
       simp only [mizmazelaw10_MazeHome.j2, Bool.false_eq_true, if_false]
       refine Ev.bind hr1 ?_
       have eapp : toI u ++ toI w ++ toI v = toI (u ++ w ++ v) := by simp [toI]
       simp only [Option.bind_some, List.nil_append, List.length_nil, List.length_append, toI_len, if_pos (show 0 + u.length < 17592186044416 by omega), if_pos (show 0 + u.length + w.length < 17592186044416 by omega), if_pos (show 0 + u.length + w.length + v.length < 17592186044416 by omega), eapp]
       refine Ev.bind hr2 ?_
       simp only [if_neg (show ¬ ((0 + u.length + w.length + v.length : Nat) : Int) > 40000 by omega), if_true]
       exact awake10_end
      ·simp only [c4, Bool.not_false]; exact fin
     ·simp only [c3]; exact fin
   ·simp only [fits_bad hf, Option.bind_some, Bool.false_eq_true, if_false]
    exact awake10_end
end Go.Proofs.Ytgbjbgdnldklpaa.Pure
end
