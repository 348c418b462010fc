/- A colouring of a colouring is a colouring; whether an automaton is strongly connected, its period, its classes, its sinks and the number of its colourings are the same for all of them; Same holds both ways. (text 28 of 29) -/
import Derived.Test.YtjgdalhdiohclaaZColorAlikeh
import Derived.Test.YtjgdalhdiohclaaZColorAlikeza
import Derived.Test.YtjgdalhdiohclaaZColorAlikex
import Derived.Test.YtjgdalhdiohclaaZColorAlikez
/-! Part StmtColorAlike -/
section
namespace Go.Proofs.Ytjgdalhdiohclaa.Q
def mizmazelaw05_ColorAlike.Pure : Prop := ∀ (l0_0 : List (List Int)), ∀ (l1 : List (List Int)), ∀ (l2 : List (List Int)), RowsOk l0_0 → RowsOk l1 → RowsOk l2 → ∃ k, mizmazelaw05_ColorAlike.f k l0_0 l1 l2 = some true
end Go.Proofs.Ytjgdalhdiohclaa.Q
end
/-! Part PureColorAlike -/
section
namespace Go.Proofs.Ytjgdalhdiohclaa.Pure
open Go.RowKit Go.Proofs.YtjgdalhdiohclaaW.PrintWords Go.Proofs.YtjgdalhdiohclaaW.PrintLast Go.Proofs.YtjgdalhdiohclaaW.PrintMore Go.Proofs.Ytjgdalhdiohclaa.Q
theorem law_all {a b : List (List Int)} {n m : Nat} (V : VA a n m) (W : VA b n m) (h : ∀ s, s < n → (rd_L1 b (s : Int)).Perm (rd_L1 a (s : Int))) : Ev (fun k => mizmazelaw05_all.f k a b) true := by
 unfold mizmazelaw05_all.f
 refine Ev.bind (same_says V W) (Ev.bind (same_says W V) ?_)
 rw [decide_eq_true (SameP.of_perm V W h), decide_eq_true (SameP.of_perm W V fun s hs => (h s hs).symm)]
 simp only [if_true]
 exact Ev.now _
theorem ColorAlike : Q.mizmazelaw05_ColorAlike.Pure := by
 intro a perms others ha hp ho
 refine Ev.rounds (g := fun k => mizmazelaw05_ColorAlike.f k a perms others) ?_
 unfold mizmazelaw05_ColorAlike.f
 have aw : Ev (fun k => (mizmazelaw05_awake.f k).bind fun t => some t) true := Ev.bind awake5 (Ev.now _)
 have out : Ev (fun k => mizmazelaw05_ColorAlike.j0 k perms others true a) true := by
  refine Ev.next ?_
  simp only [mizmazelaw05_ColorAlike.j0, if_true]
  exact aw
 refine Ev.bind (ref_valid a ha) ?_
 cases va : validB a with
 | false => simp only [Bool.false_eq_true, if_false]; exact out
 | true =>
  have V := VA.of5 va
  generalize hn : a.length = n at V
  generalize hm : (rd_L1 a 0).length = m at V
  have h60 := V.n60; have hn0 := V.n0
  simp only [if_true]
  refine Ev.bind (ref_perms V perms) ?_
  by_cases hP : PermsP a perms m
  rotate_left
  ·simp only [decide_eq_false hP, Bool.false_eq_true, if_false]; exact out
  simp only [decide_eq_true hP, if_true]
  refine Ev.bind (ref_perms V others) ?_
  by_cases hO : PermsP a others m
  rotate_left
  ·simp only [decide_eq_false hO, Bool.not_false]; exact out
  simp only [decide_eq_true hO, Bool.not_true]
  have h1 := auto_colored V perms
  rw [if_pos hP] at h1
  have VB := V.colL hP
  have hab := colL_perm V hP
  generalize hb : Q.colL a perms n = b at h1 VB hab
  have hO' : PermsP b others m := ⟨by rw [VB.len, ← hn]; exact hO.1, hO.2⟩
  have h2 := auto_colored VB others
  rw [if_pos hO'] at h2
  have VC := VB.colL hO'
  have hbc := colL_perm VB hO'
  generalize hc : Q.colL b others n = c at h2 VC hbc
  have hac : ∀ s, s < n → (rd_L1 c (s : Int)).Perm (rd_L1 a (s : Int)) := fun s hs => (hbc s hs).trans (hab s hs)
  have C : Col (nx a) (nx c) n m := Col.of_perm V VC hac
  refine Ev.next ?_
  simp only [mizmazelaw05_ColorAlike.j0, Bool.false_eq_true, if_false]
  refine Ev.bind h1 (Ev.bind h2 ?_)
  simp only [if_true]
  refine Ev.bind (law_all V V fun s hs => List.Perm.refl _) ?_
  simp only [if_true]
  refine Ev.bind (law_all V VB hab) ?_
  simp only [if_true]
  refine Ev.bind (law_all VB VC hbc) ?_
  simp only [if_true]
  refine Ev.bind (law_all V VC hac) ?_
  simp only [Bool.not_true]
  refine Ev.next ?_
  simp only [mizmazelaw05_ColorAlike.j1, Bool.false_eq_true, if_false]
  have last : Ev (fun k => mizmazelaw05_ColorAlike.j4 k false a c) true := by
   refine Ev.next ?_
   simp only [mizmazelaw05_ColorAlike.j4, Bool.false_eq_true, if_false]
   have hs := net_sinks VC
   rw [← sinksTo_same C n (Nat.le_refl _)] at hs
   refine Ev.bind (net_sinks V) (Ev.bind hs ?_)
   simp only [if_true]
   have hLlen := sinksTo_len (nx a) n m n
   refine Ev.bind (ref_sames _ _ (by omega) fun r hr => by
    obtain ⟨s, _, _, rfl⟩ := sinksTo_mem hr
    have := reachTo_len (nx a) n m s
    rw [toI_len]; omega) ?_
   simp only [decide_true, Bool.not_true]
   refine Ev.next ?_
   simp only [mizmazelaw05_ColorAlike.j5, Bool.false_eq_true, if_false]
   have hk := colorings_ev VC
   rw [← waysL_same V VC hac] at hk
   refine Ev.bind (colorings_ev V) (Ev.bind hk ?_)
   simp only [if_true]
   exact aw
  by_cases hsc : SC (nx a) n m
  ·refine Ev.bind (connected_says V (b := true) ⟨fun _ => hsc, fun _ => rfl⟩) (Ev.bind (connected_says VC (b := true) ⟨fun _ => C.sc.1 hsc, fun _ => rfl⟩) ?_)
   simp only [if_true, bne_self_eq_false]
   refine Ev.next ?_
   simp only [mizmazelaw05_ColorAlike.j2, Bool.false_eq_true, if_false]
   obtain ⟨d, l, p, p1, p2, p3, p4, p5, p6, p7, p8⟩ := period_yes V hsc
   obtain ⟨d', l', p', q1, q2, q3, q4, q5, q6, q7, q8⟩ := period_yes VC (C.sc.1 hsc)
   obtain rfl : d = d' := (C.per hn0 p8).uniq q8
   obtain rfl : p = p' := by
    refine List.ext_getElem (p3.trans q3.symm) fun i h1 h2 => ?_
    have a1 := p4 i (by omega); have b1 := q4 i (by omega)
    rw [rdE h1] at a1; rw [rdE h2] at b1; rw [a1, b1, nums_alike C hn0 p6 q6 p7.dvd (by omega)]
   refine Ev.bind p1 (Ev.bind q1 ?_)
   simp only [if_true, bne_self_eq_false]
   refine Ev.next ?_
   simp only [mizmazelaw05_ColorAlike.j3, Bool.false_eq_true, if_false]
   refine Ev.bind p2 (Ev.bind q2 ?_)
   simp only [if_true]
   refine Ev.bind (ref_same _ _ (by omega)) ?_
   simp only [decide_true, Bool.not_true]
   exact last
  ·have hsc' : ¬ SC (nx c) n m := fun h => hsc (C.sc.2 h)
   refine Ev.bind (connected_says V (b := false) ⟨fun h => absurd h (by decide), fun h => absurd h hsc⟩) (Ev.bind (connected_says VC (b := false) ⟨fun h => absurd h (by decide), fun h => absurd h hsc'⟩) ?_)
   simp only [if_true, bne_self_eq_false]
   refine Ev.next ?_
   simp only [mizmazelaw05_ColorAlike.j2, Bool.false_eq_true, if_false]
   refine Ev.bind (period_no V hsc) (Ev.bind (period_no VC hsc') ?_)
   simp only [if_true, bne_self_eq_false]
   refine Ev.next ?_
   simp only [mizmazelaw05_ColorAlike.j3, Bool.false_eq_true, if_false]
   refine Ev.bind (classes_no V hsc) (Ev.bind (classes_no VC hsc') ?_)
   simp only [if_true]
   refine Ev.bind (ref_same _ _ (by simp)) ?_
   simp only [decide_true, Bool.not_true]
   exact last
end Go.Proofs.Ytjgdalhdiohclaa.Pure
end
