/- NetSinks returns true for every input of its row; no further conditions. (text 14 of 15) -/
import Derived.Test.YtjgdalhdiohclaaZNetSinksh
import Derived.Test.YtjgdalhdiohclaaZNetSinksm
import Derived.Test.YtjgdalhdiohclaaZNetSinksi
/-! Part StmtNetSinks -/
section
-- Written by xrow.py, a program of this session's. Lean checks it.
namespace Go.Proofs.Ytjgdalhdiohclaa.Q
/-- What is left to prove of the law NetSinks. -/
def mizmazelaw02_NetSinks.Pure : Prop := ∀ (l0_0 : List (List Int)), RowsOk l0_0 → ∃ k, mizmazelaw02_NetSinks.f k l0_0 = some true
end Go.Proofs.Ytjgdalhdiohclaa.Q
end
/-! Part PureNetSinks -/
section
namespace Go.Proofs.Ytjgdalhdiohclaa.Pure
open Go.RowKit Go.Proofs.YtjgdalhdiohclaaW.PrintWords Go.Proofs.YtjgdalhdiohclaaW.PrintLast Go.Proofs.YtjgdalhdiohclaaW.PrintMore Go.Proofs.Ytjgdalhdiohclaa.Q
theorem NetSinks : Q.mizmazelaw02_NetSinks.Pure := by
  intro rows ho
  refine Ev.rounds (g := fun k => mizmazelaw02_NetSinks.f k rows) ?_
  unfold mizmazelaw02_NetSinks.f
  have aw : ∀ b : Bool, b = true → Ev (fun k => if b = true then ((mizmazelaw02_awake.f k).bind fun t => some t) else some false) true := by
    intro b hb; subst hb; simp only [if_true]; exact Ev.bind awake2 (Ev.now _)
  cases hv : validB rows with
  | false =>
    have h1 : Ev (fun k => net_Sinks.f k rows) ([], 1) := by
      unfold net_Sinks.f; simp only [auto_Valid.f, hv, Option.bind_some, Bool.false_eq_true, if_false]; exact Ev.now _
    have h2 : Ev (fun k => net_Period.f k rows) (0, 1) := by
      unfold net_Period.f; simp only [auto_Valid.f, hv, Option.bind_some, Bool.false_eq_true, if_false]; exact Ev.now _
    have h3 : Ev (fun k => net_Classes.f k rows) ([], 1) := by
      unfold net_Classes.f
      refine Ev.bind h2 ?_
      simp only [if_neg (by decide : ¬ (1 : Int) = 0)]; exact Ev.now _
    refine Ev.bind h1 (Ev.bind h2 (Ev.bind h3 (Ev.bind (hv ▸ ref_valid rows ho) ?_)))
    simp only [Bool.false_eq_true, if_false, if_true, List.length_nil, Int.natCast_zero]
    exact Ev.bind awake2 (Ev.now _)
  | true =>
    have V := VA.of hv
    have h60 := V.n60
    have hLlen := sinksTo_len (nx rows) rows.length (rd_L1 rows 0).length rows.length
    obtain ⟨b, hb1, hb2⟩ := ref_connected V
    have sames : Ev (fun k => mizmazeref01_Sames.f k (sinksTo (nx rows) rows.length (rd_L1 rows 0).length rows.length) (sinksTo (nx rows) rows.length (rd_L1 rows 0).length rows.length)) true := by
      refine Ev.eq (ref_sames _ _ (by omega) fun r hr => ?_) (decide_eq_true rfl)
      obtain ⟨s, _, _, rfl⟩ := sinksTo_mem hr
      have := reachTo_len (nx rows) rows.length (rd_L1 rows 0).length s
      rw [toI_len]; omega
    refine Ev.bind (net_sinks V) ?_
    by_cases hc : SC (nx rows) rows.length (rd_L1 rows 0).length
    · obtain rfl := hb2.2 hc
      obtain ⟨d, l, c, p1, p2, p3, p4, p5, p6, p7, p8⟩ := period_yes V hc
      obtain ⟨e, e1, e2, e3⟩ := ref_period V
      obtain rfl : e = d := Nat.dvd_antisymm (p8.max e e2) (e3 d fun k _ _ hk => p8.dvd k hk)
      obtain ⟨c', c1, c2, c3⟩ := ref_classes V p6 p7 p5 e1
      obtain rfl : c = c' := by
        refine List.ext_getElem (p3.trans c2.symm) fun i h1 h2 => ?_
        have a := p4 i (by omega); have b := c3 i (by omega)
        rw [rdE h1] at a; rw [rdE h2] at b; rw [a, b]
      refine Ev.bind p1 (Ev.bind p2 (Ev.bind (hv ▸ ref_valid rows ho) ?_))
      simp only [if_true]
      refine Ev.bind (ref_sinks V) (Ev.bind sames ?_)
      refine Ev.next ?_
      simp only [mizmazelaw02_NetSinks.j0, Bool.not_true, Bool.false_eq_true, if_false]
      refine Ev.bind hb1 ?_
      simp only [if_true]
      refine Ev.bind e1 ?_
      simp only [if_true]
      refine Ev.bind c1 ?_
      refine Ev.bind (ref_same _ _ (by omega)) ?_
      exact aw _ (decide_eq_true rfl)
    · obtain rfl := not_sc_of hb2 hc
      refine Ev.bind (period_no V hc) (Ev.bind (classes_no V hc) (Ev.bind (hv ▸ ref_valid rows ho) ?_))
      simp only [if_true]
      refine Ev.bind (ref_sinks V) (Ev.bind sames ?_)
      refine Ev.next ?_
      simp only [mizmazelaw02_NetSinks.j0, Bool.not_true, Bool.false_eq_true, if_false]
      refine Ev.bind hb1 ?_
      simp only [Bool.false_eq_true, if_false, if_true, List.length_nil, Int.natCast_zero]
      exact Ev.bind awake2 (Ev.now _)
end Go.Proofs.Ytjgdalhdiohclaa.Pure
end
