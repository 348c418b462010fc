/- Colored and Same return the documented results, or the documented errors, for any automata and permutations. (text 26 of 27) -/
import Derived.Test.YtjgdalhdiohclaaZColorMakesi
import Derived.Test.YtjgdalhdiohclaaZColorMakesy
import Derived.Test.YtjgdalhdiohclaaZColorMakest
/-! Part StmtColorMakes -/
section
-- Written by xrow.py, a program of this session's. Lean checks it.
namespace Go.Proofs.Ytjgdalhdiohclaa.Q
/-- What is left to prove of the law ColorMakes. -/
def mizmazelaw05_ColorMakes.Pure : Prop := ∀ (l0_0 : List (List Int)), ∀ (l1_0 : List (List Int)), ∀ (l2 : List (List Int)), RowsOk l0_0 → RowsOk l1_0 → RowsOk l2 → ∃ k, mizmazelaw05_ColorMakes.f k l0_0 l1_0 l2 = some true
end Go.Proofs.Ytjgdalhdiohclaa.Q
end
/-! Part PureColorMakes -/
section
namespace Go.Proofs.Ytjgdalhdiohclaa.Q
open Go.RowKit Go.Proofs.YtjgdalhdiohclaaW.PrintWords Go.Proofs.YtjgdalhdiohclaaW.PrintLast Go.Proofs.YtjgdalhdiohclaaW.PrintMore
theorem colored_form (a perms : List (List Int)) (h : validB a = false) : Ev (fun k => color_Colored.f k a perms) ([], 1) := by
 unfold color_Colored.f
 simp only [auto_Valid.f, h, Option.bind_some, Bool.false_eq_true, if_false]
 exact Ev.now _
theorem same_form (a b : List (List Int)) (h : (validB a && validB b) = false) : Ev (fun k => color_Same.f k a b) (false, 1) := by
 unfold color_Same.f
 simp only [auto_Valid.f, Option.bind_some]
 cases ha : validB a with
 | false =>
  simp only [Bool.false_eq_true, if_false]
  refine Ev.next ?_
  simp only [color_Same.j0, if_true]
  exact Ev.now _
 | true =>
  have hb : validB b = false := by simpa [ha] using h
  simp only [hb, Bool.not_false, if_true]
  refine Ev.next ?_
  simp only [color_Same.j0, if_true]
  exact Ev.now _
end Go.Proofs.Ytjgdalhdiohclaa.Q
namespace Go.Proofs.Ytjgdalhdiohclaa.Pure
open Go.RowKit Go.Proofs.YtjgdalhdiohclaaW.PrintWords Go.Proofs.YtjgdalhdiohclaaW.PrintLast Go.Proofs.YtjgdalhdiohclaaW.PrintMore Go.Proofs.Ytjgdalhdiohclaa.Q
theorem ColorMakes : Q.mizmazelaw05_ColorMakes.Pure := by
 intro a b perms ha hb hp
 refine Ev.rounds (g := fun k => mizmazelaw05_ColorMakes.f k a b perms) ?_
 unfold mizmazelaw05_ColorMakes.f
 have aw : Ev (fun k => (mizmazelaw05_awake.f k).bind fun t => some t) true := Ev.bind awake5 (Ev.now _)
 have j1 : ∀ x : Bool × Int, Ev (fun k => color_Same.f k a b) x → (∀ x1 x2, x = (x1, x2) → Ev (fun k => mizmazelaw05_ColorMakes.j1 k x1 x2 false a b) true) := by
  rintro ⟨x1, x2⟩ hx _ _ ⟨⟩
  refine Ev.next ?_
  simp only [mizmazelaw05_ColorMakes.j1, Bool.false_eq_true, if_false]
  refine Ev.bind (ref_valid a ha) ?_
  cases va : validB a with
  | false =>
   have h1 := Ev.unique (same_form a b (by simp [va])) hx
   obtain ⟨rfl, rfl⟩ := Prod.mk.inj h1
   simp only [Bool.false_eq_true, if_false]
   refine Ev.next ?_
   simp only [mizmazelaw05_ColorMakes.j2, if_true, Bool.false_eq_true, if_false]
   exact aw
  | true =>
   simp only [if_true]
   refine Ev.bind (ref_valid b hb) ?_
   cases vb : validB b with
   | false =>
    have h1 := Ev.unique (same_form a b (by simp [vb])) hx
    obtain ⟨rfl, rfl⟩ := Prod.mk.inj h1
    simp only [Bool.not_false]
    refine Ev.next ?_
    simp only [mizmazelaw05_ColorMakes.j2, if_true, Bool.false_eq_true, if_false]
    exact aw
   | true =>
    have h1 := Ev.unique (same_says (VA.of5 va) (VA.of5 vb)) hx
    obtain ⟨rfl, rfl⟩ := Prod.mk.inj h1
    simp only [Bool.not_true]
    refine Ev.next ?_
    simp only [mizmazelaw05_ColorMakes.j2, if_true, Bool.false_eq_true, if_false]
    refine Ev.bind (ref_same5 (VA.of5 va) (VA.of5 vb)) ?_
    simp only [beq_self_eq_true, if_true]
    exact aw
 have j0 : ∀ (e : Int) (c : List (List Int)) (x : Bool × Int), Ev (fun k => color_Same.f k a b) x → c.length ≤ 1000 → (∀ r ∈ c, r.length ≤ 1000) → Ev (fun k => mizmazelaw05_ColorMakes.j0 k e x.1 x.2 e a b c c) true := by
  intro e c x hx hc hr
  refine Ev.next ?_
  simp only [mizmazelaw05_ColorMakes.j0, if_true]
  refine Ev.bind (ref_sames c c (by omega) (fun r h => by have := hr r h; omega)) ?_
  simp only [decide_true, Bool.not_true]
  exact j1 x hx _ _ rfl
 obtain ⟨x, hx⟩ : ∃ x, Ev (fun k => color_Same.f k a b) x := by
  cases h : validB a && validB b with
  | false => exact ⟨_, same_form a b h⟩
  | true =>
   rw [Bool.and_eq_true] at h
   exact ⟨_, same_says (VA.of5 h.1) (VA.of5 h.2)⟩
 cases va : validB a with
 | false =>
  refine Ev.bind (colored_form a perms va) (Ev.bind hx (Ev.bind (va ▸ ref_valid a ha) ?_))
  simp only [Bool.false_eq_true, if_false]
  exact j0 1 [] x hx (by simp) (by simp)
 | true =>
  have V := VA.of5 va
  have h1 := auto_colored V perms
  by_cases hP : PermsP a perms (rd_L1 a 0).length
  ·rw [if_pos hP] at h1
   refine Ev.bind h1 (Ev.bind hx (Ev.bind (va ▸ ref_valid a ha) ?_))
   simp only [if_true]
   refine Ev.bind (ref_perms V perms) ?_
   simp only [decide_eq_true hP, if_true]
   refine Ev.bind (ref_colored V hP) ?_
   have h60 := V.n60
   refine j0 0 _ x hx (by rw [colL_len]; omega) fun r hr => ?_
   obtain ⟨i, hi, rfl⟩ := List.getElem_of_mem hr
   rw [colL_len] at hi
   have h2 := colL_at a perms a.length i hi
   rw [rdLE (by rw [colL_len]; exact hi)] at h2
   rw [h2]
   have h3 := hP.2 i (by rw [hP.1]; exact hi)
   have h4 := V.m6
   simp only [colRow, List.length_map, h3.1]
   omega
  ·rw [if_neg hP] at h1
   refine Ev.bind h1 (Ev.bind hx (Ev.bind (va ▸ ref_valid a ha) ?_))
   simp only [if_true]
   refine Ev.bind (ref_perms V perms) ?_
   simp only [decide_eq_false hP, Bool.false_eq_true, if_false]
   exact j0 2 [] x hx (by simp) (by simp)
end Go.Proofs.Ytjgdalhdiohclaa.Pure
end
