/- In any colouring of a strongly connected automaton of period d, any word leads from all states to at least d states; if d is greater than 1 there is no reset word, and Road returns ErrNone. (text 30 of 31) -/
import Derived.Test.YtjgdalhdiohclaaZColorPeriodsj
import Derived.Test.YtjgdalhdiohclaaZColorPeriodszc
import Derived.Test.YtjgdalhdiohclaaZColorPeriodsl
import Derived.Test.YtjgdalhdiohclaaZColorPeriodsza
import Derived.Test.YtjgdalhdiohclaaZColorPeriodsw
/-! Part StmtColorPeriods -/
section
namespace Go.Proofs.Ytjgdalhdiohclaa.Q
def mizmazelaw05_ColorPeriods.Pure : Prop := ∀ (l0_0 : List (List Int)), ∀ (l1 : List (List Int)), ∀ (l2 : List Int), RowsOk l0_0 → RowsOk l1 → IntsOk l2 → ∃ k, mizmazelaw05_ColorPeriods.f k l0_0 l1 l2 = some true
end Go.Proofs.Ytjgdalhdiohclaa.Q
end
/-! Part PureColorPeriods -/
section
namespace Go.Proofs.Ytjgdalhdiohclaa.Pure
open Go.RowKit Go.Proofs.YtjgdalhdiohclaaW.PrintWords Go.Proofs.YtjgdalhdiohclaaW.PrintLast Go.Proofs.YtjgdalhdiohclaaW.PrintMore Go.Proofs.Ytjgdalhdiohclaa.Q
theorem ref_word5 {rows : List (List Int)} {n m : Nat} (V : VA rows n m) (l : List Int) : Ev (fun k => mizmazeref01_Word.f k rows l) (decide (l.length ≤ 40000) && inB (m : Int) l) := by
 unfold mizmazeref01_Word.f
 by_cases h : l.length ≤ 40000
 ·simp only [if_pos (by omega : (l.length : Int) ≤ 40000), V.letters, Option.bind_some]
  rw [decide_eq_true h, Bool.true_and]
  exact Ev.bind (ref_below _ _ (by omega)) (Ev.now _)
 ·simp only [if_neg (by omega : ¬ (l.length : Int) ≤ 40000)]
  rw [decide_eq_false h, Bool.false_and]; exact Ev.now _
theorem road_none {rows : List (List Int)} {d : Int} (h : Ev (fun k => net_Period.f k rows) (d, 0)) (hd : 1 < d) : Ev (fun k => color_Road.f k rows) ([], [], 4) := by
 unfold color_Road.f
 refine Ev.bind h ?_
 simp only [if_true, if_pos hd]
 exact Ev.now _
theorem ColorPeriods : Q.mizmazelaw05_ColorPeriods.Pure := by
 intro a perms word ha hp hwo
 refine Ev.rounds (g := fun k => mizmazelaw05_ColorPeriods.f k a perms word) ?_
 unfold mizmazelaw05_ColorPeriods.f
 have aw : Ev (fun k => (mizmazelaw05_awake.f k).bind fun t => some t) true := Ev.bind awake5 (Ev.now _)
 have out : Ev (fun k => mizmazelaw05_ColorPeriods.j0 k perms word true a) true := by
  refine Ev.next ?_
  simp only [mizmazelaw05_ColorPeriods.j0, if_true]
  exact aw
 refine Ev.bind (ref_valid a ha) ?_
 cases va : validB a with
 | false => simp only [Bool.false_eq_true, if_false]; exact out
 | true =>
  have V := VA.of5 va
  generalize hn : a.length = n at V
  generalize hm : (rd_L1 a 0).length = m at V
  have h60 := V.n60; have hn0 := V.n0
  simp only [if_true]
  refine Ev.bind (ref_perms V perms) ?_
  by_cases hP : PermsP a perms m
  rotate_left
  ·simp only [decide_eq_false hP, Bool.false_eq_true, if_false]; exact out
  simp only [decide_eq_true hP, if_true]
  refine Ev.bind (ref_word5 V word) ?_
  by_cases hwl : word.length ≤ 40000
  rotate_left
  ·rw [decide_eq_false hwl, Bool.false_and]; exact out
  rw [decide_eq_true hwl, Bool.true_and]
  cases hib : inB (m : Int) word with
  | false => exact out
  | true =>
   obtain ⟨w, hwd, rfl⟩ := toI_of hib
   rw [toI_len] at hwl
   refine Ev.next ?_
   simp only [mizmazelaw05_ColorPeriods.j0, Bool.not_true, Bool.false_eq_true, if_false]
   by_cases hc : SC (nx a) n m
   rotate_left
   ·refine Ev.bind (period_no V hc) ?_
    simp only [if_neg (by decide : ¬ (2 : Int) = 0)]
    exact aw
   obtain ⟨d, l, c, p1, _, _, _, p5, p6, p7, p8⟩ := period_yes V hc
   refine Ev.bind p1 ?_
   simp only [if_true]
   have h1 := auto_colored V perms
   rw [if_pos hP] at h1
   have C := Col.colL V hP
   have VB := V.colL hP
   generalize hb : Q.colL a perms n = b at h1 C VB
   have hcb : SC (nx b) n m := C.sc.1 hc
   obtain ⟨d', l', c', q1, _, _, _, q5, q6, q7, q8⟩ := period_yes VB hcb
   obtain rfl : d = d' := (C.per hn0 p8).uniq q8
   have hI : ∀ t, t < n → ((run (nx b) t w : Nat) : Int) ∈ tidy (toI ((List.range n).map fun s => run (nx b) s w)) := fun t ht => tidy_mem.2 (by
    unfold toI; rw [List.map_map]
    exact List.mem_map.2 ⟨t, List.mem_range.2 ht, rfl⟩)
   have hmet := class_met VB q6.zero q7.dvd
   have hmany := classes_many (fun s x hs hx => VB.nxLt hs hx) q7.dvd hmet hwd hI
   refine Ev.bind h1 (Ev.bind (by rw [hn]; exact ref_all n (by omega)) (Ev.bind (auto_image VB (q := List.range n) (fun x hx => List.mem_range.1 hx) List.pairwise_lt_range (by rw [List.length_range]; omega) hwd hwl) ?_))
   simp only [if_true]
   refine Ev.next ?_
   rw [decide_eq_false (by omega)]
   simp only [mizmazelaw05_ColorPeriods.j1, Bool.false_eq_true, if_false]
   by_cases hd1 : d = 1
   ·simp only [if_pos (by omega : (d : Int) = 1)]
    exact aw
   ·simp only [if_neg (by omega : ¬ (d : Int) = 1)]
    obtain ⟨r, hr, hre⟩ := reset_ev VB
    refine Ev.bind hre (Ev.bind (road_none q1 (by omega)) ?_)
    rcases hr with ⟨v, hv, rfl, hall, _⟩ | ⟨rfl, _⟩
    ·exfalso
     obtain ⟨t, ht, e1⟩ := hmet 0
     obtain ⟨t', ht', e2⟩ := hmet 1
     have := class_led (fun s x hs hx => VB.nxLt hs hx) q7.dvd hv (by omega) (by omega) ht ht' e1 e2 (hall t t' ht ht')
     omega
    ·simp only [if_true]
     exact aw
end Go.Proofs.Ytjgdalhdiohclaa.Pure
end
