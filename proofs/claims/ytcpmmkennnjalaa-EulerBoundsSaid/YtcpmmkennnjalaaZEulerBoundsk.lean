/- The length of the shortest reset word of an automaton of at most MaxSmall states is at most Bound; the word that Reset returns has at most (n^3 - n) / 6 letters, and Bound does not say more. (text 11 of 37) -/
import Derived.Test.YtcpmmkennnjalaaZEulerBoundsh
import Derived.Test.YtcpmmkennnjalaaZEulerBoundsi
import Derived.Test.YtcpmmkennnjalaaZEulerBoundsg
section
namespace Go.Proofs.Ytcpmmkennnjalaa.Q
open Go.RowKit Go.Proofs.YtcpmmkennnjalaaW.PrintWords Go.Proofs.YtcpmmkennnjalaaW.PrintLast Go.Proofs.YtcpmmkennnjalaaW.PrintMore
set_option linter.unusedVariables false
theorem ref_has (l : List Int) (z : Int) (hl : l.length ≤ 9223372036854775806) : Ev (fun k => mizmazeref01_Has.f k l z) (decide (z ∈ l)) := by
  unfold mizmazeref01_Has.f
  refine @Ev.every Bool (fun k i => mizmazeref01_Has.l0 k l z (i : Int)) l.length false true _ (fun i => decide (rd l (i : Int) ≠ z)) ?_ ?_ ?_ ?_ ?_
  · intro h
    rw [decide_eq_false_iff_not]
    intro hz
    obtain ⟨i, hi, e⟩ := List.getElem_of_mem hz
    have := of_decide_eq_true (h i hi)
    rw [rdE hi] at this; exact this e
  · intro i hi h
    have h2 := of_decide_eq_false h
    rw [rdE hi] at h2
    rw [decide_eq_true_eq, ← Classical.not_not.1 h2]; exact List.getElem_mem hi
  · intro i hi hp hr
    refine Ev.next ?_
    simp only [mizmazeref01_Has.l0, if_pos (by omega : (i : Int) < (l.length : Int)), if_pos (by omega : (0 : Int) ≤ (i : Int)), if_neg (of_decide_eq_true hp), wrapS (by omega : i + 1 ≤ 9223372036854775807)]
    exact hr
  · intro i hi hp
    refine Ev.next ?_
    simp only [mizmazeref01_Has.l0, if_pos (by omega : (i : Int) < (l.length : Int)), if_pos (by omega : (0 : Int) ≤ (i : Int)), if_pos (Classical.not_not.1 (of_decide_eq_false hp))]
    exact Ev.now _
  · refine Ev.next ?_
    simp only [mizmazeref01_Has.l0, if_neg (by omega : ¬ (l.length : Int) < (l.length : Int))]
    exact Ev.now _
end Go.Proofs.Ytcpmmkennnjalaa.Q
end
section
namespace Go.Proofs.Ytcpmmkennnjalaa.Q
open Go.RowKit Go.Proofs.YtcpmmkennnjalaaW.PrintWords Go.Proofs.YtcpmmkennnjalaaW.PrintLast Go.Proofs.YtcpmmkennnjalaaW.PrintMore
set_option linter.unusedVariables false
theorem toI_rd {w : List Nat} {i : Nat} (h : i < w.length) : rd (toI w) (i : Int) = ((w[i] : Nat) : Int) := by
  rw [rdE (by rw [toI_len]; exact h)]; simp [toI]
theorem auto_lead {rows : List (List Int)} {n m s : Nat} (V : VA rows n m) (hs : s < n) {w : List Nat} (hw : Wd m w) (hl : w.length ≤ 1000000) : Ev (fun k => auto_Lead.f k rows (s : Int) (toI w)) ((run (nx rows) s w : Nat) : Int) := by
  have hlen := V.len
  have key : ∀ (d i u : Nat), i + d = w.length → u < n → Ev (fun k => auto_Lead.l0 k (u : Int) (toI w) (w.length : Int) (i : Int) rows) ((run (nx rows) u (w.drop i) : Nat) : Int) := by
    intro d
    induction d with
    | zero =>
      intro i u hi hu
      refine Ev.next ?_
      simp only [auto_Lead.l0, if_neg (by omega : ¬ (i : Int) < (w.length : Int))]
      rw [List.drop_eq_nil_of_le (by omega)]
      exact Ev.now _
    | succ d ih =>
      intro i u hi hu
      have hil : i < w.length := by omega
      have hx := hw w[i] (List.getElem_mem hil)
      have hrow := V.row u hu
      refine Ev.next ?_
      simp only [auto_Lead.l0, if_pos (by omega : (i : Int) < (w.length : Int)), if_pos (by omega : (0 : Int) ≤ (i : Int)), toI_len, if_pos (by omega : (0 : Int) ≤ (u : Int)), if_pos (by omega : (u : Int) < (rows.length : Int)), toI_rd hil, if_pos (by omega : (0 : Int) ≤ ((w[i] : Nat) : Int)), if_pos (by omega : ((w[i] : Nat) : Int) < ((rd_L1 rows (u : Int)).length : Int)), V.nxE hu hx, wrapS (by omega : i + 1 ≤ 9223372036854775807)]
      rw [List.drop_eq_getElem_cons hil]
      exact ih (i + 1) _ (by omega) (V.nxLt hu hx)
  unfold auto_Lead.f
  rw [toI_len]
  exact key w.length 0 s (by omega) hs
end Go.Proofs.Ytcpmmkennnjalaa.Q
end
section
namespace Go.Proofs.Ytcpmmkennnjalaa.Q
open Go.RowKit Go.Proofs.YtcpmmkennnjalaaW.PrintWords Go.Proofs.YtcpmmkennnjalaaW.PrintLast Go.Proofs.YtcpmmkennnjalaaW.PrintMore
set_option linter.unusedVariables false
end Go.Proofs.Ytcpmmkennnjalaa.Q
end
section
namespace Go.Proofs.Ytcpmmkennnjalaa.Pure
open Go.RowKit Go.Proofs.YtcpmmkennnjalaaW.PrintWords Go.Proofs.YtcpmmkennnjalaaW.PrintLast Go.Proofs.YtcpmmkennnjalaaW.PrintMore Go.Proofs.Ytcpmmkennnjalaa.Q
set_option linter.unusedVariables false
set_option linter.unusedSimpArgs false
/-- the states that one letter leads through, from the first one on -/
def wy (rows : List (List Int)) (x : Nat) : Nat → Nat
  | 0 => 0
  | i + 1 => nx rows (wy rows x i) x
/-- one cycle through all states -/
def Cyc (rows : List (List Int)) (n x : Nat) : Prop := wy rows x n = 0 ∧ ∀ j, 0 < j → j < n → wy rows x j ≠ 0
theorem mem_toIE {z : Nat} {l : List Nat} : (z : Int) ∈ toI l ↔ z ∈ l := by
  unfold toI
  rw [List.mem_map]
  constructor
  · rintro ⟨y, hy, e⟩
    obtain rfl : y = z := Int.ofNat.inj e
    exact hy
  · exact fun h => ⟨z, h, rfl⟩
theorem toI_appE (l l' : List Nat) : toI (l ++ l') = toI l ++ toI l' := by unfold toI; rw [List.map_append]
theorem wy_add {rows : List (List Int)} {x a b : Nat} (h : wy rows x a = wy rows x b) : ∀ d, wy rows x (a + d) = wy rows x (b + d)
  | 0 => h
  | d + 1 => by
    show nx rows (wy rows x (a + d)) x = nx rows (wy rows x (b + d)) x
    rw [wy_add h d]
section
variable {rows : List (List Int)} {n m : Nat} (V : VA rows n m)
include V
theorem wy_lt {x : Nat} (hx : x < m) : ∀ i, wy rows x i < n
  | 0 => V.n0
  | i + 1 => V.nxLt (wy_lt hx i) hx
theorem cycle_ev {x : Nat} (hx : x < m) {b : Bool} (hb : b = true ↔ Cyc rows n x) : Ev (fun k => euler_cycle.f k rows (x : Int)) b := by
  have h60 := V.n60
  have hlen := V.len
  have hn0 := V.n0
  have key : ∀ d i : Nat, i + d = n + 1 → 0 < i → (∀ j, 0 < j → j < i → wy rows x j ≠ 0) → Ev (fun k => euler_cycle.l0 k (x : Int) ((wy rows x i : Nat) : Int) (i : Int) rows) b := by
    intro d
    induction d with
    | zero =>
      intro i hi h0 hj
      have e : b = false := by
        cases hbb : b with
        | false => rfl
        | true => exact absurd (hb.1 hbb).1 (hj n hn0 (by omega))
      by_cases hz : wy rows x i = 0
      · refine Ev.step (f := fun _ => some ((i : Int) == (rows.length : Int))) (fun k => by rw [euler_cycle.l0, if_pos (by omega)]) (Ev.ret ?_)
        rw [e]; simp; omega
      · refine Ev.step (f := fun _ => some ((i : Int) == (rows.length : Int))) (fun k => by rw [euler_cycle.l0, if_neg (by omega), if_neg (by omega)]) (Ev.ret ?_)
        rw [e]; simp; omega
    | succ d ih =>
      intro i hi h0 hj
      by_cases hz : wy rows x i = 0
      · refine Ev.step (f := fun _ => some ((i : Int) == (rows.length : Int))) (fun k => by rw [euler_cycle.l0, if_pos (by omega)]) (Ev.ret ?_)
        rw [Bool.eq_iff_iff, hb, hlen, beq_iff_eq]
        constructor
        · intro h
          obtain rfl : i = n := by omega
          exact ⟨hz, hj⟩
        · intro h
          rcases Nat.lt_trichotomy i n with h1 | h1 | h1
          · exact absurd hz (h.2 i h0 h1)
          · omega
          · exact absurd h.1 (hj n hn0 h1)
      · have hw := wy_lt V hx i
        have hr := V.row _ hw
        refine Ev.step (f := fun k => euler_cycle.l0 k (x : Int) ((wy rows x (i + 1) : Nat) : Int) ((i + 1 : Nat) : Int) rows) (fun k => ?_) (ih (i + 1) (by omega) (by omega) fun j h1 h2 => ?_)
        · rw [euler_cycle.l0, if_neg (by omega), if_pos (by omega), if_pos (by omega), if_pos (by omega), if_pos (by omega), if_pos (by omega), V.nxE hw hx, wrapS (by omega)]
          rfl
        · rcases Nat.lt_or_ge j i with h3 | h3
          · exact hj j h1 h3
          · obtain rfl : j = i := by omega
            exact hz
  have hr : (rd_L1 rows (0 : Int)).length = m := V.row 0 hn0
  unfold euler_cycle.f
  have e0 : rd (rd_L1 rows (0 : Int)) (x : Int) = ((wy rows x 1 : Nat) : Int) := V.nxE hn0 hx
  simp only [if_pos (show (0 : Int) < (rows.length : Int) by omega), if_pos (show (0 : Int) ≤ (x : Int) by omega), if_pos (show (x : Int) < ((rd_L1 rows (0 : Int)).length : Int) by omega), e0]
  exact key n 1 (by omega) (by omega) fun j h1 h2 => by omega
/-- The first letter that is a cycle. -/
theorem circ_ev {p : Nat → Bool} (hp : ∀ x, x < m → (p x = true ↔ Cyc rows n x)) : ∃ r : Int × Bool, Ev (fun k => euler_circular.f k rows) r ∧ Ev (fun k => mizmazeref06_Circular.f k rows) r ∧ ((r.2 = false ∧ r.1 = 0 ∧ ∀ x, x < m → ¬ Cyc rows n x) ∨ (r.2 = true ∧ ∃ x : Nat, r.1 = (x : Int) ∧ x < m ∧ Cyc rows n x)) := by
  have hm6 := V.m6
  have hlen := V.len
  have h60 := V.n60
  have hn0 := V.n0
  have hL : auto_Letters.f rows = some (m : Int) := by
    have h : (rd_L1 rows 0).length = m := V.row 0 V.n0
    unfold auto_Letters.f
    rw [if_pos (by omega), h]
  -- the reference's way
  have way : ∀ (x : Nat) (r : Int × Bool), x < m → (Cyc rows n x → r = ((x : Int), true)) → (¬ Cyc rows n x → Ev (fun k => mizmazeref06_Circular.l0 k ((x + 1 : Nat) : Int) rows) r) → Ev (fun k => mizmazeref06_Circular.l1 k (x : Int) [] 0 rows) r := by
    intro x r hx h1 h2
    have key : ∀ d i : Nat, i + d = n + 1 → ((List.range i).map (wy rows x)).Nodup → Ev (fun k => mizmazeref06_Circular.l1 k (x : Int) (toI ((List.range i).map (wy rows x))) ((wy rows x i : Nat) : Int) rows) r := by
      intro d
      induction d with
      | zero =>
        intro i hi hnd
        have := nodup_le n _ hnd (fun t ht => by
          obtain ⟨j, _, rfl⟩ := List.mem_map.1 ht
          exact wy_lt V hx j)
        simp at this; omega
      | succ d ih =>
        intro i hi hnd
        have hll : (toI ((List.range i).map (wy rows x))).length = i := by rw [toI_len]; simp
        refine Ev.next ?_
        simp only [mizmazeref06_Circular.l1]
        refine Ev.bind (ref_has _ _ (by omega)) ?_
        have hmem : decide (((wy rows x i : Nat) : Int) ∈ toI ((List.range i).map (wy rows x))) = true ↔ ∃ j, j < i ∧ wy rows x j = wy rows x i := by
          rw [decide_eq_true_eq, mem_toIE]
          constructor
          · intro h
            obtain ⟨j, hj, e⟩ := List.mem_map.1 h
            exact ⟨j, List.mem_range.1 hj, e⟩
          · rintro ⟨j, hj, e⟩
            exact List.mem_map.2 ⟨j, List.mem_range.2 hj, e⟩
        by_cases hh : ∃ j, j < i ∧ wy rows x j = wy rows x i
        · rw [hmem.2 hh]
          simp only [if_true, hll, hlen]
          -- stops
          have inj : ∀ a b, a < i → b < i → wy rows x a = wy rows x b → a = b := fun a b ha hb he => by
            have h3 := (List.getElem_inj (h₀ := by simpa using ha) (h₁ := by simpa using hb) hnd).1 (by simpa using he)
            exact h3
          by_cases hc : wy rows x i = 0 ∧ i = n
          · obtain ⟨hc1, rfl⟩ := hc
            simp only [hc1, if_true]
            rw [h1 ⟨hc1, fun j hj1 hj2 he => by
              have := inj j 0 hj2 (by omega) he
              omega⟩]
            exact Ev.now _
          · have hnc : ¬ Cyc rows n x := by
              intro hcy
              obtain ⟨j, hj, e⟩ := hh
              rcases Nat.lt_or_ge n i with h3 | h3
              · have := inj n 0 h3 (by omega) hcy.1
                omega
              · have h4 := wy_add e (n - i)
                rw [show i + (n - i) = n from by omega, hcy.1] at h4
                rcases Nat.eq_zero_or_pos (j + (n - i)) with h5 | h5
                · have h6 : i = n := by omega
                  refine hc ⟨?_, h6⟩
                  rw [h6]; exact hcy.1
                · exact hcy.2 _ h5 (by omega) h4
            have hr := h2 hnc
            by_cases hz : wy rows x i = 0
            · have hin : i ≠ n := fun h => hc ⟨hz, h⟩
              simp only [hz, Int.natCast_zero, if_true, if_neg (show ¬ ((i : Nat) : Int) = (n : Int) by omega), wrapS (show x + 1 ≤ 9223372036854775807 by omega)]
              exact hr
            · simp only [if_neg (show ¬ ((wy rows x i : Nat) : Int) = 0 by omega), wrapS (show x + 1 ≤ 9223372036854775807 by omega)]
              exact hr
        · have hf : decide (((wy rows x i : Nat) : Int) ∈ toI ((List.range i).map (wy rows x))) = false := by
            rw [Bool.eq_false_iff]; exact fun h => hh (hmem.1 h)
          rw [hf]
          have hw := wy_lt V hx i
          have hr := V.row _ hw
          simp only [Bool.false_eq_true, if_false, hll, if_pos (show i < 17592186044416 by omega), if_pos (show (0 : Int) ≤ ((wy rows x i : Nat) : Int) by omega), if_pos (show ((wy rows x i : Nat) : Int) < (rows.length : Int) by omega), if_pos (show (0 : Int) ≤ (x : Int) by omega), if_pos (show (x : Int) < ((rd_L1 rows ((wy rows x i : Nat) : Int)).length : Int) by omega), V.nxE hw hx]
          have e1 : toI ((List.range i).map (wy rows x)) ++ [((wy rows x i : Nat) : Int)] = toI ((List.range (i + 1)).map (wy rows x)) := by
            rw [List.range_succ, List.map_append, toI_appE]; rfl
          rw [e1]
          refine ih (i + 1) (by omega) ?_
          rw [List.range_succ, List.map_append, List.nodup_append]
          refine ⟨hnd, by simp, fun a ha b hb2 => ?_⟩
          obtain ⟨j, hj, rfl⟩ := List.mem_map.1 ha
          simp at hb2
          subst hb2
          exact fun he => hh ⟨j, List.mem_range.1 hj, he⟩
    exact key (n + 1) 0 (by omega) (by simp)
  have main : ∀ d x : Nat, x + d = m → ∃ r : Int × Bool, Ev (fun k => euler_circular.l0 k (m : Int) (x : Int) rows) r ∧ Ev (fun k => mizmazeref06_Circular.l0 k (x : Int) rows) r ∧ ((r.2 = false ∧ r.1 = 0 ∧ ∀ y, x ≤ y → y < m → ¬ Cyc rows n y) ∨ (r.2 = true ∧ ∃ y : Nat, r.1 = (y : Int) ∧ y < m ∧ Cyc rows n y)) := by
    intro d
    induction d with
    | zero =>
      intro x hx
      refine ⟨(0, false), ?_, ?_, .inl ⟨rfl, rfl, fun y h1 h2 => by omega⟩⟩
      · refine Ev.step (f := fun _ => some (0, false)) (fun k => by rw [euler_circular.l0, if_neg (by omega)]) (Ev.now _)
      · refine Ev.step (f := fun _ => some (0, false)) (fun k => by rw [mizmazeref06_Circular.l0, V.letters, Option.bind_some, if_neg (by omega)]) (Ev.now _)
    | succ d ih =>
      intro x hx
      obtain ⟨r, hr1, hr2, hr3⟩ := ih (x + 1) (by omega)
      cases hpx : p x with
      | true =>
        have hc := (hp x (by omega)).1 hpx
        refine ⟨((x : Int), true), ?_, ?_, .inr ⟨rfl, x, rfl, by omega, hc⟩⟩
        · refine Ev.next ?_
          simp only [euler_circular.l0, if_pos (show (x : Int) < (m : Int) by omega)]
          refine Ev.bind (cycle_ev V (by omega) (b := true) ⟨fun _ => hc, fun _ => rfl⟩) ?_
          simp only [if_true]; exact Ev.now _
        · refine Ev.step (f := fun k => mizmazeref06_Circular.l1 k (x : Int) [] 0 rows) (fun k => by rw [mizmazeref06_Circular.l0, V.letters, Option.bind_some, if_pos (by omega)]) ?_
          exact way x _ (by omega) (fun _ => rfl) fun h => absurd hc h
      | false =>
        have hc : ¬ Cyc rows n x := fun h => by rw [(hp x (by omega)).2 h] at hpx; cases hpx
        refine ⟨r, ?_, ?_, ?_⟩
        · refine Ev.next ?_
          simp only [euler_circular.l0, if_pos (show (x : Int) < (m : Int) by omega)]
          refine Ev.bind (cycle_ev V (by omega) (b := false) ⟨fun h => (by cases h), fun h => absurd h hc⟩) ?_
          simp only [Bool.false_eq_true, if_false, wrapS (show x + 1 ≤ 9223372036854775807 by omega)]; exact hr1
        · refine Ev.step (f := fun k => mizmazeref06_Circular.l1 k (x : Int) [] 0 rows) (fun k => by rw [mizmazeref06_Circular.l0, V.letters, Option.bind_some, if_pos (by omega)]) ?_
          exact way x _ (by omega) (fun h => absurd h hc) fun _ => hr2
        · rcases hr3 with ⟨h1, h2, h3⟩ | h
          · refine .inl ⟨h1, h2, fun y h4 h5 => ?_⟩
            rcases Nat.eq_or_lt_of_le h4 with h6 | h6
            · subst h6; exact hc
            · exact h3 y h6 h5
          · exact .inr h
  obtain ⟨r, h1, h2, h3⟩ := main m 0 (by omega)
  refine ⟨r, ?_, h2, ?_⟩
  · unfold euler_circular.f
    rw [hL]
    simp only [Option.bind_some]; exact h1
  · rcases h3 with ⟨a, b, c⟩ | h
    · exact .inl ⟨a, b, fun x hx => c x (Nat.zero_le _) hx⟩
    · exact .inr h
end
end Go.Proofs.Ytcpmmkennnjalaa.Pure
end
section
namespace Go.Proofs.Ytcpmmkennnjalaa.Q
open Go.RowKit Go.Proofs.YtcpmmkennnjalaaW.PrintWords Go.Proofs.YtcpmmkennnjalaaW.PrintLast Go.Proofs.YtcpmmkennnjalaaW.PrintMore
set_option linter.unusedVariables false
set_option linter.unusedSectionVars false
set_option linter.unusedSimpArgs false
/-! ### the reference's table -/
section
variable {rows : List (List Int)} {n m : Nat} (V : VA rows n m)
include V
theorem cell_loop {tab : List (List Int)} {kk p q : Nat} (hp : p < n) (hq : q < n) {more : Bool} (hkk : kk ≤ 1000000) (h : InPass (nx rows) m n tab (kk + 1) p q more) (hT : TT tab p q = -1) (hno : ∀ d, d < kk + 1 → ¬ MDist (nx rows) m p q d) :
    ∀ (e x : Nat), x + e = m → (∀ y, y < x → ¬ MDist (nx rows) m (nx rows p y) (nx rows q y) kk) → ∃ tab' more', InPass (nx rows) m n tab' (kk + 1) p (q + 1) more' ∧ ∀ res, Ev (fun k => mizmazeref03_Table.l4 k (n : Int) tab' ((kk + 1 : Nat) : Int) more' (p : Int) ((q + 1 : Nat) : Int) rows) res → Ev (fun k => mizmazeref03_Table.l5 k (n : Int) tab ((kk + 1 : Nat) : Int) more (p : Int) (q : Int) (x : Int) rows) res := by
  have hn60 := V.n60
  have hm6 := V.m6
  have hTr : rd (rd_L1 tab (p : Int)) (q : Int) = -1 := hT
  have hl5 : ∀ k (x : Nat), x < m → mizmazeref03_Table.l5 (k + 1) (n : Int) tab ((kk + 1 : Nat) : Int) more (p : Int) (q : Int) (x : Int) rows = mizmazeref03_Table.j6 k (n : Int) tab ((kk + 1 : Nat) : Int) more (p : Int) (q : Int) (x : Int) true rows := by
    intro k x hx
    rw [mizmazeref03_Table.l5, if_pos (by omega), if_pos (by rw [h.shape.len]; omega), if_pos (by omega), if_pos (by rw [h.shape.row p hp]; omega), hTr, if_pos (by omega), V.letters, Option.bind_some, decide_eq_true (by omega)]
  have hl5e : ∀ k, mizmazeref03_Table.l5 (k + 1) (n : Int) tab ((kk + 1 : Nat) : Int) more (p : Int) (q : Int) (m : Int) rows = mizmazeref03_Table.j6 k (n : Int) tab ((kk + 1 : Nat) : Int) more (p : Int) (q : Int) (m : Int) false rows := by
    intro k
    rw [mizmazeref03_Table.l5, if_pos (by omega), if_pos (by rw [h.shape.len]; omega), if_pos (by omega), if_pos (by rw [h.shape.row p hp]; omega), hTr, if_pos (by omega), V.letters, Option.bind_some, decide_eq_false (by omega)]
  intro e
  induction e with
  | zero =>
    intro x hx hy
    obtain rfl : x = m := by omega
    have hnk : ¬ MDist (nx rows) x p q (kk + 1) := fun hd => by
      obtain ⟨_, ⟨y, hy1, hy2⟩, _⟩ := hd.pred
      exact hy y hy1 hy2
    refine ⟨tab, more, ⟨h.shape, fun a b ha hb => ?_, ?_⟩, fun res hres => ?_⟩
    · by_cases hab : a = p ∧ b = q
      · obtain ⟨rfl, rfl⟩ := hab
        rw [if_pos (bef_next _ _)]
        refine Or.inr ⟨hT, fun d hd => ?_⟩
        rcases Nat.lt_or_ge d (kk + 1) with h1 | h1
        · exact hno d h1
        · obtain rfl : d = kk + 1 := by omega
          exact hnk
      · have e : bef a b p (q + 1) ↔ bef a b p q := by unfold bef; omega
        have := h.ent a b ha hb
        rwa [ite_iff e]
    · rw [h.more]
      constructor
      · rintro ⟨a, b, h1, h2, h3, h4⟩; exact ⟨a, b, h1, h2, by unfold bef at h3 ⊢; omega, h4⟩
      · rintro ⟨a, b, h1, h2, h3, h4⟩
        refine ⟨a, b, h1, h2, ?_, h4⟩
        by_cases hab : a = p ∧ b = q
        · obtain ⟨rfl, rfl⟩ := hab; exact absurd h4 hnk
        · unfold bef at h3 ⊢; omega
    · refine Ev.step (fun k => hl5e k) (Ev.step (fun k => ?_) hres)
      rw [mizmazeref03_Table.j6, if_neg (by decide), wrapS (by omega)]
  | succ e ih =>
    intro x hx hy
    have hxm : x < m := by omega
    have ha := V.nxLt hp hxm
    have hb := V.nxLt hq hxm
    have hj : ∀ k, mizmazeref03_Table.j6 (k + 1) (n : Int) tab ((kk + 1 : Nat) : Int) more (p : Int) (q : Int) (x : Int) true rows = if TT tab (nx rows p x) (nx rows q x) = (kk : Int) then mizmazeref03_Table.l5 k (n : Int) (tab.set p ((rd_L1 tab (p : Int)).set q ((kk + 1 : Nat) : Int))) ((kk + 1 : Nat) : Int) true (p : Int) (q : Int) ((x + 1 : Nat) : Int) rows else mizmazeref03_Table.l5 k (n : Int) tab ((kk + 1 : Nat) : Int) more (p : Int) (q : Int) ((x + 1 : Nat) : Int) rows := by
      intro k
      rw [mizmazeref03_Table.j6, if_pos rfl, if_pos (by omega), if_pos (by rw [V.len]; omega), if_pos (by omega), if_pos (by rw [V.row p hp]; omega), V.nxE hp hxm, if_pos (by omega), if_pos (by rw [h.shape.len]; omega), if_pos (by omega), if_pos (by rw [V.len]; omega), if_pos (by rw [V.row q hq]; omega), V.nxE hq hxm, if_pos (by omega), if_pos (by rw [h.shape.row _ ha]; omega),
        wrapI (by omega) (by omega), show (((kk + 1 : Nat) : Int) - 1) = (kk : Int) by omega]
      by_cases ht : TT tab (nx rows p x) (nx rows q x) = (kk : Int)
      · rw [if_pos ht, if_pos (show rd (rd_L1 tab (nx rows p x : Nat)) (nx rows q x : Nat) = (kk : Int) from ht), if_pos (by rw [h.shape.len]; omega), if_pos (by rw [h.shape.row p hp]; omega), wrapS (by omega)]
        simp only [Int.toNat_natCast]
      · rw [if_neg ht, if_neg (show ¬ rd (rd_L1 tab (nx rows p x : Nat)) (nx rows q x : Nat) = (kk : Int) from ht), wrapS (by omega)]
    by_cases ht : TT tab (nx rows p x) (nx rows q x) = (kk : Int)
    · have hd := (h.test ha hb).1 ht
      have hpq : p ≠ q := by
        rintro rfl
        exact hno 0 (by omega) (MDist.zero _ _ _)
      have hD : MDist (nx rows) m p q (kk + 1) := MDist.succ hpq hxm hd fun y e hy he => no_less V (d := 0) hno hy he
      refine ⟨_, true, ⟨h.shape.put (q := q) (v := ((kk + 1 : Nat) : Int)) hp, fun a b ha hb => ?_, ?_⟩, fun res hres => ?_⟩
      · unfold Ent
        rw [TT_put h.shape ha hb hp]
        by_cases hab : p = a ∧ q = b
        · rw [if_pos hab]
          obtain ⟨rfl, rfl⟩ := hab
          rw [if_pos (bef_next _ _)]
          exact Or.inl ⟨kk + 1, by omega, rfl, hD⟩
        · rw [if_neg hab]
          have e : bef a b p (q + 1) ↔ bef a b p q := by unfold bef; omega
          have := h.ent a b ha hb
          rwa [ite_iff e]
      · exact ⟨fun _ => ⟨p, q, hp, hq, Or.inr ⟨rfl, by omega⟩, hD⟩, fun _ => rfl⟩
      · refine Ev.step (fun k => hl5 k x hxm) (Ev.step (fun k => by rw [hj, if_pos ht]) (Ev.step (f := fun k => mizmazeref03_Table.j6 k (n : Int) (tab.set p ((rd_L1 tab (p : Int)).set q ((kk + 1 : Nat) : Int))) ((kk + 1 : Nat) : Int) true (p : Int) (q : Int) ((x + 1 : Nat) : Int) false rows) (fun k => ?_) (Ev.step (fun k => ?_) hres)))
        · have hs := h.shape.put (q := q) (v := ((kk + 1 : Nat) : Int)) hp
          have hv : rd (rd_L1 (tab.set p ((rd_L1 tab (p : Int)).set q ((kk + 1 : Nat) : Int))) (p : Int)) (q : Int) = ((kk + 1 : Nat) : Int) := by
            have := TT_put (q := q) (v := ((kk + 1 : Nat) : Int)) h.shape hp hq hp
            rw [if_pos ⟨rfl, rfl⟩] at this; exact this
          rw [mizmazeref03_Table.l5, if_pos (by omega), if_pos (by rw [hs.len]; omega), if_pos (by omega), if_pos (by rw [hs.row p hp]; omega), hv, if_neg (by omega)]
        · rw [mizmazeref03_Table.j6, if_neg (by decide), wrapS (by omega)]
    · obtain ⟨tab', more', h1, h2⟩ := ih (x + 1) (by omega) fun y hy2 hyd => by
        rcases Nat.lt_or_ge y x with h3 | h3
        · exact hy y h3 hyd
        · obtain rfl : y = x := by omega
          exact ht ((h.test ha hb).2 hyd)
      exact ⟨tab', more', h1, fun res hres => Ev.step (fun k => hl5 k x hxm) (Ev.step (fun k => by rw [hj, if_neg ht]) (h2 res hres))⟩
theorem cell {tab : List (List Int)} {kk p q : Nat} (hp : p < n) (hq : q < n) {more : Bool} (hkk : kk ≤ 1000000) (h : InPass (nx rows) m n tab (kk + 1) p q more) :
    ∃ tab' more', InPass (nx rows) m n tab' (kk + 1) p (q + 1) more' ∧ ∀ res, Ev (fun k => mizmazeref03_Table.l4 k (n : Int) tab' ((kk + 1 : Nat) : Int) more' (p : Int) ((q + 1 : Nat) : Int) rows) res → Ev (fun k => mizmazeref03_Table.l4 k (n : Int) tab ((kk + 1 : Nat) : Int) more (p : Int) (q : Int) rows) res := by
  have hn60 := V.n60
  have e0 : ¬ bef p q p q := by unfold bef; omega
  have hent := h.ent p q hp hq
  rw [if_neg e0] at hent
  have h4 : ∀ k, mizmazeref03_Table.l4 (k + 1) (n : Int) tab ((kk + 1 : Nat) : Int) more (p : Int) (q : Int) rows = mizmazeref03_Table.l5 k (n : Int) tab ((kk + 1 : Nat) : Int) more (p : Int) (q : Int) ((0 : Nat) : Int) rows := fun k => by
    rw [mizmazeref03_Table.l4, if_pos (by omega)]; rfl
  rcases hent with ⟨d, h1, h2, h3⟩ | ⟨h1, h2⟩
  · refine ⟨tab, more, ⟨h.shape, fun a b ha hb => ?_, ?_⟩, fun res hres => ?_⟩
    · by_cases hab : a = p ∧ b = q
      · obtain ⟨rfl, rfl⟩ := hab
        rw [if_pos (bef_next _ _)]
        exact Or.inl ⟨d, by omega, h2, h3⟩
      · have e : bef a b p (q + 1) ↔ bef a b p q := by unfold bef; omega
        have := h.ent a b ha hb
        rwa [ite_iff e]
    · rw [h.more]
      constructor
      · rintro ⟨a, b, k1, k2, k3, k4⟩; exact ⟨a, b, k1, k2, by unfold bef at k3 ⊢; omega, k4⟩
      · rintro ⟨a, b, k1, k2, k3, k4⟩
        refine ⟨a, b, k1, k2, ?_, k4⟩
        by_cases hab : a = p ∧ b = q
        · obtain ⟨rfl, rfl⟩ := hab; have := h3.uniq k4; omega
        · unfold bef at k3 ⊢; omega
    · have h2' : rd (rd_L1 tab (p : Int)) (q : Int) = (d : Int) := h2
      refine Ev.step (fun k => h4 k) (Ev.step (f := fun k => mizmazeref03_Table.j6 k (n : Int) tab ((kk + 1 : Nat) : Int) more (p : Int) (q : Int) ((0 : Nat) : Int) false rows) (fun k => ?_) (Ev.step (fun k => ?_) hres))
      · rw [mizmazeref03_Table.l5, if_pos (by omega), if_pos (by rw [h.shape.len]; omega), if_pos (by omega), if_pos (by rw [h.shape.row p hp]; omega), h2', if_neg (by omega)]
      · rw [mizmazeref03_Table.j6, if_neg (by decide), wrapS (by omega)]
  · obtain ⟨tab', more', k1, k2⟩ := cell_loop V hp hq hkk h h1 h2 m 0 (by omega) fun y hy => by omega
    exact ⟨tab', more', k1, fun res hres => Ev.step (fun k => h4 k) (k2 res hres)⟩
/-- What the table says in the end. -/
structure TabOk (f : Nat → Nat → Nat) (m n : Nat) (tab : List (List Int)) : Prop where
  shape : Shape tab n
  ent : ∀ p q, p < n → q < n → (∃ d : Nat, TT tab p q = (d : Int) ∧ MDist f m p q d) ∨ (TT tab p q = -1 ∧ ¬ Mg f m p q)
end
end Go.Proofs.Ytcpmmkennnjalaa.Q
end
