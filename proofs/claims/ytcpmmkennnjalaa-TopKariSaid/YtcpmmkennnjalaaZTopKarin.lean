/- In any Eulerian automaton that has a reset word, whatever set of states, neither empty nor all, is led into by more states with a word of at most n - 1 letters, and its shortest reset word has at most n^2 - 3n + 3 letters; in any circular one at most (n - 1)^2. (At most 9 states) (text 14 of 42) -/
import Derived.Test.YtcpmmkennnjalaaZTopKarik
import Derived.Test.YtcpmmkennnjalaaZTopKarij
import Derived.Test.YtcpmmkennnjalaaZTopKaril
section
namespace Go.Proofs.Ytcpmmkennnjalaa.Pure
open Go.RowKit Go.Proofs.YtcpmmkennnjalaaW.PrintWords Go.Proofs.YtcpmmkennnjalaaW.PrintLast Go.Proofs.YtcpmmkennnjalaaW.PrintMore Go.Proofs.Ytcpmmkennnjalaa.Q
set_option linter.unusedVariables false
set_option linter.unusedSimpArgs false
/-- how often a state is entered -/
def inn (rows : List (List Int)) (t : Nat) : Nat := (rows.map fun r => r.count (t : Int)).sum
section
variable {rows : List (List Int)} {n m : Nat} (V : VA rows n m)
include V
end
/-! ### the program's count -/
theorem incR_get : ∀ (row c : List Int) (B : Nat), (∀ x ∈ row, 0 ≤ x ∧ x < (c.length : Int)) → (∀ t : Nat, 0 ≤ rd c (t : Int) ∧ rd c (t : Int) ≤ (B : Int)) → B + row.length ≤ 1000000 → ∀ t : Nat, rd (incR c row) (t : Int) = rd c (t : Int) + ((row.count (t : Int) : Nat) : Int)
  | [], c, B, _, _, _, t => by simp [incR]
  | x :: row, c, B, hx, hc, hB, t => by
    obtain ⟨h0, h1⟩ := hx x List.mem_cons_self
    obtain ⟨i, rfl⟩ := Int.eq_ofNat_of_zero_le h0
    have hi : i < c.length := by omega
    have hci := hc i
    simp only [List.length_cons] at hB
    have hw : wrap64 (rd c (i : Int) + 1) = rd c (i : Int) + 1 := wrapI (by omega) (by omega)
    have hset : ∀ u : Nat, rd (c.set i (rd c (i : Int) + 1)) (u : Int) = if u = i then rd c (i : Int) + 1 else rd c (u : Int) := fun u => by
      rw [rdN, rdN, rdN, List.getD_eq_getElem?_getD, List.getElem?_set, List.getD_eq_getElem?_getD]
      by_cases hu : i = u
      · subst hu; rw [if_pos rfl, if_pos hi, if_pos rfl, Option.getD_some]
      · rw [if_neg hu, if_neg (fun h => hu h.symm), List.getD_eq_getElem?_getD]
    have ih := incR_get row (c.set i (rd c (i : Int) + 1)) (B + 1) (fun y hy => by rw [List.length_set]; exact hx y (List.mem_cons_of_mem _ hy)) (fun u => by
      rw [hset u]
      have := hc u
      split <;> omega) (by omega) t
    show rd (incR (c.set ((i : Int).toNat) (wrap64 (rd c (i : Int) + 1))) row) (t : Int) = _
    rw [Int.toNat_natCast, hw, ih, hset t]
    by_cases ht : t = i
    · subst ht; rw [if_pos rfl, List.count_cons_self]; omega
    · rw [if_neg ht, List.count_cons_of_ne (by omega)]
theorem incL_get {n : Nat} : ∀ (rows : List (List Int)) (c : List Int) (B : Nat), c.length = n → (∀ r ∈ rows, r.length ≤ 6 ∧ ∀ x ∈ r, 0 ≤ x ∧ x < (n : Int)) → (∀ t : Nat, 0 ≤ rd c (t : Int) ∧ rd c (t : Int) ≤ (B : Int)) → B + 6 * rows.length ≤ 1000000 → ∀ t : Nat, rd (rows.foldl incR c) (t : Int) = rd c (t : Int) + ((inn rows t : Nat) : Int)
  | [], c, B, _, _, _, _, t => by simp [inn]
  | r :: rows, c, B, hl, hr, hc, hB, t => by
    obtain ⟨h1, h2⟩ := hr r List.mem_cons_self
    simp only [List.length_cons] at hB
    have e := incR_get r c B (fun x hx => by rw [hl]; exact h2 x hx) hc (by omega)
    have ih := incL_get rows (incR c r) (B + 6) (by rw [incR_len, hl]) (fun r' hr' => hr r' (List.mem_cons_of_mem _ hr')) (fun u => by
      have h3 := hc u
      have h4 : r.count (u : Int) ≤ r.length := List.count_le_length
      rw [e u]; omega) (by omega) t
    show rd (rows.foldl incR (incR c r)) (t : Int) = _
    rw [ih, e t]
    unfold inn
    rw [List.map_cons, List.sum_cons]; omega
section
variable {rows : List (List Int)} {n m : Nat} (V : VA rows n m)
include V
theorem eul_val {b : Bool} (hb : b = true ↔ ∀ t, t < n → inn rows t = m) : euler_eulerian.f rows = some b := by
  have hlen := V.len
  unfold euler_eulerian.f
  rw [if_pos (validB_of V)]
  have hL : auto_Letters.f rows = some (m : Int) := by
    have h : (rd_L1 rows 0).length = m := V.row 0 V.n0
    unfold auto_Letters.f
    have h0 := V.n0
    rw [if_pos (by omega), h]
  rw [hL, Option.bind_some, hlen]
  have hin : ∀ r ∈ rows, r.length ≤ 6 ∧ ∀ x ∈ r, 0 ≤ x ∧ x < (n : Int) := fun r hr => by
    obtain ⟨s, hs, rfl⟩ := List.getElem_of_mem hr
    have hm6 := V.m6
    have h1 := V.row s (by omega)
    have h2 := V.ent s (by omega)
    rw [rdLE hs] at h1 h2
    refine ⟨by omega, fun x hx => ?_⟩
    obtain ⟨i, hi, rfl⟩ := List.getElem_of_mem hx
    exact inB_iff.1 h2 i hi
  have hz : ∀ t : Nat, rd (List.replicate n (0 : Int)) (t : Int) = 0 := fun t => by
    rw [rdN, List.getD_eq_getElem?_getD, List.getElem?_replicate]
    split <;> rfl
  have h60 := V.n60
  have key := incL_get (n := n) rows (List.replicate n 0) 0 List.length_replicate hin (fun t => by rw [hz t]; omega) (by omega)
  have hcl : (incL n rows).length = n := incL_len n rows
  have hany : (incL n rows).any (fun x => x != (m : Int)) = !b := by
    rw [Bool.eq_iff_iff, List.any_eq_true, Bool.not_eq_true']
    constructor
    · rintro ⟨x, hx, hne⟩
      obtain ⟨t, ht, rfl⟩ := List.getElem_of_mem hx
      refine Bool.eq_false_iff.2 fun h => ?_
      have e := key t
      rw [hz t, hb.1 h t (by omega)] at e
      have e2 : rd (incL n rows) (t : Int) = (incL n rows)[t] := rdE ht
      have e3 : rd (incL n rows) (t : Int) = 0 + (m : Int) := e
      rw [← e2, e3] at hne
      simp at hne
    · intro h
      have hnot : ¬ ∀ t, t < n → inn rows t = m := fun h2 => by rw [hb.2 h2] at h; cases h
      obtain ⟨t, ht⟩ := Classical.not_forall.1 hnot
      obtain ⟨ht1, ht2⟩ := Classical.not_imp.1 ht
      have e : rd (incL n rows) (t : Int) = 0 + ((inn rows t : Nat) : Int) := by have := key t; rw [hz t] at this; exact this
      have e2 : rd (incL n rows) (t : Int) = (incL n rows)[t]'(by omega) := rdE (by omega)
      refine ⟨(incL n rows)[t]'(by omega), List.getElem_mem _, ?_⟩
      rw [← e2, e]
      simp; omega
  rw [hany, Bool.not_not]
end
end Go.Proofs.Ytcpmmkennnjalaa.Pure
end
section
namespace Go.Proofs.Ytcpmmkennnjalaa.Q
open Go.RowKit Go.Proofs.YtcpmmkennnjalaaW.PrintWords Go.Proofs.YtcpmmkennnjalaaW.PrintLast Go.Proofs.YtcpmmkennnjalaaW.PrintMore
set_option linter.unusedVariables false
/-- A set of states in order. -/
theorem auto_set_yes {rows : List (List Int)} {n m : Nat} (V : VA rows n m) {q : List Nat} (hq : ∀ x ∈ q, x < n) (hs : q.Pairwise (· < ·)) (hl : q.length ≤ 1000000) : Ev (fun k => auto_Set.f k rows (toI q)) true := by
  have hlen := V.len
  unfold auto_Set.f
  rw [toI_len]
  have key : ∀ d i : Nat, i + d = q.length → Ev (fun k => auto_Set.l0 k (toI q) (toI q) (q.length : Int) (i : Int) rows) true := by
    intro d
    induction d with
    | zero =>
      intro i hi
      refine Ev.next ?_
      simp only [auto_Set.l0, if_neg (by omega : ¬ (i : Int) < (q.length : Int))]
      exact Ev.now _
    | succ d ih =>
      intro i hi
      have hil : i < q.length := by omega
      have hx := hq q[i] (List.getElem_mem hil)
      refine Ev.next ?_
      simp only [auto_Set.l0, if_pos (by omega : (i : Int) < (q.length : Int)), if_pos (by omega : (0 : Int) ≤ (i : Int)), toI_len, toI_rd hil, auto_state, Option.bind_some, decide_eq_true (by omega : (0 : Int) ≤ ((q[i] : Nat) : Int) ∧ ((q[i] : Nat) : Int) < (rows.length : Int)), if_true, wrapS (by omega : i + 1 ≤ 9223372036854775807)]
      by_cases h0 : i = 0
      · simp only [if_neg (by omega : ¬ (i : Int) > 0)]
        exact ih (i + 1) (by omega)
      · have hw : wrap64 ((i : Int) - 1) = ((i - 1 : Nat) : Int) := by rw [wrapI (by omega) (by omega)]; omega
        have hlt : q[i - 1] < q[i] := List.pairwise_iff_getElem.1 hs (i - 1) i (by omega) hil (by omega)
        simp only [if_pos (by omega : (i : Int) > 0), hw, if_pos (by omega : (0 : Int) ≤ ((i - 1 : Nat) : Int)), if_pos (by omega : ((i - 1 : Nat) : Int) < (q.length : Int)), toI_rd (by omega : i - 1 < q.length), if_neg (by omega : ¬ ((q[i - 1] : Nat) : Int) ≥ ((q[i] : Nat) : Int))]
        exact ih (i + 1) (by omega)
  exact key q.length 0 (by omega)
end Go.Proofs.Ytcpmmkennnjalaa.Q
end
section
namespace Go.Proofs.Ytcpmmkennnjalaa.Pure
open Go.RowKit Go.Proofs.YtcpmmkennnjalaaW.PrintWords Go.Proofs.YtcpmmkennnjalaaW.PrintLast Go.Proofs.YtcpmmkennnjalaaW.PrintMore Go.Proofs.Ytcpmmkennnjalaa.Q
set_option linter.unusedVariables false
set_option linter.unusedSimpArgs false
/-- the states that one letter leads through, from the first one on -/
def wy (rows : List (List Int)) (x : Nat) : Nat → Nat
  | 0 => 0
  | i + 1 => nx rows (wy rows x i) x
/-- one cycle through all states -/
def Cyc (rows : List (List Int)) (n x : Nat) : Prop := wy rows x n = 0 ∧ ∀ j, 0 < j → j < n → wy rows x j ≠ 0
theorem mem_toIE {z : Nat} {l : List Nat} : (z : Int) ∈ toI l ↔ z ∈ l := by
  unfold toI
  rw [List.mem_map]
  constructor
  · rintro ⟨y, hy, e⟩
    obtain rfl : y = z := Int.ofNat.inj e
    exact hy
  · exact fun h => ⟨z, h, rfl⟩
theorem toI_appE (l l' : List Nat) : toI (l ++ l') = toI l ++ toI l' := by unfold toI; rw [List.map_append]
theorem wy_add {rows : List (List Int)} {x a b : Nat} (h : wy rows x a = wy rows x b) : ∀ d, wy rows x (a + d) = wy rows x (b + d)
  | 0 => h
  | d + 1 => by
    show nx rows (wy rows x (a + d)) x = nx rows (wy rows x (b + d)) x
    rw [wy_add h d]
section
variable {rows : List (List Int)} {n m : Nat} (V : VA rows n m)
include V
theorem wy_lt {x : Nat} (hx : x < m) : ∀ i, wy rows x i < n
  | 0 => V.n0
  | i + 1 => V.nxLt (wy_lt hx i) hx
theorem cycle_ev {x : Nat} (hx : x < m) {b : Bool} (hb : b = true ↔ Cyc rows n x) : Ev (fun k => euler_cycle.f k rows (x : Int)) b := by
  have h60 := V.n60
  have hlen := V.len
  have hn0 := V.n0
  have key : ∀ d i : Nat, i + d = n + 1 → 0 < i → (∀ j, 0 < j → j < i → wy rows x j ≠ 0) → Ev (fun k => euler_cycle.l0 k (x : Int) ((wy rows x i : Nat) : Int) (i : Int) rows) b := by
    intro d
    induction d with
    | zero =>
      intro i hi h0 hj
      have e : b = false := by
        cases hbb : b with
        | false => rfl
        | true => exact absurd (hb.1 hbb).1 (hj n hn0 (by omega))
      by_cases hz : wy rows x i = 0
      · refine Ev.step (f := fun _ => some ((i : Int) == (rows.length : Int))) (fun k => by rw [euler_cycle.l0, if_pos (by omega)]) (Ev.ret ?_)
        rw [e]; simp; omega
      · refine Ev.step (f := fun _ => some ((i : Int) == (rows.length : Int))) (fun k => by rw [euler_cycle.l0, if_neg (by omega), if_neg (by omega)]) (Ev.ret ?_)
        rw [e]; simp; omega
    | succ d ih =>
      intro i hi h0 hj
      by_cases hz : wy rows x i = 0
      · refine Ev.step (f := fun _ => some ((i : Int) == (rows.length : Int))) (fun k => by rw [euler_cycle.l0, if_pos (by omega)]) (Ev.ret ?_)
        rw [Bool.eq_iff_iff, hb, hlen, beq_iff_eq]
        constructor
        · intro h
          obtain rfl : i = n := by omega
          exact ⟨hz, hj⟩
        · intro h
          rcases Nat.lt_trichotomy i n with h1 | h1 | h1
          · exact absurd hz (h.2 i h0 h1)
          · omega
          · exact absurd h.1 (hj n hn0 h1)
      · have hw := wy_lt V hx i
        have hr := V.row _ hw
        refine Ev.step (f := fun k => euler_cycle.l0 k (x : Int) ((wy rows x (i + 1) : Nat) : Int) ((i + 1 : Nat) : Int) rows) (fun k => ?_) (ih (i + 1) (by omega) (by omega) fun j h1 h2 => ?_)
        · rw [euler_cycle.l0, if_neg (by omega), if_pos (by omega), if_pos (by omega), if_pos (by omega), if_pos (by omega), if_pos (by omega), V.nxE hw hx, wrapS (by omega)]
          rfl
        · rcases Nat.lt_or_ge j i with h3 | h3
          · exact hj j h1 h3
          · obtain rfl : j = i := by omega
            exact hz
  have hr : (rd_L1 rows (0 : Int)).length = m := V.row 0 hn0
  unfold euler_cycle.f
  have e0 : rd (rd_L1 rows (0 : Int)) (x : Int) = ((wy rows x 1 : Nat) : Int) := V.nxE hn0 hx
  simp only [if_pos (show (0 : Int) < (rows.length : Int) by omega), if_pos (show (0 : Int) ≤ (x : Int) by omega), if_pos (show (x : Int) < ((rd_L1 rows (0 : Int)).length : Int) by omega), e0]
  exact key n 1 (by omega) (by omega) fun j h1 h2 => by omega
/-- The first letter that is a cycle. -/
theorem circ_ev {p : Nat → Bool} (hp : ∀ x, x < m → (p x = true ↔ Cyc rows n x)) : ∃ r : Int × Bool, Ev (fun k => euler_circular.f k rows) r ∧ Ev (fun k => mizmazeref06_Circular.f k rows) r ∧ ((r.2 = false ∧ r.1 = 0 ∧ ∀ x, x < m → ¬ Cyc rows n x) ∨ (r.2 = true ∧ ∃ x : Nat, r.1 = (x : Int) ∧ x < m ∧ Cyc rows n x)) := by
  have hm6 := V.m6
  have hlen := V.len
  have h60 := V.n60
  have hn0 := V.n0
  have hL : auto_Letters.f rows = some (m : Int) := by
    have h : (rd_L1 rows 0).length = m := V.row 0 V.n0
    unfold auto_Letters.f
    rw [if_pos (by omega), h]
  -- the reference's way
  have way : ∀ (x : Nat) (r : Int × Bool), x < m → (Cyc rows n x → r = ((x : Int), true)) → (¬ Cyc rows n x → Ev (fun k => mizmazeref06_Circular.l0 k ((x + 1 : Nat) : Int) rows) r) → Ev (fun k => mizmazeref06_Circular.l1 k (x : Int) [] 0 rows) r := by
    intro x r hx h1 h2
    have key : ∀ d i : Nat, i + d = n + 1 → ((List.range i).map (wy rows x)).Nodup → Ev (fun k => mizmazeref06_Circular.l1 k (x : Int) (toI ((List.range i).map (wy rows x))) ((wy rows x i : Nat) : Int) rows) r := by
      intro d
      induction d with
      | zero =>
        intro i hi hnd
        have := nodup_le n _ hnd (fun t ht => by
          obtain ⟨j, _, rfl⟩ := List.mem_map.1 ht
          exact wy_lt V hx j)
        simp at this; omega
      | succ d ih =>
        intro i hi hnd
        have hll : (toI ((List.range i).map (wy rows x))).length = i := by rw [toI_len]; simp
        refine Ev.next ?_
        simp only [mizmazeref06_Circular.l1]
        refine Ev.bind (ref_has _ _ (by omega)) ?_
        have hmem : decide (((wy rows x i : Nat) : Int) ∈ toI ((List.range i).map (wy rows x))) = true ↔ ∃ j, j < i ∧ wy rows x j = wy rows x i := by
          rw [decide_eq_true_eq, mem_toIE]
          constructor
          · intro h
            obtain ⟨j, hj, e⟩ := List.mem_map.1 h
            exact ⟨j, List.mem_range.1 hj, e⟩
          · rintro ⟨j, hj, e⟩
            exact List.mem_map.2 ⟨j, List.mem_range.2 hj, e⟩
        by_cases hh : ∃ j, j < i ∧ wy rows x j = wy rows x i
        · rw [hmem.2 hh]
          simp only [if_true, hll, hlen]
          -- stops
          have inj : ∀ a b, a < i → b < i → wy rows x a = wy rows x b → a = b := fun a b ha hb he => by
            have h3 := (List.getElem_inj (h₀ := by simpa using ha) (h₁ := by simpa using hb) hnd).1 (by simpa using he)
            exact h3
          by_cases hc : wy rows x i = 0 ∧ i = n
          · obtain ⟨hc1, rfl⟩ := hc
            simp only [hc1, if_true]
            rw [h1 ⟨hc1, fun j hj1 hj2 he => by
              have := inj j 0 hj2 (by omega) he
              omega⟩]
            exact Ev.now _
          · have hnc : ¬ Cyc rows n x := by
              intro hcy
              obtain ⟨j, hj, e⟩ := hh
              rcases Nat.lt_or_ge n i with h3 | h3
              · have := inj n 0 h3 (by omega) hcy.1
                omega
              · have h4 := wy_add e (n - i)
                rw [show i + (n - i) = n from by omega, hcy.1] at h4
                rcases Nat.eq_zero_or_pos (j + (n - i)) with h5 | h5
                · have h6 : i = n := by omega
                  refine hc ⟨?_, h6⟩
                  rw [h6]; exact hcy.1
                · exact hcy.2 _ h5 (by omega) h4
            have hr := h2 hnc
            by_cases hz : wy rows x i = 0
            · have hin : i ≠ n := fun h => hc ⟨hz, h⟩
              simp only [hz, Int.natCast_zero, if_true, if_neg (show ¬ ((i : Nat) : Int) = (n : Int) by omega), wrapS (show x + 1 ≤ 9223372036854775807 by omega)]
              exact hr
            · simp only [if_neg (show ¬ ((wy rows x i : Nat) : Int) = 0 by omega), wrapS (show x + 1 ≤ 9223372036854775807 by omega)]
              exact hr
        · have hf : decide (((wy rows x i : Nat) : Int) ∈ toI ((List.range i).map (wy rows x))) = false := by
            rw [Bool.eq_false_iff]; exact fun h => hh (hmem.1 h)
          rw [hf]
          have hw := wy_lt V hx i
          have hr := V.row _ hw
          simp only [Bool.false_eq_true, if_false, hll, if_pos (show i < 17592186044416 by omega), if_pos (show (0 : Int) ≤ ((wy rows x i : Nat) : Int) by omega), if_pos (show ((wy rows x i : Nat) : Int) < (rows.length : Int) by omega), if_pos (show (0 : Int) ≤ (x : Int) by omega), if_pos (show (x : Int) < ((rd_L1 rows ((wy rows x i : Nat) : Int)).length : Int) by omega), V.nxE hw hx]
          have e1 : toI ((List.range i).map (wy rows x)) ++ [((wy rows x i : Nat) : Int)] = toI ((List.range (i + 1)).map (wy rows x)) := by
            rw [List.range_succ, List.map_append, toI_appE]; rfl
          rw [e1]
          refine ih (i + 1) (by omega) ?_
          rw [List.range_succ, List.map_append, List.nodup_append]
          refine ⟨hnd, by simp, fun a ha b hb2 => ?_⟩
          obtain ⟨j, hj, rfl⟩ := List.mem_map.1 ha
          simp at hb2
          subst hb2
          exact fun he => hh ⟨j, List.mem_range.1 hj, he⟩
    exact key (n + 1) 0 (by omega) (by simp)
  have main : ∀ d x : Nat, x + d = m → ∃ r : Int × Bool, Ev (fun k => euler_circular.l0 k (m : Int) (x : Int) rows) r ∧ Ev (fun k => mizmazeref06_Circular.l0 k (x : Int) rows) r ∧ ((r.2 = false ∧ r.1 = 0 ∧ ∀ y, x ≤ y → y < m → ¬ Cyc rows n y) ∨ (r.2 = true ∧ ∃ y : Nat, r.1 = (y : Int) ∧ y < m ∧ Cyc rows n y)) := by
    intro d
    induction d with
    | zero =>
      intro x hx
      refine ⟨(0, false), ?_, ?_, .inl ⟨rfl, rfl, fun y h1 h2 => by omega⟩⟩
      · refine Ev.step (f := fun _ => some (0, false)) (fun k => by rw [euler_circular.l0, if_neg (by omega)]) (Ev.now _)
      · refine Ev.step (f := fun _ => some (0, false)) (fun k => by rw [mizmazeref06_Circular.l0, V.letters, Option.bind_some, if_neg (by omega)]) (Ev.now _)
    | succ d ih =>
      intro x hx
      obtain ⟨r, hr1, hr2, hr3⟩ := ih (x + 1) (by omega)
      cases hpx : p x with
      | true =>
        have hc := (hp x (by omega)).1 hpx
        refine ⟨((x : Int), true), ?_, ?_, .inr ⟨rfl, x, rfl, by omega, hc⟩⟩
        · refine Ev.next ?_
          simp only [euler_circular.l0, if_pos (show (x : Int) < (m : Int) by omega)]
          refine Ev.bind (cycle_ev V (by omega) (b := true) ⟨fun _ => hc, fun _ => rfl⟩) ?_
          simp only [if_true]; exact Ev.now _
        · refine Ev.step (f := fun k => mizmazeref06_Circular.l1 k (x : Int) [] 0 rows) (fun k => by rw [mizmazeref06_Circular.l0, V.letters, Option.bind_some, if_pos (by omega)]) ?_
          exact way x _ (by omega) (fun _ => rfl) fun h => absurd hc h
      | false =>
        have hc : ¬ Cyc rows n x := fun h => by rw [(hp x (by omega)).2 h] at hpx; cases hpx
        refine ⟨r, ?_, ?_, ?_⟩
        · refine Ev.next ?_
          simp only [euler_circular.l0, if_pos (show (x : Int) < (m : Int) by omega)]
          refine Ev.bind (cycle_ev V (by omega) (b := false) ⟨fun h => (by cases h), fun h => absurd h hc⟩) ?_
          simp only [Bool.false_eq_true, if_false, wrapS (show x + 1 ≤ 9223372036854775807 by omega)]; exact hr1
        · refine Ev.step (f := fun k => mizmazeref06_Circular.l1 k (x : Int) [] 0 rows) (fun k => by rw [mizmazeref06_Circular.l0, V.letters, Option.bind_some, if_pos (by omega)]) ?_
          exact way x _ (by omega) (fun h => absurd h hc) fun _ => hr2
        · rcases hr3 with ⟨h1, h2, h3⟩ | h
          · refine .inl ⟨h1, h2, fun y h4 h5 => ?_⟩
            rcases Nat.eq_or_lt_of_le h4 with h6 | h6
            · subst h6; exact hc
            · exact h3 y h6 h5
          · exact .inr h
  obtain ⟨r, h1, h2, h3⟩ := main m 0 (by omega)
  refine ⟨r, ?_, h2, ?_⟩
  · unfold euler_circular.f
    rw [hL]
    simp only [Option.bind_some]; exact h1
  · rcases h3 with ⟨a, b, c⟩ | h
    · exact .inl ⟨a, b, fun x hx => c x (Nat.zero_le _) hx⟩
    · exact .inr h
end
end Go.Proofs.Ytcpmmkennnjalaa.Pure
end
