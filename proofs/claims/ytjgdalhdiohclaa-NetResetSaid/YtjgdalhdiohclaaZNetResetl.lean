/- NetReset returns true for every input of its row; no further conditions. (text 12 of 20) -/
import Derived.Test.YtjgdalhdiohclaaZNetResete
import Derived.Test.YtjgdalhdiohclaaZNetResetk
import Derived.Test.YtjgdalhdiohclaaZNetResetj
/-! Part XPath -/
section
namespace Go.Proofs.Ytjgdalhdiohclaa.Q
open Go.RowKit Go.Proofs.YtjgdalhdiohclaaW.PrintWords Go.Proofs.YtjgdalhdiohclaaW.PrintLast Go.Proofs.YtjgdalhdiohclaaW.PrintMore
set_option linter.unusedVariables false
set_option linter.unusedSimpArgs false

def net_Path.fin (ws : List (Int × List Int)) (t : Int) : Option (List Int × Int) := match ws.lookup t with
  | some w => some (w, 0)
  | none => some ([], 4)
mutual
def net_Path.l0 : Nat → List (List Int) → Int → List (Int × List Int) → List Int → Int → Option (List Int × Int)
  | 0, _, _, _, _, _ => none
  | k + 1, rows, t, ws, ls, i => if i < (ls.length : Int) then (if 0 ≤ i then (if 0 ≤ rd ls i then (if rd ls i < (rows.length : Int) then net_Path.l1 k rows t ws ls i (rd_L1 rows (rd ls i)) 0 else none) else none) else none) else net_Path.fin ws t
def net_Path.l1 : Nat → List (List Int) → Int → List (Int × List Int) → List Int → Int → List Int → Int → Option (List Int × Int)
  | 0, _, _, _, _, _, _, _ => none
  | k + 1, rows, t, ws, ls, i, row, x => if x < (row.length : Int) then (if 0 ≤ x then (match ws.lookup (rd row x) with
      | some _ => net_Path.l1 k rows t ws ls i row (wrap64 (x + 1))
      | none => if i < (ls.length : Int) then (if 0 ≤ i then (slices_Clone_int_int.f ((ws.lookup (rd ls i)).getD [])).bind fun c => if c.length < 17592186044416 then (if rd row x = t then net_Path.fin (ws ++ [(rd row x, c ++ [x])]) t else if ls.length < 17592186044416 then net_Path.l1 k rows t (ws ++ [(rd row x, c ++ [x])]) (ls ++ [rd row x]) i row (wrap64 (x + 1)) else none) else none else none) else none) else none) else net_Path.l0 k rows t ws ls (wrap64 (i + 1))
end
def net_Path.f (k : Nat) (l0_0 : List (List Int)) (a1 : Int) (a2 : Int) : Option (List Int × Int) :=
  (auto_Valid.f l0_0).bind fun v => if v = true then ((auto_State.f l0_0 a1).bind fun b1 => (auto_State.f l0_0 a2).bind fun b2 => if b1 = true then if b2 = true then (if a1 = a2 then some ([], 0) else net_Path.l0 k l0_0 a2 [(a1, [])] [a1] 0) else some ([], 2) else some ([], 2)) else some ([], 1)
theorem net_Path.mono_l : ∀ k, (∀ y0 y1 y2 y3 y4, LeO (net_Path.l0 k y0 y1 y2 y3 y4) (net_Path.l0 (k + 1) y0 y1 y2 y3 y4)) ∧ (∀ y0 y1 y2 y3 y4 y5 y6, LeO (net_Path.l1 k y0 y1 y2 y3 y4 y5 y6) (net_Path.l1 (k + 1) y0 y1 y2 y3 y4 y5 y6))
  | 0 => ⟨fun _ _ _ _ _ r h => by simp [net_Path.l0] at h, fun _ _ _ _ _ _ _ r h => by simp [net_Path.l1] at h⟩
  | k + 1 => by
    obtain ⟨ih0, ih1⟩ := net_Path.mono_l k
    refine ⟨?_, ?_⟩
    · intro y0 y1 y2 y3 y4
      unfold net_Path.l0
      repeat' first
      | (with_reducible exact ih1 _ _ _ _ _ _ _)
      | (with_reducible exact LeO.refl _)
      | (with_reducible exact LeO.none _)
      | (with_reducible refine LeO.ite ?_ ?_)
    · intro y0 y1 y2 y3 y4 y5 y6
      unfold net_Path.l1
      cases y2.lookup (rd y5 y6) <;>
      (repeat' first
      | (with_reducible exact ih0 _ _ _ _ _)
      | (with_reducible exact ih1 _ _ _ _ _ _ _)
      | (with_reducible exact LeO.refl _)
      | (with_reducible exact LeO.none _)
      | (with_reducible refine LeO.ite ?_ ?_)
      | (with_reducible refine LeO.bind ?_ (fun _ => ?_)))
theorem net_Path.mono : ∀ a0 a1 a2 k, LeO (net_Path.f k a0 a1 a2) (net_Path.f (k + 1) a0 a1 a2) := by
  intro a0 a1 a2 k
  obtain ⟨ih0, ih1⟩ := net_Path.mono_l k
  unfold net_Path.f
  repeat' first
      | (with_reducible exact ih0 _ _ _ _ _)
      | (with_reducible exact LeO.refl _)
      | (with_reducible exact LeO.none _)
      | (with_reducible refine LeO.ite ?_ ?_)
      | (with_reducible refine LeO.bind ?_ (fun _ => ?_))

/-- An entry of the map: the key, the slice's value, the list that it reads as. -/
abbrev PEnt := Int × Value × List Int
def wsOf (L : List PEnt) : List (Int × List Int) := L.map fun p => (p.1, p.2.2)
def esOf (L : List PEnt) : List (Int × Value) := L.map fun p => (p.1, p.2.1)
theorem lookup_both (x : Int) : ∀ L : List PEnt, ((wsOf L).lookup x = none ∧ (esOf L).lookup x = none) ∨ ∃ p ∈ L, (wsOf L).lookup x = some p.2.2 ∧ (esOf L).lookup x = some p.2.1
  | [] => .inl ⟨rfl, rfl⟩
  | (k, v, l) :: L => by
    by_cases h : x = k
    · subst h
      exact .inr ⟨_, List.mem_cons_self, by simp [wsOf, List.lookup_cons], by simp [esOf, List.lookup_cons]⟩
    · have hb : (x == k) = false := beq_eq_false_iff_ne.2 h
      rcases lookup_both x L with ⟨h1, h2⟩ | ⟨p, hp, h1, h2⟩
      · exact .inl ⟨by simpa [wsOf, List.lookup_cons, hb] using h1, by simpa [esOf, List.lookup_cons, hb] using h2⟩
      · exact .inr ⟨p, List.mem_cons_of_mem _ hp, by simpa [wsOf, List.lookup_cons, hb] using h1, by simpa [esOf, List.lookup_cons, hb] using h2⟩
def WordsR (W : World) (base : Nat) (lv : Value) (L : List PEnt) : Prop := ∀ p ∈ L, Kd.R (Kd.int .i64) 3 W base (fun q => some q ≠ lv.ownBlock) p.2.1 p.2.2
theorem WordsR.below {W W1 : World} {base : Nat} {lv : Value} {L : List PEnt} (h : WordsR W base lv L) (hb : Below W.heap.size W W1) : WordsR W1 base lv L := fun p hp => Kd.R_below (h p hp) hb
theorem WordsR.grown {W W1 : World} {base : Nat} {lv lv1 : Value} {L : List PEnt} (h : WordsR W base lv L) (hg : W.grownBy W1 lv.ownBlock) (hat : lv1.ownBlock = lv.ownBlock ∨ ∃ b, lv1.ownBlock = some b ∧ W.heap.size ≤ b) : WordsR W1 base lv1 L := by
  intro p hp
  have h1 := Kd.R_grown (Kd.R_bound (h p hp)) hg (fun k hk => hk.1)
  refine Kd.R_mono h1 (fun k hk => ?_)
  rcases hat with e | ⟨b, e, hb⟩
  · rw [e]; exact hk.1
  · rw [e]; intro e2; injection e2 with e2; have := hk.2.2.1; omega
theorem WordsR.map {W W1 : World} {base M : Nat} {lv : Value} {L : List PEnt} {arr : Array MapEntry} {clock : Nat} (h : WordsR W base lv L) (hg : W.grownBy W1 (some M)) (hm : W.heap[M]? = some (.map arr clock)) : WordsR W1 base lv L := by
  intro p hp
  refine Kd.R_mono (Kd.R_grown (Kd.R_bound (h p hp)) hg (fun k hk e => ?_)) (fun k hk => hk.1)
  injection e with e
  subst e
  obtain ⟨q, _, cells, hc⟩ := hk.2.2.2
  rw [hm] at hc
  cases hc

theorem esOf_snoc (L : List PEnt) (p : PEnt) : esOf (L ++ [p]) = esOf L ++ [(p.1, p.2.1)] := by simp [esOf]
theorem wsOf_snoc (L : List PEnt) (p : PEnt) : wsOf (L ++ [p]) = wsOf L ++ [(p.1, p.2.2)] := by simp [wsOf]
theorem lookup_snoc {β : Type} (x : Int) (v : β) : ∀ l : List (Int × β), l.lookup x = none → (l ++ [(x, v)]).lookup x = some v
  | [], _ => by simp [List.lookup_cons]
  | (k, y) :: l, h => by
    by_cases e : x = k
    · subst e; simp [List.lookup_cons] at h
    · have hb : (x == k) = false := beq_eq_false_iff_ne.2 e
      simp only [List.lookup_cons, hb] at h
      simp only [List.cons_append, List.lookup_cons, hb]
      exact lookup_snoc x v l h
theorem word_reads {W : World} {base : Nat} {lv : Value} {L : List PEnt} (h : WordsR W base lv L) (x : Int) :
    ∃ A c, ((esOf L).lookup x).getD (.slice none 0 0) = .slice A (((wsOf L).lookup x).getD []).length c ∧ (((wsOf L).lookup x).getD []).length ≤ c ∧ Kd.C (Kd.int .i64) W A (((wsOf L).lookup x).getD []).length (((wsOf L).lookup x).getD []) := by
  rcases lookup_both x L with ⟨q1, q2⟩ | ⟨p, hp, q1, q2⟩
  · rw [q1, q2]; exact ⟨none, 0, rfl, Nat.le_refl _, Kd.C_nil _ _⟩
  · rw [q1, q2]; exact Kd.R_reads (h p hp)
/-- What lies below is left alone by a write into a block that is younger. -/
theorem WordsR.young {W W1 W2 : World} {base : Nat} {lv : Value} {L : List PEnt} {row : Option Nat} (h : WordsR W base lv L) (hb : Below W.heap.size W W1) (hg : W1.grownBy W2 row) (hr : ∀ k, row = some k → W.heap.size ≤ k) : WordsR W2 base lv L := by
  intro p hp
  refine Kd.R_mono (Kd.R_grown (Kd.R_below (Kd.R_bound (h p hp)) hb) hg (fun k hk e => ?_)) (fun k hk => hk.1)
  have := hr k e.symm
  have := hk.2.2.1
  omega
theorem zero_ints (w : World) : (zeroValue 28).run Try.prog w = .ok (.slice none 0 0) w := by kernel_rfl
theorem look_words {W : World} {M : Nat} {es : List (Int × Value)} (h : MapIs (IntKey .i64) (Value.int .i64) W M es) (x : Int) (c : Bool) :
    (Instr.lookup 77 (.map (some M)) (.int .i64 x) c).run Try.prog W = .ok (if c then .tuple #[(es.lookup x).getD (.slice none 0 0), .bool (es.lookup x).isSome] else (es.lookup x).getD (.slice none 0 0)) W :=
  MapIs.lookup h (int_keyOk Try.underlying3) (fun a b e => by cases e; rfl) Try.underlying77 (zero_ints W) x ⟨_, rfl⟩ c

set_option maxHeartbeats 4000000 in
set_option maxRecDepth 100000 in
theorem net_Path.calls (k : Nat) (A0_0 : Option Addr) (c0_0 : Nat) (l0_0 : List (List Int)) (a1 : Int) (a2 : Int) (r1 : List Int) (r2 : Int) (w : World) (hr0_0 : Kd.C (Kd.slice 3 (Kd.int .i64)) w A0_0 l0_0.length l0_0) (hc0_0 : l0_0.length ≤ c0_0) (h : net_Path.f k l0_0 a1 a2 = some (r1, r2)) :
    Calls Try.prog 17 #[.agg #[.slice A0_0 l0_0.length c0_0], .int .i64 a1, .int .i64 a2] w fun e w' => ∃ v0_ : Value, e = .returned (.tuple #[v0_, .int .i64 r2]) ∧ Kd.R (Kd.int .i64) 3 w' w.heap.size (fun _ => True) v0_ r1 ∧ Below w.heap.size w w' := by
  have HR := Aside0.mk hr0_0
  have HC := Aside0.mk hc0_0
  have HB0 := Below.refl w.heap.size w
  clear hr0_0 hc0_0
  have H := h
  clear h
  unfold net_Path.f at H
  replace H := Option.bind_eq_some_iff.mp H
  obtain ⟨v, hv, H⟩ := H
  have HV := Aside0.mk hv
  clear hv
  cases v with
  | false =>
    rw [if_neg (by decide)] at H
    simp only [Option.some.injEq, Prod.mk.injEq] at H
    obtain ⟨rfl, rfl⟩ := H
    go_enter Try.func17, Try.ntmps17
    go_wp2_with ((with_reducible refine gate_dst (N := 3) rfl ?_); refine box_event ?hg (N := 3) ?hd (cs := #[.slice A0_0 l0_0.length c0_0]) (t := 24) ?hr ?_; (case hd => rfl); (case hg => rfl); (case hr => first | (go_simp; done) | (go_simp; rfl)); intro B hBe w1 hbox hb1; have hcb : w1.cell? ⟨B, 0, none⟩ = some (.slice A0_0 l0_0.length c0_0) := (blk_cell hbox 0).trans rfl; have HBox := Aside0.mk hbox; have HB1 := Aside0.mk (below_step HB0 hb1); have HBE := Aside0.mk (show w.heap.size ≤ B by omega); clear hbox hb1 hBe)
    go_step3
    go_wp2_with fail
    refine (auto_Valid.calls _ _ l0_0 false _ (Kd.C_below HR.out HB1.out) HC.out HV.out).mono ?_
    rintro e w2 ⟨rfl, hb2⟩
    have HB2 := Aside0.mk (below_step HB1.out hb2)
    clear hb2
    go_wp2
    (try simp only [Exit.noGoto_ret])
    go_ret2
    exact ⟨_, rfl, Kd.R_nil _ _ _ _ _, HB2.out⟩
  | true =>
    rw [if_pos rfl] at H
    replace H := Option.bind_eq_some_iff.mp H
    obtain ⟨b1, hb1, H⟩ := H
    replace H := Option.bind_eq_some_iff.mp H
    obtain ⟨b2, hb2, H⟩ := H
    have HS1 := Aside0.mk hb1
    have HS2 := Aside0.mk hb2
    clear hb1 hb2
    cases b1 with
    | false =>
      rw [if_neg (by decide)] at H
      simp only [Option.some.injEq, Prod.mk.injEq] at H
      obtain ⟨rfl, rfl⟩ := H
      go_enter Try.func17, Try.ntmps17
      go_wp2_with ((with_reducible refine gate_dst (N := 3) rfl ?_); refine box_event ?hg (N := 3) ?hd (cs := #[.slice A0_0 l0_0.length c0_0]) (t := 24) ?hr ?_; (case hd => rfl); (case hg => rfl); (case hr => first | (go_simp; done) | (go_simp; rfl)); intro B hBe w1 hbox hb1; have hcb : w1.cell? ⟨B, 0, none⟩ = some (.slice A0_0 l0_0.length c0_0) := (blk_cell hbox 0).trans rfl; have HBox := Aside0.mk hbox; have HB1 := Aside0.mk (below_step HB0 hb1); have HBE := Aside0.mk (show w.heap.size ≤ B by omega); clear hbox hb1 hBe)
      go_step3
      go_wp2_with fail
      refine (auto_Valid.calls _ _ l0_0 true _ (Kd.C_below HR.out HB1.out) HC.out HV.out).mono ?_
      rintro e w2 ⟨rfl, hb2⟩
      have HB2 := Aside0.mk (below_step HB1.out hb2)
      have HBox2 := Aside0.mk (blk_below HBox.out hb2)
      have hcb2 : w2.cell? ⟨B, 0, none⟩ = some (.slice A0_0 l0_0.length c0_0) := (blk_cell HBox2.out 0).trans rfl
      clear hb2 hcb
      go_wp2_with fail
      refine (auto_State.calls _ _ l0_0 a1 false _ (Kd.C_below HR.out HB2.out) HC.out HS1.out).mono ?_
      rintro e w3 ⟨rfl, hb3⟩
      have HB3 := Aside0.mk (below_step HB2.out hb3)
      clear hb3 hcb2
      go_wp2
      (try simp only [Exit.noGoto_ret])
      go_ret2
      exact ⟨_, rfl, Kd.R_nil _ _ _ _ _, HB3.out⟩
    | true =>
      rw [if_pos rfl] at H
      cases b2 with
      | false =>
        rw [if_neg (by decide)] at H
        simp only [Option.some.injEq, Prod.mk.injEq] at H
        obtain ⟨rfl, rfl⟩ := H
        go_enter Try.func17, Try.ntmps17
        go_wp2_with ((with_reducible refine gate_dst (N := 3) rfl ?_); refine box_event ?hg (N := 3) ?hd (cs := #[.slice A0_0 l0_0.length c0_0]) (t := 24) ?hr ?_; (case hd => rfl); (case hg => rfl); (case hr => first | (go_simp; done) | (go_simp; rfl)); intro B hBe w1 hbox hb1; have hcb : w1.cell? ⟨B, 0, none⟩ = some (.slice A0_0 l0_0.length c0_0) := (blk_cell hbox 0).trans rfl; have HBox := Aside0.mk hbox; have HB1 := Aside0.mk (below_step HB0 hb1); have HBE := Aside0.mk (show w.heap.size ≤ B by omega); clear hbox hb1 hBe)
        go_step3
        go_wp2_with fail
        refine (auto_Valid.calls _ _ l0_0 true _ (Kd.C_below HR.out HB1.out) HC.out HV.out).mono ?_
        rintro e w2 ⟨rfl, hb2⟩
        have HB2 := Aside0.mk (below_step HB1.out hb2)
        have HBox2 := Aside0.mk (blk_below HBox.out hb2)
        have hcb2 : w2.cell? ⟨B, 0, none⟩ = some (.slice A0_0 l0_0.length c0_0) := (blk_cell HBox2.out 0).trans rfl
        clear hb2 hcb
        go_wp2_with fail
        refine (auto_State.calls _ _ l0_0 a1 true _ (Kd.C_below HR.out HB2.out) HC.out HS1.out).mono ?_
        rintro e w3 ⟨rfl, hb3⟩
        have HB3 := Aside0.mk (below_step HB2.out hb3)
        have HBox3 := Aside0.mk (blk_below HBox2.out hb3)
        have hcb3 : w3.cell? ⟨B, 0, none⟩ = some (.slice A0_0 l0_0.length c0_0) := (blk_cell HBox3.out 0).trans rfl
        clear hb3 hcb2
        go_wp2_with fail
        refine (auto_State.calls _ _ l0_0 a2 false _ (Kd.C_below HR.out HB3.out) HC.out HS2.out).mono ?_
        rintro e w4 ⟨rfl, hb4⟩
        have HB4 := Aside0.mk (below_step HB3.out hb4)
        clear hb4 hcb3
        go_wp2
        (try simp only [Exit.noGoto_ret])
        go_ret2
        exact ⟨_, rfl, Kd.R_nil _ _ _ _ _, HB4.out⟩
      | true =>
        rw [if_pos rfl] at H
        go_enter Try.func17, Try.ntmps17
        go_wp2_with ((with_reducible refine gate_dst (N := 3) rfl ?_); refine box_event ?hg (N := 3) ?hd (cs := #[.slice A0_0 l0_0.length c0_0]) (t := 24) ?hr ?_; (case hd => rfl); (case hg => rfl); (case hr => first | (go_simp; done) | (go_simp; rfl)); intro B hBe w1 hbox hb1; have hcb : w1.cell? ⟨B, 0, none⟩ = some (.slice A0_0 l0_0.length c0_0) := (blk_cell hbox 0).trans rfl; have HBox := Aside0.mk hbox; have HB1 := Aside0.mk (below_step HB0 hb1); have HBE := Aside0.mk (show w.heap.size ≤ B by omega); clear hbox hb1 hBe)
        go_step3
        go_wp2_with fail
        refine (auto_Valid.calls _ _ l0_0 true _ (Kd.C_below HR.out HB1.out) HC.out HV.out).mono ?_
        rintro e w2 ⟨rfl, hb2⟩
        have HB2 := Aside0.mk (below_step HB1.out hb2)
        have HBox2 := Aside0.mk (blk_below HBox.out hb2)
        have hcb2 : w2.cell? ⟨B, 0, none⟩ = some (.slice A0_0 l0_0.length c0_0) := (blk_cell HBox2.out 0).trans rfl
        clear hb2 hcb
        go_wp2_with fail
        refine (auto_State.calls _ _ l0_0 a1 true _ (Kd.C_below HR.out HB2.out) HC.out HS1.out).mono ?_
        rintro e w3 ⟨rfl, hb3⟩
        have HB3 := Aside0.mk (below_step HB2.out hb3)
        have HBox3 := Aside0.mk (blk_below HBox2.out hb3)
        have hcb3 : w3.cell? ⟨B, 0, none⟩ = some (.slice A0_0 l0_0.length c0_0) := (blk_cell HBox3.out 0).trans rfl
        clear hb3 hcb2
        go_wp2_with fail
        refine (auto_State.calls _ _ l0_0 a2 true _ (Kd.C_below HR.out HB3.out) HC.out HS2.out).mono ?_
        rintro e w4 ⟨rfl, hb4⟩
        have HB4 := Aside0.mk (below_step HB3.out hb4)
        have HBox4 := Aside0.mk (blk_below HBox3.out hb4)
        clear hb4 hcb3
        by_cases he : a1 = a2
        · rw [if_pos he] at H
          simp only [Option.some.injEq, Prod.mk.injEq] at H
          obtain ⟨rfl, rfl⟩ := H
          have he' : (a1 == a2) = true := beq_iff_eq.mpr he
          clear he
          go_wp2
          (try simp only [Exit.noGoto_ret])
          go_ret2
          exact ⟨_, rfl, Kd.R_nil _ _ _ _ _, HB4.out⟩
        · rw [if_neg he] at H
          have he' : (a1 == a2) = false := beq_eq_false_iff_ne.mpr he
          clear he
          have hmm := @run_makeMap Try.prog
          have H' := Aside0.mk H
          clear H
          go_wp2_with (first | ((with_reducible refine gate_dst (N := 38) rfl ?_); refine Kd.R_lit (Kd.int .i64) _ 3 ?hg (N := 38) ?hd (xs := ([] : List Int)) (inner := []) (ok := fun _ => True) (okp := fun _ => True) ?hr ?hp (fun _ hk => hk) trivial (Below.refl _ _) (Nat.le_refl _) (by simp) ?_; (case hd => rfl); (case hg => rfl); (case hr => first | (go_simp; done) | (go_simp; rfl)); (case hp => exact (Reps.none _ _)); intro v5 w5 hO5 hb5 _ _; obtain ⟨w6, hrun6, hm6, hg6⟩ := MapIs.update (t := 77) (MapIs.below (MapIs.made (α := Int) (G := IntKey .i64) (enc := Value.int .i64) w4) hb5) (int_keyOk Try.underlying3) (fun a b e => by cases e; rfl) Try.underlying77 a1 ⟨_, rfl⟩ v5; have HM5 := Aside0.mk (MapIs.below (MapIs.made (α := Int) (G := IntKey .i64) (enc := Value.int .i64) w4) hb5); have HB46 := Aside0.mk (pw_below_grown (below_step (below_step HB4.out (below_alloc (Below.refl _ _) (.map #[] 0))) hb5) (some w4.heap.size) (below_step (below_step HB4.out (below_alloc (Below.refl _ _) (.map #[] 0))) hb5).size hg6 (fun k e => by cases e; exact HB4.out.size)); have HBox6 := Aside0.mk (blk_grown (blk_below (blk_below HBox4.out (below_alloc (Below.refl _ _) (.map #[] 0))) hb5) hg6 (fun e => (MapIs.ne (MapIs.below (MapIs.made (α := Int) (G := IntKey .i64) (enc := Value.int .i64) w4) hb5) (blk_below (blk_below HBox4.out (below_alloc (Below.refl _ _) (.map #[] 0))) hb5)) (by injection e with e; exact e.symm))); have HG6 := Aside0.mk hg6; have HM6 := Aside0.mk hm6; have HO5 := Aside0.mk hO5; clear hO5 hb5 hm6 hg6)  | ((with_reducible refine gate_dst (N := 41) rfl ?_); refine Kd.R_lit (Kd.int .i64) _ 3 ?hg (N := 41) ?hd (xs := ([a1] : List Int)) (inner := [.int .i64 a1]) (ok := fun _ => True) (okp := fun _ => True) ?hr ?hp (fun _ hk => hk) trivial (Below.refl _ _) (Nat.le_refl _) (by simp) ?_; (case hd => rfl); (case hg => rfl); (case hr => first | (go_simp; done) | (go_simp; rfl)); (case hp => exact (Reps.one (show Kd.M (Kd.int .i64) _ _ _ a1 [.int .i64 a1] from rfl) (Reps.none _ _))); intro v7 w7 hO7 hb7 _ hn7; have HO7 := Aside0.mk (Kd.R_lower hO7 HB46.out.size); have HB7 := Aside0.mk (below_step HB46.out hb7); have HN7 := Aside0.mk hn7; have HB67 := Aside0.mk hb7; have HM7 := Aside0.mk (MapIs.below HM6.out hb7); have HBox7 := Aside0.mk (blk_below HBox6.out hb7); clear hO7 hb7 hn7))
          go_step3
          have hL0 : WordsR w7 w.heap.size v7 [(a1, v5, [])] := by
            intro p hp
            rw [List.mem_singleton.1 hp]
            obtain ⟨b, e7, hb⟩ := HN7.out
            refine Kd.R_mono (Kd.R_below (Kd.R_grown (Kd.R_bound (Kd.R_lower HO5.out (show w.heap.size ≤ (w4.alloc (.map #[] 0)).heap.size by have := HB4.out.size; simp; omega))) HG6.out (fun k hk e => ?_)) HB67.out) (fun k hk => ?_)
            · injection e with e
              subst e
              obtain ⟨q, _, cells, hc⟩ := hk.2.2.2
              obtain ⟨arr, clock, hm, _⟩ := HM5.out
              rw [hm] at hc
              cases hc
            · rw [e7]
              intro e
              injection e with e
              have h1 := hk.2.2.1
              have h2 := HG6.out.size
              omega
          have HL := Aside0.mk hL0
          clear hL0
          go_wp2
          go_loopg [9, 10] k (fun kq v9 v10 w' => ∃ (ls : List Int) (i : Int) (L : List PEnt), v10 = .int .i64 i ∧ Aside0 (net_Path.l0 kq l0_0 a2 (wsOf L) ls i = some (r1, r2)) ∧ Aside0 (kq ≤ k) ∧ Aside0 (Kd.R (Kd.int .i64) 3 w' w.heap.size (fun _ => True) v9 ls) ∧ Aside0 (MapIs (IntKey .i64) (Value.int .i64) w' w4.heap.size (esOf L)) ∧ Aside0 (WordsR w' w.heap.size v9 L) ∧ Aside0 (w'.heap[B]? = some (.cells #[.slice A0_0 l0_0.length c0_0] 24 (0, 0))) ∧ Aside0 (Below w.heap.size w w'))
          case atStart => exact ⟨[a1], 0, [(a1, v5, [])], rfl, H', ⟨Nat.le_refl _⟩, HO7, HM7, HL, HBox7, HB7⟩
          case round =>
            clear H' HL HO7 HM7 HBox7 HB7 HM6 HM5 HO5 HN7 HB67 HG6 hrun6
            obtain ⟨ls, i, L, rfl, HA, HK1, HO, HM, HW, HBx, HB⟩ := hrel
            cases gk with
            | zero => exact absurd HA.out (by simp [net_Path.l0])
            | succ k1 =>
              have H := HA.out
              clear HA
              simp only [net_Path.l0] at H
              obtain ⟨Ao, co, eo⟩ := Kd.R_slice HO.out
              subst eo
              by_cases d1 : i < (ls.length : Int)
              · rw [if_pos d1] at H
                by_cases d2 : 0 ≤ i
                · rw [if_pos d2] at H
                  by_cases d3 : 0 ≤ rd ls i
                  · rw [if_pos d3] at H
                    by_cases d4 : rd ls i < (l0_0.length : Int)
                    · rw [if_pos d4] at H
                      obtain ⟨ad, ea, hxi⟩ := Kd.at_int (Kd.R_reads' HO.out).2.2 i d2 d1
                      cases ea
                      obtain ⟨ad2, A5, c5, ea2, hx2, hl2, hg2⟩ := at_L1 HR.out (rd ls i) d3 d4
                      cases ea2
                      replace hx2 := pw_cell_below HB.out hx2
                      have HRow := Aside0.mk hg2
                      have HLL := Aside0.mk hl2
                      have hcB : wr.cell? ⟨B, 0, none⟩ = some (.slice (some ad2) l0_0.length c0_0) := (blk_cell HBx.out 0).trans rfl
                      clear hg2 hl2
                      generalize hrow : rd_L1 l0_0 (rd ls i) = row at H HRow HLL hx2
                      have HRW := Aside0.mk hrow
                      clear hrow
                      have hrm : row.length ≤ 9223372036854775807 := HRow.out.2.1
                      have H' := Aside0.mk H
                      clear H
                      have d1b := decide_eq_true d1
                      have D1 := Aside0.mk d1
                      have D2 := Aside0.mk d2
                      have p1 := eq_true d1
                      have p2 := eq_true d2
                      have p3 := eq_true d3
                      have p4 := eq_true d4
                      clear d1 d2 d3 d4
                      go_wp2
                      go_quiet (fail)
                      go_wp2
                      go_loopg [9, 57] k1 (fun kq v9 v57 w' => ∃ (ls2 : List Int) (x : Int) (L2 : List PEnt), v57 = .int .i64 x ∧ Aside0 (net_Path.l1 kq l0_0 a2 (wsOf L2) ls2 i row x = some (r1, r2)) ∧ Aside0 (kq ≤ k1) ∧ Aside0 (Kd.R (Kd.int .i64) 3 w' w.heap.size (fun _ => True) v9 ls2) ∧ Aside0 (MapIs (IntKey .i64) (Value.int .i64) w' w4.heap.size (esOf L2)) ∧ Aside0 (WordsR w' w.heap.size v9 L2) ∧ Aside0 (w'.heap[B]? = some (.cells #[.slice (some ad2) l0_0.length c0_0] 24 (0, 0))) ∧ Aside0 (Below w.heap.size w w'))
                      case atStart => exact ⟨ls, 0, L, rfl, H', ⟨Nat.le_refl _⟩, ⟨Kd.R_below HO.out (pw_below_drewN (Below.refl _ _) _)⟩, ⟨HM.out.below (pw_below_drewN (Below.refl _ _) _)⟩, ⟨HW.out.below (pw_below_drewN (Below.refl _ _) _)⟩, ⟨blk_below HBx.out (pw_below_drewN (Below.refl _ _) _)⟩, ⟨pw_below_drewN HB.out _⟩⟩
                      case round =>
                        clear H' HO HM HW HBx HB hx2 hcB hxi p1 p2 p3 p4 d1b D1
                        obtain ⟨ls2, x, L2, rfl, HA, HK2, HO, HM, HW, HBx, HB⟩ := hrel
                        cases gk with
                        | zero => exact absurd HA.out (by simp [net_Path.l1])
                        | succ k2 =>
                          have H := HA.out
                          clear HA
                          simp only [net_Path.l1] at H
                          obtain ⟨Ao2, co2, eo⟩ := Kd.R_slice HO.out
                          subst eo
                          by_cases e1 : x < (row.length : Int)
                          · rw [if_pos e1] at H
                            by_cases e2 : 0 ≤ x
                            · rw [if_pos e2] at H
                              obtain ⟨ad3, ea3, hxr⟩ := Kd.at_int (Kd.C_below HRow.out HB.out) x e2 e1
                              cases ea3
                              obtain ⟨u, hu⟩ : ∃ u, u = rd row x := ⟨_, rfl⟩
                              rw [← hu] at H hxr
                              have HU := Aside0.mk hu
                              clear hu
                              have hlk := look_words HM.out u true
                              rw [if_pos rfl] at hlk
                              rcases lookup_both u L2 with ⟨q1, q2⟩ | ⟨p, hp, q1, q2⟩
                              · rw [q1] at H
                                rw [q2] at hlk
                                have Q2 := Aside0.mk q2
                                simp only at H
                                have Q1 := Aside0.mk q1
                                clear q1 q2
                                by_cases f1 : i < (ls2.length : Int)
                                · rw [if_pos f1, if_pos D2.out] at H
                                  replace H := Option.bind_eq_some_iff.mp H
                                  obtain ⟨c, hc, H⟩ := H
                                  by_cases f2 : c.length < 17592186044416
                                  · rw [if_pos f2] at H
                                    obtain ⟨ad4, ea4, hxi⟩ := Kd.at_int (Kd.R_reads' HO.out).2.2 i D2.out f1
                                    cases ea4
                                    obtain ⟨Aw, cw, hwv, hwl, hwc⟩ := word_reads HW.out (rd ls2 i)
                                    have hlk2 := look_words HM.out (rd ls2 i) false
                                    rw [if_neg (by decide), hwv] at hlk2
                                    have HCl := Aside0.mk (slices_Clone_int_int.calls Aw cw _ c wr hwc hwl hc)
                                    have F2 := Aside0.mk f2
                                    have HLT := Aside0.mk (Kd.R_lt HO.out)
                                    clear hwv hwl hwc hc f2
                                    have e1b := decide_eq_true e1
                                    have p1 := eq_true e1
                                    have p2 := eq_true e2
                                    have p3 := eq_true f1
                                    have d2 := eq_true D2.out
                                    clear e1 e2 f1
                                    by_cases he2 : u = a2
                                    · rw [if_pos he2] at H
                                      subst he2
                                      have he2b : (u == u) = true := beq_self_eq_true u
                                      unfold net_Path.fin at H
                                      rw [lookup_snoc _ _ _ Q1.out] at H
                                      simp only [Option.some.injEq, Prod.mk.injEq] at H
                                      obtain ⟨rfl, rfl⟩ := H
                                      go_wp2_with (first | (go_at_call 66; refine (HCl.out).mono ?_; rintro e w8 ⟨v8, rfl, hO8, hb8⟩; have HO8 := Aside0.mk (Kd.R_bound hO8); have HB8 := Aside0.mk (below_step HB.out hb8); have HB8' := Aside0.mk hb8; clear hO8 hb8; obtain ⟨A8, c8, e8⟩ := Kd.R_slice HO8.out; subst e8)  | ((with_reducible refine gate_builtin (b := .append) (xs := #[.tmp 77, .tmp 79]) rfl ?_); at_builtin; refine Kd.R_append (Kd.int .i64) (w0 := w) w.heap.size rfl (.tmp 77) (.tmp 79) 28 3 (.int .i64 0) 8 rfl Try.underlying28 info3 rfl (by decide) (by omega) (.slice A8 c.length c8) c x [.int .i64 x] (fun q => some q ≠ (Value.slice (some ad4) ls2.length co2).ownBlock) (fun _ => False) rfl rfl ?aP (fun _ hk => hk.elim) ?aF ?aO ?aB ?aS ?aL ?_; (case aP => exact rfl); (case aB => exact HB8.out); (case aF => exact (fun q hq e => by have := HLT.out q e.symm; have := HB8'.out.size; omega)); (case aO => exact Kd.R_mono (Kd.R_lower HO8.out HB.out.size) (fun q hq e => by have := HLT.out q e.symm; have := hq.2.1; omega)); (case aS => exact HB8.out.size); (case aL => have := F2.out; omega); intro v10 w10 hO10 hb10 hg10 hat10; have hrow10 : ∀ q, (Value.slice A8 c.length c8).ownBlock = some q → wr.heap.size ≤ q := fun q hq => Kd.R_base HO8.out q hq; have hM10 : MapIs (IntKey .i64) (Value.int .i64) w10 w4.heap.size (esOf L2) := (HM.out.below HB8'.out).kept hg10 (fun e => by have := hrow10 _ e.symm; have := HM.out.lt; omega); obtain ⟨w11, hrun11, hm11, hg11⟩ := MapIs.update (t := 77) hM10 (int_keyOk Try.underlying3) (fun a b e => by cases e; rfl) Try.underlying77 u ⟨_, rfl⟩ v10; rw [putM_new Q2.out] at hm11; obtain ⟨arr10, ck10, hm10, _⟩ := hM10; have HMe := Aside0.mk hm11; have HO11 := Aside0.mk (Kd.R_mono (Kd.R_grown (Kd.R_bound hO10) hg11 (fun q hq e => by injection e with e; subst e; obtain ⟨z, _, cells, hz⟩ := hq.2.2.2; rw [hm10] at hz; cases hz)) (fun q hq => hq.1)); have HW11a := Aside0.mk ((HW.out.young HB8'.out hg10 hrow10).map hg11 hm10); have HL11 := Aside0.mk (Kd.R_mono (Kd.R_grown (Kd.R_bound (Kd.R_mono (Kd.R_grown (Kd.R_below (Kd.R_bound HO.out) HB8'.out) hg10 (fun q hq e => by have := hrow10 q e.symm; have := hq.2.2.1; omega)) (fun q hq => hq.1))) hg11 (fun q hq e => by injection e with e; subst e; obtain ⟨z, _, cells, hz⟩ := hq.2.2.2; rw [hm10] at hz; cases hz)) (fun q hq => trivial)); have HBx11 := Aside0.mk (blk_grown (blk_grown (blk_below HBx.out HB8'.out) hg10 (fun e => by have := hrow10 _ e.symm; have := blk_lt HBx.out; omega)) hg11 (fun e => by injection e with e; have h1 := blk_grown (blk_below HBx.out HB8'.out) hg10 (fun e => by have := hrow10 _ e.symm; have := blk_lt HBx.out; omega); rw [e, hm10] at h1; cases h1)); have HB11 := Aside0.mk (pw_below_grown hb10 (some w4.heap.size) hb10.size hg11 (fun q e => by cases e; exact HB4.out.size)); have hlk3 := look_words HMe.out u true; rw [if_pos rfl, lookup_snoc _ _ _ Q2.out] at hlk3; clear hO10 hb10 hg10 hat10 hrow10 hm10 hm11 hg11))
                                      (try simp only [Exit.noGoto_ret])
                                      go_ret2
                                      exact ⟨_, rfl, Kd.R_mono HO11.out (fun _ _ => trivial), HB11.out⟩
                                    · rw [if_neg he2] at H
                                      have he2b : (u == a2) = false := beq_eq_false_iff_ne.mpr he2
                                      clear he2
                                      by_cases f3 : ls2.length < 17592186044416
                                      · rw [if_pos f3] at H
                                        have F3 := Aside0.mk f3
                                        clear f3
                                        have H' := Aside0.mk H
                                        clear H
                                        go_wp2_with (first | (go_at_call 66; refine (HCl.out).mono ?_; rintro e w8 ⟨v8, rfl, hO8, hb8⟩; have HO8 := Aside0.mk (Kd.R_bound hO8); have HB8 := Aside0.mk (below_step HB.out hb8); have HB8' := Aside0.mk hb8; clear hO8 hb8; obtain ⟨A8, c8, e8⟩ := Kd.R_slice HO8.out; subst e8)  | ((with_reducible refine gate_builtin (b := .append) (xs := #[.tmp 77, .tmp 79]) rfl ?_); at_builtin; refine Kd.R_append (Kd.int .i64) (w0 := w) w.heap.size rfl (.tmp 77) (.tmp 79) 28 3 (.int .i64 0) 8 rfl Try.underlying28 info3 rfl (by decide) (by omega) (.slice A8 c.length c8) c x [.int .i64 x] (fun q => some q ≠ (Value.slice (some ad4) ls2.length co2).ownBlock) (fun _ => False) rfl rfl ?aP (fun _ hk => hk.elim) ?aF ?aO ?aB ?aS ?aL ?_; (case aP => exact rfl); (case aB => exact HB8.out); (case aF => exact (fun q hq e => by have := HLT.out q e.symm; have := HB8'.out.size; omega)); (case aO => exact Kd.R_mono (Kd.R_lower HO8.out HB.out.size) (fun q hq e => by have := HLT.out q e.symm; have := hq.2.1; omega)); (case aS => exact HB8.out.size); (case aL => have := F2.out; omega); intro v10 w10 hO10 hb10 hg10 hat10; have hrow10 : ∀ q, (Value.slice A8 c.length c8).ownBlock = some q → wr.heap.size ≤ q := fun q hq => Kd.R_base HO8.out q hq; have hM10 : MapIs (IntKey .i64) (Value.int .i64) w10 w4.heap.size (esOf L2) := (HM.out.below HB8'.out).kept hg10 (fun e => by have := hrow10 _ e.symm; have := HM.out.lt; omega); obtain ⟨w11, hrun11, hm11, hg11⟩ := MapIs.update (t := 77) hM10 (int_keyOk Try.underlying3) (fun a b e => by cases e; rfl) Try.underlying77 u ⟨_, rfl⟩ v10; rw [putM_new Q2.out] at hm11; obtain ⟨arr10, ck10, hm10, _⟩ := hM10; have HMe := Aside0.mk hm11; have HO11 := Aside0.mk (Kd.R_mono (Kd.R_grown (Kd.R_bound hO10) hg11 (fun q hq e => by injection e with e; subst e; obtain ⟨z, _, cells, hz⟩ := hq.2.2.2; rw [hm10] at hz; cases hz)) (fun q hq => hq.1)); have HW11a := Aside0.mk ((HW.out.young HB8'.out hg10 hrow10).map hg11 hm10); have HL11 := Aside0.mk (Kd.R_mono (Kd.R_grown (Kd.R_bound (Kd.R_mono (Kd.R_grown (Kd.R_below (Kd.R_bound HO.out) HB8'.out) hg10 (fun q hq e => by have := hrow10 q e.symm; have := hq.2.2.1; omega)) (fun q hq => hq.1))) hg11 (fun q hq e => by injection e with e; subst e; obtain ⟨z, _, cells, hz⟩ := hq.2.2.2; rw [hm10] at hz; cases hz)) (fun q hq => trivial)); have HBx11 := Aside0.mk (blk_grown (blk_grown (blk_below HBx.out HB8'.out) hg10 (fun e => by have := hrow10 _ e.symm; have := blk_lt HBx.out; omega)) hg11 (fun e => by injection e with e; have h1 := blk_grown (blk_below HBx.out HB8'.out) hg10 (fun e => by have := hrow10 _ e.symm; have := blk_lt HBx.out; omega); rw [e, hm10] at h1; cases h1)); have HB11 := Aside0.mk (pw_below_grown hb10 (some w4.heap.size) hb10.size hg11 (fun q e => by cases e; exact HB4.out.size)); clear hO10 hb10 hg10 hat10 hrow10 hm10 hm11 hg11)  | ((with_reducible refine gate_builtin (b := .append) (xs := #[.tmp 84, .tmp 86]) rfl ?_); at_builtin; refine Kd.R_append (Kd.int .i64) (w0 := w) w.heap.size rfl (.tmp 84) (.tmp 86) 28 3 (.int .i64 0) 8 rfl Try.underlying28 info3 rfl (by decide) (by omega) (.slice (some ad4) ls2.length co2) ls2 u [.int .i64 u] (fun _ => True) (fun _ => False) rfl rfl ?aP (fun _ hk => hk.elim) ?aF ?aO ?aB ?aS ?aL ?_; (case aP => exact rfl); (case aB => exact HB11.out); (case aF => exact (fun _ _ => trivial)); (case aO => exact HL11.out); (case aS => exact HB11.out.size); (case aL => have := F3.out; omega); intro v12 w12 hO12 hb12 hg12 hat12; have HW11 : WordsR w11 w.heap.size (.slice (some ad4) ls2.length co2) (L2 ++ [(u, v10, c ++ [x])]) := (fun p hp => by rcases List.mem_append.1 hp with h | h; exact HW11a.out p h; rw [List.mem_singleton.1 h]; exact HO11.out); have HW12 := Aside0.mk (HW11.grown hg12 hat12); have HM12 := Aside0.mk (HMe.out.kept hg12 (fun e => by obtain ⟨cells, hz⟩ := Kd.R_typed HL11.out _ e.symm; obtain ⟨arr, ck, hz2, _⟩ := HMe.out; rw [hz2] at hz; cases hz)); have HBx12 := Aside0.mk (blk_grown HBx11.out hg12 (Kd.R_ne HL11.out HBx11.out (by decide))); have HO12 := Aside0.mk hO12; have HB12 := Aside0.mk hb12; clear hO12 hb12 hg12 hat12 HW11))
                                        go_roundg k2
                                        case measure => have := HK1.out; have := HK2.out; omega
                                        case rel => exact ⟨ls2 ++ [u], _, L2 ++ [(u, v10, c ++ [x])], rfl, ⟨by rw [wsOf_snoc]; exact H'.out⟩, ⟨by have := HK2.out; omega⟩, HO12, ⟨by rw [esOf_snoc]; exact HM12.out⟩, HW12, HBx12, HB12⟩
                                      · rw [if_neg f3] at H; exact absurd H (by simp)
                                  · rw [if_neg f2] at H; exact absurd H (by simp)
                                · rw [if_neg f1] at H; exact absurd H (by simp)
                              · rw [q1] at H
                                rw [q2] at hlk
                                simp only at H
                                have H' := Aside0.mk H
                                have e1b := decide_eq_true e1
                                have p1 := eq_true e1
                                have p2 := eq_true e2
                                clear q1 q2 hp H e1 e2
                                go_wp2
                                go_roundg k2
                                case measure => have := HK1.out; have := HK2.out; omega
                                case rel => exact ⟨ls2, _, L2, rfl, H', ⟨by have := HK2.out; omega⟩, HO, HM, HW, HBx, HB⟩
                            · rw [if_neg e2] at H; exact absurd H (by simp)
                          · rw [if_neg e1] at H
                            have e1b := decide_eq_false e1
                            have H' := Aside0.mk H
                            clear H e1
                            go_wp2
                            go_roundg k2
                            case measure => have := HK1.out; have := HK2.out; omega
                            case rel => exact ⟨ls2, _, L2, rfl, H', ⟨by have := HK1.out; have := HK2.out; omega⟩, HO, HM, HW, HBx, HB⟩
                    · rw [if_neg d4] at H; exact absurd H (by simp)
                  · rw [if_neg d3] at H; exact absurd H (by simp)
                · rw [if_neg d2] at H; exact absurd H (by simp)
              · rw [if_neg d1] at H
                have d1b := decide_eq_false d1
                unfold net_Path.fin at H
                have hlk := look_words HM.out a2 true
                rw [if_pos rfl] at hlk
                clear d1
                rcases lookup_both a2 L with ⟨q1, q2⟩ | ⟨p, hp, q1, q2⟩
                · rw [q1] at H
                  rw [q2] at hlk
                  simp only [Option.some.injEq, Prod.mk.injEq] at H
                  obtain ⟨rfl, rfl⟩ := H
                  clear q1 q2
                  go_wp2
                  (try simp only [Exit.noGoto_ret])
                  go_ret2
                  exact ⟨_, rfl, Kd.R_nil _ _ _ _ _, HB.out⟩
                · rw [q1] at H
                  rw [q2] at hlk
                  simp only [Option.some.injEq, Prod.mk.injEq] at H
                  obtain ⟨rfl, rfl⟩ := H
                  have HP := Aside0.mk (HW.out p hp)
                  clear q1 q2 hp
                  go_wp2
                  (try simp only [Exit.noGoto_ret])
                  go_ret2
                  exact ⟨_, rfl, Kd.R_mono HP.out (fun _ _ => trivial), HB.out⟩
end Go.Proofs.Ytjgdalhdiohclaa.Q
end
