/- One word for all mazes: the word that is found for some numbers of rooms and doors visits all rooms of whatever connected maze with at most this number of rooms, also with doors before it and after it; it is proved for every input, without conditions. (text 30 of 31) -/
import Derived.Test.YtgbjbgdnldklpaaZTopMazezc
import Derived.Test.YtgbjbgdnldklpaaZTopMazeza
import Derived.Test.YtgbjbgdnldklpaaZTopMazew
import Derived.Test.YtgbjbgdnldklpaaZTopMazex
/-! Part PureTopMaze -/
section
namespace Go.Proofs.Ytgbjbgdnldklpaa.Pure
open Go.RowKit Go.Proofs.YtgbjbgdnldklpaaW.PrintWords Go.Proofs.YtgbjbgdnldklpaaW.PrintLast Go.Proofs.YtgbjbgdnldklpaaW.PrintMore Go.Proofs.Ytgbjbgdnldklpaa.Q
set_option linter.unusedVariables false
set_option linter.unusedSectionVars false
set_option linter.unusedSimpArgs false
theorem wd_one {d x : Nat} (h : x < d) : Wd d [x] := fun y hy => by rw [List.mem_singleton.1 hy]; exact h
section
variable {z : List (List S44)} {q d n : Nat} (V : VZ z q d) {w : List Nat} (hw : Wd d w) (hl : w.length ≤ 56) (hall : ∀ {s : Nat}, s < q → ∀ t, t < q → t ∈ pathZ z s w) {a : Nat} (ha : a < q)
include V hw hl hall ha
theorem top_last {u v : List Nat} (hu : Wd d u) (hv : Wd d v) (hul : u.length ≤ 1001) (hvl : v.length ≤ 1001) : Ev (fun k => mizmazetop_TopMaze.j5 k (toI w) (a : Int) (toI u) (toI v) z) true := by
 have hlen := V.len
 obtain ⟨r1, hr1, hr1'⟩ := visits_ev V hw (by omega) ha
 obtain ⟨c1, hv1, hv1'⟩ := topVisit_ev V hw (by omega) ha
 obtain ⟨c2, hv2, hv2'⟩ := topVisit_ev V ((hu.app hw).app hv) (by rw [List.length_append, List.length_append]; omega) ha
 have t1 := hr1'.2 (hall ha)
 have t2 := hv1'.2 (hall ha)
 have t3 := hv2'.2 fun t ht => pathZ_mid (hall (endZ_lt V ha hu) t ht)
 rw [t1] at hr1
 rw [t2] at hv1
 rw [t3] at hv2
 have hj := topJoinZ [u, w, v] (fun x hx => by
  rcases List.mem_cons.1 hx with rfl | hx
  ·omega
  ·rcases List.mem_cons.1 hx with rfl | hx
   ·omega
   ·rw [List.mem_singleton.1 hx]; omega) (by simp)
 have ej : [u, w, v].flatten = u ++ w ++ v := by simp
 rw [ej] at hj
 refine Ev.next ?_
 simp only [mizmazetop_TopMaze.j5]
 refine Ev.bind hr1 ?_
 simp only [if_true]
 refine Ev.bind hv1 ?_
 simp only [hlen, if_true]
 refine Ev.bind hj (Ev.bind hv2 ?_)
 simp only [if_true]
 exact Ev.bind topWalks_ev (Ev.now _)
variable (hd1 : 1 ≤ d) (hd6 : d ≤ 6)
include hd1 hd6
theorem top_second {beh : List Int} {u : List Nat} (hu : Wd d u) (hul : u.length ≤ 1001) : ∀ (e i : Nat) (v : List Nat), i + e = 1001 → v.length = i → Wd d v → Ev (fun k => mizmazetop_TopMaze.l2 k (d : Int) (toI w) (a : Int) beh (toI u) (toI v) (i : Int) z) true := by
 intro e
 induction e with
 | zero =>
  intro i v hi hvl hv
  refine Ev.step (f := fun k => mizmazetop_TopMaze.j5 k (toI w) (a : Int) (toI u) (toI v) z) (fun k => ?_) (top_last V hw hl hall ha hu hv hul (by omega))
  rw [mizmazetop_TopMaze.l2]
  split
  ·rw [if_neg (by omega)]
  ·rfl
 | succ e ih =>
  intro i v hi hvl hv
  have hstop := top_last V hw hl hall ha hu hv hul (by omega)
  by_cases h1 : (i : Int) < (beh.length : Int)
  ·by_cases h2 : (i : Int) < 1000
   ·obtain ⟨x, hx, ex⟩ := topCycleZ (a := rd beh (i : Int)) (m := d) hd1 (Nat.le_trans hd6 (by decide))
    have hi0 : (0 : Int) ≤ (i : Int) := Int.natCast_nonneg i
    have hvl2 : (toI v).length < 17592186044416 := by rw [toI_len]; omega
    have hw1 : wrap64 ((i : Int) + 1) = ((i + 1 : Nat) : Int) := wrapS (by omega)
    have ih2 := ih (i + 1) (v ++ [x]) (by omega) (by simp; omega) (hv.app (wd_one hx))
    refine Ev.step (fun k => ?_) ih2
    rw [mizmazetop_TopMaze.l2, if_pos h1, if_pos h2, if_pos hi0, ex, Option.bind_some, if_pos hvl2, hw1, ← toI_snoc]
   ·exact Ev.step (f := fun k => mizmazetop_TopMaze.j5 k (toI w) (a : Int) (toI u) (toI v) z) (fun k => by rw [mizmazetop_TopMaze.l2, if_pos h1, if_neg h2]) hstop
  ·exact Ev.step (f := fun k => mizmazetop_TopMaze.j5 k (toI w) (a : Int) (toI u) (toI v) z) (fun k => by rw [mizmazetop_TopMaze.l2, if_neg h1]) hstop
theorem top_mid {beh : List Int} {u : List Nat} (hu : Wd d u) (hul : u.length ≤ 1001) : Ev (fun k => mizmazetop_TopMaze.j3 k (d : Int) (toI w) (a : Int) beh (toI u) ([] : List Int) z) true :=
 Ev.step (f := fun k => mizmazetop_TopMaze.l2 k (d : Int) (toI w) (a : Int) beh (toI u) (toI []) ((0 : Nat) : Int) z) (fun k => by rw [mizmazetop_TopMaze.j3]; rfl) (top_second V hw hl hall ha hd1 hd6 hu hul 1001 0 [] rfl rfl (Wd.nil d))
theorem top_first {bef beh : List Int} : ∀ (e i : Nat) (u : List Nat), i + e = 1001 → u.length = i → Wd d u → Ev (fun k => mizmazetop_TopMaze.l1 k (d : Int) (toI w) (a : Int) bef beh (toI u) (i : Int) z) true := by
 intro e
 induction e with
 | zero =>
  intro i u hi hul hu
  refine Ev.step (f := fun k => mizmazetop_TopMaze.j3 k (d : Int) (toI w) (a : Int) beh (toI u) ([] : List Int) z) (fun k => ?_) (top_mid V hw hl hall ha hd1 hd6 hu (by omega))
  rw [mizmazetop_TopMaze.l1]
  split
  ·rw [if_neg (by omega)]
  ·rfl
 | succ e ih =>
  intro i u hi hul hu
  have hstop := top_mid V hw hl hall ha hd1 hd6 (beh := beh) hu (by omega)
  by_cases h1 : (i : Int) < (bef.length : Int)
  ·by_cases h2 : (i : Int) < 1000
   ·obtain ⟨x, hx, ex⟩ := topCycleZ (a := rd bef (i : Int)) (m := d) hd1 (Nat.le_trans hd6 (by decide))
    have hi0 : (0 : Int) ≤ (i : Int) := Int.natCast_nonneg i
    have hvl2 : (toI u).length < 17592186044416 := by rw [toI_len]; omega
    have hw1 : wrap64 ((i : Int) + 1) = ((i + 1 : Nat) : Int) := wrapS (by omega)
    have ih2 := ih (i + 1) (u ++ [x]) (by omega) (by simp; omega) (hu.app (wd_one hx))
    refine Ev.step (fun k => ?_) ih2
    rw [mizmazetop_TopMaze.l1, if_pos h1, if_pos h2, if_pos hi0, ex, Option.bind_some, if_pos hvl2, hw1, ← toI_snoc]
   ·exact Ev.step (f := fun k => mizmazetop_TopMaze.j3 k (d : Int) (toI w) (a : Int) beh (toI u) ([] : List Int) z) (fun k => by rw [mizmazetop_TopMaze.l1, if_pos h1, if_neg h2]) hstop
  ·exact Ev.step (f := fun k => mizmazetop_TopMaze.j3 k (d : Int) (toI w) (a : Int) beh (toI u) ([] : List Int) z) (fun k => by rw [mizmazetop_TopMaze.l1, if_neg h1]) hstop
end
section
variable {d n : Nat} (hd1 : 1 ≤ d) (hd6 : d ≤ 6) (hn1 : 1 ≤ n) (hnN : n * d ≤ 12) {w : List Nat} (hw : Wd d w) (hl : w.length ≤ 56) (hU : UniS n d w) (a2 st : Int) (pairs bef beh : List Int)
include hd1 hd6 hn1 hnN hw hl hU
theorem top_rest : Ev (fun k => (mizmazetop_cycle.f a2 (n : Int)).bind fun t616 => ((mizmazetop_built.f k (wrap64 (1 + t616)) (d : Int) pairs).bind fun t617 => ((mizmazetop_connects.f k t617).bind fun t621 => (if t621 = true then ((mizmazetop_cycle.f st (t617.length : Int)).bind fun t623 => (mizmazetop_TopMaze.l1 k (d : Int) (toI w) t623 bef beh ([] : List Int) 0 t617)) else ((mizmazetop_walks.f k).bind fun t622 => (some t622)))))) true := by
 have hn12 : n ≤ 12 := Nat.le_trans (Nat.le_mul_of_pos_right n hd1) hnN
 obtain ⟨r, hr, er⟩ := topCycleZ (a := a2) (m := n) hn1 (Nat.le_trans hn12 (by decide))
 have w4 : wrap64 (1 + (r : Int)) = ((r + 1 : Nat) : Int) := by rw [wrapI (by omega) (by omega)]; omega
 have hq1 : 1 ≤ r + 1 := Nat.le_add_left 1 r
 have hqN : (r + 1) * d ≤ 12 := Nat.le_trans (Nat.mul_le_mul_right _ hr) hnN
 have hrn : r + 1 ≤ n := hr
 rw [er]
 generalize r + 1 = q at *
 obtain ⟨τ, hτ, hb⟩ := built_ev hq1 hd1 hqN pairs
 have V := (grid_VZ hq1 hd1 hd6 hqN hτ).1
 generalize gridP q d τ = z at V hb
 have hlen := V.len
 obtain ⟨b, hc, hc2⟩ := topConn_ev V
 have e0 : ∀ k, (some (r : Int)).bind (fun t616 => ((mizmazetop_built.f k (wrap64 (1 + t616)) (d : Int) pairs).bind fun t617 => ((mizmazetop_connects.f k t617).bind fun t621 => (if t621 = true then ((mizmazetop_cycle.f st (t617.length : Int)).bind fun t623 => (mizmazetop_TopMaze.l1 k (d : Int) (toI w) t623 bef beh ([] : List Int) 0 t617)) else ((mizmazetop_walks.f k).bind fun t622 => (some t622)))))) = ((mizmazetop_built.f k (q : Int) (d : Int) pairs).bind fun t617 => ((mizmazetop_connects.f k t617).bind fun t621 => (if t621 = true then ((mizmazetop_cycle.f st (t617.length : Int)).bind fun t623 => (mizmazetop_TopMaze.l1 k (d : Int) (toI w) t623 bef beh ([] : List Int) 0 t617)) else ((mizmazetop_walks.f k).bind fun t622 => (some t622))))) := fun k => by rw [Option.bind_some, w4]
 refine Ev.congr e0 ?_
 refine Ev.bind hb (Ev.bind hc ?_)
 cases b with
 | false =>
  simp only [Bool.false_eq_true, if_false]
  exact Ev.bind topWalks_ev (Ev.now _)
 | true =>
  have hC := hc2 rfl
  simp only [if_true, hlen]
  obtain ⟨a, ha, ea⟩ := topCycleZ (a := st) (m := q) hq1 (Nat.le_trans (Nat.le_trans hrn hn12) (by decide))
  simp only [ea, Option.bind_some]
  have hall : ∀ {s0 : Nat}, s0 < q → ∀ t, t < q → t ∈ pathZ z s0 w := fun {s0} hs0 => uni_visits V hqN hrn hw hU hC hs0
  exact top_first V hw hl hall ha hd1 hd6 1001 0 [] rfl rfl (Wd.nil d)
theorem top_letters (a0 a1 : Int) : ∀ (e i : Nat), i + e = w.length → Ev (fun k => mizmazetop_TopMaze.l0 k pairs (d : Int) (n : Int) (toI w) (i : Int) a0 a1 a2 st bef beh) true := by
 intro e
 induction e with
 | zero =>
  intro i hi
  have h0 : ¬ (i : Int) < ((toI w).length : Int) := by rw [toI_len]; omega
  exact Ev.step (fun k => by rw [mizmazetop_TopMaze.l0, if_neg h0]) (top_rest hd1 hd6 hn1 hnN hw hl hU a2 st pairs bef beh)
 | succ e ih =>
  intro i hi
  have hiw : i < w.length := by omega
  have hx : w[i] < d := hw _ (List.getElem_mem hiw)
  have h0 : (i : Int) < ((toI w).length : Int) := by rw [toI_len]; omega
  have h1 : (0 : Int) ≤ (i : Int) := Int.natCast_nonneg i
  have hrd : rd (toI w) (i : Int) = ((w[i] : Nat) : Int) := toI_rd hiw
  have h2 : ¬ ((w[i] : Nat) : Int) < 0 := by omega
  have h3 : ¬ ((w[i] : Nat) : Int) ≥ (d : Int) := by omega
  have h4 : wrap64 ((i : Int) + 1) = ((i + 1 : Nat) : Int) := wrapS (by omega)
  exact Ev.step (fun k => by rw [mizmazetop_TopMaze.l0, if_pos h0, if_pos h1, hrd, if_neg h2, if_neg h3, h4]) (ih (i + 1) (by omega))
end
/-- How many rooms there may be. -/
theorem top_rooms {t : Nat} (ht : t < 4) : ∃ B : Nat, 1 ≤ B ∧ rd [4, 4, 3, 2] (t : Int) = (B : Int) ∧ B * (t + 1) ≤ 12 ∧ ∀ n, n ≤ B → t + 1 = 1 ∧ n ≤ 4 ∨ t + 1 = 2 ∧ n ≤ 4 ∨ t + 1 = 3 ∧ n ≤ 3 ∨ t + 1 = 4 ∧ n ≤ 2 := by
 have : t = 0 ∨ t = 1 ∨ t = 2 ∨ t = 3 := by omega
 rcases this with rfl | rfl | rfl | rfl
 ·exact ⟨4, by omega, rfl, by omega, fun n h => Or.inl ⟨rfl, h⟩⟩
 ·exact ⟨4, by omega, rfl, by omega, fun n h => Or.inr (Or.inl ⟨rfl, h⟩)⟩
 ·exact ⟨3, by omega, rfl, by omega, fun n h => Or.inr (Or.inr (Or.inl ⟨rfl, h⟩))⟩
 ·exact ⟨2, by omega, rfl, by omega, fun n h => Or.inr (Or.inr (Or.inr ⟨rfl, h⟩))⟩
theorem TopMaze : Q.mizmazetop_TopMaze.Pure := by
 intro a0 a1 a2 pairs st bef beh _ _ _ _ _ _ _
 refine Ev.rounds (g := fun k => mizmazetop_TopMaze.f k a0 a1 a2 pairs st bef beh) ?_
 obtain ⟨t, ht, et⟩ := topCycleZ (a := a1) (m := 4) (by decide) (by decide)
 have w1 : wrap64 (1 + (t : Int)) = ((t + 1 : Nat) : Int) := by rw [wrapI (by omega) (by omega)]; omega
 have w2 : wrap64 (((t + 1 : Nat) : Int) - 1) = (t : Int) := by rw [wrapI (by omega) (by omega)]; omega
 obtain ⟨B, hB1, hB, hN, hcase⟩ := top_rooms ht
 have hB12 : B ≤ 12 := Nat.le_trans (Nat.le_mul_of_pos_right B (Nat.succ_pos t)) hN
 obtain ⟨s, hs, es⟩ := topCycleZ (a := a0) (m := B) hB1 (Nat.le_trans hB12 (by decide))
 have hn12 : s + 1 ≤ 12 := Nat.le_trans hs hB12
 have w3 : wrap64 (1 + (s : Int)) = ((s + 1 : Nat) : Int) := by
  clear w1 w2 hB hN et es hcase
  rw [wrapI (by omega) (by omega)]; omega
 have hd1 : 1 ≤ t + 1 := Nat.le_add_left 1 t
 have hd6 : t + 1 ≤ 6 := Nat.le_trans ht (by decide)
 have hn1 : 1 ≤ s + 1 := Nat.le_add_left 1 s
 have hnN : (s + 1) * (t + 1) ≤ 12 := Nat.le_trans (Nat.mul_le_mul_right _ hs) hN
 obtain ⟨w, hw, hl, hU, hE⟩ := univ_top hn1 (hcase _ hs)
 have h40 : ¬ ((toI w).length : Int) > 40000 := by
  clear w1 w2 w3 hB hN et es hnN hcase
  rw [toI_len]; omega
 have t0 : (0 : Int) ≤ (t : Int) := Int.natCast_nonneg t
 have t1 : (t : Int) < (([4, 4, 3, 2] : List Int).length : Int) := Int.ofNat_lt.2 ht
 have et : mizmazetop_cycle.f a1 4 = some (t : Int) := et
 have hf : ∀ k, mizmazetop_TopMaze.f k a0 a1 a2 pairs st bef beh = (maze_Universal.f k ((s + 1 : Nat) : Int) ((t + 1 : Nat) : Int)).bind fun bt610 => (if bt610.2 = 0 then (mizmazetop_TopMaze.j0 k pairs ((t + 1 : Nat) : Int) ((s + 1 : Nat) : Int) bt610.1 (decide ((bt610.1.length : Int) > 40000)) a0 a1 a2 st bef beh) else (mizmazetop_TopMaze.j0 k pairs ((t + 1 : Nat) : Int) ((s + 1 : Nat) : Int) bt610.1 true a0 a1 a2 st bef beh)) := fun k => by
  rw [mizmazetop_TopMaze.f, et, Option.bind_some, Option.bind_some, w1, w2, if_pos t0, if_pos t1, hB, es, Option.bind_some, w3]
 refine Ev.congr hf ?_
 refine Ev.bind hE ?_
 simp only [if_true]
 rw [decide_eq_false h40]
 exact Ev.step (fun k => by rw [mizmazetop_TopMaze.j0, if_neg (by decide)]; rfl) (top_letters hd1 hd6 hn1 hnN hw hl hU a2 st pairs bef beh a0 a1 w.length 0 (Nat.zero_add _))
end Go.Proofs.Ytgbjbgdnldklpaa.Pure
end
