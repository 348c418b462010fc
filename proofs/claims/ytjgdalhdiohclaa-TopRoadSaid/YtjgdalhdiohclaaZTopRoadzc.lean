/- Part of the proof of TopRoad (text 29 of 33) -/
import Derived.Test.YtjgdalhdiohclaaZTopRoadza
import Derived.Test.YtjgdalhdiohclaaZTopRoadzb
import Derived.Test.YtjgdalhdiohclaaZTopRoadh
import Derived.Test.YtjgdalhdiohclaaZTopRoadz
import Derived.Test.YtjgdalhdiohclaaZTopRoadk
set_option linter.unusedVariables false
set_option linter.unusedSimpArgs false
set_option linter.unusedSectionVars false
open Go.RowKit Go.Proofs.YtjgdalhdiohclaaW.PrintWords Go.Proofs.YtjgdalhdiohclaaW.PrintLast Go.Proofs.YtjgdalhdiohclaaW.PrintMore
section
namespace Go.Proofs.Ytjgdalhdiohclaa.Q
theorem wrapN {x y : Nat} (h : x ≤ y) (hy : y ≤ 9223372036854775807) : wrap64 (x : Int) = (x : Int) := wrapI (by omega) (by omega)
def fc : Nat → Nat
 | 0 => 1
 | n + 1 => (n + 1) * fc n
theorem fc_pos : ∀ n, 0 < fc n
 | 0 => Nat.one_pos
 | n + 1 => Nat.mul_pos (Nat.succ_pos n) (fc_pos n)
theorem fc6 {n : Nat} (h : n ≤ 6) : fc n ≤ 720 := by
 have : n = 0 ∨ n = 1 ∨ n = 2 ∨ n = 3 ∨ n = 4 ∨ n = 5 ∨ n = 6 := by omega
 rcases this with rfl | rfl | rfl | rfl | rfl | rfl | rfl <;> decide
def FP : Nat → List Int → Nat
 | 0, _ => 1
 | N + 1, l => FP N l * fc (l.count (N : Int))
theorem FP_pos : ∀ N l, 0 < FP N l
 | 0, _ => Nat.one_pos
 | N + 1, l => Nat.mul_pos (FP_pos N l) (fc_pos _)
theorem FP_nil : ∀ N, FP N [] = 1
 | 0 => rfl
 | N + 1 => by simp [FP, FP_nil N, fc]
theorem FP_same : ∀ (N : Nat) (l : List Int) (t : Nat), N ≤ t → FP N (l.erase (t : Int)) = FP N l
 | 0, _, _, _ => rfl
 | N + 1, l, t, h => by
  rw [FP, FP, FP_same N l t (by omega), List.count_erase_of_ne (by omega)]
theorem FP_erase : ∀ (N : Nat) (l : List Int) (t : Nat), t < N → (t : Int) ∈ l → FP N l = l.count (t : Int) * FP N (l.erase (t : Int))
 | 0, _, _, h, _ => by omega
 | N + 1, l, t, h, hm => by
  rw [FP, FP]
  rcases Nat.lt_or_ge t N with h1 | h1
  ·rw [FP_erase N l t h1 hm, List.count_erase_of_ne (by omega), Nat.mul_assoc]
  ·obtain rfl : t = N := by omega
   rw [FP_same t l t (Nat.le_refl _), List.count_erase_self]
   have := List.count_pos_iff.2 hm
   obtain ⟨c, hc⟩ : ∃ c, l.count (t : Int) = c + 1 := ⟨l.count (t : Int) - 1, by omega⟩
   rw [hc, Nat.add_sub_cancel, fc]
   rw [Nat.mul_left_comm]
def sumN (f : Nat → Nat) : Nat → Nat
 | 0 => 0
 | n + 1 => sumN f n + f n
theorem sumN_congr {f g : Nat → Nat} : ∀ {n}, (∀ i, i < n → f i = g i) → sumN f n = sumN g n
 | 0, _ => rfl
 | n + 1, h => by rw [sumN, sumN, sumN_congr (n := n) fun i hi => h i (by omega), h n (by omega)]
theorem sumN_mul (f : Nat → Nat) (c : Nat) : ∀ n, sumN f n * c = sumN (fun i => f i * c) n
 | 0 => by simp [sumN]
 | n + 1 => by rw [sumN, sumN, Nat.add_mul, sumN_mul f c n]
theorem sumN_upd {f g : Nat → Nat} {t c : Nat} (he : ∀ i, i ≠ t → f i = g i) (ht : f t = g t + c) : ∀ n, sumN f n = sumN g n + if t < n then c else 0
 | 0 => by simp [sumN]
 | n + 1 => by
  rw [sumN, sumN, sumN_upd he ht n]
  by_cases h : t = n
  ·subst h; rw [ht]; simp; omega
  ·rw [he n (fun e => h e.symm)]
   by_cases h1 : t < n
   ·rw [if_pos h1, if_pos (by omega)]; omega
   ·rw [if_neg h1, if_neg (by omega)]; omega
theorem flat_len {α : Type} (g : Nat → List α) : ∀ n, ((List.range n).flatMap g).length = sumN (fun i => (g i).length) n
 | 0 => rfl
 | n + 1 => by rw [List.range_succ, List.flatMap_append, List.length_append, flat_len g n]; simp [sumN]
theorem runs_sum {N : Nat} {l : List Int} (hin : ∀ x ∈ l, 0 ≤ x ∧ x < (N : Int)) (H : Int → Nat) : ∀ i, i ≤ l.length → sumN (fun j => if rd l (j : Int) ∉ l.take j then H (rd l (j : Int)) else 0) i = sumN (fun t => if (t : Int) ∈ l.take i then H (t : Int) else 0) N
 | 0, _ => by
  have : ∀ n, sumN (fun t => if (t : Int) ∈ l.take 0 then H (t : Int) else 0) n = 0 := fun n => by
   induction n with
   | zero => rfl
   | succ n ih => rw [sumN, ih]; simp
  rw [this]; rfl
 | i + 1, h => by
  have hi : i < l.length := by omega
  rw [sumN, runs_sum hin H i (by omega), rdE hi]
  obtain ⟨h0, h1⟩ := hin _ (List.getElem_mem hi)
  obtain ⟨t, ht⟩ := Int.eq_ofNat_of_zero_le h0
  have htake : l.take (i + 1) = l.take i ++ [l[i]] := by rw [List.take_add_one, List.getElem?_eq_getElem hi]; rfl
  rw [htake, ht]
  by_cases hm : (t : Int) ∈ l.take i
  ·rw [if_neg (by simpa using hm), Nat.add_zero]
   refine sumN_congr fun j hj => ?_
   by_cases e : j = t
   ·subst e; simp [hm]
   ·have : (j : Int) ≠ (t : Int) := by omega
    simp [this]
  ·rw [if_pos hm]
   have := sumN_upd (f := fun s => if (s : Int) ∈ l.take i ++ [(t : Int)] then H (s : Int) else 0) (g := fun s => if (s : Int) ∈ l.take i then H (s : Int) else 0) (t := t) (c := H (t : Int)) (fun j hj => by
    have : (j : Int) ≠ (t : Int) := by omega
    simp [this]) (by simp [hm]) N
   rw [this, if_pos (by omega)]
theorem counts_sum {N : Nat} : ∀ (l : List Int), (∀ x ∈ l, 0 ≤ x ∧ x < (N : Int)) → sumN (fun t => l.count (t : Int)) N = l.length
 | [], _ => by
  have : ∀ n, sumN (fun t => ([] : List Int).count (t : Int)) n = 0 := fun n => by
   induction n with
   | zero => rfl
   | succ n ih => rw [sumN, ih]; simp
  rw [this]; rfl
 | x :: l, h => by
  obtain ⟨h0, h1⟩ := h x List.mem_cons_self
  obtain ⟨t, rfl⟩ := Int.eq_ofNat_of_zero_le h0
  have := sumN_upd (f := fun s => ((t : Int) :: l).count (s : Int)) (g := fun s => l.count (s : Int)) (t := t) (c := 1) (fun j hj => List.count_cons_of_ne (by omega)) (by simp) N
  rw [this, counts_sum l (fun y hy => h y (List.mem_cons_of_mem _ hy)), if_pos (by omega)]; rfl
theorem erase_first {l : List Int} {j : Nat} (hj : j < l.length) (h : l[j] ∉ l.take j) : l.eraseIdx j = l.erase l[j] := by
 have e : l = l.take j ++ l[j] :: l.drop (j + 1) := by rw [← List.drop_eq_getElem_cons hj, List.take_append_drop]
 rw [List.eraseIdx_eq_take_drop_succ]
 generalize hx : l[j] = x at e h
 rw [e, List.erase_append_right _ h, List.erase_cons_head, ← e]
theorem pS_count {N : Nat} : ∀ (n : Nat) (l : List Int), l.Pairwise (· ≤ ·) → (∀ x ∈ l, 0 ≤ x ∧ x < (N : Int)) → l.length = n → (pS n l).length * FP N l = fc n
 | 0, l, _, _, hl => by
  rw [List.length_eq_zero_iff.1 hl, FP_nil]; rfl
 | n + 1, l, hs, hin, hl => by
  have h1 : (pS (n + 1) l).length = sumN (fun t => if (t : Int) ∈ l then (pS n (l.erase (t : Int))).length else 0) N := by
   rw [pS, flat_len]
   have := runs_sum hin (fun x => (pS n (l.erase x)).length) l.length (Nat.le_refl _)
   rw [List.take_length] at this
   rw [← this]
   refine sumN_congr fun j hj => ?_
   have hf := first_run hs hj
   rw [rdE hj]
   unfold pG
   by_cases h : l[j] ∉ l.take j
   ·rw [if_pos (hf.2 h), if_pos h, List.length_map, erase_first hj h]
   ·rw [if_neg (fun g => h (hf.1 g)), if_neg h]; rfl
  rw [h1, sumN_mul]
  have h2 : sumN (fun t => (if (t : Int) ∈ l then (pS n (l.erase (t : Int))).length else 0) * FP N l) N = sumN (fun t => l.count (t : Int)) N * fc n := by
   rw [sumN_mul]
   refine sumN_congr fun t ht => ?_
   by_cases hm : (t : Int) ∈ l
   ·rw [if_pos hm, FP_erase N l t ht hm]
    have hle := List.length_erase_of_mem hm
    have := pS_count n (l.erase (t : Int)) (hs.sublist List.erase_sublist) (fun x hx => hin x (List.mem_of_mem_erase hx)) (by omega)
    rw [Nat.mul_left_comm, this]
   ·rw [if_neg hm, Nat.zero_mul, List.count_eq_zero_of_not_mem hm, Nat.zero_mul]
  rw [h2, counts_sum l hin, hl, fc]
theorem pS_small {N n : Nat} {l : List Int} (hs : l.Pairwise (· ≤ ·)) (hin : ∀ x ∈ l, 0 ≤ x ∧ x < (N : Int)) (hl : l.length = n) (hn : n ≤ 6) : 0 < (pS n l).length ∧ (pS n l).length ≤ 720 ∧ (pS n l).length = fc n / FP N l := by
 have h := pS_count n l hs hin hl
 have h1 := FP_pos N l
 have h2 := fc_pos n
 have h3 := fc6 hn
 refine ⟨?_, ?_, ?_⟩
 ·rcases Nat.eq_zero_or_pos (pS n l).length with h0 | h0
  ·rw [h0, Nat.zero_mul] at h; omega
  ·exact h0
 ·have : (pS n l).length ≤ (pS n l).length * FP N l := Nat.le_mul_of_pos_right _ h1
  omega
 ·rw [← h, Nat.mul_div_cancel _ h1]
def ordS (row : List Int) : List (List Int) := pS row.length (isort row)
theorem FP_perm {l l' : List Int} (h : l.Perm l') : ∀ N, FP N l = FP N l'
 | 0 => rfl
 | N + 1 => by rw [FP, FP, FP_perm h N, h.count_eq]
theorem ordS_len {row : List Int} {N : Nat} (hin : ∀ x ∈ row, 0 ≤ x ∧ x < (N : Int)) (hl : row.length ≤ 6) : 0 < (ordS row).length ∧ (ordS row).length ≤ 720 ∧ (ordS row).length = fc row.length / FP N row := by
 have := pS_small (N := N) (n := row.length) (isort_sorted row) (fun x hx => hin x ((isort_perm row).mem_iff.1 hx)) (isort_len row) hl
 rwa [FP_perm (isort_perm row)] at this
theorem ordS_mem {row p : List Int} : p ∈ ordS row ↔ p.Perm row :=
 ⟨fun h => (pS_perm _ _ p (isort_len row) h).trans (isort_perm row), fun h => pS_has _ _ p (isort_sorted row) (isort_len row) (h.trans (isort_perm row).symm)⟩
theorem rows_ev {row : List Int} {N : Nat} (hin : ∀ x ∈ row, 0 ≤ x ∧ x < (N : Int)) (hl : row.length ≤ 6) : Ev (fun k => color_rows.f k row) (ordS row) := by
 unfold color_rows.f
 have hs := ordS_len hin hl
 unfold ordS at hs ⊢
 simp only [color_sorted.f, if_pos (by omega : row.length < 17592186044416), Option.bind_some]
 have := from_ev row.length (isort row) [] [] (isort_len row) (by simp; omega) (by simp; omega)
 simpa using this
theorem ent_in {a : List (List Int)} {n m : Nat} (V : VA a n m) {s : Nat} (hs : s < n) : ∀ x ∈ rd_L1 a (s : Int), 0 ≤ x ∧ x < (n : Int) := fun x hx => by
 have := List.all_eq_true.1 (V.ent s hs) x hx
 exact od this
def ordsL (a : List (List Int)) : List (List (List Int)) := a.map ordS
theorem all_ev {a : List (List Int)} {n m : Nat} (V : VA a n m) : Ev (fun k => color_all.f k a) (ordsL a) := by
 have hlen := V.len; have h60 := V.n60; have h6 := V.m6
 unfold color_all.f
 have key : ∀ d i : Nat, i + d = n → Ev (fun k => color_all.l0 k ((a.take i).map ordS) a (a.length : Int) (i : Int)) (ordsL a) := by
  intro d
  induction d with
  | zero =>
   intro i hi
   refine Ev.next ?_
   simp only [color_all.l0, if_neg (by omega : ¬ (i : Int) < (a.length : Int))]
   exact Ev.ret (by rw [List.take_of_length_le (by omega)]; rfl)
  | succ d ih =>
   intro i hi
   have hlt : i < a.length := by omega
   refine Ev.next ?_
   simp only [color_all.l0, if_pos (by omega : (i : Int) < (a.length : Int)), if_pos (by omega : (0 : Int) ≤ (i : Int)), wrapS (by omega : i + 1 ≤ 9223372036854775807), List.length_map, List.length_take, if_pos (by omega : min i a.length < 5864062014805)]
   have hr := V.row i (by omega)
   refine Ev.bind (rows_ev (ent_in V (by omega : i < n)) (by omega)) ?_
   have := ih (i + 1) (by omega)
   rw [List.take_add_one, List.getElem?_eq_getElem hlt, List.map_append] at this
   rw [rdLE hlt]
   exact this
 exact key n 0 (by omega)
def prodS (lim : Nat) : List Nat → Nat → Nat × Bool
 | [], acc => (acc, true)
 | w :: ws, acc => if acc > lim / w then (0, false) else prodS lim ws (acc * w)
theorem count_ev {orders : List (List (List Int))} (hpos : ∀ l ∈ orders, 0 < l.length ∧ l.length ≤ 720) (hlen : orders.length ≤ 1000000) : Ev (fun k => color_count.f k orders) (((prodS 1152921504606846976 (orders.map List.length) 1).1 : Int), (prodS 1152921504606846976 (orders.map List.length) 1).2) := by
 unfold color_count.f
 have key : ∀ d i acc : Nat, i + d = orders.length → acc ≤ 1152921504606846976 → Ev (fun k => color_count.l0 k (acc : Int) orders (orders.length : Int) (i : Int)) (((prodS 1152921504606846976 ((orders.drop i).map List.length) acc).1 : Int), (prodS 1152921504606846976 ((orders.drop i).map List.length) acc).2) := by
  intro d
  induction d with
  | zero =>
   intro i acc hi ha
   refine Ev.next ?_
   simp only [color_count.l0, if_neg (by omega : ¬ (i : Int) < (orders.length : Int))]
   exact Ev.ret (by rw [List.drop_eq_nil_of_le (by omega)]; rfl)
  | succ d ih =>
   intro i acc hi ha
   have hlt : i < orders.length := by omega
   obtain ⟨h0, h720⟩ := hpos _ (List.getElem_mem hlt)
   have hrd : rd_L2 orders (i : Int) = orders[i] := by
    show orders.getD i [] = _
    rw [List.getD_eq_getElem?_getD, List.getElem?_eq_getElem hlt]; rfl
   rw [List.drop_eq_getElem_cons hlt, List.map_cons]
   have hdiv : wrap64 ((1152921504606846976 : Int) / (orders[i].length : Int)) = ((1152921504606846976 / orders[i].length : Nat) : Int) := by
    have e : (1152921504606846976 : Int) / (orders[i].length : Int) = ((1152921504606846976 / orders[i].length : Nat) : Int) := by rw [Int.natCast_ediv]; rfl
    rw [e]
    exact wrapN (Nat.div_le_self 1152921504606846976 orders[i].length) (by omega)
   refine Ev.next ?_
   simp only [color_count.l0, if_pos (by omega : (i : Int) < (orders.length : Int)), if_pos (by omega : (0 : Int) ≤ (i : Int)), hrd, if_neg (by omega : ¬ (orders[i].length : Int) = 0), hdiv, wrapS (by omega : i + 1 ≤ 9223372036854775807), prodS]
   by_cases hc : acc > 1152921504606846976 / orders[i].length
   ·simp only [if_pos hc, if_pos (by omega : (acc : Int) > ((1152921504606846976 / orders[i].length : Nat) : Int))]
    exact Ev.now _
   ·simp only [if_neg hc, if_neg (by omega : ¬ (acc : Int) > ((1152921504606846976 / orders[i].length : Nat) : Int))]
    have hm : acc * orders[i].length ≤ 1152921504606846976 := (Nat.le_div_iff_mul_le h0).1 (by omega)
    have hw : wrap64 ((acc : Int) * (orders[i].length : Int)) = ((acc * orders[i].length : Nat) : Int) := by
     rw [Int.natCast_mul]
     exact wrapI (by rw [← Int.natCast_mul]; omega) (by rw [← Int.natCast_mul]; omega)
    rw [hw]
    exact ih (i + 1) (acc * orders[i].length) (by omega) hm
 have := key orders.length 0 1 (by omega) (by omega)
 simpa using this
def waysL (a : List (List Int)) : List Nat := a.map fun row => (ordS row).length
theorem ordsL_len (a : List (List Int)) : (ordsL a).map List.length = waysL a := by unfold ordsL waysL; rw [List.map_map]; rfl
theorem ways_ok {a : List (List Int)} {n m : Nat} (V : VA a n m) {s : Nat} (hs : s < n) : 0 < (ordS (rd_L1 a (s : Int))).length ∧ (ordS (rd_L1 a (s : Int))).length ≤ 720 ∧ (ordS (rd_L1 a (s : Int))).length = fc m / FP n (rd_L1 a (s : Int)) := by
 have hr := V.row s hs
 have h6 := V.m6
 have := ordS_len (ent_in V hs) (by omega)
 rwa [hr] at this
theorem VA.rowMem {a : List (List Int)} {n m : Nat} (V : VA a n m) {row : List Int} (h : row ∈ a) : ∃ s, s < n ∧ rd_L1 a (s : Int) = row := by
 obtain ⟨s, hs, e⟩ := List.getElem_of_mem h
 exact ⟨s, by rw [← V.len]; exact hs, by rw [rdLE hs, e]⟩
theorem colorings_ev {a : List (List Int)} {n m : Nat} (V : VA a n m) : Ev (fun k => color_Colorings.f k a) (if (prodS 1152921504606846976 (waysL a) 1).2 = true then (((prodS 1152921504606846976 (waysL a) 1).1 : Int), 0) else (0, 3)) := by
 have hlen := V.len; have h60 := V.n60
 unfold color_Colorings.f
 simp only [auto_Valid.f, validB_of V, Option.bind_some, if_true]
 refine Ev.bind (all_ev V) ?_
 have hc := count_ev (orders := ordsL a) (fun l hl => by
  obtain ⟨row, hr, rfl⟩ := List.mem_map.1 hl
  obtain ⟨s, hs, rfl⟩ := V.rowMem hr
  have := ways_ok V hs
  exact ⟨this.1, this.2.1⟩) (by unfold ordsL; rw [List.length_map]; omega)
 rw [ordsL_len] at hc
 refine Ev.bind hc ?_
 cases h : (prodS 1152921504606846976 (waysL a) 1).2 with
 | true => simp only [if_true]; exact Ev.now _
 | false => simp only [Bool.false_eq_true, if_false]; exact Ev.now _
end Go.Proofs.Ytjgdalhdiohclaa.Q
end
section
namespace Go.Proofs.Ytjgdalhdiohclaa.Q
section
variable {a b : List (List Int)} {n m : Nat} (V : VA a n m) (W : VA b n m) (h : ∀ s, s < n → (rd_L1 b (s : Int)).Perm (rd_L1 a (s : Int)))
include V W h
end
end Go.Proofs.Ytjgdalhdiohclaa.Q
end
