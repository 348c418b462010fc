/- Part of the proof of ColorRoads (text 30 of 31) -/
import Derived.Test.YtjgdalhdiohclaaZColorRoadsj
import Derived.Test.YtjgdalhdiohclaaZColorRoadszb
import Derived.Test.YtjgdalhdiohclaaZColorRoadszc
import Derived.Test.YtjgdalhdiohclaaZColorRoadsl
import Derived.Test.YtjgdalhdiohclaaZColorRoadst
set_option linter.unusedVariables false
set_option linter.unusedSimpArgs false
set_option linter.unusedSectionVars false
section
namespace Go.Proofs.Ytjgdalhdiohclaa.Q
def mizmazelaw05_ColorRoads.Pure : Prop := ∀ (l0_0 : List (List Int)), RowsOk l0_0 → ∃ k, mizmazelaw05_ColorRoads.f k l0_0 = some true
end Go.Proofs.Ytjgdalhdiohclaa.Q
end
section
namespace Go.Proofs.Ytjgdalhdiohclaa.Q
open Go.RowKit Go.Proofs.YtjgdalhdiohclaaW.PrintWords Go.Proofs.YtjgdalhdiohclaaW.PrintLast Go.Proofs.YtjgdalhdiohclaaW.PrintMore
def Colo (a : List (List Int)) (n : Nat) (b : List (List Int)) : Prop := b.length = n ∧ ∀ s, s < n → (rd_L1 b (s : Int)).Perm (rd_L1 a (s : Int))
theorem Colo.va {a b : List (List Int)} {n m : Nat} (V : VA a n m) (h : Colo a n b) : VA b n m := V.of_rows h.1 h.2
def Resets (f : Nat → Nat → Nat) (m n : Nat) (w : List Nat) : Prop := Wd m w ∧ ∀ s t, s < n → t < n → run f s w = run f t w
theorem copied_ev {b : List (List Int)} {n m : Nat} (V : VA b n m) : Ev (fun k => color_copied.f k b) b := by
 have hlen := V.len; have h60 := V.n60; have h6 := V.m6
 unfold color_copied.f
 have key : ∀ d i : Nat, i + d = n → Ev (fun k => color_copied.l0 k b (b.length : Int) (i : Int) (b.take i)) b := by
  intro d
  induction d with
  | zero =>
   intro i hi
   refine Ev.next ?_
   simp only [color_copied.l0, if_neg (by omega : ¬ (i : Int) < (b.length : Int))]
   exact Ev.ret (List.take_of_length_le (by omega))
  | succ d ih =>
   intro i hi
   have hlt : i < b.length := by omega
   have hr := V.row i (by omega)
   refine Ev.next ?_
   simp only [color_copied.l0, if_pos (by omega : (i : Int) < (b.length : Int)), if_pos (by omega : (0 : Int) ≤ (i : Int)), wrapS (by omega : i + 1 ≤ 9223372036854775807), List.length_take, if_pos (by omega : min i b.length < 5864062014805)]
   have hc : slices_Clone_int_int.f (rd_L1 b (i : Int)) = some (rd_L1 b (i : Int)) := by
    unfold slices_Clone_int_int.f
    exact if_pos (by omega)
   simp only [hc, Option.bind_some]
   have := ih (i + 1) (by omega)
   rw [List.take_add_one, List.getElem?_eq_getElem hlt] at this
   rw [rdLE hlt]
   exact this
 exact key n 0 (by omega)
theorem roads_ev {a : List (List Int)} {n m : Nat} (V : VA a n m) {R : Nat → Option (List (List Int) × List Int × Int)} {r0 : List (List Int) × List Int × Int} (hR : Ev R r0) : ∀ L : List (List (List Int)), (∀ b ∈ L, Colo a n b) →
  (∃ b w, Colo a n b ∧ Resets (nx b) m n w ∧ 6 * w.length ≤ HH (n - 1) ∧ Ev (fun k => roadS k (R k) L) (b, toI w, 0)) ∨ (Ev (fun k => roadS k (R k) L) r0 ∧ ∀ b ∈ L, ¬ ∃ w, Resets (nx b) m n w)
 | [], _ => Or.inr ⟨hR, fun b hb => absurd hb List.not_mem_nil⟩
 | b :: L, h => by
  have hb := h b List.mem_cons_self
  have VB := hb.va V
  obtain ⟨r, hr, hev⟩ := reset_ev VB
  rcases hr with ⟨w, hw, rfl, hall, hlen⟩ | ⟨rfl, p, q, hp, hq, hn⟩
  ·refine Or.inl ⟨b, w, hb, ⟨hw, hall⟩, hlen, ?_⟩
   refine Ev.bind hev ?_
   simp only [if_true]
   exact Ev.bind (copied_ev VB) (Ev.now _)
  ·have hno : ¬ ∃ w, Resets (nx b) m n w := fun ⟨w, h1, h2⟩ => hn ⟨w, h1, h2 p q hp hq⟩
   have e : ∀ {z}, Ev (fun k => roadS k (R k) L) z → Ev (fun k => roadS k (R k) (b :: L)) z := fun h => by
    refine Ev.bind hev ?_
    simp only [if_neg (by decide : ¬ (4 : Int) = 0)]
    exact h
   rcases roads_ev V hR L (fun c hc => h c (List.mem_cons_of_mem _ hc)) with ⟨c, w, h1, h2, h3, h4⟩ | ⟨h1, h2⟩
   ·exact Or.inl ⟨c, w, h1, h2, h3, e h4⟩
   ·refine Or.inr ⟨e h1, fun c hc => ?_⟩
    rcases List.mem_cons.1 hc with rfl | hc
    ·exact hno
    ·exact h2 c hc
theorem colo_of {a : List (List Int)} {n m : Nat} (V : VA a n m) {b : List (List Int)} (hl : b.length = (ordsL a).length) (h : ∀ i (h1 : i < b.length) (h2 : i < (ordsL a).length), b[i] ∈ (ordsL a)[i]) : Colo a n b := by
 have hlen := V.len
 have ho : (ordsL a).length = n := by unfold ordsL; rw [List.length_map]; exact hlen
 refine ⟨by omega, fun s hs => ?_⟩
 have := h s (by omega) (by omega)
 rw [rdLE (by omega), rdLE (by omega)]
 unfold ordsL at this
 rw [List.getElem_map] at this
 exact ordS_mem.1 this
theorem wrap_u64 (z : Int) : 0 ≤ IntKind.u64.wrap z ∧ IntKind.u64.wrap z < 18446744073709551616 := by
 rw [IntKind.wrap_u64]; omega
theorem pick_in {s : Int} (hs : 0 ≤ s) {n : Nat} (h0 : 0 < n) (hn : n ≤ 1000000) : 0 ≤ pickS s n ∧ pickS s n < (n : Int) := by
 unfold pickS
 have hw : IntKind.u64.wrap (n : Int) = (n : Int) := by rw [IntKind.wrap_u64]; omega
 rw [hw]
 have h1 : 0 ≤ s / 2 ^ 33 := Int.ediv_nonneg hs (by decide)
 exact ⟨Int.tmod_nonneg _ h1, Int.tmod_lt_of_pos _ (by omega)⟩
theorem some_ev {orders : Orders} (hpos : ∀ l ∈ orders, 0 < l.length ∧ l.length ≤ 720) (ho : orders.length ≤ 1000000) : ∃ L, Ev (fun k => color_some.f k orders 300) L ∧ ∀ b ∈ L, b.length = orders.length ∧ ∀ i (h1 : i < b.length) (h2 : i < orders.length), b[i] ∈ orders[i] := by
 have key : ∀ (e i : Nat) (s : Int) (acc : List (List (List Int))), i + e = 300 → (∀ b ∈ acc, b.length = orders.length ∧ ∀ i (h1 : i < b.length) (h2 : i < orders.length), b[i] ∈ orders[i]) → ∃ L, Ev (fun k => color_some.l0 k orders 300 s (i : Int) acc) L ∧ ∀ b ∈ L, b.length = orders.length ∧ ∀ i (h1 : i < b.length) (h2 : i < orders.length), b[i] ∈ orders[i] := by
  intro e
  induction e with
  | zero =>
   intro i s acc hi hacc
   refine ⟨acc, Ev.next ?_, hacc⟩
   simp only [color_some.l0, if_neg (by omega : ¬ (i : Int) < 300)]
   exact Ev.now _
  | succ e ih =>
   intro i s acc hi hacc
   have inner : ∀ (d j : Nat) (s : Int) (a : List (List Int)), j + d = orders.length → a.length = j → (∀ i (h1 : i < a.length) (h2 : i < orders.length), a[i] ∈ orders[i]) → ∃ L, Ev (fun k => color_some.l1 k orders 300 s (i : Int) j a acc) L ∧ ∀ b ∈ L, b.length = orders.length ∧ ∀ i (h1 : i < b.length) (h2 : i < orders.length), b[i] ∈ orders[i] := by
    intro d
    induction d with
    | zero =>
     intro j s a hj ha hin
     obtain ⟨L, hL, hLL⟩ := ih (i + 1) s (acc ++ [a]) (by omega) (fun b hb => by
      rcases List.mem_append.1 hb with hb | hb
      ·exact hacc b hb
      ·rw [List.mem_singleton] at hb; subst hb
       exact ⟨by omega, hin⟩)
     refine ⟨L, Ev.next ?_, hLL⟩
     simp only [color_some.l1, if_neg (by omega : ¬ j < orders.length), wrapS (by omega : i + 1 ≤ 9223372036854775807)]
     exact hL
    | succ d ihd =>
     intro j s a hj ha hin
     have hlt : j < orders.length := by omega
     obtain ⟨h0, h1⟩ := hpos _ (List.getElem_mem hlt)
     have hrd : rd_L2 orders (j : Int) = orders[j] := by
      show orders.getD j [] = _
      rw [List.getD_eq_getElem?_getD, List.getElem?_eq_getElem hlt]; rfl
     have hsd := (wrap_u64 (IntKind.u64.wrap (s * 6364136223846793005) + 1442695040888963407)).1
     obtain ⟨p0, p1⟩ := pick_in (s := seedS s) hsd h0 (by omega)
     obtain ⟨z, hz⟩ := Int.eq_ofNat_of_zero_le p0
     obtain ⟨L, hL, hLL⟩ := ihd (j + 1) (seedS s) (a ++ [rd_L1 (orders[j]) (z : Int)]) (by omega) (by simp [ha]) (fun q h1 h2 => by
      by_cases hq : q < a.length
      ·rw [List.getElem_append_left hq]; exact hin q hq h2
      ·have : q = a.length := by simp at h1; omega
       subst this
       rw [List.getElem_append_right (Nat.le_refl _)]
       simp only [Nat.sub_self, List.getElem_cons_zero]
       rw [rdLE (by omega)]
       subst ha
       exact List.getElem_mem _)
     refine ⟨L, Ev.next ?_, hLL⟩
     rw [hz] at p0 p1
     simp only [color_some.l1, if_pos hlt, hrd, if_pos (⟨h0, by omega⟩ : 0 < orders[j].length ∧ orders[j].length < 1000000000), hz, if_pos p0, if_pos p1, if_pos (by omega : a.length < 1000000000)]
     exact hL
   obtain ⟨L, hL, hLL⟩ := inner orders.length 0 s [] (by omega) rfl (fun i h1 => absurd h1 (Nat.not_lt_zero _))
   refine ⟨L, Ev.next ?_, hLL⟩
   simp only [color_some.l0, if_pos (by omega : (i : Int) < 300)]
   exact hL
 exact key 300 0 1 [] (by omega) (fun b hb => absurd hb List.not_mem_nil)
theorem every_mem : ∀ (os : Orders) (pre b : List (List Int)), b ∈ everyS os pre ↔ ∃ t : List (List Int), b = pre ++ t ∧ t.length = os.length ∧ ∀ i (h1 : i < t.length) (h2 : i < os.length), t[i] ∈ os[i]
 | [], pre, b => by
  simp only [everyS, List.mem_singleton, List.length_nil]
  constructor
  ·rintro rfl; exact ⟨[], by simp, rfl, fun i h1 => absurd h1 (Nat.not_lt_zero _)⟩
  ·rintro ⟨t, rfl, h, _⟩
   rw [List.length_eq_zero_iff.1 h, List.append_nil]
 | o :: os, pre, b => by
  simp only [everyS, List.mem_flatMap]
  constructor
  ·rintro ⟨row, hr, hb⟩
   obtain ⟨t, rfl, h1, h2⟩ := (every_mem os (pre ++ [row]) b).1 hb
   refine ⟨row :: t, by simp, by simp [h1], fun i g1 g2 => ?_⟩
   cases i with
   | zero => exact hr
   | succ i => exact h2 i (by simpa using g1) (by simpa using g2)
  ·rintro ⟨t, rfl, h1, h2⟩
   cases t with
   | nil => simp at h1
   | cons row t =>
    refine ⟨row, h2 0 (by simp) (by simp), (every_mem os (pre ++ [row]) _).2 ⟨t, by simp, by simpa using h1, fun i g1 g2 => ?_⟩⟩
    exact h2 (i + 1) (by simpa using g1) (by simpa using g2)
theorem perm_of_subF {α : Type} [DecidableEq α] : ∀ (l1 l2 : List α), l1.Nodup → (∀ x ∈ l1, x ∈ l2) → l2.length ≤ l1.length → l1.Perm l2
 | [], l2, _, _, h => by
  have : l2 = [] := List.length_eq_zero_iff.1 (by simpa using h)
  subst this
  exact List.Perm.refl _
 | x :: l1, l2, hn, hs, hl => by
  obtain ⟨h1, h2⟩ := List.nodup_cons.1 hn
  have hx : x ∈ l2 := hs x List.mem_cons_self
  have hp := List.perm_cons_erase hx
  have hlen : (l2.erase x).length = l2.length - 1 := List.length_erase_of_mem hx
  simp only [List.length_cons] at hl
  have ih := perm_of_subF l1 (l2.erase x) h2 (fun y hy => (List.mem_erase_of_ne (fun e : y = x => h1 (by rw [← e]; exact hy))).2 (hs y (List.mem_cons_of_mem _ hy))) (by omega)
  exact (ih.cons x).trans hp.symm
theorem some_colouring {a : List (List Int)} {n m : Nat} (V : VA a n m) (hc : SC (nx a) n m) (P : Per (nx a) m n 1) : ∃ b, Colo a n b ∧ ∃ w, Resets (nx b) m n w := by
 have hm0 := V.m0
 let δ : Fin n → Fin m → Fin n := fun s x => ⟨nx a s.1 x.1, V.nxLt s.2 x.2⟩
 have hrun : ∀ (w : List Nat) (hw : Wd m w) (s : Fin n), ∃ v : List (Fin m), v.length = w.length ∧ (RoadZ.run δ s v).1 = run (nx a) s.1 w := by
  intro w
  induction w with
  | nil => exact fun _ s => ⟨[], rfl, rfl⟩
  | cons x w ih =>
   intro hw s
   obtain ⟨v, h1, h2⟩ := ih (fun y hy => hw y (List.mem_cons_of_mem _ hy)) (δ s ⟨x, hw x List.mem_cons_self⟩)
   exact ⟨⟨x, hw x List.mem_cons_self⟩ :: v, by simp [h1], h2⟩
 have hP : RoadZ.Prim δ := ⟨(n - 1) * (n - 1) + 1, fun s t => by
  obtain ⟨w, hw, hl, hr⟩ := primitive V hc P _ (Nat.le_refl _) s.1 t.1 s.2 t.2
  obtain ⟨v, h1, h2⟩ := hrun w hw s
  exact ⟨v, by omega, Fin.ext (by rw [h2, hr])⟩⟩
 obtain ⟨δ', hR, w, hw⟩ := RoadZ.road_coloring (⟨0, hm0⟩ : Fin m) n (Fin n) (List.finRange n) (fun s => List.mem_finRange s) (List.nodup_finRange n) (by simp) δ hP
 let b : List (List Int) := (List.finRange n).map fun s => (List.finRange m).map fun x => (((δ' s x).1 : Nat) : Int)
 have hbl : b.length = n := by simp [b]
 have hrow : ∀ s (hs : s < n), rd_L1 b (s : Int) = (List.finRange m).map fun x => (((δ' ⟨s, hs⟩ x).1 : Nat) : Int) := fun s hs => by
  rw [rdLE (by omega)]; simp [b]
 have hrowa : ∀ s (hs : s < n), rd_L1 a (s : Int) = (List.finRange m).map fun x => (((δ ⟨s, hs⟩ x).1 : Nat) : Int) := fun s hs => by
  refine List.ext_getElem (by rw [V.row s hs]; simp) fun i h1 h2 => ?_
  rw [List.getElem_map, List.getElem_finRange]
  rw [V.row s hs] at h1
  have := V.nxE hs h1
  rw [rdE (by rw [V.row s hs]; exact h1)] at this
  exact this
 have hcol : Colo a n b := by
  refine ⟨hbl, fun s hs => ?_⟩
  rw [hrow s hs, hrowa s hs]
  obtain ⟨π, ρ, h1, h2, h3⟩ := hR ⟨s, hs⟩
  have e : (List.finRange m).map (fun x => (((δ' ⟨s, hs⟩ x).1 : Nat) : Int)) = ((List.finRange m).map π).map fun x => (((δ ⟨s, hs⟩ x).1 : Nat) : Int) := by
   rw [List.map_map]
   exact List.map_congr_left fun x _ => by simp only [Function.comp, h3]
  rw [e]
  refine List.Perm.map _ ?_
  have hnd : ((List.finRange m).map π).Nodup := by
   rw [List.nodup_iff_pairwise_ne, List.pairwise_map]
   exact (List.nodup_iff_pairwise_ne.1 (List.nodup_finRange m)).imp fun {x y} hne he => hne (by rw [← h2 x, he, h2])
  refine (List.Perm.symm ?_)
  have hlen : (List.finRange m).length ≤ ((List.finRange m).map π).length := by simp
  exact perm_of_subF _ _ (List.nodup_finRange m) (fun x _ => List.mem_map.2 ⟨ρ x, List.mem_finRange _, h1 x⟩) (by simp)
 refine ⟨b, hcol, w.map Fin.val, fun x hx => ?_, fun s t hs ht => ?_⟩
 ·obtain ⟨y, _, rfl⟩ := List.mem_map.1 hx
  exact y.2
 ·have key : ∀ (v : List (Fin m)) (s : Fin n), run (nx b) s.1 (v.map Fin.val) = (RoadZ.run δ' s v).1 := by
   intro v
   induction v with
   | nil => exact fun s => rfl
   | cons x v ih =>
    intro s
    have e : nx b s.1 x.1 = (δ' s x).1 := by
     unfold nx
     rw [hrow s.1 s.2, rdE (by simp [x.2])]
     simp
    show run (nx b) (nx b s.1 x.1) (v.map Fin.val) = (RoadZ.run δ' (δ' s x) v).1
    rw [e, ih]
  rw [key w ⟨s, hs⟩, key w ⟨t, ht⟩, hw]
theorem prodS_few {lim : Nat} (hl : lim ≤ 1152921504606846976) : ∀ (ws : List Nat) (acc : Nat), (∀ w ∈ ws, 0 < w) → acc ≤ lim → (prodS lim ws acc).2 = true → (prodS 1152921504606846976 ws acc).2 = true ∧ (prodS 1152921504606846976 ws acc).1 ≤ lim
 | [], acc, _, ha, _ => ⟨rfl, ha⟩
 | w :: ws, acc, hw, ha, h => by
  have h0 := hw w List.mem_cons_self
  simp only [prodS] at h ⊢
  by_cases hc : acc > lim / w
  ·rw [if_pos hc] at h; cases h
  ·rw [if_neg hc] at h
   have h1 : lim / w ≤ 1152921504606846976 / w := Nat.div_le_div_right hl
   rw [if_neg (by omega)]
   exact prodS_few hl ws (acc * w) (fun v hv => hw v (List.mem_cons_of_mem _ hv)) ((Nat.le_div_iff_mul_le h0).1 (by omega)) h
theorem ordsL_pos {a : List (List Int)} {n m : Nat} (V : VA a n m) : ∀ l ∈ ordsL a, 0 < l.length ∧ l.length ≤ 720 := fun l hl => by
 obtain ⟨row, hr, rfl⟩ := List.mem_map.1 hl
 obtain ⟨s, hs, rfl⟩ := V.rowMem hr
 have := ways_ok V hs
 exact ⟨this.1, this.2.1⟩
def TooMany (a : List (List Int)) : Prop := (prodS 1152921504606846976 (waysL a) 1).2 = false ∨ 1000000 < (prodS 1152921504606846976 (waysL a) 1).1
def RoadDone (a : List (List Int)) (n m : Nat) (g : Nat → Option (List (List Int) × List Int × Int)) : Prop := (∃ b w, Colo a n b ∧ Resets (nx b) m n w ∧ 6 * w.length ≤ HH (n - 1) ∧ Ev g (b, toI w, 0)) ∨ (Ev g ([], [], 3) ∧ TooMany a)
theorem roadR_ev {a : List (List Int)} {n m : Nat} (V : VA a n m) (hc : SC (nx a) n m) (P : Per (nx a) m n 1) : RoadDone a n m fun k => roadR k (ordsL a) := by
 have hlen := V.len; have h60 := V.n60; have hn0 := V.n0
 have ho : (ordsL a).length = n := by unfold ordsL; rw [List.length_map]; exact hlen
 have hcnt := count_ev (ordsL_pos V) (by omega)
 rw [ordsL_len] at hcnt
 unfold RoadDone
 unfold roadR
 cases h : (prodS 1152921504606846976 (waysL a) 1).2 with
 | false =>
  refine Or.inr ⟨Ev.bind hcnt ?_, Or.inl h⟩
  simp only [h, Bool.false_eq_true, if_false]
  exact Ev.now _
 | true =>
  by_cases hm : 1000000 < (prodS 1152921504606846976 (waysL a) 1).1
  ·refine Or.inr ⟨Ev.bind hcnt ?_, Or.inr hm⟩
   simp only [h, if_true, if_pos (by omega : (1000000 : Int) < ((prodS 1152921504606846976 (waysL a) 1).1 : Int))]
   exact Ev.now _
  ·have he : color_every.f (ordsL a) = some (everyS (ordsL a) []) := if_pos ⟨by omega, by omega⟩
   have hmem : ∀ b, b ∈ everyS (ordsL a) [] → Colo a n b := fun b hb => by
    obtain ⟨t, rfl, h1, h2⟩ := (every_mem _ _ _).1 hb
    exact colo_of V h1 h2
   have lift : ∀ {z}, Ev (fun k => roadS k (some ([], [], 3)) (everyS (ordsL a) [])) z → Ev (fun k => (color_count.f k (ordsL a)).bind fun c => if c.2 = true then (if 1000000 < c.1 then some ([], [], 3) else (color_every.f (ordsL a)).bind fun L => roadS k (some ([], [], 3)) L) else some ([], [], 3)) z := fun hz => by
    refine Ev.bind hcnt ?_
    simp only [h, if_true, if_neg (by omega : ¬ (1000000 : Int) < ((prodS 1152921504606846976 (waysL a) 1).1 : Int)), he, Option.bind_some]
    exact hz
   rcases roads_ev V (R := fun _ => some ([], [], 3)) (Ev.now _) _ hmem with ⟨b, w, h1, h2, h3, h4⟩ | ⟨_, h2⟩
   ·exact Or.inl ⟨b, w, h1, h2, h3, lift h4⟩
   ·exfalso
    obtain ⟨b, hb, hw⟩ := some_colouring V hc P
    refine h2 b ((every_mem _ _ _).2 ⟨b, by simp, by rw [ho]; exact hb.1, fun i g1 g2 => ?_⟩) hw
    have hi : i < n := by rw [← hb.1]; exact g1
    have := hb.2 i hi
    rw [rdLE g1, rdLE (by omega)] at this
    have e : (ordsL a)[i]'g2 = ordS (a[i]'(by omega)) := List.getElem_map ..
    rw [e]
    exact ordS_mem.2 this
theorem road_yes {a : List (List Int)} {n m : Nat} (V : VA a n m) (hc : SC (nx a) n m) (P : Per (nx a) m n 1) (hp : Ev (fun k => net_Period.f k a) (1, 0)) : RoadDone a n m fun k => color_Road.f k a := by
 have hlen := V.len; have h60 := V.n60
 have ho : (ordsL a).length = n := by unfold ordsL; rw [List.length_map]; exact hlen
 obtain ⟨L, hL, hLL⟩ := some_ev (ordsL_pos V) (by omega)
 have lift : ∀ {z}, Ev (fun k => roadS k (roadR k (ordsL a)) L) z → Ev (fun k => color_Road.f k a) z := fun hz => by
  unfold color_Road.f
  refine Ev.bind hp ?_
  simp only [if_true, if_neg (by decide : ¬ (1 : Int) < 1)]
  exact Ev.bind (all_ev V) (Ev.bind hL hz)
 have hmem : ∀ b ∈ L, Colo a n b := fun b hb => colo_of V (hLL b hb).1 (hLL b hb).2
 rcases roadR_ev V hc P with ⟨b, w, h1, h2, h3, h4⟩ | ⟨h1, h2⟩
 ·rcases roads_ev V h4 L hmem with ⟨b', w', g1, g2, g3, g4⟩ | ⟨g1, _⟩
  ·exact Or.inl ⟨b', w', g1, g2, g3, lift g4⟩
  ·exact Or.inl ⟨b, w, h1, h2, h3, lift g1⟩
 ·rcases roads_ev V h1 L hmem with ⟨b', w', g1, g2, g3, g4⟩ | ⟨g1, _⟩
  ·exact Or.inl ⟨b', w', g1, g2, g3, lift g4⟩
  ·exact Or.inr ⟨lift g1, h2⟩
theorem road_err {a : List (List Int)} {d e : Int} (h : Ev (fun k => net_Period.f k a) (d, e)) (he : e ≠ 0) : Ev (fun k => color_Road.f k a) ([], [], e) := by
 unfold color_Road.f
 refine Ev.bind h ?_
 simp only [if_neg he]
 exact Ev.now _
theorem road_many {rows : List (List Int)} {d : Int} (h : Ev (fun k => net_Period.f k rows) (d, 0)) (hd : 1 < d) : Ev (fun k => color_Road.f k rows) ([], [], 4) := by
 unfold color_Road.f
 refine Ev.bind h ?_
 simp only [if_true, if_pos hd]
 exact Ev.now _
theorem not_few {a : List (List Int)} {n m : Nat} (V : VA a n m) (h : TooMany a) : (prodS 1000000 (waysL a) 1).2 = false := by
 cases hf : (prodS 1000000 (waysL a) 1).2 with
 | false => rfl
 | true =>
  obtain ⟨h1, h2⟩ := prodS_few (lim := 1000000) (by omega) (waysL a) 1 (fun w hw => by
   obtain ⟨row, hr, rfl⟩ := List.mem_map.1 hw
   obtain ⟨s, hs, rfl⟩ := V.rowMem hr
   exact (ways_ok V hs).1) (by omega) hf
  rcases h with h | h
  ·rw [h1] at h; cases h
  ·omega
end Go.Proofs.Ytjgdalhdiohclaa.Q
end
section
namespace Go.Proofs.Ytjgdalhdiohclaa.Pure
open Go.RowKit Go.Proofs.YtjgdalhdiohclaaW.PrintWords Go.Proofs.YtjgdalhdiohclaaW.PrintLast Go.Proofs.YtjgdalhdiohclaaW.PrintMore Go.Proofs.Ytjgdalhdiohclaa.Q
theorem rows_ok {b : List (List Int)} {n m : Nat} (V : VA b n m) : RowsOk b := by
 have hlen := V.len; have h60 := V.n60; have h6 := V.m6
 refine ⟨by omega, fun row hr => ?_⟩
 obtain ⟨s, hs, rfl⟩ := V.rowMem hr
 have hrow := V.row s hs
 have hin := ent_in V hs
 exact ⟨by omega, fun z hz => by have := hin z hz; omega⟩
theorem ColorRoads : Q.mizmazelaw05_ColorRoads.Pure := by
 intro a ha
 refine Ev.rounds (g := fun k => mizmazelaw05_ColorRoads.f k a) ?_
 unfold mizmazelaw05_ColorRoads.f
 have aw : Ev (fun k => (mizmazelaw05_awake.f k).bind fun t => some t) true := Ev.bind awake5 (Ev.now _)
 cases va : validB a with
 | false =>
  have h2 : Ev (fun k => net_Period.f k a) (0, 1) := by
   unfold net_Period.f; simp only [auto_Valid.f, va, Option.bind_some, Bool.false_eq_true, if_false]; exact Ev.now _
  refine Ev.bind (road_err h2 (by decide)) ?_
  simp only [List.length_nil, Int.natCast_zero, if_true]
  refine Ev.next ?_
  simp only [mizmazelaw05_ColorRoads.j0]
  refine Ev.bind (va ▸ ref_valid a ha) ?_
  simp only [Bool.false_eq_true, if_false, if_true, beq_self_eq_true]
  exact aw
 | true =>
  have V := VA.of5 va
  generalize hn : a.length = n at V
  generalize hm : (rd_L1 a 0).length = m at V
  have h60 := V.n60; have hn0 := V.n0
  obtain ⟨cb, hcb1, hcb2⟩ := ref_connected V
  by_cases hc : SC (nx a) n m
  rotate_left
  ·obtain rfl := not_sc_of hcb2 hc
   refine Ev.bind (road_err (period_no V hc) (by decide)) ?_
   simp only [List.length_nil, Int.natCast_zero, if_true]
   refine Ev.next ?_
   simp only [mizmazelaw05_ColorRoads.j0]
   refine Ev.bind (va ▸ ref_valid a ha) ?_
   simp only [if_true]
   refine Ev.bind hcb1 ?_
   simp only [Bool.false_eq_true, if_false, if_true, beq_self_eq_true]
   exact aw
  obtain rfl := hcb2.2 hc
  obtain ⟨d, l, p1, p5, p6, p7, p8⟩ := period_only V hc
  obtain ⟨e, e1, e2, e3⟩ := ref_period V
  obtain rfl : e = d := Nat.dvd_antisymm (p8.max e e2) (e3 d fun k _ _ hk => p8.dvd k hk)
  by_cases hd : 1 < e
  ·refine Ev.bind (road_many p1 (by omega)) ?_
   simp only [List.length_nil, Int.natCast_zero, if_true]
   refine Ev.next ?_
   simp only [mizmazelaw05_ColorRoads.j0]
   refine Ev.bind (va ▸ ref_valid a ha) ?_
   simp only [if_true]
   refine Ev.bind hcb1 ?_
   simp only [if_true]
   refine Ev.bind e1 ?_
   simp only [if_pos (by omega : (e : Int) > 1), if_true, beq_self_eq_true]
   exact aw
  obtain rfl : e = 1 := by omega
  rcases road_yes V hc p8 p1 with ⟨b, w, hb, hw, hl, hev⟩ | ⟨hev, hmany⟩
  ·have VB := hb.va V
   have hbl := VB.len
   have hwl : w.length ≤ 40000 := by have := HH60 (by omega : n - 1 ≤ 60); omega
   refine Ev.bind hev ?_
   simp only [if_neg (by omega : ¬ (b.length : Int) = 0)]
   refine Ev.next ?_
   simp only [mizmazelaw05_ColorRoads.j0]
   refine Ev.bind (va ▸ ref_valid a ha) ?_
   simp only [if_true]
   refine Ev.bind hcb1 ?_
   simp only [if_true]
   refine Ev.bind e1 ?_
   simp only [if_neg (by decide : ¬ ((1 : Nat) : Int) > 1), if_neg (by decide : ¬ (0 : Int) = 3), if_true]
   refine Ev.bind ((validB_of VB) ▸ ref_valid b (rows_ok VB)) ?_
   simp only [if_true]
   refine Ev.bind (ref_same5 V VB) ?_
   rw [decide_eq_true (SameP.of_perm V VB hb.2)]
   simp only [if_true]
   refine Ev.bind (ref_resets VB hw.1 hwl hw.2) ?_
   simp only [if_true]
   obtain ⟨z, hz, hz2⟩ := most_val h60 hn0 hl
   simp only [hn, hz, Option.bind_some, toI_len, if_pos hz2]
   exact aw
  ·refine Ev.bind hev ?_
   simp only [List.length_nil, Int.natCast_zero, if_true]
   refine Ev.next ?_
   simp only [mizmazelaw05_ColorRoads.j0]
   refine Ev.bind (va ▸ ref_valid a ha) ?_
   simp only [if_true]
   refine Ev.bind hcb1 ?_
   simp only [if_true]
   refine Ev.bind e1 ?_
   simp only [if_neg (by decide : ¬ ((1 : Nat) : Int) > 1), if_true]
   refine Ev.bind (ref_colorings (lim := 1000000) V (by omega) (by omega)) ?_
   rw [not_few V hmany]
   simp only [beq_self_eq_true, if_true, Bool.false_eq_true, if_false]
   exact aw
end Go.Proofs.Ytjgdalhdiohclaa.Pure
end
