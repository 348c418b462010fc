/- Part of the proof of TopRoad (text 32 of 33) -/
import Derived.Test.YtjgdalhdiohclaaZTopRoadi
import Derived.Test.YtjgdalhdiohclaaZTopRoadze
import Derived.Test.YtjgdalhdiohclaaZTopRoadzc
import Derived.Test.YtjgdalhdiohclaaZTopRoadk
import Derived.Test.YtjgdalhdiohclaaZTopRoadu
import Derived.Test.YtjgdalhdiohclaaZTopRoadg
import Derived.Test.YtjgdalhdiohclaaZTopRoadh
set_option linter.unusedVariables false
set_option linter.unusedSimpArgs false
set_option linter.unusedSectionVars false
set_option maxRecDepth 100000
set_option maxHeartbeats 1000000
section
namespace Go.Proofs.Ytjgdalhdiohclaa.Q
def mizmazetop_TopRoad.Pure : Prop := ∀ (l0_0 : List (List Int)), ∀ (l1 : List Int), ∀ (l2 : List Int), RowsOk l0_0 → IntsOk l1 → IntsOk l2 → ∃ k, mizmazetop_TopRoad.f k l0_0 l1 l2 = some true
end Go.Proofs.Ytjgdalhdiohclaa.Q
end
section
namespace Go.Proofs.Ytjgdalhdiohclaa.Q
open Go.RowKit Go.Proofs.YtjgdalhdiohclaaW.PrintWords Go.Proofs.YtjgdalhdiohclaaW.PrintLast Go.Proofs.YtjgdalhdiohclaaW.PrintMore
def Colo (a : List (List Int)) (n : Nat) (b : List (List Int)) : Prop := b.length = n ∧ ∀ s, s < n → (rd_L1 b (s : Int)).Perm (rd_L1 a (s : Int))
theorem Colo.va {a b : List (List Int)} {n m : Nat} (V : VA a n m) (h : Colo a n b) : VA b n m := V.of_rows h.1 h.2
def Resets (f : Nat → Nat → Nat) (m n : Nat) (w : List Nat) : Prop := Wd m w ∧ ∀ s t, s < n → t < n → run f s w = run f t w
theorem copied_ev {b : List (List Int)} {n m : Nat} (V : VA b n m) : Ev (fun k => color_copied.f k b) b := by
 have hlen := V.len; have h60 := V.n60; have h6 := V.m6
 unfold color_copied.f
 have key : ∀ d i : Nat, i + d = n → Ev (fun k => color_copied.l0 k b (b.length : Int) (i : Int) (b.take i)) b := by
  intro d
  induction d with
  | zero =>
   intro i hi
   refine Ev.next ?_
   simp only [color_copied.l0, if_neg (by omega : ¬ (i : Int) < (b.length : Int))]
   exact Ev.ret (List.take_of_length_le (by omega))
  | succ d ih =>
   intro i hi
   have hlt : i < b.length := by omega
   have hr := V.row i (by omega)
   refine Ev.next ?_
   simp only [color_copied.l0, if_pos (by omega : (i : Int) < (b.length : Int)), if_pos (by omega : (0 : Int) ≤ (i : Int)), wrapS (by omega : i + 1 ≤ 9223372036854775807), List.length_take, if_pos (by omega : min i b.length < 5864062014805)]
   have hc : slices_Clone_int_int.f (rd_L1 b (i : Int)) = some (rd_L1 b (i : Int)) := by
    unfold slices_Clone_int_int.f
    exact if_pos (by omega)
   simp only [hc, Option.bind_some]
   have := ih (i + 1) (by omega)
   rw [List.take_add_one, List.getElem?_eq_getElem hlt] at this
   rw [rdLE hlt]
   exact this
 exact key n 0 (by omega)
theorem roads_ev {a : List (List Int)} {n m : Nat} (V : VA a n m) {R : Nat → Option (List (List Int) × List Int × Int)} {r0 : List (List Int) × List Int × Int} (hR : Ev R r0) : ∀ L : List (List (List Int)), (∀ b ∈ L, Colo a n b) →
  (∃ b w, Colo a n b ∧ Resets (nx b) m n w ∧ 6 * w.length ≤ HH (n - 1) ∧ Ev (fun k => roadS k (R k) L) (b, toI w, 0)) ∨ (Ev (fun k => roadS k (R k) L) r0 ∧ ∀ b ∈ L, ¬ ∃ w, Resets (nx b) m n w)
 | [], _ => Or.inr ⟨hR, fun b hb => absurd hb List.not_mem_nil⟩
 | b :: L, h => by
  have hb := h b List.mem_cons_self
  have VB := hb.va V
  obtain ⟨r, hr, hev⟩ := reset_ev VB
  rcases hr with ⟨w, hw, rfl, hall, hlen⟩ | ⟨rfl, p, q, hp, hq, hn⟩
  ·refine Or.inl ⟨b, w, hb, ⟨hw, hall⟩, hlen, ?_⟩
   refine Ev.bind hev ?_
   simp only [if_true]
   exact Ev.bind (copied_ev VB) (Ev.now _)
  ·have hno : ¬ ∃ w, Resets (nx b) m n w := fun ⟨w, h1, h2⟩ => hn ⟨w, h1, h2 p q hp hq⟩
   have e : ∀ {z}, Ev (fun k => roadS k (R k) L) z → Ev (fun k => roadS k (R k) (b :: L)) z := fun h => by
    refine Ev.bind hev ?_
    simp only [if_neg (by decide : ¬ (4 : Int) = 0)]
    exact h
   rcases roads_ev V hR L (fun c hc => h c (List.mem_cons_of_mem _ hc)) with ⟨c, w, h1, h2, h3, h4⟩ | ⟨h1, h2⟩
   ·exact Or.inl ⟨c, w, h1, h2, h3, e h4⟩
   ·refine Or.inr ⟨e h1, fun c hc => ?_⟩
    rcases List.mem_cons.1 hc with rfl | hc
    ·exact hno
    ·exact h2 c hc
theorem colo_of {a : List (List Int)} {n m : Nat} (V : VA a n m) {b : List (List Int)} (hl : b.length = (ordsL a).length) (h : ∀ i (h1 : i < b.length) (h2 : i < (ordsL a).length), b[i] ∈ (ordsL a)[i]) : Colo a n b := by
 have hlen := V.len
 have ho : (ordsL a).length = n := by unfold ordsL; rw [List.length_map]; exact hlen
 refine ⟨by omega, fun s hs => ?_⟩
 have := h s (by omega) (by omega)
 rw [rdLE (by omega), rdLE (by omega)]
 unfold ordsL at this
 rw [List.getElem_map] at this
 exact ordS_mem.1 this
theorem wrap_u64 (z : Int) : 0 ≤ IntKind.u64.wrap z ∧ IntKind.u64.wrap z < 18446744073709551616 := by
 rw [IntKind.wrap_u64]; omega
theorem pick_in {s : Int} (hs : 0 ≤ s) {n : Nat} (h0 : 0 < n) (hn : n ≤ 1000000) : 0 ≤ pickS s n ∧ pickS s n < (n : Int) := by
 unfold pickS
 have hw : IntKind.u64.wrap (n : Int) = (n : Int) := by rw [IntKind.wrap_u64]; omega
 rw [hw]
 have h1 : 0 ≤ s / 2 ^ 33 := Int.ediv_nonneg hs (by decide)
 exact ⟨Int.tmod_nonneg _ h1, Int.tmod_lt_of_pos _ (by omega)⟩
theorem some_ev {orders : Orders} (hpos : ∀ l ∈ orders, 0 < l.length ∧ l.length ≤ 720) (ho : orders.length ≤ 1000000) : ∃ L, Ev (fun k => color_some.f k orders 300) L ∧ ∀ b ∈ L, b.length = orders.length ∧ ∀ i (h1 : i < b.length) (h2 : i < orders.length), b[i] ∈ orders[i] := by
 have key : ∀ (e i : Nat) (s : Int) (acc : List (List (List Int))), i + e = 300 → (∀ b ∈ acc, b.length = orders.length ∧ ∀ i (h1 : i < b.length) (h2 : i < orders.length), b[i] ∈ orders[i]) → ∃ L, Ev (fun k => color_some.l0 k orders 300 s (i : Int) acc) L ∧ ∀ b ∈ L, b.length = orders.length ∧ ∀ i (h1 : i < b.length) (h2 : i < orders.length), b[i] ∈ orders[i] := by
  intro e
  induction e with
  | zero =>
   intro i s acc hi hacc
   refine ⟨acc, Ev.next ?_, hacc⟩
   simp only [color_some.l0, if_neg (by omega : ¬ (i : Int) < 300)]
   exact Ev.now _
  | succ e ih =>
   intro i s acc hi hacc
   have inner : ∀ (d j : Nat) (s : Int) (a : List (List Int)), j + d = orders.length → a.length = j → (∀ i (h1 : i < a.length) (h2 : i < orders.length), a[i] ∈ orders[i]) → ∃ L, Ev (fun k => color_some.l1 k orders 300 s (i : Int) j a acc) L ∧ ∀ b ∈ L, b.length = orders.length ∧ ∀ i (h1 : i < b.length) (h2 : i < orders.length), b[i] ∈ orders[i] := by
    intro d
    induction d with
    | zero =>
     intro j s a hj ha hin
     obtain ⟨L, hL, hLL⟩ := ih (i + 1) s (acc ++ [a]) (by omega) (fun b hb => by
      rcases List.mem_append.1 hb with hb | hb
      ·exact hacc b hb
      ·rw [List.mem_singleton] at hb; subst hb
       exact ⟨by omega, hin⟩)
     refine ⟨L, Ev.next ?_, hLL⟩
     simp only [color_some.l1, if_neg (by omega : ¬ j < orders.length), wrapS (by omega : i + 1 ≤ 9223372036854775807)]
     exact hL
    | succ d ihd =>
     intro j s a hj ha hin
     have hlt : j < orders.length := by omega
     obtain ⟨h0, h1⟩ := hpos _ (List.getElem_mem hlt)
     have hrd : rd_L2 orders (j : Int) = orders[j] := by
      show orders.getD j [] = _
      rw [List.getD_eq_getElem?_getD, List.getElem?_eq_getElem hlt]; rfl
     have hsd := (wrap_u64 (IntKind.u64.wrap (s * 6364136223846793005) + 1442695040888963407)).1
     obtain ⟨p0, p1⟩ := pick_in (s := seedS s) hsd h0 (by omega)
     obtain ⟨z, hz⟩ := Int.eq_ofNat_of_zero_le p0
     obtain ⟨L, hL, hLL⟩ := ihd (j + 1) (seedS s) (a ++ [rd_L1 (orders[j]) (z : Int)]) (by omega) (by simp [ha]) (fun q h1 h2 => by
      by_cases hq : q < a.length
      ·rw [List.getElem_append_left hq]; exact hin q hq h2
      ·have : q = a.length := by simp at h1; omega
       subst this
       rw [List.getElem_append_right (Nat.le_refl _)]
       simp only [Nat.sub_self, List.getElem_cons_zero]
       rw [rdLE (by omega)]
       subst ha
       exact List.getElem_mem _)
     refine ⟨L, Ev.next ?_, hLL⟩
     rw [hz] at p0 p1
     simp only [color_some.l1, if_pos hlt, hrd, if_pos (⟨h0, by omega⟩ : 0 < orders[j].length ∧ orders[j].length < 1000000000), hz, if_pos p0, if_pos p1, if_pos (by omega : a.length < 1000000000)]
     exact hL
   obtain ⟨L, hL, hLL⟩ := inner orders.length 0 s [] (by omega) rfl (fun i h1 => absurd h1 (Nat.not_lt_zero _))
   refine ⟨L, Ev.next ?_, hLL⟩
   simp only [color_some.l0, if_pos (by omega : (i : Int) < 300)]
   exact hL
 exact key 300 0 1 [] (by omega) (fun b hb => absurd hb List.not_mem_nil)
theorem every_mem : ∀ (os : Orders) (pre b : List (List Int)), b ∈ everyS os pre ↔ ∃ t : List (List Int), b = pre ++ t ∧ t.length = os.length ∧ ∀ i (h1 : i < t.length) (h2 : i < os.length), t[i] ∈ os[i]
 | [], pre, b => by
  simp only [everyS, List.mem_singleton, List.length_nil]
  constructor
  ·rintro rfl; exact ⟨[], by simp, rfl, fun i h1 => absurd h1 (Nat.not_lt_zero _)⟩
  ·rintro ⟨t, rfl, h, _⟩
   rw [List.length_eq_zero_iff.1 h, List.append_nil]
 | o :: os, pre, b => by
  simp only [everyS, List.mem_flatMap]
  constructor
  ·rintro ⟨row, hr, hb⟩
   obtain ⟨t, rfl, h1, h2⟩ := (every_mem os (pre ++ [row]) b).1 hb
   refine ⟨row :: t, by simp, by simp [h1], fun i g1 g2 => ?_⟩
   cases i with
   | zero => exact hr
   | succ i => exact h2 i (by simpa using g1) (by simpa using g2)
  ·rintro ⟨t, rfl, h1, h2⟩
   cases t with
   | nil => simp at h1
   | cons row t =>
    refine ⟨row, h2 0 (by simp) (by simp), (every_mem os (pre ++ [row]) _).2 ⟨t, by simp, by simpa using h1, fun i g1 g2 => ?_⟩⟩
    exact h2 (i + 1) (by simpa using g1) (by simpa using g2)
theorem perm_of_subF {α : Type} [DecidableEq α] : ∀ (l1 l2 : List α), l1.Nodup → (∀ x ∈ l1, x ∈ l2) → l2.length ≤ l1.length → l1.Perm l2
 | [], l2, _, _, h => by
  have : l2 = [] := List.length_eq_zero_iff.1 (by simpa using h)
  subst this
  exact List.Perm.refl _
 | x :: l1, l2, hn, hs, hl => by
  obtain ⟨h1, h2⟩ := List.nodup_cons.1 hn
  have hx : x ∈ l2 := hs x List.mem_cons_self
  have hp := List.perm_cons_erase hx
  have hlen : (l2.erase x).length = l2.length - 1 := List.length_erase_of_mem hx
  simp only [List.length_cons] at hl
  have ih := perm_of_subF l1 (l2.erase x) h2 (fun y hy => (List.mem_erase_of_ne (fun e : y = x => h1 (by rw [← e]; exact hy))).2 (hs y (List.mem_cons_of_mem _ hy))) (by omega)
  exact (ih.cons x).trans hp.symm
theorem some_colouring {a : List (List Int)} {n m : Nat} (V : VA a n m) (hc : SC (nx a) n m) (P : Per (nx a) m n 1) : ∃ b, Colo a n b ∧ ∃ w, Resets (nx b) m n w := by
 have hm0 := V.m0
 let δ : Fin n → Fin m → Fin n := fun s x => ⟨nx a s.1 x.1, V.nxLt s.2 x.2⟩
 have hrun : ∀ (w : List Nat) (hw : Wd m w) (s : Fin n), ∃ v : List (Fin m), v.length = w.length ∧ (RoadZ.run δ s v).1 = run (nx a) s.1 w := by
  intro w
  induction w with
  | nil => exact fun _ s => ⟨[], rfl, rfl⟩
  | cons x w ih =>
   intro hw s
   obtain ⟨v, h1, h2⟩ := ih (fun y hy => hw y (List.mem_cons_of_mem _ hy)) (δ s ⟨x, hw x List.mem_cons_self⟩)
   exact ⟨⟨x, hw x List.mem_cons_self⟩ :: v, by simp [h1], h2⟩
 have hP : RoadZ.Prim δ := ⟨(n - 1) * (n - 1) + 1, fun s t => by
  obtain ⟨w, hw, hl, hr⟩ := primitive V hc P _ (Nat.le_refl _) s.1 t.1 s.2 t.2
  obtain ⟨v, h1, h2⟩ := hrun w hw s
  exact ⟨v, by omega, Fin.ext (by rw [h2, hr])⟩⟩
 obtain ⟨δ', hR, w, hw⟩ := RoadZ.road_coloring (⟨0, hm0⟩ : Fin m) n (Fin n) (List.finRange n) (fun s => List.mem_finRange s) (List.nodup_finRange n) (by simp) δ hP
 let b : List (List Int) := (List.finRange n).map fun s => (List.finRange m).map fun x => (((δ' s x).1 : Nat) : Int)
 have hbl : b.length = n := by simp [b]
 have hrow : ∀ s (hs : s < n), rd_L1 b (s : Int) = (List.finRange m).map fun x => (((δ' ⟨s, hs⟩ x).1 : Nat) : Int) := fun s hs => by
  rw [rdLE (by omega)]; simp [b]
 have hrowa : ∀ s (hs : s < n), rd_L1 a (s : Int) = (List.finRange m).map fun x => (((δ ⟨s, hs⟩ x).1 : Nat) : Int) := fun s hs => by
  refine List.ext_getElem (by rw [V.row s hs]; simp) fun i h1 h2 => ?_
  rw [List.getElem_map, List.getElem_finRange]
  rw [V.row s hs] at h1
  have := V.nxE hs h1
  rw [rdE (by rw [V.row s hs]; exact h1)] at this
  exact this
 have hcol : Colo a n b := by
  refine ⟨hbl, fun s hs => ?_⟩
  rw [hrow s hs, hrowa s hs]
  obtain ⟨π, ρ, h1, h2, h3⟩ := hR ⟨s, hs⟩
  have e : (List.finRange m).map (fun x => (((δ' ⟨s, hs⟩ x).1 : Nat) : Int)) = ((List.finRange m).map π).map fun x => (((δ ⟨s, hs⟩ x).1 : Nat) : Int) := by
   rw [List.map_map]
   exact List.map_congr_left fun x _ => by simp only [Function.comp, h3]
  rw [e]
  refine List.Perm.map _ ?_
  have hnd : ((List.finRange m).map π).Nodup := by
   rw [List.nodup_iff_pairwise_ne, List.pairwise_map]
   exact (List.nodup_iff_pairwise_ne.1 (List.nodup_finRange m)).imp fun {x y} hne he => hne (by rw [← h2 x, he, h2])
  refine (List.Perm.symm ?_)
  have hlen : (List.finRange m).length ≤ ((List.finRange m).map π).length := by simp
  exact perm_of_subF _ _ (List.nodup_finRange m) (fun x _ => List.mem_map.2 ⟨ρ x, List.mem_finRange _, h1 x⟩) (by simp)
 refine ⟨b, hcol, w.map Fin.val, fun x hx => ?_, fun s t hs ht => ?_⟩
 ·obtain ⟨y, _, rfl⟩ := List.mem_map.1 hx
  exact y.2
 ·have key : ∀ (v : List (Fin m)) (s : Fin n), run (nx b) s.1 (v.map Fin.val) = (RoadZ.run δ' s v).1 := by
   intro v
   induction v with
   | nil => exact fun s => rfl
   | cons x v ih =>
    intro s
    have e : nx b s.1 x.1 = (δ' s x).1 := by
     unfold nx
     rw [hrow s.1 s.2, rdE (by simp [x.2])]
     simp
    show run (nx b) (nx b s.1 x.1) (v.map Fin.val) = (RoadZ.run δ' (δ' s x) v).1
    rw [e, ih]
  rw [key w ⟨s, hs⟩, key w ⟨t, ht⟩, hw]
theorem ordsL_pos {a : List (List Int)} {n m : Nat} (V : VA a n m) : ∀ l ∈ ordsL a, 0 < l.length ∧ l.length ≤ 720 := fun l hl => by
 obtain ⟨row, hr, rfl⟩ := List.mem_map.1 hl
 obtain ⟨s, hs, rfl⟩ := V.rowMem hr
 have := ways_ok V hs
 exact ⟨this.1, this.2.1⟩
def TooMany (a : List (List Int)) : Prop := (prodS 1152921504606846976 (waysL a) 1).2 = false ∨ 1000000 < (prodS 1152921504606846976 (waysL a) 1).1
def RoadDone (a : List (List Int)) (n m : Nat) (g : Nat → Option (List (List Int) × List Int × Int)) : Prop := (∃ b w, Colo a n b ∧ Resets (nx b) m n w ∧ 6 * w.length ≤ HH (n - 1) ∧ Ev g (b, toI w, 0)) ∨ (Ev g ([], [], 3) ∧ TooMany a)
theorem roadR_ev {a : List (List Int)} {n m : Nat} (V : VA a n m) (hc : SC (nx a) n m) (P : Per (nx a) m n 1) : RoadDone a n m fun k => roadR k (ordsL a) := by
 have hlen := V.len; have h60 := V.n60; have hn0 := V.n0
 have ho : (ordsL a).length = n := by unfold ordsL; rw [List.length_map]; exact hlen
 have hcnt := count_ev (ordsL_pos V) (by omega)
 rw [ordsL_len] at hcnt
 unfold RoadDone
 unfold roadR
 cases h : (prodS 1152921504606846976 (waysL a) 1).2 with
 | false =>
  refine Or.inr ⟨Ev.bind hcnt ?_, Or.inl h⟩
  simp only [h, Bool.false_eq_true, if_false]
  exact Ev.now _
 | true =>
  by_cases hm : 1000000 < (prodS 1152921504606846976 (waysL a) 1).1
  ·refine Or.inr ⟨Ev.bind hcnt ?_, Or.inr hm⟩
   simp only [h, if_true, if_pos (by omega : (1000000 : Int) < ((prodS 1152921504606846976 (waysL a) 1).1 : Int))]
   exact Ev.now _
  ·have he : color_every.f (ordsL a) = some (everyS (ordsL a) []) := if_pos ⟨by omega, by omega⟩
   have hmem : ∀ b, b ∈ everyS (ordsL a) [] → Colo a n b := fun b hb => by
    obtain ⟨t, rfl, h1, h2⟩ := (every_mem _ _ _).1 hb
    exact colo_of V h1 h2
   have lift : ∀ {z}, Ev (fun k => roadS k (some ([], [], 3)) (everyS (ordsL a) [])) z → Ev (fun k => (color_count.f k (ordsL a)).bind fun c => if c.2 = true then (if 1000000 < c.1 then some ([], [], 3) else (color_every.f (ordsL a)).bind fun L => roadS k (some ([], [], 3)) L) else some ([], [], 3)) z := fun hz => by
    refine Ev.bind hcnt ?_
    simp only [h, if_true, if_neg (by omega : ¬ (1000000 : Int) < ((prodS 1152921504606846976 (waysL a) 1).1 : Int)), he, Option.bind_some]
    exact hz
   rcases roads_ev V (R := fun _ => some ([], [], 3)) (Ev.now _) _ hmem with ⟨b, w, h1, h2, h3, h4⟩ | ⟨_, h2⟩
   ·exact Or.inl ⟨b, w, h1, h2, h3, lift h4⟩
   ·exfalso
    obtain ⟨b, hb, hw⟩ := some_colouring V hc P
    refine h2 b ((every_mem _ _ _).2 ⟨b, by simp, by rw [ho]; exact hb.1, fun i g1 g2 => ?_⟩) hw
    have hi : i < n := by rw [← hb.1]; exact g1
    have := hb.2 i hi
    rw [rdLE g1, rdLE (by omega)] at this
    have e : (ordsL a)[i]'g2 = ordS (a[i]'(by omega)) := List.getElem_map ..
    rw [e]
    exact ordS_mem.2 this
theorem road_yes {a : List (List Int)} {n m : Nat} (V : VA a n m) (hc : SC (nx a) n m) (P : Per (nx a) m n 1) (hp : Ev (fun k => net_Period.f k a) (1, 0)) : RoadDone a n m fun k => color_Road.f k a := by
 have hlen := V.len; have h60 := V.n60
 have ho : (ordsL a).length = n := by unfold ordsL; rw [List.length_map]; exact hlen
 obtain ⟨L, hL, hLL⟩ := some_ev (ordsL_pos V) (by omega)
 have lift : ∀ {z}, Ev (fun k => roadS k (roadR k (ordsL a)) L) z → Ev (fun k => color_Road.f k a) z := fun hz => by
  unfold color_Road.f
  refine Ev.bind hp ?_
  simp only [if_true, if_neg (by decide : ¬ (1 : Int) < 1)]
  exact Ev.bind (all_ev V) (Ev.bind hL hz)
 have hmem : ∀ b ∈ L, Colo a n b := fun b hb => colo_of V (hLL b hb).1 (hLL b hb).2
 rcases roadR_ev V hc P with ⟨b, w, h1, h2, h3, h4⟩ | ⟨h1, h2⟩
 ·rcases roads_ev V h4 L hmem with ⟨b', w', g1, g2, g3, g4⟩ | ⟨g1, _⟩
  ·exact Or.inl ⟨b', w', g1, g2, g3, lift g4⟩
  ·exact Or.inl ⟨b, w, h1, h2, h3, lift g1⟩
 ·rcases roads_ev V h1 L hmem with ⟨b', w', g1, g2, g3, g4⟩ | ⟨g1, _⟩
  ·exact Or.inl ⟨b', w', g1, g2, g3, lift g4⟩
  ·exact Or.inr ⟨lift g1, h2⟩
theorem road_err {a : List (List Int)} {d e : Int} (h : Ev (fun k => net_Period.f k a) (d, e)) (he : e ≠ 0) : Ev (fun k => color_Road.f k a) ([], [], e) := by
 unfold color_Road.f
 refine Ev.bind h ?_
 simp only [if_neg he]
 exact Ev.now _
theorem road_many {rows : List (List Int)} {d : Int} (h : Ev (fun k => net_Period.f k rows) (d, 0)) (hd : 1 < d) : Ev (fun k => color_Road.f k rows) ([], [], 4) := by
 unfold color_Road.f
 refine Ev.bind h ?_
 simp only [if_true, if_pos hd]
 exact Ev.now _
end Go.Proofs.Ytjgdalhdiohclaa.Q
end
section
namespace Go.Proofs.Ytjgdalhdiohclaa.Q
open Go.RowKit Go.Proofs.YtjgdalhdiohclaaW.PrintWords Go.Proofs.YtjgdalhdiohclaaW.PrintLast Go.Proofs.YtjgdalhdiohclaaW.PrintMore
theorem colours_ev : Ev (fun k => mizmazetop_colours.f k) true := Ev.of (k := 1700) (fun k => mizmazetop_colours.mono k) (by kernel_rfl)
theorem top_times (l : List Int) (z : Int) (hl : l.length ≤ 1000) : Ev (fun k => mizmazetop_times.f k l z) ((l.count z : Nat) : Int) := by
 unfold mizmazetop_times.f
 have key : ∀ d i : Nat, i + d = l.length → Ev (fun k => mizmazetop_times.l0 k l z (((l.take i).count z : Nat) : Int) (i : Int)) ((l.count z : Nat) : Int) := by
  intro d
  induction d with
  | zero =>
   intro i hi
   refine Ev.next ?_
   simp only [mizmazetop_times.l0, if_neg (by omega : ¬ (i : Int) < (l.length : Int))]
   rw [List.take_of_length_le (by omega)]
   exact Ev.now _
  | succ d ih =>
   intro i hi
   have hlt : i < l.length := by omega
   have hc : (l.take i).count z ≤ 1000 := Nat.le_trans List.count_le_length (by rw [List.length_take]; omega)
   have h2 : (l.take (i + 1)).count z = (l.take i).count z + if l[i] = z then 1 else 0 := by
    rw [List.take_add_one, List.getElem?_eq_getElem hlt, List.count_append]
    simp [List.count_singleton]
   have := ih (i + 1) (by omega)
   refine Ev.next ?_
   by_cases e : l[i] = z
   ·simp only [mizmazetop_times.l0, if_pos (by omega : (i : Int) < (l.length : Int)), if_pos (by omega : (0 : Int) ≤ (i : Int)), rdE hlt, if_pos e, wrapS (by omega : (l.take i).count z + 1 ≤ 9223372036854775807), wrapS (by omega : i + 1 ≤ 9223372036854775807)]
    rw [if_pos e] at h2
    rwa [h2] at this
   ·simp only [mizmazetop_times.l0, if_pos (by omega : (i : Int) < (l.length : Int)), if_pos (by omega : (0 : Int) ≤ (i : Int)), rdE hlt, if_neg e, wrapS (by omega : i + 1 ≤ 9223372036854775807)]
    rw [if_neg e, Nat.add_zero] at h2
    rwa [h2] at this
 exact key l.length 0 (by omega)
theorem top_alike {a b : List (List Int)} {n m : Nat} (V : VA a n m) (h : Colo a n b) : Ev (fun k => mizmazetop_alike.f k a b) true := by
 have VB := h.va V
 have hm := V.m6; have hn := V.n60; have hlen := V.len; have hlen' := VB.len; have hn0 := V.n0
 unfold mizmazetop_alike.f
 refine Ev.bind ((validB_of VB) ▸ topValid_ev b) ?_
 simp only [if_true, if_pos (by omega : (a.length : Int) = (b.length : Int)), if_pos (by omega : (0 : Int) < (a.length : Int)), if_pos (by omega : (0 : Int) < (b.length : Int))]
 refine Ev.next ?_
 have e : (((rd_L1 a 0).length : Int) != ((rd_L1 b 0).length : Int)) = false := by
  have r1 := V.row 0 hn0
  have r2 := VB.row 0 hn0
  simp only [Int.natCast_zero] at r1 r2
  rw [r1, r2]; simp
 simp only [mizmazetop_alike.j0, e, Bool.false_eq_true, if_false]
 have key : ∀ d s : Nat, s + d = n → Ev (fun k => mizmazetop_alike.l0 k (s : Int) a b) true := by
  intro d
  induction d with
  | zero =>
   intro s hs
   refine Ev.next ?_
   simp only [mizmazetop_alike.l0, if_neg (by omega : ¬ (s : Int) < (a.length : Int))]
   exact Ev.now _
  | succ d ih =>
   intro s hs
   have hsn : s < n := by omega
   have r1 := V.row s hsn
   have r2 := VB.row s hsn
   have inner : ∀ g t : Nat, t + g = n → Ev (fun k => mizmazetop_alike.l1 k (s : Int) (t : Int) a b) true := by
    intro g
    induction g with
    | zero =>
     intro t ht
     refine Ev.next ?_
     simp only [mizmazetop_alike.l1, if_neg (by omega : ¬ (t : Int) < (a.length : Int)), wrapS (by omega : s + 1 ≤ 9223372036854775807)]
     exact ih (s + 1) (by omega)
    | succ g ihg =>
     intro t ht
     refine Ev.next ?_
     simp only [mizmazetop_alike.l1, if_pos (by omega : (t : Int) < (a.length : Int)), if_pos (by omega : (0 : Int) ≤ (s : Int)), if_pos (by omega : (s : Int) < (a.length : Int)), if_pos (by omega : (s : Int) < (b.length : Int)), wrapS (by omega : t + 1 ≤ 9223372036854775807)]
     refine Ev.bind (top_times _ _ (by omega)) (Ev.bind (top_times _ _ (by omega)) ?_)
     rw [(h.2 s hsn).count_eq]
     simp only [if_true]
     exact ihg (t + 1) (by omega)
   refine Ev.next ?_
   simp only [mizmazetop_alike.l0, if_pos (by omega : (s : Int) < (a.length : Int))]
   exact inner n 0 (by omega)
 exact key n 0 (by omega)
theorem swap_perm {l : List Int} {i j : Nat} (hi : i < l.length) (hj : j < l.length) : ((l.set i l[j]).set j l[i]).Perm l := by
 rw [List.perm_iff_count]
 intro z
 have h1 : j < (l.set i l[j]).length := by rw [List.length_set]; exact hj
 rw [List.count_set h1, List.count_set hi, List.getElem_set]
 have c1 : l[i] = z → 0 < l.count z := fun e => List.count_pos_iff.2 (e ▸ List.getElem_mem hi)
 have c2 : l[j] = z → 0 < l.count z := fun e => List.count_pos_iff.2 (e ▸ List.getElem_mem hj)
 by_cases e : i = j
 ·subst e
  by_cases e2 : l[i] = z
  ·have := c1 e2; simp [e2]; omega
  ·simp [e2]
 ·simp only [if_neg e, beq_iff_eq]
  by_cases e1 : l[i] = z
  ·by_cases e2 : l[j] = z
   ·have := c1 e1; simp [e1, e2]; omega
   ·have := c1 e1; simp [e1, e2]; omega
  ·by_cases e2 : l[j] = z
   ·have := c2 e2; simp [e1, e2]
   ·simp [e1, e2]
theorem top_coloured {a : List (List Int)} {n m : Nat} (V : VA a n m) (turns : List Int) : ∃ b, Colo a n b ∧ Ev (fun k => mizmazetop_coloured.f k a turns) b := by
 have hm := V.m6; have hm0 := V.m0; have hn := V.n60; have hlen := V.len; have hn0 := V.n0
 have r0 := V.row 0 hn0
 unfold mizmazetop_coloured.f
 simp only [if_pos (by omega : (0 : Int) < (a.length : Int))]
 have e0 : ((rd_L1 a 0).length : Int) = (m : Int) := by rw [show (rd_L1 a 0).length = m from r0]
 rw [e0]
 have key : ∀ (d s : Nat) (out : List (List Int)), s + d = n → out.length = s → (∀ i, i < s → (rd_L1 out (i : Int)).Perm (rd_L1 a (i : Int))) → ∃ b, Colo a n b ∧ Ev (fun k => mizmazetop_coloured.l0 k turns (m : Int) (s : Int) a out) b := by
  intro d
  induction d with
  | zero =>
   intro s out hs ho hp
   refine ⟨out, ⟨by omega, fun i hi => hp i (by omega)⟩, Ev.next ?_⟩
   simp only [mizmazetop_coloured.l0, if_neg (by omega : ¬ (s : Int) < (a.length : Int))]
   exact Ev.now _
  | succ d ih =>
   intro s out hs ho hp
   have hsn : s < n := by omega
   have r1 := V.row s hsn
   have inner : ∀ (g x : Nat) (row : List Int), x + g = m → row.Perm (rd_L1 a (s : Int)) → ∃ b, Colo a n b ∧ Ev (fun k => mizmazetop_coloured.l1 k turns (m : Int) (s : Int) row (x : Int) a out) b := by
    intro g
    induction g with
    | zero =>
     intro x row hx hr
     obtain ⟨b, hb, hev⟩ := ih (s + 1) (out ++ [row]) (by omega) (by simp [ho]) (fun i hi => by
      by_cases h : i < s
      ·have := hp i h
       rw [rdLE (by omega)] at this
       rw [rdLE (by simp; omega), List.getElem_append_left (by omega)]
       exact this
      ·obtain rfl : i = s := by omega
       rw [rdLE (by simp; omega), List.getElem_append_right (by omega)]
       simpa [ho] using hr)
     refine ⟨b, hb, Ev.next ?_⟩
     simp only [mizmazetop_coloured.l1, if_neg (by omega : ¬ (x : Int) < (m : Int)), if_pos (by omega : out.length < 5864062014805), wrapS (by omega : s + 1 ≤ 9223372036854775807)]
     exact hev
    | succ g ihg =>
     intro x row hx hr
     have hrl : row.length = m := by rw [hr.length_eq, r1]
     have hxr : x < row.length := by omega
     have hidx : wrap64 (wrap64 ((s : Int) * (m : Int)) + (x : Int)) = ((s * m + x : Nat) : Int) := by
      have h1 : s * m ≤ 60 * 6 := Nat.mul_le_mul (by omega) (by omega)
      rw [← Int.natCast_mul, wrapI (z := ((s * m : Nat) : Int)) (by omega) (by omega), wrapI (by omega) (by omega)]; rfl
     generalize s * m + x = i at hidx
     by_cases ht : i < turns.length
     ·obtain ⟨y, hy, hyc⟩ := topCycle (a := rd turns (i : Int)) hm0 hm
      have hyr : y < row.length := by omega
      obtain ⟨b, hb, hev⟩ := ihg (x + 1) ((row.set x row[y]).set y row[x]) (by omega) ((swap_perm hxr hyr).trans hr)
      refine ⟨b, hb, Ev.next ?_⟩
      simp only [mizmazetop_coloured.l1, if_pos (by omega : (x : Int) < (m : Int)), hidx, if_pos (by omega : (i : Int) < (turns.length : Int)), if_pos (by omega : (0 : Int) ≤ (i : Int)), hyc, Option.bind_some, if_pos (by omega : (0 : Int) ≤ (x : Int)), if_pos (by omega : (x : Int) < (row.length : Int)), if_pos (by omega : (0 : Int) ≤ (y : Int)), if_pos (by omega : (y : Int) < (row.length : Int)), rdE hxr, rdE hyr, Int.toNat_natCast, wrapS (by omega : x + 1 ≤ 9223372036854775807)]
      exact hev
     ·obtain ⟨b, hb, hev⟩ := ihg (x + 1) ((row.set x row[x]).set x row[x]) (by omega) ((swap_perm hxr hxr).trans hr)
      refine ⟨b, hb, Ev.next ?_⟩
      simp only [mizmazetop_coloured.l1, if_pos (by omega : (x : Int) < (m : Int)), hidx, if_neg (by omega : ¬ (i : Int) < (turns.length : Int)), if_pos (by omega : (0 : Int) ≤ (x : Int)), if_pos (by omega : (x : Int) < (row.length : Int)), rdE hxr, Int.toNat_natCast, wrapS (by omega : x + 1 ≤ 9223372036854775807)]
      exact hev
   obtain ⟨b, hb, hev⟩ := inner m 0 (rd_L1 a (s : Int)) (by omega) (List.Perm.refl _)
   refine ⟨b, hb, Ev.next ?_⟩
   simp only [mizmazetop_coloured.l0, if_pos (by omega : (s : Int) < (a.length : Int)), if_pos (by omega : (0 : Int) ≤ (s : Int)), Option.bind_some, List.length_nil, Nat.zero_add, if_pos (by omega : (rd_L1 a (s : Int)).length < 17592186044416), List.nil_append]
   exact hev
 exact key n 0 [] (by omega) rfl (fun i hi => absurd hi (Nat.not_lt_zero i))
theorem top_spread {rows : List (List Int)} {n m : Nat} (V : VA rows n m) {w : List Nat} (hw : Wd m w) (hl : w.length ≤ 1000000) : ∃ I : List Int, I.length ≤ n ∧ (∀ t, t < n → ((run (nx rows) t w : Nat) : Int) ∈ I) ∧ Ev (fun k => mizmazetop_spread.f k rows (toI w)) ((I.length : Nat) : Int) := by
 have hlen := V.len; have hn := V.n60
 unfold mizmazetop_spread.f
 simp only [if_pos (by omega : (0 : Int) ≤ (rows.length : Int)), Int.toNat_natCast, if_pos (by omega : rows.length ≤ 281474976710656)]
 have key : ∀ (d p : Nat) (met : List Bool) (I : List Int), p + d = n → I.length ≤ p → met.length = n → (∀ t : Nat, t < n → (rdOf false met (t : Int) = true ↔ (t : Int) ∈ I)) → (∀ t, t < p → ((run (nx rows) t w : Nat) : Int) ∈ I) → ∃ I2 : List Int, I2.length ≤ n ∧ (∀ t, t < n → ((run (nx rows) t w : Nat) : Int) ∈ I2) ∧ Ev (fun k => mizmazetop_spread.l0 k (toI w) met ((I.length : Nat) : Int) (p : Int) rows) ((I2.length : Nat) : Int) := by
  intro d
  induction d with
  | zero =>
   intro p met I hp hI hm hmet hall
   refine ⟨I, by omega, fun t ht => hall t (by omega), Ev.next ?_⟩
   simp only [mizmazetop_spread.l0, if_neg (by omega : ¬ (p : Int) < (rows.length : Int))]
   exact Ev.now _
  | succ d ih =>
   intro p met I hp hI hm hmet hall
   have hpn : p < n := by omega
   have hr : run (nx rows) p w < n := V.runLt hpn hw
   have hE := topLead_ev V hw hl hpn
   generalize hru : run (nx rows) p w = u at hr hE
   have hset : ∀ t : Nat, t < n → (rdOf false (met.set u true) (t : Int) = true ↔ u = t ∨ (t : Int) ∈ I) := fun t ht => by
    rw [rdBE (by rw [List.length_set]; omega), List.getElem_set]
    have := hmet t ht
    rw [rdBE (by omega)] at this
    by_cases e : u = t
    ·simp [e]
    ·simp [e, this]
   by_cases hu : rdOf false met (u : Int) = true
   ·have hin := (hmet u hr).1 hu
    obtain ⟨I2, g1, g2, g3⟩ := ih (p + 1) (met.set u true) I (by omega) (by omega) (by rw [List.length_set]; exact hm) (fun t ht => by
     rw [hset t ht]
     exact ⟨fun h => h.elim (fun e => e ▸ hin) id, Or.inr⟩) (fun t ht => by
     by_cases e : t = p
     ·subst e; rw [hru]; exact hin
     ·exact hall t (by omega))
    refine ⟨I2, g1, g2, Ev.next ?_⟩
    simp only [mizmazetop_spread.l0, if_pos (by omega : (p : Int) < (rows.length : Int))]
    refine Ev.bind hE ?_
    simp only [if_pos (by omega : (0 : Int) ≤ (u : Int)), if_pos (by omega : (u : Int) < (met.length : Int)), if_pos hu, Int.toNat_natCast, wrapS (by omega : p + 1 ≤ 9223372036854775807)]
    exact g3
   ·obtain ⟨I2, g1, g2, g3⟩ := ih (p + 1) (met.set u true) (((u : Nat) : Int) :: I) (by omega) (by simp; omega) (by rw [List.length_set]; exact hm) (fun t ht => by
     rw [hset t ht, List.mem_cons]
     constructor
     ·rintro (rfl | h)
      ·exact Or.inl rfl
      ·exact Or.inr h
     ·rintro (h | h)
      ·exact Or.inl (by omega)
      ·exact Or.inr h) (fun t ht => by
     by_cases e : t = p
     ·subst e; rw [hru]; exact List.mem_cons_self
     ·exact List.mem_cons_of_mem _ (hall t (by omega)))
    refine ⟨I2, g1, g2, Ev.next ?_⟩
    simp only [mizmazetop_spread.l0, if_pos (by omega : (p : Int) < (rows.length : Int))]
    refine Ev.bind hE ?_
    simp only [if_pos (by omega : (0 : Int) ≤ (u : Int)), if_pos (by omega : (u : Int) < (met.length : Int)), if_neg hu, Int.toNat_natCast, wrapS (by omega : p + 1 ≤ 9223372036854775807), wrapS (by omega : I.length + 1 ≤ 9223372036854775807)]
    exact g3
 rw [hlen]
 have := key n 0 (List.replicate n false) [] (by omega) (by simp) (by simp) (fun t ht => by rw [rdBE (by simpa using ht)]; simp) (fun t ht => absurd ht (Nat.not_lt_zero t))
 exact this
end Go.Proofs.Ytjgdalhdiohclaa.Q
end
section
namespace Go.Proofs.Ytjgdalhdiohclaa.Pure
open Go.RowKit Go.Proofs.YtjgdalhdiohclaaW.PrintWords Go.Proofs.YtjgdalhdiohclaaW.PrintLast Go.Proofs.YtjgdalhdiohclaaW.PrintMore Go.Proofs.Ytjgdalhdiohclaa.Q
theorem cube {n l : Nat} (hn : n ≤ 60) (h0 : 0 < n) (hl : 6 * l ≤ HH (n - 1)) : wrap64 (6 * (l : Int)) ≤ wrap64 (wrap64 (wrap64 ((n : Int) * (n : Int)) * (n : Int)) - (n : Int)) := by
 have e : HH (n - 1) + n = n * n * n := by
  obtain ⟨r, rfl⟩ : ∃ r, n = r + 1 := ⟨n - 1, by omega⟩
  unfold HH
  have e1 : (r + 1) * (r + 1) * (r + 1) = (r + 1) * ((r + 1) * (r + 1)) := Nat.mul_assoc _ _ _
  have e2 : (r + 1) * (r + 1) = r * (r + 2) + 1 := by
   rw [Nat.mul_add, Nat.add_mul, Nat.add_mul]; simp only [Nat.mul_one, Nat.one_mul, Nat.mul_add]; omega
  rw [e1, e2, Nat.add_sub_cancel, Nat.mul_comm r (r + 1), Nat.mul_assoc, Nat.mul_add (r + 1) (r * (r + 2)) 1, Nat.mul_one]
 have hnn : n * n ≤ 3600 := Nat.mul_le_mul hn hn
 have hnnn : n * n * n ≤ 216000 := Nat.mul_le_mul hnn hn
 rw [← Int.natCast_mul]
 generalize ha : n * n = q at *
 rw [wrapI (z := (q : Int)) (by omega) (by omega), ← Int.natCast_mul]
 generalize q * n = c at *
 rw [wrapI (z := (c : Int)) (by omega) (by omega), wrapI (by omega) (by omega), wrapI (by omega) (by omega)]
 omega
theorem TopRoad : Q.mizmazetop_TopRoad.Pure := by
 intro a turns word ha ht hw
 refine Ev.rounds (g := fun k => mizmazetop_TopRoad.f k a turns word) ?_
 unfold mizmazetop_TopRoad.f
 have aw : Ev (fun k => (mizmazetop_colours.f k).bind fun t => some t) true := Ev.bind colours_ev (Ev.now _)
 refine Ev.bind (topValid_ev a) ?_
 cases va : validB a with
 | false => simp only [Bool.false_eq_true, if_false]; exact aw
 | true =>
  have V := VA.of5 va
  generalize hn : a.length = n at V
  generalize hm : (rd_L1 a 0).length = m at V
  have h60 := V.n60; have hn0 := V.n0
  simp only [if_true]
  by_cases hc : SC (nx a) n m
  rotate_left
  ·refine Ev.bind (connected_says V (b := false) ⟨fun h => absurd h (by decide), fun h => absurd h hc⟩) (Ev.bind (road_err (period_no V hc) (by decide)) ?_)
   simp only [if_true, Bool.not_false]
   refine Ev.next ?_
   simp only [mizmazetop_TopRoad.j0, if_true]
   exact aw
  obtain ⟨d, l, p1, p5, p6, p7, p8⟩ := period_only V hc
  have hcon := connected_says V (b := true) ⟨fun _ => hc, fun _ => rfl⟩
  obtain ⟨w', hw1, hw2, hpr⟩ := topProper_ev V word
  by_cases hd : 1 < d
  ·refine Ev.bind hcon (Ev.bind (road_many p1 (by omega)) ?_)
   simp only [if_true, Bool.not_true]
   refine Ev.next ?_
   simp only [mizmazetop_TopRoad.j0, Bool.false_eq_true, if_false]
   refine Ev.bind p1 ?_
   simp only [if_true]
   refine Ev.next ?_
   simp only [mizmazetop_TopRoad.j1, decide_eq_false (by omega : ¬ (d : Int) < 1), Bool.false_eq_true, if_false, if_pos (by omega : (d : Int) > 1), if_true]
   obtain ⟨b, hb, hbe⟩ := top_coloured V turns
   have VB := hb.va V
   have C : Col (nx a) (nx b) n m := Col.of_perm V VB hb.2
   have hmet := class_met VB p6.zero (C.off p7.dvd)
   have many : ∀ v : List Nat, Wd m v → v.length ≤ 1000000 → ∃ z : Nat, d ≤ z ∧ Ev (fun k => mizmazetop_spread.f k b (toI v)) (z : Int) := fun v hv hvl => by
    obtain ⟨I, _, h2, h3⟩ := top_spread VB hv hvl
    exact ⟨_, classes_many (fun s x hs hx => VB.nxLt hs hx) (C.off p7.dvd) hmet hv h2, h3⟩
   obtain ⟨z, hz, hze⟩ := many w' hw1 (by omega)
   obtain ⟨y, hy, hye⟩ := many [] (Wd.nil m) (by simp)
   refine Ev.bind hbe (Ev.bind hpr (Ev.bind hze ?_))
   simp only [if_pos (by omega : (z : Int) ≥ (d : Int))]
   refine Ev.bind hye ?_
   simp only [if_pos (by omega : (y : Int) ≥ (d : Int))]
   exact aw
  obtain rfl : d = 1 := by omega
  rcases road_yes V hc p8 p1 with ⟨b, w, hb, hwr, hl, hev⟩ | ⟨hev, hmany⟩
  ·have VB := hb.va V
   have hwl : w.length ≤ 40000 := by have := HH60 (by omega : n - 1 ≤ 60); omega
   have hall : ∀ v : List Nat, Wd m v → ∀ s, s < n → run (nx b) s (v ++ w) = run (nx b) 0 w := fun v hv s hs => by
    rw [run_app]; exact hwr.2 _ _ (VB.runLt hs hv) hn0
   have ht0 : run (nx b) 0 w < n := VB.runLt hn0 hwr.1
   refine Ev.bind hcon (Ev.bind hev ?_)
   simp only [if_true, Bool.not_true]
   refine Ev.next ?_
   simp only [mizmazetop_TopRoad.j0, Bool.false_eq_true, if_false]
   refine Ev.bind p1 ?_
   simp only [if_true]
   refine Ev.next ?_
   simp only [mizmazetop_TopRoad.j1, decide_eq_false (by decide : ¬ ((1 : Nat) : Int) < 1), Bool.false_eq_true, if_false, if_neg (by decide : ¬ ((1 : Nat) : Int) > 1), if_neg (by decide : ¬ (0 : Int) = 3), if_true]
   refine Ev.bind (top_alike V hb) ?_
   simp only [if_true]
   refine Ev.bind (topRight_ev VB hwr.1 hwl) ?_
   simp only [if_true, toI_len, hn, if_pos (cube h60 hn0 hl)]
   refine Ev.bind (topSpread_one VB hwr.1 (by omega) ht0 fun s hs => hall [] (Wd.nil m) s hs) ?_
   simp only [if_true]
   refine Ev.bind hpr ?_
   have hj := topJoined_ev [w', w] (fun v hv => by
    simp only [List.mem_cons, List.not_mem_nil, or_false] at hv
    rcases hv with rfl | rfl <;> omega) (by simp)
   simp only [List.map_cons, List.map_nil] at hj
   refine Ev.bind hj ?_
   simp only [List.flatten_cons, List.flatten_nil, List.append_nil]
   refine Ev.bind (topSpread_one VB (hw1.app hwr.1) (by rw [List.length_append]; omega) ht0 fun s hs => hall w' hw1 s hs) ?_
   simp only [if_true]
   exact aw
  ·refine Ev.bind hcon (Ev.bind hev ?_)
   simp only [if_true, Bool.not_true]
   refine Ev.next ?_
   simp only [mizmazetop_TopRoad.j0, Bool.false_eq_true, if_false]
   refine Ev.bind p1 ?_
   simp only [if_true]
   refine Ev.next ?_
   simp only [mizmazetop_TopRoad.j1, decide_eq_false (by decide : ¬ ((1 : Nat) : Int) < 1), Bool.false_eq_true, if_false, if_neg (by decide : ¬ ((1 : Nat) : Int) > 1), if_true]
   refine Ev.bind (colorings_ev V) ?_
   cases h : (prodS 1152921504606846976 (waysL a) 1).2 with
   | false => simp only [Bool.false_eq_true, if_false, if_true]; exact aw
   | true =>
    have hgt : 1000000 < (prodS 1152921504606846976 (waysL a) 1).1 := by
     rcases hmany with h1 | h1
     ·rw [h] at h1; cases h1
     ·exact h1
    simp only [if_true, if_neg (by decide : ¬ (0 : Int) = 3), if_pos (by omega : ((prodS 1152921504606846976 (waysL a) 1).1 : Int) > 1000000)]
    exact aw
end Go.Proofs.Ytjgdalhdiohclaa.Pure
end
