/- One word for all mazes: the word that is found for some numbers of rooms and doors visits all rooms of whatever connected maze with at most this number of rooms, also with doors before it and after it; it is proved for every input, without conditions. (text 16 of 31) -/
import Derived.Test.YtgbjbgdnldklpaaZTopMazeg
/-! Part XSmall -/
section
namespace Go.Proofs.Ytgbjbgdnldklpaa.Q
open Go.RowKit Go.Proofs.YtgbjbgdnldklpaaW.PrintWords Go.Proofs.YtgbjbgdnldklpaaW.PrintLast Go.Proofs.YtgbjbgdnldklpaaW.PrintMore
set_option linter.unusedVariables false
set_option linter.unusedSimpArgs false
/-! ### a maze with few doors -/
theorem ne_type {W : World} {a b : Nat} {cs cs' : Array Value} {t t' : TypeId} (h : W.heap[a]? = some (.cells cs t (0, 0))) (h' : W.heap[b]? = some (.cells cs' t' (0, 0))) (ht : t ≠ t') : a ≠ b := by
 intro e
 subst e
 rw [h] at h'
 injection h' with h'
 injection h' with _ h2
 exact ht h2
/-- The cells of a maze: rooms, doors, and for each door the room behind it. -/
def smC (n d : Int) (rs : List Int) : Array Value := (.int .i64 n :: .int .i64 d :: rs.map (Value.int .u8)).toArray
/-- Block Z is a maze. -/
def SmB (w : World) (Z : Nat) (n d : Int) (rs : List Int) : Prop := w.heap[Z]? = some (.cells (smC n d rs) 66 (0, 0)) ∧ rs.length = 12
theorem SmB.n {w : World} {Z : Nat} {n d : Int} {rs : List Int} (h : SmB w Z n d rs) : w.cell? ⟨Z, 0, none⟩ = some (.int .i64 n) := (blk_cell h.1 0).trans rfl
theorem SmB.d {w : World} {Z : Nat} {n d : Int} {rs : List Int} (h : SmB w Z n d rs) : w.cell? ⟨Z, 1, none⟩ = some (.int .i64 d) := (blk_cell h.1 1).trans rfl
theorem SmB.at_ {w : World} {Z : Nat} {n d : Int} {rs : List Int} (h : SmB w Z n d rs) (i : Int) (h0 : 0 ≤ i) (h1 : i < 12) : w.cell? ⟨Z, 2 + i.toNat, none⟩ = some (.int .u8 (rd rs i)) := by
 refine (blk_cell h.1 (2 + i.toNat)).trans ?_
 have hl := h.2
 show (smC n d rs)[2 + i.toNat]? = _
 unfold smC
 rw [List.getElem?_toArray, show 2 + i.toNat = i.toNat + 1 + 1 by omega, List.getElem?_cons_succ, List.getElem?_cons_succ, List.getElem?_map]
 have : i.toNat < rs.length := by omega
 rw [List.getElem?_eq_getElem this]
 unfold rd
 rw [List.getD_eq_getElem?_getD, List.getElem?_eq_getElem this]
 rfl
def fullU (n : Int) : Int := IntKind.u16.wrap (IntKind.u16.wrap (2 ^ min n.toNat 16) - 1)
set_option maxHeartbeats 400000 in
theorem full_calls (w : World) (Z : Nat) (n d : Int) (rs : List Int) (hZ : SmB w Z n d rs) (h0 : 0 ≤ n) :
  Calls Try.prog 53 #[.pointer (some ⟨Z, 0, none⟩)] w fun e w' => e = .returned (.int .u16 (fullU n)) ∧ w = w' := by
 have hn := hZ.n
 have p0 := eq_true h0
 clear hZ h0
 go_enter Try.func53, Try.ntmps53
 go_wp2
 go_ret
 exact ⟨rfl, rfl⟩
/-- Is room t in the set? -/
def hasU (met t : Int) : Bool := Go.bits .and .u16 (met / 2 ^ min t.toNat 16) 1 == 0
def addU (met t : Int) : Int := Go.bits .or .u16 met (IntKind.u16.wrap (2 ^ min t.toNat 16))
theorem info_u8 : (Try.prog.info? 5).map (fun i => (i.zero, i.size, i.bytes)) = some (some (.int .u8 0), 1, 1) := by kernel_rfl
def portU (a d x : Int) : Int := IntKind.i64.wrap (IntKind.i64.wrap (IntKind.i64.wrap a * d) + x)
mutual
def small_connected.l0 : Nat → Int → Int → List Int → List Int → Int → Int → Option Bool
 | 0, _, _, _, _, _, _ => none
 | k + 1, n, d, rs, list, met, i => if i < (list.length : Int) then small_connected.l1 k n d rs list met i 0 else (if 0 ≤ n then some (met == fullU n) else none)
def small_connected.l1 : Nat → Int → Int → List Int → List Int → Int → Int → Int → Option Bool
 | 0, _, _, _, _, _, _, _ => none
 | k + 1, n, d, rs, list, met, i, x => if x < d then (if 0 ≤ i then (if i < (list.length : Int) then (if 0 ≤ portU (rd list i) d x then (if portU (rd list i) d x < 12 then (if 0 ≤ rd rs (portU (rd list i) d x) then (if hasU met (rd rs (portU (rd list i) d x)) = true then (if list.length < 140737488355327 then small_connected.l1 k n d rs (list ++ [rd rs (portU (rd list i) d x)]) (addU met (rd rs (portU (rd list i) d x))) i (wrap64 (x + 1)) else none) else small_connected.l1 k n d rs list met i (wrap64 (x + 1))) else none) else none) else none) else none) else none) else small_connected.l0 k n d rs list met (wrap64 (i + 1))
end
def small_connected.f (k : Nat) (n d : Int) (rs : List Int) : Option Bool := small_connected.l0 k n d rs [0] 1 0
theorem small_connected.mono_l : ∀ k, (∀ y0 y1 y2 y3 y4 y5, LeO (small_connected.l0 k y0 y1 y2 y3 y4 y5) (small_connected.l0 (k + 1) y0 y1 y2 y3 y4 y5)) ∧ (∀ y0 y1 y2 y3 y4 y5 y6, LeO (small_connected.l1 k y0 y1 y2 y3 y4 y5 y6) (small_connected.l1 (k + 1) y0 y1 y2 y3 y4 y5 y6))
 | 0 => ⟨fun _ _ _ _ _ _ r h => by simp [small_connected.l0] at h, fun _ _ _ _ _ _ _ r h => by simp [small_connected.l1] at h⟩
 | k + 1 => by
  obtain ⟨ih0, ih1⟩ := small_connected.mono_l k
  refine ⟨?_, ?_⟩
  ·intro y0 y1 y2 y3 y4 y5
   unfold small_connected.l0
   repeat' first
   | (with_reducible exact ih1 _ _ _ _ _ _ _)
   | (with_reducible exact LeO.refl _)
   | (with_reducible exact LeO.none _)
   | (with_reducible refine LeO.ite ?_ ?_)
  ·intro y0 y1 y2 y3 y4 y5 y6
   unfold small_connected.l1
   repeat' first
   | (with_reducible exact ih0 _ _ _ _ _ _)
   | (with_reducible exact ih1 _ _ _ _ _ _ _)
   | (with_reducible exact LeO.refl _)
   | (with_reducible exact LeO.none _)
   | (with_reducible refine LeO.ite ?_ ?_)
theorem small_connected.mono : ∀ a0 a1 a2 k, LeO (small_connected.f k a0 a1 a2) (small_connected.f (k + 1) a0 a1 a2) := fun _ _ _ k => (small_connected.mono_l k).1 _ _ _ _ _ _
set_option maxHeartbeats 2000000 in
set_option maxRecDepth 100000 in
theorem small_connected.calls (k : Nat) (n d : Int) (rs : List Int) (r : Bool) (w : World) (Z : Nat) (hZ : SmB w Z n d rs) (h : small_connected.f k n d rs = some r) :
  Calls Try.prog 39 #[.pointer (some ⟨Z, 0, none⟩)] w fun e w' => e = .returned (.bool r) ∧ Below w.heap.size w w' := by
 have HZ := Aside0.mk hZ
 have H' : Aside0 (small_connected.l0 k n d rs [0] 1 0 = some r) := ⟨h⟩
 clear hZ h
 go_enter Try.func39, Try.ntmps39
 go_wp2_with (first | ((with_reducible refine gate_dst (N := 8) rfl ?_); refine Kd.R_lit (Kd.int .u8) _ 5 ?hg (N := 8) ?hd (xs := [0]) (inner := [.int .u8 0]) (ok := fun _ => True) (okp := fun _ => True) ?hr ?hp (fun _ hk => hk) trivial (Below.refl _ _) (Nat.le_refl _) (by simp) ?_; (case hd => rfl); (case hg => rfl); (case hr => first | (go_simp; done) | (go_simp; rfl)); (case hp => exact (Reps.one (show Kd.M (Kd.int .u8) _ _ _ 0 [.int .u8 0] from rfl) (Reps.none _ _)));  intro v1 w1 hO1 hb1 _ hat1; have HO1 := Aside0.mk hO1; have HB1 := Aside0.mk hb1; clear hO1 hb1 hat1))
 go_loopg [3, 4, 5] k (fun kq v3 v4 v5 w' => ∃ (i met : Int) (list : List Int), v3 = .int .u16 met ∧ v5 = .int .i64 i ∧ Aside0 (small_connected.l0 kq n d rs list met i = some r) ∧ Aside0 (kq ≤ k) ∧ Aside0 (Kd.R (Kd.int .u8) 5 w' w.heap.size (fun _ => True) v4 list) ∧ Aside0 (Below w.heap.size w w'))
 case atStart => exact ⟨0, 1, [0], rfl, rfl, H', ⟨Nat.le_refl _⟩, HO1, HB1⟩
 case round =>
  clear H' HO1 HB1
  obtain ⟨i, met, list, rfl, rfl, HA, HK, HO, HB⟩ := hrel
  cases gk with
  | zero => exact absurd HA.out (by simp [small_connected.l0])
  | succ k1 =>
   have H := HA.out
   clear HA
   simp only [small_connected.l0] at H
   obtain ⟨A4, c4, e4⟩ := Kd.R_slice HO.out
   subst e4
   have HZr : Aside0 (SmB wr Z n d rs) := ⟨⟨blk_below HZ.out.1 HB.out, HZ.out.2⟩⟩
   have hcn := HZr.out.n
   have hcd := HZr.out.d
   by_cases d1 : i < (list.length : Int)
   ·rw [if_pos d1] at H
    have H' := Aside0.mk H
    clear H
    have d1b := decide_eq_true d1
    have HI := Aside0.mk d1
    have q1 := eq_true d1
    clear d1
    go_wp2_with fail
    go_loopg [3, 4, 19] k1 (fun kq v3 v4 v19 w' => ∃ (x met : Int) (list : List Int), v3 = .int .u16 met ∧ v19 = .int .i64 x ∧ Aside0 (small_connected.l1 kq n d rs list met i x = some r) ∧ Aside0 (kq ≤ k1) ∧ Aside0 (Kd.R (Kd.int .u8) 5 w' w.heap.size (fun _ => True) v4 list) ∧ Aside0 (Below w.heap.size w w'))
    case atStart => exact ⟨0, met, list, rfl, rfl, H', ⟨Nat.le_refl _⟩, HO, HB⟩
    case round =>
     clear H' HO HB HZr hcn hcd q1 d1b HI
     obtain ⟨x, met2, list2, rfl, rfl, HA, HK2, HO, HB⟩ := hrel
     cases gk with
     | zero => exact absurd HA.out (by simp [small_connected.l1])
     | succ k2 =>
      have H := HA.out
      clear HA
      simp only [small_connected.l1] at H
      have HZr : Aside0 (SmB wr Z n d rs) := ⟨⟨blk_below HZ.out.1 HB.out, HZ.out.2⟩⟩
      have hcn := HZr.out.n
      have hcd := HZr.out.d
      by_cases d2 : x < d
      ·rw [if_pos d2] at H
       by_cases d3 : 0 ≤ i
       ·rw [if_pos d3] at H
        by_cases d4 : i < (list2.length : Int)
        ·rw [if_pos d4] at H
         obtain ⟨idx, hidx⟩ : ∃ z, portU (rd list2 i) d x = z := ⟨_, rfl⟩
         rw [hidx] at H
         unfold portU at hidx
         by_cases d5 : 0 ≤ idx
         ·rw [if_pos d5] at H
          by_cases d6 : idx < 12
          ·rw [if_pos d6] at H
           obtain ⟨ad, c, e4, hx⟩ : ∃ ad c, u4 = Value.slice (some ad) list2.length c ∧ wr.cell? (ad.add i.toNat) = some (.int .u8 (rd list2 i)) := by
            obtain ⟨A, c, e, _, hC⟩ := Kd.R_reads HO.out
            obtain ⟨ad, cs, e2, _, hK, hc0⟩ := Kd.C_get hC 0 i d3 d4
            subst e2
            have hK2 : cs = [.int .u8 (rd list2 i)] := hK
            subst hK2
            exact ⟨ad, c, e, by have h9 := hc0 0 _ rfl; rw [show (Kd.int .u8).sz = 1 from rfl] at h9; simpa using h9⟩
           subst e4
           have hci := HZr.out.at_ idx d5 d6
           obtain ⟨tt, hto⟩ : ∃ z, rd rs idx = z := ⟨_, rfl⟩
           rw [hto] at hci H
           by_cases d7 : 0 ≤ tt
           ·rw [if_pos d7] at H
            have D2 := Aside0.mk d2
            have D3 := Aside0.mk d3
            have D4 := Aside0.mk d4
            have q2 := eq_true d2
            have q3 := eq_true d3
            have q4 := eq_true d4
            have q5 := eq_true d5
            have q6 := eq_true d6
            have q7 := eq_true d7
            have d2b := decide_eq_true d2
            have HTO := Aside0.mk hto
            clear d2 d3 d4 d5 d6 d7 hto
            by_cases d8 : hasU met2 tt = true
            ·rw [if_pos d8] at H
             by_cases d9 : list2.length < 140737488355327
             ·rw [if_pos d9] at H
              have H' := Aside0.mk H
              have D9 := Aside0.mk d9
              have d8b : (Go.bits .and .u16 (met2 / 2 ^ min tt.toNat 16) 1 == 0) = true := d8
              clear H d8 d9
              go_wp2_with fail
              go_quiet (fail)
              have HOq := Aside0.mk (Kd.R_drewN HO.out nq)
              have HBq := Aside0.mk (pw_below_drewN HB.out nq)
              go_wp2_with ((with_reducible refine gate_builtin (b := .append) (xs := #[.tmp 48, .tmp 50]) rfl ?_); at_builtin; refine Kd.R_append (Kd.int .u8) (w0 := w) w.heap.size rfl (.tmp 48) (.tmp 50) 89 5 (.int .u8 0) 1 rfl Try.underlying89 info_u8 rfl (by decide) (by omega) (Value.slice (some ad) list2.length c) list2 tt [.int .u8 tt] (fun _ => True) (fun _ => False) rfl rfl ?aP (fun _ hk => hk.elim) ?aF ?aO ?aB ?aS ?aL ?_; (case aP => exact rfl); (case aB => exact HBq.out); (case aF => exact (fun _ _ => trivial)); (case aO => exact HOq.out); (case aS => exact HBq.out.size); (case aL => have := D9.out; omega); intro v8 w8 ho hb hg hat;  have HO8 := Aside0.mk ho; have HB8 := Aside0.mk hb; clear ho hb hg hat)
              go_roundg k2
              case measure => omega
              case rel => exact ⟨_, _, _, rfl, rfl, H', ⟨by have := HK2.out; omega⟩, HO8, HB8⟩
             ·rw [if_neg d9] at H; exact absurd H (by simp)
            ·rw [if_neg d8] at H
             have H' := Aside0.mk H
             have d8b : (Go.bits .and .u16 (met2 / 2 ^ min tt.toNat 16) 1 == 0) = false := by simpa [hasU] using d8
             clear H d8
             go_wp2_with fail
             go_quiet (fail)
             have HOq := Aside0.mk (Kd.R_drewN HO.out nq)
             have HBq := Aside0.mk (pw_below_drewN HB.out nq)
             go_wp2_with fail
             go_roundg k2
             case measure => omega
             case rel => exact ⟨_, _, _, rfl, rfl, H', ⟨by have := HK2.out; omega⟩, HOq, HBq⟩
           ·rw [if_neg d7] at H; exact absurd H (by simp)
          ·rw [if_neg d6] at H; exact absurd H (by simp)
         ·rw [if_neg d5] at H; exact absurd H (by simp)
        ·rw [if_neg d4] at H; exact absurd H (by simp)
       ·rw [if_neg d3] at H; exact absurd H (by simp)
      ·rw [if_neg d2] at H
       have H' := Aside0.mk H
       have d2b := decide_eq_false d2
       clear H d2
       go_wp2_with fail
       go_roundg k2
       case measure => have := HK2.out; omega
       case rel => exact ⟨_, _, _, rfl, rfl, H', ⟨by have := HK.out; have := HK2.out; omega⟩, HO, HB⟩
   ·rw [if_neg d1] at H
    have d1b := decide_eq_false d1
    by_cases d2 : 0 ≤ n
    ·rw [if_pos d2] at H
     obtain rfl := Option.some.inj H
     have D2 := Aside0.mk d2
     clear H d1 d2
     go_wp2_with (refine (full_calls wr Z n d rs HZr.out D2.out).mono ?_; rintro e w' ⟨rfl, rfl⟩)
     go_ret
     exact ⟨rfl, HB.out⟩
    ·rw [if_neg d2] at H; exact absurd H (by simp)
end Go.Proofs.Ytgbjbgdnldklpaa.Q
end
/-! Part MNumA -/
section
namespace Go.Proofs.Ytgbjbgdnldklpaa.Q
open Go.RowKit Go.Proofs.YtgbjbgdnldklpaaW.PrintWords Go.Proofs.YtgbjbgdnldklpaaW.PrintLast Go.Proofs.YtgbjbgdnldklpaaW.PrintMore
set_option linter.unusedVariables false
/-! ### numbers, lists, rounds -/
theorem wrapS {i : Nat} (h : i + 1 ≤ 9223372036854775807) : wrap64 ((i : Int) + 1) = ((i + 1 : Nat) : Int) := by
 unfold wrap64; omega
theorem wrapI {z : Int} (h0 : -9223372036854775808 ≤ z) (h : z ≤ 9223372036854775807) : wrap64 z = z := by
 unfold wrap64; omega
theorem rdN (l : List Int) (i : Nat) : rd l (i : Int) = l.getD i 0 := rfl
theorem rdE {l : List Int} {i : Nat} (h : i < l.length) : rd l (i : Int) = l[i] := by
 rw [rdN, List.getD_eq_getElem?_getD, List.getElem?_eq_getElem h]; rfl
theorem rdBE {l : List Bool} {i : Nat} (h : i < l.length) : rdOf false l (i : Int) = l[i] := by
 show l.getD i false = _
 rw [List.getD_eq_getElem?_getD, List.getElem?_eq_getElem h]; rfl
theorem rdB_set {l : List Bool} {i j : Nat} {b : Bool} (hj : j < l.length) : rdOf false (l.set i b) (j : Int) = if i = j then b else rdOf false l (j : Int) := by
 rw [rdBE (by rw [List.length_set]; exact hj), rdBE hj, List.getElem_set]
theorem rdI_put {l : List Int} {i j : Nat} {v : Int} (hj : j < l.length) : rd (l.set i v) (j : Int) = if i = j then v else rd l (j : Int) := by
 rw [rdE (by rw [List.length_set]; exact hj), rdE hj, List.getElem_set]
theorem Ev.eq {α : Type} {g : Nat → Option α} {r r' : α} (h : Ev g r) (e : r = r') : Ev g r' := e ▸ h
theorem Ev.next {α : Type} {g : Nat → Option α} {r : α} (h : Ev (fun k => g (k + 1)) r) : Ev g r := Ev.step (fun _ => rfl) h
theorem Ev.ret {α : Type} {r r' : α} (e : r = r') : Ev (fun _ => some r) r' := e ▸ Ev.now r
/-! ### words -/
def Wd (m : Nat) (w : List Nat) : Prop := ∀ x ∈ w, x < m
theorem Wd.nil (m : Nat) : Wd m [] := fun _ h => nomatch h
theorem Wd.app {m : Nat} {v w : List Nat} (h : Wd m v) (k : Wd m w) : Wd m (v ++ w) := fun x hx => (List.mem_append.1 hx).elim (h x) (k x)
theorem Wd.left {m : Nat} {v w : List Nat} (h : Wd m (v ++ w)) : Wd m v := fun x hx => h x (List.mem_append.2 (Or.inl hx))
theorem Wd.right {m : Nat} {v w : List Nat} (h : Wd m (v ++ w)) : Wd m w := fun x hx => h x (List.mem_append.2 (Or.inr hx))
theorem Wd.tail {m x : Nat} {w : List Nat} (h : Wd m (x :: w)) : Wd m w := fun y hy => h y (List.mem_cons_of_mem _ hy)
theorem Wd.head {m x : Nat} {w : List Nat} (h : Wd m (x :: w)) : x < m := h x List.mem_cons_self
def toI (w : List Nat) : List Int := w.map fun (x : Nat) => (x : Int)
theorem toI_snoc (w : List Nat) (x : Nat) : toI (w ++ [x]) = toI w ++ [(x : Int)] := by simp [toI]
theorem toI_len (w : List Nat) : (toI w).length = w.length := by simp [toI]
theorem toI_rd {w : List Nat} {i : Nat} (h : i < w.length) : rd (toI w) (i : Int) = ((w[i] : Nat) : Int) := by
 rw [rdE (by rw [toI_len]; exact h)]; simp [toI]
theorem nodup_le : ∀ (n : Nat) (l : List Nat), l.Nodup → (∀ x ∈ l, x < n) → l.length ≤ n
 | 0, l, _, h => by
  cases l with
  | nil => exact Nat.le_refl 0
  | cons x l => exact absurd (h x List.mem_cons_self) (Nat.not_lt_zero x)
 | n + 1, l, hd, h => by
  by_cases hn : n ∈ l
  ·have h1 := nodup_le n (l.erase n) (hd.erase n) fun x hx => by
    have h2 := h x (List.mem_of_mem_erase hx)
    have h3 : x ≠ n := fun e => by subst e; exact hd.not_mem_erase hx
    omega
   rw [List.length_erase_of_mem hn] at h1; omega
  ·have := nodup_le n l hd fun x hx => by
    have h2 := h x hx
    have h3 : x ≠ n := fun e => hn (e ▸ hx)
    omega
   omega
theorem nodup_sub {S T : List Nat} (h : S.Nodup) (hs : ∀ x ∈ S, x ∈ T) : S.length ≤ T.length := by
 induction S generalizing T with
 | nil => exact Nat.zero_le _
 | cons x S ih =>
  rw [List.nodup_cons] at h
  have hx := hs x List.mem_cons_self
  have h2 := ih (T := T.erase x) h.2 fun y hy => by
   have hne : y ≠ x := fun e => h.1 (e ▸ hy)
   exact (List.mem_erase_of_ne hne).2 (hs y (List.mem_cons_of_mem _ hy))
  have := List.length_pos_of_mem hx
  rw [List.length_erase_of_mem hx] at h2
  simp; omega
end Go.Proofs.Ytgbjbgdnldklpaa.Q
end
/-! Part MMazeB -/
section
namespace Go.Proofs.Ytgbjbgdnldklpaa.Q
open Go.RowKit Go.Proofs.YtgbjbgdnldklpaaW.PrintWords Go.Proofs.YtgbjbgdnldklpaaW.PrintLast Go.Proofs.YtgbjbgdnldklpaaW.PrintMore
set_option linter.unusedVariables false
theorem inB_toI {m : Nat} {w : List Nat} : inB (m : Int) (toI w) = true ↔ Wd m w := by
 unfold inB toI
 rw [List.all_eq_true]
 constructor
 ·intro h x hx
  have := h (x : Int) (List.mem_map.2 ⟨x, hx, rfl⟩)
  have := of_decide_eq_true this
  omega
 ·intro h z hz
  obtain ⟨x, hx, rfl⟩ := List.mem_map.1 hz
  have := h x hx
  exact decide_eq_true (by omega)
/-! ### valid mazes -/
theorem rdLE4 {l : List (List S44)} {i : Nat} (h : i < l.length) : rd_L4 l (i : Int) = l[i] := by
 show l.getD i [] = _
 rw [List.getD_eq_getElem?_getD, List.getElem?_eq_getElem h]; rfl
/-- The room behind a door, and the door there. -/
def gz (z : List (List S44)) (r d : Nat) : Nat := (rd_T44 (rd_L4 z (r : Int)) (d : Int)).f0.toNat
def dz (z : List (List S44)) (r d : Nat) : Nat := (rd_T44 (rd_L4 z (r : Int)) (d : Int)).f1.toNat
structure VZ (z : List (List S44)) (n k : Nat) : Prop where
 len : z.length = n
 n0 : 0 < n
 n60 : n ≤ 60
 k0 : 0 < k
 k6 : k ≤ 6
 row : ∀ r, r < n → (rd_L4 z (r : Int)).length = k
 f0 : ∀ r d, r < n → d < k → (rd_T44 (rd_L4 z (r : Int)) (d : Int)).f0 = (gz z r d : Int)
 f1 : ∀ r d, r < n → d < k → (rd_T44 (rd_L4 z (r : Int)) (d : Int)).f1 = (dz z r d : Int)
 gLt : ∀ r d, r < n → d < k → gz z r d < n
 dLt : ∀ r d, r < n → d < k → dz z r d < k
 back : ∀ r d, r < n → d < k → gz z (gz z r d) (dz z r d) = r ∧ dz z (gz z r d) (dz z r d) = d
theorem okDoor_iff {z : List (List S44)} {n k : Nat} (hn : z.length = n) {r d : Nat} : okDoor z (k : Int) (r : Int) (d : Int) = true ↔
  ((rd_T44 (rd_L4 z (r : Int)) (d : Int)).f0 = (gz z r d : Int) ∧ (rd_T44 (rd_L4 z (r : Int)) (d : Int)).f1 = (dz z r d : Int) ∧ gz z r d < n ∧ dz z r d < k ∧
   (rd_T44 (rd_L4 z ((gz z r d : Nat) : Int)) ((dz z r d : Nat) : Int)).f0 = (r : Int) ∧ (rd_T44 (rd_L4 z ((gz z r d : Nat) : Int)) ((dz z r d : Nat) : Int)).f1 = (d : Int)) := by
 unfold okDoor
 rw [Bool.and_eq_true, Bool.and_eq_true, decide_eq_true_eq, beq_iff_eq, beq_iff_eq]
 constructor
 ·rintro ⟨⟨h1, h2, h3, h4⟩, h5, h6⟩
  have e0 : (rd_T44 (rd_L4 z (r : Int)) (d : Int)).f0 = (gz z r d : Int) := by unfold gz; omega
  have e1 : (rd_T44 (rd_L4 z (r : Int)) (d : Int)).f1 = (dz z r d : Int) := by unfold dz; omega
  rw [e0, e1] at h5 h6
  exact ⟨e0, e1, by omega, by omega, h5, h6⟩
 ·rintro ⟨e0, e1, h2, h4, h5, h6⟩
  rw [e0, e1]
  exact ⟨⟨by omega, by omega, by omega, by omega⟩, h5, h6⟩
theorem mvB_iff {z : List (List S44)} : mvB z = true ↔ VZ z z.length (rd_L4 z 0).length := by
 unfold mvB
 rw [Bool.and_eq_true, Bool.and_eq_true, decide_eq_true_eq, Bool.not_eq_true', List.any_eq_false, List.all_eq_true]
 have hk : kOfM z = ((rd_L4 z 0).length : Int) := rfl
 constructor
 ·rintro ⟨⟨⟨h1, h2, h3, h4⟩, h5⟩, h6⟩
  rw [hk] at h3 h4
  have row : ∀ r, r < z.length → (rd_L4 z (r : Int)).length = (rd_L4 z 0).length := fun r hr => by
   have h := h5 (rd_L4 z (r : Int)) (by rw [rdLE4 hr]; exact List.getElem_mem _)
   unfold lenB at h
   rw [hk] at h
   simp at h
   omega
  have ok : ∀ r d, r < z.length → d < (rd_L4 z 0).length → okDoor z (((rd_L4 z 0).length : Nat) : Int) (r : Int) (d : Int) = true := fun r d hr hd => by
   have h := h6 r (List.mem_range.2 hr)
   unfold okRow at h
   rw [List.all_eq_true] at h
   exact h d (List.mem_range.2 (by rw [hk]; omega))
  refine ⟨rfl, by omega, by omega, by omega, by omega, row, fun r d hr hd => ((okDoor_iff rfl).1 (ok r d hr hd)).1, fun r d hr hd => ((okDoor_iff rfl).1 (ok r d hr hd)).2.1, fun r d hr hd => ((okDoor_iff rfl).1 (ok r d hr hd)).2.2.1, fun r d hr hd => ((okDoor_iff rfl).1 (ok r d hr hd)).2.2.2.1, fun r d hr hd => ?_⟩
  obtain ⟨_, _, _, _, h7, h8⟩ := (okDoor_iff rfl).1 (ok r d hr hd)
  constructor
  ·show Int.toNat _ = _; rw [h7]; simp
  ·show Int.toNat _ = _; rw [h8]; simp
 ·intro V
  have := V.n0; have := V.n60; have := V.k0; have := V.k6
  refine ⟨⟨⟨by omega, by omega, by rw [hk]; omega, by rw [hk]; omega⟩, fun row hrow => ?_⟩, fun r hr => ?_⟩
  ·obtain ⟨r, hr, rfl⟩ := List.getElem_of_mem hrow
   have := V.row r hr
   rw [rdLE4 hr] at this
   unfold lenB
   rw [hk]
   simp [this]
  ·have hr := List.mem_range.1 hr
   unfold okRow
   rw [List.all_eq_true]
   intro d hd
   have hd := List.mem_range.1 hd
   rw [hk, Int.toNat_natCast] at hd
   rw [hk]
   refine (okDoor_iff rfl).2 ⟨V.f0 r d hr hd, V.f1 r d hr hd, V.gLt r d hr hd, V.dLt r d hr hd, ?_, ?_⟩
   ·rw [V.f0 _ _ (V.gLt r d hr hd) (V.dLt r d hr hd), (V.back r d hr hd).1]
   ·rw [V.f1 _ _ (V.gLt r d hr hd) (V.dLt r d hr hd), (V.back r d hr hd).2]
theorem mvB_of {z : List (List S44)} {n k : Nat} (V : VZ z n k) : mvB z = true := by
 refine mvB_iff.2 ?_
 have h1 := V.len; subst h1
 have h2 : (rd_L4 z 0).length = k := V.row 0 V.n0
 rw [h2]; exact V
end Go.Proofs.Ytgbjbgdnldklpaa.Q
end
/-! Part MWalkZ -/
section
namespace Go.Proofs.Ytgbjbgdnldklpaa.Q
open Go.RowKit Go.Proofs.YtgbjbgdnldklpaaW.PrintWords Go.Proofs.YtgbjbgdnldklpaaW.PrintLast Go.Proofs.YtgbjbgdnldklpaaW.PrintMore
set_option linter.unusedVariables false
set_option linter.unusedSectionVars false
/-! ### the rooms where one is -/
def stepsZ (z : List (List S44)) : Nat → List Nat → List Nat
 | _, [] => []
 | s, x :: w => gz z s x :: stepsZ z (gz z s x) w
def pathZ (z : List (List S44)) (s : Nat) (w : List Nat) : List Nat := s :: stepsZ z s w
theorem stepsZ_len (z : List (List S44)) : ∀ (w : List Nat) (s : Nat), (stepsZ z s w).length = w.length
 | [], _ => rfl
 | x :: w, s => by simp [stepsZ, stepsZ_len z w]
theorem pathZ_len (z : List (List S44)) (s : Nat) (w : List Nat) : (pathZ z s w).length = w.length + 1 := by simp [pathZ, stepsZ_len]
section
variable {z : List (List S44)} {n m : Nat} (V : VZ z n m)
include V
theorem stepsZ_lt : ∀ {w : List Nat} {s : Nat}, s < n → Wd m w → ∀ t ∈ stepsZ z s w, t < n
 | [], s, hs, hw, t, ht => by cases ht
 | x :: w, s, hs, hw, t, ht => by
  have h1 := V.gLt s x hs hw.head
  rcases List.mem_cons.1 ht with rfl | ht
  ·exact h1
  ·exact stepsZ_lt h1 hw.tail t ht
theorem pathZ_lt {w : List Nat} {s : Nat} (hs : s < n) (hw : Wd m w) : ∀ t ∈ pathZ z s w, t < n := fun t ht => by
 rcases List.mem_cons.1 ht with rfl | ht
 ·exact hs
 ·exact stepsZ_lt V hs hw t ht
theorem walk_loop {w : List Nat} (hw : Wd m w) (hl : w.length ≤ 1000000) : ∀ (e i s : Nat) (out : List Int), i + e = w.length → s < n → out.length ≤ i + 1 → Ev (fun k => maze_Walk.l0 k (s : Int) out (toI w) (w.length : Int) (i : Int) z) (out ++ toI (stepsZ z s (w.drop i)), 0)
 | 0, i, s, out, he, hs, ho => by
  refine Ev.step (f := fun _ => some (out, (0 : Int))) (fun k => by rw [maze_Walk.l0, if_neg (by omega)]) (Ev.ret ?_)
  rw [List.drop_eq_nil_of_le (by omega)]
  simp [stepsZ, toI]
 | e + 1, i, s, out, he, hs, ho => by
  have hi : i < w.length := by omega
  have hx : w[i] < m := hw _ (List.getElem_mem hi)
  have hlen := V.len
  have hrow := V.row s hs
  have ih := walk_loop hw hl e (i + 1) (gz z s w[i]) (out ++ [((gz z s w[i] : Nat) : Int)]) (by omega) (V.gLt s _ hs hx) (by simp; omega)
  have e1 : out ++ toI (stepsZ z s (w.drop i)) = (out ++ [((gz z s w[i] : Nat) : Int)]) ++ toI (stepsZ z (gz z s w[i]) (w.drop (i + 1))) := by
   rw [List.drop_eq_getElem_cons hi]
   simp [stepsZ, toI]
  rw [e1]
  refine Ev.step (fun k => by rw [maze_Walk.l0, if_pos (by omega), if_pos (by omega), if_pos (by rw [toI_len]; omega), if_pos (by omega), if_pos (by omega), toI_rd hi, if_pos (by omega), if_pos (by omega), V.f0 s _ hs hx, if_pos (by omega), wrapS (by omega)]) ih
theorem walk_ev {w : List Nat} (hw : Wd m w) (hl : w.length ≤ 40000) {s : Nat} (hs : s < n) : Ev (fun k => maze_Walk.f k z (s : Int) (toI w)) (toI (pathZ z s w), 0) := by
 have hlen := V.len
 have hr0 : (rd_L4 z 0).length = m := V.row 0 V.n0
 have h0 := V.n0
 have := walk_loop V hw (by omega) w.length 0 s [(s : Int)] (by omega) hs (by simp)
 have e1 : ([(s : Int)] ++ toI (stepsZ z s (w.drop 0)), (0 : Int)) = (toI (pathZ z s w), 0) := by simp [pathZ, toI]
 rw [e1] at this
 refine this.congr fun k => ?_
 unfold maze_Walk.f maze_Valid.f maze_fits.f
 rw [mvB_of V, Option.bind_some, if_pos rfl, if_neg (by omega), if_neg (by omega), if_pos (by omega), hr0, Option.bind_some, toI_len, decide_eq_true hl, Bool.true_and, inB_toI.2 hw, if_pos rfl]
 rfl
end
end Go.Proofs.Ytgbjbgdnldklpaa.Q
end
/-! Part MConnZ -/
section
namespace Go.Proofs.Ytgbjbgdnldklpaa.Q
open Go.RowKit Go.Proofs.YtgbjbgdnldklpaaW.PrintWords Go.Proofs.YtgbjbgdnldklpaaW.PrintLast Go.Proofs.YtgbjbgdnldklpaaW.PrintMore
set_option linter.unusedVariables false
set_option linter.unusedSectionVars false
/-- The last room of a path. -/
def endZ (z : List (List S44)) : Nat → List Nat → Nat
 | s, [] => s
 | s, x :: w => endZ z (gz z s x) w
theorem endZ_app (z : List (List S44)) : ∀ (u v : List Nat) (s : Nat), endZ z s (u ++ v) = endZ z (endZ z s u) v
 | [], _, _ => rfl
 | x :: u, v, s => by simp [endZ, endZ_app z u v]
/-! ### connected mazes -/
def trues (b : List Bool) : Nat := b.count true
theorem trues_set {l : List Bool} {u : Nat} (h : u < l.length) (hf : rdOf false l (u : Int) = false) : trues (l.set u true) = trues l + 1 := by
 induction l generalizing u with
 | nil => exact absurd h (by simp)
 | cons b l ih =>
  cases u with
  | zero =>
   have : b = false := hf
   subst this
   simp [trues]
  | succ u =>
   have := ih (u := u) (by simpa using h) (by rw [rdBE (by simpa using h)]; rw [rdBE h] at hf; simpa using hf)
   simp only [trues] at this
   cases b <;> simp [trues] <;> omega
theorem trues_le (b : List Bool) : trues b ≤ b.length := List.count_le_length
theorem trues_all {b : List Bool} : trues b = b.length ↔ ∀ t, t < b.length → rdOf false b (t : Int) = true := by
 unfold trues
 rw [List.count_eq_length]
 constructor
 ·intro h t ht
  rw [rdBE ht]
  exact (h _ (List.getElem_mem ht)).symm
 ·intro h x hx
  obtain ⟨t, ht, rfl⟩ := List.getElem_of_mem hx
  have := h t ht
  rw [rdBE ht] at this
  exact this.symm
theorem trues_none (n : Nat) : trues (List.replicate n false) = 0 := by
 simp [trues, List.count_replicate]
theorem nodup_full {n : Nat} {Q : List Nat} (hd : Q.Nodup) (hl : ∀ x ∈ Q, x < n) (h : Q.length = n) {t : Nat} (ht : t < n) : t ∈ Q := by
 refine Classical.byContradiction fun hc => ?_
 have := nodup_le n (t :: Q) (List.nodup_cons.2 ⟨hc, hd⟩) fun x hx => (List.mem_cons.1 hx).elim (fun e => e ▸ ht) (hl x)
 simp at this; omega
/-- Each room can be reached from room 0. -/
def Cn (z : List (List S44)) (n m : Nat) : Prop := ∀ t, t < n → ∃ w, Wd m w ∧ endZ z 0 w = t
structure BfZ (z : List (List S44)) (n m : Nat) (Q : List Nat) : Prop where
 nd : Q.Nodup
 lt : ∀ t ∈ Q, t < n
 z0 : 0 ∈ Q
 wd : ∀ (i : Nat) (hi : i < Q.length), ∃ w, Wd m w ∧ w.length ≤ i ∧ endZ z 0 w = Q[i]
section
variable {z : List (List S44)} {n m : Nat} (V : VZ z n m)
include V
theorem endZ_lt : ∀ {w : List Nat} {s : Nat}, s < n → Wd m w → endZ z s w < n
 | [], s, hs, hw => hs
 | x :: w, s, hs, hw => endZ_lt (w := w) (s := gz z s x) (V.gLt s x hs hw.head) hw.tail
end
end Go.Proofs.Ytgbjbgdnldklpaa.Q
end
/-! Part MVisZ -/
section
namespace Go.Proofs.Ytgbjbgdnldklpaa.Q
open Go.RowKit Go.Proofs.YtgbjbgdnldklpaaW.PrintWords Go.Proofs.YtgbjbgdnldklpaaW.PrintLast Go.Proofs.YtgbjbgdnldklpaaW.PrintMore
set_option linter.unusedVariables false
set_option linter.unusedSectionVars false
/-! ### the reference's Visits -/
section
variable {z : List (List S44)} {n m : Nat} (V : VZ z n m)
include V
end
end Go.Proofs.Ytgbjbgdnldklpaa.Q
end
