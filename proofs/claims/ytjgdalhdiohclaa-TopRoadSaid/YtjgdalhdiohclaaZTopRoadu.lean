/- Part of the proof of TopRoad (text 21 of 33) -/
import Derived.Test.YtjgdalhdiohclaaZTopRoads
import Derived.Test.YtjgdalhdiohclaaZTopRoadi
import Derived.Test.YtjgdalhdiohclaaZTopRoadt
import Derived.Test.YtjgdalhdiohclaaZTopRoadg
import Derived.Test.YtjgdalhdiohclaaZTopRoadh
set_option linter.unusedVariables false
set_option linter.unusedSimpArgs false
set_option linter.unusedSectionVars false
open Go.RowKit Go.Proofs.YtjgdalhdiohclaaW.PrintWords Go.Proofs.YtjgdalhdiohclaaW.PrintLast Go.Proofs.YtjgdalhdiohclaaW.PrintMore
section
namespace Go.Proofs.Ytjgdalhdiohclaa.Q
theorem inPy {n p q : Nat} (hp : p < n) (hq : q < n) : inP n (p : Int) (q : Int) = true := decide_eq_true (by omega)
def seen (i j a b : Nat) : Prop := a < b ∧ (a < i ∨ a = i ∧ b < i + 1 + j)
structure Best (f : Nat → Nat → Nat) (m : Nat) (Q : List Nat) (i j : Nat) (b1 b2 : Nat) (fd : Bool) : Prop where
 none : fd = false → ∀ a b (hb : b < Q.length), ¬ seen i j a b
 some : fd = true → ∃ d, b1 ∈ Q ∧ b2 ∈ Q ∧ b1 < b2 ∧ MDist f m b1 b2 d ∧ ∀ a b (ha : a < Q.length) (hb : b < Q.length), seen i j a b → ∃ e, MDist f m Q[a] Q[b] e ∧ d ≤ e
def NearSays (f : Nat → Nat → Nat) (m : Nat) (Q : List Nat) (r : Int × Int × Bool) : Prop :=
 (r = (0, 0, false) ∧ ∃ a ∈ Q, ∃ b ∈ Q, ¬ Mg f m a b) ∨ ∃ p q d : Nat, r = ((p : Int), (q : Int), true) ∧ p ∈ Q ∧ q ∈ Q ∧ p < q ∧ MDist f m p q d ∧ ∀ a ∈ Q, ∀ b ∈ Q, a ≠ b → ∃ e, MDist f m a b e ∧ d ≤ e
theorem Best.ext {f : Nat → Nat → Nat} {m : Nat} {Q : List Nat} {i j i' j' b1 b2 : Nat} {fd : Bool} (h : Best f m Q i j b1 b2 fd) (e : ∀ a b, b < Q.length → (seen i' j' a b ↔ seen i j a b)) : Best f m Q i' j' b1 b2 fd :=
 ⟨fun hf a b hb hs => h.none hf a b hb ((e a b hb).1 hs), fun hf => by
  obtain ⟨d, h1, h2, h3, h4, h5⟩ := h.some hf
  exact ⟨d, h1, h2, h3, h4, fun a b ha hb hs => h5 a b ha hb ((e a b hb).1 hs)⟩⟩
section
variable {rows : List (List Int)} {n m : Nat} (V : VA rows n m)
include V
theorem nearest_l1 {left : List ((Int × Int) × Int)} (L : LeftOk (nx rows) m n left) {Q : List Nat} (hQ : Q.Pairwise (· < ·)) (hlt : ∀ x ∈ Q, x < n) {i : Nat} (hi : i < Q.length) (hQl : Q.length ≤ 1000000) :
  ∀ (e j b1 b2 : Nat) (fd : Bool), i + 1 + j + e = Q.length → Best (nx rows) m Q i j b1 b2 fd →
  (∃ r, NearSays (nx rows) m Q r ∧ Ev (fun k => merger_nearest.l1 k n left (toI Q) (b1 : Int) (b2 : Int) fd (i : Int) (rd (toI Q) (i : Int)) ((toI Q).drop (i + 1)) (j : Int)) r) ∨
  ∃ b1' b2' fd', Best (nx rows) m Q (i + 1) 0 b1' b2' fd' ∧ ∀ r, Ev (fun k => merger_nearest.l0 k n left (toI Q) (b1' : Int) (b2' : Int) fd' ((i + 1 : Nat) : Int)) r → Ev (fun k => merger_nearest.l1 k n left (toI Q) (b1 : Int) (b2 : Int) fd (i : Int) (rd (toI Q) (i : Int)) ((toI Q).drop (i + 1)) (j : Int)) r := by
 have hn60 := V.n60
 have hdl : ((toI Q).drop (i + 1)).length = Q.length - (i + 1) := by rw [List.length_drop, toI_len]
 intro e
 induction e with
 | zero =>
  intro j b1 b2 fd hj B
  refine Or.inr ⟨b1, b2, fd, B.ext fun a b hb => by unfold seen; omega, fun r hr => Ev.step (fun k => ?_) hr⟩
  rw [merger_nearest.l1, if_neg (by rw [hdl]; omega), wrapS (by omega)]
 | succ e ih =>
  intro j b1 b2 fd hj B
  have hbl : i + 1 + j < Q.length := by omega
  have hp : Q[i] < n := hlt _ (List.getElem_mem hi)
  have hq : Q[i + 1 + j] < n := hlt _ (List.getElem_mem hbl)
  have hpq : Q[i] < Q[i + 1 + j] := List.pairwise_iff_getElem.1 hQ i (i + 1 + j) hi hbl (by omega)
  have hrp : rd (toI Q) (i : Int) = ((Q[i] : Nat) : Int) := toI_rd hi
  have hrq : rd ((toI Q).drop (i + 1)) (j : Int) = ((Q[i + 1 + j] : Nat) : Int) := by
   rw [← toI_rd hbl, rdN, rdN, List.getD_eq_getElem?_getD, List.getD_eq_getElem?_getD, List.getElem?_drop]
  have hseen : ∀ a b, b < Q.length → (seen i (j + 1) a b ↔ seen i j a b ∨ a = i ∧ b = i + 1 + j) := fun a b hb => by unfold seen; omega
  rcases L _ _ (Nat.le_of_lt hpq) hq with ⟨d, h1, h2⟩ | ⟨h1, h2⟩
  ·have take : Best (nx rows) m Q i (j + 1) Q[i] Q[i + 1 + j] true → _ := fun B' => ih (j + 1) Q[i] Q[i + 1 + j] true (by omega) B'
   have keep : Best (nx rows) m Q i (j + 1) b1 b2 true → _ := fun B' => ih (j + 1) b1 b2 true (by omega) B'
   cases fd with
   | false =>
    have B' : Best (nx rows) m Q i (j + 1) Q[i] Q[i + 1 + j] true := ⟨fun h => by simp at h, fun _ => ⟨d, List.getElem_mem hi, List.getElem_mem hbl, hpq, h2, fun a b ha hb hs => by
     rcases (hseen a b hb).1 hs with h3 | ⟨rfl, rfl⟩
     ·exact absurd h3 (B.none rfl a b hb)
     ·exact ⟨d, h2, Nat.le_refl _⟩⟩⟩
    have open_ : ∀ k, merger_nearest.l1 (k + 1) n left (toI Q) (b1 : Int) (b2 : Int) false (i : Int) (rd (toI Q) (i : Int)) ((toI Q).drop (i + 1)) (j : Int) = merger_nearest.l1 k n left (toI Q) ((Q[i] : Nat) : Int) ((Q[i + 1 + j] : Nat) : Int) true (i : Int) (rd (toI Q) (i : Int)) ((toI Q).drop (i + 1)) ((j + 1 : Nat) : Int) := fun k => by
     rw [merger_nearest.l1, if_pos (by rw [hdl]; omega), if_pos (by omega), hrq, hrp, if_pos (inPy hp hq), h1, if_pos (by rfl), if_neg (by decide), wrapS (by omega)]
    rcases take B' with ⟨r, h3, h4⟩ | ⟨b1', b2', fd', h3, h4⟩
    ·exact Or.inl ⟨r, h3, Ev.step open_ h4⟩
    ·exact Or.inr ⟨b1', b2', fd', h3, fun r hr => Ev.step open_ (h4 r hr)⟩
   | true =>
    obtain ⟨db, g1, g2, g3, g4, g5⟩ := B.some rfl
    have hb1 : b1 < n := hlt _ g1
    have hb2 : b2 < n := hlt _ g2
    have hv := L.val (Nat.le_of_lt g3) hb2 g4
    by_cases hlt2 : d < db
    ·have B' : Best (nx rows) m Q i (j + 1) Q[i] Q[i + 1 + j] true := ⟨fun h => by simp at h, fun _ => ⟨d, List.getElem_mem hi, List.getElem_mem hbl, hpq, h2, fun a b ha hb hs => by
      rcases (hseen a b hb).1 hs with h3 | ⟨rfl, rfl⟩
      ·obtain ⟨e', k1, k2⟩ := g5 a b ha hb h3
       exact ⟨e', k1, by omega⟩
      ·exact ⟨d, h2, Nat.le_refl _⟩⟩⟩
     have open_ : ∀ k, merger_nearest.l1 (k + 1) n left (toI Q) (b1 : Int) (b2 : Int) true (i : Int) (rd (toI Q) (i : Int)) ((toI Q).drop (i + 1)) (j : Int) = merger_nearest.l1 k n left (toI Q) ((Q[i] : Nat) : Int) ((Q[i + 1 + j] : Nat) : Int) true (i : Int) (rd (toI Q) (i : Int)) ((toI Q).drop (i + 1)) ((j + 1 : Nat) : Int) := fun k => by
      rw [merger_nearest.l1, if_pos (by rw [hdl]; omega), if_pos (by omega), hrq, hrp, if_pos (inPy hp hq), h1, if_pos (by rfl), if_pos rfl, if_pos (inPy hb1 hb2), hv, Option.getD_some, Option.getD_some, if_pos (by omega), wrapS (by omega)]
     rcases take B' with ⟨r, h3, h4⟩ | ⟨b1', b2', fd', h3, h4⟩
     ·exact Or.inl ⟨r, h3, Ev.step open_ h4⟩
     ·exact Or.inr ⟨b1', b2', fd', h3, fun r hr => Ev.step open_ (h4 r hr)⟩
    ·have B' : Best (nx rows) m Q i (j + 1) b1 b2 true := ⟨fun h => by simp at h, fun _ => ⟨db, g1, g2, g3, g4, fun a b ha hb hs => by
      rcases (hseen a b hb).1 hs with h3 | ⟨rfl, rfl⟩
      ·exact g5 a b ha hb h3
      ·exact ⟨d, h2, by omega⟩⟩⟩
     have open_ : ∀ k, merger_nearest.l1 (k + 1) n left (toI Q) (b1 : Int) (b2 : Int) true (i : Int) (rd (toI Q) (i : Int)) ((toI Q).drop (i + 1)) (j : Int) = merger_nearest.l1 k n left (toI Q) (b1 : Int) (b2 : Int) true (i : Int) (rd (toI Q) (i : Int)) ((toI Q).drop (i + 1)) ((j + 1 : Nat) : Int) := fun k => by
      rw [merger_nearest.l1, if_pos (by rw [hdl]; omega), if_pos (by omega), hrq, hrp, if_pos (inPy hp hq), h1, if_pos (by rfl), if_pos rfl, if_pos (inPy hb1 hb2), hv, Option.getD_some, Option.getD_some, if_neg (by omega), wrapS (by omega)]
     rcases keep B' with ⟨r, h3, h4⟩ | ⟨b1', b2', fd', h3, h4⟩
     ·exact Or.inl ⟨r, h3, Ev.step open_ h4⟩
     ·exact Or.inr ⟨b1', b2', fd', h3, fun r hr => Ev.step open_ (h4 r hr)⟩
  ·refine Or.inl ⟨(0, 0, false), Or.inl ⟨rfl, Q[i], List.getElem_mem hi, Q[i + 1 + j], List.getElem_mem hbl, h2⟩, Ev.step (f := fun _ => some (0, 0, false)) (fun k => ?_) (Ev.now _)⟩
   rw [merger_nearest.l1, if_pos (by rw [hdl]; omega), if_pos (by omega), hrq, hrp, if_pos (inPy hp hq), h1, if_neg (by simp)]
theorem nearest_l0 {left : List ((Int × Int) × Int)} (L : LeftOk (nx rows) m n left) {Q : List Nat} (hQ : Q.Pairwise (· < ·)) (hlt : ∀ x ∈ Q, x < n) (hQl : Q.length ≤ 1000000) (hQ2 : 2 ≤ Q.length) :
  ∀ (e i b1 b2 : Nat) (fd : Bool), i + e = Q.length → Best (nx rows) m Q i 0 b1 b2 fd → ∃ r, NearSays (nx rows) m Q r ∧ Ev (fun k => merger_nearest.l0 k n left (toI Q) (b1 : Int) (b2 : Int) fd (i : Int)) r := by
 intro e
 induction e with
 | zero =>
  intro i b1 b2 fd hi B
  obtain rfl : i = Q.length := by omega
  have hfd : fd = true := by
   cases fd with
   | true => rfl
   | false => exact absurd (show seen Q.length 0 0 1 by unfold seen; omega) (B.none rfl 0 1 (by omega))
  subst hfd
  obtain ⟨d, g1, g2, g3, g4, g5⟩ := B.some rfl
  refine ⟨_, Or.inr ⟨b1, b2, d, rfl, g1, g2, g3, g4, fun a ha b hb hab => ?_⟩, Ev.step (f := fun _ => some ((b1 : Int), (b2 : Int), true)) (fun k => ?_) (Ev.now _)⟩
  ·obtain ⟨x, hx, rfl⟩ := List.getElem_of_mem ha
   obtain ⟨y, hy, rfl⟩ := List.getElem_of_mem hb
   rcases Nat.lt_trichotomy x y with h | h | h
   ·exact g5 x y hx hy (by unfold seen; omega)
   ·subst h; exact absurd rfl hab
   ·obtain ⟨e', k1, k2⟩ := g5 y x hy hx (by unfold seen; omega)
    exact ⟨e', k1.symm, k2⟩
  ·rw [merger_nearest.l0, if_neg (by rw [toI_len]; omega)]
 | succ e ih =>
  intro i b1 b2 fd hi B
  have open_ : ∀ k, merger_nearest.l0 (k + 1) n left (toI Q) (b1 : Int) (b2 : Int) fd (i : Int) = merger_nearest.l1 k n left (toI Q) (b1 : Int) (b2 : Int) fd (i : Int) (rd (toI Q) (i : Int)) ((toI Q).drop (i + 1)) ((0 : Nat) : Int) := fun k => by
   rw [merger_nearest.l0, if_pos (by rw [toI_len]; omega), if_pos (by omega), Int.toNat_natCast]; rfl
  rcases nearest_l1 V L hQ hlt (i := i) (by omega) hQl (Q.length - (i + 1)) 0 b1 b2 fd (by omega) B with ⟨r, h1, h2⟩ | ⟨b1', b2', fd', h1, h2⟩
  ·exact ⟨r, h1, Ev.step open_ h2⟩
  ·obtain ⟨r, h3, h4⟩ := ih (i + 1) b1' b2' fd' (by omega) h1
   exact ⟨r, h3, Ev.step open_ (h2 r h4)⟩
theorem nearest_ev {left : List ((Int × Int) × Int)} (L : LeftOk (nx rows) m n left) {Q : List Nat} (hQ : Q.Pairwise (· < ·)) (hlt : ∀ x ∈ Q, x < n) (hQl : Q.length ≤ 1000000) (hQ2 : 2 ≤ Q.length) :
  ∃ r, NearSays (nx rows) m Q r ∧ Ev (fun k => merger_nearest.f k n left (toI Q)) r := by
 have hn60 := V.n60
 obtain ⟨r, h1, h2⟩ := nearest_l0 V L hQ hlt hQl hQ2 Q.length 0 0 0 false (by omega) ⟨fun _ a b hb h => by unfold seen at h; omega, fun h => by simp at h⟩
 exact ⟨r, h1, Ev.congr (fun k => by rw [merger_nearest.f, if_pos (by omega)]; rfl) h2⟩
theorem lead_each {w : List Nat} (hw : Wd m w) (hl : w.length ≤ 1000000) {Q0 : List Nat} (hlt : ∀ x ∈ Q0, x < n) (hQl : Q0.length ≤ 1000000) : ∀ (e i : Nat), i + e = Q0.length →
  Ev (fun k => reset_Reset.l1 k rows (toI ((Q0.take i).map (fun s => run (nx rows) s w) ++ Q0.drop i)) (toI w) (i : Int)) (toI (Q0.map fun s => run (nx rows) s w)) := by
 intro e
 induction e with
 | zero =>
  intro i hi
  have e1 : Q0.take i = Q0 := List.take_of_length_le (by omega)
  have e2 : Q0.drop i = [] := List.drop_eq_nil_of_le (by omega)
  rw [e1, e2, List.append_nil]
  refine Ev.step (fun k => ?_) (Ev.now _)
  rw [reset_Reset.l1, toI_len, List.length_map, if_neg (by omega)]
 | succ e ih =>
  intro i hi
  have hil : i < Q0.length := by omega
  have htl : ((Q0.take i).map (fun s => run (nx rows) s w)).length = i := by rw [List.length_map, List.length_take]; omega
  have hlen : ((Q0.take i).map (fun s => run (nx rows) s w) ++ Q0.drop i).length = Q0.length := by rw [List.length_append, htl, List.length_drop]; omega
  have hd : Q0.drop i = Q0[i] :: Q0.drop (i + 1) := List.drop_eq_getElem_cons hil
  have hget : ((Q0.take i).map (fun s => run (nx rows) s w) ++ Q0.drop i)[i]'(by omega) = Q0[i] := by
   have h2 : ((Q0.take i).map (fun s => run (nx rows) s w) ++ Q0.drop i)[i]? = some Q0[i] := by
    rw [List.getElem?_append_right (by omega), htl, Nat.sub_self, hd]; rfl
   rw [List.getElem?_eq_getElem (by omega)] at h2
   exact Option.some.inj h2
  have hset : (toI ((Q0.take i).map (fun s => run (nx rows) s w) ++ Q0.drop i)).set i ((run (nx rows) Q0[i] w : Nat) : Int) = toI ((Q0.take (i + 1)).map (fun s => run (nx rows) s w) ++ Q0.drop (i + 1)) := by
   unfold toI
   rw [← List.map_set, List.set_append_right _ _ (by omega), htl, Nat.sub_self, hd, List.set_cons_zero, List.take_succ_eq_append_getElem hil]
   congr 1
   rw [List.map_append, List.append_assoc]
   rfl
  refine Ev.step (f := fun k => (auto_Lead.f k rows ((Q0[i] : Nat) : Int) (toI w)).bind fun t => reset_Reset.l1 k rows ((toI ((Q0.take i).map (fun s => run (nx rows) s w) ++ Q0.drop i)).set i t) (toI w) ((i + 1 : Nat) : Int)) (fun k => ?_) (Ev.bind (auto_lead V (hlt _ (List.getElem_mem hil)) hw hl) ?_)
  ·rw [reset_Reset.l1, toI_len, hlen, if_pos (by omega), if_pos (by omega), toI_rd (by omega), hget, wrapS (by omega), Int.toNat_natCast]
  ·rw [hset]; exact ih (i + 1) (by omega)
structure Way (f : Nat → Nat → Nat) (m n : Nat) (w Q : List Nat) : Prop where
 wd : Wd m w
 srt : Q.Pairwise (· < ·)
 into : ∀ s, s < n → run f s w ∈ Q
 onto : ∀ t ∈ Q, ∃ s, s < n ∧ run f s w = t
omit V in
theorem nodup_of_lt {Q : List Nat} (h : Q.Pairwise (· < ·)) : Q.Nodup := by
 rw [List.nodup_iff_pairwise_ne]
 exact h.imp fun h => by omega
omit V in
theorem Way.lt {f : Nat → Nat → Nat} {m n : Nat} {w Q : List Nat} (h : Way f m n w Q) (hf : ∀ s x, s < n → x < m → f s x < n) : ∀ t ∈ Q, t < n := fun t ht => by
 obtain ⟨s, hs, rfl⟩ := h.onto t ht
 exact runLt hf w s hs h.wd
omit V in
theorem Way.len {f : Nat → Nat → Nat} {m n : Nat} {w Q : List Nat} (h : Way f m n w Q) (hf : ∀ s x, s < n → x < m → f s x < n) : Q.length ≤ n := nodup_le n Q (nodup_of_lt h.srt) (h.lt hf)
def HH (r : Nat) : Nat := r * (r + 1) * (r + 2)
omit V in
theorem HH_succ (r : Nat) : HH (r + 1) = HH r + 3 * ((r + 1) * (r + 2)) := by
 unfold HH
 have e1 : (r + 1) * (r + 1 + 1) * (r + 1 + 2) = (r + 1) * (r + 2) * r + (r + 1) * (r + 2) * 3 := by
  rw [← Nat.mul_add]
 rw [e1, Nat.mul_comm ((r + 1) * (r + 2)) r, Nat.mul_comm ((r + 1) * (r + 2)) 3, Nat.mul_assoc r]
omit V in
theorem HH_mono {r s : Nat} (h : r ≤ s) : HH r ≤ HH s := by
 induction s with
 | zero => rw [Nat.le_zero.1 h]; exact Nat.le_refl _
 | succ s ih =>
  rcases Nat.lt_or_ge s r with h1 | h1
  ·rw [Nat.le_antisymm h h1]; exact Nat.le_refl _
  ·have := ih h1; rw [HH_succ]; omega
def ResetSays (f : Nat → Nat → Nat) (m n : Nat) (r : List Int × Int) : Prop :=
 (∃ w, Wd m w ∧ r = (toI w, 0) ∧ (∀ s t, s < n → t < n → run f s w = run f t w) ∧ 6 * w.length ≤ HH (n - 1)) ∨ (r = ([], 4) ∧ ∃ a b, a < n ∧ b < n ∧ ¬ Mg f m a b)
omit V in
theorem HH60 {r : Nat} (h : r ≤ 60) : HH r ≤ 226920 := Nat.le_trans (HH_mono h) (by decide)
theorem reset_loop {left : List ((Int × Int) × Int)} (L : LeftOk (nx rows) m n left) : ∀ (e : Nat) (w Q : List Nat), Q.length ≤ e → Way (nx rows) m n w Q → 6 * w.length ≤ HH (n - Q.length) →
  ∃ r, ResetSays (nx rows) m n r ∧ Ev (fun k => reset_Reset.l0 k rows left (toI w) (toI Q)) r := by
 have hn60 := V.n60
 have hn0 := V.n0
 have hf : ∀ s x, s < n → x < m → nx rows s x < n := fun s x => V.nxLt
 intro e
 induction e with
 | zero =>
  intro w Q hQ W _
  have h0 := W.into 0 hn0
  rw [List.eq_nil_of_length_eq_zero (Nat.le_zero.1 hQ)] at h0
  cases h0
 | succ e ih =>
  intro w Q hQ W hwl
  have hQn := W.len hf
  have hQlt := W.lt hf
  by_cases h1 : Q.length ≤ 1
  ·have hone : ∀ x ∈ Q, ∀ y ∈ Q, x = y := by
    match Q, h1 with
    | [], _ => intro x hx; cases hx
    | [z], _ => intro x hx y hy; rw [List.mem_singleton.1 hx, List.mem_singleton.1 hy]
   refine ⟨(toI w, 0), Or.inl ⟨w, W.wd, rfl, fun s t hs ht => hone _ (W.into s hs) _ (W.into t ht), ?_⟩, Ev.step (f := fun _ => some (toI w, 0)) (fun k => ?_) (Ev.now _)⟩
   ·have hQ1 : Q.length = 1 := by
     have := List.length_pos_of_mem (W.into 0 hn0); omega
    rw [hQ1] at hwl; exact hwl
   ·rw [reset_Reset.l0, toI_len, if_neg (by omega)]
  ·obtain ⟨r, hr, hev⟩ := nearest_ev V L W.srt hQlt (by omega) (by omega)
   rcases hr with ⟨rfl, a, ha, b, hb, hab⟩ | ⟨p, q, d, rfl, hp, hq, hpq, hd, hmin⟩
   ·refine ⟨([], 4), Or.inr ⟨rfl, a, b, hQlt a ha, hQlt b hb, hab⟩, Ev.step (f := fun k => (merger_nearest.f k rows.length left (toI Q)).bind _) (fun k => by rw [reset_Reset.l0, toI_len, if_pos (by omega)]) ?_⟩
    rw [V.len]
    refine Ev.bind hev ?_
    simp only [Bool.false_eq_true, if_false]
    exact Ev.now _
   ·obtain ⟨wd, hwd, hwev⟩ : ∃ wd, LM (nx rows) m p q wd ∧ Ev (fun k => merger_word.f k rows left (p : Int) (q : Int)) (toI wd, true) := by
     rcases merger_word_ev V L (Nat.le_of_lt hpq) (hQlt q hq) with h | ⟨h, _⟩
     ·exact h
     ·exact absurd hd.mg h
    have hdl : wd.length = d := (hwd.dist V.m0).uniq hd
    have hb := near_bound hf (nodup_of_lt W.srt) hQlt hp hq hd fun a ha b hb hab e' he' => by
     obtain ⟨e2, h2, h3⟩ := hmin a ha b hb hab
     rw [he'.uniq h2]; exact h3
    obtain ⟨Q', hQ', hsrt, hmem⟩ := tidy_nat (Q.map fun s => run (nx rows) s wd)
    have W' : Way (nx rows) m n (w ++ wd) Q' := by
     refine ⟨W.wd.app hwd.wd, hsrt, fun s hs => ?_, fun t ht => ?_⟩
     ·rw [run_app]; exact (hmem _).2 (List.mem_map.2 ⟨_, W.into s hs, rfl⟩)
     ·obtain ⟨u, hu, rfl⟩ := List.mem_map.1 ((hmem t).1 ht)
      obtain ⟨s, hs, rfl⟩ := W.onto u hu
      exact ⟨s, hs, run_app _ _ _ _⟩
    have hless : Q'.length < Q.length := by
     have h2 : ∀ x ∈ Q', x ∈ (Q.erase p).map fun s => run (nx rows) s wd := by
      intro x hx
      obtain ⟨u, hu, rfl⟩ := List.mem_map.1 ((hmem x).1 hx)
      by_cases hup : u = p
      ·subst hup
       exact List.mem_map.2 ⟨q, (nodup_of_lt W.srt).mem_erase_iff.2 ⟨by omega, hq⟩, hwd.ends.symm⟩
      ·exact List.mem_map.2 ⟨u, (nodup_of_lt W.srt).mem_erase_iff.2 ⟨hup, hu⟩, rfl⟩
     have h3 := nodup_sub (nodup_of_lt hsrt) h2
     rw [List.length_map, List.length_erase_of_mem hp] at h3
     omega
    have hQ'0 : 0 < Q'.length := List.length_pos_of_mem (W'.into 0 hn0)
    have hH : 6 * (w ++ wd).length ≤ HH (n - Q'.length) := by
     have h2 := HH_succ (n - Q.length)
     have h3 := HH_mono (show n - Q.length + 1 ≤ n - Q'.length by omega)
     rw [List.length_append, hdl]; omega
    have hH60 := HH60 (show n - Q'.length ≤ 60 by omega)
    rw [List.length_append] at hH
    obtain ⟨r, hr, hrev⟩ := ih (w ++ wd) Q' (by omega) W' (by rw [List.length_append]; exact hH)
    refine ⟨r, hr, Ev.step (f := fun k => (merger_nearest.f k rows.length left (toI Q)).bind _) (fun k => by rw [reset_Reset.l0, toI_len, if_pos (by omega)]) ?_⟩
    rw [V.len]
    refine Ev.bind hev ?_
    simp only [if_true]
    refine Ev.bind hwev ?_
    simp only [toI_len]
    simp only [if_pos (show w.length + wd.length < 17592186044416 by omega), if_pos (show Q.length < 4611686018427387904 by omega)]
    have hl1 := lead_each V hwd.wd (by omega) hQlt (by omega) Q.length 0 (by omega)
    rw [List.take_zero, List.map_nil, List.nil_append, List.drop_zero] at hl1
    refine Ev.bind hl1 ?_
    rw [hQ', show toI w ++ toI wd = toI (w ++ wd) by simp [toI]]
    simp only [toI_len, List.length_map, if_pos (show Q.length < 4611686018427387904 by omega), if_pos (show Q'.length ≤ Q.length by omega)]
    exact hrev
theorem auto_all : Ev (fun k => auto_All.f k rows) (toI (List.range n)) := by
 have hn60 := V.n60
 have key : ∀ d i : Nat, i + d = n → Ev (fun k => auto_All.l0 k (toI (List.range i)) (n : Int) (i : Int)) (toI (List.range n)) := by
  intro d
  induction d with
  | zero =>
   intro i hi
   obtain rfl : i = n := by omega
   refine Ev.step (f := fun _ => some (toI (List.range i))) (fun k => ?_) (Ev.now _)
   rw [auto_All.l0, if_neg (by omega)]
  | succ d ih =>
   intro i hi
   refine Ev.step (fun k => ?_) (ih (i + 1) (by omega))
   rw [auto_All.l0, if_pos (by omega), toI_len, List.length_range, if_pos (by omega), wrapS (by omega), ← toI_snoc, ← List.range_succ]
 have := key n 0 (by omega)
 refine Ev.congr (fun k => ?_) this
 rw [auto_All.f, V.len]; rfl
theorem reset_ev : ∃ r, ResetSays (nx rows) m n r ∧ Ev (fun k => reset_Reset.f k rows) r := by
 obtain ⟨left, L, hl⟩ := newMerger_ev V
 obtain ⟨r, hr, hev⟩ := reset_loop V L n [] (List.range n) (by simp) ⟨Wd.nil m, List.pairwise_lt_range, fun s hs => List.mem_range.2 hs, fun t ht => ⟨t, List.mem_range.1 ht, rfl⟩⟩ (by simp)
 refine ⟨r, hr, ?_⟩
 unfold reset_Reset.f
 simp only [auto_Valid.f, validB_of V, Option.bind_some, if_true]
 exact Ev.bind hl (Ev.bind (auto_all V) hev)
end
end Go.Proofs.Ytjgdalhdiohclaa.Q
end
section
namespace Go.Proofs.Ytjgdalhdiohclaa.Q
theorem topCycle {a : Int} {m : Nat} (hm : 0 < m) (h6 : m ≤ 6) : ∃ x : Nat, x < m ∧ mizmazetop_cycle.f a (m : Int) = some (x : Int) := by
 unfold mizmazetop_cycle.f
 rw [if_neg (by omega)]
 have h1 : Int.tmod a (m : Int) < m := Int.tmod_lt_of_pos a (by omega)
 have h2 : -(m : Int) < Int.tmod a (m : Int) := by
  have := Int.lt_tmod_of_pos a (show (0 : Int) < (m : Int) by omega)
  omega
 rw [wrapI (by omega) (by omega)]
 generalize Int.tmod a (m : Int) = t at h1 h2
 obtain ⟨z, hz⟩ := Int.eq_ofNat_of_zero_le (show 0 ≤ t + (m : Int) by omega)
 refine ⟨z % m, Nat.mod_lt _ hm, ?_⟩
 rw [hz, Int.tmod_eq_emod_of_nonneg (by omega)]
 congr 1
section
variable {rows : List (List Int)} {n m : Nat} (V : VA rows n m)
include V
theorem topLead_loop {w : List Nat} (hw : Wd m w) (hl : w.length ≤ 1000000) : ∀ (d i s : Nat), i + d = w.length → s < n → Ev (fun k => mizmazetop_lead.l0 k (s : Int) (toI w) (i : Int) rows) ((run (nx rows) s (w.drop i) : Nat) : Int)
 | 0, i, s, hi, hs => by
  rw [List.drop_eq_nil_of_le (by omega)]
  exact Ev.step (f := fun _ => some (s : Int)) (fun k => by rw [mizmazetop_lead.l0, if_neg (by rw [toI_len]; omega)]) (Ev.ret rfl)
 | d + 1, i, s, hi, hs => by
  have hlen := V.len
  have hil : i < w.length := by omega
  have hx : w[i] < m := hw _ (List.getElem_mem hil)
  have hrd : rd (toI w) (i : Int) = ((w[i] : Nat) : Int) := by
   rw [rdE (by rw [toI_len]; exact hil)]; simp [toI]
  have ih := topLead_loop hw hl d (i + 1) (nx rows s w[i]) (by omega) (V.nxLt hs hx)
  have e1 : w.drop i = w[i] :: w.drop (i + 1) := List.drop_eq_getElem_cons hil
  rw [e1]
  refine Ev.step (fun k => ?_) ih
  rw [mizmazetop_lead.l0, if_pos (by rw [toI_len]; omega), if_pos (by omega), if_pos (by omega), if_pos (by omega), hrd, if_pos (by omega), if_pos (by rw [V.row s hs]; omega), V.nxE hs hx, wrapS (by omega)]
theorem topLead_ev {w : List Nat} (hw : Wd m w) (hl : w.length ≤ 1000000) {s : Nat} (hs : s < n) : Ev (fun k => mizmazetop_lead.f k rows (s : Int) (toI w)) ((run (nx rows) s w : Nat) : Int) := by
 simpa [mizmazetop_lead.f] using topLead_loop V hw hl w.length 0 s (by omega) hs
theorem topSpread_loop {w : List Nat} (hw : Wd m w) (hl : w.length ≤ 1000000) {t : Nat} (ht : t < n) (hall : ∀ s, s < n → run (nx rows) s w = t) : ∀ (e p : Nat), p + e = n → Ev (fun k => mizmazetop_spread.l0 k (toI w) ((List.replicate n false).set t true) 1 (p : Int) rows) 1
 | 0, p, hp => by
  have hlen := V.len
  exact Ev.step (f := fun _ => some 1) (fun k => by rw [mizmazetop_spread.l0, if_neg (by omega)]) (Ev.ret rfl)
 | e + 1, p, hp => by
  have hlen := V.len
  have h60 := V.n60
  have ih := topSpread_loop hw hl ht hall e (p + 1) (by omega)
  have hpn : p < n := by omega
  refine Ev.step (fun k => by rw [mizmazetop_spread.l0, if_pos (by omega)]) ?_
  have hE := topLead_ev V hw hl hpn
  rw [hall p hpn] at hE
  refine Ev.bind hE ?_
  have h1 : rdOf false ((List.replicate n false).set t true) (t : Int) = true := by
   rw [rdB_set (by simpa using ht), if_pos rfl]
  simp only [List.length_set, List.length_replicate, if_pos (show (0 : Int) ≤ (t : Int) by omega), if_pos (show (t : Int) < (n : Int) by omega), h1, if_true, Int.toNat_natCast, List.set_set, wrapS (show p + 1 ≤ 9223372036854775807 by omega)]
  exact ih
theorem topSpread_one {w : List Nat} (hw : Wd m w) (hl : w.length ≤ 1000000) {t : Nat} (ht : t < n) (hall : ∀ s, s < n → run (nx rows) s w = t) : Ev (fun k => mizmazetop_spread.f k rows (toI w)) 1 := by
 have hlen := V.len
 have h60 := V.n60
 have hn0 := V.n0
 refine Ev.congr (f := fun k => mizmazetop_spread.l0 k (toI w) (List.replicate n false) 0 ((0 : Nat) : Int) rows) (fun k => ?_) ?_
 ·unfold mizmazetop_spread.f
  rw [if_pos (by omega), if_pos (by omega), hlen]
  rfl
 ·refine Ev.step (fun k => by rw [mizmazetop_spread.l0, if_pos (by omega)]) ?_
  have hE := topLead_ev V hw hl hn0
  rw [hall 0 hn0] at hE
  refine Ev.bind hE ?_
  have h1 : rdOf false (List.replicate n false) (t : Int) = false := by
   rw [rdBE (by simpa using ht)]; simp
  have h2 : wrap64 ((0 : Int) + 1) = 1 := by rw [wrapI (by omega) (by omega)]; rfl
  have h3 : wrap64 (((0 : Nat) : Int) + 1) = ((1 : Nat) : Int) := wrapS (by omega)
  simp only [List.length_replicate, if_pos (show (0 : Int) ≤ (t : Int) by omega), if_pos (show (t : Int) < (n : Int) by omega), h1, Bool.false_eq_true, if_false, Int.toNat_natCast, h2, h3]
  exact topSpread_loop V hw hl ht hall (n - 1) 1 (by omega)
theorem topRight_ev {w : List Nat} (hw : Wd m w) (hl : w.length ≤ 40000) : Ev (fun k => mizmazetop_right.f k rows (toI w)) true := by
 have hlen := V.len
 have hn0 := V.n0
 have hr0 : (rd_L1 rows 0).length = m := V.row 0 V.n0
 have key : ∀ (e i : Nat), i + e = w.length → Ev (fun k => mizmazetop_right.l0 k (toI w) (i : Int) rows) true := by
  intro e
  induction e with
  | zero =>
   intro i hi
   exact Ev.step (f := fun _ => some (decide (((toI w).length : Int) ≤ 40000))) (fun k => by rw [mizmazetop_right.l0, if_neg (by rw [toI_len]; omega)]) (Ev.ret (decide_eq_true (by rw [toI_len]; omega)))
  | succ e ih =>
   intro i hi
   have hil : i < w.length := by omega
   have hx : w[i] < m := hw _ (List.getElem_mem hil)
   have hrd : rd (toI w) (i : Int) = ((w[i] : Nat) : Int) := by
    rw [rdE (by rw [toI_len]; exact hil)]; simp [toI]
   exact Ev.step (fun k => by rw [mizmazetop_right.l0, if_pos (by rw [toI_len]; omega), if_pos (by omega), hrd, if_neg (by omega), if_pos (by omega), if_neg (by omega), wrapS (by omega)]) (ih (i + 1) (by omega))
 exact key w.length 0 (by omega)
theorem topProper_ev (l : List Int) : ∃ w, Wd m w ∧ w.length ≤ 2000 ∧ Ev (fun k => mizmazetop_proper.f k rows l) (toI w) := by
 have hlen := V.len
 have hn0 := V.n0
 have hr0 : (rd_L1 rows 0).length = m := V.row 0 V.n0
 have hm0 := V.m0
 have hm6 := V.m6
 have key : ∀ (e i : Nat) (w : List Nat), i + e = min l.length 2000 → w.length = i → Wd m w → ∃ w', Wd m w' ∧ w'.length ≤ 2000 ∧ Ev (fun k => mizmazetop_proper.l0 k l (toI w) (i : Int) rows) (toI w') := by
  intro e
  induction e with
  | zero =>
   intro i w hi hw hwd
   refine ⟨w, hwd, by omega, Ev.step (f := fun _ => some (toI w)) (fun k => ?_) (Ev.now _)⟩
   rw [mizmazetop_proper.l0]
   by_cases h : (i : Int) < (l.length : Int)
   ·rw [if_pos h, if_neg (by omega)]
   ·rw [if_neg h]
  | succ e ih =>
   intro i w hi hw hwd
   obtain ⟨x, hx, he⟩ := topCycle (a := rd l (i : Int)) hm0 hm6
   obtain ⟨w', h1, h2, h3⟩ := ih (i + 1) (w ++ [x]) (by omega) (by simp [hw]) (hwd.app fun y hy => by rw [List.mem_singleton.1 hy]; exact hx)
   refine ⟨w', h1, h2, Ev.step (fun k => ?_) h3⟩
   rw [mizmazetop_proper.l0, if_pos (by omega), if_pos (by omega), if_pos (by omega), if_pos (by omega), hr0, he, Option.bind_some, if_pos (by rw [toI_len]; omega), wrapS (by omega)]
   congr 1
   simp [toI]
 exact key (min l.length 2000) 0 [] (by omega) rfl (Wd.nil m)
end
theorem topJoined_ev : ∀ (L : List (List Nat)), (∀ w ∈ L, w.length ≤ 1000000) → L.length ≤ 1000 → Ev (fun k => mizmazetop_joined.f k (L.map toI)) (toI L.flatten) := by
 intro L hL hl
 have key : ∀ (e i : Nat) (acc : List Nat), i + e = L.length → acc.length ≤ i * 1000000 → Ev (fun k => mizmazetop_joined.l0 k (L.map toI) (toI acc) (i : Int)) (toI (acc ++ (L.drop i).flatten)) := by
  intro e
  induction e with
  | zero =>
   intro i acc hi ha
   refine Ev.step (f := fun _ => some (toI acc)) (fun k => by rw [mizmazetop_joined.l0, if_neg (by rw [List.length_map]; omega)]) (Ev.ret ?_)
   rw [List.drop_eq_nil_of_le (by omega), List.flatten_nil, List.append_nil]
  | succ e ih =>
   intro i acc hi ha
   have hil : i < L.length := by omega
   have hw := hL _ (List.getElem_mem hil)
   have hrd : rd_L1 (L.map toI) (i : Int) = toI L[i] := by
    rw [rdLE (by rw [List.length_map]; exact hil), List.getElem_map]
   have hd : L.drop i = L[i] :: L.drop (i + 1) := List.drop_eq_getElem_cons hil
   have h1 := ih (i + 1) (acc ++ L[i]) (by omega) (by rw [List.length_append]; omega)
   rw [hd, List.flatten_cons, ← List.append_assoc]
   refine Ev.step (fun k => ?_) h1
   rw [mizmazetop_joined.l0, if_pos (by rw [List.length_map]; omega), if_pos (by omega), hrd, if_pos (by rw [toI_len, toI_len]; omega), wrapS (by omega)]
   congr 1
   simp [toI]
 exact key L.length 0 [] (by omega) (by simp)
theorem topValid_ev (rows : List (List Int)) : Ev (fun k => mizmazetop_valid.f k rows) (validB rows) := by
 have big : Ev (fun k => mizmazetop_valid.j0 k true rows) false := by
  refine Ev.next ?_; simp only [mizmazetop_valid.j0, if_true]; exact Ev.now _
 have bad2 : ∀ x i, Ev (fun k => mizmazetop_valid.j2 k x i true rows) false := fun x i => by
  refine Ev.next ?_; simp only [mizmazetop_valid.j2, if_true]; exact Ev.now _
 unfold mizmazetop_valid.f
 by_cases h1 : rows.length = 0
 ·have e : validB rows = false := by rw [Bool.eq_false_iff]; intro h; have := (validB_iff.1 h).n0; omega
  rw [e]; simp only [if_pos (by omega : (rows.length : Int) < 1)]; exact big
 simp only [if_neg (by omega : ¬ (rows.length : Int) < 1)]
 by_cases h2 : rows.length > 60
 ·have e : validB rows = false := by rw [Bool.eq_false_iff]; intro h; have := (validB_iff.1 h).n60; omega
  rw [e]; simp only [decide_eq_true (by omega : (rows.length : Int) > 60)]; exact big
 simp only [decide_eq_false (by omega : ¬ (rows.length : Int) > 60)]
 refine Ev.next ?_
 simp only [mizmazetop_valid.j0, Bool.false_eq_true, if_false, if_pos (by omega : 0 < (rows.length : Int))]
 generalize hk : (rd_L1 rows 0).length = m
 by_cases h3 : m < 1 ∨ 6 < m
 ·have e : validB rows = false := by
   rw [Bool.eq_false_iff]; intro h
   have := (validB_iff.1 h).m0; have := (validB_iff.1 h).m6; omega
  rw [e]
  refine Ev.next ?_
  simp only [mizmazetop_valid.l0, if_pos (by omega : (0 : Int) < (rows.length : Int)), if_pos (show (0 : Int) ≤ 0 by omega), hk, if_true]
  by_cases h4 : m < 1
  ·simp only [if_pos (by omega : (m : Int) < 1)]; exact bad2 _ _
  ·simp only [if_neg (by omega : ¬ (m : Int) < 1), decide_eq_true (by omega : (m : Int) > 6)]; exact bad2 _ _
 refine @Ev.every Bool (fun k i => mizmazetop_valid.l0 k (m : Int) (i : Int) rows) rows.length true false _ (fun i => !badB m rows.length (rd_L1 rows (i : Int))) ?_ ?_ ?_ ?_ ?_
 ·intro h
  unfold validB kOf
  rw [hk, decide_eq_true (by omega), Bool.true_and, Bool.not_eq_true', any_bad]; exact fun i hi => by simpa using h i hi
 ·intro i hi hp
  rw [Bool.eq_false_iff]
  intro h; unfold validB kOf at h
  rw [Bool.and_eq_true, Bool.not_eq_true', any_bad, hk] at h
  have := h.2 i hi
  rw [this] at hp; exact Bool.noConfusion hp
 ·intro i hi hp hr
  simp only [badB, Bool.not_or, Bool.and_eq_true, Bool.not_eq_true', decide_eq_false_iff_not, Classical.not_not, Bool.not_not] at hp
  obtain ⟨hp1, hp2⟩ := hp
  have hin := hp2
  unfold inB at hin
  rw [List.all_eq_true] at hin
  refine Ev.step (f := fun k => mizmazetop_valid.j2 k (m : Int) (i : Int) false rows) (fun k => by rw [mizmazetop_valid.l0, if_pos (by omega), if_pos (by omega), if_pos hp1, if_neg (by omega), decide_eq_false (by omega)]) ?_
  have inner : ∀ (e d : Nat), d + e = m → Ev (fun k => mizmazetop_valid.l1 k (m : Int) (i : Int) (d : Int) rows) (validB rows) := by
   intro e
   induction e with
   | zero =>
    intro d hd
    exact Ev.step (fun k => by rw [mizmazetop_valid.l1, if_neg (by omega), wrapS (by omega)]) hr
   | succ e ih =>
    intro d hd
    have hdl : d < (rd_L1 rows (i : Int)).length := by omega
    have hmem := od (hin _ (List.getElem_mem hdl))
    have hrd : rd (rd_L1 rows (i : Int)) (d : Int) = (rd_L1 rows (i : Int))[d] := rdE hdl
    exact Ev.step (fun k => by rw [mizmazetop_valid.l1, if_pos (by omega), if_pos (by omega), if_pos (by omega), if_pos (by omega), if_pos (by omega), hrd, if_neg (by omega), if_neg (by omega), wrapS (by omega)]) (ih (d + 1) (by omega))
  exact Ev.step (fun k => by rw [mizmazetop_valid.j2, if_neg (by simp)]; rfl) (inner m 0 (by omega))
 ·intro i hi hp
  by_cases h5 : ((rd_L1 rows (i : Int)).length : Int) = (m : Int)
  ·have hin : inB rows.length (rd_L1 rows (i : Int)) = false := by
    simp only [badB, Bool.not_or, Bool.and_eq_false_iff, Bool.not_eq_false', decide_eq_true_eq, Bool.not_not] at hp
    rcases hp with h | h
    ·exact absurd h5 h
    ·exact h
   refine Ev.step (f := fun k => mizmazetop_valid.j2 k (m : Int) (i : Int) false rows) (fun k => by rw [mizmazetop_valid.l0, if_pos (by omega), if_pos (by omega), if_pos h5, if_neg (by omega), decide_eq_false (by omega)]) ?_
   have inner : ∀ (e d : Nat), d + e = m → (∀ j (hj : j < (rd_L1 rows (i : Int)).length), j < d → 0 ≤ (rd_L1 rows (i : Int))[j] ∧ (rd_L1 rows (i : Int))[j] < (rows.length : Int)) → Ev (fun k => mizmazetop_valid.l1 k (m : Int) (i : Int) (d : Int) rows) false := by
    intro e
    induction e with
    | zero =>
     intro d hd hj
     exfalso
     have : inB rows.length (rd_L1 rows (i : Int)) = true := by
      unfold inB
      rw [List.all_eq_true]
      intro z hz
      obtain ⟨j, hj1, rfl⟩ := List.getElem_of_mem hz
      exact decide_eq_true (hj j hj1 (by omega))
     rw [this] at hin; cases hin
    | succ e ih =>
     intro d hd hj
     have hdl : d < (rd_L1 rows (i : Int)).length := by omega
     have hrd : rd (rd_L1 rows (i : Int)) (d : Int) = (rd_L1 rows (i : Int))[d] := rdE hdl
     by_cases h6 : (rd_L1 rows (i : Int))[d] < 0
     ·exact Ev.step (f := fun _ => some false) (fun k => by rw [mizmazetop_valid.l1, if_pos (by omega), if_pos (by omega), if_pos (by omega), if_pos (by omega), if_pos (by omega), hrd, if_pos h6]) (Ev.now _)
     ·by_cases h7 : (rd_L1 rows (i : Int))[d] ≥ (rows.length : Int)
      ·exact Ev.step (f := fun _ => some false) (fun k => by rw [mizmazetop_valid.l1, if_pos (by omega), if_pos (by omega), if_pos (by omega), if_pos (by omega), if_pos (by omega), hrd, if_neg h6, if_pos h7]) (Ev.now _)
      ·refine Ev.step (fun k => by rw [mizmazetop_valid.l1, if_pos (by omega), if_pos (by omega), if_pos (by omega), if_pos (by omega), if_pos (by omega), hrd, if_neg h6, if_neg h7, wrapS (by omega)]) (ih (d + 1) (by omega) fun j hj1 hj2 => ?_)
       rcases Nat.lt_or_ge j d with h8 | h8
       ·exact hj j hj1 h8
       ·obtain rfl : j = d := by omega
        omega
   exact Ev.step (fun k => by rw [mizmazetop_valid.j2, if_neg (by simp)]; rfl) (inner m 0 (by omega) fun j _ h => by omega)
  ·exact Ev.step (f := fun k => mizmazetop_valid.j2 k (m : Int) (i : Int) true rows) (fun k => by rw [mizmazetop_valid.l0, if_pos (by omega), if_pos (by omega), if_neg h5]) (bad2 _ _)
 ·exact Ev.step (f := fun _ => some true) (fun k => by rw [mizmazetop_valid.l0, if_neg (by omega)]) (Ev.now _)
end Go.Proofs.Ytjgdalhdiohclaa.Q
end
