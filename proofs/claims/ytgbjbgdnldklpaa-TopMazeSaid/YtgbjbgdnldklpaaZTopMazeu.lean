/- One word for all mazes: the word that is found for some numbers of rooms and doors visits all rooms of whatever connected maze with at most this number of rooms, also with doors before it and after it; it is proved for every input, without conditions. (text 21 of 31) -/
import Derived.Test.YtgbjbgdnldklpaaZTopMazet
import Derived.Laws.EntriesVeiled
import Derived.Test.YtgbjbgdnldklpaaZTopMazep
/-! Part XAll1 -/
section
namespace Go.Proofs.Ytgbjbgdnldklpaa.Q
open Go.RowKit Go.Proofs.YtgbjbgdnldklpaaW.PrintWords Go.Proofs.YtgbjbgdnldklpaaW.PrintLast Go.Proofs.YtgbjbgdnldklpaaW.PrintMore
set_option linter.unusedVariables false
set_option linter.unusedSimpArgs false
theorem from_ok (l base : Nat) (n d N : Int) (Rb Db Yb Zb Ub Fb : Nat) (L : List (List Int)) (J Jx : (Nat → Prop) → List (List Int) → World → Prop)
  (hN : wrap64 (n * d) = N) (hsJ : StableJ base J) (hOwn : ∀ b, ownF Rb Db Yb Zb Ub Fb b → base ≤ b) (hY : YieldsF l base n d Rb Db L J Jx)
  (k : Nat) : FromOk l n d N Rb Db Yb Zb Ub Fb L J Jx k := by
 induction k using Nat.strongRecOn with
 | ind k ih =>
  cases k with
  | zero => intro us rs p acc R W _ _ _ h; simp [maze_from.l0] at h
  | succ k => exact from_step l base n d N Rb Db Yb Zb Ub Fb L J Jx hN hsJ hOwn hY k (fun j hj => ih j (by omega))
def maze_all.f (k : Nat) (n d : Int) : Option (List (List Int)) := (maze_from.l0 k (wrap64 (n * d)) d (List.replicate 12 false) (List.replicate 12 0) 0 []).bind fun R => some R.2.2
theorem maze_all.mono : ∀ a0 a1 k, LeO (maze_all.f k a0 a1) (maze_all.f (k + 1) a0 a1) := fun _ _ k => LeO.bind ((maze_from.mono_l k).1 _ _ _ _ _ _) (fun _ => LeO.refl _)
set_option maxHeartbeats 1000000 in
set_option maxRecDepth 100000 in
theorem maze_all.seq (k : Nat) (n d : Int) (L : List (List Int)) (Rb Db : Nat) (w0 : World) (h : maze_all.f k n d = some L) :
  SeqP Try.prog w0.heap.size 51 #[.pointer (some ⟨Rb, 0, none⟩), .pointer (some ⟨Db, 0, none⟩)] (EncM n d) L (fun b => b = Rb ∨ b = Db) (fun W => W.heap[Rb]? = some (.cells #[.int .i64 n] 3 (0, 0)) ∧ W.heap[Db]? = some (.cells #[.int .i64 d] 3 (0, 0))) := by
 intro l J Jx W hSt hown hbase hsJ hsJx hY h0
 obtain ⟨R, hR, hL⟩ := Option.bind_eq_some_iff.1 h
 have hL := Option.some.inj hL
 have HR := Aside0.mk hR
 have HL := Aside0.mk hL
 have HSt := Aside0.mk hSt
 have Hown := Aside0.mk hown
 have Hbase := Aside0.mk hbase
 have HsJ := Aside0.mk hsJ
 have HY := Aside0.mk hY
 have HJ := Aside0.mk h0
 have hcR : W.cell? ⟨Rb, 0, none⟩ = some (.int .i64 n) := (blk_cell hSt.1 0).trans rfl
 have hcD : W.cell? ⟨Db, 0, none⟩ = some (.int .i64 d) := (blk_cell hSt.2 0).trans rfl
 have e1 : (#[Value.func (.yield l) #[] #[]] ++ #[Value.pointer (some ⟨Rb, 0, none⟩), Value.pointer (some ⟨Db, 0, none⟩)] : Array Value) = #[.func (.yield l) #[] #[], .pointer (some ⟨Rb, 0, none⟩), .pointer (some ⟨Db, 0, none⟩)] := rfl
 have hcR1 : (W.alloc (.cells #[.func (.yield l) #[] #[]] 87)).cell? ⟨Rb, 0, none⟩ = some (.int .i64 n) := pw_cell_below (below_alloc (Below.refl _ _) _) hcR
 have hcD1 : (W.alloc (.cells #[.func (.yield l) #[] #[]] 87)).cell? ⟨Db, 0, none⟩ = some (.int .i64 d) := pw_cell_below (below_alloc (Below.refl _ _) _) hcD
 clear hR hL hcR hcD hSt hown hbase hsJ hsJx hY h0 h
 rw [e1]
 clear e1
 go_enter Try.func51, Try.ntmps51
 go_wp2_with fail
 obtain ⟨W1, hW1⟩ : ∃ W1, W1 = ((((W.alloc (.cells #[.func (.yield l) #[] #[]] 87)).alloc (.cells (smC n d (List.replicate 12 0)) 66)).alloc (.cells ((List.replicate 12 false).map Value.bool).toArray 88)).alloc (.cells #[.func (.func 52) #[] (caF Rb Db W.heap.size (W.heap.size + 1) (W.heap.size + 1 + 1) (W.heap.size + 1 + 1 + 1))] 83)) := ⟨_, rfl⟩
 have hb : Below W.heap.size W W1 := by rw [hW1]; exact ((((Below.refl _ W).alloc (Nat.le_refl _) _).alloc (by simp) _).alloc (by simp; omega) _).alloc (by simp; omega) _
 have hS : FS l n d Rb Db W.heap.size (W.heap.size + 1) (W.heap.size + 1 + 1) (W.heap.size + 1 + 1 + 1) W1 (List.replicate 12 false) (List.replicate 12 0) := by
  refine ⟨blk_below HSt.out.1 hb, blk_below HSt.out.2 hb, ?_, ⟨?_, rfl⟩, ?_, rfl, ?_⟩
  ·rw [hW1]; exact blk_alloc (blk_alloc (blk_alloc (blk_new _ _) _) _) _
  ·rw [hW1]; refine blk_alloc (blk_alloc ?_ _) _
   have := blk_new (W.alloc (.cells #[.func (.yield l) #[] #[]] 87)) (.cells (smC n d (List.replicate 12 0)) 66)
   rwa [World.size_alloc] at this
  ·rw [hW1]; refine blk_alloc ?_ _
   have := blk_new ((W.alloc (.cells #[.func (.yield l) #[] #[]] 87)).alloc (.cells (smC n d (List.replicate 12 0)) 66)) (.cells ((List.replicate 12 false).map Value.bool).toArray 88)
   rwa [World.size_alloc, World.size_alloc] at this
  ·rw [hW1]
   have := blk_new (((W.alloc (.cells #[.func (.yield l) #[] #[]] 87)).alloc (.cells (smC n d (List.replicate 12 0)) 66)).alloc (.cells ((List.replicate 12 false).map Value.bool).toArray 88)) (.cells #[.func (.func 52) #[] (caF Rb Db W.heap.size (W.heap.size + 1) (W.heap.size + 1 + 1) (W.heap.size + 1 + 1 + 1))] 83)
   rwa [World.size_alloc, World.size_alloc, World.size_alloc] at this
 have hO : ∀ b, ownF Rb Db W.heap.size (W.heap.size + 1) (W.heap.size + 1 + 1) (W.heap.size + 1 + 1 + 1) b → w0.heap.size ≤ b := by
  have h0 := Hbase.out
  rintro b (rfl | rfl | rfl | rfl | rfl | rfl)
  ·exact (Hown.out _ (Or.inl rfl)).2
  ·exact (Hown.out _ (Or.inr rfl)).2
  all_goals omega
 have hJ1 : J (ownF Rb Db W.heap.size (W.heap.size + 1) (W.heap.size + 1 + 1) (W.heap.size + 1 + 1 + 1)) [] W1 := by
  refine HsJ.out _ _ _ _ _ HJ.out (KeptBut.of_below hb) (fun b h => (Hown.out b h).2) ?_
  rintro b (rfl | rfl | rfl | rfl | rfl | rfl)
  ·exact Or.inl (Or.inl rfl)
  ·exact Or.inl (Or.inr rfl)
  all_goals (right; omega)
 have HC := from_ok l w0.heap.size n d _ Rb Db W.heap.size (W.heap.size + 1) (W.heap.size + 1 + 1) (W.heap.size + 1 + 1 + 1) L J Jx rfl HsJ.out hO HY.out k _ _ 0 [] R W1 hS hJ1 ⟨[], by rw [HL.out]; simp⟩ HR.out
 have e1 : (#[Value.int .i64 0] ++ caF Rb Db W.heap.size (W.heap.size + 1) (W.heap.size + 1 + 1) (W.heap.size + 1 + 1 + 1) : Array Value) = #[.int .i64 0, .pointer (some ⟨Rb, 0, none⟩), .pointer (some ⟨Db, 0, none⟩), .pointer (some ⟨W.heap.size + 1 + 1, 0, none⟩), .pointer (some ⟨W.heap.size, 0, none⟩), .pointer (some ⟨W.heap.size + 1, 0, none⟩), .pointer (some ⟨W.heap.size + 1 + 1 + 1, 0, none⟩)] := rfl
 rw [e1, hW1] at HC
 have HO := Aside0.mk hO
 clear e1 hJ1 hO hS hb hW1
 refine HC.mono ?_
 rintro e w5 ⟨bq, rfl, hD⟩
 have HD := Aside0.mk hD
 clear hD HC
 go_wp2_with fail
 refine bodyPost_end (results_none rfl _ _ _) rfl ⟨⟨_, rfl⟩, ?_⟩
 rcases HD.out with ⟨rfl, _, hJ5⟩ | ⟨rfl, pre, hx5⟩
 ·exact Or.inl ⟨_, HO.out, by rw [← HL.out]; exact hJ5⟩
 ·exact Or.inr ⟨_, pre, HO.out, hx5⟩
end Go.Proofs.Ytgbjbgdnldklpaa.Q
end
/-! Part MEnumZ -/
section
namespace Go.Proofs.Ytgbjbgdnldklpaa.Q
open Go.RowKit Go.Proofs.YtgbjbgdnldklpaaW.PrintWords Go.Proofs.YtgbjbgdnldklpaaW.PrintLast Go.Proofs.YtgbjbgdnldklpaaW.PrintMore
set_option linter.unusedVariables false
set_option linter.unusedSectionVars false
/-! ### the pairings of doors, in the order of the iterator -/
abbrev Pg := Nat → Option Nat
def put2 (σ : Pg) (p q : Nat) : Pg := fun i => if i = p then some q else if i = q then some p else σ i
def enumE : Nat → Pg → Nat → List Pg
 | 0, σ, _ => [σ]
 | e + 1, σ, p => if (σ p).isSome = true then enumE e σ (p + 1) else (List.range (e + 1)).flatMap fun j => if 0 < j ∧ (σ (p + j)).isSome = true then [] else enumE e (put2 σ p (p + j)) (p + 1)
/-- A pairing of some of the first N doors. -/
def PartZ (N : Nat) (σ : Pg) : Prop := ∀ i q, σ i = some q → i < N ∧ q < N ∧ σ q = some i
def TotZ (N : Nat) (σ : Pg) : Prop := PartZ N σ ∧ ∀ i, i < N → (σ i).isSome = true
def noneP : Pg := fun _ => none
theorem part_none (N : Nat) : PartZ N noneP := fun i q h => by simp [noneP] at h
theorem PartZ.put {N : Nat} {σ : Pg} (h : PartZ N σ) {p q : Nat} (hp : p < N) (hq : q < N) (hsp : σ p = none) (hsq : q ≠ p → σ q = none) : PartZ N (put2 σ p q) := by
 have hsq' : σ q = none := by
  by_cases e : q = p
  ·rw [e]; exact hsp
  ·exact hsq e
 intro i r hi
 unfold put2 at hi ⊢
 by_cases e1 : i = p
 ·rw [if_pos e1] at hi
  obtain rfl := Option.some.inj hi
  refine ⟨by omega, hq, ?_⟩
  by_cases e2 : q = p
  ·rw [if_pos e2, e1, e2]
  ·rw [if_neg e2, if_pos rfl, e1]
 ·rw [if_neg e1] at hi
  by_cases e2 : i = q
  ·rw [if_pos e2] at hi
   obtain rfl := Option.some.inj hi
   exact ⟨by omega, hp, by rw [if_pos rfl, e2]⟩
  ·rw [if_neg e2] at hi
   obtain ⟨h1, h2, h3⟩ := h i r hi
   refine ⟨h1, h2, ?_⟩
   have e3 : r ≠ p := fun e => by rw [e, hsp] at h3; cases h3
   have e4 : r ≠ q := fun e => by rw [e, hsq'] at h3; cases h3
   rw [if_neg e3, if_neg e4, h3]
theorem put2_some (σ : Pg) (p q i : Nat) (h : (σ i).isSome = true) : (put2 σ p q i).isSome = true := by
 unfold put2
 split
 ·rfl
 ·split
  ·rfl
  ·exact h
theorem enum_tot {N : Nat} : ∀ (e p : Nat) (σ : Pg), p + e = N → PartZ N σ → (∀ i, i < p → (σ i).isSome = true) → ∀ τ ∈ enumE e σ p, TotZ N τ
 | 0, p, σ, he, hP, hu, τ, h => by
  rw [enumE, List.mem_singleton] at h
  subst h
  exact ⟨hP, fun i hi => hu i (by omega)⟩
 | e + 1, p, σ, he, hP, hu, τ, h => by
  rw [enumE] at h
  by_cases hs : (σ p).isSome = true
  ·rw [if_pos hs] at h
   refine enum_tot e (p + 1) σ (by omega) hP (fun i hi => ?_) τ h
   rcases Nat.lt_or_ge i p with h7 | h7
   ·exact hu i h7
   ·obtain rfl : i = p := by omega
    exact hs
  ·rw [if_neg hs, List.mem_flatMap] at h
   obtain ⟨j, hj, h⟩ := h
   have hj := List.mem_range.1 hj
   by_cases hc : 0 < j ∧ (σ (p + j)).isSome = true
   ·rw [if_pos hc] at h; cases h
   ·rw [if_neg hc] at h
    refine enum_tot e (p + 1) _ (by omega) (hP.put (by omega) (by omega) (Option.not_isSome_iff_eq_none.1 hs) fun hne => Option.not_isSome_iff_eq_none.1 fun h7 => hc ⟨by omega, h7⟩) (fun i hi => ?_) τ h
    rcases Nat.lt_or_ge i p with h7 | h7
    ·exact put2_some _ _ _ _ (hu i h7)
    ·obtain rfl : i = p := by omega
     unfold put2; rw [if_pos rfl]; rfl
theorem enum_mem {N : Nat} {f : Nat → Nat} (hf : ∀ i, i < N → f i < N ∧ f (f i) = i) : ∀ (e p : Nat) (σ : Pg), p + e = N → PartZ N σ → (∀ i, i < p → (σ i).isSome = true) → (∀ i q, σ i = some q → f i = q) → (fun i => if i < N then some (f i) else none) ∈ enumE e σ p
 | 0, p, σ, he, hP, hu, hfs => by
  rw [enumE, List.mem_singleton]
  funext i
  by_cases hi : i < N
  ·rw [if_pos hi]
   obtain ⟨q, hq⟩ := Option.isSome_iff_exists.1 (hu i (by omega))
   rw [hq, hfs i q hq]
  ·rw [if_neg hi]
   cases hs : σ i with
   | none => rfl
   | some q => exact absurd (hP i q hs).1 hi
 | e + 1, p, σ, he, hP, hu, hfs => by
  rw [enumE]
  by_cases hs : (σ p).isSome = true
  ·rw [if_pos hs]
   refine enum_mem hf e (p + 1) σ (by omega) hP (fun i hi => ?_) hfs
   rcases Nat.lt_or_ge i p with h7 | h7
   ·exact hu i h7
   ·obtain rfl : i = p := by omega
    exact hs
  ·have hsn := Option.not_isSome_iff_eq_none.1 hs
   rw [if_neg hs, List.mem_flatMap]
   obtain ⟨h1, h2⟩ := hf p (by omega)
   have hpn : ∀ i, i < p → f p ≠ i := fun i hi e => by
    obtain ⟨q, hq⟩ := Option.isSome_iff_exists.1 (hu i hi)
    have h3 := hfs i q hq
    have h4 := (hP i q hq).2.2
    have h5 : q = p := by rw [← h3, ← e]; exact h2
    rw [h5, hsn] at h4; cases h4
   have hge : p ≤ f p := by
    rcases Nat.lt_or_ge (f p) p with h7 | h7
    ·exact absurd rfl (hpn _ h7)
    ·exact h7
   have hfn : f p ≠ p → σ (f p) = none := fun hne => by
    cases h7 : σ (f p) with
    | none => rfl
    | some q =>
     have h3 := hfs _ q h7
     rw [h2] at h3
     have h4 := (hP _ q h7).2.2
     rw [← h3, hsn] at h4; cases h4
   refine ⟨f p - p, List.mem_range.2 (by omega), ?_⟩
   have e1 : p + (f p - p) = f p := by omega
   rw [e1, if_neg (fun hc => by rw [hfn (by omega)] at hc; simp at hc)]
   refine enum_mem hf e (p + 1) _ (by omega) (hP.put (by omega) h1 hsn hfn) (fun i hi => ?_) (fun i q hi => ?_)
   ·rcases Nat.lt_or_ge i p with h7 | h7
    ·exact put2_some _ _ _ _ (hu i h7)
    ·obtain rfl : i = p := by omega
     unfold put2; rw [if_pos rfl]; rfl
   ·unfold put2 at hi
    by_cases e2 : i = p
    ·rw [if_pos e2] at hi; rw [e2]; exact Option.some.inj hi
    ·rw [if_neg e2] at hi
     by_cases e3 : i = f p
     ·rw [if_pos e3] at hi; rw [e3, h2]; exact Option.some.inj hi
     ·rw [if_neg e3] at hi; exact hfs i q hi
/-! ### the iterator's memory -/
def usL (σ : Pg) : List Bool := (List.range 12).map fun i => (σ i).isSome
def roomsP (d : Nat) (σ : Pg) : List Int := (List.range 12).map fun i => (((σ i).getD 0 / d : Nat) : Int)
theorem usL_len (σ : Pg) : (usL σ).length = 12 := by simp [usL]
theorem usL_at (σ : Pg) {i : Nat} (h : i < 12) : rdOf false (usL σ) (i : Int) = (σ i).isSome := by
 rw [rdBE (by rw [usL_len]; exact h)]; simp [usL]
theorem list_b_ext {a b : List Bool} (ha : a.length = 12) (hb : b.length = 12) (h : ∀ i : Nat, i < 12 → rdOf false a (i : Int) = rdOf false b (i : Int)) : a = b := by
 refine List.ext_getElem (by omega) fun i h1 h2 => ?_
 have := h i (by omega)
 rwa [rdBE h1, rdBE h2] at this
theorem list_i_ext {a b : List Int} (ha : a.length = 12) (hb : b.length = 12) (h : ∀ i : Nat, i < 12 → rd a (i : Int) = rd b (i : Int)) : a = b := by
 refine List.ext_getElem (by omega) fun i h1 h2 => ?_
 have := h i (by omega)
 rwa [rdE h1, rdE h2] at this
structure RelS (N d : Nat) (σ : Pg) (rs : List Int) : Prop where
 len : rs.length = 12
 u : ∀ i q, σ i = some q → rd rs (i : Int) = ((q / d : Nat) : Int)
 z : ∀ i, N ≤ i → i < 12 → rd rs (i : Int) = 0
theorem u8d_nat {q d : Nat} (hq : q < 12) : u8d (q : Int) (d : Int) = ((q / d : Nat) : Int) := by
 have h1 : q / d ≤ q := Nat.div_le_self _ _
 have e : (q : Int).tdiv (d : Int) = ((q / d : Nat) : Int) := by
  rw [Int.tdiv_eq_ediv_of_nonneg (by omega)]; norm_cast
 unfold u8d
 rw [e]
 generalize q / d = r at h1
 rw [wrapI (by omega) (by omega)]
 show ((r : Int)) % 256 = _
 omega
section
variable {N d : Nat} (hN : N ≤ 12) (hd : 1 ≤ d)
include hN hd
theorem from_ev : ∀ (e p : Nat) (σ : Pg) (rs : List Int) (acc : List (List Int)), p + e = N → PartZ N σ → (∀ i, i < p → (σ i).isSome = true) → RelS N d σ rs →
  ∃ rs', RelS N d σ rs' ∧ Ev (fun k => maze_from.l0 k (N : Int) (d : Int) (usL σ) rs (p : Int) acc) (usL σ, rs', acc ++ (enumE e σ p).map (roomsP d))
 | 0, p, σ, rs, acc, he, hP, hu, R => by
  refine ⟨rs, R, ?_⟩
  have e1 : roomsP d σ = rs := list_i_ext (by simp [roomsP]) R.len fun i hi => by
   rw [rdE (by simpa [roomsP] using hi)]
   simp only [roomsP, List.getElem_map, List.getElem_range]
   cases hs : σ i with
   | some q => rw [R.u i q hs]; rfl
   | none =>
    rcases Nat.lt_or_ge i N with h7 | h7
    ·have := hu i (by omega); rw [hs] at this; cases this
    ·rw [R.z i h7 hi]; simp
  refine Ev.step (f := fun _ => some (usL σ, rs, acc ++ [rs])) (fun k => by rw [maze_from.l0, if_neg (by omega), if_pos (by omega)]) (Ev.ret ?_)
  rw [enumE, List.map_singleton, e1]
 | e + 1, p, σ, rs, acc, he, hP, hu, R => by
  have hp : p < 12 := by omega
  rw [enumE]
  by_cases hs : (σ p).isSome = true
  ·obtain ⟨rs', R', h1⟩ := from_ev e (p + 1) σ rs acc (by omega) hP (fun i hi => by
    rcases Nat.lt_or_ge i p with h7 | h7
    ·exact hu i h7
    ·obtain rfl : i = p := by omega
     exact hs) R
   refine ⟨rs', R', ?_⟩
   rw [if_pos hs]
   exact Ev.step (fun k => by rw [maze_from.l0, if_pos (by omega), if_pos (by omega), if_pos (by omega), if_pos (by rw [usL_at σ hp]; exact hs), wrapS (by omega)]) h1
  ·have hsn := Option.not_isSome_iff_eq_none.1 hs
   rw [if_neg hs]
   have inner : ∀ (f j : Nat) (rs : List Int) (acc : List (List Int)), j + f = e + 1 → RelS N d σ rs → ∃ rs', RelS N d σ rs' ∧
     Ev (fun k => maze_from.l1 k (N : Int) (d : Int) ((usL σ).set p true) rs (p : Int) ((p + j : Nat) : Int) acc) (usL σ, rs', acc ++ ((List.range' j f).flatMap fun j => if 0 < j ∧ (σ (p + j)).isSome = true then [] else enumE e (put2 σ p (p + j)) (p + 1)).map (roomsP d)) := by
    intro f
    induction f with
    | zero =>
     intro j rs acc hj R
     refine ⟨rs, R, Ev.step (f := fun _ => some (usL σ, rs, acc)) (fun k => ?_) (Ev.ret (by simp))⟩
     rw [maze_from.l1, if_neg (by omega), Int.toNat_natCast, List.set_set]
     congr 2
     refine list_b_ext (by rw [List.length_set, usL_len]) (usL_len σ) fun i hi => ?_
     rw [rdB_set (by rw [usL_len]; exact hi)]
     by_cases e : p = i
     ·rw [if_pos e, usL_at σ hi, ← e, hsn]; rfl
     ·rw [if_neg e]
    | succ f ih =>
     intro j rs acc hj R
     have hq : p + j < 12 := by omega
     have hus : rdOf false ((usL σ).set p true) ((p + j : Nat) : Int) = if p = p + j then true else (σ (p + j)).isSome := by
      rw [rdB_set (by rw [usL_len]; exact hq), usL_at σ hq]
     rw [List.range'_succ, List.flatMap_cons]
     by_cases hc : 0 < j ∧ (σ (p + j)).isSome = true
     ·obtain ⟨rs', R', h1⟩ := ih (j + 1) rs acc (by omega) R
      refine ⟨rs', R', ?_⟩
      rw [if_pos hc, List.nil_append]
      refine Ev.step (fun k => by rw [maze_from.l1, if_pos (by omega), if_pos (by omega), if_pos (by omega), if_pos ⟨by omega, by rw [hus, if_neg (by omega)]; exact hc.2⟩, wrapS (by omega), Nat.add_assoc]) h1
     ·have hqn : p + j ≠ p → σ (p + j) = none := fun hne => Option.not_isSome_iff_eq_none.1 fun h7 => hc ⟨by omega, h7⟩
      have hqn' : σ (p + j) = none := by
       by_cases e : p + j = p
       ·rw [e]; exact hsn
       ·exact hqn e
      have hP' := hP.put (by omega : p < N) (by omega : p + j < N) hsn hqn
      have R1 : RelS N d (put2 σ p (p + j)) ((rs.set p (u8d ((p + j : Nat) : Int) (d : Int))).set (p + j) (u8d (p : Int) (d : Int))) := by
       have hl := R.len
       refine ⟨by rw [List.length_set, List.length_set]; exact hl, fun i q hi => ?_, fun i h1 h2 => ?_⟩
       ·have hi12 : i < 12 := by have := (hP' i q hi).1; omega
        rw [rdI_put (by rw [List.length_set]; omega), rdI_put (by omega), u8d_nat hq, u8d_nat hp]
        unfold put2 at hi
        by_cases e1 : i = p
        ·rw [if_pos e1] at hi
         obtain rfl := Option.some.inj hi
         by_cases e2 : p + j = i
         ·rw [if_pos e2, e2, e1]
         ·rw [if_neg e2, if_pos e1.symm]
        ·rw [if_neg e1] at hi
         by_cases e2 : i = p + j
         ·rw [if_pos e2] at hi
          obtain rfl := Option.some.inj hi
          rw [if_pos e2.symm]
         ·rw [if_neg e2] at hi
          rw [if_neg (fun h => e2 h.symm), if_neg (fun h => e1 h.symm)]
          exact R.u i q hi
       ·rw [rdI_put (by rw [List.length_set]; omega), rdI_put (by omega), if_neg (by omega), if_neg (by omega)]
        exact R.z i h1 h2
      have eu : ((usL σ).set p true).set (p + j) true = usL (put2 σ p (p + j)) := by
       refine list_b_ext (by rw [List.length_set, List.length_set, usL_len]) (usL_len _) fun i hi => ?_
       rw [rdB_set (by rw [List.length_set, usL_len]; exact hi), rdB_set (by rw [usL_len]; exact hi), usL_at _ hi, usL_at _ hi]
       unfold put2
       by_cases e1 : i = p
       ·by_cases e2 : p + j = i
        ·rw [if_pos e2, if_pos e1]; rfl
        ·rw [if_neg e2, if_pos e1.symm, if_pos e1]; rfl
       ·by_cases e2 : p + j = i
        ·rw [if_pos e2, if_neg e1, if_pos e2.symm]; rfl
        ·rw [if_neg e2, if_neg (fun h => e1 h.symm), if_neg e1, if_neg (fun h => e2 h.symm)]
      obtain ⟨rs1, R2, h2⟩ := from_ev e (p + 1) (put2 σ p (p + j)) _ acc (by omega) hP' (fun i hi => by
       rcases Nat.lt_or_ge i p with h7 | h7
       ·exact put2_some _ _ _ _ (hu i h7)
       ·obtain rfl : i = p := by omega
        unfold put2; rw [if_pos rfl]; rfl) R1
      have R3 : RelS N d σ rs1 := ⟨R2.len, fun i q hi => R2.u i q (by
       unfold put2
       rw [if_neg (fun h => by rw [h, hsn] at hi; cases hi), if_neg (fun h => by rw [h, hqn'] at hi; cases hi)]
       exact hi), R2.z⟩
      obtain ⟨rs', R', h3⟩ := ih (j + 1) rs1 (acc ++ (enumE e (put2 σ p (p + j)) (p + 1)).map (roomsP d)) (by omega) R3
      refine ⟨rs', R', ?_⟩
      rw [if_neg hc, List.map_append, ← List.append_assoc]
      have eb : (usL (put2 σ p (p + j))).set (p + j) ((((p + j : Nat) : Int)) == (p : Int)) = (usL σ).set p true := by
       refine list_b_ext (by rw [List.length_set, usL_len]) (by rw [List.length_set, usL_len]) fun i hi => ?_
       rw [rdB_set (by rw [usL_len]; exact hi), rdB_set (by rw [usL_len]; exact hi), usL_at _ hi, usL_at _ hi]
       unfold put2
       by_cases e2 : p + j = i
       ·rw [if_pos e2]
        by_cases e1 : p = i
        ·rw [if_pos e1]; simp; omega
        ·rw [if_neg e1, ← e2, hqn']; simp; omega
       ·rw [if_neg e2]
        by_cases e1 : p = i
        ·rw [if_pos e1, if_pos e1.symm]; rfl
        ·rw [if_neg e1, if_neg (show ¬ i = p from fun h => e1 h.symm), if_neg (show ¬ i = p + j from fun h => e2 h.symm)]
      refine Ev.step (f := fun k => (maze_from.l0 k (N : Int) (d : Int) (usL (put2 σ p (p + j))) ((rs.set p (u8d ((p + j : Nat) : Int) (d : Int))).set (p + j) (u8d (p : Int) (d : Int))) ((p + 1 : Nat) : Int) acc).bind fun r => maze_from.l1 k (N : Int) (d : Int) (r.1.set (p + j) ((((p + j : Nat) : Int)) == (p : Int))) r.2.1 (p : Int) ((p + (j + 1) : Nat) : Int) r.2.2) (fun k => ?_) (Ev.bind h2 ?_)
      ·rw [maze_from.l1, if_pos (by omega), if_pos (by omega), if_pos (by omega), if_neg (fun h => hc ⟨by omega, by have := h.2; rw [hus, if_neg (by omega)] at this; exact this⟩), if_pos (by omega), Int.toNat_natCast, Int.toNat_natCast, eu, wrapS (by omega), wrapS (by omega), Nat.add_assoc]
      ·simp only [eb]
       exact h3
   obtain ⟨rs', R', h1⟩ := inner (e + 1) 0 rs acc (by omega) R
   refine ⟨rs', R', ?_⟩
   rw [List.range_eq_range']
   exact Ev.step (fun k => by rw [maze_from.l0, if_pos (by omega), if_pos (by omega), if_pos (by omega), if_neg (by rw [usL_at σ hp]; exact hs), Int.toNat_natCast]; rfl) h1
end
/-- All mazes with n rooms of d doors, as lists of rooms. -/
def allZ (n d : Nat) : List (List Int) := (enumE (n * d) noneP 0).map (roomsP d)
theorem all_ev {n d : Nat} (hd : 1 ≤ d) (hN : n * d ≤ 12) : Ev (fun k => maze_all.f k (n : Int) (d : Int)) (allZ n d) := by
 obtain ⟨rs', R', h1⟩ := from_ev hN hd (n * d) 0 noneP (List.replicate 12 0) [] (by omega) (part_none _) (fun i hi => by omega) ⟨by simp, fun i q h => by simp [noneP] at h, fun i h1 h2 => by rw [rdE (by simpa using h2), List.getElem_replicate]⟩
 unfold maze_all.f
 have e1 : wrap64 ((n : Int) * (d : Int)) = ((n * d : Nat) : Int) := by
  rw [← Int.natCast_mul, wrapI (by omega) (by omega)]
 rw [e1]
 exact Ev.bind h1 (Ev.now _)
/-- The room behind a door. -/
def gs (x : List Int) (d a y : Nat) : Nat := (rd x ((a * d + y : Nat) : Int)).toNat
structure EnZ (n d : Nat) (x : List Int) : Prop where
 len : x.length = 12
 d1 : 1 ≤ d
 nd : n * d ≤ 12
 g : ∀ a y, a < n → y < d → rd x ((a * d + y : Nat) : Int) = (gs x d a y : Int)
 lt : ∀ a y, a < n → y < d → gs x d a y < n
theorem port_lt {n d a y : Nat} (ha : a < n) (hy : y < d) : a * d + y < n * d := by
 calc a * d + y < a * d + d := by omega
  _ = (a + 1) * d := by rw [Nat.add_mul, Nat.one_mul]
  _ ≤ n * d := Nat.mul_le_mul_right d ha
theorem rooms_at {d i : Nat} (σ : Pg) (h : i < 12) : rd (roomsP d σ) (i : Int) = (((σ i).getD 0 / d : Nat) : Int) := by
 rw [rdE (by simpa [roomsP] using h)]; simp [roomsP]
theorem en_of {n d : Nat} (hd : 1 ≤ d) (hN : n * d ≤ 12) {τ : Pg} (h : TotZ (n * d) τ) : EnZ n d (roomsP d τ) := by
 have key : ∀ a y, a < n → y < d → rd (roomsP d τ) ((a * d + y : Nat) : Int) = (gs (roomsP d τ) d a y : Int) ∧ gs (roomsP d τ) d a y < n := fun a y ha hy => by
  have hp := port_lt ha hy
  obtain ⟨q, hq⟩ := Option.isSome_iff_exists.1 (h.2 _ hp)
  have hqn := (h.1 _ q hq).2.1
  unfold gs
  rw [rooms_at τ (by omega), hq]
  refine ⟨by rw [Int.toNat_natCast], ?_⟩
  rw [Int.toNat_natCast]
  show q / d < n
  exact (Nat.div_lt_iff_lt_mul (by omega)).2 hqn
 exact ⟨by simp [roomsP], hd, hN, fun a y ha hy => (key a y ha hy).1, fun a y ha hy => (key a y ha hy).2⟩
end Go.Proofs.Ytgbjbgdnldklpaa.Q
end
