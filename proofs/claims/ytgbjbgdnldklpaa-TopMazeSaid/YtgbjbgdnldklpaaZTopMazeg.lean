/- One word for all mazes: the word that is found for some numbers of rooms and doors visits all rooms of whatever connected maze with at most this number of rooms, also with doors before it and after it; it is proved for every input, without conditions. (text 7 of 31) -/
import Derived.Test.YtgbjbgdnldklpaaProg
import Derived.Below
import Derived.Deep.Draws
import Derived.Deep.AppendLies
import Derived.Maps.AppendAt
import Derived.OwnWalk
import Derived.Laws.BytesArg
import Derived.Laws.MakeOwn
import Derived.Laws.OwnMore
import Derived.Deep.OwnRows
import Derived.Tactics
import Derived.Lib.ConvBytes
import Derived.Laws.Slices
import Derived.WalkKit
import Derived.KernelRfl
import Derived.RowKit3
import Derived.Deep.LoopGhost
import Derived.Deep.QuietTactic
import Derived.BigQuiet
import Derived.WideLaws
import Derived.Deep.DeepCutAuto
import Derived.Deep.CutBlock
import Derived.Deep.RegionHeld3
import Derived.Laws.Rows
import Derived.Lib.AppendStr
import Derived.ArgAppend
import Derived.Laws.IdiomCopy
import Derived.OrdersHeld
import Derived.Laws.BitsLemmas
import Derived.RowKit
import Derived.WalkMore
import Derived.Test.YtgbjbgdnldklpaaZTopMazea
import Derived.Test.YtgbjbgdnldklpaaZTopMazee
import Derived.Test.YtgbjbgdnldklpaaZTopMazef
import Derived.Test.YtgbjbgdnldklpaaZTopMazed
/-! Part QBase -/
section
-- Written by xprint.py, a program of this session's, over the kit's print. Lean checks it.
namespace Go.Proofs.Ytgbjbgdnldklpaa.Q
open Go.RowKit Go.Proofs.YtgbjbgdnldklpaaW.PrintWords Go.Proofs.YtgbjbgdnldklpaaW.PrintLast Go.Proofs.YtgbjbgdnldklpaaW.PrintMore
attribute [local go_sem] max2_int min2_int max_two min_two max_three min_three max_four min_four
set_option linter.unusedVariables false
set_option linter.unusedSimpArgs false

def errW : Option Int → Value
 | none => .nilIface
 | some c => .iface 0 (.int .i64 c)
theorem errW_none : errW none = .nilIface := rfl
theorem errW_some (c : Int) : errW (some c) = .iface 0 (.int .i64 c) := rfl

theorem info3 : (Try.prog.info? 3).map (fun i => (i.zero, i.size, i.bytes)) = some (some (.int .i64 0), 1, 8) := by kernel_rfl
theorem info4 : (Try.prog.info? 4).map (fun i => (i.zero, i.size, i.bytes)) = some (some (.bool false), 1, 1) := by kernel_rfl
theorem info40 : (Try.prog.info? 40).map (fun i => (i.zero, i.size, i.bytes)) = some (some (.slice none 0 0), 1, 24) := by kernel_rfl
theorem info44 : (Try.prog.info? 44).map (fun i => (i.zero, i.size, i.bytes)) = some (some (.agg #[(.int .i64 0), (.int .i64 0)]), 2, 16) := by kernel_rfl
-- the values' own types
def rd_L1 (xs : List (List Int)) (i : Int) : (List Int) := xs.getD i.toNat ([] : List Int)
theorem at_L1 {w : World} {A : Option Addr} {n : Nat} {xs : List (List Int)} (h : Kd.C (Kd.slice 3 (Kd.int .i64)) w A n xs) (i : Int) (h0 : 0 ≤ i) (h1 : i < n) : ∃ ad A0 c0, A = some ad ∧ w.cell? (ad.add i.toNat) = some (.slice A0 (rd_L1 xs i).length c0) ∧ (rd_L1 xs i).length ≤ c0 ∧ (Kd.int .i64).C w A0 (rd_L1 xs i).length (rd_L1 xs i) := by
 obtain ⟨ad, c, e, _, hK, hc0⟩ := Kd.C_get h ([] : List Int) i h0 h1
 have hc : ∀ j u, c[j]? = some u → w.cell? (ad.add (i.toNat * 1 + j)) = some u := hc0
 obtain ⟨A0, c0, rfl, l0, g0⟩ := hK
 exact ⟨ad, A0, c0, e, by have hq := hc 0 _ rfl; rwa [Nat.mul_one, Nat.add_zero] at hq, l0, g0⟩

/-! #### struct type 44 -/
structure S44 where
 f0 : Int
 f1 : Int
def z44 : S44 := ⟨(0 : Int), (0 : Int)⟩
def k44 : Kd S44 := Kd.iso (Kd.pair (Kd.int .i64) (Kd.int .i64)) (fun x : S44 => (x.f0, x.f1))
theorem k44_open {w : World} {x : S44} {cs : List Value} (h : k44.K w x cs) : cs = [.int .i64 x.f0, .int .i64 x.f1] := by
 obtain ⟨_, _, rfl, rfl, rfl⟩ := h
 exact rfl
theorem k44_mkM (w : World) (base : Nat) (ok : Nat → Prop) (x : S44)  : k44.M w base ok x [.int .i64 x.f0, .int .i64 x.f1] := ⟨[.int .i64 x.f0], [.int .i64 x.f1], rfl, rfl, rfl⟩
def rd_T44 (xs : List S44) (i : Int) : S44 := xs.getD i.toNat z44
theorem at_T44 {w : World} {A : Option Addr} {n : Nat} {xs : List S44} (h : Kd.C k44 w A n xs) (i : Int) (h0 : 0 ≤ i) (h1 : i < n) : ∃ ad , A = some ad ∧ w.cell? (ad.add (i.toNat * 2)) = some (.int .i64 (rd_T44 xs i).f0) ∧ w.cell? ⟨(ad.add (i.toNat * 2)).block, (ad.add (i.toNat * 2)).off + 1, none⟩ = some (.int .i64 (rd_T44 xs i).f1) := by
 obtain ⟨ad, c, e, _, hK, hc0⟩ := Kd.C_get h z44 i h0 h1
 have hc : ∀ j u, c[j]? = some u → w.cell? (ad.add (i.toNat * 2 + j)) = some u := hc0
 obtain rfl := k44_open hK
 exact ⟨ad, e, hc 0 _ rfl, by rw [← add_field _ _ 1 (by omega)]; exact hc 1 _ rfl⟩

def rd_L4 (xs : List (List S44)) (i : Int) : (List S44) := xs.getD i.toNat ([] : List S44)
theorem at_L4 {w : World} {A : Option Addr} {n : Nat} {xs : List (List S44)} (h : Kd.C (Kd.slice 44 k44) w A n xs) (i : Int) (h0 : 0 ≤ i) (h1 : i < n) : ∃ ad A0 c0, A = some ad ∧ w.cell? (ad.add i.toNat) = some (.slice A0 (rd_L4 xs i).length c0) ∧ (rd_L4 xs i).length ≤ c0 ∧ k44.C w A0 (rd_L4 xs i).length (rd_L4 xs i) := by
 obtain ⟨ad, c, e, _, hK, hc0⟩ := Kd.C_get h ([] : List S44) i h0 h1
 have hc : ∀ j u, c[j]? = some u → w.cell? (ad.add (i.toNat * 1 + j)) = some u := hc0
 obtain ⟨A0, c0, rfl, l0, g0⟩ := hK
 exact ⟨ad, A0, c0, e, by have hq := hc 0 _ rfl; rwa [Nat.mul_one, Nat.add_zero] at hq, l0, g0⟩

/-! #### struct type 38 -/
structure S38 where
 f0 : (List (List S44))
end Go.Proofs.Ytgbjbgdnldklpaa.Q
end
/-! Part XSteps -/
section
namespace Go.Proofs.Ytgbjbgdnldklpaa.Q
open Go.RowKit Go.Proofs.YtgbjbgdnldklpaaW.PrintWords Go.Proofs.YtgbjbgdnldklpaaW.PrintLast Go.Proofs.YtgbjbgdnldklpaaW.PrintMore
/-! ### the steps of a region that draws its order, in short words -/
section
variable {P : Program} {md : Region.Mode} {ops : Array Oper} {Q : Exit → Act → World → Prop} {S : World → Prop} {ds : List Nat} {T : Bool × List (List Nat × List Nat)} {B : List Nat}
variable {oi : Oper} {v : Value} {fuel : Nat} {l : Array Bool} {a a' : Act} {w : World}
theorem pv_ (i n : Nat) (l' : Array Bool) (hT : Aside0 (rtab md ops = T)) (h : wpAnyLast P md ops Q S ds fuel l' a' w) (hi : ops[i]? = some oi := by exact rfl) (hN : oi.dst = some n := by exact rfl) (hc : anyT T l.toList l'.toList i = true := by kernel_rfl)
  (hQ : ∀ c a w, Q (.panic c) (a.put oi.dst v) w → Q (.panic c) a w := by exact fun _ _ _ h => h) (hy : Yields P ops oi v a := by exact Or.inl ⟨by rfl, by intro w'; go_simp; with_reducible rfl⟩)
  (ha : a.put (some n) v = a' := by simp only [Act.put, List.setIfInBounds_toArray, List.set_cons_zero, List.set_cons_succ, i64_w, i32_w]; rfl) : wpAnyLast P md ops Q S ds (fuel + 1) l a w :=
 pure_ l' hi hN (any_of hT.out hc) hQ hy ha h
theorem pu_ (i n : Nat) (l' : Array Bool) (hT : Aside0 (rtab md ops = T)) (h : wpAnyLast P md ops Q S ds fuel l' a' w) (hi : ops[i]? = some oi := by exact rfl) (hN : oi.dst = some n := by exact rfl) (hc : anyT T l.toList l'.toList i = true := by kernel_rfl)
  (hQ : ∀ c a w, Q (.panic c) (a.put oi.dst undef) w → Q (.panic c) a w := by exact fun _ _ _ h => h) (hy : Yields P ops oi undef a := by exact Or.inr ⟨by rfl, rfl⟩)
  (ha : a.put (some n) undef = a' := by simp only [Act.put, List.setIfInBounds_toArray, List.set_cons_zero, List.set_cons_succ, i64_w, i32_w]; rfl) : wpAnyLast P md ops Q S ds (fuel + 1) l a w :=
 pure_ l' hi hN (any_of hT.out hc) hQ hy ha h
end
end Go.Proofs.Ytgbjbgdnldklpaa.Q
end
/-! Part QTopCycle -/
section
-- Written by xprint.py, a program of this session's, over the kit's print. Lean checks it.
namespace Go.Proofs.Ytgbjbgdnldklpaa.Q
open Go.RowKit Go.Proofs.YtgbjbgdnldklpaaW.PrintWords Go.Proofs.YtgbjbgdnldklpaaW.PrintLast Go.Proofs.YtgbjbgdnldklpaaW.PrintMore
attribute [local go_sem] max2_int min2_int max_two min_two max_three min_three max_four min_four
set_option linter.unusedVariables false
set_option linter.unusedSimpArgs false

/-! ### mizmazetop_cycle: function 27 -/
def mizmazetop_cycle.f (a0 : Int) (a1 : Int) : Option (Int) := if a1 = 0 then (none) else (some (Int.tmod (wrap64 ((Int.tmod a0 a1) + a1)) a1))
set_option maxHeartbeats 8000000 in
set_option maxRecDepth 100000 in
theorem mizmazetop_cycle.calls (a0 : Int) (a1 : Int) (r : Int) (w : World) (h : mizmazetop_cycle.f a0 a1 = some r) :
  Calls Try.prog 27 #[.int .i64 a0, .int .i64 a1] w fun e w' => e = .returned (.int .i64 r) ∧ Drawn0 w w' := by
 have H : (if a1 = 0 then (none) else (some (Int.tmod (wrap64 ((Int.tmod a0 a1) + a1)) a1))) = some r := h
 clear h
 by_cases c3 : a1 = 0
 ·rw [if_pos c3] at H
  exact absurd H (by simp)
 ·rw [if_neg c3] at H
  have c3b0 : (a1 == 0) = false := beq_eq_false_iff_ne.mpr c3
  have c3b1 : (a1 != 0) = true := bne_iff_ne.mpr c3
  obtain rfl := Option.some.inj H
  go_enter Try.func27, Try.ntmps27
  go_wp2
  go_ret
  exact ⟨by first | rfl | (simp; done) | (simp [*]; done), by repeat (first | exact Drawn0.refl _ | apply Drawn0.step)⟩

end Go.Proofs.Ytgbjbgdnldklpaa.Q
end
/-! Part XGrid -/
section
namespace Go.Proofs.Ytgbjbgdnldklpaa.Q
open Go.RowKit Go.Proofs.YtgbjbgdnldklpaaW.PrintWords Go.Proofs.YtgbjbgdnldklpaaW.PrintLast Go.Proofs.YtgbjbgdnldklpaaW.PrintMore
set_option linter.unusedVariables false
set_option linter.unusedSimpArgs false
/-! ### rows of doors of one's own: a store into one of them -/
def doorCells (x : S44) : List Value := [.int .i64 x.f0, .int .i64 x.f1]
theorem k_M {W : World} {base : Nat} {ok : Nat → Prop} {x : S44} : k44.M W base ok x (doorCells x) := ⟨[.int .i64 x.f0], [.int .i64 x.f1], rfl, rfl, rfl⟩
theorem info_door : (Try.prog.info? 44).map (·.size) = some 2 := by kernel_rfl
set_option maxRecDepth 100000 in
theorem grid_put {W : World} {base n cap : Nat} {ok : Nat → Prop} {ad : Addr} {G : List (List S44)} (h : Kd.S (Kd.slice 44 k44) 40 W base ok (.slice (some ad) n cap) G) (a b : Int) (ha0 : 0 ≤ a) (ha : a < n) (hb0 : 0 ≤ b) (hb : b < ((rd_L4 G a).length : Int)) (x : S44) :
  ∃ gi ci, W.cell? (ad.add a.toNat) = some (.slice (some ⟨gi, 0, none⟩) (rd_L4 G a).length ci) ∧ ok gi ∧ (∃ cells, W.heap[gi]? = some (.cells cells 44 (0, 0))) ∧
   Kd.S (Kd.slice 44 k44) 40 (W.setCells gi (b.toNat * 2) (doorCells x)) base ok (.slice (some ad) n cap) (G.set a.toNat ((rd_L4 G a).set b.toNat x)) ∧ W.grownBy (W.setCells gi (b.toNat * 2) (doorCells x)) (some gi) ∧
   (Instr.storeAt 44 (.pointer (some ⟨gi, b.toNat * 2, none⟩)) (.agg #[.int .i64 x.f0, .int .i64 x.f1])).run Try.prog W = .ok () (W.setCells gi (b.toNat * 2) (doorCells x)) := by
 obtain ⟨oki, c, hcl, ⟨v, rfl, hR⟩, hcc, hoki, back⟩ := Kd.S_borrow h ([] : List S44) a ha0 ha
 have hlen : 0 < (rd_L4 G a).length := by omega
 obtain ⟨gi, ci, rfl, _, hlt, hty⟩ := Kd.R_form hR hlen
 obtain ⟨c, hc1, hc2, hc3, hc4⟩ := Kd.R_elem hR z44 b hb0 hb
 have hs : k44.sz = 2 := rfl
 obtain ⟨h1, h2⟩ := Kd.R_seg hR b hb0 hb (seg := doorCells x) (j := 0) hc1 hc3 (by rw [hs]; exact Nat.le_refl 2) (x' := x) (okp := fun _ => False) (by
  have e : List.take 0 c ++ doorCells x ++ List.drop (0 + (doorCells x).length) c = doorCells x := by
   rw [List.take_zero, List.nil_append, List.drop_eq_nil_of_le (by rw [hc1, hs]; exact Nat.le_refl 2), List.append_nil]
  rw [e]; exact k_M) (fun _ h => h.elim)
 have hrun : (Instr.storeAt 44 (.pointer (some ⟨gi, b.toNat * 2, none⟩)) (.agg #[.int .i64 x.f0, .int .i64 x.f1])).run Try.prog W = .ok () (W.setCells gi (b.toNat * 2) (doorCells x)) := by
  obtain ⟨_, inner, hown, hr⟩ := hR
  rcases hown.2 with ⟨hv, _⟩ | ⟨g', cap', cur, hv, hb', hh, hnc, hcm, hcs, _⟩
  ·cases hv
  injection hv with ha' _ hc'
  injection ha' with ha'
  injection ha' with hg'
  subst hg'; subst hc'
  refine run_store_run 44 _ (doorCells x) hh rfl info_door ?_ (by simp [doorCells, Value.oneCell'])
  have h2 : b.toNat * 2 + 2 ≤ (rd_L4 G a).length * 2 := by omega
  have h3 : (doorCells x).length = 2 := rfl
  have h4 : (rd_L4 G a).length = (G.getD a.toNat []).length := rfl
  have h5 : cur.size = ci * 2 := hcs
  omega
 refine ⟨gi, ci, ?_, (hoki gi (hR.1 gi rfl)).1, hty, ?_, h2, hrun⟩
 ·have e : a.toNat * (Kd.slice 44 k44).sz + 0 = a.toNat := Nat.mul_one _
  have := hcc 0 _ rfl
  rw [e] at this
  exact this
 ·exact back h2 (fun k hk => by injection hk with hk; subst hk; exact hR.1 gi rfl) ⟨_, rfl, h1⟩
end Go.Proofs.Ytgbjbgdnldklpaa.Q
end
/-! Part XBuilt -/
section
namespace Go.Proofs.Ytgbjbgdnldklpaa.Q
open Go.RowKit Go.Proofs.YtgbjbgdnldklpaaW.PrintWords Go.Proofs.YtgbjbgdnldklpaaW.PrintLast Go.Proofs.YtgbjbgdnldklpaaW.PrintMore
set_option linter.unusedVariables false
set_option linter.unusedSimpArgs false
/-! ### rows of doors of one's own: two stores, into two doors -/
set_option maxRecDepth 100000 in
theorem dgrid_two {W : World} {base n cap : Nat} {ok : Nat → Prop} {G : List (List S44)} {A : Option Addr} (h : Kd.S (Kd.slice 44 k44) 40 W base ok (.slice A n cap) G) (a b c d : Int) (x y : S44) (ha0 : 0 ≤ a) (ha : a < n) (hb0 : 0 ≤ b) (hb : b < ((rd_L4 G a).length : Int)) (hc0 : 0 ≤ c) (hc : c < n) (hd0 : 0 ≤ d)
  (hd : d < ((rd_L4 (G.set a.toNat ((rd_L4 G a).set b.toNat x)) c).length : Int)) :
  ∃ ad g1 g2 m2 c1 c2 W1 W2, A = some ad ∧ d < ((m2 : Nat) : Int) ∧ W.cell? (ad.add a.toNat) = some (.slice (some g1) (rd_L4 G a).length c1) ∧ W.cell? (ad.add c.toNat) = some (.slice (some g2) m2 c2) ∧
   W1.cell? (ad.add a.toNat) = some (.slice (some g1) (rd_L4 G a).length c1) ∧ W1.cell? (ad.add c.toNat) = some (.slice (some g2) m2 c2) ∧
   (Instr.storeAt 44 (.pointer (some (g1.add (b.toNat * 2)))) (.agg #[.int .i64 x.f0, .int .i64 x.f1])).run Try.prog W = .ok () W1 ∧ (Instr.storeAt 44 (.pointer (some (g2.add (d.toNat * 2)))) (.agg #[.int .i64 y.f0, .int .i64 y.f1])).run Try.prog W1 = .ok () W2 ∧
   Kd.S (Kd.slice 44 k44) 40 W2 base ok (.slice (some ad) n cap) ((G.set a.toNat ((rd_L4 G a).set b.toNat x)).set c.toNat ((rd_L4 (G.set a.toNat ((rd_L4 G a).set b.toNat x)) c).set d.toNat y)) ∧
   ∃ k1 k2, base ≤ k1 ∧ base ≤ k2 ∧ ok k1 ∧ ok k2 ∧ W.grownBy W1 (some k1) ∧ W1.grownBy W2 (some k2) ∧ (∃ cells, W.heap[k1]? = some (.cells cells 44 (0, 0))) ∧ ∃ cells, W1.heap[k2]? = some (.cells cells 44 (0, 0)) := by
 obtain ⟨hn, _, hC⟩ := Kd.S_reads' h
 obtain ⟨ad, _, _, e, _, _, _⟩ := at_L4 hC a ha0 (by rw [← hn]; exact ha)
 subst e
 have hB := Kd.S_bound h
 obtain ⟨gi, ci, h1, h0, ⟨cells1, h2⟩, h3, h4, h5⟩ := grid_put hB a b ha0 ha hb0 hb x
 obtain ⟨gj, cj, k1, k0, ⟨cells2, k2⟩, k3, k4, k5⟩ := grid_put h3 c d hc0 hc hd0 hd y
 obtain ⟨gh, rfl⟩ := Kd.R_head (Kd.S_R h)
 obtain ⟨hcells, hh⟩ := Kd.S_typed h gh rfl
 have hh1 : (W.setCells gi (b.toNat * 2) (doorCells x)).heap[gh]? = some (.cells hcells 40 (0, 0)) := blk_grown hh h4 (fun e => by
  injection e with e
  subst e
  rw [h2] at hh
  have := Option.some.inj hh
  injection this with _ ht
  exact absurd ht (by decide))
 have same : ∀ i, (W.setCells gi (b.toNat * 2) (doorCells x)).cell? (Addr.add ⟨gh, 0, none⟩ i) = W.cell? (Addr.add ⟨gh, 0, none⟩ i) := fun i => by
  rw [add_plain, blk_cell hh1, blk_cell hh]
 refine ⟨_, ⟨gi, 0, none⟩, ⟨gj, 0, none⟩, _, ci, cj, _, _, rfl, hd, h1, ?_, ?_, k1, ?_, ?_, Kd.S_mono k3 fun k hk => hk.1, gi, gj, h0.2.1, k0.2.1, h0.1, k0.1, h4, k4, ⟨_, h2⟩, _, k2⟩
 ·rw [← same]; exact k1
 ·rw [same]; exact h1
 ·rw [add_plain]; exact h5
 ·rw [add_plain]; exact k5
theorem below_grownT {w W W1 : World} {k : Nat} (hb : Below w.heap.size w W) (hg : W.grownBy W1 (some k)) (hk : w.heap.size ≤ k) : Below w.heap.size w W1 :=
 ⟨hg.os.trans hb.os, hg.tape.trans hb.tape, hg.output.trans hb.output, Nat.le_trans hb.size hg.size, fun b hlt => (hg.block b (Nat.lt_of_lt_of_le hlt hb.size) (fun e => by injection e with e; omega)).trans (hb.block b hlt)⟩
theorem run_store_opT {P : Program} {f : Operand → Value} {oi : Oper} {t : TypeId} {p v : Operand} {w w1 : World} {ptr u : Value} (ho : oi.op = .store t p v) (hp : f p = ptr) (hu : f v = u) (hst : (Instr.storeAt t ptr u).run P w = .ok () w1) : (execOp f oi).run P w = .ok .skip w1 := by
 unfold execOp
 simp only [ho, hp, hu, Sem.run_bind, Sem.run_pure, Result.andThen_ok, hst]
def mizmazetop_built.T17 : Bool × List (List Nat × List Nat) := (true, [([], []), ([0], [0]), ([], []), ([2], [2]), ([1, 3], [1, 3]), ([4], [4]), ([], []), ([6], [6]), ([], []), ([8], [8]), ([], []), ([10], [10]), ([9, 11], [9, 11]), ([12], [12]), ([], []), ([14], [14]), ([], []), ([], []), ([5, 7, 0, 1, 2, 3, 4, 5, 6, 7, 13, 16], [5, 7]), ([18, 16, 0, 1, 2, 3, 4, 5, 6, 7, 13, 16], [16, 18]), ([13, 15, 0, 1, 2, 3, 4, 5, 6, 7, 8, 9, 10, 11, 12, 13, 14, 15, 16, 17, 18, 19], [13, 15]), ([20, 17, 19, 0, 1, 2, 3, 4, 5, 6, 7, 8, 9, 10, 11, 12, 13, 14, 15, 16, 17, 18, 19], [17, 20])])
def mizmazetop_built.B17 : List Nat := [0, 1, 0, 4, 15, 31, 0, 64, 0, 256, 0, 1024, 3840, 7936, 0, 16384, 0, 0, 81919, 344063, 1048575, 2097151]
theorem mizmazetop_built.tab17 : rtab .any (opsOf Try.f28 17) = mizmazetop_built.T17 := by kernel_rfl
theorem mizmazetop_built.bits17 : waitsOk mizmazetop_built.T17.2 mizmazetop_built.B17 = true := by kernel_rfl
end Go.Proofs.Ytgbjbgdnldklpaa.Q
end
/-! Part QEq0 -/
section
-- Written by xprint.py, a program of this session's, over the kit's print. Lean checks it.
namespace Go.Proofs.Ytgbjbgdnldklpaa.Q
open Go.RowKit Go.Proofs.YtgbjbgdnldklpaaW.PrintWords Go.Proofs.YtgbjbgdnldklpaaW.PrintLast Go.Proofs.YtgbjbgdnldklpaaW.PrintMore
attribute [local go_sem] max2_int min2_int max_two min_two max_three min_three max_four min_four
set_option linter.unusedVariables false
set_option linter.unusedSimpArgs false

theorem eqA44 (d : Nat) (w : World) (x0 y0 : Int) (x1 y1 : Int) :
  (Op.equalIn (d + 2) 44 (.agg #[.int .i64 x0, .int .i64 x1]) (.agg #[.int .i64 y0, .int .i64 y1])).run Try.prog w = .ok (x0 == y0 && (x1 == y1)) w := by
 refine eqA_of Try.underlying44 (by kernel_rfl) ?_
 refine eqf_cons (by rfl) (by go_simp; rfl) (by go_simp; rfl) (by go_simp) ?_
 exact eqf_last (by rfl) (by go_simp; rfl) (by go_simp; rfl) (by go_simp)
end Go.Proofs.Ytgbjbgdnldklpaa.Q
end
/-! Part QTopConnects -/
section
-- Written by xprint.py, a program of this session's, over the kit's print. Lean checks it.
namespace Go.Proofs.Ytgbjbgdnldklpaa.Q
open Go.RowKit Go.Proofs.YtgbjbgdnldklpaaW.PrintWords Go.Proofs.YtgbjbgdnldklpaaW.PrintLast Go.Proofs.YtgbjbgdnldklpaaW.PrintMore
attribute [local go_sem] max2_int min2_int max_two min_two max_three min_three max_four min_four
set_option linter.unusedVariables false
set_option linter.unusedSimpArgs false

/-! ### mizmazetop_connects: function 29 -/
theorem mizmazetop_connects.cell_at {w w1 : World} {n : Nat} {a : Addr} {v : Option Value} (h : w.drewN n = w1) (k : w.cell? a = v) : w1.cell? a = v := by rw [← h]; exact k
mutual
def mizmazetop_connects.l0 : Nat → List Bool → List Int → Int → List (List (S44)) → Option (Bool)
 | 0, _, _, _, _ => none
 | k + 1, x3, x4, x5, x548000 => if x5 < (x4.length : Int) then (mizmazetop_connects.l1 k x3 x4 x5 0 x548000) else (some ((x4.length : Int) == (x548000.length : Int)))
def mizmazetop_connects.l1 : Nat → List Bool → List Int → Int → Int → List (List (S44)) → Option (Bool)
 | 0, _, _, _, _, _ => none
 | k + 1, x3, x4, x5, x6, x548000 => if 0 ≤ x5 then (if x5 < (x4.length : Int) then (if 0 ≤ (rd x4 x5) then (if (rd x4 x5) < (x548000.length : Int) then (if x6 < ((rd_L4 x548000 (rd x4 x5)).length : Int) then (if 0 ≤ x6 then (if 0 ≤ ((rd_T44 (rd_L4 x548000 (rd x4 x5)) x6).f0) then (if ((rd_T44 (rd_L4 x548000 (rd x4 x5)) x6).f0) < (x3.length : Int) then (if (rdOf false x3 ((rd_T44 (rd_L4 x548000 (rd x4 x5)) x6).f0) = true) then (mizmazetop_connects.l1 k x3 x4 x5 (wrap64 (x6 + 1)) x548000) else (if x4.length < 17592186044416 then (mizmazetop_connects.l1 k (x3.set (((rd_T44 (rd_L4 x548000 (rd x4 x5)) x6).f0) : Int).toNat true) (x4 ++ [(rd_T44 (rd_L4 x548000 (rd x4 x5)) x6).f0]) x5 (wrap64 (x6 + 1)) x548000) else (none))) else (none)) else (none)) else (none)) else (mizmazetop_connects.l0 k x3 x4 (wrap64 (x5 + 1)) x548000)) else (none)) else (none)) else (none)) else (none)
end
def mizmazetop_connects.f (k : Nat) (l0_0 : List (List (S44))) : Option (Bool) := if 0 ≤ (l0_0.length : Int) then (if ((l0_0.length : Int) : Int).toNat ≤ 281474976710656 then ((some (List.replicate ((l0_0.length : Int) : Int).toNat false : List Bool)).bind fun y548 => (if 0 < (y548.length : Int) then (mizmazetop_connects.l0 k (y548.set (0 : Int).toNat true) (([0] : List Int)) 0 l0_0) else (none))) else (none)) else (none)
theorem mizmazetop_connects.mono_l : ∀ k, (∀ y0 y1 y2 y3, LeO (mizmazetop_connects.l0 k y0 y1 y2 y3) (mizmazetop_connects.l0 (k + 1) y0 y1 y2 y3)) ∧ (∀ y0 y1 y2 y3 y4, LeO (mizmazetop_connects.l1 k y0 y1 y2 y3 y4) (mizmazetop_connects.l1 (k + 1) y0 y1 y2 y3 y4))
 | 0 => ⟨fun _ _ _ _ r h => by simp [mizmazetop_connects.l0] at h, fun _ _ _ _ _ r h => by simp [mizmazetop_connects.l1] at h⟩
 | k + 1 => by
  obtain ⟨ih0, ih1⟩ := mizmazetop_connects.mono_l k
  refine ⟨?_, ?_⟩
  ·intro y0 y1 y2 y3
   unfold mizmazetop_connects.l0
   repeat' first
   | (with_reducible exact ih0 _ _ _ _)
   | (with_reducible exact ih1 _ _ _ _ _)
   | (with_reducible exact LeO.refl _)
   | (with_reducible exact LeO.none _)
   | (with_reducible refine LeO.ite ?_ ?_)
   | (with_reducible refine LeO.bind ?_ (fun _ => ?_))
   | exact ih0 _ _ _ _
   | exact ih1 _ _ _ _ _
   | exact LeO.none _
   | refine LeO.ite ?_ ?_
   | refine LeO.bind ?_ (fun _ => ?_)
  ·intro y0 y1 y2 y3 y4
   unfold mizmazetop_connects.l1
   repeat' first
   | (with_reducible exact ih0 _ _ _ _)
   | (with_reducible exact ih1 _ _ _ _ _)
   | (with_reducible exact LeO.refl _)
   | (with_reducible exact LeO.none _)
   | (with_reducible refine LeO.ite ?_ ?_)
   | (with_reducible refine LeO.bind ?_ (fun _ => ?_))
   | exact ih0 _ _ _ _
   | exact ih1 _ _ _ _ _
   | exact LeO.none _
   | refine LeO.ite ?_ ?_
   | refine LeO.bind ?_ (fun _ => ?_)
theorem mizmazetop_connects.mono : ∀ a0 k, LeO (mizmazetop_connects.f k a0) (mizmazetop_connects.f (k + 1) a0) := by
 intro a0 k
 obtain ⟨ih0, ih1⟩ := mizmazetop_connects.mono_l k
 unfold mizmazetop_connects.f
 repeat' first
   | (with_reducible exact ih0 _ _ _ _)
   | (with_reducible exact ih1 _ _ _ _ _)
   | (with_reducible exact LeO.refl _)
   | (with_reducible exact LeO.none _)
   | (with_reducible refine LeO.ite ?_ ?_)
   | (with_reducible refine LeO.bind ?_ (fun _ => ?_))
   | exact ih0 _ _ _ _
   | exact ih1 _ _ _ _ _
   | exact LeO.none _
   | refine LeO.ite ?_ ?_
   | refine LeO.bind ?_ (fun _ => ?_)
set_option maxHeartbeats 8000000 in
set_option maxRecDepth 100000 in
theorem mizmazetop_connects.calls (k : Nat) (A0_0 : Option Addr) (c0_0 : Nat) (l0_0 : List (List (S44))) (r : Bool) (w : World) (hr0_0 : Kd.C (Kd.slice 44 k44) w A0_0 l0_0.length l0_0) (hc0_0 : l0_0.length ≤ c0_0) (h : mizmazetop_connects.f k l0_0 = some r) :
  Calls Try.prog 29 #[.agg #[.slice A0_0 l0_0.length c0_0]] w fun e w' => e = .returned (.bool r) ∧ Below w.heap.size w w' := by
 have hu38 := Try.underlying38
 have HR0_0 := Aside0.mk hr0_0
 have HC0_0 := Aside0.mk hc0_0
 clear hr0_0 hc0_0
 have HB := Aside0.mk (Below.refl w.heap.size w)
 have H : (if 0 ≤ (l0_0.length : Int) then (if ((l0_0.length : Int) : Int).toNat ≤ 281474976710656 then ((some (List.replicate ((l0_0.length : Int) : Int).toNat false : List Bool)).bind fun y548 => (if 0 < (y548.length : Int) then (mizmazetop_connects.l0 k (y548.set (0 : Int).toNat true) (([0] : List Int)) 0 l0_0) else (none))) else (none)) else (none)) = some r := h
 clear h
 by_cases c2 : 0 ≤ (l0_0.length : Int)
 ·rw [if_pos c2] at H
  have c2b0 := eq_true c2
  have c2b1 : decide (0 ≤ (l0_0.length : Int)) = true := decide_eq_true c2
  clear c2
  by_cases c3 : ((l0_0.length : Int) : Int).toNat ≤ 281474976710656
  ·rw [if_pos c3] at H
   have c3b0 := eq_true c3
   have c3b1 : decide (((l0_0.length : Int) : Int).toNat ≤ 281474976710656) = true := decide_eq_true c3
   clear c3
   obtain ⟨y548, hy548⟩ : ∃ y_ : List Bool, y_ = (List.replicate ((l0_0.length : Int) : Int).toNat false) := ⟨_, rfl⟩
   replace H : (if 0 < (y548.length : Int) then (mizmazetop_connects.l0 k (y548.set (0 : Int).toNat true) (([0] : List Int)) 0 l0_0) else (none)) = some r := by first | (rw [hy548]; with_reducible exact H) | (have H2_ := (Option.bind_some _ _).symm.trans H; rw [hy548]; with_reducible exact H2_) | (have H2_ := (Option.bind_some _ _).symm.trans H; with_reducible exact H2_) | with_reducible exact H | (rw [hy548]; exact H) | exact H
   have Ny548 := Aside0.mk hy548
   clear hy548
   by_cases c4 : 0 < (y548.length : Int)
   ·rw [if_pos c4] at H
    have c4b0 : decide (0 < (y548.length : Int)) = true := decide_eq_true c4
    have c4b1 : decide (0 < y548.length) = true := decide_eq_true (by omega)
    clear c4
    obtain ⟨y551, hy551⟩ : ∃ y_ : List Bool, y_ = (y548.set (0 : Int).toNat true) := ⟨_, rfl⟩
    replace H : (mizmazetop_connects.l0 k y551 (([0] : List Int)) 0 l0_0) = some r := by first | (rw [hy551]; with_reducible exact H) | (have H2_ := (Option.bind_some _ _).symm.trans H; rw [hy551]; with_reducible exact H2_) | (have H2_ := (Option.bind_some _ _).symm.trans H; with_reducible exact H2_) | with_reducible exact H | (rw [hy551]; exact H) | exact H
    have Ny551 := Aside0.mk hy551
    clear hy551
    obtain ⟨y552, hy552⟩ : ∃ y_ : List Int, y_ = (([0] : List Int)) := ⟨_, rfl⟩
    replace H : (mizmazetop_connects.l0 k y551 y552 0 l0_0) = some r := by first | (rw [hy552]; with_reducible exact H) | (have H2_ := (Option.bind_some _ _).symm.trans H; rw [hy552]; with_reducible exact H2_) | (have H2_ := (Option.bind_some _ _).symm.trans H; with_reducible exact H2_) | with_reducible exact H | (rw [hy552]; exact H) | exact H
    have Ny552 := Aside0.mk hy552
    clear hy552
    have H' := Aside0.mk H
    clear H
    go_enter Try.func29, Try.ntmps29
    go_wp2_with (first | ((with_reducible refine gate_dst (N := 1) rfl ?_); refine box_event ?hg (N := 1) ?hd (cs := #[.slice A0_0 l0_0.length c0_0]) (t := 38) ?hr ?_; (case hd => rfl); (case hg => rfl); (case hr => first | (go_simp; done) | (go_simp; rfl)); intro gb547 hg w6 hbox hb; have n0_ := Aside0.mk (below_step (by repeat (first | (with_reducible first | exact HB.out | apply below_alloc | apply pw_below_drewN | apply below_drew1) | exact HB.out)) hb); have n1_ := Aside0.mk (hbox); have n2_ := Aside0.mk ((by rw [hg]; exact (below_size (by repeat (first | (with_reducible first | exact HB.out | apply below_alloc | apply pw_below_drewN | apply below_drew1) | exact HB.out))) : w.heap.size ≤ gb547)); have n3_ := Aside0.mk ((by rw [hg]; exact (below_size (by repeat (first | (with_reducible first | exact HB.out | apply below_alloc | apply pw_below_drewN | apply below_drew1) | exact HB.out))) : w.heap.size ≤ gb547)); clear HB; have HB := n0_; have BK547 := n1_; have GW547 := n2_; have GE547 := n3_; clear n0_ n1_ n2_ n3_; clear hb hbox hg; have hcz7_0 : w6.cell? ⟨gb547, 0, none⟩ = some (.slice A0_0 l0_0.length c0_0) := (blk_cell BK547.out 0).trans rfl; have hfz7_0 := blk_frozen BK547.out 0) | ((with_reducible refine gate_dst (N := 11) rfl ?_); refine Kd.R_make Kd.bool _ 4 rfl (N := 11) rfl 73 _ _ rfl (l0_0.length : Int) rfl rfl Try.underlying73 (.bool false) 1 info4 rfl (by decide) (by omega) false (ok := fun _ => True) (okp := fun _ => True) rfl (fun _ hk => hk) trivial (of_decide_eq_true (by first | (with_reducible assumption) | assumption)) (Nat.le_trans (Nat.mul_le_mul_right _ (of_decide_eq_true (by first | (with_reducible assumption) | assumption) : (l0_0.length : Int).toNat ≤ 281474976710656)) (by omega)) (Below.refl _ _) (Nat.le_refl _) ?_; intro v549 w8 ho9 hb hg_ hnew_; clear hg_ hnew_; (first | rw [← Ny548.out] at ho9 | (simp only [Int.reduceToNat] at ho9; rw [← Ny548.out] at ho9)); have n0_ := Aside0.mk (Kd.R_lower ho9 (below_size (by repeat (first | (with_reducible first | exact HB.out | apply below_alloc | apply pw_below_drewN | apply below_drew1 | refine below_set ?_ GE547.out) | exact HB.out)))); have n1_ := Aside0.mk (blk_below (g := gb547) (o := .cells #[.slice A0_0 l0_0.length c0_0] 38 (0, 0)) (by (with_reducible repeat (first | refine blk_drewN ?_ _ | refine blk_drew ?_ | refine blk_alloc ?_ _)); exact BK547.out) hb); have n2_ := Aside0.mk (below_step (by repeat (first | (with_reducible first | exact HB.out | apply below_alloc | apply pw_below_drewN | apply below_drew1 | refine below_set ?_ GE547.out) | exact HB.out)) hb); clear BK547; clear HB; have HO550 := n0_; have BK547 := n1_; have HB := n2_; clear n0_ n1_ n2_; clear hb ho9; have p5 : 0 ≤ (0 : Int) := (by omega); have q5 : (0 : Int) < ((y548.length : Int) : Int) := of_decide_eq_true (by first | (with_reducible assumption) | assumption); have qi5 : (0 < y548.length) = True := eq_true (by omega); obtain ⟨go5, co5, eo5, gb5, gl5, cl5, HG5⟩ := Kd.R_form HO550.out (by omega); (first | cases eo5 | (injection eo5 with ea_ en_ ec_; (first | subst ea_ | (injection ea_ with ea_; subst ea_)); subst ec_; clear en_)); have GB5 := Aside0.mk gb5; have GG5 := Aside0.mk HG5; clear gb5 gl5 HG5; obtain ⟨hx5_0, hf5_0⟩ := Kd.R_celln false HO550.out (0 : Int) p5 q5; (try rw [show ((0 : Int)).toNat = 0 from rfl] at hx5_0); (try simp only [Nat.reduceMul, Nat.zero_mul, Nat.zero_add, Nat.reduceAdd] at hx5_0); (try rw [show ((0 : Int)).toNat = 0 from rfl] at hf5_0); (try simp only [Nat.reduceMul, Nat.zero_mul, Nat.zero_add, Nat.reduceAdd] at hf5_0); replace p5 := eq_true p5; replace q5 := eq_true q5; obtain ⟨hy10_, hz10_⟩ := Kd.R_celln false HO550.out (0 : Int) (by omega) (of_decide_eq_true (by first | (with_reducible assumption) | assumption)); (try simp only [Int.reduceToNat, Int.toNat_zero, Int.toNat_ofNat, Nat.reduceMul, Nat.zero_mul, Nat.zero_add] at hy10_ hz10_); (try rw [show ((0 : Int)).toNat = 0 from rfl] at hy10_); (try rw [show ((0 : Int)).toNat = 0 from rfl] at hz10_); have HP10 := Kd.R_putg HO550.out (0 : Int) true) | ((with_reducible refine gate_store (t := 4) (p := 13) rfl ?_); (try (rw [drewN_self w8]; generalize hq_ : World.drewN w8 _ = w8; have n0_ := Aside0.mk (Kd.R_at hq_ HO550.out); have n1_ := Aside0.mk (blk_at hq_ BK547.out); have n2_ := Aside0.mk (below_at hq_ HB.out); clear hq_ HO550 BK547 HB; have HO550 := n0_; have BK547 := n1_; have HB := n2_; clear n0_ n1_ n2_; (try (obtain ⟨hy10_, hz10_⟩ := Kd.R_celln false HO550.out (0 : Int) (by omega) (of_decide_eq_true (by first | (with_reducible assumption) | assumption)))); (try (try simp only [Int.reduceToNat, Int.toNat_zero, Int.toNat_ofNat, Nat.reduceMul, Nat.zero_mul, Nat.zero_add] at hy10_ hz10_)); (try (try rw [show ((0 : Int)).toNat = 0 from rfl] at hy10_)); (try (try rw [show ((0 : Int)).toNat = 0 from rfl] at hz10_)); (try (have HP10 := Kd.R_putg HO550.out (0 : Int) true)))); refine store_event (t := 4) (p := 13) (v := ?vo_w11) (w1 := (w8.setCell ⟨go5, (0 : Int).toNat, none⟩ (.bool true))) ?hg ?ho ?hn ?hr ?_; (case ho => rfl); (case hg => rfl); (case hn => rfl); (case hr => first | (go_simp; done) | (go_simp; rfl)); intro w11 hw; have hg : w8.grownBy w11 (some go5) := (by rw [hw]; exact HP10.2); have hp_ : Kd.R Kd.bool 4 w11 w.heap.size (fun _ => True) (.slice (some ⟨go5, 0, none⟩) y548.length co5) y551 := (by rw [hw, Ny551.out]; exact HP10.1); clear HP10; have n0_ := Aside0.mk (blk_grown (g := gb547) (o := .cells #[.slice A0_0 l0_0.length c0_0] 38 (0, 0)) (by (with_reducible repeat (first | refine blk_drewN ?_ _ | refine blk_drew ?_ | refine blk_alloc ?_ _)); exact BK547.out) hg (Kd.R_ne HO550.out BK547.out (by decide))); have n1_ := Aside0.mk (hp_); have n2_ := Aside0.mk ((by rw [hw]; exact below_set (HB.out) GB5.out : Below w.heap.size w w11)); clear BK547; clear HO550; clear HB; have BK547 := n0_; have HO550 := n1_; have HB := n2_; clear n0_ n1_ n2_; clear hg hw hp_) | ((with_reducible refine gate_dst (N := 14) rfl ?_); refine Kd.R_lit (Kd.int .i64) _ 3 ?hg (N := 14) ?hd (xs := ([0] : List Int)) (inner := [.int .i64 0]) (ok := fun _ => True) (okp := fun _ => True) ?hr ?hp (fun _ hk => hk) trivial (Below.refl _ _) (Nat.le_refl _) (by simp) ?_; (case hd => rfl); (case hg => rfl); (case hr => first | (go_simp; done) | (go_simp; rfl)); (case hp => exact (Reps.one (show Kd.M (Kd.int .i64) _ _ _ 0 [.int .i64 0] from rfl) (Reps.none _ _))); intro v553 w12 ho13 hb hg_ hnew_; clear hg_ hnew_; (first | rw [← Ny552.out] at ho13 | (simp only [Int.reduceToNat] at ho13; rw [← Ny552.out] at ho13)); have n0_ := Aside0.mk (Kd.R_below (by (with_reducible repeat (first | apply Kd.R_alloc | apply Kd.R_drewN | apply Kd.R_drew)); exact HO550.out) hb); have n1_ := Aside0.mk (Kd.R_lower ho13 (below_size (by repeat (first | (with_reducible first | exact HB.out | apply below_alloc | apply pw_below_drewN | apply below_drew1 | refine below_set ?_ GE547.out) | exact HB.out)))); have n2_ := Aside0.mk (blk_below (g := gb547) (o := .cells #[.slice A0_0 l0_0.length c0_0] 38 (0, 0)) (by (with_reducible repeat (first | refine blk_drewN ?_ _ | refine blk_drew ?_ | refine blk_alloc ?_ _)); exact BK547.out) hb); have n3_ := Aside0.mk (below_step (by repeat (first | (with_reducible first | exact HB.out | apply below_alloc | apply pw_below_drewN | apply below_drew1 | refine below_set ?_ GE547.out) | exact HB.out)) hb); clear HO550; clear BK547; clear HB; have HO550 := n0_; have HO554 := n1_; have BK547 := n2_; have HB := n3_; clear n0_ n1_ n2_ n3_; clear hb ho13))
    repeat (go_quiet (first | ((with_reducible refine gate_dst (N := 1) rfl ?_); refine box_event ?hg (N := 1) ?hd (cs := #[.slice A0_0 l0_0.length c0_0]) (t := 38) ?hr ?_; (case hd => rfl); (case hg => rfl); (case hr => first | (go_simp; done) | (go_simp; rfl)); intro gb547 hg w6 hbox hb; have n0_ := Aside0.mk (below_step (by repeat (first | (with_reducible first | exact HB.out | apply below_alloc | apply pw_below_drewN | apply below_drew1) | exact HB.out)) hb); have n1_ := Aside0.mk (hbox); have n2_ := Aside0.mk ((by rw [hg]; exact (below_size (by repeat (first | (with_reducible first | exact HB.out | apply below_alloc | apply pw_below_drewN | apply below_drew1) | exact HB.out))) : w.heap.size ≤ gb547)); have n3_ := Aside0.mk ((by rw [hg]; exact (below_size (by repeat (first | (with_reducible first | exact HB.out | apply below_alloc | apply pw_below_drewN | apply below_drew1) | exact HB.out))) : w.heap.size ≤ gb547)); clear HB; have HB := n0_; have BK547 := n1_; have GW547 := n2_; have GE547 := n3_; clear n0_ n1_ n2_ n3_; clear hb hbox hg; have hcz7_0 : w6.cell? ⟨gb547, 0, none⟩ = some (.slice A0_0 l0_0.length c0_0) := (blk_cell BK547.out 0).trans rfl; have hfz7_0 := blk_frozen BK547.out 0) | ((with_reducible refine gate_dst (N := 11) rfl ?_); refine Kd.R_make Kd.bool _ 4 rfl (N := 11) rfl 73 _ _ rfl (l0_0.length : Int) rfl rfl Try.underlying73 (.bool false) 1 info4 rfl (by decide) (by omega) false (ok := fun _ => True) (okp := fun _ => True) rfl (fun _ hk => hk) trivial (of_decide_eq_true (by first | (with_reducible assumption) | assumption)) (Nat.le_trans (Nat.mul_le_mul_right _ (of_decide_eq_true (by first | (with_reducible assumption) | assumption) : (l0_0.length : Int).toNat ≤ 281474976710656)) (by omega)) (Below.refl _ _) (Nat.le_refl _) ?_; intro v549 w8 ho9 hb hg_ hnew_; clear hg_ hnew_; (first | rw [← Ny548.out] at ho9 | (simp only [Int.reduceToNat] at ho9; rw [← Ny548.out] at ho9)); have n0_ := Aside0.mk (Kd.R_lower ho9 (below_size (by repeat (first | (with_reducible first | exact HB.out | apply below_alloc | apply pw_below_drewN | apply below_drew1 | refine below_set ?_ GE547.out) | exact HB.out)))); have n1_ := Aside0.mk (blk_below (g := gb547) (o := .cells #[.slice A0_0 l0_0.length c0_0] 38 (0, 0)) (by (with_reducible repeat (first | refine blk_drewN ?_ _ | refine blk_drew ?_ | refine blk_alloc ?_ _)); exact BK547.out) hb); have n2_ := Aside0.mk (below_step (by repeat (first | (with_reducible first | exact HB.out | apply below_alloc | apply pw_below_drewN | apply below_drew1 | refine below_set ?_ GE547.out) | exact HB.out)) hb); clear BK547; clear HB; have HO550 := n0_; have BK547 := n1_; have HB := n2_; clear n0_ n1_ n2_; clear hb ho9; have p5 : 0 ≤ (0 : Int) := (by omega); have q5 : (0 : Int) < ((y548.length : Int) : Int) := of_decide_eq_true (by first | (with_reducible assumption) | assumption); have qi5 : (0 < y548.length) = True := eq_true (by omega); obtain ⟨go5, co5, eo5, gb5, gl5, cl5, HG5⟩ := Kd.R_form HO550.out (by omega); (first | cases eo5 | (injection eo5 with ea_ en_ ec_; (first | subst ea_ | (injection ea_ with ea_; subst ea_)); subst ec_; clear en_)); have GB5 := Aside0.mk gb5; have GG5 := Aside0.mk HG5; clear gb5 gl5 HG5; obtain ⟨hx5_0, hf5_0⟩ := Kd.R_celln false HO550.out (0 : Int) p5 q5; (try rw [show ((0 : Int)).toNat = 0 from rfl] at hx5_0); (try simp only [Nat.reduceMul, Nat.zero_mul, Nat.zero_add, Nat.reduceAdd] at hx5_0); (try rw [show ((0 : Int)).toNat = 0 from rfl] at hf5_0); (try simp only [Nat.reduceMul, Nat.zero_mul, Nat.zero_add, Nat.reduceAdd] at hf5_0); replace p5 := eq_true p5; replace q5 := eq_true q5; obtain ⟨hy10_, hz10_⟩ := Kd.R_celln false HO550.out (0 : Int) (by omega) (of_decide_eq_true (by first | (with_reducible assumption) | assumption)); (try simp only [Int.reduceToNat, Int.toNat_zero, Int.toNat_ofNat, Nat.reduceMul, Nat.zero_mul, Nat.zero_add] at hy10_ hz10_); (try rw [show ((0 : Int)).toNat = 0 from rfl] at hy10_); (try rw [show ((0 : Int)).toNat = 0 from rfl] at hz10_); have HP10 := Kd.R_putg HO550.out (0 : Int) true) | ((with_reducible refine gate_store (t := 4) (p := 13) rfl ?_); (try (rw [drewN_self w8]; generalize hq_ : World.drewN w8 _ = w8; have n0_ := Aside0.mk (Kd.R_at hq_ HO550.out); have n1_ := Aside0.mk (blk_at hq_ BK547.out); have n2_ := Aside0.mk (below_at hq_ HB.out); clear hq_ HO550 BK547 HB; have HO550 := n0_; have BK547 := n1_; have HB := n2_; clear n0_ n1_ n2_; (try (obtain ⟨hy10_, hz10_⟩ := Kd.R_celln false HO550.out (0 : Int) (by omega) (of_decide_eq_true (by first | (with_reducible assumption) | assumption)))); (try (try simp only [Int.reduceToNat, Int.toNat_zero, Int.toNat_ofNat, Nat.reduceMul, Nat.zero_mul, Nat.zero_add] at hy10_ hz10_)); (try (try rw [show ((0 : Int)).toNat = 0 from rfl] at hy10_)); (try (try rw [show ((0 : Int)).toNat = 0 from rfl] at hz10_)); (try (have HP10 := Kd.R_putg HO550.out (0 : Int) true)))); refine store_event (t := 4) (p := 13) (v := ?vo_w11) (w1 := (w8.setCell ⟨go5, (0 : Int).toNat, none⟩ (.bool true))) ?hg ?ho ?hn ?hr ?_; (case ho => rfl); (case hg => rfl); (case hn => rfl); (case hr => first | (go_simp; done) | (go_simp; rfl)); intro w11 hw; have hg : w8.grownBy w11 (some go5) := (by rw [hw]; exact HP10.2); have hp_ : Kd.R Kd.bool 4 w11 w.heap.size (fun _ => True) (.slice (some ⟨go5, 0, none⟩) y548.length co5) y551 := (by rw [hw, Ny551.out]; exact HP10.1); clear HP10; have n0_ := Aside0.mk (blk_grown (g := gb547) (o := .cells #[.slice A0_0 l0_0.length c0_0] 38 (0, 0)) (by (with_reducible repeat (first | refine blk_drewN ?_ _ | refine blk_drew ?_ | refine blk_alloc ?_ _)); exact BK547.out) hg (Kd.R_ne HO550.out BK547.out (by decide))); have n1_ := Aside0.mk (hp_); have n2_ := Aside0.mk ((by rw [hw]; exact below_set (HB.out) GB5.out : Below w.heap.size w w11)); clear BK547; clear HO550; clear HB; have BK547 := n0_; have HO550 := n1_; have HB := n2_; clear n0_ n1_ n2_; clear hg hw hp_) | ((with_reducible refine gate_dst (N := 14) rfl ?_); refine Kd.R_lit (Kd.int .i64) _ 3 ?hg (N := 14) ?hd (xs := ([0] : List Int)) (inner := [.int .i64 0]) (ok := fun _ => True) (okp := fun _ => True) ?hr ?hp (fun _ hk => hk) trivial (Below.refl _ _) (Nat.le_refl _) (by simp) ?_; (case hd => rfl); (case hg => rfl); (case hr => first | (go_simp; done) | (go_simp; rfl)); (case hp => exact (Reps.one (show Kd.M (Kd.int .i64) _ _ _ 0 [.int .i64 0] from rfl) (Reps.none _ _))); intro v553 w12 ho13 hb hg_ hnew_; clear hg_ hnew_; (first | rw [← Ny552.out] at ho13 | (simp only [Int.reduceToNat] at ho13; rw [← Ny552.out] at ho13)); have n0_ := Aside0.mk (Kd.R_below (by (with_reducible repeat (first | apply Kd.R_alloc | apply Kd.R_drewN | apply Kd.R_drew)); exact HO550.out) hb); have n1_ := Aside0.mk (Kd.R_lower ho13 (below_size (by repeat (first | (with_reducible first | exact HB.out | apply below_alloc | apply pw_below_drewN | apply below_drew1 | refine below_set ?_ GE547.out) | exact HB.out)))); have n2_ := Aside0.mk (blk_below (g := gb547) (o := .cells #[.slice A0_0 l0_0.length c0_0] 38 (0, 0)) (by (with_reducible repeat (first | refine blk_drewN ?_ _ | refine blk_drew ?_ | refine blk_alloc ?_ _)); exact BK547.out) hb); have n3_ := Aside0.mk (below_step (by repeat (first | (with_reducible first | exact HB.out | apply below_alloc | apply pw_below_drewN | apply below_drew1 | refine below_set ?_ GE547.out) | exact HB.out)) hb); clear HO550; clear BK547; clear HB; have HO550 := n0_; have HO554 := n1_; have BK547 := n2_; have HB := n3_; clear n0_ n1_ n2_ n3_; clear hb ho13)); try go_wp2_with (first | ((with_reducible refine gate_dst (N := 1) rfl ?_); refine box_event ?hg (N := 1) ?hd (cs := #[.slice A0_0 l0_0.length c0_0]) (t := 38) ?hr ?_; (case hd => rfl); (case hg => rfl); (case hr => first | (go_simp; done) | (go_simp; rfl)); intro gb547 hg w6 hbox hb; have n0_ := Aside0.mk (below_step (by repeat (first | (with_reducible first | exact HB.out | apply below_alloc | apply pw_below_drewN | apply below_drew1) | exact HB.out)) hb); have n1_ := Aside0.mk (hbox); have n2_ := Aside0.mk ((by rw [hg]; exact (below_size (by repeat (first | (with_reducible first | exact HB.out | apply below_alloc | apply pw_below_drewN | apply below_drew1) | exact HB.out))) : w.heap.size ≤ gb547)); have n3_ := Aside0.mk ((by rw [hg]; exact (below_size (by repeat (first | (with_reducible first | exact HB.out | apply below_alloc | apply pw_below_drewN | apply below_drew1) | exact HB.out))) : w.heap.size ≤ gb547)); clear HB; have HB := n0_; have BK547 := n1_; have GW547 := n2_; have GE547 := n3_; clear n0_ n1_ n2_ n3_; clear hb hbox hg; have hcz7_0 : w6.cell? ⟨gb547, 0, none⟩ = some (.slice A0_0 l0_0.length c0_0) := (blk_cell BK547.out 0).trans rfl; have hfz7_0 := blk_frozen BK547.out 0) | ((with_reducible refine gate_dst (N := 11) rfl ?_); refine Kd.R_make Kd.bool _ 4 rfl (N := 11) rfl 73 _ _ rfl (l0_0.length : Int) rfl rfl Try.underlying73 (.bool false) 1 info4 rfl (by decide) (by omega) false (ok := fun _ => True) (okp := fun _ => True) rfl (fun _ hk => hk) trivial (of_decide_eq_true (by first | (with_reducible assumption) | assumption)) (Nat.le_trans (Nat.mul_le_mul_right _ (of_decide_eq_true (by first | (with_reducible assumption) | assumption) : (l0_0.length : Int).toNat ≤ 281474976710656)) (by omega)) (Below.refl _ _) (Nat.le_refl _) ?_; intro v549 w8 ho9 hb hg_ hnew_; clear hg_ hnew_; (first | rw [← Ny548.out] at ho9 | (simp only [Int.reduceToNat] at ho9; rw [← Ny548.out] at ho9)); have n0_ := Aside0.mk (Kd.R_lower ho9 (below_size (by repeat (first | (with_reducible first | exact HB.out | apply below_alloc | apply pw_below_drewN | apply below_drew1 | refine below_set ?_ GE547.out) | exact HB.out)))); have n1_ := Aside0.mk (blk_below (g := gb547) (o := .cells #[.slice A0_0 l0_0.length c0_0] 38 (0, 0)) (by (with_reducible repeat (first | refine blk_drewN ?_ _ | refine blk_drew ?_ | refine blk_alloc ?_ _)); exact BK547.out) hb); have n2_ := Aside0.mk (below_step (by repeat (first | (with_reducible first | exact HB.out | apply below_alloc | apply pw_below_drewN | apply below_drew1 | refine below_set ?_ GE547.out) | exact HB.out)) hb); clear BK547; clear HB; have HO550 := n0_; have BK547 := n1_; have HB := n2_; clear n0_ n1_ n2_; clear hb ho9; have p5 : 0 ≤ (0 : Int) := (by omega); have q5 : (0 : Int) < ((y548.length : Int) : Int) := of_decide_eq_true (by first | (with_reducible assumption) | assumption); have qi5 : (0 < y548.length) = True := eq_true (by omega); obtain ⟨go5, co5, eo5, gb5, gl5, cl5, HG5⟩ := Kd.R_form HO550.out (by omega); (first | cases eo5 | (injection eo5 with ea_ en_ ec_; (first | subst ea_ | (injection ea_ with ea_; subst ea_)); subst ec_; clear en_)); have GB5 := Aside0.mk gb5; have GG5 := Aside0.mk HG5; clear gb5 gl5 HG5; obtain ⟨hx5_0, hf5_0⟩ := Kd.R_celln false HO550.out (0 : Int) p5 q5; (try rw [show ((0 : Int)).toNat = 0 from rfl] at hx5_0); (try simp only [Nat.reduceMul, Nat.zero_mul, Nat.zero_add, Nat.reduceAdd] at hx5_0); (try rw [show ((0 : Int)).toNat = 0 from rfl] at hf5_0); (try simp only [Nat.reduceMul, Nat.zero_mul, Nat.zero_add, Nat.reduceAdd] at hf5_0); replace p5 := eq_true p5; replace q5 := eq_true q5; obtain ⟨hy10_, hz10_⟩ := Kd.R_celln false HO550.out (0 : Int) (by omega) (of_decide_eq_true (by first | (with_reducible assumption) | assumption)); (try simp only [Int.reduceToNat, Int.toNat_zero, Int.toNat_ofNat, Nat.reduceMul, Nat.zero_mul, Nat.zero_add] at hy10_ hz10_); (try rw [show ((0 : Int)).toNat = 0 from rfl] at hy10_); (try rw [show ((0 : Int)).toNat = 0 from rfl] at hz10_); have HP10 := Kd.R_putg HO550.out (0 : Int) true) | ((with_reducible refine gate_store (t := 4) (p := 13) rfl ?_); (try (rw [drewN_self w8]; generalize hq_ : World.drewN w8 _ = w8; have n0_ := Aside0.mk (Kd.R_at hq_ HO550.out); have n1_ := Aside0.mk (blk_at hq_ BK547.out); have n2_ := Aside0.mk (below_at hq_ HB.out); clear hq_ HO550 BK547 HB; have HO550 := n0_; have BK547 := n1_; have HB := n2_; clear n0_ n1_ n2_; (try (obtain ⟨hy10_, hz10_⟩ := Kd.R_celln false HO550.out (0 : Int) (by omega) (of_decide_eq_true (by first | (with_reducible assumption) | assumption)))); (try (try simp only [Int.reduceToNat, Int.toNat_zero, Int.toNat_ofNat, Nat.reduceMul, Nat.zero_mul, Nat.zero_add] at hy10_ hz10_)); (try (try rw [show ((0 : Int)).toNat = 0 from rfl] at hy10_)); (try (try rw [show ((0 : Int)).toNat = 0 from rfl] at hz10_)); (try (have HP10 := Kd.R_putg HO550.out (0 : Int) true)))); refine store_event (t := 4) (p := 13) (v := ?vo_w11) (w1 := (w8.setCell ⟨go5, (0 : Int).toNat, none⟩ (.bool true))) ?hg ?ho ?hn ?hr ?_; (case ho => rfl); (case hg => rfl); (case hn => rfl); (case hr => first | (go_simp; done) | (go_simp; rfl)); intro w11 hw; have hg : w8.grownBy w11 (some go5) := (by rw [hw]; exact HP10.2); have hp_ : Kd.R Kd.bool 4 w11 w.heap.size (fun _ => True) (.slice (some ⟨go5, 0, none⟩) y548.length co5) y551 := (by rw [hw, Ny551.out]; exact HP10.1); clear HP10; have n0_ := Aside0.mk (blk_grown (g := gb547) (o := .cells #[.slice A0_0 l0_0.length c0_0] 38 (0, 0)) (by (with_reducible repeat (first | refine blk_drewN ?_ _ | refine blk_drew ?_ | refine blk_alloc ?_ _)); exact BK547.out) hg (Kd.R_ne HO550.out BK547.out (by decide))); have n1_ := Aside0.mk (hp_); have n2_ := Aside0.mk ((by rw [hw]; exact below_set (HB.out) GB5.out : Below w.heap.size w w11)); clear BK547; clear HO550; clear HB; have BK547 := n0_; have HO550 := n1_; have HB := n2_; clear n0_ n1_ n2_; clear hg hw hp_) | ((with_reducible refine gate_dst (N := 14) rfl ?_); refine Kd.R_lit (Kd.int .i64) _ 3 ?hg (N := 14) ?hd (xs := ([0] : List Int)) (inner := [.int .i64 0]) (ok := fun _ => True) (okp := fun _ => True) ?hr ?hp (fun _ hk => hk) trivial (Below.refl _ _) (Nat.le_refl _) (by simp) ?_; (case hd => rfl); (case hg => rfl); (case hr => first | (go_simp; done) | (go_simp; rfl)); (case hp => exact (Reps.one (show Kd.M (Kd.int .i64) _ _ _ 0 [.int .i64 0] from rfl) (Reps.none _ _))); intro v553 w12 ho13 hb hg_ hnew_; clear hg_ hnew_; (first | rw [← Ny552.out] at ho13 | (simp only [Int.reduceToNat] at ho13; rw [← Ny552.out] at ho13)); have n0_ := Aside0.mk (Kd.R_below (by (with_reducible repeat (first | apply Kd.R_alloc | apply Kd.R_drewN | apply Kd.R_drew)); exact HO550.out) hb); have n1_ := Aside0.mk (Kd.R_lower ho13 (below_size (by repeat (first | (with_reducible first | exact HB.out | apply below_alloc | apply pw_below_drewN | apply below_drew1 | refine below_set ?_ GE547.out) | exact HB.out)))); have n2_ := Aside0.mk (blk_below (g := gb547) (o := .cells #[.slice A0_0 l0_0.length c0_0] 38 (0, 0)) (by (with_reducible repeat (first | refine blk_drewN ?_ _ | refine blk_drew ?_ | refine blk_alloc ?_ _)); exact BK547.out) hb); have n3_ := Aside0.mk (below_step (by repeat (first | (with_reducible first | exact HB.out | apply below_alloc | apply pw_below_drewN | apply below_drew1 | refine below_set ?_ GE547.out) | exact HB.out)) hb); clear HO550; clear BK547; clear HB; have HO550 := n0_; have HO554 := n1_; have BK547 := n2_; have HB := n3_; clear n0_ n1_ n2_ n3_; clear hb ho13)))
    go_loopg [4, 5] k (fun kq v4 v5 w' => ∃ (x3_1 : List Bool) (x4_1 : List Int) (x5_1 : Int), v5 = .int .i64 x5_1 ∧ Aside0 (mizmazetop_connects.l0 kq x3_1 x4_1 x5_1 l0_0 = some r) ∧ Aside0 (kq ≤ k) ∧ Aside0 (Kd.R Kd.bool 4 w' w.heap.size (fun _ => True) (.slice (some ⟨go5, 0, none⟩) y548.length co5) x3_1) ∧ Aside0 (Kd.R (Kd.int .i64) 3 w' w.heap.size (fun _ => True) v4 x4_1) ∧ Aside0 (w'.heap[gb547]? = some (.cells #[(.slice A0_0 l0_0.length c0_0)] 38 (0, 0))) ∧ Aside0 (Below w.heap.size w w'))
    case atStart => exact ⟨(y551), (y552), (0), (by first | rfl | (simp; done) | (simp [*]; done)), H', ⟨Nat.le_refl _⟩, ⟨by (with_reducible repeat (first | apply Kd.R_alloc | apply Kd.R_drewN | apply Kd.R_drew)); exact HO550.out⟩, ⟨by (with_reducible repeat (first | apply Kd.R_alloc | apply Kd.R_drewN | apply Kd.R_drew)); exact HO554.out⟩, ⟨by (with_reducible repeat (first | refine blk_drewN ?_ _ | refine blk_drew ?_ | refine blk_alloc ?_ _)); exact BK547.out⟩, ⟨by repeat (first | (with_reducible first | exact HB.out | apply below_alloc | apply pw_below_drewN | apply below_drew1 | refine below_set ?_ GE547.out) | exact HB.out)⟩⟩
    case round =>
     clear H'
     try clear c2
     try clear c2b0
     try clear c2b1
     try clear p2
     try clear c3
     try clear c3b0
     try clear c3b1
     try clear c4
     try clear c4b0
     try clear c4b1
     try clear p5
     try clear q5
     try clear hx5
     try clear qi5
     try clear hf5
     try clear hcz7_0
     try clear hfz7_0
     try clear hx5_0
     try clear p5
     try clear q5
     obtain ⟨x3_1, x4_1, x5_1, rfl, HA, HK1, HO_3, HO_4, BK547, HB⟩ := hrel
     have hl3_1 := (Kd.R_reads' HO_3.out).1
     rw [hl3_1] at HO_3
     (try simp only [hl3_1])
     (try simp only [hl3_1] at BK547)
     (try simp only [hl3_1] at HO_4)
     cases gk with
     | zero => exact absurd HA.out (by simp [mizmazetop_connects.l0])
     | succ k1 =>
      have H := HA.out
      clear HA
      simp only [mizmazetop_connects.l0] at H
      by_cases c14 : x5_1 < (x4_1.length : Int)
      ·rw [if_pos c14] at H
       have c14b0 : decide (x5_1 < (x4_1.length : Int)) = true := decide_eq_true c14
       clear c14
       have H' := Aside0.mk H
       clear H
       obtain ⟨Ao15, co15, eo15⟩ := Kd.R_slice HO_4.out
       subst eo15
       go_wp2
       repeat (go_quiet (fail); try go_wp2)
       go_loopg [4, 6] k1 (fun kq v4 v6 w' => ∃ (x3_2 : List Bool) (x4_2 : List Int) (x6_2 : Int), v6 = .int .i64 x6_2 ∧ Aside0 (mizmazetop_connects.l1 kq x3_2 x4_2 x5_1 x6_2 l0_0 = some r) ∧ Aside0 (kq ≤ k1) ∧ Aside0 (Kd.R Kd.bool 4 w' w.heap.size (fun _ => True) (.slice (some ⟨go5, 0, none⟩) x3_1.length co5) x3_2) ∧ Aside0 (Kd.R (Kd.int .i64) 3 w' w.heap.size (fun _ => True) v4 x4_2) ∧ Aside0 (w'.heap[gb547]? = some (.cells #[(.slice A0_0 l0_0.length c0_0)] 38 (0, 0))) ∧ Aside0 (Below w.heap.size w w'))
       case atStart => exact ⟨(x3_1), (x4_1), (0), (by first | rfl | (simp; done) | (simp [*]; done)), H', ⟨Nat.le_refl _⟩, ⟨by (try simp only [hl3_1]); (with_reducible repeat (first | apply Kd.R_alloc | apply Kd.R_drewN | apply Kd.R_drew)); exact HO_3.out⟩, ⟨by (try simp only [hl3_1]); (with_reducible repeat (first | apply Kd.R_alloc | apply Kd.R_drewN | apply Kd.R_drew)); exact HO_4.out⟩, ⟨by (try simp only [hl3_1]); (with_reducible repeat (first | refine blk_drewN ?_ _ | refine blk_drew ?_ | refine blk_alloc ?_ _)); exact BK547.out⟩, ⟨by repeat (first | (with_reducible first | exact HB.out | apply below_alloc | apply pw_below_drewN | apply below_drew1 | refine below_set ?_ GE547.out) | exact HB.out)⟩⟩
       case round =>
        clear H'
        try clear c1
        try clear c2
        try clear c2b0
        try clear c2b1
        try clear p2
        try clear c3
        try clear c3b0
        try clear c3b1
        try clear c4
        try clear c4b0
        try clear c4b1
        try clear p5
        try clear q5
        try clear hx5
        try clear qi5
        try clear hf5
        try clear c14
        try clear c14b0
        try clear hcz7_0
        try clear hfz7_0
        try clear hx5_0
        try clear p2
        try clear p5
        try clear q5
        obtain ⟨x3_2, x4_2, x6_2, rfl, HA, HK2, HO_3, HO_4, BK547, HB⟩ := hrel
        have hl3_2 := (Kd.R_reads' HO_3.out).1
        rw [hl3_2] at HO_3
        (try simp only [hl3_2])
        (try simp only [hl3_2] at BK547)
        (try simp only [hl3_2] at HO_4)
        cases gk with
        | zero => exact absurd HA.out (by simp [mizmazetop_connects.l1])
        | succ k2 =>
         have H := HA.out
         clear HA
         simp only [mizmazetop_connects.l1] at H
         by_cases c16 : 0 ≤ x5_1
         ·rw [if_pos c16] at H
          have c16b0 : decide (0 ≤ x5_1) = true := decide_eq_true c16
          clear c16
          by_cases c17 : x5_1 < (x4_2.length : Int)
          ·rw [if_pos c17] at H
           have c17b0 : decide (x5_1 < (x4_2.length : Int)) = true := decide_eq_true c17
           clear c17
           by_cases c18 : 0 ≤ (rd x4_2 x5_1)
           ·rw [if_pos c18] at H
            have c18b0 : decide (0 ≤ (rd x4_2 x5_1)) = true := decide_eq_true c18
            clear c18
            by_cases c19 : (rd x4_2 x5_1) < (l0_0.length : Int)
            ·rw [if_pos c19] at H
             have c19b0 : decide ((rd x4_2 x5_1) < (l0_0.length : Int)) = true := decide_eq_true c19
             clear c19
             by_cases c20 : x6_2 < ((rd_L4 l0_0 (rd x4_2 x5_1)).length : Int)
             ·rw [if_pos c20] at H
              have c20b0 : decide (x6_2 < ((rd_L4 l0_0 (rd x4_2 x5_1)).length : Int)) = true := decide_eq_true c20
              clear c20
              by_cases c21 : 0 ≤ x6_2
              ·rw [if_pos c21] at H
               have c21b0 : decide (0 ≤ x6_2) = true := decide_eq_true c21
               clear c21
               by_cases c22 : 0 ≤ ((rd_T44 (rd_L4 l0_0 (rd x4_2 x5_1)) x6_2).f0)
               ·rw [if_pos c22] at H
                have c22b0 : decide (0 ≤ ((rd_T44 (rd_L4 l0_0 (rd x4_2 x5_1)) x6_2).f0)) = true := decide_eq_true c22
                clear c22
                by_cases c23 : ((rd_T44 (rd_L4 l0_0 (rd x4_2 x5_1)) x6_2).f0) < (x3_2.length : Int)
                ·rw [if_pos c23] at H
                 have c23b0 : decide (((rd_T44 (rd_L4 l0_0 (rd x4_2 x5_1)) x6_2).f0) < (x3_2.length : Int)) = true := decide_eq_true c23
                 clear c23
                 obtain ⟨bq24, hbq24⟩ : ∃ b_ : Bool, b_ = (rdOf false x3_2 ((rd_T44 (rd_L4 l0_0 (rd x4_2 x5_1)) x6_2).f0)) := ⟨_, rfl⟩
                 replace H : (if (bq24 = true) then (mizmazetop_connects.l1 k2 x3_2 x4_2 x5_1 (wrap64 (x6_2 + 1)) l0_0) else (if x4_2.length < 17592186044416 then (mizmazetop_connects.l1 k2 (x3_2.set (((rd_T44 (rd_L4 l0_0 (rd x4_2 x5_1)) x6_2).f0) : Int).toNat true) (x4_2 ++ [(rd_T44 (rd_L4 l0_0 (rd x4_2 x5_1)) x6_2).f0]) x5_1 (wrap64 (x6_2 + 1)) l0_0) else (none))) = some r := by rw [← hbq24] at H; exact H
                 have Nbq24 := Aside0.mk hbq24
                 clear hbq24
                 by_cases c25 : (bq24 = true)
                 ·subst c25
                  have H1 : (mizmazetop_connects.l1 k2 x3_2 x4_2 x5_1 (wrap64 (x6_2 + 1)) l0_0) = some r := by rw [if_pos rfl] at H; exact H
                  clear H
                  have H := H1
                  clear H1
                  have H' := Aside0.mk H
                  clear H
                  have hcz26_0 : wr.cell? ⟨gb547, 0, none⟩ = some (.slice A0_0 l0_0.length c0_0) := (blk_cell BK547.out 0).trans rfl
                  have hfz26_0 := blk_frozen BK547.out 0
                  obtain ⟨Ao27, co27, eo27⟩ := Kd.R_slice HO_4.out
                  subst eo27
                  have p555 : 0 ≤ (x5_1 : Int) := of_decide_eq_true (by first | (with_reducible assumption) | assumption)
                  have q555 : x5_1 < (x4_2.length : Int) := of_decide_eq_true (by first | (with_reducible assumption) | assumption)
                  obtain ⟨ad555, e555, hx555_0⟩ := Kd.at_int (Kd.R_reads' HO_4.out).2.2 x5_1 p555 q555
                  cases e555
                  replace p555 := eq_true p555
                  replace q555 := eq_true q555
                  have p556 : 0 ≤ ((rd x4_2 x5_1) : Int) := of_decide_eq_true (by first | (with_reducible assumption) | assumption)
                  have q556 : (rd x4_2 x5_1) < (l0_0.length : Int) := of_decide_eq_true (by first | (with_reducible assumption) | assumption)
                  obtain ⟨ad556, A556_0, c556_0, e556, hx556_0, hl556_0, hi556_0⟩ := at_L4 HR0_0.out (rd x4_2 x5_1) p556 q556
                  cases e556
                  replace hx556_0 := (HB.out.cell (World.block_lt_of_cell? w _ hx556_0)).trans hx556_0
                  have HR556_0 := Aside0.mk hi556_0
                  have HC556_0 := Aside0.mk hl556_0
                  clear hi556_0 hl556_0
                  replace p556 := eq_true p556
                  replace q556 := eq_true q556
                  have p557 : 0 ≤ (x5_1 : Int) := of_decide_eq_true (by first | (with_reducible assumption) | assumption)
                  have q557 : x5_1 < (x4_2.length : Int) := of_decide_eq_true (by first | (with_reducible assumption) | assumption)
                  obtain ⟨ad557, e557, hx557_0⟩ := Kd.at_int (Kd.R_reads' HO_4.out).2.2 x5_1 p557 q557
                  obtain rfl : ad555 = ad557 := (by injection e557)
                  replace p557 := eq_true p557
                  replace q557 := eq_true q557
                  have p558 : 0 ≤ ((rd x4_2 x5_1) : Int) := of_decide_eq_true (by first | (with_reducible assumption) | assumption)
                  have q558 : (rd x4_2 x5_1) < (l0_0.length : Int) := of_decide_eq_true (by first | (with_reducible assumption) | assumption)
                  obtain ⟨ad558, A558_0, c558_0, e558, hx558_0, hl558_0, hi558_0⟩ := at_L4 HR0_0.out (rd x4_2 x5_1) p558 q558
                  obtain rfl : ad556 = ad558 := (by injection e558)
                  replace hx558_0 := (HB.out.cell (World.block_lt_of_cell? w _ hx558_0)).trans hx558_0
                  have HR558_0 := Aside0.mk hi558_0
                  have HC558_0 := Aside0.mk hl558_0
                  clear hi558_0 hl558_0
                  replace p558 := eq_true p558
                  replace q558 := eq_true q558
                  have ea_ := Option.some.inj (hx556_0.symm.trans hx558_0)
                  injection ea_ with ea_ en_ ec_
                  subst ea_
                  subst ec_
                  clear en_
                  have p559 : 0 ≤ (x6_2 : Int) := of_decide_eq_true (by first | (with_reducible assumption) | assumption)
                  have q559 : x6_2 < ((rd_L4 l0_0 (rd x4_2 x5_1)).length : Int) := of_decide_eq_true (by first | (with_reducible assumption) | assumption)
                  obtain ⟨ad559, e559, hx559_0, hx559_1⟩ := at_T44 HR558_0.out x6_2 p559 q559
                  cases e559
                  replace hx559_0 := (HB.out.cell (World.block_lt_of_cell? w _ hx559_0)).trans hx559_0
                  replace hx559_1 := (HB.out.cell (World.block_lt_of_cell? w _ hx559_1)).trans hx559_1
                  replace p559 := eq_true p559
                  replace q559 := eq_true q559
                  have p560 : 0 ≤ (((rd_T44 (rd_L4 l0_0 (rd x4_2 x5_1)) x6_2).f0) : Int) := of_decide_eq_true (by first | (with_reducible assumption) | assumption)
                  have q560 : ((rd_T44 (rd_L4 l0_0 (rd x4_2 x5_1)) x6_2).f0) < (x3_2.length : Int) := of_decide_eq_true (by first | (with_reducible assumption) | assumption)
                  obtain ⟨ad560, e560, hx560_0⟩ := Kd.at_bool (Kd.R_reads' HO_3.out).2.2 ((rd_T44 (rd_L4 l0_0 (rd x4_2 x5_1)) x6_2).f0) p560 q560
                  (try rw [← Nbq24.out] at hx560_0)
                  obtain rfl : (⟨go5, 0, none⟩ : Addr) = ad560 := (by injection e560)
                  (first | simp only [add_plain] at hx560_0 | simp only [add_at] at hx560_0 | simp only [Addr.add, Nat.zero_add] at hx560_0 | skip)
                  replace p560 := eq_true p560
                  replace q560 := eq_true q560
                  go_wp2
                  repeat (go_quiet (fail); try go_wp2)
                  (try simp only [← hl3_2])
                  go_roundg k2
                  case measure => have := HK1.out; have := HK2.out; omega
                  case rel => exact ⟨(x3_2), (x4_2), (wrap64 (x6_2 + 1)), (by first | rfl | (simp; done) | (simp [*]; done)), H', ⟨by have := HK1.out; have := HK2.out; omega⟩, ⟨by (try simp only [hl3_1]); (try simp only [hl3_2]); (with_reducible repeat (first | apply Kd.R_alloc | apply Kd.R_drewN | apply Kd.R_drew)); exact HO_3.out⟩, ⟨by (try simp only [hl3_1]); (try simp only [hl3_2]); (with_reducible repeat (first | apply Kd.R_alloc | apply Kd.R_drewN | apply Kd.R_drew)); exact HO_4.out⟩, ⟨by (try simp only [hl3_1]); (try simp only [hl3_2]); (with_reducible repeat (first | refine blk_drewN ?_ _ | refine blk_drew ?_ | refine blk_alloc ?_ _)); exact BK547.out⟩, ⟨by repeat (first | (with_reducible first | exact HB.out | apply below_alloc | apply pw_below_drewN | apply below_drew1 | refine below_set ?_ GE547.out) | exact HB.out)⟩⟩
                 ·replace c25 := Bool.eq_false_iff.mpr c25
                  subst c25
                  have H1 : (if x4_2.length < 17592186044416 then (mizmazetop_connects.l1 k2 (x3_2.set (((rd_T44 (rd_L4 l0_0 (rd x4_2 x5_1)) x6_2).f0) : Int).toNat true) (x4_2 ++ [(rd_T44 (rd_L4 l0_0 (rd x4_2 x5_1)) x6_2).f0]) x5_1 (wrap64 (x6_2 + 1)) l0_0) else (none)) = some r := by rw [if_neg (show ¬ (false = true) by decide)] at H; exact H
                  clear H
                  have H := H1
                  clear H1
                  obtain ⟨y561, hy561⟩ : ∃ y_ : List Bool, y_ = (x3_2.set (((rd_T44 (rd_L4 l0_0 (rd x4_2 x5_1)) x6_2).f0) : Int).toNat true) := ⟨_, rfl⟩
                  replace H : (if x4_2.length < 17592186044416 then (mizmazetop_connects.l1 k2 y561 (x4_2 ++ [(rd_T44 (rd_L4 l0_0 (rd x4_2 x5_1)) x6_2).f0]) x5_1 (wrap64 (x6_2 + 1)) l0_0) else (none)) = some r := by first | (rw [hy561]; with_reducible exact H) | (have H2_ := (Option.bind_some _ _).symm.trans H; rw [hy561]; with_reducible exact H2_) | (have H2_ := (Option.bind_some _ _).symm.trans H; with_reducible exact H2_) | with_reducible exact H | (rw [hy561]; exact H) | exact H
                  have Ny561 := Aside0.mk hy561
                  clear hy561
                  by_cases c29 : x4_2.length < 17592186044416
                  ·rw [if_pos c29] at H
                   have LMc29 := Aside0.mk c29
                   clear c29
                   obtain ⟨y562, hy562⟩ : ∃ y_ : List Int, y_ = (x4_2 ++ [(rd_T44 (rd_L4 l0_0 (rd x4_2 x5_1)) x6_2).f0]) := ⟨_, rfl⟩
                   replace H : (mizmazetop_connects.l1 k2 y561 y562 x5_1 (wrap64 (x6_2 + 1)) l0_0) = some r := by first | (rw [hy562]; with_reducible exact H) | (have H2_ := (Option.bind_some _ _).symm.trans H; rw [hy562]; with_reducible exact H2_) | (have H2_ := (Option.bind_some _ _).symm.trans H; with_reducible exact H2_) | with_reducible exact H | (rw [hy562]; exact H) | exact H
                   have Ny562 := Aside0.mk hy562
                   clear hy562
                   have H' := Aside0.mk H
                   clear H
                   have hcz30_0 : wr.cell? ⟨gb547, 0, none⟩ = some (.slice A0_0 l0_0.length c0_0) := (blk_cell BK547.out 0).trans rfl
                   have hfz30_0 := blk_frozen BK547.out 0
                   obtain ⟨Ao31, co31, eo31⟩ := Kd.R_slice HO_4.out
                   subst eo31
                   have p555 : 0 ≤ (x5_1 : Int) := of_decide_eq_true (by first | (with_reducible assumption) | assumption)
                   have q555 : x5_1 < (x4_2.length : Int) := of_decide_eq_true (by first | (with_reducible assumption) | assumption)
                   obtain ⟨ad555, e555, hx555_0⟩ := Kd.at_int (Kd.R_reads' HO_4.out).2.2 x5_1 p555 q555
                   cases e555
                   replace p555 := eq_true p555
                   replace q555 := eq_true q555
                   have p556 : 0 ≤ ((rd x4_2 x5_1) : Int) := of_decide_eq_true (by first | (with_reducible assumption) | assumption)
                   have q556 : (rd x4_2 x5_1) < (l0_0.length : Int) := of_decide_eq_true (by first | (with_reducible assumption) | assumption)
                   obtain ⟨ad556, A556_0, c556_0, e556, hx556_0, hl556_0, hi556_0⟩ := at_L4 HR0_0.out (rd x4_2 x5_1) p556 q556
                   cases e556
                   replace hx556_0 := (HB.out.cell (World.block_lt_of_cell? w _ hx556_0)).trans hx556_0
                   have HR556_0 := Aside0.mk hi556_0
                   have HC556_0 := Aside0.mk hl556_0
                   clear hi556_0 hl556_0
                   replace p556 := eq_true p556
                   replace q556 := eq_true q556
                   have p557 : 0 ≤ (x5_1 : Int) := of_decide_eq_true (by first | (with_reducible assumption) | assumption)
                   have q557 : x5_1 < (x4_2.length : Int) := of_decide_eq_true (by first | (with_reducible assumption) | assumption)
                   obtain ⟨ad557, e557, hx557_0⟩ := Kd.at_int (Kd.R_reads' HO_4.out).2.2 x5_1 p557 q557
                   obtain rfl : ad555 = ad557 := (by injection e557)
                   replace p557 := eq_true p557
                   replace q557 := eq_true q557
                   have p558 : 0 ≤ ((rd x4_2 x5_1) : Int) := of_decide_eq_true (by first | (with_reducible assumption) | assumption)
                   have q558 : (rd x4_2 x5_1) < (l0_0.length : Int) := of_decide_eq_true (by first | (with_reducible assumption) | assumption)
                   obtain ⟨ad558, A558_0, c558_0, e558, hx558_0, hl558_0, hi558_0⟩ := at_L4 HR0_0.out (rd x4_2 x5_1) p558 q558
                   obtain rfl : ad556 = ad558 := (by injection e558)
                   replace hx558_0 := (HB.out.cell (World.block_lt_of_cell? w _ hx558_0)).trans hx558_0
                   have HR558_0 := Aside0.mk hi558_0
                   have HC558_0 := Aside0.mk hl558_0
                   clear hi558_0 hl558_0
                   replace p558 := eq_true p558
                   replace q558 := eq_true q558
                   have ea_ := Option.some.inj (hx556_0.symm.trans hx558_0)
                   injection ea_ with ea_ en_ ec_
                   subst ea_
                   subst ec_
                   clear en_
                   have p559 : 0 ≤ (x6_2 : Int) := of_decide_eq_true (by first | (with_reducible assumption) | assumption)
                   have q559 : x6_2 < ((rd_L4 l0_0 (rd x4_2 x5_1)).length : Int) := of_decide_eq_true (by first | (with_reducible assumption) | assumption)
                   obtain ⟨ad559, e559, hx559_0, hx559_1⟩ := at_T44 HR558_0.out x6_2 p559 q559
                   cases e559
                   replace hx559_0 := (HB.out.cell (World.block_lt_of_cell? w _ hx559_0)).trans hx559_0
                   replace hx559_1 := (HB.out.cell (World.block_lt_of_cell? w _ hx559_1)).trans hx559_1
                   replace p559 := eq_true p559
                   replace q559 := eq_true q559
                   have p560 : 0 ≤ (((rd_T44 (rd_L4 l0_0 (rd x4_2 x5_1)) x6_2).f0) : Int) := of_decide_eq_true (by first | (with_reducible assumption) | assumption)
                   have q560 : ((rd_T44 (rd_L4 l0_0 (rd x4_2 x5_1)) x6_2).f0) < (x3_2.length : Int) := of_decide_eq_true (by first | (with_reducible assumption) | assumption)
                   obtain ⟨ad560, e560, hx560_0⟩ := Kd.at_bool (Kd.R_reads' HO_3.out).2.2 ((rd_T44 (rd_L4 l0_0 (rd x4_2 x5_1)) x6_2).f0) p560 q560
                   (try rw [← Nbq24.out] at hx560_0)
                   obtain rfl : (⟨go5, 0, none⟩ : Addr) = ad560 := (by injection e560)
                   (first | simp only [add_plain] at hx560_0 | simp only [add_at] at hx560_0 | simp only [Addr.add, Nat.zero_add] at hx560_0 | skip)
                   replace p560 := eq_true p560
                   replace q560 := eq_true q560
                   have p28 : 0 ≤ (((rd_T44 (rd_L4 l0_0 (rd x4_2 x5_1)) x6_2).f0) : Int) := of_decide_eq_true (by first | (with_reducible assumption) | assumption)
                   have q28 : (((rd_T44 (rd_L4 l0_0 (rd x4_2 x5_1)) x6_2).f0) : Int) < ((x3_2.length : Int) : Int) := of_decide_eq_true (by first | (with_reducible assumption) | assumption)
                   obtain ⟨hx28_0, hf28_0⟩ := Kd.R_celln false HO_3.out (((rd_T44 (rd_L4 l0_0 (rd x4_2 x5_1)) x6_2).f0) : Int) p28 q28
                   replace p28 := eq_true p28
                   replace q28 := eq_true q28
                   have HP32 := Kd.R_putg HO_3.out (((rd_T44 (rd_L4 l0_0 (rd x4_2 x5_1)) x6_2).f0) : Int) true
                   go_wp2_with (first | ((with_reducible refine gate_store (t := 4) (p := 53) rfl ?_); (try (rw [drewN_self wr]; generalize hq_ : World.drewN wr _ = wr; have n0_ := Aside0.mk (Kd.R_at hq_ HO_3.out); have n1_ := Aside0.mk (Kd.R_at hq_ HO_4.out); have n2_ := Aside0.mk (blk_at hq_ BK547.out); have n3_ := Aside0.mk (below_at hq_ HB.out); clear hq_ HO_3 HO_4 BK547 HB; have HO_3 := n0_; have HO_4 := n1_; have BK547 := n2_; have HB := n3_; clear n0_ n1_ n2_ n3_; (try (have HP32 := Kd.R_putg HO_3.out (((rd_T44 (rd_L4 l0_0 (rd x4_2 x5_1)) x6_2).f0) : Int) true)))); refine store_event (t := 4) (p := 53) (v := ?vo_w33) (w1 := (wr.setCell ⟨go5, (((rd_T44 (rd_L4 l0_0 (rd x4_2 x5_1)) x6_2).f0) : Int).toNat, none⟩ (.bool true))) ?hg ?ho ?hn ?hr ?_; (case ho => rfl); (case hg => rfl); (case hn => rfl); (case hr => first | (go_simp; done) | (go_simp; rfl)); intro w33 hw; have hg : wr.grownBy w33 (some go5) := (by rw [hw]; exact HP32.2); have hp_ : Kd.R Kd.bool 4 w33 w.heap.size (fun _ => True) (.slice (some ⟨go5, 0, none⟩) x3_2.length co5) y561 := (by rw [hw, Ny561.out]; exact HP32.1); clear HP32; have n0_ := Aside0.mk (hp_); have n1_ := Aside0.mk (Kd.R_over' (v := (.slice (some ⟨go5, 0, none⟩) x3_2.length co5)) (by (with_reducible repeat (first | apply Kd.R_alloc | apply Kd.R_drewN | apply Kd.R_drew)); exact HO_4.out) (Kd.R_typed HO_3.out) (by decide) hg); have n2_ := Aside0.mk (blk_grown (g := gb547) (o := .cells #[.slice (some ad556) l0_0.length c0_0] 38 (0, 0)) (by (with_reducible repeat (first | refine blk_drewN ?_ _ | refine blk_drew ?_ | refine blk_alloc ?_ _)); exact BK547.out) hg (Kd.R_ne HO_3.out BK547.out (by decide))); have n3_ := Aside0.mk ((by rw [hw]; exact below_set (HB.out) GB5.out : Below w.heap.size w w33)); clear HO_3; clear HO_4; clear BK547; clear HB; have HO_3 := n0_; have HO_4 := n1_; have BK547 := n2_; have HB := n3_; clear n0_ n1_ n2_ n3_; clear hg hw hp_) | ((with_reducible refine gate_builtin (b := .append) (xs := #[.tmp 54, .tmp 56]) rfl ?_); at_builtin; refine Kd.R_append (Kd.int .i64) (w0 := w) w.heap.size rfl (.tmp 54) (.tmp 56) 30 3 (.int .i64 0) 8 rfl Try.underlying30 info3 rfl (by decide) (by omega) (.slice (some ad555) x4_2.length co31) x4_2 ((rd_T44 (rd_L4 l0_0 (rd x4_2 x5_1)) x6_2).f0) [.int .i64 ((rd_T44 (rd_L4 l0_0 (rd x4_2 x5_1)) x6_2).f0)] (fun _ => True) (fun _ => False) rfl rfl ?aP (fun _ hk => hk.elim) ?aF ?aO ?aB ?aS ?aL ?_; (case aP => exact rfl); (case aB => exact (by repeat (first | (with_reducible first | exact HB.out | apply below_alloc | apply pw_below_drewN | apply below_drew1 | refine below_set ?_ GE547.out) | exact HB.out))); (case aF => exact (fun _ _ => trivial)); (case aO => exact (by (with_reducible repeat (first | apply Kd.R_alloc | apply Kd.R_drewN | apply Kd.R_drew)); exact HO_4.out)); (case aS => exact (below_size (by repeat (first | (with_reducible first | exact HB.out | apply below_alloc | apply pw_below_drewN | apply below_drew1 | refine below_set ?_ GE547.out) | exact HB.out)))); (case aL => have := LMc29.out; omega); intro v563 w34 ho hb hg hat; rw [← Ny562.out] at ho; have n0_ := Aside0.mk (Kd.R_over' (by (with_reducible repeat (first | apply Kd.R_alloc | apply Kd.R_drewN | apply Kd.R_drew)); exact HO_3.out) (Kd.R_typed (by (with_reducible repeat (first | apply Kd.R_alloc | apply Kd.R_drewN | apply Kd.R_drew)); exact HO_4.out)) (by decide) hg); have n1_ := Aside0.mk (blk_grown (g := gb547) (o := .cells #[.slice (some ad556) l0_0.length c0_0] 38 (0, 0)) (by (with_reducible repeat (first | refine blk_drewN ?_ _ | refine blk_drew ?_ | refine blk_alloc ?_ _)); exact BK547.out) hg (Kd.R_ne HO_4.out BK547.out (by decide))); have n2_ := Aside0.mk (hb); have n3_ := Aside0.mk (ho); clear HO_3; clear BK547; clear HB; clear HO_4; have HO_3 := n0_; have BK547 := n1_; have HB := n2_; have HO564 := n3_; clear n0_ n1_ n2_ n3_; clear ho hb hg hat))
                   go_quiet (fail)
                   go_wp2_with (fail)
                   go_quiet (fail)
                   (try simp only [World.drewN_drewN]); generalize hq_ : World.drewN wr _ = wr; have n0_ := Aside0.mk (Kd.R_at hq_ HO_3.out); have n1_ := Aside0.mk (Kd.R_at hq_ HO_4.out); have n2_ := Aside0.mk (blk_at hq_ BK547.out); have n3_ := Aside0.mk (below_at hq_ HB.out); replace hx560_0 := mizmazetop_connects.cell_at hq_ hx560_0; clear hq_ HO_3 HO_4 BK547 HB; have HO_3 := n0_; have HO_4 := n1_; have BK547 := n2_; have HB := n3_; clear n0_ n1_ n2_ n3_
                   obtain ⟨hx28_0, hf28_0⟩ := Kd.R_celln false HO_3.out (((rd_T44 (rd_L4 l0_0 (rd x4_2 x5_1)) x6_2).f0) : Int) (of_eq_true p28) (of_eq_true q28)
                   have HP32 := Kd.R_putg HO_3.out (((rd_T44 (rd_L4 l0_0 (rd x4_2 x5_1)) x6_2).f0) : Int) true
                   go_wp2_with (first | ((with_reducible refine gate_store (t := 4) (p := 53) rfl ?_); (try (rw [drewN_self wr]; generalize hq_ : World.drewN wr _ = wr; have n0_ := Aside0.mk (Kd.R_at hq_ HO_3.out); have n1_ := Aside0.mk (Kd.R_at hq_ HO_4.out); have n2_ := Aside0.mk (blk_at hq_ BK547.out); have n3_ := Aside0.mk (below_at hq_ HB.out); clear hq_ HO_3 HO_4 BK547 HB; have HO_3 := n0_; have HO_4 := n1_; have BK547 := n2_; have HB := n3_; clear n0_ n1_ n2_ n3_; (try (have HP32 := Kd.R_putg HO_3.out (((rd_T44 (rd_L4 l0_0 (rd x4_2 x5_1)) x6_2).f0) : Int) true)))); refine store_event (t := 4) (p := 53) (v := ?vo_w33) (w1 := (wr.setCell ⟨go5, (((rd_T44 (rd_L4 l0_0 (rd x4_2 x5_1)) x6_2).f0) : Int).toNat, none⟩ (.bool true))) ?hg ?ho ?hn ?hr ?_; (case ho => rfl); (case hg => rfl); (case hn => rfl); (case hr => first | (go_simp; done) | (go_simp; rfl)); intro w33 hw; have hg : wr.grownBy w33 (some go5) := (by rw [hw]; exact HP32.2); have hp_ : Kd.R Kd.bool 4 w33 w.heap.size (fun _ => True) (.slice (some ⟨go5, 0, none⟩) x3_2.length co5) y561 := (by rw [hw, Ny561.out]; exact HP32.1); clear HP32; have n0_ := Aside0.mk (hp_); have n1_ := Aside0.mk (Kd.R_over' (v := (.slice (some ⟨go5, 0, none⟩) x3_2.length co5)) (by (with_reducible repeat (first | apply Kd.R_alloc | apply Kd.R_drewN | apply Kd.R_drew)); exact HO_4.out) (Kd.R_typed HO_3.out) (by decide) hg); have n2_ := Aside0.mk (blk_grown (g := gb547) (o := .cells #[.slice (some ad556) l0_0.length c0_0] 38 (0, 0)) (by (with_reducible repeat (first | refine blk_drewN ?_ _ | refine blk_drew ?_ | refine blk_alloc ?_ _)); exact BK547.out) hg (Kd.R_ne HO_3.out BK547.out (by decide))); have n3_ := Aside0.mk ((by rw [hw]; exact below_set (HB.out) GB5.out : Below w.heap.size w w33)); clear HO_3; clear HO_4; clear BK547; clear HB; have HO_3 := n0_; have HO_4 := n1_; have BK547 := n2_; have HB := n3_; clear n0_ n1_ n2_ n3_; clear hg hw hp_) | ((with_reducible refine gate_builtin (b := .append) (xs := #[.tmp 54, .tmp 56]) rfl ?_); at_builtin; refine Kd.R_append (Kd.int .i64) (w0 := w) w.heap.size rfl (.tmp 54) (.tmp 56) 30 3 (.int .i64 0) 8 rfl Try.underlying30 info3 rfl (by decide) (by omega) (.slice (some ad555) x4_2.length co31) x4_2 ((rd_T44 (rd_L4 l0_0 (rd x4_2 x5_1)) x6_2).f0) [.int .i64 ((rd_T44 (rd_L4 l0_0 (rd x4_2 x5_1)) x6_2).f0)] (fun _ => True) (fun _ => False) rfl rfl ?aP (fun _ hk => hk.elim) ?aF ?aO ?aB ?aS ?aL ?_; (case aP => exact rfl); (case aB => exact (by repeat (first | (with_reducible first | exact HB.out | apply below_alloc | apply pw_below_drewN | apply below_drew1 | refine below_set ?_ GE547.out) | exact HB.out))); (case aF => exact (fun _ _ => trivial)); (case aO => exact (by (with_reducible repeat (first | apply Kd.R_alloc | apply Kd.R_drewN | apply Kd.R_drew)); exact HO_4.out)); (case aS => exact (below_size (by repeat (first | (with_reducible first | exact HB.out | apply below_alloc | apply pw_below_drewN | apply below_drew1 | refine below_set ?_ GE547.out) | exact HB.out)))); (case aL => have := LMc29.out; omega); intro v563 w34 ho hb hg hat; rw [← Ny562.out] at ho; have n0_ := Aside0.mk (Kd.R_over' (by (with_reducible repeat (first | apply Kd.R_alloc | apply Kd.R_drewN | apply Kd.R_drew)); exact HO_3.out) (Kd.R_typed (by (with_reducible repeat (first | apply Kd.R_alloc | apply Kd.R_drewN | apply Kd.R_drew)); exact HO_4.out)) (by decide) hg); have n1_ := Aside0.mk (blk_grown (g := gb547) (o := .cells #[.slice (some ad556) l0_0.length c0_0] 38 (0, 0)) (by (with_reducible repeat (first | refine blk_drewN ?_ _ | refine blk_drew ?_ | refine blk_alloc ?_ _)); exact BK547.out) hg (Kd.R_ne HO_4.out BK547.out (by decide))); have n2_ := Aside0.mk (hb); have n3_ := Aside0.mk (ho); clear HO_3; clear BK547; clear HB; clear HO_4; have HO_3 := n0_; have BK547 := n1_; have HB := n2_; have HO564 := n3_; clear n0_ n1_ n2_ n3_; clear ho hb hg hat))
                   (try simp only [← hl3_2])
                   go_roundg k2
                   case measure => have := HK1.out; have := HK2.out; omega
                   case rel => exact ⟨(y561), (y562), (wrap64 (x6_2 + 1)), (by first | rfl | (simp; done) | (simp [*]; done)), H', ⟨by have := HK1.out; have := HK2.out; omega⟩, ⟨by (try simp only [hl3_1]); (try simp only [hl3_2]); (with_reducible repeat (first | apply Kd.R_alloc | apply Kd.R_drewN | apply Kd.R_drew)); exact HO_3.out⟩, ⟨by (try simp only [hl3_1]); (try simp only [hl3_2]); (with_reducible repeat (first | apply Kd.R_alloc | apply Kd.R_drewN | apply Kd.R_drew)); exact HO564.out⟩, ⟨by (try simp only [hl3_1]); (try simp only [hl3_2]); (with_reducible repeat (first | refine blk_drewN ?_ _ | refine blk_drew ?_ | refine blk_alloc ?_ _)); exact BK547.out⟩, ⟨by repeat (first | (with_reducible first | exact HB.out | apply below_alloc | apply pw_below_drewN | apply below_drew1 | refine below_set ?_ GE547.out) | exact HB.out)⟩⟩
                  ·rw [if_neg c29] at H
                   exact absurd H (by simp)
                ·rw [if_neg c23] at H
                 exact absurd H (by simp)
               ·rw [if_neg c22] at H
                exact absurd H (by simp)
              ·rw [if_neg c21] at H
               exact absurd H (by simp)
             ·rw [if_neg c20] at H
              have c20b0 : decide (x6_2 < ((rd_L4 l0_0 (rd x4_2 x5_1)).length : Int)) = false := decide_eq_false c20
              clear c20
              have H' := Aside0.mk H
              clear H
              have hcz35_0 : wr.cell? ⟨gb547, 0, none⟩ = some (.slice A0_0 l0_0.length c0_0) := (blk_cell BK547.out 0).trans rfl
              have hfz35_0 := blk_frozen BK547.out 0
              obtain ⟨Ao36, co36, eo36⟩ := Kd.R_slice HO_4.out
              subst eo36
              have p555 : 0 ≤ (x5_1 : Int) := of_decide_eq_true (by first | (with_reducible assumption) | assumption)
              have q555 : x5_1 < (x4_2.length : Int) := of_decide_eq_true (by first | (with_reducible assumption) | assumption)
              obtain ⟨ad555, e555, hx555_0⟩ := Kd.at_int (Kd.R_reads' HO_4.out).2.2 x5_1 p555 q555
              cases e555
              replace p555 := eq_true p555
              replace q555 := eq_true q555
              have p556 : 0 ≤ ((rd x4_2 x5_1) : Int) := of_decide_eq_true (by first | (with_reducible assumption) | assumption)
              have q556 : (rd x4_2 x5_1) < (l0_0.length : Int) := of_decide_eq_true (by first | (with_reducible assumption) | assumption)
              obtain ⟨ad556, A556_0, c556_0, e556, hx556_0, hl556_0, hi556_0⟩ := at_L4 HR0_0.out (rd x4_2 x5_1) p556 q556
              cases e556
              replace hx556_0 := (HB.out.cell (World.block_lt_of_cell? w _ hx556_0)).trans hx556_0
              have HR556_0 := Aside0.mk hi556_0
              have HC556_0 := Aside0.mk hl556_0
              clear hi556_0 hl556_0
              replace p556 := eq_true p556
              replace q556 := eq_true q556
              go_wp2
              repeat (go_quiet (fail); try go_wp2)
              (try simp only [← hl3_1, ← hl3_2])
              go_roundg k2
              case measure => have := HK1.out; have := HK2.out; omega
              case rel => exact ⟨(x3_2), (x4_2), (wrap64 (x5_1 + 1)), (by first | rfl | (simp; done) | (simp [*]; done)), H', ⟨by have := HK1.out; have := HK2.out; omega⟩, ⟨by (try simp only [hl3_1]); (try simp only [hl3_2]); (with_reducible repeat (first | apply Kd.R_alloc | apply Kd.R_drewN | apply Kd.R_drew)); exact HO_3.out⟩, ⟨by (try simp only [hl3_1]); (try simp only [hl3_2]); (with_reducible repeat (first | apply Kd.R_alloc | apply Kd.R_drewN | apply Kd.R_drew)); exact HO_4.out⟩, ⟨by (try simp only [hl3_1]); (try simp only [hl3_2]); (with_reducible repeat (first | refine blk_drewN ?_ _ | refine blk_drew ?_ | refine blk_alloc ?_ _)); exact BK547.out⟩, ⟨by repeat (first | (with_reducible first | exact HB.out | apply below_alloc | apply pw_below_drewN | apply below_drew1 | refine below_set ?_ GE547.out) | exact HB.out)⟩⟩
            ·rw [if_neg c19] at H
             exact absurd H (by simp)
           ·rw [if_neg c18] at H
            exact absurd H (by simp)
          ·rw [if_neg c17] at H
           exact absurd H (by simp)
         ·rw [if_neg c16] at H
          exact absurd H (by simp)
      ·rw [if_neg c14] at H
       have c14b0 : decide (x5_1 < (x4_1.length : Int)) = false := decide_eq_false c14
       clear c14
       obtain rfl := Option.some.inj H
       obtain ⟨Ao37, co37, eo37⟩ := Kd.R_slice HO_4.out
       subst eo37
       have hcz38_0 : wr.cell? ⟨gb547, 0, none⟩ = some (.slice A0_0 l0_0.length c0_0) := (blk_cell BK547.out 0).trans rfl
       have hfz38_0 := blk_frozen BK547.out 0
       go_wp2
       repeat (go_quiet (fail); try go_wp2)
       go_ret
       exact ⟨by first | rfl | (simp [errW_none, errW_some] <;> rfl) | (simp [*, errW_none, errW_some] <;> rfl), by repeat (first | (with_reducible first | exact HB.out | apply below_alloc | apply pw_below_drewN | apply below_drew1 | refine below_set ?_ GE547.out) | exact HB.out)⟩
   ·rw [if_neg c4] at H
    exact absurd H (by simp)
  ·rw [if_neg c3] at H
   exact absurd H (by simp)
 ·rw [if_neg c2] at H
  exact absurd H (by simp)

end Go.Proofs.Ytgbjbgdnldklpaa.Q
end
/-! Part XFits -/
section
namespace Go.Proofs.Ytgbjbgdnldklpaa.Q
open Go.RowKit Go.Proofs.YtgbjbgdnldklpaaW.PrintWords Go.Proofs.YtgbjbgdnldklpaaW.PrintLast Go.Proofs.YtgbjbgdnldklpaaW.PrintMore
set_option linter.unusedVariables false
set_option linter.unusedSimpArgs false

/-- Where the first element with p stands, or -1. -/
def findTo {α : Type} (p : α → Bool) (l : List α) : Int := match l.findIdx? p with | some i => (i : Int) | none => -1
theorem findTo_any {α : Type} (p : α → Bool) (l : List α) : decide (0 ≤ findTo p l) = l.any p := by
 unfold findTo
 cases h : l.findIdx? p with
 | none => rw [List.findIdx?_eq_none_iff] at h; simp; simpa using h
 | some i =>
  obtain ⟨h1, h2, _⟩ := List.findIdx?_eq_some_iff_getElem.1 h
  simp; exact ⟨_, List.getElem_mem h1, h2⟩
def NoneTo {α : Type} (p : α → Bool) (l : List α) (d : α) (x : Int) : Prop := ∀ j : Nat, (j : Int) < x → p (l.getD j d) = false
theorem NoneTo.zero {α : Type} (p : α → Bool) (l : List α) (d : α) : NoneTo p l d 0 := fun j h => by omega
theorem NoneTo.succ {α : Type} {p : α → Bool} {l : List α} {d : α} {x : Int} (h : NoneTo p l d x) (h0 : 0 ≤ x) (hp : p (l.getD x.toNat d) = false) : NoneTo p l d (x + 1) := fun j hj => by
 by_cases e : (j : Int) = x
 ·have : j = x.toNat := by omega
  rw [this]; exact hp
 ·exact h j (by omega)
theorem findTo_at {α : Type} {p : α → Bool} {l : List α} {d : α} {x : Int} (h : NoneTo p l d x) (h0 : 0 ≤ x) (hx : x < l.length) (hp : p (l.getD x.toNat d) = true) : findTo p l = x := by
 have : l.findIdx? p = some x.toNat := by
  rw [List.findIdx?_eq_some_iff_getElem]
  refine ⟨by omega, ?_, fun j hj => ?_⟩
  ·rw [List.getD_eq_getElem?_getD, List.getElem?_eq_getElem (by omega)] at hp; exact hp
  ·have := h j (by omega)
   rw [List.getD_eq_getElem?_getD, List.getElem?_eq_getElem (by omega)] at this
   simpa using this
 unfold findTo; rw [this]; simp; omega
theorem findTo_none {α : Type} {p : α → Bool} {l : List α} {d : α} {x : Int} (h : NoneTo p l d x) (hx : (l.length : Int) ≤ x) : findTo p l = -1 := by
 have : l.findIdx? p = none := by
  rw [List.findIdx?_eq_none_iff]
  intro a ha
  obtain ⟨j, hj, rfl⟩ := List.getElem_of_mem ha
  have := h j (by omega)
  rw [List.getD_eq_getElem?_getD, List.getElem?_eq_getElem (by omega)] at this
  exact this
 unfold findTo; rw [this]

def outB (n x : Int) : Bool := decide (x < 0 ∨ n ≤ x)
def inB (n : Int) (l : List Int) : Bool := l.all fun x => decide (0 ≤ x ∧ x < n)
theorem inB_eq (n : Int) (l : List Int) : inB n l = !l.any (outB n) := by
 unfold inB outB
 induction l with
 | nil => rfl
 | cons a l ih =>
  rw [List.all_cons, List.any_cons, ih, Bool.not_or]
  congr 1
  by_cases h1 : a < 0 <;> by_cases h2 : n ≤ a <;> simp_all <;> omega
set_option maxHeartbeats 400000 in
theorem within1_calls (x n : Int) (g : Nat) (w : World) (hg : w.cell? ⟨g, 0, none⟩ = some (.int .i64 n)) :
  Calls Try.prog 56 #[.int .i64 x, .pointer (some ⟨g, 0, none⟩)] w fun e w' => e = .returned (.bool (outB n x)) ∧ w = w' := by
 by_cases h : x < 0
 ·go_enter Try.func56, Try.ntmps56
  go_wp2
  go_ret
  exact ⟨by simp [h, outB], rfl⟩
 ·go_enter Try.func56, Try.ntmps56
  go_wp2
  go_ret
  exact ⟨by simp [outB]; omega, rfl⟩

theorem wrap_in {x : Int} {n : Nat} (h0 : 0 ≤ x) (h : x < (n : Int)) (hn : n ≤ 9223372036854775807) : wrap64 (x + 1) = x + 1 := by
 unfold wrap64
 omega

set_option maxRecDepth 100000 in
set_option maxHeartbeats 400000 in
/-- IndexFunc over []int by a predicate that reads memory alone. -/
theorem index1_calls (F : Nat) (caps : Array Value) (p : Int → Bool) (A : Option Addr) (c : Nat) (l : List Int) (w : World)
  (hr : Kd.C (Kd.int .i64) w A l.length l) (hc : l.length ≤ c)
  (hcall : ∀ a w, Sem.run Try.prog (callFunc F a) w = .ok (.enter F a) w)
  (hp : ∀ x, Calls Try.prog F (#[.int .i64 x] ++ caps) w fun e w' => e = .returned (.bool (p x)) ∧ w = w') :
  Calls Try.prog 62 #[.slice A l.length c, .func (.func F) #[] caps] w fun e w' => e = .returned (.int .i64 (findTo p l)) ∧ w = w' := by
 have hm : l.length ≤ 9223372036854775807 := hr.2.1
 have HP := Aside0.mk hp
 clear hp
 go_enter Try.func62, Try.ntmps62
 go_wp2
 go_loop [8] (fun i => ∃ x : Int, 0 ≤ x ∧ x ≤ l.length ∧ i = .int .i64 x ∧ Aside0 (NoneTo p l 0 x)) (fun i => l.length - (intOf i).toNat)
 case atStart => exact ⟨0, by omega, by omega, rfl, ⟨NoneTo.zero _ _ _⟩⟩
 case round =>
  obtain ⟨x, h0, h1, rfl, HA⟩ := hrel
  by_cases hlt : x < l.length
  ·obtain ⟨ad, e, hx⟩ := Kd.at_int hr x h0 hlt
   cases e
   have c3 : decide (x < (l.length : Int)) = true := decide_eq_true hlt
   have k0 := Aside0.mk h0
   have k1 := Aside0.mk hlt
   replace h0 := eq_true h0
   replace hlt := eq_true hlt
   clear hr hc
   cases hpx : p (rd l x) with
   | true =>
    have HF := Aside0.mk (findTo_at HA.out k0.out k1.out hpx)
    have HPX := Aside0.mk hpx
    clear hpx
    go_wp2_with (refine ((HP.out _).mono ?_); rintro e w' ⟨rfl, rfl⟩; rw [HPX.out])
    go_ret
    exact ⟨by rw [HF.out]; rfl, rfl⟩
   | false =>
    have HF := Aside0.mk (NoneTo.succ HA.out k0.out hpx)
    have HPX := Aside0.mk hpx
    clear hpx
    go_wp2_with (refine ((HP.out _).mono ?_); rintro e w' ⟨rfl, rfl⟩; rw [HPX.out])
    go_round
    case rel => exact ⟨x + 1, by have := k0.out; omega, by have := k1.out; omega, by rw [wrap_in k0.out k1.out hm], HF⟩
    case measure => have := k0.out; have := k1.out; rw [wrap_in k0.out k1.out hm]; simp [intOf]; omega
  ·have HF := Aside0.mk (findTo_none HA.out (by omega))
   go_wp2
   go_ret
   exact ⟨by rw [HF.out]; rfl, rfl⟩

set_option maxHeartbeats 400000 in
theorem contains1_calls (F : Nat) (caps : Array Value) (p : Int → Bool) (A : Option Addr) (c : Nat) (l : List Int) (w : World)
  (hr : Kd.C (Kd.int .i64) w A l.length l) (hc : l.length ≤ c)
  (hcall : ∀ a w, Sem.run Try.prog (callFunc F a) w = .ok (.enter F a) w)
  (hp : ∀ x, Calls Try.prog F (#[.int .i64 x] ++ caps) w fun e w' => e = .returned (.bool (p x)) ∧ w = w') :
  Calls Try.prog 55 #[.slice A l.length c, .func (.func F) #[] caps] w fun e w' => e = .returned (.bool (l.any p)) ∧ w = w' := by
 have HC := Aside0.mk (index1_calls F caps p A c l w hr hc hcall hp)
 clear hp hcall hr hc
 go_enter Try.func55, Try.ntmps55
 go_wp2_with (refine (HC.out.mono ?_); rintro e w' ⟨rfl, rfl⟩)
 go_ret
 exact ⟨by rw [← findTo_any]; rfl, rfl⟩

theorem call56 (a : Array Value) (w : World) : Sem.run Try.prog (callFunc 56 a) w = .ok (.enter 56 a) w := by
 go_simp
def maze_fits.f (l0 : List Int) (a1 : Int) : Option Bool := some (decide (l0.length ≤ 40000) && inB a1 l0)
set_option maxHeartbeats 400000 in
theorem maze_fits.calls (A0 : Option Addr) (c0 : Nat) (l0 : List Int) (a1 : Int) (r : Bool) (w : World) (hr0 : Kd.C (Kd.int .i64) w A0 l0.length l0) (hc0 : l0.length ≤ c0) (h : maze_fits.f l0 a1 = some r) :
  Calls Try.prog 41 #[.slice A0 l0.length c0, .int .i64 a1] w fun e w' => e = .returned (.bool r) ∧ Below w.heap.size w w' := by
 obtain rfl := Option.some.inj h
 have hB := below_alloc (Below.refl w.heap.size w) (.cells #[.int .i64 a1] 3)
 have HC := Aside0.mk (contains1_calls 56 #[.pointer (some ⟨w.heap.size, 0, none⟩)] (outB a1) A0 c0 l0 (w.alloc (.cells #[.int .i64 a1] 3)) (Kd.C_below hr0 hB) hc0 call56
  (fun x => within1_calls x a1 w.heap.size _ (by simp)))
 have hm := hr0.2.1
 have HB := Aside0.mk hB
 clear hB hr0 h
 by_cases hl : l0.length ≤ 40000
 ·have h1 : decide ((l0.length : Int) ≤ 40000) = true := decide_eq_true (by omega)
  rw [decide_eq_true hl, Bool.true_and]
  clear hl
  go_enter Try.func41, Try.ntmps41
  go_wp2_with (refine (HC.out.mono ?_); rintro e w' ⟨rfl, rfl⟩)
  go_ret
  exact ⟨by rw [inB_eq]; rfl, HB.out⟩
 ·have h1 : decide ((l0.length : Int) ≤ 40000) = false := decide_eq_false (by omega)
  rw [decide_eq_false hl, Bool.false_and]
  clear hl
  go_enter Try.func41, Try.ntmps41
  go_wp2
  go_ret
  exact ⟨rfl, HB.out⟩
end Go.Proofs.Ytgbjbgdnldklpaa.Q
end
/-! Part XMValid -/
section
namespace Go.Proofs.Ytgbjbgdnldklpaa.Q
open Go.RowKit Go.Proofs.YtgbjbgdnldklpaaW.PrintWords Go.Proofs.YtgbjbgdnldklpaaW.PrintLast Go.Proofs.YtgbjbgdnldklpaaW.PrintMore
attribute [local go_sem high] eqA44
set_option linter.unusedVariables false
set_option linter.unusedSimpArgs false
/-! ### maze.Valid -/
def lenB (k : Int) (row : List S44) : Bool := (row.length : Int) != k
set_option maxHeartbeats 400000 in
theorem mvalid1_calls (k : Int) (K : Nat) (A : Option Addr) (c : Nat) (row : List S44) (w : World) (hk : w.cell? ⟨K, 0, none⟩ = some (.int .i64 k)) :
  Calls Try.prog 44 #[.slice A row.length c, .pointer (some ⟨K, 0, none⟩)] w fun e w' => e = .returned (.bool (lenB k row)) ∧ w = w' := by
 go_enter Try.func44, Try.ntmps44
 go_wp2
 go_ret
 exact ⟨rfl, rfl⟩
set_option maxRecDepth 100000 in
set_option maxHeartbeats 400000 in
theorem index3_calls (F : Nat) (caps : Array Value) (p : List S44 → Bool) (A : Option Addr) (c : Nat) (l : List (List S44)) (w : World)
  (hr : Kd.C (Kd.slice 44 k44) w A l.length l) (hc : l.length ≤ c)
  (hcall : ∀ a w, Sem.run Try.prog (callFunc F a) w = .ok (.enter F a) w)
  (hp : ∀ A c row, Calls Try.prog F (#[.slice A (row : List S44).length c] ++ caps) w fun e w' => e = .returned (.bool (p row)) ∧ w = w') :
  Calls Try.prog 57 #[.slice A l.length c, .func (.func F) #[] caps] w fun e w' => e = .returned (.int .i64 (findTo p l)) ∧ w = w' := by
 have hm : l.length ≤ 9223372036854775807 := hr.2.1
 have HP := Aside0.mk hp
 clear hp
 go_enter Try.func57, Try.ntmps57
 go_wp2
 go_loop [8] (fun i => ∃ x : Int, 0 ≤ x ∧ x ≤ l.length ∧ i = .int .i64 x ∧ Aside0 (NoneTo p l [] x)) (fun i => l.length - (intOf i).toNat)
 case atStart => exact ⟨0, by omega, by omega, rfl, ⟨NoneTo.zero _ _ _⟩⟩
 case round =>
  obtain ⟨x, h0, h1, rfl, HA⟩ := hrel
  by_cases hlt : x < l.length
  ·obtain ⟨ad, A0, c0, e, hx, hl0, hg0⟩ := at_L4 hr x h0 hlt
   cases e
   have c3 : decide (x < (l.length : Int)) = true := decide_eq_true hlt
   have k0 := Aside0.mk h0
   have k1 := Aside0.mk hlt
   replace h0 := eq_true h0
   replace hlt := eq_true hlt
   clear hr hc hl0 hg0
   cases hpx : p (rd_L4 l x) with
   | true =>
    have HF := Aside0.mk (findTo_at HA.out k0.out k1.out hpx)
    have HPX := Aside0.mk hpx
    clear hpx
    go_wp2_with (refine ((HP.out _ _ _).mono ?_); rintro e w' ⟨rfl, rfl⟩; rw [HPX.out])
    go_ret
    exact ⟨by rw [HF.out]; rfl, rfl⟩
   | false =>
    have HF := Aside0.mk (NoneTo.succ HA.out k0.out hpx)
    have HPX := Aside0.mk hpx
    clear hpx
    go_wp2_with (refine ((HP.out _ _ _).mono ?_); rintro e w' ⟨rfl, rfl⟩; rw [HPX.out])
    go_round
    case rel => exact ⟨x + 1, by have := k0.out; omega, by have := k1.out; omega, by rw [wrap_in k0.out k1.out hm], HF⟩
    case measure => have := k0.out; have := k1.out; rw [wrap_in k0.out k1.out hm]; simp [intOf]; omega
  ·have HF := Aside0.mk (findTo_none HA.out (by omega))
   go_wp2
   go_ret
   exact ⟨by rw [HF.out]; rfl, rfl⟩
set_option maxHeartbeats 400000 in
theorem contains3_calls (F : Nat) (caps : Array Value) (p : List S44 → Bool) (A : Option Addr) (c : Nat) (l : List (List S44)) (w : World)
  (hr : Kd.C (Kd.slice 44 k44) w A l.length l) (hc : l.length ≤ c)
  (hcall : ∀ a w, Sem.run Try.prog (callFunc F a) w = .ok (.enter F a) w)
  (hp : ∀ A c row, Calls Try.prog F (#[.slice A (row : List S44).length c] ++ caps) w fun e w' => e = .returned (.bool (p row)) ∧ w = w') :
  Calls Try.prog 43 #[.slice A l.length c, .func (.func F) #[] caps] w fun e w' => e = .returned (.bool (l.any p)) ∧ w = w' := by
 have HC := Aside0.mk (index3_calls F caps p A c l w hr hc hcall hp)
 clear hp hcall hr hc
 go_enter Try.func43, Try.ntmps43
 go_wp2_with (refine (HC.out.mono ?_); rintro e w' ⟨rfl, rfl⟩)
 go_ret
 exact ⟨by rw [← findTo_any]; rfl, rfl⟩
theorem call44 (a : Array Value) (w : World) : Sem.run Try.prog (callFunc 44 a) w = .ok (.enter 44 a) w := by
 go_simp
def okDoor (l : List (List S44)) (k r d : Int) : Bool :=
 decide (0 ≤ (rd_T44 (rd_L4 l r) d).f0 ∧ (rd_T44 (rd_L4 l r) d).f0 < l.length ∧ 0 ≤ (rd_T44 (rd_L4 l r) d).f1 ∧ (rd_T44 (rd_L4 l r) d).f1 < k) &&
  ((rd_T44 (rd_L4 l (rd_T44 (rd_L4 l r) d).f0) (rd_T44 (rd_L4 l r) d).f1).f0 == r && (rd_T44 (rd_L4 l (rd_T44 (rd_L4 l r) d).f0) (rd_T44 (rd_L4 l r) d).f1).f1 == d)
def kOfM (l : List (List S44)) : Int := (rd_L4 l 0).length
def okRow (l : List (List S44)) (r : Nat) : Bool := (List.range (kOfM l).toNat).all fun d => okDoor l (kOfM l) r d
def mvB (l : List (List S44)) : Bool := decide (1 ≤ l.length ∧ l.length ≤ 60 ∧ 1 ≤ kOfM l ∧ kOfM l ≤ 6) && !l.any (lenB (kOfM l)) && (List.range l.length).all (okRow l)
def maze_Valid.f (l0_0 : List (List S44)) : Option Bool := some (mvB l0_0)
theorem okDoor_at {l : List (List S44)} {r d : Nat} (hr : r < l.length) (hd : (d : Int) < kOfM l) (h : (List.range l.length).all (okRow l) = true) : okDoor l (kOfM l) r d = true := by
 rw [List.all_eq_true] at h
 have h1 := h r (List.mem_range.2 hr)
 unfold okRow at h1
 rw [List.all_eq_true] at h1
 exact h1 d (List.mem_range.2 (by omega))
theorem mvB_no {l : List (List S44)} {x y : Int} (hx0 : 0 ≤ x) (hx : x < l.length) (hy0 : 0 ≤ y) (hy : y < kOfM l) (h : okDoor l (kOfM l) x y = false) : mvB l = false := by
 cases hb : mvB l with
 | false => rfl
 | true =>
  unfold mvB at hb
  rw [Bool.and_eq_true] at hb
  obtain ⟨r, rfl⟩ := Int.eq_ofNat_of_zero_le hx0
  obtain ⟨d, rfl⟩ := Int.eq_ofNat_of_zero_le hy0
  rw [okDoor_at (by omega) hy hb.2] at h
  cases h
def RowsOkTo (l : List (List S44)) (x : Int) : Prop := ∀ r : Nat, (r : Int) < x → okRow l r = true
def DoorsOkTo (l : List (List S44)) (x y : Int) : Prop := ∀ d : Nat, (d : Int) < y → okDoor l (kOfM l) x d = true
theorem DoorsOkTo.succ {l : List (List S44)} {x y : Int} (h : DoorsOkTo l x y) (h0 : 0 ≤ y) (hp : okDoor l (kOfM l) x y = true) : DoorsOkTo l x (y + 1) := fun d hd => by
 by_cases e : (d : Int) = y
 ·rw [e]; exact hp
 ·exact h d (by omega)
theorem RowsOkTo.succ {l : List (List S44)} {x : Int} (h : RowsOkTo l x) (h0 : 0 ≤ x) (hp : DoorsOkTo l x (kOfM l)) : RowsOkTo l (x + 1) := fun r hr => by
 by_cases e : (r : Int) = x
 ·unfold okRow
  rw [List.all_eq_true]
  intro d hd
  have := hp d (by have := List.mem_range.1 hd; have h1 : 0 ≤ kOfM l := Int.natCast_nonneg _; omega)
  rw [e]; exact this
 ·exact h r (by omega)
set_option maxRecDepth 100000 in
set_option maxHeartbeats 1000000 in
theorem maze_Valid.calls (A0_0 : Option Addr) (c0_0 : Nat) (l0_0 : List (List S44)) (r : Bool) (w : World) (hr0_0 : Kd.C (Kd.slice 44 k44) w A0_0 l0_0.length l0_0) (hc0_0 : l0_0.length ≤ c0_0) (h : maze_Valid.f l0_0 = some r) :
  Calls Try.prog 24 #[.agg #[.slice A0_0 l0_0.length c0_0]] w fun e w' => e = .returned (.bool r) ∧ Below w.heap.size w w' := by
 obtain rfl := Option.some.inj h
 clear h
 have hm : l0_0.length ≤ 9223372036854775807 := hr0_0.2.1
 by_cases h1 : l0_0.length < 1
 ·have h1' : decide ((l0_0.length : Int) < 1) = true := decide_eq_true (by omega)
  have HV : mvB l0_0 = false := by unfold mvB; rw [decide_eq_false (by omega)]; rfl
  rw [HV]
  clear h1 HV hr0_0 hc0_0
  go_enter Try.func24, Try.ntmps24
  go_wp2
  go_ret
  exact ⟨rfl, by repeat (first | exact Below.refl _ _ | apply below_alloc)⟩
 by_cases h2 : 60 < l0_0.length
 ·have h1' : decide ((l0_0.length : Int) < 1) = false := decide_eq_false (by omega)
  have h2' : decide (60 < (l0_0.length : Int)) = true := decide_eq_true (by omega)
  have HV : mvB l0_0 = false := by unfold mvB; rw [decide_eq_false (by omega)]; rfl
  rw [HV]
  clear h1 h2 HV hr0_0 hc0_0
  go_enter Try.func24, Try.ntmps24
  go_wp2
  go_ret
  exact ⟨rfl, by repeat (first | exact Below.refl _ _ | apply below_alloc)⟩
 obtain ⟨ad, A0, c0, e, hx, hl0, hg0⟩ := at_L4 hr0_0 0 (by omega) (by omega)
 cases e
 have h1' : decide ((l0_0.length : Int) < 1) = false := decide_eq_false (by omega)
 have h2' : decide (60 < (l0_0.length : Int)) = false := decide_eq_false (by omega)
 have hpos : 0 < l0_0.length := by omega
 have hx' : w.cell? ad = some (.slice A0 (rd_L4 l0_0 0).length c0) := (by simpa [Addr.add] using hx)
 clear hx
 obtain ⟨kk, hkk⟩ : ∃ kk, kk = (rd_L4 l0_0 0).length := ⟨_, rfl⟩
 have hkm : kk ≤ 9223372036854775807 := hkk ▸ hg0.2.1
 rw [← hkk] at hx' hl0
 have hx'' : (w.alloc (.cells #[.slice (some ad) l0_0.length c0_0] 38)).cell? ad = some (.slice A0 kk c0) := pw_cell_below (below_alloc (Below.refl _ _) _) hx'
 have HKK : Aside0 (kOfM l0_0 = (kk : Int)) := ⟨by rw [hkk]; rfl⟩
 clear hkk hg0 hl0
 have HR := Aside0.mk hr0_0
 have HH1 := Aside0.mk h1
 have HH2 := Aside0.mk h2
 clear hr0_0
 by_cases k1 : 1 ≤ (kk : Int)
 ·by_cases k2 : (kk : Int) ≤ 6
  ·have k1' : decide (1 ≤ (kk : Int)) = true := decide_eq_true k1
   have k2' : decide ((kk : Int) ≤ 6) = true := decide_eq_true k2
   have k1'' : decide ((kk : Int) < 1) = false := decide_eq_false (by omega)
   have k2'' : decide (6 < (kk : Int)) = false := decide_eq_false (by omega)
   have HK1 := Aside0.mk k1
   have HK2 := Aside0.mk k2
   have hB := Aside0.mk (below_alloc (below_alloc (Below.refl w.heap.size w) (.cells #[.slice (some ad) l0_0.length c0_0] 38)) (.cells #[.int .i64 (kk : Int)] 3))
   have HC := Aside0.mk (contains3_calls 44 #[.pointer (some ⟨w.heap.size + 1, 0, none⟩)] (lenB (kk : Int)) (some ad) c0_0 l0_0
    ((w.alloc (.cells #[.slice (some ad) l0_0.length c0_0] 38)).alloc (.cells #[.int .i64 (kk : Int)] 3)) (Kd.C_below HR.out hB.out) hc0_0 call44
    (fun A c row => mvalid1_calls (kk : Int) (w.heap.size + 1) A c row _ (by simp)))
   clear h1 h2 k1 k2 hc0_0
   cases hany : l0_0.any (lenB (kk : Int)) with
   | true =>
    have HV : mvB l0_0 = false := by unfold mvB; rw [HKK.out, hany]; simp
    have HA := Aside0.mk hany
    rw [HV]
    clear HV hany
    go_enter Try.func24, Try.ntmps24
    go_wp2_with (refine (HC.out.mono ?_); rintro e w' ⟨rfl, rfl⟩; rw [HA.out])
    go_ret
    exact ⟨rfl, hB.out⟩
   | false =>
    have HA := Aside0.mk hany
    have HV : Aside0 (mvB l0_0 = (List.range l0_0.length).all (okRow l0_0)) := ⟨by
     have := HH1.out; have := HH2.out; have := HK1.out; have := HK2.out
     unfold mvB; rw [HKK.out, hany, decide_eq_true (by omega)]; rfl⟩
    have hlen : ∀ x : Int, 0 ≤ x → x < l0_0.length → (rd_L4 l0_0 x).length = kk := fun x h0 h1 => by
     rw [List.any_eq_false] at hany
     have hm : rd_L4 l0_0 x ∈ l0_0 := by
      unfold rd_L4
      rw [List.getD_eq_getElem?_getD, List.getElem?_eq_getElem (by omega)]
      exact List.getElem_mem _
     have := hany _ hm
     unfold lenB at this
     simp at this
     omega
    have HLN := Aside0.mk hlen
    clear hany hlen
    go_enter Try.func24, Try.ntmps24
    go_wp2_with (refine (HC.out.mono ?_); rintro e w' ⟨rfl, rfl⟩; rw [HA.out])
    obtain ⟨B, hB0⟩ : ∃ B, w.heap.size = B := ⟨_, rfl⟩
    have hBx : ((w.alloc (.cells #[.slice (some ad) l0_0.length c0_0] 38)).alloc (.cells #[.int .i64 (kk : Int)] 3)).heap[B]? = some (.cells #[.slice (some ad) l0_0.length c0_0] 38 (0, 0)) := by rw [← hB0]; exact blk_alloc (blk_new _ _) _
    have hKx : ((w.alloc (.cells #[.slice (some ad) l0_0.length c0_0] 38)).alloc (.cells #[.int .i64 (kk : Int)] 3)).heap[B + 1]? = some (.cells #[.int .i64 (kk : Int)] 3 (0, 0)) := by
     have := blk_new (w.alloc (.cells #[.slice (some ad) l0_0.length c0_0] 38)) (.cells #[.int .i64 (kk : Int)] 3)
     rwa [World.size_alloc, hB0] at this
    have HBx := Aside0.mk hBx
    have HKx := Aside0.mk hKx
    have HBw : Aside0 (w.heap.size ≤ ((w.alloc (.cells #[.slice (some ad) l0_0.length c0_0] 38)).alloc (.cells #[.int .i64 (kk : Int)] 3)).heap.size) := ⟨hB.out.size⟩
    have HB1 : Aside0 (Below w.heap.size w ((w.alloc (.cells #[.slice (some ad) l0_0.length c0_0] 38)).alloc (.cells #[.int .i64 (kk : Int)] 3))) := hB
    rw [hB0]
    clear hBx hKx HC hB hx' hx''
    generalize (w.alloc (.cells #[.slice (some ad) l0_0.length c0_0] 38)).alloc (.cells #[.int .i64 (kk : Int)] 3) = W0 at HBx HKx HB1 HBw ⊢
    have HB0 := Aside0.mk hB0
    clear hB0
    go_loopw [38] (fun i wr => ∃ x : Int, 0 ≤ x ∧ x ≤ l0_0.length ∧ i = .int .i64 x ∧ Aside0 (RowsOkTo l0_0 x) ∧ Aside0 (Below W0.heap.size W0 wr)) (fun i _ => l0_0.length - (intOf i).toNat)
    case atStart => exact ⟨0, by omega, by omega, rfl, ⟨fun r hr => by omega⟩, ⟨Below.refl _ _⟩⟩
    case round =>
     obtain ⟨x, h0, h1, rfl, HRO, HBr⟩ := hrel
     rename World => W1
     by_cases hlt : x < l0_0.length
     ·have HCr : Kd.C (Kd.slice 44 k44) W1 (some ad) l0_0.length l0_0 := Kd.C_below (Kd.C_below HR.out HB1.out) HBr.out
      obtain ⟨ad', A1, c1, e, hx, hl1, hg1⟩ := at_L4 HCr x h0 hlt
      cases e
      have HX1 := Aside0.mk (HLN.out x h0 hlt)
      rw [HX1.out] at hx hl1 hg1
      have HG1 := Aside0.mk hg1
      have Q0 := Aside0.mk h0
      have Q1 := Aside0.mk hlt
      have c3 : decide (x < (l0_0.length : Int)) = true := decide_eq_true hlt
      have hlen := HX1.out
      replace h0 := eq_true h0
      replace hlt := eq_true hlt
      clear hg1 hl1 h1 HCr hlen
      go_wp2_with fail
      go_loopw [45] (fun j wq => ∃ y : Int, 0 ≤ y ∧ y ≤ kk ∧ j = .int .i64 y ∧ Aside0 (DoorsOkTo l0_0 x y) ∧ Aside0 (Below W1.heap.size W1 wq)) (fun j _ => kk - (intOf j).toNat)
      case atStart => exact ⟨0, by omega, by omega, rfl, ⟨fun d hd => by omega⟩, ⟨Below.refl _ _⟩⟩
      case round =>
       clear hx c3
       obtain ⟨y, y0, y1, rfl, HDO, HBq⟩ := hrel
       rename World => wq
       by_cases ylt : y < (kk : Int)
       ·obtain ⟨ad1, e, hd0, hd1⟩ := at_T44 (Kd.C_below HG1.out HBq.out) y y0 ylt
        cases e
        have c4 : decide (y < (kk : Int)) = true := decide_eq_true ylt
        have Q3 := Aside0.mk y0
        have Q4 := Aside0.mk ylt
        replace y0 := eq_true y0
        replace ylt := eq_true ylt
        obtain ⟨b, hb⟩ : ∃ b, rd_T44 (rd_L4 l0_0 x) y = b := ⟨_, rfl⟩
        rw [hb] at hd0 hd1
        obtain ⟨f0, f1⟩ := b
        simp only at hd0 hd1
        have hBa := below_alloc (Below.refl wq.heap.size wq) (.cells #[.int .i64 f0, .int .i64 f1] 44)
        have hcb : (wq.alloc (.cells #[.int .i64 f0, .int .i64 f1] 44)).cell? ⟨B, 0, none⟩ = some (.slice (some ad) l0_0.length c0_0) := (blk_cell (blk_below (blk_below (blk_below HBx.out HBr.out) HBq.out) hBa) 0).trans rfl
        have hck : (wq.alloc (.cells #[.int .i64 f0, .int .i64 f1] 44)).cell? ⟨B + 1, 0, none⟩ = some (.int .i64 (kk : Int)) := (blk_cell (blk_below (blk_below (blk_below HKx.out HBr.out) HBq.out) hBa) 0).trans rfl
        have HBf : Aside0 (∀ n, Below w.heap.size w ((wq.alloc (.cells #[.int .i64 f0, .int .i64 f1] 44)).drewN n)) := ⟨fun n => pw_below_drewN (below_step (below_step (below_step HB1.out HBr.out) HBq.out) hBa) n⟩
        have HBn : Aside0 (Below W1.heap.size W1 (wq.alloc (.cells #[.int .i64 f0, .int .i64 f1] 44))) := ⟨below_step HBq.out hBa⟩
        have HCf : Aside0 (Kd.C (Kd.slice 44 k44) (wq.alloc (.cells #[.int .i64 f0, .int .i64 f1] 44)) (some ad) l0_0.length l0_0) := ⟨Kd.C_below (Kd.C_below (Kd.C_below (Kd.C_below HR.out HB1.out) HBr.out) HBq.out) hBa⟩
        clear hBa
        by_cases g1 : f0 < 0
        ·have HV2 : mvB l0_0 = false := mvB_no Q0.out Q1.out Q3.out (by rw [HKK.out]; exact Q4.out) (by unfold okDoor; rw [hb]; simp only; rw [decide_eq_false (by rw [HKK.out]; omega)]; rfl)
         have HV3 := Aside0.mk HV2
         have e1 : decide (f0 < 0) = true := decide_eq_true g1
         clear HV2 hb HCf g1
         go_wp2_with fail
         go_quiet (fail)
         go_wp2_with fail
         go_ret
         exact ⟨by rw [HV3.out]; rfl, HBf.out nq⟩
        ·by_cases g2 : (l0_0.length : Int) ≤ f0
         ·have HV2 : mvB l0_0 = false := mvB_no Q0.out Q1.out Q3.out (by rw [HKK.out]; exact Q4.out) (by unfold okDoor; rw [hb]; simp only; rw [decide_eq_false (by rw [HKK.out]; omega)]; rfl)
          have HV3 := Aside0.mk HV2
          have e1 : decide (f0 < 0) = false := decide_eq_false g1
          have e2 : decide ((l0_0.length : Int) ≤ f0) = true := decide_eq_true g2
          clear HV2 hb HCf g1 g2
          go_wp2_with fail
          go_quiet (fail)
          go_wp2_with fail
          go_ret
          exact ⟨by rw [HV3.out]; rfl, HBf.out nq⟩
         ·by_cases g3 : f1 < 0
          ·have HV2 : mvB l0_0 = false := mvB_no Q0.out Q1.out Q3.out (by rw [HKK.out]; exact Q4.out) (by unfold okDoor; rw [hb]; simp only; rw [decide_eq_false (by rw [HKK.out]; omega)]; rfl)
           have HV3 := Aside0.mk HV2
           have e1 : decide (f0 < 0) = false := decide_eq_false g1
           have e2 : decide ((l0_0.length : Int) ≤ f0) = false := decide_eq_false g2
           have e3 : decide (f1 < 0) = true := decide_eq_true g3
           clear HV2 hb HCf g1 g2 g3
           go_wp2_with fail
           go_quiet (fail)
           go_wp2_with fail
           go_ret
           exact ⟨by rw [HV3.out]; rfl, HBf.out nq⟩
          ·by_cases g4 : (kk : Int) ≤ f1
           ·have HV2 : mvB l0_0 = false := mvB_no Q0.out Q1.out Q3.out (by rw [HKK.out]; exact Q4.out) (by unfold okDoor; rw [hb]; simp only; rw [decide_eq_false (by rw [HKK.out]; omega)]; rfl)
            have HV3 := Aside0.mk HV2
            have e1 : decide (f0 < 0) = false := decide_eq_false g1
            have e2 : decide ((l0_0.length : Int) ≤ f0) = false := decide_eq_false g2
            have e3 : decide (f1 < 0) = false := decide_eq_false g3
            have e4 : decide ((kk : Int) ≤ f1) = true := decide_eq_true g4
            clear HV2 hb HCf g1 g2 g3 g4
            go_wp2_with fail
            go_quiet (fail)
            go_wp2_with fail
            go_ret
            exact ⟨by rw [HV3.out]; rfl, HBf.out nq⟩
           ·obtain ⟨ad', A2, c2, e, hx2, hl2, hg2⟩ := at_L4 HCf.out f0 (by omega) (by omega)
            cases e
            have hl3 := HLN.out f0 (by omega) (by omega)
            rw [hl3] at hx2 hl2 hg2
            obtain ⟨ad2, e, hz0, hz1⟩ := at_T44 hg2 f1 (by omega) (by omega)
            cases e
            obtain ⟨bb, hbb⟩ : ∃ bb, rd_T44 (rd_L4 l0_0 f0) f1 = bb := ⟨_, rfl⟩
            rw [hbb] at hz0 hz1
            obtain ⟨v0, v1⟩ := bb
            simp only at hz0 hz1
            have e1 : decide (f0 < 0) = false := decide_eq_false g1
            have e2 : decide ((l0_0.length : Int) ≤ f0) = false := decide_eq_false g2
            have e3 : decide (f1 < 0) = false := decide_eq_false g3
            have e4 : decide ((kk : Int) ≤ f1) = false := decide_eq_false g4
            have p1 : (0 ≤ f0) = True := eq_true (by omega)
            have p2 : (f0 < (l0_0.length : Int)) = True := eq_true (by omega)
            have p3 : (0 ≤ f1) = True := eq_true (by omega)
            have p4 : (f1 < (kk : Int)) = True := eq_true (by omega)
            have hok : okDoor l0_0 (kOfM l0_0) x y = (v0 == x && v1 == y) := by
             unfold okDoor
             rw [hb]
             simp only [hbb]
             rw [decide_eq_true (by rw [HKK.out]; omega), Bool.true_and]
            have HOK := Aside0.mk hok
            clear hok hb hbb hg2 hl2 hl3 g1 g2 g3 g4
            cases t0 : (v0 == x) with
            | true =>
             cases t1 : (v1 == y) with
             | true =>
              have HDO2 := Aside0.mk (HDO.out.succ Q3.out (HOK.out.trans (by rw [t0, t1]; rfl)))
              go_wp2_with fail
              go_quiet (fail)
              go_wp2_with fail
              go_roundw
              case rel => exact ⟨y + 1, by have := Q3.out; omega, by have := Q4.out; omega, by rw [wrap_in Q3.out Q4.out hkm], HDO2, ⟨pw_below_drewN HBn.out nq⟩⟩
              case measure => have := Q3.out; have := Q4.out; rw [wrap_in Q3.out Q4.out hkm]; simp [intOf]; omega
             | false =>
              have HV3 := Aside0.mk (mvB_no Q0.out Q1.out Q3.out (by rw [HKK.out]; exact Q4.out) (HOK.out.trans (by rw [t0, t1]; rfl)))
              go_wp2_with fail
              go_quiet (fail)
              go_wp2_with fail
              go_ret
              exact ⟨by rw [HV3.out]; rfl, HBf.out nq⟩
            | false =>
             have HV3 := Aside0.mk (mvB_no Q0.out Q1.out Q3.out (by rw [HKK.out]; exact Q4.out) (HOK.out.trans (by rw [t0]; rfl)))
             go_wp2_with fail
             go_quiet (fail)
             go_wp2_with fail
             go_ret
             exact ⟨by rw [HV3.out]; rfl, HBf.out nq⟩
       ·have HDE : Aside0 (DoorsOkTo l0_0 x (kOfM l0_0)) := ⟨fun d hd => HDO.out d (by rw [HKK.out] at hd; omega)⟩
        go_wp2
        go_roundw
        case rel => exact ⟨x + 1, by have := Q0.out; omega, by have := Q1.out; omega, by rw [wrap_in Q0.out Q1.out hm], ⟨HRO.out.succ Q0.out HDE.out⟩, ⟨below_step HBr.out HBq.out⟩⟩
        case measure => have := Q0.out; have := Q1.out; rw [wrap_in Q0.out Q1.out hm]; simp [intOf]; omega
     ·have HV2 : mvB l0_0 = true := by
       rw [HV.out, List.all_eq_true]
       intro r hr
       exact HRO.out r (by have := List.mem_range.1 hr; omega)
      have HV3 := Aside0.mk HV2
      clear HV2
      go_wp2
      go_ret
      exact ⟨by rw [HV3.out]; rfl, below_step HB1.out HBr.out⟩
  ·have k1' : decide ((kk : Int) < 1) = false := decide_eq_false (by omega)
   have k2' : decide (6 < (kk : Int)) = true := decide_eq_true (by omega)
   have HV : mvB l0_0 = false := by unfold mvB; rw [HKK.out, decide_eq_false (by omega)]; rfl
   rw [HV]
   clear h1 h2 k1 k2 HV hc0_0
   go_enter Try.func24, Try.ntmps24
   go_wp2
   go_ret
   exact ⟨rfl, by repeat (first | exact Below.refl _ _ | apply below_alloc)⟩
 ·have k1' : decide ((kk : Int) < 1) = true := decide_eq_true (by omega)
  have HV : mvB l0_0 = false := by unfold mvB; rw [HKK.out, decide_eq_false (by omega)]; rfl
  rw [HV]
  clear h1 h2 k1 HV hc0_0
  go_enter Try.func24, Try.ntmps24
  go_wp2
  go_ret
  exact ⟨rfl, by repeat (first | exact Below.refl _ _ | apply below_alloc)⟩
end Go.Proofs.Ytgbjbgdnldklpaa.Q
end
/-! Part QMazeWalk -/
section
-- Written by xprint.py, a program of this session's, over the kit's print. Lean checks it.
namespace Go.Proofs.Ytgbjbgdnldklpaa.Q
open Go.RowKit Go.Proofs.YtgbjbgdnldklpaaW.PrintWords Go.Proofs.YtgbjbgdnldklpaaW.PrintLast Go.Proofs.YtgbjbgdnldklpaaW.PrintMore
attribute [local go_sem] max2_int min2_int max_two min_two max_three min_three max_four min_four
set_option linter.unusedVariables false
set_option linter.unusedSimpArgs false

/-! ### maze_Walk: function 22 -/
def maze_Walk.l0 : Nat → Int → List Int → List Int → Int → Int → List (List (S44)) → Option (List Int × Int)
 | 0, _, _, _, _, _, _ => none
 | k + 1, x1, x8, x37, x38, x39, x198000 => if x39 < x38 then (if 0 ≤ x39 then (if x39 < (x37.length : Int) then (if 0 ≤ x1 then (if x1 < (x198000.length : Int) then (if 0 ≤ (rd x37 x39) then (if (rd x37 x39) < ((rd_L4 x198000 x1).length : Int) then (if x8.length < 17592186044416 then (maze_Walk.l0 k ((rd_T44 (rd_L4 x198000 x1) (rd x37 x39)).f0) (x8 ++ [(rd_T44 (rd_L4 x198000 x1) (rd x37 x39)).f0]) x37 x38 (wrap64 (x39 + 1)) x198000) else (none)) else (none)) else (none)) else (none)) else (none)) else (none)) else (none)) else (some (x8, 0))
def maze_Walk.f (k : Nat) (l0_0 : List (List (S44))) (a1 : Int) (l2 : List Int) : Option (List Int × Int) := (maze_Valid.f l0_0).bind fun t198 => (if t198 = true then (if a1 < 0 then (some (([] : List Int), 2)) else (if a1 ≥ (l0_0.length : Int) then (some (([] : List Int), 2)) else (if 0 < (l0_0.length : Int) then ((maze_fits.f l2 ((rd_L4 l0_0 0).length : Int)).bind fun t200 => (if t200 = true then (maze_Walk.l0 k a1 (([a1] : List Int)) l2 (l2.length : Int) 0 l0_0) else (some (([] : List Int), 2)))) else (none)))) else (some (([] : List Int), 1)))
theorem maze_Walk.mono_l : ∀ k, (∀ y0 y1 y2 y3 y4 y5, LeO (maze_Walk.l0 k y0 y1 y2 y3 y4 y5) (maze_Walk.l0 (k + 1) y0 y1 y2 y3 y4 y5))
 | 0 => fun _ _ _ _ _ _ r h => by simp [maze_Walk.l0] at h
 | k + 1 => by
  have ih0 := maze_Walk.mono_l k
  ·intro y0 y1 y2 y3 y4 y5
   unfold maze_Walk.l0
   repeat' first
   | (with_reducible exact ih0 _ _ _ _ _ _)
   | (with_reducible exact LeO.refl _)
   | (with_reducible exact LeO.none _)
   | (with_reducible refine LeO.ite ?_ ?_)
   | (with_reducible refine LeO.bind ?_ (fun _ => ?_))
   | exact ih0 _ _ _ _ _ _
   | exact LeO.none _
   | refine LeO.ite ?_ ?_
   | refine LeO.bind ?_ (fun _ => ?_)
theorem maze_Walk.mono : ∀ a0 a1 a2 k, LeO (maze_Walk.f k a0 a1 a2) (maze_Walk.f (k + 1) a0 a1 a2) := by
 intro a0 a1 a2 k
 have ih0 := maze_Walk.mono_l k
 unfold maze_Walk.f
 repeat' first
   | (with_reducible exact ih0 _ _ _ _ _ _)
   | (with_reducible exact LeO.refl _)
   | (with_reducible exact LeO.none _)
   | (with_reducible refine LeO.ite ?_ ?_)
   | (with_reducible refine LeO.bind ?_ (fun _ => ?_))
   | exact ih0 _ _ _ _ _ _
   | exact LeO.none _
   | refine LeO.ite ?_ ?_
   | refine LeO.bind ?_ (fun _ => ?_)
set_option maxHeartbeats 8000000 in
set_option maxRecDepth 100000 in
theorem maze_Walk.calls (k : Nat) (A0_0 : Option Addr) (c0_0 : Nat) (l0_0 : List (List (S44))) (a1 : Int) (A2 : Option Addr) (c2 : Nat) (l2 : List Int) (r1 : List Int) (r2 : Int) (w : World) (hr0_0 : Kd.C (Kd.slice 44 k44) w A0_0 l0_0.length l0_0) (hc0_0 : l0_0.length ≤ c0_0) (hr2 : Kd.C (Kd.int .i64) w A2 l2.length l2) (hc2 : l2.length ≤ c2) (h : maze_Walk.f k l0_0 a1 l2 = some (r1, r2)) :
  Calls Try.prog 22 #[.agg #[.slice A0_0 l0_0.length c0_0], .int .i64 a1, .slice A2 l2.length c2] w fun e w' => ∃ v0_ : Value, e = .returned (.tuple #[v0_, .int .i64 r2]) ∧ Kd.R (Kd.int .i64) 3 w' w.heap.size (fun _ => True) v0_ r1 ∧ Below w.heap.size w w' := by
 have hu38 := Try.underlying38
 have HR0_0 := Aside0.mk hr0_0
 have HC0_0 := Aside0.mk hc0_0
 clear hr0_0 hc0_0
 have HR2 := Aside0.mk hr2
 have HC2 := Aside0.mk hc2
 clear hr2 hc2
 have HB := Aside0.mk (Below.refl w.heap.size w)
 have H : ((maze_Valid.f l0_0).bind fun t198 => (if t198 = true then (if a1 < 0 then (some (([] : List Int), 2)) else (if a1 ≥ (l0_0.length : Int) then (some (([] : List Int), 2)) else (if 0 < (l0_0.length : Int) then ((maze_fits.f l2 ((rd_L4 l0_0 0).length : Int)).bind fun t200 => (if t200 = true then (maze_Walk.l0 k a1 (([a1] : List Int)) l2 (l2.length : Int) 0 l0_0) else (some (([] : List Int), 2)))) else (none)))) else (some (([] : List Int), 1)))) = some (r1, r2) := h
 clear h
 replace H := Option.bind_eq_some_iff.mp H
 obtain ⟨t198, A40, H⟩ := H
 replace H : (if t198 = true then (if a1 < 0 then (some (([] : List Int), 2)) else (if a1 ≥ (l0_0.length : Int) then (some (([] : List Int), 2)) else (if 0 < (l0_0.length : Int) then ((maze_fits.f l2 ((rd_L4 l0_0 0).length : Int)).bind fun t200 => (if t200 = true then (maze_Walk.l0 k a1 (([a1] : List Int)) l2 (l2.length : Int) 0 l0_0) else (some (([] : List Int), 2)))) else (none)))) else (some (([] : List Int), 1))) = some (r1, r2) := H
 have A4 := Aside0.mk A40
 clear A40
 by_cases c5 : t198 = true
 ·subst c5
  have H1 : (if a1 < 0 then (some (([] : List Int), 2)) else (if a1 ≥ (l0_0.length : Int) then (some (([] : List Int), 2)) else (if 0 < (l0_0.length : Int) then ((maze_fits.f l2 ((rd_L4 l0_0 0).length : Int)).bind fun t200 => (if t200 = true then (maze_Walk.l0 k a1 (([a1] : List Int)) l2 (l2.length : Int) 0 l0_0) else (some (([] : List Int), 2)))) else (none)))) = some (r1, r2) := by rw [if_pos rfl] at H; exact H
  clear H
  have H := H1
  clear H1
  by_cases c6 : a1 < 0
  ·rw [if_pos c6] at H
   have c6b0 : decide (a1 < 0) = true := decide_eq_true c6
   clear c6
   simp only [Option.some.injEq, Prod.mk.injEq] at H
   obtain ⟨rfl, rfl⟩ := H
   go_enter Try.func22, Try.ntmps22
   go_wp2_with (first | ((with_reducible refine gate_dst (N := 3) rfl ?_); (try (refine gate_guard (by rfl) ?_; dsimp only)); refine box_event ?hg (N := 3) ?hd (cs := #[.slice A0_0 l0_0.length c0_0]) (t := 38) ?hr ?_; (case hd => rfl); (case hg => rfl); (case hr => first | (go_simp; done) | (go_simp; rfl)); intro gb197 hg w7 hbox hb; have n0_ := Aside0.mk (below_step (by repeat (first | (with_reducible first | exact HB.out | apply below_alloc | apply pw_below_drewN | apply below_drew1) | exact HB.out)) hb); have n1_ := Aside0.mk (hbox); have n2_ := Aside0.mk ((by rw [hg]; exact (below_size (by repeat (first | (with_reducible first | exact HB.out | apply below_alloc | apply pw_below_drewN | apply below_drew1) | exact HB.out))) : w.heap.size ≤ gb197)); have n3_ := Aside0.mk ((by rw [hg]; exact (below_size (by repeat (first | (with_reducible first | exact HB.out | apply below_alloc | apply pw_below_drewN | apply below_drew1) | exact HB.out))) : w.heap.size ≤ gb197)); clear HB; have HB := n0_; have BK197 := n1_; have GW197 := n2_; have GE197 := n3_; clear n0_ n1_ n2_ n3_; clear hb hbox hg; have hcz8_0 : w7.cell? ⟨gb197, 0, none⟩ = some (.slice A0_0 l0_0.length c0_0) := (blk_cell BK197.out 0).trans rfl; have hfz8_0 := blk_frozen BK197.out 0) | ((with_reducible refine gate_callee (f := 24) rfl ?_); refine goesL_ (some 13) rfl rfl Try.func24 (by kernel_rfl) rfl #[.agg #[.slice A0_0 l0_0.length c0_0]] rfl (by (try simp only [List.map_toArray, List.map_cons, List.map_nil]); first | done | rfl | (simp only [List.length_drop, List.length_take]; rfl)) ?_; (with_reducible refine (maze_Valid.calls _ _ l0_0 true _ ?side1 ?side2 A4.out).mono ?_); (case side1 => repeat (first | exact (Kd.C_below HR0_0.out HB.out) | (with_reducible refine Kd.C_alloc ?_ _) | (with_reducible refine Kd.C_drewN ?_ _) | (with_reducible refine Kd.C_drew ?_))); (case side2 => exact HC0_0.out); rintro e w9 ⟨rfl, hb⟩; refine ⟨_, rfl, ?_⟩; have n0_ := Aside0.mk (blk_below (g := gb197) (o := .cells #[.slice A0_0 l0_0.length c0_0] 38 (0, 0)) (by (with_reducible repeat (first | refine blk_drewN ?_ _ | refine blk_drew ?_ | refine blk_alloc ?_ _)); exact BK197.out) hb); have n1_ := Aside0.mk (below_step (by repeat (first | (with_reducible first | exact HB.out | apply below_alloc | apply pw_below_drewN | apply below_drew1 | refine below_set ?_ GE197.out) | exact HB.out)) hb); clear BK197; clear HB; have BK197 := n0_; have HB := n1_; clear n0_ n1_; (try clear hb); (try clear hb2); (try clear hk); (try clear hi)))
   go_ret2
   exact ⟨_, by first | rfl | (simp [errW_none, errW_some] <;> rfl) | (simp [*, errW_none, errW_some] <;> rfl), by first | exact Kd.R_nil _ _ _ _ _ | exact Kd.N_nil _ _ _ _ _ | exact Kd.V_nil _ _ _ _ _ | exact Kd.Q_nil _ _ _ _ _ | exact Kd.S_nil _ _ _ _ _, by repeat (first | (with_reducible first | exact HB.out | apply below_alloc | apply pw_below_drewN | apply below_drew1 | refine below_set ?_ GE197.out) | exact HB.out)⟩
  ·rw [if_neg c6] at H
   have c6b0 : decide (a1 < 0) = false := decide_eq_false c6
   clear c6
   by_cases c10 : a1 ≥ (l0_0.length : Int)
   ·rw [if_pos c10] at H
    have c10b0 : decide ((l0_0.length : Int) ≤ a1) = true := decide_eq_true c10
    clear c10
    simp only [Option.some.injEq, Prod.mk.injEq] at H
    obtain ⟨rfl, rfl⟩ := H
    go_enter Try.func22, Try.ntmps22
    go_wp2_with (first | ((with_reducible refine gate_dst (N := 3) rfl ?_); (try (refine gate_guard (by rfl) ?_; dsimp only)); refine box_event ?hg (N := 3) ?hd (cs := #[.slice A0_0 l0_0.length c0_0]) (t := 38) ?hr ?_; (case hd => rfl); (case hg => rfl); (case hr => first | (go_simp; done) | (go_simp; rfl)); intro gb197 hg w11 hbox hb; have n0_ := Aside0.mk (below_step (by repeat (first | (with_reducible first | exact HB.out | apply below_alloc | apply pw_below_drewN | apply below_drew1) | exact HB.out)) hb); have n1_ := Aside0.mk (hbox); have n2_ := Aside0.mk ((by rw [hg]; exact (below_size (by repeat (first | (with_reducible first | exact HB.out | apply below_alloc | apply pw_below_drewN | apply below_drew1) | exact HB.out))) : w.heap.size ≤ gb197)); have n3_ := Aside0.mk ((by rw [hg]; exact (below_size (by repeat (first | (with_reducible first | exact HB.out | apply below_alloc | apply pw_below_drewN | apply below_drew1) | exact HB.out))) : w.heap.size ≤ gb197)); clear HB; have HB := n0_; have BK197 := n1_; have GW197 := n2_; have GE197 := n3_; clear n0_ n1_ n2_ n3_; clear hb hbox hg; have hcz12_0 : w11.cell? ⟨gb197, 0, none⟩ = some (.slice A0_0 l0_0.length c0_0) := (blk_cell BK197.out 0).trans rfl; have hfz12_0 := blk_frozen BK197.out 0) | ((with_reducible refine gate_callee (f := 24) rfl ?_); refine goesL_ (some 13) rfl rfl Try.func24 (by kernel_rfl) rfl #[.agg #[.slice A0_0 l0_0.length c0_0]] rfl (by (try simp only [List.map_toArray, List.map_cons, List.map_nil]); first | done | rfl | (simp only [List.length_drop, List.length_take]; rfl)) ?_; (with_reducible refine (maze_Valid.calls _ _ l0_0 true _ ?side1 ?side2 A4.out).mono ?_); (case side1 => repeat (first | exact (Kd.C_below HR0_0.out HB.out) | (with_reducible refine Kd.C_alloc ?_ _) | (with_reducible refine Kd.C_drewN ?_ _) | (with_reducible refine Kd.C_drew ?_))); (case side2 => exact HC0_0.out); rintro e w13 ⟨rfl, hb⟩; refine ⟨_, rfl, ?_⟩; have n0_ := Aside0.mk (blk_below (g := gb197) (o := .cells #[.slice A0_0 l0_0.length c0_0] 38 (0, 0)) (by (with_reducible repeat (first | refine blk_drewN ?_ _ | refine blk_drew ?_ | refine blk_alloc ?_ _)); exact BK197.out) hb); have n1_ := Aside0.mk (below_step (by repeat (first | (with_reducible first | exact HB.out | apply below_alloc | apply pw_below_drewN | apply below_drew1 | refine below_set ?_ GE197.out) | exact HB.out)) hb); clear BK197; clear HB; have BK197 := n0_; have HB := n1_; clear n0_ n1_; (try clear hb); (try clear hb2); (try clear hk); (try clear hi); have hcz14_0 : w13.cell? ⟨gb197, 0, none⟩ = some (.slice A0_0 l0_0.length c0_0) := (blk_cell BK197.out 0).trans rfl; have hfz14_0 := blk_frozen BK197.out 0))
    go_ret2
    exact ⟨_, by first | rfl | (simp [errW_none, errW_some] <;> rfl) | (simp [*, errW_none, errW_some] <;> rfl), by first | exact Kd.R_nil _ _ _ _ _ | exact Kd.N_nil _ _ _ _ _ | exact Kd.V_nil _ _ _ _ _ | exact Kd.Q_nil _ _ _ _ _ | exact Kd.S_nil _ _ _ _ _, by repeat (first | (with_reducible first | exact HB.out | apply below_alloc | apply pw_below_drewN | apply below_drew1 | refine below_set ?_ GE197.out) | exact HB.out)⟩
   ·rw [if_neg c10] at H
    have c10b0 : decide ((l0_0.length : Int) ≤ a1) = false := decide_eq_false c10
    clear c10
    by_cases c15 : 0 < (l0_0.length : Int)
    ·rw [if_pos c15] at H
     have c15b0 : decide (0 < (l0_0.length : Int)) = true := decide_eq_true c15
     have c15b1 : decide (0 < l0_0.length) = true := decide_eq_true (by omega)
     clear c15
     replace H := Option.bind_eq_some_iff.mp H
     obtain ⟨t200, A160, H⟩ := H
     replace H : (if t200 = true then (maze_Walk.l0 k a1 (([a1] : List Int)) l2 (l2.length : Int) 0 l0_0) else (some (([] : List Int), 2))) = some (r1, r2) := H
     have A16 := Aside0.mk A160
     clear A160
     by_cases c17 : t200 = true
     ·subst c17
      have H1 : (maze_Walk.l0 k a1 (([a1] : List Int)) l2 (l2.length : Int) 0 l0_0) = some (r1, r2) := by rw [if_pos rfl] at H; exact H
      clear H
      have H := H1
      clear H1
      obtain ⟨y201, hy201⟩ : ∃ y_ : List Int, y_ = (([a1] : List Int)) := ⟨_, rfl⟩
      replace H : (maze_Walk.l0 k a1 y201 l2 (l2.length : Int) 0 l0_0) = some (r1, r2) := by first | (rw [hy201]; with_reducible exact H) | (have H2_ := (Option.bind_some _ _).symm.trans H; rw [hy201]; with_reducible exact H2_) | (have H2_ := (Option.bind_some _ _).symm.trans H; with_reducible exact H2_) | with_reducible exact H | (rw [hy201]; exact H) | exact H
      have Ny201 := Aside0.mk hy201
      clear hy201
      have H' := Aside0.mk H
      clear H
      go_enter Try.func22, Try.ntmps22
      go_wp2_with (first | ((with_reducible refine gate_dst (N := 3) rfl ?_); (try (refine gate_guard (by rfl) ?_; dsimp only)); refine box_event ?hg (N := 3) ?hd (cs := #[.slice A0_0 l0_0.length c0_0]) (t := 38) ?hr ?_; (case hd => rfl); (case hg => rfl); (case hr => first | (go_simp; done) | (go_simp; rfl)); intro gb197 hg w18 hbox hb; have n0_ := Aside0.mk (below_step (by repeat (first | (with_reducible first | exact HB.out | apply below_alloc | apply pw_below_drewN | apply below_drew1) | exact HB.out)) hb); have n1_ := Aside0.mk (hbox); have n2_ := Aside0.mk ((by rw [hg]; exact (below_size (by repeat (first | (with_reducible first | exact HB.out | apply below_alloc | apply pw_below_drewN | apply below_drew1) | exact HB.out))) : w.heap.size ≤ gb197)); have n3_ := Aside0.mk ((by rw [hg]; exact (below_size (by repeat (first | (with_reducible first | exact HB.out | apply below_alloc | apply pw_below_drewN | apply below_drew1) | exact HB.out))) : w.heap.size ≤ gb197)); clear HB; have HB := n0_; have BK197 := n1_; have GW197 := n2_; have GE197 := n3_; clear n0_ n1_ n2_ n3_; clear hb hbox hg; have hcz19_0 : w18.cell? ⟨gb197, 0, none⟩ = some (.slice A0_0 l0_0.length c0_0) := (blk_cell BK197.out 0).trans rfl; have hfz19_0 := blk_frozen BK197.out 0) | ((with_reducible refine gate_callee (f := 24) rfl ?_); refine goesL_ (some 13) rfl rfl Try.func24 (by kernel_rfl) rfl #[.agg #[.slice A0_0 l0_0.length c0_0]] rfl (by (try simp only [List.map_toArray, List.map_cons, List.map_nil]); first | done | rfl | (simp only [List.length_drop, List.length_take]; rfl)) ?_; (with_reducible refine (maze_Valid.calls _ _ l0_0 true _ ?side1 ?side2 A4.out).mono ?_); (case side1 => repeat (first | exact (Kd.C_below HR0_0.out HB.out) | (with_reducible refine Kd.C_alloc ?_ _) | (with_reducible refine Kd.C_drewN ?_ _) | (with_reducible refine Kd.C_drew ?_))); (case side2 => exact HC0_0.out); rintro e w20 ⟨rfl, hb⟩; refine ⟨_, rfl, ?_⟩; have n0_ := Aside0.mk (blk_below (g := gb197) (o := .cells #[.slice A0_0 l0_0.length c0_0] 38 (0, 0)) (by (with_reducible repeat (first | refine blk_drewN ?_ _ | refine blk_drew ?_ | refine blk_alloc ?_ _)); exact BK197.out) hb); have n1_ := Aside0.mk (below_step (by repeat (first | (with_reducible first | exact HB.out | apply below_alloc | apply pw_below_drewN | apply below_drew1 | refine below_set ?_ GE197.out) | exact HB.out)) hb); clear BK197; clear HB; have BK197 := n0_; have HB := n1_; clear n0_ n1_; (try clear hb); (try clear hb2); (try clear hk); (try clear hi); have hcz21_0 : w20.cell? ⟨gb197, 0, none⟩ = some (.slice A0_0 l0_0.length c0_0) := (blk_cell BK197.out 0).trans rfl; have hfz21_0 := blk_frozen BK197.out 0; have p199 : 0 ≤ (0 : Int) := (by omega); have q199 : 0 < (l0_0.length : Int) := of_decide_eq_true (by first | (with_reducible assumption) | assumption); obtain ⟨ad199, A199_0, c199_0, e199, hx199_0, hl199_0, hi199_0⟩ := at_L4 HR0_0.out 0 p199 q199; cases e199; have qi199 : (0 < l0_0.length) = True := eq_true (by omega); (try rw [show ((0 : Int)).toNat = 0 from rfl] at hx199_0); (try rw [Addr.add_zero'] at hx199_0); replace hx199_0 := (HB.out.cell (World.block_lt_of_cell? w _ hx199_0)).trans hx199_0; have HR199_0 := Aside0.mk hi199_0; have HC199_0 := Aside0.mk hl199_0; clear hi199_0 hl199_0; replace p199 := eq_true p199; replace q199 := eq_true q199) | (go_at_call 41; (with_reducible refine (maze_fits.calls _ _ l2 ((rd_L4 l0_0 0).length : Int) true _ ?side1 ?side2 A16.out).mono ?_); (case side1 => repeat (first | exact (Kd.C_below HR2.out HB.out) | (with_reducible refine Kd.C_alloc ?_ _) | (with_reducible refine Kd.C_drewN ?_ _) | (with_reducible refine Kd.C_drew ?_))); (case side2 => exact HC2.out); rintro e w22 ⟨rfl, hb⟩; have n0_ := Aside0.mk (blk_below (g := gb197) (o := .cells #[.slice (some ad199) l0_0.length c0_0] 38 (0, 0)) (by (with_reducible repeat (first | refine blk_drewN ?_ _ | refine blk_drew ?_ | refine blk_alloc ?_ _)); exact BK197.out) hb); have n1_ := Aside0.mk (below_step (by repeat (first | (with_reducible first | exact HB.out | apply below_alloc | apply pw_below_drewN | apply below_drew1 | refine below_set ?_ GE197.out) | exact HB.out)) hb); clear BK197; clear HB; have BK197 := n0_; have HB := n1_; clear n0_ n1_; (try clear hb); (try clear hb2); (try clear hk); (try clear hi)) | ((with_reducible refine gate_dst (N := 36) rfl ?_); (try (refine gate_guard (by rfl) ?_; dsimp only)); refine Kd.R_lit (Kd.int .i64) _ 3 ?hg (N := 36) ?hd (xs := ([a1] : List Int)) (inner := [.int .i64 a1]) (ok := fun _ => True) (okp := fun _ => True) ?hr ?hp (fun _ hk => hk) trivial (Below.refl _ _) (Nat.le_refl _) (by simp) ?_; (case hd => rfl); (case hg => rfl); (case hr => first | (go_simp; done) | (go_simp; rfl)); (case hp => exact (Reps.one (show Kd.M (Kd.int .i64) _ _ _ a1 [.int .i64 a1] from rfl) (Reps.none _ _))); intro v202 w23 ho24 hb hg_ hnew_; clear hg_ hnew_; (first | rw [← Ny201.out] at ho24 | (simp only [Int.reduceToNat] at ho24; rw [← Ny201.out] at ho24)); have n0_ := Aside0.mk (Kd.R_lower ho24 (below_size (by repeat (first | (with_reducible first | exact HB.out | apply below_alloc | apply pw_below_drewN | apply below_drew1 | refine below_set ?_ GE197.out) | exact HB.out)))); have n1_ := Aside0.mk (blk_below (g := gb197) (o := .cells #[.slice (some ad199) l0_0.length c0_0] 38 (0, 0)) (by (with_reducible repeat (first | refine blk_drewN ?_ _ | refine blk_drew ?_ | refine blk_alloc ?_ _)); exact BK197.out) hb); have n2_ := Aside0.mk (below_step (by repeat (first | (with_reducible first | exact HB.out | apply below_alloc | apply pw_below_drewN | apply below_drew1 | refine below_set ?_ GE197.out) | exact HB.out)) hb); clear BK197; clear HB; have HO203 := n0_; have BK197 := n1_; have HB := n2_; clear n0_ n1_ n2_; clear hb ho24))
      go_loopg [1, 8, 39] k (fun kq v1 v8 v39 w' => ∃ (x1_1 : Int) (x8_1 : List Int) (x39_1 : Int), v1 = .int .i64 x1_1 ∧ v39 = .int .i64 x39_1 ∧ Aside0 (maze_Walk.l0 kq x1_1 x8_1 l2 (l2.length : Int) x39_1 l0_0 = some (r1, r2)) ∧ Aside0 (kq ≤ k) ∧ Aside0 (Kd.R (Kd.int .i64) 3 w' w.heap.size (fun _ => True) v8 x8_1) ∧ Aside0 (w'.heap[gb197]? = some (.cells #[(.slice (some ad199) l0_0.length c0_0)] 38 (0, 0))) ∧ Aside0 (Below w.heap.size w w'))
      case atStart => exact ⟨(a1), (y201), (0), (by first | rfl | (simp; done) | (simp [*]; done)), (by first | rfl | (simp; done) | (simp [*]; done)), H', ⟨Nat.le_refl _⟩, ⟨by (with_reducible repeat (first | apply Kd.R_alloc | apply Kd.R_drewN | apply Kd.R_drew)); exact HO203.out⟩, ⟨by (with_reducible repeat (first | refine blk_drewN ?_ _ | refine blk_drew ?_ | refine blk_alloc ?_ _)); exact BK197.out⟩, ⟨by repeat (first | (with_reducible first | exact HB.out | apply below_alloc | apply pw_below_drewN | apply below_drew1 | refine below_set ?_ GE197.out) | exact HB.out)⟩⟩
      case round =>
       clear H'
       try clear c1
       try clear p1
       try clear q1
       try clear hx1
       try clear qi1
       try clear c2
       try clear p2
       try clear c5
       try clear c6
       try clear c6b0
       try clear c10
       try clear c10b0
       try clear c15
       try clear c15b0
       try clear c15b1
       try clear c17
       try clear c19
       try clear p19
       try clear q19
       try clear hx19
       try clear qi19
       try clear c22
       try clear c24
       try clear hcz12_0
       try clear hcz14_0
       try clear hcz19_0
       try clear hcz21_0
       try clear hcz8_0
       try clear hfz12_0
       try clear hfz14_0
       try clear hfz19_0
       try clear hfz21_0
       try clear hfz8_0
       try clear hx199_0
       try clear p199
       try clear q199
       obtain ⟨x1_1, x8_1, x39_1, rfl, rfl, HA, HK1, HO_8, BK197, HB⟩ := hrel
       cases gk with
       | zero => exact absurd HA.out (by simp [maze_Walk.l0])
       | succ k1 =>
        have H := HA.out
        clear HA
        simp only [maze_Walk.l0] at H
        by_cases c25 : x39_1 < (l2.length : Int)
        ·rw [if_pos c25] at H
         have c25b0 : decide (x39_1 < (l2.length : Int)) = true := decide_eq_true c25
         clear c25
         by_cases c26 : 0 ≤ x39_1
         ·rw [if_pos c26] at H
          have c26b0 : decide (0 ≤ x39_1) = true := decide_eq_true c26
          clear c26
          by_cases c27 : x39_1 < (l2.length : Int)
          ·rw [if_pos c27] at H
           have c27b0 : decide (x39_1 < (l2.length : Int)) = true := decide_eq_true c27
           clear c27
           by_cases c28 : 0 ≤ x1_1
           ·rw [if_pos c28] at H
            have c28b0 : decide (0 ≤ x1_1) = true := decide_eq_true c28
            clear c28
            by_cases c29 : x1_1 < (l0_0.length : Int)
            ·rw [if_pos c29] at H
             have c29b0 : decide (x1_1 < (l0_0.length : Int)) = true := decide_eq_true c29
             clear c29
             by_cases c30 : 0 ≤ (rd l2 x39_1)
             ·rw [if_pos c30] at H
              have c30b0 : decide (0 ≤ (rd l2 x39_1)) = true := decide_eq_true c30
              clear c30
              by_cases c31 : (rd l2 x39_1) < ((rd_L4 l0_0 x1_1).length : Int)
              ·rw [if_pos c31] at H
               have c31b0 : decide ((rd l2 x39_1) < ((rd_L4 l0_0 x1_1).length : Int)) = true := decide_eq_true c31
               clear c31
               by_cases c32 : x8_1.length < 17592186044416
               ·rw [if_pos c32] at H
                have LMc32 := Aside0.mk c32
                clear c32
                obtain ⟨y207, hy207⟩ : ∃ y_ : List Int, y_ = (x8_1 ++ [(rd_T44 (rd_L4 l0_0 x1_1) (rd l2 x39_1)).f0]) := ⟨_, rfl⟩
                replace H : (maze_Walk.l0 k1 ((rd_T44 (rd_L4 l0_0 x1_1) (rd l2 x39_1)).f0) y207 l2 (l2.length : Int) (wrap64 (x39_1 + 1)) l0_0) = some (r1, r2) := by first | (rw [hy207]; with_reducible exact H) | (have H2_ := (Option.bind_some _ _).symm.trans H; rw [hy207]; with_reducible exact H2_) | (have H2_ := (Option.bind_some _ _).symm.trans H; with_reducible exact H2_) | with_reducible exact H | (rw [hy207]; exact H) | exact H
                have Ny207 := Aside0.mk hy207
                clear hy207
                have H' := Aside0.mk H
                clear H
                have p204 : 0 ≤ (x39_1 : Int) := of_decide_eq_true (by first | (with_reducible assumption) | assumption)
                have q204 : x39_1 < (l2.length : Int) := of_decide_eq_true (by first | (with_reducible assumption) | assumption)
                obtain ⟨ad204, e204, hx204_0⟩ := Kd.at_int HR2.out x39_1 p204 q204
                cases e204
                replace hx204_0 := (HB.out.cell (World.block_lt_of_cell? w _ hx204_0)).trans hx204_0
                replace p204 := eq_true p204
                replace q204 := eq_true q204
                have hcz33_0 : wr.cell? ⟨gb197, 0, none⟩ = some (.slice (some ad199) l0_0.length c0_0) := (blk_cell BK197.out 0).trans rfl
                have hfz33_0 := blk_frozen BK197.out 0
                have p205 : 0 ≤ (x1_1 : Int) := of_decide_eq_true (by first | (with_reducible assumption) | assumption)
                have q205 : x1_1 < (l0_0.length : Int) := of_decide_eq_true (by first | (with_reducible assumption) | assumption)
                obtain ⟨ad205, A205_0, c205_0, e205, hx205_0, hl205_0, hi205_0⟩ := at_L4 HR0_0.out x1_1 p205 q205
                obtain rfl : ad199 = ad205 := (by injection e205)
                replace hx205_0 := (HB.out.cell (World.block_lt_of_cell? w _ hx205_0)).trans hx205_0
                have HR205_0 := Aside0.mk hi205_0
                have HC205_0 := Aside0.mk hl205_0
                clear hi205_0 hl205_0
                replace p205 := eq_true p205
                replace q205 := eq_true q205
                have p206 : 0 ≤ ((rd l2 x39_1) : Int) := of_decide_eq_true (by first | (with_reducible assumption) | assumption)
                have q206 : (rd l2 x39_1) < ((rd_L4 l0_0 x1_1).length : Int) := of_decide_eq_true (by first | (with_reducible assumption) | assumption)
                obtain ⟨ad206, e206, hx206_0, hx206_1⟩ := at_T44 HR205_0.out (rd l2 x39_1) p206 q206
                cases e206
                replace hx206_0 := (HB.out.cell (World.block_lt_of_cell? w _ hx206_0)).trans hx206_0
                replace hx206_1 := (HB.out.cell (World.block_lt_of_cell? w _ hx206_1)).trans hx206_1
                replace p206 := eq_true p206
                replace q206 := eq_true q206
                go_wp2_with (first | ((with_reducible refine gate_builtin (b := .append) (xs := #[.tmp 52, .tmp 54]) rfl ?_); (try (refine gate_guard (by rfl) ?_; dsimp only)); at_builtin; refine Kd.R_append (Kd.int .i64) (w0 := w) w.heap.size rfl (.tmp 52) (.tmp 54) 30 3 (.int .i64 0) 8 rfl Try.underlying30 info3 rfl (by decide) (by omega) u8 x8_1 ((rd_T44 (rd_L4 l0_0 x1_1) (rd l2 x39_1)).f0) [.int .i64 ((rd_T44 (rd_L4 l0_0 x1_1) (rd l2 x39_1)).f0)] (fun _ => True) (fun _ => False) rfl rfl ?aP (fun _ hk => hk.elim) ?aF ?aO ?aB ?aS ?aL ?_; (case aP => exact rfl); (case aB => exact (by repeat (first | (with_reducible first | exact HB.out | apply below_alloc | apply pw_below_drewN | apply below_drew1 | refine below_set ?_ GE197.out) | exact HB.out))); (case aF => exact (fun _ _ => trivial)); (case aO => exact (by (with_reducible repeat (first | apply Kd.R_alloc | apply Kd.R_drewN | apply Kd.R_drew)); exact HO_8.out)); (case aS => exact (below_size (by repeat (first | (with_reducible first | exact HB.out | apply below_alloc | apply pw_below_drewN | apply below_drew1 | refine below_set ?_ GE197.out) | exact HB.out)))); (case aL => have := LMc32.out; omega); intro v208 w34 ho hb hg hat; rw [← Ny207.out] at ho; have n0_ := Aside0.mk (blk_grown (g := gb197) (o := .cells #[.slice (some ad199) l0_0.length c0_0] 38 (0, 0)) (by (with_reducible repeat (first | refine blk_drewN ?_ _ | refine blk_drew ?_ | refine blk_alloc ?_ _)); exact BK197.out) hg (Kd.R_ne HO_8.out BK197.out (by decide))); have n1_ := Aside0.mk (hb); have n2_ := Aside0.mk (ho); clear BK197; clear HB; clear HO_8; have BK197 := n0_; have HB := n1_; have HO209 := n2_; clear n0_ n1_ n2_; clear ho hb hg hat))
                go_roundg k1
                case measure => have := HK1.out; omega
                case rel => exact ⟨((rd_T44 (rd_L4 l0_0 x1_1) (rd l2 x39_1)).f0), (y207), (wrap64 (x39_1 + 1)), (by first | rfl | (simp; done) | (simp [*]; done)), (by first | rfl | (simp; done) | (simp [*]; done)), H', ⟨by have := HK1.out; omega⟩, ⟨by (with_reducible repeat (first | apply Kd.R_alloc | apply Kd.R_drewN | apply Kd.R_drew)); exact HO209.out⟩, ⟨by (with_reducible repeat (first | refine blk_drewN ?_ _ | refine blk_drew ?_ | refine blk_alloc ?_ _)); exact BK197.out⟩, ⟨by repeat (first | (with_reducible first | exact HB.out | apply below_alloc | apply pw_below_drewN | apply below_drew1 | refine below_set ?_ GE197.out) | exact HB.out)⟩⟩
               ·rw [if_neg c32] at H
                exact absurd H (by simp)
              ·rw [if_neg c31] at H
               exact absurd H (by simp)
             ·rw [if_neg c30] at H
              exact absurd H (by simp)
            ·rw [if_neg c29] at H
             exact absurd H (by simp)
           ·rw [if_neg c28] at H
            exact absurd H (by simp)
          ·rw [if_neg c27] at H
           exact absurd H (by simp)
         ·rw [if_neg c26] at H
          exact absurd H (by simp)
        ·rw [if_neg c25] at H
         have c25b0 : decide (x39_1 < (l2.length : Int)) = false := decide_eq_false c25
         clear c25
         simp only [Option.some.injEq, Prod.mk.injEq] at H
         obtain ⟨rfl, rfl⟩ := H
         go_wp2
         go_ret2
         exact ⟨_, by first | rfl | (simp [errW_none, errW_some] <;> rfl) | (simp [*, errW_none, errW_some] <;> rfl), by (with_reducible repeat (first | apply Kd.R_alloc | apply Kd.R_drewN | apply Kd.R_drew)); exact HO_8.out, by repeat (first | (with_reducible first | exact HB.out | apply below_alloc | apply pw_below_drewN | apply below_drew1 | refine below_set ?_ GE197.out) | exact HB.out)⟩
     ·replace c17 := Bool.eq_false_iff.mpr c17
      subst c17
      have H1 : (some (([] : List Int), 2)) = some (r1, r2) := by rw [if_neg (show ¬ (false = true) by decide)] at H; exact H
      clear H
      have H := H1
      clear H1
      simp only [Option.some.injEq, Prod.mk.injEq] at H
      obtain ⟨rfl, rfl⟩ := H
      go_enter Try.func22, Try.ntmps22
      go_wp2_with (first | ((with_reducible refine gate_dst (N := 3) rfl ?_); (try (refine gate_guard (by rfl) ?_; dsimp only)); refine box_event ?hg (N := 3) ?hd (cs := #[.slice A0_0 l0_0.length c0_0]) (t := 38) ?hr ?_; (case hd => rfl); (case hg => rfl); (case hr => first | (go_simp; done) | (go_simp; rfl)); intro gb197 hg w35 hbox hb; have n0_ := Aside0.mk (below_step (by repeat (first | (with_reducible first | exact HB.out | apply below_alloc | apply pw_below_drewN | apply below_drew1) | exact HB.out)) hb); have n1_ := Aside0.mk (hbox); have n2_ := Aside0.mk ((by rw [hg]; exact (below_size (by repeat (first | (with_reducible first | exact HB.out | apply below_alloc | apply pw_below_drewN | apply below_drew1) | exact HB.out))) : w.heap.size ≤ gb197)); have n3_ := Aside0.mk ((by rw [hg]; exact (below_size (by repeat (first | (with_reducible first | exact HB.out | apply below_alloc | apply pw_below_drewN | apply below_drew1) | exact HB.out))) : w.heap.size ≤ gb197)); clear HB; have HB := n0_; have BK197 := n1_; have GW197 := n2_; have GE197 := n3_; clear n0_ n1_ n2_ n3_; clear hb hbox hg; have hcz36_0 : w35.cell? ⟨gb197, 0, none⟩ = some (.slice A0_0 l0_0.length c0_0) := (blk_cell BK197.out 0).trans rfl; have hfz36_0 := blk_frozen BK197.out 0) | ((with_reducible refine gate_callee (f := 24) rfl ?_); refine goesL_ (some 13) rfl rfl Try.func24 (by kernel_rfl) rfl #[.agg #[.slice A0_0 l0_0.length c0_0]] rfl (by (try simp only [List.map_toArray, List.map_cons, List.map_nil]); first | done | rfl | (simp only [List.length_drop, List.length_take]; rfl)) ?_; (with_reducible refine (maze_Valid.calls _ _ l0_0 true _ ?side1 ?side2 A4.out).mono ?_); (case side1 => repeat (first | exact (Kd.C_below HR0_0.out HB.out) | (with_reducible refine Kd.C_alloc ?_ _) | (with_reducible refine Kd.C_drewN ?_ _) | (with_reducible refine Kd.C_drew ?_))); (case side2 => exact HC0_0.out); rintro e w37 ⟨rfl, hb⟩; refine ⟨_, rfl, ?_⟩; have n0_ := Aside0.mk (blk_below (g := gb197) (o := .cells #[.slice A0_0 l0_0.length c0_0] 38 (0, 0)) (by (with_reducible repeat (first | refine blk_drewN ?_ _ | refine blk_drew ?_ | refine blk_alloc ?_ _)); exact BK197.out) hb); have n1_ := Aside0.mk (below_step (by repeat (first | (with_reducible first | exact HB.out | apply below_alloc | apply pw_below_drewN | apply below_drew1 | refine below_set ?_ GE197.out) | exact HB.out)) hb); clear BK197; clear HB; have BK197 := n0_; have HB := n1_; clear n0_ n1_; (try clear hb); (try clear hb2); (try clear hk); (try clear hi); have hcz38_0 : w37.cell? ⟨gb197, 0, none⟩ = some (.slice A0_0 l0_0.length c0_0) := (blk_cell BK197.out 0).trans rfl; have hfz38_0 := blk_frozen BK197.out 0; have p199 : 0 ≤ (0 : Int) := (by omega); have q199 : 0 < (l0_0.length : Int) := of_decide_eq_true (by first | (with_reducible assumption) | assumption); obtain ⟨ad199, A199_0, c199_0, e199, hx199_0, hl199_0, hi199_0⟩ := at_L4 HR0_0.out 0 p199 q199; cases e199; have qi199 : (0 < l0_0.length) = True := eq_true (by omega); (try rw [show ((0 : Int)).toNat = 0 from rfl] at hx199_0); (try rw [Addr.add_zero'] at hx199_0); replace hx199_0 := (HB.out.cell (World.block_lt_of_cell? w _ hx199_0)).trans hx199_0; have HR199_0 := Aside0.mk hi199_0; have HC199_0 := Aside0.mk hl199_0; clear hi199_0 hl199_0; replace p199 := eq_true p199; replace q199 := eq_true q199) | (go_at_call 41; (with_reducible refine (maze_fits.calls _ _ l2 ((rd_L4 l0_0 0).length : Int) false _ ?side1 ?side2 A16.out).mono ?_); (case side1 => repeat (first | exact (Kd.C_below HR2.out HB.out) | (with_reducible refine Kd.C_alloc ?_ _) | (with_reducible refine Kd.C_drewN ?_ _) | (with_reducible refine Kd.C_drew ?_))); (case side2 => exact HC2.out); rintro e w39 ⟨rfl, hb⟩; have n0_ := Aside0.mk (blk_below (g := gb197) (o := .cells #[.slice (some ad199) l0_0.length c0_0] 38 (0, 0)) (by (with_reducible repeat (first | refine blk_drewN ?_ _ | refine blk_drew ?_ | refine blk_alloc ?_ _)); exact BK197.out) hb); have n1_ := Aside0.mk (below_step (by repeat (first | (with_reducible first | exact HB.out | apply below_alloc | apply pw_below_drewN | apply below_drew1 | refine below_set ?_ GE197.out) | exact HB.out)) hb); clear BK197; clear HB; have BK197 := n0_; have HB := n1_; clear n0_ n1_; (try clear hb); (try clear hb2); (try clear hk); (try clear hi)))
      go_ret2
      exact ⟨_, by first | rfl | (simp [errW_none, errW_some] <;> rfl) | (simp [*, errW_none, errW_some] <;> rfl), by first | exact Kd.R_nil _ _ _ _ _ | exact Kd.N_nil _ _ _ _ _ | exact Kd.V_nil _ _ _ _ _ | exact Kd.Q_nil _ _ _ _ _ | exact Kd.S_nil _ _ _ _ _, by repeat (first | (with_reducible first | exact HB.out | apply below_alloc | apply pw_below_drewN | apply below_drew1 | refine below_set ?_ GE197.out) | exact HB.out)⟩
    ·rw [if_neg c15] at H
     exact absurd H (by simp)
 ·replace c5 := Bool.eq_false_iff.mpr c5
  subst c5
  have H1 : (some (([] : List Int), 1)) = some (r1, r2) := by rw [if_neg (show ¬ (false = true) by decide)] at H; exact H
  clear H
  have H := H1
  clear H1
  simp only [Option.some.injEq, Prod.mk.injEq] at H
  obtain ⟨rfl, rfl⟩ := H
  go_enter Try.func22, Try.ntmps22
  go_wp2_with (first | ((with_reducible refine gate_dst (N := 3) rfl ?_); (try (refine gate_guard (by rfl) ?_; dsimp only)); refine box_event ?hg (N := 3) ?hd (cs := #[.slice A0_0 l0_0.length c0_0]) (t := 38) ?hr ?_; (case hd => rfl); (case hg => rfl); (case hr => first | (go_simp; done) | (go_simp; rfl)); intro gb197 hg w40 hbox hb; have n0_ := Aside0.mk (below_step (by repeat (first | (with_reducible first | exact HB.out | apply below_alloc | apply pw_below_drewN | apply below_drew1) | exact HB.out)) hb); have n1_ := Aside0.mk (hbox); have n2_ := Aside0.mk ((by rw [hg]; exact (below_size (by repeat (first | (with_reducible first | exact HB.out | apply below_alloc | apply pw_below_drewN | apply below_drew1) | exact HB.out))) : w.heap.size ≤ gb197)); have n3_ := Aside0.mk ((by rw [hg]; exact (below_size (by repeat (first | (with_reducible first | exact HB.out | apply below_alloc | apply pw_below_drewN | apply below_drew1) | exact HB.out))) : w.heap.size ≤ gb197)); clear HB; have HB := n0_; have BK197 := n1_; have GW197 := n2_; have GE197 := n3_; clear n0_ n1_ n2_ n3_; clear hb hbox hg; have hcz41_0 : w40.cell? ⟨gb197, 0, none⟩ = some (.slice A0_0 l0_0.length c0_0) := (blk_cell BK197.out 0).trans rfl; have hfz41_0 := blk_frozen BK197.out 0) | ((with_reducible refine gate_callee (f := 24) rfl ?_); refine goesL_ (some 13) rfl rfl Try.func24 (by kernel_rfl) rfl #[.agg #[.slice A0_0 l0_0.length c0_0]] rfl (by (try simp only [List.map_toArray, List.map_cons, List.map_nil]); first | done | rfl | (simp only [List.length_drop, List.length_take]; rfl)) ?_; (with_reducible refine (maze_Valid.calls _ _ l0_0 false _ ?side1 ?side2 A4.out).mono ?_); (case side1 => repeat (first | exact (Kd.C_below HR0_0.out HB.out) | (with_reducible refine Kd.C_alloc ?_ _) | (with_reducible refine Kd.C_drewN ?_ _) | (with_reducible refine Kd.C_drew ?_))); (case side2 => exact HC0_0.out); rintro e w42 ⟨rfl, hb⟩; refine ⟨_, rfl, ?_⟩; have n0_ := Aside0.mk (blk_below (g := gb197) (o := .cells #[.slice A0_0 l0_0.length c0_0] 38 (0, 0)) (by (with_reducible repeat (first | refine blk_drewN ?_ _ | refine blk_drew ?_ | refine blk_alloc ?_ _)); exact BK197.out) hb); have n1_ := Aside0.mk (below_step (by repeat (first | (with_reducible first | exact HB.out | apply below_alloc | apply pw_below_drewN | apply below_drew1 | refine below_set ?_ GE197.out) | exact HB.out)) hb); clear BK197; clear HB; have BK197 := n0_; have HB := n1_; clear n0_ n1_; (try clear hb); (try clear hb2); (try clear hk); (try clear hi)))
  go_ret2
  exact ⟨_, by first | rfl | (simp [errW_none, errW_some] <;> rfl) | (simp [*, errW_none, errW_some] <;> rfl), by first | exact Kd.R_nil _ _ _ _ _ | exact Kd.N_nil _ _ _ _ _ | exact Kd.V_nil _ _ _ _ _ | exact Kd.Q_nil _ _ _ _ _ | exact Kd.S_nil _ _ _ _ _, by repeat (first | (with_reducible first | exact HB.out | apply below_alloc | apply pw_below_drewN | apply below_drew1 | refine below_set ?_ GE197.out) | exact HB.out)⟩

end Go.Proofs.Ytgbjbgdnldklpaa.Q
end
/-! Part QTopSameInts -/
section
-- Written by xprint.py, a program of this session's, over the kit's print. Lean checks it.
namespace Go.Proofs.Ytgbjbgdnldklpaa.Q
open Go.RowKit Go.Proofs.YtgbjbgdnldklpaaW.PrintWords Go.Proofs.YtgbjbgdnldklpaaW.PrintLast Go.Proofs.YtgbjbgdnldklpaaW.PrintMore
attribute [local go_sem] max2_int min2_int max_two min_two max_three min_three max_four min_four
set_option linter.unusedVariables false
set_option linter.unusedSimpArgs false

/-! ### mizmazetop_sameInts: function 48 -/
def mizmazetop_sameInts.l0 : Nat → List Int → List Int → Int → Option (Bool)
 | 0, _, _, _ => none
 | k + 1, x0, x1, x5 => if x5 < (x0.length : Int) then (if 0 ≤ x5 then (if x5 < (x1.length : Int) then (if (rd x0 x5) = (rd x1 x5) then (mizmazetop_sameInts.l0 k x0 x1 (wrap64 (x5 + 1))) else (some false)) else (none)) else (none)) else (some true)
def mizmazetop_sameInts.f (k : Nat) (l0 : List Int) (l1 : List Int) : Option (Bool) := if (l0.length : Int) = (l1.length : Int) then (mizmazetop_sameInts.l0 k l0 l1 0) else (some false)
theorem mizmazetop_sameInts.mono_l : ∀ k, (∀ y0 y1 y2, LeO (mizmazetop_sameInts.l0 k y0 y1 y2) (mizmazetop_sameInts.l0 (k + 1) y0 y1 y2))
 | 0 => fun _ _ _ r h => by simp [mizmazetop_sameInts.l0] at h
 | k + 1 => by
  have ih0 := mizmazetop_sameInts.mono_l k
  ·intro y0 y1 y2
   unfold mizmazetop_sameInts.l0
   repeat' first
   | (with_reducible exact ih0 _ _ _)
   | (with_reducible exact LeO.refl _)
   | (with_reducible exact LeO.none _)
   | (with_reducible refine LeO.ite ?_ ?_)
   | (with_reducible refine LeO.bind ?_ (fun _ => ?_))
   | exact ih0 _ _ _
   | exact LeO.none _
   | refine LeO.ite ?_ ?_
   | refine LeO.bind ?_ (fun _ => ?_)
theorem mizmazetop_sameInts.mono : ∀ a0 a1 k, LeO (mizmazetop_sameInts.f k a0 a1) (mizmazetop_sameInts.f (k + 1) a0 a1) := by
 intro a0 a1 k
 have ih0 := mizmazetop_sameInts.mono_l k
 unfold mizmazetop_sameInts.f
 repeat' first
   | (with_reducible exact ih0 _ _ _)
   | (with_reducible exact LeO.refl _)
   | (with_reducible exact LeO.none _)
   | (with_reducible refine LeO.ite ?_ ?_)
   | (with_reducible refine LeO.bind ?_ (fun _ => ?_))
   | exact ih0 _ _ _
   | exact LeO.none _
   | refine LeO.ite ?_ ?_
   | refine LeO.bind ?_ (fun _ => ?_)
set_option maxHeartbeats 8000000 in
set_option maxRecDepth 100000 in
theorem mizmazetop_sameInts.calls (k : Nat) (A0 : Option Addr) (c0 : Nat) (l0 : List Int) (A1 : Option Addr) (c1 : Nat) (l1 : List Int) (r : Bool) (w : World) (hr0 : Kd.C (Kd.int .i64) w A0 l0.length l0) (hc0 : l0.length ≤ c0) (hr1 : Kd.C (Kd.int .i64) w A1 l1.length l1) (hc1 : l1.length ≤ c1) (h : mizmazetop_sameInts.f k l0 l1 = some r) :
  Calls Try.prog 48 #[.slice A0 l0.length c0, .slice A1 l1.length c1] w fun e w' => e = .returned (.bool r) ∧ Drawn0 w w' := by
 have HR0 := Aside0.mk hr0
 have HC0 := Aside0.mk hc0
 clear hr0 hc0
 have HR1 := Aside0.mk hr1
 have HC1 := Aside0.mk hc1
 clear hr1 hc1
 have H : (if (l0.length : Int) = (l1.length : Int) then (mizmazetop_sameInts.l0 k l0 l1 0) else (some false)) = some r := h
 clear h
 by_cases c3 : (l0.length : Int) = (l1.length : Int)
 ·rw [if_pos c3] at H
  have c3b0 : ((l0.length : Int) == (l1.length : Int)) = true := beq_iff_eq.mpr c3
  have c3b1 : ((l0.length : Int) != (l1.length : Int)) = false := bne_eq_false_iff_eq.mpr c3
  have c3b2 : (l0.length == l1.length) = true := by first | simpa using c3 | (simp at c3 ⊢; omega)
  clear c3
  have H' := Aside0.mk H
  clear H
  go_enter Try.func48, Try.ntmps48
  go_wp2
  repeat (go_quiet (fail); try go_wp2)
  go_loopg [5] k (fun kq v5 w' => ∃ (x5_1 : Int), v5 = .int .i64 x5_1 ∧ Aside0 (mizmazetop_sameInts.l0 kq l0 l1 x5_1 = some r) ∧ Aside0 (kq ≤ k) ∧ Drawn0 w w')
  case atStart => exact ⟨(0), (by first | rfl | (simp; done) | (simp [*]; done)), H', ⟨Nat.le_refl _⟩, by repeat (first | exact Drawn0.refl _ | apply Drawn0.step)⟩
  case round =>
   clear H'
   try clear c1
   try clear p2
   try clear c3
   try clear c3b0
   try clear c3b1
   try clear c3b2
   obtain ⟨x5_1, rfl, HA, HK1, ⟨m1, rfl⟩⟩ := hrel
   cases gk with
   | zero => exact absurd HA.out (by simp [mizmazetop_sameInts.l0])
   | succ k1 =>
    have H := HA.out
    clear HA
    simp only [mizmazetop_sameInts.l0] at H
    by_cases c4 : x5_1 < (l0.length : Int)
    ·rw [if_pos c4] at H
     have c4b0 : decide (x5_1 < (l0.length : Int)) = true := decide_eq_true c4
     clear c4
     by_cases c5 : 0 ≤ x5_1
     ·rw [if_pos c5] at H
      have c5b0 : decide (0 ≤ x5_1) = true := decide_eq_true c5
      clear c5
      by_cases c6 : x5_1 < (l1.length : Int)
      ·rw [if_pos c6] at H
       have c6b0 : decide (x5_1 < (l1.length : Int)) = true := decide_eq_true c6
       clear c6
       by_cases c7 : (rd l0 x5_1) = (rd l1 x5_1)
       ·rw [if_pos c7] at H
        have c7b0 : ((rd l0 x5_1) == (rd l1 x5_1)) = true := beq_iff_eq.mpr c7
        have c7b1 : ((rd l0 x5_1) != (rd l1 x5_1)) = false := bne_eq_false_iff_eq.mpr c7
        clear c7
        have H' := Aside0.mk H
        clear H
        have p565 : 0 ≤ (x5_1 : Int) := of_decide_eq_true (by first | (with_reducible assumption) | assumption)
        have q565 : x5_1 < (l0.length : Int) := of_decide_eq_true (by first | (with_reducible assumption) | assumption)
        obtain ⟨ad565, e565, hx565_0⟩ := Kd.at_int HR0.out x5_1 p565 q565
        cases e565
        replace p565 := eq_true p565
        replace q565 := eq_true q565
        have p566 : 0 ≤ (x5_1 : Int) := of_decide_eq_true (by first | (with_reducible assumption) | assumption)
        have q566 : x5_1 < (l1.length : Int) := of_decide_eq_true (by first | (with_reducible assumption) | assumption)
        obtain ⟨ad566, e566, hx566_0⟩ := Kd.at_int HR1.out x5_1 p566 q566
        cases e566
        replace p566 := eq_true p566
        replace q566 := eq_true q566
        go_wp2
        repeat (go_quiet (fail); try go_wp2)
        go_roundg k1
        case measure => have := HK1.out; omega
        case rel => exact ⟨(wrap64 (x5_1 + 1)), (by first | rfl | (simp; done) | (simp [*]; done)), H', ⟨by have := HK1.out; omega⟩, by repeat (first | exact Drawn0.refl _ | apply Drawn0.step)⟩
       ·rw [if_neg c7] at H
        have c7b0 : ((rd l0 x5_1) == (rd l1 x5_1)) = false := beq_eq_false_iff_ne.mpr c7
        have c7b1 : ((rd l0 x5_1) != (rd l1 x5_1)) = true := bne_iff_ne.mpr c7
        obtain rfl := Option.some.inj H
        have p565 : 0 ≤ (x5_1 : Int) := of_decide_eq_true (by first | (with_reducible assumption) | assumption)
        have q565 : x5_1 < (l0.length : Int) := of_decide_eq_true (by first | (with_reducible assumption) | assumption)
        obtain ⟨ad565, e565, hx565_0⟩ := Kd.at_int HR0.out x5_1 p565 q565
        cases e565
        replace p565 := eq_true p565
        replace q565 := eq_true q565
        have p566 : 0 ≤ (x5_1 : Int) := of_decide_eq_true (by first | (with_reducible assumption) | assumption)
        have q566 : x5_1 < (l1.length : Int) := of_decide_eq_true (by first | (with_reducible assumption) | assumption)
        obtain ⟨ad566, e566, hx566_0⟩ := Kd.at_int HR1.out x5_1 p566 q566
        cases e566
        replace p566 := eq_true p566
        replace q566 := eq_true q566
        go_wp2
        repeat (go_quiet (fail); try go_wp2)
        go_ret
        exact ⟨by first | rfl | (simp; done) | (simp [*]; done), by repeat (first | exact Drawn0.refl _ | apply Drawn0.step)⟩
      ·rw [if_neg c6] at H
       exact absurd H (by simp)
     ·rw [if_neg c5] at H
      exact absurd H (by simp)
    ·rw [if_neg c4] at H
     have c4b0 : decide (x5_1 < (l0.length : Int)) = false := decide_eq_false c4
     clear c4
     obtain rfl := Option.some.inj H
     go_wp2
     repeat (go_quiet (fail); try go_wp2)
     go_ret
     exact ⟨by first | rfl | (simp; done) | (simp [*]; done), by repeat (first | exact Drawn0.refl _ | apply Drawn0.step)⟩
 ·rw [if_neg c3] at H
  have c3b0 : ((l0.length : Int) == (l1.length : Int)) = false := beq_eq_false_iff_ne.mpr c3
  have c3b1 : ((l0.length : Int) != (l1.length : Int)) = true := bne_iff_ne.mpr c3
  have c3b2 : (l0.length == l1.length) = false := by first | simpa using c3 | (simp at c3 ⊢; omega)
  obtain rfl := Option.some.inj H
  go_enter Try.func48, Try.ntmps48
  go_wp2
  repeat (go_quiet (fail); try go_wp2)
  go_ret
  exact ⟨by first | rfl | (simp; done) | (simp [*]; done), by repeat (first | exact Drawn0.refl _ | apply Drawn0.step)⟩

end Go.Proofs.Ytgbjbgdnldklpaa.Q
end
/-! Part QTopWalks -/
section
-- Written by xprint.py, a program of this session's, over the kit's print. Lean checks it.
namespace Go.Proofs.Ytgbjbgdnldklpaa.Q
open Go.RowKit Go.Proofs.YtgbjbgdnldklpaaW.PrintWords Go.Proofs.YtgbjbgdnldklpaaW.PrintLast Go.Proofs.YtgbjbgdnldklpaaW.PrintMore
attribute [local go_sem] max2_int min2_int max_two min_two max_three min_three max_four min_four
set_option linter.unusedVariables false
set_option linter.unusedSimpArgs false

/-! ### mizmazetop_walks: function 30 -/
def mizmazetop_walks.f (k : Nat)  : Option (Bool) := (maze_Walk.f k (([(([(⟨1, 0⟩ : S44)] : List (S44))), (([(⟨0, 0⟩ : S44)] : List (S44)))] : List (List (S44)))) 0 (([0, 0] : List Int))).bind fun bt579 => (if bt579.2 = 0 then ((mizmazetop_sameInts.f k bt579.1 (([0, 1, 0] : List Int))).bind fun t586 => (some t586)) else (none))
theorem mizmazetop_walks.mono : ∀ k, LeO (mizmazetop_walks.f k ) (mizmazetop_walks.f (k + 1) ) := by
 intro  k
 unfold mizmazetop_walks.f
 repeat' first
   | (with_reducible exact maze_Walk.mono _ _ _ _)
   | (with_reducible exact mizmazetop_sameInts.mono _ _ _)
   | (with_reducible exact LeO.refl _)
   | (with_reducible exact LeO.none _)
   | (with_reducible refine LeO.ite ?_ ?_)
   | (with_reducible refine LeO.bind ?_ (fun _ => ?_))
   | exact maze_Walk.mono _ _ _ _
   | exact mizmazetop_sameInts.mono _ _ _
   | exact LeO.none _
   | refine LeO.ite ?_ ?_
   | refine LeO.bind ?_ (fun _ => ?_)
set_option maxHeartbeats 8000000 in
set_option maxRecDepth 100000 in
theorem mizmazetop_walks.calls (k : Nat)  (r : Bool) (w : World) (h : mizmazetop_walks.f k  = some r) :
  Calls Try.prog 30 #[] w fun e w' => e = .returned (.bool r) ∧ Below w.heap.size w w' := by
 have hu44 := Try.underlying44
 have hu38 := Try.underlying38
 have HB := Aside0.mk (Below.refl w.heap.size w)
 have H : ((maze_Walk.f k (([(([(⟨1, 0⟩ : S44)] : List (S44))), (([(⟨0, 0⟩ : S44)] : List (S44)))] : List (List (S44)))) 0 (([0, 0] : List Int))).bind fun bt579 => (if bt579.2 = 0 then ((mizmazetop_sameInts.f k bt579.1 (([0, 1, 0] : List Int))).bind fun t586 => (some t586)) else (none))) = some r := h
 clear h
 obtain ⟨y567, hy567⟩ : ∃ y_ : List (S44), y_ = (([(⟨1, 0⟩ : S44)] : List (S44))) := ⟨_, rfl⟩
 replace H : ((maze_Walk.f k (([y567, (([(⟨0, 0⟩ : S44)] : List (S44)))] : List (List (S44)))) 0 (([0, 0] : List Int))).bind fun bt579 => (if bt579.2 = 0 then ((mizmazetop_sameInts.f k bt579.1 (([0, 1, 0] : List Int))).bind fun t586 => (some t586)) else (none))) = some r := by first | (rw [hy567]; with_reducible exact H) | (have H2_ := (Option.bind_some _ _).symm.trans H; rw [hy567]; with_reducible exact H2_) | (have H2_ := (Option.bind_some _ _).symm.trans H; with_reducible exact H2_) | with_reducible exact H | (rw [hy567]; exact H) | exact H
 have Ny567 := Aside0.mk hy567
 clear hy567
 obtain ⟨y570, hy570⟩ : ∃ y_ : List (S44), y_ = (([(⟨0, 0⟩ : S44)] : List (S44))) := ⟨_, rfl⟩
 replace H : ((maze_Walk.f k (([y567, y570] : List (List (S44)))) 0 (([0, 0] : List Int))).bind fun bt579 => (if bt579.2 = 0 then ((mizmazetop_sameInts.f k bt579.1 (([0, 1, 0] : List Int))).bind fun t586 => (some t586)) else (none))) = some r := by first | (rw [hy570]; with_reducible exact H) | (have H2_ := (Option.bind_some _ _).symm.trans H; rw [hy570]; with_reducible exact H2_) | (have H2_ := (Option.bind_some _ _).symm.trans H; with_reducible exact H2_) | with_reducible exact H | (rw [hy570]; exact H) | exact H
 have Ny570 := Aside0.mk hy570
 clear hy570
 obtain ⟨y573, hy573⟩ : ∃ y_ : List (List (S44)), y_ = (([y567, y570] : List (List (S44)))) := ⟨_, rfl⟩
 replace H : ((maze_Walk.f k y573 0 (([0, 0] : List Int))).bind fun bt579 => (if bt579.2 = 0 then ((mizmazetop_sameInts.f k bt579.1 (([0, 1, 0] : List Int))).bind fun t586 => (some t586)) else (none))) = some r := by first | (rw [hy573]; with_reducible exact H) | (have H2_ := (Option.bind_some _ _).symm.trans H; rw [hy573]; with_reducible exact H2_) | (have H2_ := (Option.bind_some _ _).symm.trans H; with_reducible exact H2_) | with_reducible exact H | (rw [hy573]; exact H) | exact H
 have Ny573 := Aside0.mk hy573
 clear hy573
 obtain ⟨y576, hy576⟩ : ∃ y_ : List Int, y_ = (([0, 0] : List Int)) := ⟨_, rfl⟩
 replace H : ((maze_Walk.f k y573 0 y576).bind fun bt579 => (if bt579.2 = 0 then ((mizmazetop_sameInts.f k bt579.1 (([0, 1, 0] : List Int))).bind fun t586 => (some t586)) else (none))) = some r := by first | (rw [hy576]; with_reducible exact H) | (have H2_ := (Option.bind_some _ _).symm.trans H; rw [hy576]; with_reducible exact H2_) | (have H2_ := (Option.bind_some _ _).symm.trans H; with_reducible exact H2_) | with_reducible exact H | (rw [hy576]; exact H) | exact H
 have Ny576 := Aside0.mk hy576
 clear hy576
 replace H := Option.bind_eq_some_iff.mp H
 obtain ⟨⟨t579, t582⟩, A10, H⟩ := H
 replace H : (if t582 = 0 then ((mizmazetop_sameInts.f k t579 (([0, 1, 0] : List Int))).bind fun t586 => (some t586)) else (none)) = some r := H
 have A1 := Aside0.mk A10
 clear A10
 by_cases c2 : t582 = 0
 ·rw [if_pos c2] at H
  have c2b0 : (t582 == 0) = true := beq_iff_eq.mpr c2
  have c2b1 : (t582 != 0) = false := bne_eq_false_iff_eq.mpr c2
  clear c2
  obtain ⟨y583, hy583⟩ : ∃ y_ : List Int, y_ = (([0, 1, 0] : List Int)) := ⟨_, rfl⟩
  replace H : ((mizmazetop_sameInts.f k t579 y583).bind fun t586 => (some t586)) = some r := by first | (rw [hy583]; with_reducible exact H) | (have H2_ := (Option.bind_some _ _).symm.trans H; rw [hy583]; with_reducible exact H2_) | (have H2_ := (Option.bind_some _ _).symm.trans H; with_reducible exact H2_) | with_reducible exact H | (rw [hy583]; exact H) | exact H
  have Ny583 := Aside0.mk hy583
  clear hy583
  replace H := Option.bind_eq_some_iff.mp H
  obtain ⟨t586, A30, H⟩ := H
  replace H : (some t586) = some r := H
  have A3 := Aside0.mk A30
  clear A30
  obtain rfl := Option.some.inj H
  go_enter Try.func30, Try.ntmps30
  go_wp2_with (first | ((with_reducible refine gate_dst (N := 5) rfl ?_); (try (refine gate_guard (by rfl) ?_; dsimp only)); refine Kd.R_lit k44 _ 44 ?hg (N := 5) ?hd (xs := ([(⟨1, 0⟩ : S44)] : List (S44))) (inner := [.int .i64 1, .int .i64 0]) (ok := fun _ => True) (okp := fun _ => True) ?hr ?hp (fun _ hk => hk) trivial (Below.refl _ _) (Nat.le_refl _) (by simp) ?_; (case hd => rfl); (case hg => rfl); (case hr => first | (go_simp; done) | (go_simp; rfl)); (case hp => exact (Reps.c2 (show Kd.M k44 _ _ _ (⟨1, 0⟩ : S44) [.int .i64 1, .int .i64 0] from (k44_mkM _ _ _ (⟨1, 0⟩ : S44) )) (Reps.none _ _))); intro v568 w4 ho5 hb hg_ hnew_; clear hg_ hnew_; (first | rw [← Ny567.out] at ho5 | (simp only [Int.reduceToNat] at ho5; rw [← Ny567.out] at ho5)); have n0_ := Aside0.mk (Kd.R_lower ho5 (below_size (by repeat (first | (with_reducible first | exact HB.out | apply below_alloc | apply pw_below_drewN | apply below_drew1) | exact HB.out)))); have n1_ := Aside0.mk (below_step (by repeat (first | (with_reducible first | exact HB.out | apply below_alloc | apply pw_below_drewN | apply below_drew1) | exact HB.out)) hb); clear HB; have HO569 := n0_; have HB := n1_; clear n0_ n1_; clear hb ho5) | ((with_reducible refine gate_dst (N := 7) rfl ?_); (try (refine gate_guard (by rfl) ?_; dsimp only)); refine Kd.R_lit k44 _ 44 ?hg (N := 7) ?hd (xs := ([(⟨0, 0⟩ : S44)] : List (S44))) (inner := [.int .i64 0, .int .i64 0]) (ok := fun _ => True) (okp := fun _ => True) ?hr ?hp (fun _ hk => hk) trivial (Below.refl _ _) (Nat.le_refl _) (by simp) ?_; (case hd => rfl); (case hg => rfl); (case hr => first | (go_simp; done) | (go_simp; rfl)); (case hp => exact (Reps.c2 (show Kd.M k44 _ _ _ (⟨0, 0⟩ : S44) [.int .i64 0, .int .i64 0] from (k44_mkM _ _ _ (⟨0, 0⟩ : S44) )) (Reps.none _ _))); intro v571 w6 ho7 hb hg_ hnew_; clear hg_ hnew_; (first | rw [← Ny570.out] at ho7 | (simp only [Int.reduceToNat] at ho7; rw [← Ny570.out] at ho7)); have n0_ := Aside0.mk (Kd.R_elder' (by (with_reducible repeat (first | apply Kd.R_alloc | apply Kd.R_drewN | apply Kd.R_drew)); exact HO569.out) (Kd.R_base ho7) hb); have n1_ := Aside0.mk (Kd.R_lower (Kd.R_new' ho7 (Kd.R_lt (by (with_reducible repeat (first | apply Kd.R_alloc | apply Kd.R_drewN | apply Kd.R_drew)); exact HO569.out))) (below_size (by repeat (first | (with_reducible first | exact HB.out | apply below_alloc | apply pw_below_drewN | apply below_drew1) | exact HB.out)))); have n2_ := Aside0.mk (below_step (by repeat (first | (with_reducible first | exact HB.out | apply below_alloc | apply pw_below_drewN | apply below_drew1) | exact HB.out)) hb); clear HO569; clear HB; have HO569 := n0_; have HO572 := n1_; have HB := n2_; clear n0_ n1_ n2_; clear hb ho7; obtain ⟨Ao8, co8, eo8⟩ := Kd.R_slice HO569.out; subst eo8; obtain ⟨Ao9, co9, eo9⟩ := Kd.R_slice HO572.out; subst eo9) | ((with_reducible refine gate_dst (N := 8) rfl ?_); (try (refine gate_guard (by rfl) ?_; dsimp only)); refine Kd.N_lit (Kd.slice 44 k44) _ 40 ?hg (N' := 8) ?hd (xs := ([y567, y570] : List (List (S44)))) (inner := [.slice Ao8 y567.length co8, .slice Ao9 y570.length co9]) (ok := (fun _ => True)) (okp := (fun _ => True)) ?hr ?hp (fun _ hk => hk) ((show ∀ k_, w6.heap.size ≤ k_ → (fun _ => True) k_ from fun k_ hk => trivial) _ (Nat.le_refl _)) (Below.refl _ _) (Nat.le_refl _) (by simp) ?_; (case hd => rfl); (case hg => rfl); (case hr => first | (go_simp; done) | (go_simp; rfl)); (case hp => exact (Reps.one (show Kd.FK (Kd.slice 44 k44) _ _ y567 [.slice Ao8 y567.length co8] from (Kd.FK_slice_mk (Kd.R_reads' (Kd.R_mono (ok' := (fun _ => True)) (HO569.out) (fun k_ hk => trivial))).2.1 (Kd.R_F (Kd.R_mono (ok' := (fun _ => True)) (HO569.out) (fun k_ hk => trivial))))) (Reps.one (show Kd.FK (Kd.slice 44 k44) _ _ y570 [.slice Ao9 y570.length co9] from (Kd.FK_slice_mk (Kd.R_reads' (Kd.R_mono (ok' := (fun _ => True)) (HO572.out) (fun k_ hk => trivial))).2.1 (Kd.R_F (Kd.R_mono (ok' := (fun _ => True)) (HO572.out) (fun k_ hk => trivial))))) (Reps.none _ _)))); intro v574 w10 ho11 hb hg_ hnew_; clear hg_ hnew_; (first | rw [← Ny573.out] at ho11 | (simp only [Int.reduceToNat] at ho11; rw [← Ny573.out] at ho11)); have n0_ := Aside0.mk (Kd.N_lower ho11 (below_size (by repeat (first | (with_reducible first | exact HB.out | apply below_alloc | apply pw_below_drewN | apply below_drew1) | exact HB.out)))); have n1_ := Aside0.mk (below_step (by repeat (first | (with_reducible first | exact HB.out | apply below_alloc | apply pw_below_drewN | apply below_drew1) | exact HB.out)) hb); clear HB; clear HO569; clear HO572; have HO575 := n0_; have HB := n1_; clear n0_ n1_; clear hb ho11; obtain ⟨Ao12, co12, eo12⟩ := Kd.N_slice HO575.out; subst eo12) | ((with_reducible refine gate_dst (N := 10) rfl ?_); (try (refine gate_guard (by rfl) ?_; dsimp only)); refine Kd.R_lit (Kd.int .i64) _ 3 ?hg (N := 10) ?hd (xs := ([0, 0] : List Int)) (inner := [.int .i64 0, .int .i64 0]) (ok := fun _ => True) (okp := fun _ => True) ?hr ?hp (fun _ hk => hk) trivial (Below.refl _ _) (Nat.le_refl _) (by simp) ?_; (case hd => rfl); (case hg => rfl); (case hr => first | (go_simp; done) | (go_simp; rfl)); (case hp => exact (Reps.one (show Kd.M (Kd.int .i64) _ _ _ 0 [.int .i64 0] from rfl) (Reps.one (show Kd.M (Kd.int .i64) _ _ _ 0 [.int .i64 0] from rfl) (Reps.none _ _)))); intro v577 w13 ho14 hb hg_ hnew_; clear hg_ hnew_; (first | rw [← Ny576.out] at ho14 | (simp only [Int.reduceToNat] at ho14; rw [← Ny576.out] at ho14)); have n0_ := Aside0.mk (Kd.N_elder' (by (with_reducible repeat (first | apply Kd.N_alloc | apply Kd.N_drewN | apply Kd.N_drew)); exact HO575.out) (Kd.R_base ho14) hb); have n1_ := Aside0.mk (Kd.R_lower ho14 (below_size (by repeat (first | (with_reducible first | exact HB.out | apply below_alloc | apply pw_below_drewN | apply below_drew1) | exact HB.out)))); have n2_ := Aside0.mk (below_step (by repeat (first | (with_reducible first | exact HB.out | apply below_alloc | apply pw_below_drewN | apply below_drew1) | exact HB.out)) hb); clear HO575; clear HB; have HO575 := n0_; have HO578 := n1_; have HB := n2_; clear n0_ n1_ n2_; clear hb ho14; obtain ⟨Ao15, co15, eo15⟩ := Kd.R_slice HO578.out; subst eo15) | ((with_reducible refine gate_callee (f := 22) rfl ?_); refine goesL_ (some 11) rfl rfl Try.func22 (by kernel_rfl) rfl #[.agg #[.slice Ao12 y573.length co12], .int .i64 0, .slice Ao15 y576.length co15] rfl (by (try simp only [List.map_toArray, List.map_cons, List.map_nil]); first | done | rfl | (simp only [List.length_drop, List.length_take]; rfl)) ?_; (with_reducible refine (maze_Walk.calls k _ _ y573 0 _ _ y576 t579 t582 _ ?side1 ?side2 ?side3 ?side4 A1.out).mono ?_); (case side1 => repeat (first | exact (Kd.N_reads' HO575.out).2.2 | (with_reducible refine Kd.C_alloc ?_ _) | (with_reducible refine Kd.C_drewN ?_ _) | (with_reducible refine Kd.C_drew ?_))); (case side2 => exact (Kd.N_reads' HO575.out).2.1); (case side3 => repeat (first | exact (Kd.R_reads' HO578.out).2.2 | (with_reducible refine Kd.C_alloc ?_ _) | (with_reducible refine Kd.C_drewN ?_ _) | (with_reducible refine Kd.C_drew ?_))); (case side4 => exact (Kd.R_reads' HO578.out).2.1); rintro e w16 ⟨v580, rfl, ho0, hb⟩; refine ⟨_, rfl, ?_⟩; have n0_ := Aside0.mk (Kd.N_elder' (by (with_reducible repeat (first | apply Kd.N_alloc | apply Kd.N_drewN | apply Kd.N_drew)); exact HO575.out) (Kd.R_base ho0) hb); have n1_ := Aside0.mk (Kd.R_elder' (by (with_reducible repeat (first | apply Kd.R_alloc | apply Kd.R_drewN | apply Kd.R_drew)); exact HO578.out) (Kd.R_base ho0) hb); have n2_ := Aside0.mk (Kd.R_lower (Kd.R_new' ho0 (Kd.R_lt (by (with_reducible repeat (first | apply Kd.R_alloc | apply Kd.R_drewN | apply Kd.R_drew)); exact HO578.out))) (below_size (by repeat (first | (with_reducible first | exact HB.out | apply below_alloc | apply pw_below_drewN | apply below_drew1) | exact HB.out)))); have n3_ := Aside0.mk (below_step (by repeat (first | (with_reducible first | exact HB.out | apply below_alloc | apply pw_below_drewN | apply below_drew1) | exact HB.out)) hb); clear HO575; clear HO578; clear HB; have HO575 := n0_; have HO578 := n1_; have HO581 := n2_; have HB := n3_; clear n0_ n1_ n2_ n3_; (try clear hb); (try clear hb2); (try clear hk); (try clear hi); (try clear ho0)) | ((with_reducible refine gate_dst (N := 18) rfl ?_); (try (refine gate_guard (by rfl) ?_; dsimp only)); refine Kd.R_lit (Kd.int .i64) _ 3 ?hg (N := 18) ?hd (xs := ([0, 1, 0] : List Int)) (inner := [.int .i64 0, .int .i64 1, .int .i64 0]) (ok := fun _ => True) (okp := fun _ => True) ?hr ?hp (fun _ hk => hk) trivial (Below.refl _ _) (Nat.le_refl _) (by simp) ?_; (case hd => rfl); (case hg => rfl); (case hr => first | (go_simp; done) | (go_simp; rfl)); (case hp => exact (Reps.one (show Kd.M (Kd.int .i64) _ _ _ 0 [.int .i64 0] from rfl) (Reps.one (show Kd.M (Kd.int .i64) _ _ _ 1 [.int .i64 1] from rfl) (Reps.one (show Kd.M (Kd.int .i64) _ _ _ 0 [.int .i64 0] from rfl) (Reps.none _ _))))); intro v584 w17 ho18 hb hg_ hnew_; clear hg_ hnew_; (first | rw [← Ny583.out] at ho18 | (simp only [Int.reduceToNat] at ho18; rw [← Ny583.out] at ho18)); have n0_ := Aside0.mk (Kd.N_elder' (by (with_reducible repeat (first | apply Kd.N_alloc | apply Kd.N_drewN | apply Kd.N_drew)); exact HO575.out) (Kd.R_base ho18) hb); have n1_ := Aside0.mk (Kd.R_elder' (by (with_reducible repeat (first | apply Kd.R_alloc | apply Kd.R_drewN | apply Kd.R_drew)); exact HO578.out) (Kd.R_base ho18) hb); have n2_ := Aside0.mk (Kd.R_elder' (by (with_reducible repeat (first | apply Kd.R_alloc | apply Kd.R_drewN | apply Kd.R_drew)); exact HO581.out) (Kd.R_base ho18) hb); have n3_ := Aside0.mk (Kd.R_lower (Kd.R_new' (Kd.R_new' ho18 (Kd.R_lt (by (with_reducible repeat (first | apply Kd.R_alloc | apply Kd.R_drewN | apply Kd.R_drew)); exact HO578.out))) (Kd.R_lt (by (with_reducible repeat (first | apply Kd.R_alloc | apply Kd.R_drewN | apply Kd.R_drew)); exact HO581.out))) (below_size (by repeat (first | (with_reducible first | exact HB.out | apply below_alloc | apply pw_below_drewN | apply below_drew1) | exact HB.out)))); have n4_ := Aside0.mk (below_step (by repeat (first | (with_reducible first | exact HB.out | apply below_alloc | apply pw_below_drewN | apply below_drew1) | exact HB.out)) hb); clear HO575; clear HO578; clear HO581; clear HB; have HO575 := n0_; have HO578 := n1_; have HO581 := n2_; have HO585 := n3_; have HB := n4_; clear n0_ n1_ n2_ n3_ n4_; clear hb ho18; obtain ⟨Ao19, co19, eo19⟩ := Kd.R_slice HO581.out; subst eo19; obtain ⟨Ao20, co20, eo20⟩ := Kd.R_slice HO585.out; subst eo20) | (go_at_call 48; (with_reducible refine (mizmazetop_sameInts.calls k _ _ t579 _ _ y583 t586 _ ?side1 ?side2 ?side3 ?side4 A3.out).mono ?_); (case side1 => repeat (first | exact (Kd.R_reads' HO581.out).2.2 | (with_reducible refine Kd.C_alloc ?_ _) | (with_reducible refine Kd.C_drewN ?_ _) | (with_reducible refine Kd.C_drew ?_))); (case side2 => exact (Kd.R_reads' HO581.out).2.1); (case side3 => repeat (first | exact (Kd.R_reads' HO585.out).2.2 | (with_reducible refine Kd.C_alloc ?_ _) | (with_reducible refine Kd.C_drewN ?_ _) | (with_reducible refine Kd.C_drew ?_))); (case side4 => exact (Kd.R_reads' HO585.out).2.1); rintro e w' ⟨rfl, ⟨nd, rfl⟩⟩))
  go_ret
  exact ⟨by first | rfl | (simp [errW_none, errW_some] <;> rfl) | (simp [*, errW_none, errW_some] <;> rfl), by repeat (first | (with_reducible first | exact HB.out | apply below_alloc | apply pw_below_drewN | apply below_drew1) | exact HB.out)⟩
 ·rw [if_neg c2] at H
  exact absurd H (by simp)

end Go.Proofs.Ytgbjbgdnldklpaa.Q
end
/-! Part QTopVisited -/
section
-- Written by xprint.py, a program of this session's, over the kit's print. Lean checks it.
namespace Go.Proofs.Ytgbjbgdnldklpaa.Q
open Go.RowKit Go.Proofs.YtgbjbgdnldklpaaW.PrintWords Go.Proofs.YtgbjbgdnldklpaaW.PrintLast Go.Proofs.YtgbjbgdnldklpaaW.PrintMore
attribute [local go_sem] max2_int min2_int max_two min_two max_three min_three max_four min_four
set_option linter.unusedVariables false
set_option linter.unusedSimpArgs false

/-! ### mizmazetop_visited: function 32 -/
theorem mizmazetop_visited.cell_at {w w1 : World} {n : Nat} {a : Addr} {v : Option Value} (h : w.drewN n = w1) (k : w.cell? a = v) : w1.cell? a = v := by rw [← h]; exact k
def mizmazetop_visited.l0 : Nat → Int → List Int → List Bool → Int → Int → List (List (S44)) → Option (Int)
 | 0, _, _, _, _, _, _ => none
 | k + 1, x1, x2, x7, x8, x9, x588000 => if x9 < (x2.length : Int) then (if 0 ≤ x1 then (if x1 < (x588000.length : Int) then (if 0 ≤ x9 then (if 0 ≤ (rd x2 x9) then (if (rd x2 x9) < ((rd_L4 x588000 x1).length : Int) then (if 0 ≤ ((rd_T44 (rd_L4 x588000 x1) (rd x2 x9)).f0) then (if ((rd_T44 (rd_L4 x588000 x1) (rd x2 x9)).f0) < (x7.length : Int) then (if (rdOf false x7 ((rd_T44 (rd_L4 x588000 x1) (rd x2 x9)).f0) = true) then (mizmazetop_visited.l0 k ((rd_T44 (rd_L4 x588000 x1) (rd x2 x9)).f0) x2 (x7.set (((rd_T44 (rd_L4 x588000 x1) (rd x2 x9)).f0) : Int).toNat true) x8 (wrap64 (x9 + 1)) x588000) else (mizmazetop_visited.l0 k ((rd_T44 (rd_L4 x588000 x1) (rd x2 x9)).f0) x2 (x7.set (((rd_T44 (rd_L4 x588000 x1) (rd x2 x9)).f0) : Int).toNat true) (wrap64 (x8 + 1)) (wrap64 (x9 + 1)) x588000)) else (none)) else (none)) else (none)) else (none)) else (none)) else (none)) else (none)) else (some x8)
def mizmazetop_visited.f (k : Nat) (l0_0 : List (List (S44))) (a1 : Int) (l2 : List Int) : Option (Int) := if 0 ≤ (l0_0.length : Int) then (if ((l0_0.length : Int) : Int).toNat ≤ 281474976710656 then ((some (List.replicate ((l0_0.length : Int) : Int).toNat false : List Bool)).bind fun y588 => (if 0 ≤ a1 then (if a1 < (y588.length : Int) then (mizmazetop_visited.l0 k a1 l2 (y588.set (a1 : Int).toNat true) 1 0 l0_0) else (none)) else (none))) else (none)) else (none)
theorem mizmazetop_visited.mono_l : ∀ k, (∀ y0 y1 y2 y3 y4 y5, LeO (mizmazetop_visited.l0 k y0 y1 y2 y3 y4 y5) (mizmazetop_visited.l0 (k + 1) y0 y1 y2 y3 y4 y5))
 | 0 => fun _ _ _ _ _ _ r h => by simp [mizmazetop_visited.l0] at h
 | k + 1 => by
  have ih0 := mizmazetop_visited.mono_l k
  ·intro y0 y1 y2 y3 y4 y5
   unfold mizmazetop_visited.l0
   repeat' first
   | (with_reducible exact ih0 _ _ _ _ _ _)
   | (with_reducible exact LeO.refl _)
   | (with_reducible exact LeO.none _)
   | (with_reducible refine LeO.ite ?_ ?_)
   | (with_reducible refine LeO.bind ?_ (fun _ => ?_))
   | exact ih0 _ _ _ _ _ _
   | exact LeO.none _
   | refine LeO.ite ?_ ?_
   | refine LeO.bind ?_ (fun _ => ?_)
theorem mizmazetop_visited.mono : ∀ a0 a1 a2 k, LeO (mizmazetop_visited.f k a0 a1 a2) (mizmazetop_visited.f (k + 1) a0 a1 a2) := by
 intro a0 a1 a2 k
 have ih0 := mizmazetop_visited.mono_l k
 unfold mizmazetop_visited.f
 repeat' first
   | (with_reducible exact ih0 _ _ _ _ _ _)
   | (with_reducible exact LeO.refl _)
   | (with_reducible exact LeO.none _)
   | (with_reducible refine LeO.ite ?_ ?_)
   | (with_reducible refine LeO.bind ?_ (fun _ => ?_))
   | exact ih0 _ _ _ _ _ _
   | exact LeO.none _
   | refine LeO.ite ?_ ?_
   | refine LeO.bind ?_ (fun _ => ?_)
set_option maxHeartbeats 8000000 in
set_option maxRecDepth 100000 in
theorem mizmazetop_visited.calls (k : Nat) (A0_0 : Option Addr) (c0_0 : Nat) (l0_0 : List (List (S44))) (a1 : Int) (A2 : Option Addr) (c2 : Nat) (l2 : List Int) (r : Int) (w : World) (hr0_0 : Kd.C (Kd.slice 44 k44) w A0_0 l0_0.length l0_0) (hc0_0 : l0_0.length ≤ c0_0) (hr2 : Kd.C (Kd.int .i64) w A2 l2.length l2) (hc2 : l2.length ≤ c2) (h : mizmazetop_visited.f k l0_0 a1 l2 = some r) :
  Calls Try.prog 32 #[.agg #[.slice A0_0 l0_0.length c0_0], .int .i64 a1, .slice A2 l2.length c2] w fun e w' => e = .returned (.int .i64 r) ∧ Below w.heap.size w w' := by
 have hu38 := Try.underlying38
 have HR0_0 := Aside0.mk hr0_0
 have HC0_0 := Aside0.mk hc0_0
 clear hr0_0 hc0_0
 have HR2 := Aside0.mk hr2
 have HC2 := Aside0.mk hc2
 clear hr2 hc2
 have HB := Aside0.mk (Below.refl w.heap.size w)
 have H : (if 0 ≤ (l0_0.length : Int) then (if ((l0_0.length : Int) : Int).toNat ≤ 281474976710656 then ((some (List.replicate ((l0_0.length : Int) : Int).toNat false : List Bool)).bind fun y588 => (if 0 ≤ a1 then (if a1 < (y588.length : Int) then (mizmazetop_visited.l0 k a1 l2 (y588.set (a1 : Int).toNat true) 1 0 l0_0) else (none)) else (none))) else (none)) else (none)) = some r := h
 clear h
 by_cases c4 : 0 ≤ (l0_0.length : Int)
 ·rw [if_pos c4] at H
  have c4b0 := eq_true c4
  have c4b1 : decide (0 ≤ (l0_0.length : Int)) = true := decide_eq_true c4
  clear c4
  by_cases c5 : ((l0_0.length : Int) : Int).toNat ≤ 281474976710656
  ·rw [if_pos c5] at H
   have c5b0 := eq_true c5
   have c5b1 : decide (((l0_0.length : Int) : Int).toNat ≤ 281474976710656) = true := decide_eq_true c5
   clear c5
   obtain ⟨y588, hy588⟩ : ∃ y_ : List Bool, y_ = (List.replicate ((l0_0.length : Int) : Int).toNat false) := ⟨_, rfl⟩
   replace H : (if 0 ≤ a1 then (if a1 < (y588.length : Int) then (mizmazetop_visited.l0 k a1 l2 (y588.set (a1 : Int).toNat true) 1 0 l0_0) else (none)) else (none)) = some r := by first | (rw [hy588]; with_reducible exact H) | (have H2_ := (Option.bind_some _ _).symm.trans H; rw [hy588]; with_reducible exact H2_) | (have H2_ := (Option.bind_some _ _).symm.trans H; with_reducible exact H2_) | with_reducible exact H | (rw [hy588]; exact H) | exact H
   have Ny588 := Aside0.mk hy588
   clear hy588
   by_cases c6 : 0 ≤ a1
   ·rw [if_pos c6] at H
    have c6b0 : decide (0 ≤ a1) = true := decide_eq_true c6
    clear c6
    by_cases c7 : a1 < (y588.length : Int)
    ·rw [if_pos c7] at H
     have c7b0 : decide (a1 < (y588.length : Int)) = true := decide_eq_true c7
     clear c7
     obtain ⟨y591, hy591⟩ : ∃ y_ : List Bool, y_ = (y588.set (a1 : Int).toNat true) := ⟨_, rfl⟩
     replace H : (mizmazetop_visited.l0 k a1 l2 y591 1 0 l0_0) = some r := by first | (rw [hy591]; with_reducible exact H) | (have H2_ := (Option.bind_some _ _).symm.trans H; rw [hy591]; with_reducible exact H2_) | (have H2_ := (Option.bind_some _ _).symm.trans H; with_reducible exact H2_) | with_reducible exact H | (rw [hy591]; exact H) | exact H
     have Ny591 := Aside0.mk hy591
     clear hy591
     have H' := Aside0.mk H
     clear H
     go_enter Try.func32, Try.ntmps32
     go_wp2_with (first | ((with_reducible refine gate_dst (N := 3) rfl ?_); refine box_event ?hg (N := 3) ?hd (cs := #[.slice A0_0 l0_0.length c0_0]) (t := 38) ?hr ?_; (case hd => rfl); (case hg => rfl); (case hr => first | (go_simp; done) | (go_simp; rfl)); intro gb587 hg w9 hbox hb; have n0_ := Aside0.mk (below_step (by repeat (first | (with_reducible first | exact HB.out | apply below_alloc | apply pw_below_drewN | apply below_drew1) | exact HB.out)) hb); have n1_ := Aside0.mk (hbox); have n2_ := Aside0.mk ((by rw [hg]; exact (below_size (by repeat (first | (with_reducible first | exact HB.out | apply below_alloc | apply pw_below_drewN | apply below_drew1) | exact HB.out))) : w.heap.size ≤ gb587)); have n3_ := Aside0.mk ((by rw [hg]; exact (below_size (by repeat (first | (with_reducible first | exact HB.out | apply below_alloc | apply pw_below_drewN | apply below_drew1) | exact HB.out))) : w.heap.size ≤ gb587)); clear HB; have HB := n0_; have BK587 := n1_; have GW587 := n2_; have GE587 := n3_; clear n0_ n1_ n2_ n3_; clear hb hbox hg; have hcz10_0 : w9.cell? ⟨gb587, 0, none⟩ = some (.slice A0_0 l0_0.length c0_0) := (blk_cell BK587.out 0).trans rfl; have hfz10_0 := blk_frozen BK587.out 0) | ((with_reducible refine gate_dst (N := 13) rfl ?_); refine Kd.R_make Kd.bool _ 4 rfl (N := 13) rfl 73 _ _ rfl (l0_0.length : Int) rfl rfl Try.underlying73 (.bool false) 1 info4 rfl (by decide) (by omega) false (ok := fun _ => True) (okp := fun _ => True) rfl (fun _ hk => hk) trivial (of_decide_eq_true (by first | (with_reducible assumption) | assumption)) (Nat.le_trans (Nat.mul_le_mul_right _ (of_decide_eq_true (by first | (with_reducible assumption) | assumption) : (l0_0.length : Int).toNat ≤ 281474976710656)) (by omega)) (Below.refl _ _) (Nat.le_refl _) ?_; intro v589 w11 ho12 hb hg_ hnew_; clear hg_ hnew_; (first | rw [← Ny588.out] at ho12 | (simp only [Int.reduceToNat] at ho12; rw [← Ny588.out] at ho12)); have n0_ := Aside0.mk (Kd.R_lower ho12 (below_size (by repeat (first | (with_reducible first | exact HB.out | apply below_alloc | apply pw_below_drewN | apply below_drew1 | refine below_set ?_ GE587.out) | exact HB.out)))); have n1_ := Aside0.mk (blk_below (g := gb587) (o := .cells #[.slice A0_0 l0_0.length c0_0] 38 (0, 0)) (by (with_reducible repeat (first | refine blk_drewN ?_ _ | refine blk_drew ?_ | refine blk_alloc ?_ _)); exact BK587.out) hb); have n2_ := Aside0.mk (below_step (by repeat (first | (with_reducible first | exact HB.out | apply below_alloc | apply pw_below_drewN | apply below_drew1 | refine below_set ?_ GE587.out) | exact HB.out)) hb); clear BK587; clear HB; have HO590 := n0_; have BK587 := n1_; have HB := n2_; clear n0_ n1_ n2_; clear hb ho12; have p8 : 0 ≤ (a1 : Int) := of_decide_eq_true (by first | (with_reducible assumption) | assumption); have q8 : (a1 : Int) < ((y588.length : Int) : Int) := of_decide_eq_true (by first | (with_reducible assumption) | assumption); obtain ⟨go8, co8, eo8, gb8, gl8, cl8, HG8⟩ := Kd.R_form HO590.out (by omega); (first | cases eo8 | (injection eo8 with ea_ en_ ec_; (first | subst ea_ | (injection ea_ with ea_; subst ea_)); subst ec_; clear en_)); have GB8 := Aside0.mk gb8; have GG8 := Aside0.mk HG8; clear gb8 gl8 HG8; obtain ⟨hx8_0, hf8_0⟩ := Kd.R_celln false HO590.out (a1 : Int) p8 q8; replace p8 := eq_true p8; replace q8 := eq_true q8; obtain ⟨hy13_, hz13_⟩ := Kd.R_celln false HO590.out (a1 : Int) (of_decide_eq_true (by first | (with_reducible assumption) | assumption)) (of_decide_eq_true (by first | (with_reducible assumption) | assumption)); have HP13 := Kd.R_putg HO590.out (a1 : Int) true) | ((with_reducible refine gate_store (t := 4) (p := 16) rfl ?_); (try (rw [drewN_self w11]; generalize hq_ : World.drewN w11 _ = w11; have n0_ := Aside0.mk (Kd.R_at hq_ HO590.out); have n1_ := Aside0.mk (blk_at hq_ BK587.out); have n2_ := Aside0.mk (below_at hq_ HB.out); clear hq_ HO590 BK587 HB; have HO590 := n0_; have BK587 := n1_; have HB := n2_; clear n0_ n1_ n2_; (try (obtain ⟨hy13_, hz13_⟩ := Kd.R_celln false HO590.out (a1 : Int) (of_decide_eq_true (by first | (with_reducible assumption) | assumption)) (of_decide_eq_true (by first | (with_reducible assumption) | assumption)))); (try (have HP13 := Kd.R_putg HO590.out (a1 : Int) true)))); refine store_event (t := 4) (p := 16) (v := ?vo_w14) (w1 := (w11.setCell ⟨go8, (a1 : Int).toNat, none⟩ (.bool true))) ?hg ?ho ?hn ?hr ?_; (case ho => rfl); (case hg => rfl); (case hn => rfl); (case hr => first | (go_simp; done) | (go_simp; rfl)); intro w14 hw; have hg : w11.grownBy w14 (some go8) := (by rw [hw]; exact HP13.2); have hp_ : Kd.R Kd.bool 4 w14 w.heap.size (fun _ => True) (.slice (some ⟨go8, 0, none⟩) y588.length co8) y591 := (by rw [hw, Ny591.out]; exact HP13.1); clear HP13; have n0_ := Aside0.mk (blk_grown (g := gb587) (o := .cells #[.slice A0_0 l0_0.length c0_0] 38 (0, 0)) (by (with_reducible repeat (first | refine blk_drewN ?_ _ | refine blk_drew ?_ | refine blk_alloc ?_ _)); exact BK587.out) hg (Kd.R_ne HO590.out BK587.out (by decide))); have n1_ := Aside0.mk (hp_); have n2_ := Aside0.mk ((by rw [hw]; exact below_set (HB.out) GB8.out : Below w.heap.size w w14)); clear BK587; clear HO590; clear HB; have BK587 := n0_; have HO590 := n1_; have HB := n2_; clear n0_ n1_ n2_; clear hg hw hp_))
     repeat (go_quiet (first | ((with_reducible refine gate_dst (N := 3) rfl ?_); refine box_event ?hg (N := 3) ?hd (cs := #[.slice A0_0 l0_0.length c0_0]) (t := 38) ?hr ?_; (case hd => rfl); (case hg => rfl); (case hr => first | (go_simp; done) | (go_simp; rfl)); intro gb587 hg w9 hbox hb; have n0_ := Aside0.mk (below_step (by repeat (first | (with_reducible first | exact HB.out | apply below_alloc | apply pw_below_drewN | apply below_drew1) | exact HB.out)) hb); have n1_ := Aside0.mk (hbox); have n2_ := Aside0.mk ((by rw [hg]; exact (below_size (by repeat (first | (with_reducible first | exact HB.out | apply below_alloc | apply pw_below_drewN | apply below_drew1) | exact HB.out))) : w.heap.size ≤ gb587)); have n3_ := Aside0.mk ((by rw [hg]; exact (below_size (by repeat (first | (with_reducible first | exact HB.out | apply below_alloc | apply pw_below_drewN | apply below_drew1) | exact HB.out))) : w.heap.size ≤ gb587)); clear HB; have HB := n0_; have BK587 := n1_; have GW587 := n2_; have GE587 := n3_; clear n0_ n1_ n2_ n3_; clear hb hbox hg; have hcz10_0 : w9.cell? ⟨gb587, 0, none⟩ = some (.slice A0_0 l0_0.length c0_0) := (blk_cell BK587.out 0).trans rfl; have hfz10_0 := blk_frozen BK587.out 0) | ((with_reducible refine gate_dst (N := 13) rfl ?_); refine Kd.R_make Kd.bool _ 4 rfl (N := 13) rfl 73 _ _ rfl (l0_0.length : Int) rfl rfl Try.underlying73 (.bool false) 1 info4 rfl (by decide) (by omega) false (ok := fun _ => True) (okp := fun _ => True) rfl (fun _ hk => hk) trivial (of_decide_eq_true (by first | (with_reducible assumption) | assumption)) (Nat.le_trans (Nat.mul_le_mul_right _ (of_decide_eq_true (by first | (with_reducible assumption) | assumption) : (l0_0.length : Int).toNat ≤ 281474976710656)) (by omega)) (Below.refl _ _) (Nat.le_refl _) ?_; intro v589 w11 ho12 hb hg_ hnew_; clear hg_ hnew_; (first | rw [← Ny588.out] at ho12 | (simp only [Int.reduceToNat] at ho12; rw [← Ny588.out] at ho12)); have n0_ := Aside0.mk (Kd.R_lower ho12 (below_size (by repeat (first | (with_reducible first | exact HB.out | apply below_alloc | apply pw_below_drewN | apply below_drew1 | refine below_set ?_ GE587.out) | exact HB.out)))); have n1_ := Aside0.mk (blk_below (g := gb587) (o := .cells #[.slice A0_0 l0_0.length c0_0] 38 (0, 0)) (by (with_reducible repeat (first | refine blk_drewN ?_ _ | refine blk_drew ?_ | refine blk_alloc ?_ _)); exact BK587.out) hb); have n2_ := Aside0.mk (below_step (by repeat (first | (with_reducible first | exact HB.out | apply below_alloc | apply pw_below_drewN | apply below_drew1 | refine below_set ?_ GE587.out) | exact HB.out)) hb); clear BK587; clear HB; have HO590 := n0_; have BK587 := n1_; have HB := n2_; clear n0_ n1_ n2_; clear hb ho12; have p8 : 0 ≤ (a1 : Int) := of_decide_eq_true (by first | (with_reducible assumption) | assumption); have q8 : (a1 : Int) < ((y588.length : Int) : Int) := of_decide_eq_true (by first | (with_reducible assumption) | assumption); obtain ⟨go8, co8, eo8, gb8, gl8, cl8, HG8⟩ := Kd.R_form HO590.out (by omega); (first | cases eo8 | (injection eo8 with ea_ en_ ec_; (first | subst ea_ | (injection ea_ with ea_; subst ea_)); subst ec_; clear en_)); have GB8 := Aside0.mk gb8; have GG8 := Aside0.mk HG8; clear gb8 gl8 HG8; obtain ⟨hx8_0, hf8_0⟩ := Kd.R_celln false HO590.out (a1 : Int) p8 q8; replace p8 := eq_true p8; replace q8 := eq_true q8; obtain ⟨hy13_, hz13_⟩ := Kd.R_celln false HO590.out (a1 : Int) (of_decide_eq_true (by first | (with_reducible assumption) | assumption)) (of_decide_eq_true (by first | (with_reducible assumption) | assumption)); have HP13 := Kd.R_putg HO590.out (a1 : Int) true) | ((with_reducible refine gate_store (t := 4) (p := 16) rfl ?_); (try (rw [drewN_self w11]; generalize hq_ : World.drewN w11 _ = w11; have n0_ := Aside0.mk (Kd.R_at hq_ HO590.out); have n1_ := Aside0.mk (blk_at hq_ BK587.out); have n2_ := Aside0.mk (below_at hq_ HB.out); clear hq_ HO590 BK587 HB; have HO590 := n0_; have BK587 := n1_; have HB := n2_; clear n0_ n1_ n2_; (try (obtain ⟨hy13_, hz13_⟩ := Kd.R_celln false HO590.out (a1 : Int) (of_decide_eq_true (by first | (with_reducible assumption) | assumption)) (of_decide_eq_true (by first | (with_reducible assumption) | assumption)))); (try (have HP13 := Kd.R_putg HO590.out (a1 : Int) true)))); refine store_event (t := 4) (p := 16) (v := ?vo_w14) (w1 := (w11.setCell ⟨go8, (a1 : Int).toNat, none⟩ (.bool true))) ?hg ?ho ?hn ?hr ?_; (case ho => rfl); (case hg => rfl); (case hn => rfl); (case hr => first | (go_simp; done) | (go_simp; rfl)); intro w14 hw; have hg : w11.grownBy w14 (some go8) := (by rw [hw]; exact HP13.2); have hp_ : Kd.R Kd.bool 4 w14 w.heap.size (fun _ => True) (.slice (some ⟨go8, 0, none⟩) y588.length co8) y591 := (by rw [hw, Ny591.out]; exact HP13.1); clear HP13; have n0_ := Aside0.mk (blk_grown (g := gb587) (o := .cells #[.slice A0_0 l0_0.length c0_0] 38 (0, 0)) (by (with_reducible repeat (first | refine blk_drewN ?_ _ | refine blk_drew ?_ | refine blk_alloc ?_ _)); exact BK587.out) hg (Kd.R_ne HO590.out BK587.out (by decide))); have n1_ := Aside0.mk (hp_); have n2_ := Aside0.mk ((by rw [hw]; exact below_set (HB.out) GB8.out : Below w.heap.size w w14)); clear BK587; clear HO590; clear HB; have BK587 := n0_; have HO590 := n1_; have HB := n2_; clear n0_ n1_ n2_; clear hg hw hp_)); try go_wp2_with (first | ((with_reducible refine gate_dst (N := 3) rfl ?_); refine box_event ?hg (N := 3) ?hd (cs := #[.slice A0_0 l0_0.length c0_0]) (t := 38) ?hr ?_; (case hd => rfl); (case hg => rfl); (case hr => first | (go_simp; done) | (go_simp; rfl)); intro gb587 hg w9 hbox hb; have n0_ := Aside0.mk (below_step (by repeat (first | (with_reducible first | exact HB.out | apply below_alloc | apply pw_below_drewN | apply below_drew1) | exact HB.out)) hb); have n1_ := Aside0.mk (hbox); have n2_ := Aside0.mk ((by rw [hg]; exact (below_size (by repeat (first | (with_reducible first | exact HB.out | apply below_alloc | apply pw_below_drewN | apply below_drew1) | exact HB.out))) : w.heap.size ≤ gb587)); have n3_ := Aside0.mk ((by rw [hg]; exact (below_size (by repeat (first | (with_reducible first | exact HB.out | apply below_alloc | apply pw_below_drewN | apply below_drew1) | exact HB.out))) : w.heap.size ≤ gb587)); clear HB; have HB := n0_; have BK587 := n1_; have GW587 := n2_; have GE587 := n3_; clear n0_ n1_ n2_ n3_; clear hb hbox hg; have hcz10_0 : w9.cell? ⟨gb587, 0, none⟩ = some (.slice A0_0 l0_0.length c0_0) := (blk_cell BK587.out 0).trans rfl; have hfz10_0 := blk_frozen BK587.out 0) | ((with_reducible refine gate_dst (N := 13) rfl ?_); refine Kd.R_make Kd.bool _ 4 rfl (N := 13) rfl 73 _ _ rfl (l0_0.length : Int) rfl rfl Try.underlying73 (.bool false) 1 info4 rfl (by decide) (by omega) false (ok := fun _ => True) (okp := fun _ => True) rfl (fun _ hk => hk) trivial (of_decide_eq_true (by first | (with_reducible assumption) | assumption)) (Nat.le_trans (Nat.mul_le_mul_right _ (of_decide_eq_true (by first | (with_reducible assumption) | assumption) : (l0_0.length : Int).toNat ≤ 281474976710656)) (by omega)) (Below.refl _ _) (Nat.le_refl _) ?_; intro v589 w11 ho12 hb hg_ hnew_; clear hg_ hnew_; (first | rw [← Ny588.out] at ho12 | (simp only [Int.reduceToNat] at ho12; rw [← Ny588.out] at ho12)); have n0_ := Aside0.mk (Kd.R_lower ho12 (below_size (by repeat (first | (with_reducible first | exact HB.out | apply below_alloc | apply pw_below_drewN | apply below_drew1 | refine below_set ?_ GE587.out) | exact HB.out)))); have n1_ := Aside0.mk (blk_below (g := gb587) (o := .cells #[.slice A0_0 l0_0.length c0_0] 38 (0, 0)) (by (with_reducible repeat (first | refine blk_drewN ?_ _ | refine blk_drew ?_ | refine blk_alloc ?_ _)); exact BK587.out) hb); have n2_ := Aside0.mk (below_step (by repeat (first | (with_reducible first | exact HB.out | apply below_alloc | apply pw_below_drewN | apply below_drew1 | refine below_set ?_ GE587.out) | exact HB.out)) hb); clear BK587; clear HB; have HO590 := n0_; have BK587 := n1_; have HB := n2_; clear n0_ n1_ n2_; clear hb ho12; have p8 : 0 ≤ (a1 : Int) := of_decide_eq_true (by first | (with_reducible assumption) | assumption); have q8 : (a1 : Int) < ((y588.length : Int) : Int) := of_decide_eq_true (by first | (with_reducible assumption) | assumption); obtain ⟨go8, co8, eo8, gb8, gl8, cl8, HG8⟩ := Kd.R_form HO590.out (by omega); (first | cases eo8 | (injection eo8 with ea_ en_ ec_; (first | subst ea_ | (injection ea_ with ea_; subst ea_)); subst ec_; clear en_)); have GB8 := Aside0.mk gb8; have GG8 := Aside0.mk HG8; clear gb8 gl8 HG8; obtain ⟨hx8_0, hf8_0⟩ := Kd.R_celln false HO590.out (a1 : Int) p8 q8; replace p8 := eq_true p8; replace q8 := eq_true q8; obtain ⟨hy13_, hz13_⟩ := Kd.R_celln false HO590.out (a1 : Int) (of_decide_eq_true (by first | (with_reducible assumption) | assumption)) (of_decide_eq_true (by first | (with_reducible assumption) | assumption)); have HP13 := Kd.R_putg HO590.out (a1 : Int) true) | ((with_reducible refine gate_store (t := 4) (p := 16) rfl ?_); (try (rw [drewN_self w11]; generalize hq_ : World.drewN w11 _ = w11; have n0_ := Aside0.mk (Kd.R_at hq_ HO590.out); have n1_ := Aside0.mk (blk_at hq_ BK587.out); have n2_ := Aside0.mk (below_at hq_ HB.out); clear hq_ HO590 BK587 HB; have HO590 := n0_; have BK587 := n1_; have HB := n2_; clear n0_ n1_ n2_; (try (obtain ⟨hy13_, hz13_⟩ := Kd.R_celln false HO590.out (a1 : Int) (of_decide_eq_true (by first | (with_reducible assumption) | assumption)) (of_decide_eq_true (by first | (with_reducible assumption) | assumption)))); (try (have HP13 := Kd.R_putg HO590.out (a1 : Int) true)))); refine store_event (t := 4) (p := 16) (v := ?vo_w14) (w1 := (w11.setCell ⟨go8, (a1 : Int).toNat, none⟩ (.bool true))) ?hg ?ho ?hn ?hr ?_; (case ho => rfl); (case hg => rfl); (case hn => rfl); (case hr => first | (go_simp; done) | (go_simp; rfl)); intro w14 hw; have hg : w11.grownBy w14 (some go8) := (by rw [hw]; exact HP13.2); have hp_ : Kd.R Kd.bool 4 w14 w.heap.size (fun _ => True) (.slice (some ⟨go8, 0, none⟩) y588.length co8) y591 := (by rw [hw, Ny591.out]; exact HP13.1); clear HP13; have n0_ := Aside0.mk (blk_grown (g := gb587) (o := .cells #[.slice A0_0 l0_0.length c0_0] 38 (0, 0)) (by (with_reducible repeat (first | refine blk_drewN ?_ _ | refine blk_drew ?_ | refine blk_alloc ?_ _)); exact BK587.out) hg (Kd.R_ne HO590.out BK587.out (by decide))); have n1_ := Aside0.mk (hp_); have n2_ := Aside0.mk ((by rw [hw]; exact below_set (HB.out) GB8.out : Below w.heap.size w w14)); clear BK587; clear HO590; clear HB; have BK587 := n0_; have HO590 := n1_; have HB := n2_; clear n0_ n1_ n2_; clear hg hw hp_)))
     go_loopg [1, 8, 9] k (fun kq v1 v8 v9 w' => ∃ (x1_1 : Int) (x7_1 : List Bool) (x8_1 : Int) (x9_1 : Int), v1 = .int .i64 x1_1 ∧ v8 = .int .i64 x8_1 ∧ v9 = .int .i64 x9_1 ∧ Aside0 (mizmazetop_visited.l0 kq x1_1 l2 x7_1 x8_1 x9_1 l0_0 = some r) ∧ Aside0 (kq ≤ k) ∧ Aside0 (Kd.R Kd.bool 4 w' w.heap.size (fun _ => True) (.slice (some ⟨go8, 0, none⟩) y588.length co8) x7_1) ∧ Aside0 (w'.heap[gb587]? = some (.cells #[(.slice A0_0 l0_0.length c0_0)] 38 (0, 0))) ∧ Aside0 (Below w.heap.size w w'))
     case atStart => exact ⟨(a1), (y591), (1), (0), (by first | rfl | (simp; done) | (simp [*]; done)), (by first | rfl | (simp; done) | (simp [*]; done)), (by first | rfl | (simp; done) | (simp [*]; done)), H', ⟨Nat.le_refl _⟩, ⟨by (with_reducible repeat (first | apply Kd.R_alloc | apply Kd.R_drewN | apply Kd.R_drew)); exact HO590.out⟩, ⟨by (with_reducible repeat (first | refine blk_drewN ?_ _ | refine blk_drew ?_ | refine blk_alloc ?_ _)); exact BK587.out⟩, ⟨by repeat (first | (with_reducible first | exact HB.out | apply below_alloc | apply pw_below_drewN | apply below_drew1 | refine below_set ?_ GE587.out) | exact HB.out)⟩⟩
     case round =>
      clear H'
      try clear c2
      try clear p2
      try clear c3
      try clear c4
      try clear c4b0
      try clear c4b1
      try clear c5
      try clear c5b0
      try clear c5b1
      try clear c6
      try clear c6b0
      try clear c7
      try clear c7b0
      try clear p8
      try clear q8
      try clear hx8
      try clear hf8
      try clear hcz10_0
      try clear hfz10_0
      try clear hx8_0
      try clear p8
      try clear q8
      obtain ⟨x1_1, x7_1, x8_1, x9_1, rfl, rfl, rfl, HA, HK1, HO_7, BK587, HB⟩ := hrel
      have hl7_1 := (Kd.R_reads' HO_7.out).1
      rw [hl7_1] at HO_7
      (try simp only [hl7_1])
      (try simp only [hl7_1] at BK587)
      cases gk with
      | zero => exact absurd HA.out (by simp [mizmazetop_visited.l0])
      | succ k1 =>
       have H := HA.out
       clear HA
       simp only [mizmazetop_visited.l0] at H
       by_cases c15 : x9_1 < (l2.length : Int)
       ·rw [if_pos c15] at H
        have c15b0 : decide (x9_1 < (l2.length : Int)) = true := decide_eq_true c15
        clear c15
        by_cases c16 : 0 ≤ x1_1
        ·rw [if_pos c16] at H
         have c16b0 : decide (0 ≤ x1_1) = true := decide_eq_true c16
         clear c16
         by_cases c17 : x1_1 < (l0_0.length : Int)
         ·rw [if_pos c17] at H
          have c17b0 : decide (x1_1 < (l0_0.length : Int)) = true := decide_eq_true c17
          clear c17
          by_cases c18 : 0 ≤ x9_1
          ·rw [if_pos c18] at H
           have c18b0 : decide (0 ≤ x9_1) = true := decide_eq_true c18
           clear c18
           by_cases c19 : 0 ≤ (rd l2 x9_1)
           ·rw [if_pos c19] at H
            have c19b0 : decide (0 ≤ (rd l2 x9_1)) = true := decide_eq_true c19
            clear c19
            by_cases c20 : (rd l2 x9_1) < ((rd_L4 l0_0 x1_1).length : Int)
            ·rw [if_pos c20] at H
             have c20b0 : decide ((rd l2 x9_1) < ((rd_L4 l0_0 x1_1).length : Int)) = true := decide_eq_true c20
             clear c20
             by_cases c21 : 0 ≤ ((rd_T44 (rd_L4 l0_0 x1_1) (rd l2 x9_1)).f0)
             ·rw [if_pos c21] at H
              have c21b0 : decide (0 ≤ ((rd_T44 (rd_L4 l0_0 x1_1) (rd l2 x9_1)).f0)) = true := decide_eq_true c21
              clear c21
              by_cases c22 : ((rd_T44 (rd_L4 l0_0 x1_1) (rd l2 x9_1)).f0) < (x7_1.length : Int)
              ·rw [if_pos c22] at H
               have c22b0 : decide (((rd_T44 (rd_L4 l0_0 x1_1) (rd l2 x9_1)).f0) < (x7_1.length : Int)) = true := decide_eq_true c22
               clear c22
               obtain ⟨bq23, hbq23⟩ : ∃ b_ : Bool, b_ = (rdOf false x7_1 ((rd_T44 (rd_L4 l0_0 x1_1) (rd l2 x9_1)).f0)) := ⟨_, rfl⟩
               replace H : (if (bq23 = true) then (mizmazetop_visited.l0 k1 ((rd_T44 (rd_L4 l0_0 x1_1) (rd l2 x9_1)).f0) l2 (x7_1.set (((rd_T44 (rd_L4 l0_0 x1_1) (rd l2 x9_1)).f0) : Int).toNat true) x8_1 (wrap64 (x9_1 + 1)) l0_0) else (mizmazetop_visited.l0 k1 ((rd_T44 (rd_L4 l0_0 x1_1) (rd l2 x9_1)).f0) l2 (x7_1.set (((rd_T44 (rd_L4 l0_0 x1_1) (rd l2 x9_1)).f0) : Int).toNat true) (wrap64 (x8_1 + 1)) (wrap64 (x9_1 + 1)) l0_0)) = some r := by rw [← hbq23] at H; exact H
               have Nbq23 := Aside0.mk hbq23
               clear hbq23
               by_cases c24 : (bq23 = true)
               ·subst c24
                have H1 : (mizmazetop_visited.l0 k1 ((rd_T44 (rd_L4 l0_0 x1_1) (rd l2 x9_1)).f0) l2 (x7_1.set (((rd_T44 (rd_L4 l0_0 x1_1) (rd l2 x9_1)).f0) : Int).toNat true) x8_1 (wrap64 (x9_1 + 1)) l0_0) = some r := by rw [if_pos rfl] at H; exact H
                clear H
                have H := H1
                clear H1
                obtain ⟨y596, hy596⟩ : ∃ y_ : List Bool, y_ = (x7_1.set (((rd_T44 (rd_L4 l0_0 x1_1) (rd l2 x9_1)).f0) : Int).toNat true) := ⟨_, rfl⟩
                replace H : (mizmazetop_visited.l0 k1 ((rd_T44 (rd_L4 l0_0 x1_1) (rd l2 x9_1)).f0) l2 y596 x8_1 (wrap64 (x9_1 + 1)) l0_0) = some r := by first | (rw [hy596]; with_reducible exact H) | (have H2_ := (Option.bind_some _ _).symm.trans H; rw [hy596]; with_reducible exact H2_) | (have H2_ := (Option.bind_some _ _).symm.trans H; with_reducible exact H2_) | with_reducible exact H | (rw [hy596]; exact H) | exact H
                have Ny596 := Aside0.mk hy596
                clear hy596
                have H' := Aside0.mk H
                clear H
                have hcz26_0 : wr.cell? ⟨gb587, 0, none⟩ = some (.slice A0_0 l0_0.length c0_0) := (blk_cell BK587.out 0).trans rfl
                have hfz26_0 := blk_frozen BK587.out 0
                have p592 : 0 ≤ (x1_1 : Int) := of_decide_eq_true (by first | (with_reducible assumption) | assumption)
                have q592 : x1_1 < (l0_0.length : Int) := of_decide_eq_true (by first | (with_reducible assumption) | assumption)
                obtain ⟨ad592, A592_0, c592_0, e592, hx592_0, hl592_0, hi592_0⟩ := at_L4 HR0_0.out x1_1 p592 q592
                cases e592
                replace hx592_0 := (HB.out.cell (World.block_lt_of_cell? w _ hx592_0)).trans hx592_0
                have HR592_0 := Aside0.mk hi592_0
                have HC592_0 := Aside0.mk hl592_0
                clear hi592_0 hl592_0
                replace p592 := eq_true p592
                replace q592 := eq_true q592
                have p593 : 0 ≤ (x9_1 : Int) := of_decide_eq_true (by first | (with_reducible assumption) | assumption)
                have q593 : x9_1 < (l2.length : Int) := of_decide_eq_true (by first | (with_reducible assumption) | assumption)
                obtain ⟨ad593, e593, hx593_0⟩ := Kd.at_int HR2.out x9_1 p593 q593
                cases e593
                replace hx593_0 := (HB.out.cell (World.block_lt_of_cell? w _ hx593_0)).trans hx593_0
                replace p593 := eq_true p593
                replace q593 := eq_true q593
                have p594 : 0 ≤ ((rd l2 x9_1) : Int) := of_decide_eq_true (by first | (with_reducible assumption) | assumption)
                have q594 : (rd l2 x9_1) < ((rd_L4 l0_0 x1_1).length : Int) := of_decide_eq_true (by first | (with_reducible assumption) | assumption)
                obtain ⟨ad594, e594, hx594_0, hx594_1⟩ := at_T44 HR592_0.out (rd l2 x9_1) p594 q594
                cases e594
                replace hx594_0 := (HB.out.cell (World.block_lt_of_cell? w _ hx594_0)).trans hx594_0
                replace hx594_1 := (HB.out.cell (World.block_lt_of_cell? w _ hx594_1)).trans hx594_1
                replace p594 := eq_true p594
                replace q594 := eq_true q594
                have p595 : 0 ≤ (((rd_T44 (rd_L4 l0_0 x1_1) (rd l2 x9_1)).f0) : Int) := of_decide_eq_true (by first | (with_reducible assumption) | assumption)
                have q595 : ((rd_T44 (rd_L4 l0_0 x1_1) (rd l2 x9_1)).f0) < (x7_1.length : Int) := of_decide_eq_true (by first | (with_reducible assumption) | assumption)
                obtain ⟨ad595, e595, hx595_0⟩ := Kd.at_bool (Kd.R_reads' HO_7.out).2.2 ((rd_T44 (rd_L4 l0_0 x1_1) (rd l2 x9_1)).f0) p595 q595
                (try rw [← Nbq23.out] at hx595_0)
                obtain rfl : (⟨go8, 0, none⟩ : Addr) = ad595 := (by injection e595)
                (first | simp only [add_plain] at hx595_0 | simp only [add_at] at hx595_0 | simp only [Addr.add, Nat.zero_add] at hx595_0 | skip)
                replace p595 := eq_true p595
                replace q595 := eq_true q595
                have p25 : 0 ≤ (((rd_T44 (rd_L4 l0_0 x1_1) (rd l2 x9_1)).f0) : Int) := of_decide_eq_true (by first | (with_reducible assumption) | assumption)
                have q25 : (((rd_T44 (rd_L4 l0_0 x1_1) (rd l2 x9_1)).f0) : Int) < ((x7_1.length : Int) : Int) := of_decide_eq_true (by first | (with_reducible assumption) | assumption)
                obtain ⟨hx25_0, hf25_0⟩ := Kd.R_celln false HO_7.out (((rd_T44 (rd_L4 l0_0 x1_1) (rd l2 x9_1)).f0) : Int) p25 q25
                replace p25 := eq_true p25
                replace q25 := eq_true q25
                have HP27 := Kd.R_putg HO_7.out (((rd_T44 (rd_L4 l0_0 x1_1) (rd l2 x9_1)).f0) : Int) true
                go_wp2_with (first | ((with_reducible refine gate_store (t := 4) (p := 44) rfl ?_); (try (rw [drewN_self wr]; generalize hq_ : World.drewN wr _ = wr; have n0_ := Aside0.mk (Kd.R_at hq_ HO_7.out); have n1_ := Aside0.mk (blk_at hq_ BK587.out); have n2_ := Aside0.mk (below_at hq_ HB.out); clear hq_ HO_7 BK587 HB; have HO_7 := n0_; have BK587 := n1_; have HB := n2_; clear n0_ n1_ n2_; (try (have HP27 := Kd.R_putg HO_7.out (((rd_T44 (rd_L4 l0_0 x1_1) (rd l2 x9_1)).f0) : Int) true)))); refine store_event (t := 4) (p := 44) (v := ?vo_w28) (w1 := (wr.setCell ⟨go8, (((rd_T44 (rd_L4 l0_0 x1_1) (rd l2 x9_1)).f0) : Int).toNat, none⟩ (.bool true))) ?hg ?ho ?hn ?hr ?_; (case ho => rfl); (case hg => rfl); (case hn => rfl); (case hr => first | (go_simp; done) | (go_simp; rfl)); intro w28 hw; have hg : wr.grownBy w28 (some go8) := (by rw [hw]; exact HP27.2); have hp_ : Kd.R Kd.bool 4 w28 w.heap.size (fun _ => True) (.slice (some ⟨go8, 0, none⟩) x7_1.length co8) y596 := (by rw [hw, Ny596.out]; exact HP27.1); clear HP27; have n0_ := Aside0.mk (hp_); have n1_ := Aside0.mk (blk_grown (g := gb587) (o := .cells #[.slice (some ad592) l0_0.length c0_0] 38 (0, 0)) (by (with_reducible repeat (first | refine blk_drewN ?_ _ | refine blk_drew ?_ | refine blk_alloc ?_ _)); exact BK587.out) hg (Kd.R_ne HO_7.out BK587.out (by decide))); have n2_ := Aside0.mk ((by rw [hw]; exact below_set (HB.out) GB8.out : Below w.heap.size w w28)); clear HO_7; clear BK587; clear HB; have HO_7 := n0_; have BK587 := n1_; have HB := n2_; clear n0_ n1_ n2_; clear hg hw hp_))
                go_quiet (fail)
                generalize hq_ : World.drewN wr _ = wr; have n0_ := Aside0.mk (Kd.R_at hq_ HO_7.out); have n1_ := Aside0.mk (blk_at hq_ BK587.out); have n2_ := Aside0.mk (below_at hq_ HB.out); replace hx595_0 := mizmazetop_visited.cell_at hq_ hx595_0; clear hq_ HO_7 BK587 HB; have HO_7 := n0_; have BK587 := n1_; have HB := n2_; clear n0_ n1_ n2_
                obtain ⟨hx25_0, hf25_0⟩ := Kd.R_celln false HO_7.out (((rd_T44 (rd_L4 l0_0 x1_1) (rd l2 x9_1)).f0) : Int) (of_eq_true p25) (of_eq_true q25)
                have HP27 := Kd.R_putg HO_7.out (((rd_T44 (rd_L4 l0_0 x1_1) (rd l2 x9_1)).f0) : Int) true
                go_wp2_with (first | ((with_reducible refine gate_store (t := 4) (p := 44) rfl ?_); (try (rw [drewN_self wr]; generalize hq_ : World.drewN wr _ = wr; have n0_ := Aside0.mk (Kd.R_at hq_ HO_7.out); have n1_ := Aside0.mk (blk_at hq_ BK587.out); have n2_ := Aside0.mk (below_at hq_ HB.out); clear hq_ HO_7 BK587 HB; have HO_7 := n0_; have BK587 := n1_; have HB := n2_; clear n0_ n1_ n2_; (try (have HP27 := Kd.R_putg HO_7.out (((rd_T44 (rd_L4 l0_0 x1_1) (rd l2 x9_1)).f0) : Int) true)))); refine store_event (t := 4) (p := 44) (v := ?vo_w28) (w1 := (wr.setCell ⟨go8, (((rd_T44 (rd_L4 l0_0 x1_1) (rd l2 x9_1)).f0) : Int).toNat, none⟩ (.bool true))) ?hg ?ho ?hn ?hr ?_; (case ho => rfl); (case hg => rfl); (case hn => rfl); (case hr => first | (go_simp; done) | (go_simp; rfl)); intro w28 hw; have hg : wr.grownBy w28 (some go8) := (by rw [hw]; exact HP27.2); have hp_ : Kd.R Kd.bool 4 w28 w.heap.size (fun _ => True) (.slice (some ⟨go8, 0, none⟩) x7_1.length co8) y596 := (by rw [hw, Ny596.out]; exact HP27.1); clear HP27; have n0_ := Aside0.mk (hp_); have n1_ := Aside0.mk (blk_grown (g := gb587) (o := .cells #[.slice (some ad592) l0_0.length c0_0] 38 (0, 0)) (by (with_reducible repeat (first | refine blk_drewN ?_ _ | refine blk_drew ?_ | refine blk_alloc ?_ _)); exact BK587.out) hg (Kd.R_ne HO_7.out BK587.out (by decide))); have n2_ := Aside0.mk ((by rw [hw]; exact below_set (HB.out) GB8.out : Below w.heap.size w w28)); clear HO_7; clear BK587; clear HB; have HO_7 := n0_; have BK587 := n1_; have HB := n2_; clear n0_ n1_ n2_; clear hg hw hp_))
                (try simp only [← hl7_1])
                go_roundg k1
                case measure => have := HK1.out; omega
                case rel => exact ⟨((rd_T44 (rd_L4 l0_0 x1_1) (rd l2 x9_1)).f0), (y596), (x8_1), (wrap64 (x9_1 + 1)), (by first | rfl | (simp; done) | (simp [*]; done)), (by first | rfl | (simp; done) | (simp [*]; done)), (by first | rfl | (simp; done) | (simp [*]; done)), H', ⟨by have := HK1.out; omega⟩, ⟨by (try simp only [hl7_1]); (with_reducible repeat (first | apply Kd.R_alloc | apply Kd.R_drewN | apply Kd.R_drew)); exact HO_7.out⟩, ⟨by (try simp only [hl7_1]); (with_reducible repeat (first | refine blk_drewN ?_ _ | refine blk_drew ?_ | refine blk_alloc ?_ _)); exact BK587.out⟩, ⟨by repeat (first | (with_reducible first | exact HB.out | apply below_alloc | apply pw_below_drewN | apply below_drew1 | refine below_set ?_ GE587.out) | exact HB.out)⟩⟩
               ·replace c24 := Bool.eq_false_iff.mpr c24
                subst c24
                have H1 : (mizmazetop_visited.l0 k1 ((rd_T44 (rd_L4 l0_0 x1_1) (rd l2 x9_1)).f0) l2 (x7_1.set (((rd_T44 (rd_L4 l0_0 x1_1) (rd l2 x9_1)).f0) : Int).toNat true) (wrap64 (x8_1 + 1)) (wrap64 (x9_1 + 1)) l0_0) = some r := by rw [if_neg (show ¬ (false = true) by decide)] at H; exact H
                clear H
                have H := H1
                clear H1
                obtain ⟨y597, hy597⟩ : ∃ y_ : List Bool, y_ = (x7_1.set (((rd_T44 (rd_L4 l0_0 x1_1) (rd l2 x9_1)).f0) : Int).toNat true) := ⟨_, rfl⟩
                replace H : (mizmazetop_visited.l0 k1 ((rd_T44 (rd_L4 l0_0 x1_1) (rd l2 x9_1)).f0) l2 y597 (wrap64 (x8_1 + 1)) (wrap64 (x9_1 + 1)) l0_0) = some r := by first | (rw [hy597]; with_reducible exact H) | (have H2_ := (Option.bind_some _ _).symm.trans H; rw [hy597]; with_reducible exact H2_) | (have H2_ := (Option.bind_some _ _).symm.trans H; with_reducible exact H2_) | with_reducible exact H | (rw [hy597]; exact H) | exact H
                have Ny597 := Aside0.mk hy597
                clear hy597
                have H' := Aside0.mk H
                clear H
                have hcz30_0 : wr.cell? ⟨gb587, 0, none⟩ = some (.slice A0_0 l0_0.length c0_0) := (blk_cell BK587.out 0).trans rfl
                have hfz30_0 := blk_frozen BK587.out 0
                have p592 : 0 ≤ (x1_1 : Int) := of_decide_eq_true (by first | (with_reducible assumption) | assumption)
                have q592 : x1_1 < (l0_0.length : Int) := of_decide_eq_true (by first | (with_reducible assumption) | assumption)
                obtain ⟨ad592, A592_0, c592_0, e592, hx592_0, hl592_0, hi592_0⟩ := at_L4 HR0_0.out x1_1 p592 q592
                cases e592
                replace hx592_0 := (HB.out.cell (World.block_lt_of_cell? w _ hx592_0)).trans hx592_0
                have HR592_0 := Aside0.mk hi592_0
                have HC592_0 := Aside0.mk hl592_0
                clear hi592_0 hl592_0
                replace p592 := eq_true p592
                replace q592 := eq_true q592
                have p593 : 0 ≤ (x9_1 : Int) := of_decide_eq_true (by first | (with_reducible assumption) | assumption)
                have q593 : x9_1 < (l2.length : Int) := of_decide_eq_true (by first | (with_reducible assumption) | assumption)
                obtain ⟨ad593, e593, hx593_0⟩ := Kd.at_int HR2.out x9_1 p593 q593
                cases e593
                replace hx593_0 := (HB.out.cell (World.block_lt_of_cell? w _ hx593_0)).trans hx593_0
                replace p593 := eq_true p593
                replace q593 := eq_true q593
                have p594 : 0 ≤ ((rd l2 x9_1) : Int) := of_decide_eq_true (by first | (with_reducible assumption) | assumption)
                have q594 : (rd l2 x9_1) < ((rd_L4 l0_0 x1_1).length : Int) := of_decide_eq_true (by first | (with_reducible assumption) | assumption)
                obtain ⟨ad594, e594, hx594_0, hx594_1⟩ := at_T44 HR592_0.out (rd l2 x9_1) p594 q594
                cases e594
                replace hx594_0 := (HB.out.cell (World.block_lt_of_cell? w _ hx594_0)).trans hx594_0
                replace hx594_1 := (HB.out.cell (World.block_lt_of_cell? w _ hx594_1)).trans hx594_1
                replace p594 := eq_true p594
                replace q594 := eq_true q594
                have p595 : 0 ≤ (((rd_T44 (rd_L4 l0_0 x1_1) (rd l2 x9_1)).f0) : Int) := of_decide_eq_true (by first | (with_reducible assumption) | assumption)
                have q595 : ((rd_T44 (rd_L4 l0_0 x1_1) (rd l2 x9_1)).f0) < (x7_1.length : Int) := of_decide_eq_true (by first | (with_reducible assumption) | assumption)
                obtain ⟨ad595, e595, hx595_0⟩ := Kd.at_bool (Kd.R_reads' HO_7.out).2.2 ((rd_T44 (rd_L4 l0_0 x1_1) (rd l2 x9_1)).f0) p595 q595
                (try rw [← Nbq23.out] at hx595_0)
                obtain rfl : (⟨go8, 0, none⟩ : Addr) = ad595 := (by injection e595)
                (first | simp only [add_plain] at hx595_0 | simp only [add_at] at hx595_0 | simp only [Addr.add, Nat.zero_add] at hx595_0 | skip)
                replace p595 := eq_true p595
                replace q595 := eq_true q595
                have p29 : 0 ≤ (((rd_T44 (rd_L4 l0_0 x1_1) (rd l2 x9_1)).f0) : Int) := of_decide_eq_true (by first | (with_reducible assumption) | assumption)
                have q29 : (((rd_T44 (rd_L4 l0_0 x1_1) (rd l2 x9_1)).f0) : Int) < ((x7_1.length : Int) : Int) := of_decide_eq_true (by first | (with_reducible assumption) | assumption)
                obtain ⟨hx29_0, hf29_0⟩ := Kd.R_celln false HO_7.out (((rd_T44 (rd_L4 l0_0 x1_1) (rd l2 x9_1)).f0) : Int) p29 q29
                replace p29 := eq_true p29
                replace q29 := eq_true q29
                have HP31 := Kd.R_putg HO_7.out (((rd_T44 (rd_L4 l0_0 x1_1) (rd l2 x9_1)).f0) : Int) true
                go_wp2_with (first | ((with_reducible refine gate_store (t := 4) (p := 44) rfl ?_); (try (rw [drewN_self wr]; generalize hq_ : World.drewN wr _ = wr; have n0_ := Aside0.mk (Kd.R_at hq_ HO_7.out); have n1_ := Aside0.mk (blk_at hq_ BK587.out); have n2_ := Aside0.mk (below_at hq_ HB.out); clear hq_ HO_7 BK587 HB; have HO_7 := n0_; have BK587 := n1_; have HB := n2_; clear n0_ n1_ n2_; (try (have HP31 := Kd.R_putg HO_7.out (((rd_T44 (rd_L4 l0_0 x1_1) (rd l2 x9_1)).f0) : Int) true)))); refine store_event (t := 4) (p := 44) (v := ?vo_w32) (w1 := (wr.setCell ⟨go8, (((rd_T44 (rd_L4 l0_0 x1_1) (rd l2 x9_1)).f0) : Int).toNat, none⟩ (.bool true))) ?hg ?ho ?hn ?hr ?_; (case ho => rfl); (case hg => rfl); (case hn => rfl); (case hr => first | (go_simp; done) | (go_simp; rfl)); intro w32 hw; have hg : wr.grownBy w32 (some go8) := (by rw [hw]; exact HP31.2); have hp_ : Kd.R Kd.bool 4 w32 w.heap.size (fun _ => True) (.slice (some ⟨go8, 0, none⟩) x7_1.length co8) y597 := (by rw [hw, Ny597.out]; exact HP31.1); clear HP31; have n0_ := Aside0.mk (hp_); have n1_ := Aside0.mk (blk_grown (g := gb587) (o := .cells #[.slice (some ad592) l0_0.length c0_0] 38 (0, 0)) (by (with_reducible repeat (first | refine blk_drewN ?_ _ | refine blk_drew ?_ | refine blk_alloc ?_ _)); exact BK587.out) hg (Kd.R_ne HO_7.out BK587.out (by decide))); have n2_ := Aside0.mk ((by rw [hw]; exact below_set (HB.out) GB8.out : Below w.heap.size w w32)); clear HO_7; clear BK587; clear HB; have HO_7 := n0_; have BK587 := n1_; have HB := n2_; clear n0_ n1_ n2_; clear hg hw hp_))
                go_quiet (fail)
                generalize hq_ : World.drewN wr _ = wr; have n0_ := Aside0.mk (Kd.R_at hq_ HO_7.out); have n1_ := Aside0.mk (blk_at hq_ BK587.out); have n2_ := Aside0.mk (below_at hq_ HB.out); replace hx595_0 := mizmazetop_visited.cell_at hq_ hx595_0; clear hq_ HO_7 BK587 HB; have HO_7 := n0_; have BK587 := n1_; have HB := n2_; clear n0_ n1_ n2_
                obtain ⟨hx29_0, hf29_0⟩ := Kd.R_celln false HO_7.out (((rd_T44 (rd_L4 l0_0 x1_1) (rd l2 x9_1)).f0) : Int) (of_eq_true p29) (of_eq_true q29)
                have HP31 := Kd.R_putg HO_7.out (((rd_T44 (rd_L4 l0_0 x1_1) (rd l2 x9_1)).f0) : Int) true
                go_wp2_with (first | ((with_reducible refine gate_store (t := 4) (p := 44) rfl ?_); (try (rw [drewN_self wr]; generalize hq_ : World.drewN wr _ = wr; have n0_ := Aside0.mk (Kd.R_at hq_ HO_7.out); have n1_ := Aside0.mk (blk_at hq_ BK587.out); have n2_ := Aside0.mk (below_at hq_ HB.out); clear hq_ HO_7 BK587 HB; have HO_7 := n0_; have BK587 := n1_; have HB := n2_; clear n0_ n1_ n2_; (try (have HP31 := Kd.R_putg HO_7.out (((rd_T44 (rd_L4 l0_0 x1_1) (rd l2 x9_1)).f0) : Int) true)))); refine store_event (t := 4) (p := 44) (v := ?vo_w32) (w1 := (wr.setCell ⟨go8, (((rd_T44 (rd_L4 l0_0 x1_1) (rd l2 x9_1)).f0) : Int).toNat, none⟩ (.bool true))) ?hg ?ho ?hn ?hr ?_; (case ho => rfl); (case hg => rfl); (case hn => rfl); (case hr => first | (go_simp; done) | (go_simp; rfl)); intro w32 hw; have hg : wr.grownBy w32 (some go8) := (by rw [hw]; exact HP31.2); have hp_ : Kd.R Kd.bool 4 w32 w.heap.size (fun _ => True) (.slice (some ⟨go8, 0, none⟩) x7_1.length co8) y597 := (by rw [hw, Ny597.out]; exact HP31.1); clear HP31; have n0_ := Aside0.mk (hp_); have n1_ := Aside0.mk (blk_grown (g := gb587) (o := .cells #[.slice (some ad592) l0_0.length c0_0] 38 (0, 0)) (by (with_reducible repeat (first | refine blk_drewN ?_ _ | refine blk_drew ?_ | refine blk_alloc ?_ _)); exact BK587.out) hg (Kd.R_ne HO_7.out BK587.out (by decide))); have n2_ := Aside0.mk ((by rw [hw]; exact below_set (HB.out) GB8.out : Below w.heap.size w w32)); clear HO_7; clear BK587; clear HB; have HO_7 := n0_; have BK587 := n1_; have HB := n2_; clear n0_ n1_ n2_; clear hg hw hp_))
                (try simp only [← hl7_1])
                go_roundg k1
                case measure => have := HK1.out; omega
                case rel => exact ⟨((rd_T44 (rd_L4 l0_0 x1_1) (rd l2 x9_1)).f0), (y597), (wrap64 (x8_1 + 1)), (wrap64 (x9_1 + 1)), (by first | rfl | (simp; done) | (simp [*]; done)), (by first | rfl | (simp; done) | (simp [*]; done)), (by first | rfl | (simp; done) | (simp [*]; done)), H', ⟨by have := HK1.out; omega⟩, ⟨by (try simp only [hl7_1]); (with_reducible repeat (first | apply Kd.R_alloc | apply Kd.R_drewN | apply Kd.R_drew)); exact HO_7.out⟩, ⟨by (try simp only [hl7_1]); (with_reducible repeat (first | refine blk_drewN ?_ _ | refine blk_drew ?_ | refine blk_alloc ?_ _)); exact BK587.out⟩, ⟨by repeat (first | (with_reducible first | exact HB.out | apply below_alloc | apply pw_below_drewN | apply below_drew1 | refine below_set ?_ GE587.out) | exact HB.out)⟩⟩
              ·rw [if_neg c22] at H
               exact absurd H (by simp)
             ·rw [if_neg c21] at H
              exact absurd H (by simp)
            ·rw [if_neg c20] at H
             exact absurd H (by simp)
           ·rw [if_neg c19] at H
            exact absurd H (by simp)
          ·rw [if_neg c18] at H
           exact absurd H (by simp)
         ·rw [if_neg c17] at H
          exact absurd H (by simp)
        ·rw [if_neg c16] at H
         exact absurd H (by simp)
       ·rw [if_neg c15] at H
        have c15b0 : decide (x9_1 < (l2.length : Int)) = false := decide_eq_false c15
        clear c15
        obtain rfl := Option.some.inj H
        go_wp2
        repeat (go_quiet (fail); try go_wp2)
        go_ret
        exact ⟨by first | rfl | (simp [errW_none, errW_some] <;> rfl) | (simp [*, errW_none, errW_some] <;> rfl), by repeat (first | (with_reducible first | exact HB.out | apply below_alloc | apply pw_below_drewN | apply below_drew1 | refine below_set ?_ GE587.out) | exact HB.out)⟩
    ·rw [if_neg c7] at H
     exact absurd H (by simp)
   ·rw [if_neg c6] at H
    exact absurd H (by simp)
  ·rw [if_neg c5] at H
   exact absurd H (by simp)
 ·rw [if_neg c4] at H
  exact absurd H (by simp)

end Go.Proofs.Ytgbjbgdnldklpaa.Q
end
/-! Part QTopJoined -/
section
-- Written by xprint.py, a program of this session's, over the kit's print. Lean checks it.
namespace Go.Proofs.Ytgbjbgdnldklpaa.Q
open Go.RowKit Go.Proofs.YtgbjbgdnldklpaaW.PrintWords Go.Proofs.YtgbjbgdnldklpaaW.PrintLast Go.Proofs.YtgbjbgdnldklpaaW.PrintMore
attribute [local go_sem] max2_int min2_int max_two min_two max_three min_three max_four min_four
set_option linter.unusedVariables false
set_option linter.unusedSimpArgs false

/-! ### mizmazetop_joined: function 33 -/
def mizmazetop_joined.l0 : Nat → List (List Int) → List Int → Int → Option (List Int)
 | 0, _, _, _ => none
 | k + 1, x0, x3, x4 => if x4 < (x0.length : Int) then (if 0 ≤ x4 then (if x3.length + (rd_L1 x0 x4).length < 17592186044416 then (mizmazetop_joined.l0 k x0 (x3 ++ (rd_L1 x0 x4)) (wrap64 (x4 + 1))) else (none)) else (none)) else (some x3)
def mizmazetop_joined.f (k : Nat) (l0 : List (List Int)) : Option (List Int) := mizmazetop_joined.l0 k l0 ([] : List Int) 0
theorem mizmazetop_joined.mono_l : ∀ k, (∀ y0 y1 y2, LeO (mizmazetop_joined.l0 k y0 y1 y2) (mizmazetop_joined.l0 (k + 1) y0 y1 y2))
 | 0 => fun _ _ _ r h => by simp [mizmazetop_joined.l0] at h
 | k + 1 => by
  have ih0 := mizmazetop_joined.mono_l k
  ·intro y0 y1 y2
   unfold mizmazetop_joined.l0
   repeat' first
   | (with_reducible exact ih0 _ _ _)
   | (with_reducible exact LeO.refl _)
   | (with_reducible exact LeO.none _)
   | (with_reducible refine LeO.ite ?_ ?_)
   | (with_reducible refine LeO.bind ?_ (fun _ => ?_))
   | exact ih0 _ _ _
   | exact LeO.none _
   | refine LeO.ite ?_ ?_
   | refine LeO.bind ?_ (fun _ => ?_)
theorem mizmazetop_joined.mono : ∀ a0 k, LeO (mizmazetop_joined.f k a0) (mizmazetop_joined.f (k + 1) a0) := by
 intro a0 k
 have ih0 := mizmazetop_joined.mono_l k
 unfold mizmazetop_joined.f
 repeat' first
   | (with_reducible exact ih0 _ _ _)
   | (with_reducible exact LeO.refl _)
   | (with_reducible exact LeO.none _)
   | (with_reducible refine LeO.ite ?_ ?_)
   | (with_reducible refine LeO.bind ?_ (fun _ => ?_))
   | exact ih0 _ _ _
   | exact LeO.none _
   | refine LeO.ite ?_ ?_
   | refine LeO.bind ?_ (fun _ => ?_)
set_option maxHeartbeats 8000000 in
set_option maxRecDepth 100000 in
theorem mizmazetop_joined.calls (k : Nat) (A0 : Option Addr) (c0 : Nat) (l0 : List (List Int)) (r : List Int) (w : World) (hr0 : Kd.C (Kd.slice 3 (Kd.int .i64)) w A0 l0.length l0) (hc0 : l0.length ≤ c0) (h : mizmazetop_joined.f k l0 = some r) :
  Calls Try.prog 33 #[.slice A0 l0.length c0] w fun e w' => ∃ v0_ : Value, e = .returned (v0_) ∧ Kd.R (Kd.int .i64) 3 w' w.heap.size (fun _ => True) v0_ r ∧ Below w.heap.size w w' := by
 have HR0 := Aside0.mk hr0
 have HC0 := Aside0.mk hc0
 clear hr0 hc0
 have HB := Aside0.mk (Below.refl w.heap.size w)
 have H : (mizmazetop_joined.l0 k l0 ([] : List Int) 0) = some r := h
 clear h
 have H' := Aside0.mk H
 clear H
 go_enter Try.func33, Try.ntmps33
 go_wp2
 go_loopg [3, 4] k (fun kq v3 v4 w' => ∃ (x3_1 : List Int) (x4_1 : Int), v4 = .int .i64 x4_1 ∧ Aside0 (mizmazetop_joined.l0 kq l0 x3_1 x4_1 = some r) ∧ Aside0 (kq ≤ k) ∧ Aside0 (Kd.R (Kd.int .i64) 3 w' w.heap.size (fun _ => True) v3 x3_1) ∧ Aside0 (Below w.heap.size w w'))
 case atStart => exact ⟨(([] : List Int)), (0), (by first | rfl | (simp; done) | (simp [*]; done)), H', ⟨Nat.le_refl _⟩, ⟨by first | exact Kd.R_nil _ _ _ _ _ | exact Kd.N_nil _ _ _ _ _ | exact Kd.V_nil _ _ _ _ _ | exact Kd.Q_nil _ _ _ _ _ | exact Kd.S_nil _ _ _ _ _⟩, ⟨by repeat (first | (with_reducible first | exact HB.out | apply below_alloc | apply pw_below_drewN | apply below_drew1) | exact HB.out)⟩⟩
 case round =>
  clear H'
  obtain ⟨x3_1, x4_1, rfl, HA, HK1, HO_3, HB⟩ := hrel
  cases gk with
  | zero => exact absurd HA.out (by simp [mizmazetop_joined.l0])
  | succ k1 =>
   have H := HA.out
   clear HA
   simp only [mizmazetop_joined.l0] at H
   by_cases c2 : x4_1 < (l0.length : Int)
   ·rw [if_pos c2] at H
    have c2b0 : decide (x4_1 < (l0.length : Int)) = true := decide_eq_true c2
    clear c2
    by_cases c3 : 0 ≤ x4_1
    ·rw [if_pos c3] at H
     have c3b0 : decide (0 ≤ x4_1) = true := decide_eq_true c3
     clear c3
     by_cases c4 : x3_1.length + (rd_L1 l0 x4_1).length < 17592186044416
     ·rw [if_pos c4] at H
      have LMc4 := Aside0.mk c4
      clear c4
      obtain ⟨y599, hy599⟩ : ∃ y_ : List Int, y_ = (x3_1 ++ (rd_L1 l0 x4_1)) := ⟨_, rfl⟩
      replace H : (mizmazetop_joined.l0 k1 l0 y599 (wrap64 (x4_1 + 1))) = some r := by first | (rw [hy599]; with_reducible exact H) | (have H2_ := (Option.bind_some _ _).symm.trans H; rw [hy599]; with_reducible exact H2_) | (have H2_ := (Option.bind_some _ _).symm.trans H; with_reducible exact H2_) | with_reducible exact H | (rw [hy599]; exact H) | exact H
      have Ny599 := Aside0.mk hy599
      clear hy599
      have H' := Aside0.mk H
      clear H
      have p598 : 0 ≤ (x4_1 : Int) := of_decide_eq_true (by first | (with_reducible assumption) | assumption)
      have q598 : x4_1 < (l0.length : Int) := of_decide_eq_true (by first | (with_reducible assumption) | assumption)
      obtain ⟨ad598, A598_0, c598_0, e598, hx598_0, hl598_0, hi598_0⟩ := at_L1 HR0.out x4_1 p598 q598
      cases e598
      replace hx598_0 := (HB.out.cell (World.block_lt_of_cell? w _ hx598_0)).trans hx598_0
      have HR598_0 := Aside0.mk hi598_0
      have HC598_0 := Aside0.mk hl598_0
      clear hi598_0 hl598_0
      replace p598 := eq_true p598
      replace q598 := eq_true q598
      go_wp2_with (first | ((with_reducible refine gate_builtin (b := .append) (xs := #[.tmp 11, .tmp 15]) rfl ?_); at_builtin; refine Kd.R_append_rows (Kd.int .i64) (w0 := w) w.heap.size rfl (.tmp 11) (.tmp 15) 30 3 (.int .i64 0) 8 rfl Try.underlying30 info3 rfl (by decide) (by omega) u3 x3_1 (rd_L1 l0 x4_1) _ _ _ (fun _ => True) (fun _ => False) rfl rfl ?aO ?aR (fun _ _ h => h) (fun _ h => h.elim) ?aF ?aB ?aS ?aL ?_; (case aR => repeat (first | exact (Kd.C_below HR598_0.out HB.out) | (with_reducible refine Kd.C_alloc ?_ _) | (with_reducible refine Kd.C_drewN ?_ _) | (with_reducible refine Kd.C_drew ?_))); (case aB => exact (by repeat (first | (with_reducible first | exact HB.out | apply below_alloc | apply pw_below_drewN | apply below_drew1) | exact HB.out))); (case aF => exact (fun _ _ => trivial)); (case aO => exact (by (with_reducible repeat (first | apply Kd.R_alloc | apply Kd.R_drewN | apply Kd.R_drew)); exact HO_3.out)); (case aS => exact (below_size (by repeat (first | (with_reducible first | exact HB.out | apply below_alloc | apply pw_below_drewN | apply below_drew1) | exact HB.out)))); (case aL => have := LMc4.out; omega); intro v600 w5 ho hb hg hat; rw [← Ny599.out] at ho; have n0_ := Aside0.mk (hb); have n1_ := Aside0.mk (ho); clear HB; clear HO_3; have HB := n0_; have HO601 := n1_; clear n0_ n1_; clear ho hb hg hat))
      go_roundg k1
      case measure => have := HK1.out; omega
      case rel => exact ⟨(y599), (wrap64 (x4_1 + 1)), (by first | rfl | (simp; done) | (simp [*]; done)), H', ⟨by have := HK1.out; omega⟩, ⟨by (with_reducible repeat (first | apply Kd.R_alloc | apply Kd.R_drewN | apply Kd.R_drew)); exact HO601.out⟩, ⟨by repeat (first | (with_reducible first | exact HB.out | apply below_alloc | apply pw_below_drewN | apply below_drew1) | exact HB.out)⟩⟩
     ·rw [if_neg c4] at H
      exact absurd H (by simp)
    ·rw [if_neg c3] at H
     exact absurd H (by simp)
   ·rw [if_neg c2] at H
    have c2b0 : decide (x4_1 < (l0.length : Int)) = false := decide_eq_false c2
    clear c2
    obtain rfl := Option.some.inj H
    go_wp2
    go_ret
    exact ⟨_, by first | rfl | (simp [errW_none, errW_some] <;> rfl) | (simp [*, errW_none, errW_some] <;> rfl), by (with_reducible repeat (first | apply Kd.R_alloc | apply Kd.R_drewN | apply Kd.R_drew)); exact HO_3.out, by repeat (first | (with_reducible first | exact HB.out | apply below_alloc | apply pw_below_drewN | apply below_drew1) | exact HB.out)⟩

end Go.Proofs.Ytgbjbgdnldklpaa.Q
end
/-! Part QMazeAsks -/
section
-- Written by xprint.py, a program of this session's, over the kit's print. Lean checks it.
namespace Go.Proofs.Ytgbjbgdnldklpaa.Q
open Go.RowKit Go.Proofs.YtgbjbgdnldklpaaW.PrintWords Go.Proofs.YtgbjbgdnldklpaaW.PrintLast Go.Proofs.YtgbjbgdnldklpaaW.PrintMore
attribute [local go_sem] max2_int min2_int max_two min_two max_three min_three max_four min_four
set_option linter.unusedVariables false
set_option linter.unusedSimpArgs false

/-! ### maze_asks: function 37 -/
def maze_asks.f (a0 : Int) (a1 : Int) : Option (Int) := if a0 < 1 then (some 2) else (if a1 < 1 then (some 2) else (if a1 > 6 then (some 2) else (if a0 > 12 then (some 2) else (if (wrap64 (a0 * a1)) > 12 then (some 2) else (some 0)))))
set_option maxHeartbeats 8000000 in
set_option maxRecDepth 100000 in
theorem maze_asks.calls (a0 : Int) (a1 : Int) (r : Int) (w : World) (h : maze_asks.f a0 a1 = some r) :
  Calls Try.prog 37 #[.int .i64 a0, .int .i64 a1] w fun e w' => e = .returned (.int .i64 r) ∧ Drawn0 w w' := by
 have H : (if a0 < 1 then (some 2) else (if a1 < 1 then (some 2) else (if a1 > 6 then (some 2) else (if a0 > 12 then (some 2) else (if (wrap64 (a0 * a1)) > 12 then (some 2) else (some 0)))))) = some r := h
 clear h
 by_cases c3 : a0 < 1
 ·rw [if_pos c3] at H
  have c3b0 : decide (a0 < 1) = true := decide_eq_true c3
  clear c3
  obtain rfl := Option.some.inj H
  go_enter Try.func37, Try.ntmps37
  go_wp2
  go_ret
  exact ⟨by first | rfl | (simp; done) | (simp [*]; done), by repeat (first | exact Drawn0.refl _ | apply Drawn0.step)⟩
 ·rw [if_neg c3] at H
  have c3b0 : decide (a0 < 1) = false := decide_eq_false c3
  clear c3
  by_cases c4 : a1 < 1
  ·rw [if_pos c4] at H
   have c4b0 : decide (a1 < 1) = true := decide_eq_true c4
   clear c4
   obtain rfl := Option.some.inj H
   go_enter Try.func37, Try.ntmps37
   go_wp2
   go_ret
   exact ⟨by first | rfl | (simp; done) | (simp [*]; done), by repeat (first | exact Drawn0.refl _ | apply Drawn0.step)⟩
  ·rw [if_neg c4] at H
   have c4b0 : decide (a1 < 1) = false := decide_eq_false c4
   clear c4
   by_cases c5 : a1 > 6
   ·rw [if_pos c5] at H
    have c5b0 : decide (6 < a1) = true := decide_eq_true c5
    clear c5
    obtain rfl := Option.some.inj H
    go_enter Try.func37, Try.ntmps37
    go_wp2
    go_ret
    exact ⟨by first | rfl | (simp; done) | (simp [*]; done), by repeat (first | exact Drawn0.refl _ | apply Drawn0.step)⟩
   ·rw [if_neg c5] at H
    have c5b0 : decide (6 < a1) = false := decide_eq_false c5
    clear c5
    by_cases c6 : a0 > 12
    ·rw [if_pos c6] at H
     have c6b0 : decide (12 < a0) = true := decide_eq_true c6
     clear c6
     obtain rfl := Option.some.inj H
     go_enter Try.func37, Try.ntmps37
     go_wp2
     go_ret
     exact ⟨by first | rfl | (simp; done) | (simp [*]; done), by repeat (first | exact Drawn0.refl _ | apply Drawn0.step)⟩
    ·rw [if_neg c6] at H
     have c6b0 : decide (12 < a0) = false := decide_eq_false c6
     clear c6
     by_cases c7 : (wrap64 (a0 * a1)) > 12
     ·rw [if_pos c7] at H
      have c7b0 : decide (12 < (wrap64 (a0 * a1))) = true := decide_eq_true c7
      clear c7
      obtain rfl := Option.some.inj H
      go_enter Try.func37, Try.ntmps37
      go_wp2
      go_ret
      exact ⟨by first | rfl | (simp; done) | (simp [*]; done), by repeat (first | exact Drawn0.refl _ | apply Drawn0.step)⟩
     ·rw [if_neg c7] at H
      have c7b0 : decide (12 < (wrap64 (a0 * a1))) = false := decide_eq_false c7
      clear c7
      obtain rfl := Option.some.inj H
      go_enter Try.func37, Try.ntmps37
      go_wp2
      go_ret
      exact ⟨by first | rfl | (simp; done) | (simp [*]; done), by repeat (first | exact Drawn0.refl _ | apply Drawn0.step)⟩

end Go.Proofs.Ytgbjbgdnldklpaa.Q
end
/-! Part QRef10Connected -/
section
-- Written by xprint.py, a program of this session's, over the kit's print. Lean checks it.
namespace Go.Proofs.Ytgbjbgdnldklpaa.Q
open Go.RowKit Go.Proofs.YtgbjbgdnldklpaaW.PrintWords Go.Proofs.YtgbjbgdnldklpaaW.PrintLast Go.Proofs.YtgbjbgdnldklpaaW.PrintMore
attribute [local go_sem] max2_int min2_int max_two min_two max_three min_three max_four min_four
set_option linter.unusedVariables false
set_option linter.unusedSimpArgs false

/-! ### mizmazeref10_Connected: function 34 -/
end Go.Proofs.Ytgbjbgdnldklpaa.Q
end
/-! Part QRef10Visits -/
section
-- Written by xprint.py, a program of this session's, over the kit's print. Lean checks it.
namespace Go.Proofs.Ytgbjbgdnldklpaa.Q
open Go.RowKit Go.Proofs.YtgbjbgdnldklpaaW.PrintWords Go.Proofs.YtgbjbgdnldklpaaW.PrintLast Go.Proofs.YtgbjbgdnldklpaaW.PrintMore
attribute [local go_sem] max2_int min2_int max_two min_two max_three min_three max_four min_four
set_option linter.unusedVariables false
set_option linter.unusedSimpArgs false

/-! ### mizmazeref10_Visits: function 36 -/
end Go.Proofs.Ytgbjbgdnldklpaa.Q
end
/-! Part QRef10Word -/
section
-- Written by xprint.py, a program of this session's, over the kit's print. Lean checks it.
namespace Go.Proofs.Ytgbjbgdnldklpaa.Q
open Go.RowKit Go.Proofs.YtgbjbgdnldklpaaW.PrintWords Go.Proofs.YtgbjbgdnldklpaaW.PrintLast Go.Proofs.YtgbjbgdnldklpaaW.PrintMore
attribute [local go_sem] max2_int min2_int max_two min_two max_three min_three max_four min_four
set_option linter.unusedVariables false
set_option linter.unusedSimpArgs false

/-! ### mizmazeref10_Word: function 17 -/
end Go.Proofs.Ytgbjbgdnldklpaa.Q
end
/-! Part QLaw10Wide -/
section
-- Written by xprint.py, a program of this session's, over the kit's print. Lean checks it.
namespace Go.Proofs.Ytgbjbgdnldklpaa.Q
open Go.RowKit Go.Proofs.YtgbjbgdnldklpaaW.PrintWords Go.Proofs.YtgbjbgdnldklpaaW.PrintLast Go.Proofs.YtgbjbgdnldklpaaW.PrintMore
attribute [local go_sem] max2_int min2_int max_two min_two max_three min_three max_four min_four
set_option linter.unusedVariables false
set_option linter.unusedSimpArgs false

/-! ### mizmazelaw10_Wide: function 20 -/
end Go.Proofs.Ytgbjbgdnldklpaa.Q
end
/-! Part QRef10Valid -/
section
-- Written by xprint.py, a program of this session's, over the kit's print. Lean checks it.
namespace Go.Proofs.Ytgbjbgdnldklpaa.Q
open Go.RowKit Go.Proofs.YtgbjbgdnldklpaaW.PrintWords Go.Proofs.YtgbjbgdnldklpaaW.PrintLast Go.Proofs.YtgbjbgdnldklpaaW.PrintMore
attribute [local go_sem] max2_int min2_int max_two min_two max_three min_three max_four min_four
set_option linter.unusedVariables false
set_option linter.unusedSimpArgs false

attribute [local go_sem high] eqA44
/-! ### mizmazeref10_Valid: function 21 -/
end Go.Proofs.Ytgbjbgdnldklpaa.Q
end
/-! Part QMazeConnected -/
section
-- Written by xprint.py, a program of this session's, over the kit's print. Lean checks it.
namespace Go.Proofs.Ytgbjbgdnldklpaa.Q
open Go.RowKit Go.Proofs.YtgbjbgdnldklpaaW.PrintWords Go.Proofs.YtgbjbgdnldklpaaW.PrintLast Go.Proofs.YtgbjbgdnldklpaaW.PrintMore
attribute [local go_sem] max2_int min2_int max_two min_two max_three min_three max_four min_four
set_option linter.unusedVariables false
set_option linter.unusedSimpArgs false

/-! ### maze_Connected: function 23 -/
end Go.Proofs.Ytgbjbgdnldklpaa.Q
end
/-! Part QRef07Same -/
section
-- Written by xprint.py, a program of this session's, over the kit's print. Lean checks it.
namespace Go.Proofs.Ytgbjbgdnldklpaa.Q
open Go.RowKit Go.Proofs.YtgbjbgdnldklpaaW.PrintWords Go.Proofs.YtgbjbgdnldklpaaW.PrintLast Go.Proofs.YtgbjbgdnldklpaaW.PrintMore
attribute [local go_sem] max2_int min2_int max_two min_two max_three min_three max_four min_four
set_option linter.unusedVariables false
set_option linter.unusedSimpArgs false

/-! ### mizmazeref07_Same: function 25 -/
end Go.Proofs.Ytgbjbgdnldklpaa.Q
end
/-! Part QRef10Walk -/
section
-- Written by xprint.py, a program of this session's, over the kit's print. Lean checks it.
namespace Go.Proofs.Ytgbjbgdnldklpaa.Q
open Go.RowKit Go.Proofs.YtgbjbgdnldklpaaW.PrintWords Go.Proofs.YtgbjbgdnldklpaaW.PrintLast Go.Proofs.YtgbjbgdnldklpaaW.PrintMore
attribute [local go_sem] max2_int min2_int max_two min_two max_three min_three max_four min_four
set_option linter.unusedVariables false
set_option linter.unusedSimpArgs false

/-! ### mizmazeref10_Walk: function 35 -/
end Go.Proofs.Ytgbjbgdnldklpaa.Q
end
