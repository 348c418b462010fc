/- Part of the proof of TopRoad (text 25 of 33) -/
import Derived.Test.YtjgdalhdiohclaaZTopRoadg
import Derived.Test.YtjgdalhdiohclaaZTopRoadx
import Derived.Test.YtjgdalhdiohclaaZTopRoadb
import Derived.OwnWalkIn
import Derived.TacticsInMore
import Derived.StillTailTactics
import Derived.Deep.CutRange
set_option linter.unusedVariables false
set_option linter.unusedSimpArgs false
set_option linter.unusedSectionVars false
set_option maxRecDepth 100000
set_option maxHeartbeats 1000000
section
namespace Go.Proofs.Ytjgdalhdiohclaa.Q
open Go.RowKit Go.Sort Go.Proofs.YtjgdalhdiohclaaW.PrintWords Go.Proofs.YtjgdalhdiohclaaW.PrintLast Go.Proofs.YtjgdalhdiohclaaW.PrintMore
def xos0 : Array Bool := #[false, true, false, false, false, false]
def xos1 : Array Bool := #[true, true, false, false, false, false]
def xos2 : Array Bool := #[true, true, true, false, false, false]
def xos3 : Array Bool := #[true, true, true, true, false, false]
def xos4 : Array Bool := #[true, true, true, true, true, false]
def xos5 : Array Bool := #[true, true, true, true, true, true]
def xos6 : Array Bool := #[false, true, false, false, false, false, false, false, false, false, false, false, false]
def xos7 : Array Bool := #[false, true, false, true, false, false, false, false, false, false, false, false, false]
def xos8 : Array Bool := #[false, true, false, true, false, false, true, false, false, false, false, false, false]
def xos9 : Array Bool := #[false, true, false, true, false, false, true, false, true, false, false, false, false]
def xos10 : Array Bool := #[false, true, false, true, false, false, true, false, true, true, false, false, false]
def xos11 : Array Bool := #[false, true, false, true, false, false, true, false, true, true, true, false, false]
def xos12 : Array Bool := #[true, true, false, true, false, false, true, false, true, true, true, false, false]
def xos13 : Array Bool := #[true, true, true, true, false, false, true, false, true, true, true, false, false]
def xos14 : Array Bool := #[true, true, false, true, true, false, true, false, true, true, true, false, false]
def xos15 : Array Bool := #[true, true, true, true, true, false, true, false, true, true, true, false, false]
def xos16 : Array Bool := #[true, true, true, true, true, true, true, false, true, true, true, false, false]
def xos17 : Array Bool := #[true, true, true, true, true, true, true, true, true, true, true, false, false]
def xos18 : Array Bool := #[true, true, true, true, true, true, true, true, true, true, true, true, false]
def xos19 : Array Bool := #[true, true, true, true, true, true, true, true, true, true, true, true, true]
theorem delete_R {w : World} {base : Nat} {ok : Nat → Prop} {v : Value} {xs : List Int} (h : Kd.R (Kd.int .i64) 3 w base ok v xs) {i : Nat} (hi : i < xs.length) :
  Calls Try.prog 130 #[v, .int .i64 (i : Int), .int .i64 ((i + 1 : Nat) : Int)] w fun e w' => ∃ v', e = .returned v' ∧ v'.ownBlock = v.ownBlock ∧ Kd.R (Kd.int .i64) 3 w' base ok v' (xs.eraseIdx i) ∧ w.grownBy w' v.ownBlock := by
 rcases R_parts h with ⟨rfl, rfl⟩ | ⟨g, cap, rfl, hlt, hc, hm⟩
 ·exact absurd hi (Nat.not_lt_zero i)
 ·refine (Try.slices_Delete_int g 0 cap i (i + 1) xs w (R_holds h) hc (by unfold maxLen at hm; omega) (by omega) (by omega)).mono ?_
  rintro e w' ⟨rfl, n, rfl⟩
  have e1 : i + 1 - i = 1 := by omega
  have e2 : (xs.take i ++ xs.drop (i + 1)).length = xs.length - 1 := by rw [List.length_append, List.length_take, List.length_drop]; omega
  have hl2 : (xs.take i ++ xs.drop (i + 1) ++ List.replicate (i + 1 - i) 0).length = xs.length := by rw [List.length_append, e2, List.length_replicate]; omega
  have := R_putS h n #[] (k := xs.length - 1) (ys := xs.take i ++ xs.drop (i + 1) ++ List.replicate (i + 1 - i) 0) (by omega) hl2
  rw [← e2, List.take_left, grow_empty, e2] at this
  rw [e1] at this ⊢
  rw [List.eraseIdx_eq_take_drop_succ]
  refine ⟨_, rfl, rfl, ?_, this.2⟩
  exact this.1
theorem goesC_ {P : Program} {ops : Array Oper} {oi : Oper} {N : Option Tmp} {a : Act} {w : World} {K : Act → World → Prop} {Q : Exit → Act → World → Prop} {f : FuncId} {fn : Func} {bs : Array Operand} {ts : Array TypeId} {cv : Operand} {caps : Array Value} (hf : P.funcs[f]? = some fn) (hname : (fn.name == "runtime.NumGoroutine") = false) (hb : fn.body.isSome = true) (args : Array Value)
  (hw : Region.wanted oi (yielded ops a.tmps) = true) (hN : oi.dst = N) (hop : oi.op = .call { callee := .value cv, args := bs, argTypes := ts }) (hcv : a.eval cv = .func (.func f) #[] caps) (hargs : bs.map a.eval = args)
  (h : Calls P f (args ++ caps) w fun e w' => ∃ v, e = .returned v ∧ K (a.put N v) w') : if Region.wanted oi (yielded ops a.tmps) = true then Oper.wp P oi a w K Q else K (a.put N undef) w := by
 refine call_ f (args ++ caps) hw hN ?_ h
 have he := enters_ hf hname hb (args ++ caps) w
 unfold execOp
 simp [hop, resolve, Deferred.ofValue, invoke, hcv, hargs, he]
theorem append_runR {α : Type} {P : Program} (d : Kd α) {W : World} (base : Nat) (t e o : TypeId) (z : Value) (bytes : Nat) (ht : P.underlying t = some (.slice e)) (hinfo : (P.info? e).map (fun i => (i.zero, i.size, i.bytes)) = some (some z, d.sz, bytes)) (hz : z.cells.size = d.sz) (hs0 : 0 < d.sz) (hb0 : 0 < bytes)
  (v : Value) (xs : List α) (p : α) (cs : List Value) (ok okp : Nat → Prop) (ad : Addr) (c : Nat) (HO : d.R e W base ok v xs) (hp : d.M W base okp p cs) (hokp : ∀ k, okp k → ok k ∧ some k ≠ v.ownBlock) (hfresh : ∀ k, W.heap.size ≤ k → ok k) (hc : ∀ j u, cs[j]? = some u → W.cell? (ad.add j) = some u) (hbase : base ≤ W.heap.size) (hl : (xs.length + 1) * bytes ≤ 140737488355328) :
  ∃ v1 w1, (Builtin.append_ #[t, t] o #[v, .slice (some ad) 1 c]).run P W = .ok v1 w1 ∧ d.R e w1 base ok v1 (xs ++ [p]) ∧ W.grownBy w1 v.ownBlock ∧ (v1.ownBlock = v.ownBlock ∨ ∃ b, v1.ownBlock = some b ∧ W.heap.size ≤ b) := by
 obtain ⟨i0, hi, hzz⟩ := Option.map_eq_some_iff.1 hinfo
 simp only [Prod.mk.injEq] at hzz
 obtain ⟨hz0, hz1, hz2⟩ := hzz
 have hlen : xs.length + 1 ≤ 140737488355328 := Nat.le_trans (Nat.le_mul_of_pos_right _ hb0) hl
 obtain ⟨hok, inner, hown, hr⟩ := HO
 have hK := d.K_of_M hp
 obtain ⟨v1, w1, hrun, h2, hg, _, hat⟩ := run_append_own_at (P := P) W base t o e i0 z d.sz bytes ht hi hz0 hz1 hz2 hz hs0 v xs.length inner hown ad 1 c cs (by rw [d.K_len hK, Nat.one_mul]) hc (d.K_one hK) (by simp only [maxLen]; omega) hl hbase
 have hat' : v1.ownBlock = v.ownBlock ∨ ∃ b, v1.ownBlock = some b ∧ W.heap.size ≤ b := by
  rcases hat with hat | hat
  ·exact .inl hat
  ·exact .inr ⟨_, hat, Nat.le_refl _⟩
 exact ⟨v1, w1, hrun, Kd.R_appended hok hr hp hokp hfresh h2 hg hat', hg, hat'⟩
theorem lit_cellsR {W : World} {b : Nat} {cs : Array Value} {t : TypeId} (h : W.heap[b]? = some (.cells cs t (0, 0))) : ∀ (j : Nat) (u : Value), cs.toList[j]? = some u → W.cell? ((⟨b, 0, none⟩ : Addr).add j) = some u := by
 intro j u hu
 rw [add_plain]
 exact (blk_cell h j).trans (by simpa using hu)
theorem run_append_opR {P : Program} {a : Act} {o : Oper} {W w1 : World} {s x : Operand} {t : TypeId} {v y v1 : Value} (ho : o.op = .call { callee := .builtin .append, args := #[s, x], argTypes := #[t, t] }) (hs : a.eval s = v) (hx : a.eval x = y) (h : (Builtin.append_ #[t, t] o.type #[v, y]).run P W = .ok v1 w1) : (execOp a.eval o).run P W = .ok (.value v1) w1 := by
 simp [execOp, ho, resolve, invoke, builtin, hs, hx, h]
theorem C_keptK {own : Nat → Prop} {W W' : World} {A : Option Addr} {n : Nat} {l : List Int} (h : Kd.C (Kd.int .i64) W A n l) (hk : KeptBut own W W') (ha : ∀ a, A = some a → ¬ own a.block) : Kd.C (Kd.int .i64) W' A n l :=
 Kd.C_foot_neS (S := own) (fun h => h) h (fun ad e _ => ha ad e) W' ⟨hk.size, fun i hi hn => hk.block i hi hn⟩
mutual
def color_from.f : Nat → List Int → List Int → List (List Int) → Option (List (List Int))
 | 0, _, _, _ => none
 | k + 1, done, left, out => if left.length = 0 then (if done.length < 1000000 then (if out.length < 1000000000 then some (out ++ [done]) else none) else none) else color_from.l k done left 0 out
def color_from.l : Nat → List Int → List Int → Nat → List (List Int) → Option (List (List Int))
 | 0, _, _, _, _ => none
 | k + 1, done, left, i, out => if i < left.length then (if i = 0 ∨ rd left ((i - 1 : Nat) : Int) ≠ rd left (i : Int) then (if done.length < 1000000 then (if left.length < 1000000 then (color_from.f k (done ++ [rd left (i : Int)]) (left.eraseIdx i) out).bind fun o => color_from.l k done left (i + 1) o else none) else none) else color_from.l k done left (i + 1) out) else some out
end
theorem color_from.mono_l : ∀ k, (∀ y0 y1 y2, LeO (color_from.f k y0 y1 y2) (color_from.f (k + 1) y0 y1 y2)) ∧ (∀ y0 y1 y2 y3, LeO (color_from.l k y0 y1 y2 y3) (color_from.l (k + 1) y0 y1 y2 y3))
 | 0 => ⟨fun _ _ _ r h => by simp [color_from.f] at h, fun _ _ _ _ r h => by simp [color_from.l] at h⟩
 | k + 1 => by
  obtain ⟨ih0, ih1⟩ := color_from.mono_l k
  refine ⟨?_, ?_⟩
  ·intro y0 y1 y2
   unfold color_from.f
   exact LeO.ite (LeO.refl _) (ih1 _ _ _ _)
  ·intro y0 y1 y2 y3
   unfold color_from.l
   exact LeO.ite (LeO.ite (LeO.ite (LeO.ite (LeO.bind (ih0 _ _ _) fun _ => ih1 _ _ _ _) (LeO.refl _)) (LeO.refl _)) (ih1 _ _ _ _)) (LeO.refl _)
def caR (O F : Nat) : Array Value := #[.pointer (some ⟨O, 0, none⟩), .pointer (some ⟨F, 0, none⟩)]
structure RS (w0 : World) (O F : Nat) (ok : Nat → Prop) (W : World) (vO : Value) (out : List (List Int)) : Prop where
 below : Below w0.heap.size w0 W
 bO : W.heap[O]? = some (.cells #[vO] 22 (0, 0))
 bF : W.heap[F]? = some (.cells #[.func (.func 129) #[] (caR O F)] 131 (0, 0))
 S : Kd.S (Kd.slice 3 (Kd.int .i64)) 28 W w0.heap.size ok vO out
 nO : ¬ ok O
 nF : ¬ ok F
 gO : w0.heap.size ≤ O
section
variable {w0 : World} {O F : Nat} {ok ok' : Nat → Prop} {W W1 : World} {vO : Value} {out : List (List Int)}
theorem RS.next (h : RS w0 O F ok W vO out) (hb : Below W.heap.size W W1) : RS w0 O F ok W1 vO out := ⟨below_step h.below hb, blk_below h.bO hb, blk_below h.bF hb, Kd.S_below h.S hb, h.nO, h.nF, h.gO⟩
theorem RS.mono (h : RS w0 O F ok W vO out) (hk : ∀ b, ok b → ok' b) (n1 : ¬ ok' O) (n2 : ¬ ok' F) : RS w0 O F ok' W vO out := ⟨h.below, h.bO, h.bF, Kd.S_mono h.S hk, n1, n2, h.gO⟩
theorem RS.into (h : RS w0 O F ok W vO out) (hb : Below W.heap.size W W1) : RS w0 O F (fun b => (ok b ∧ b < W.heap.size) ∨ W1.heap.size ≤ b) W1 vO out := by
 have lO := blk_lt h.bO
 have lF := blk_lt h.bF
 have hs := hb.size
 refine ⟨below_step h.below hb, blk_below h.bO hb, blk_below h.bF hb, Kd.S_mono (Kd.S_below (Kd.S_mono (Kd.S_bound h.S) (ok' := fun b => ok b ∧ b < W.heap.size) fun k hk => ⟨hk.1, hk.2.2.1⟩) hb) fun k hk => Or.inl hk, fun e => ?_, fun e => ?_, h.gO⟩
 ·rcases e with e | e
  ·exact h.nO e.1
  ·omega
 ·rcases e with e | e
  ·exact h.nF e.1
  ·omega
theorem RS.ne (h : RS w0 O F ok W vO out) : O ≠ F := fun e => by
 have h1 := h.bO
 rw [e, h.bF] at h1
 have := Option.some.inj h1
 injection this with _ ht
 exact absurd ht (by decide)
theorem RS.own (h : RS w0 O F ok W vO out) : ∀ k, vO.ownBlock = some k → ok k := (Kd.S_R h.S).1
theorem RS.put (h : RS w0 O F ok W vO out) {v1 : Value} {out1 : List (List Int)} (hg : W.grownBy W1 vO.ownBlock) (hb : Below w0.heap.size w0 W1) (hS : Kd.S (Kd.slice 3 (Kd.int .i64)) 28 W1 w0.heap.size ok v1 out1) :
  W1.cell? ⟨O, 0, none⟩ = some vO ∧ W1.frozen? ⟨O, 0, none⟩ = false ∧ RS w0 O F ok (W1.setCell ⟨O, 0, none⟩ v1) v1 out1 ∧ KeptBut (fun b => b = O ∨ ok b) W (W1.setCell ⟨O, 0, none⟩ v1) := by
 have b1 := blk_grown h.bO hg (Kd.S_ne h.S h.bO (by decide))
 have b2 := blk_grown h.bF hg (Kd.S_ne h.S h.bF (by decide))
 refine ⟨(blk_cell b1 0).trans rfl, blk_frozen b1 0, ⟨below_set hb h.gO, blk_put (cs := #[vO]) b1 0 _ rfl, blk_far b2 (fun e => h.ne e.symm) _, Kd.S_far (p := ⟨O, 0, none⟩) hS (fun k hk e => h.nO (by have e2 : k = O := e; rw [← e2]; exact hk)) v1, h.nO, h.nF, h.gO⟩, ?_⟩
 refine (KeptBut.of_grown hg fun b hb => Or.inr (h.own b hb)).trans ⟨rfl, rfl, rfl, Nat.le_of_eq (by simp [World.setCell]), fun b hb hn => Below.heap_setCell W1 ⟨O, 0, none⟩ v1 b fun e => hn (Or.inl e)⟩
end
def FromOkR (w0 : World) (O F : Nat) (k : Nat) : Prop := ∀ (ok : Nat → Prop) (done left : List Int) (out R : List (List Int)) (W : World) (vO : Value) (A0 : Option Addr) (c0 : Nat) (A1 : Option Addr) (c1 : Nat), RS w0 O F ok W vO out → (∀ b, W.heap.size ≤ b → ok b) →
 Kd.C (Kd.int .i64) W A0 done.length done → done.length ≤ c0 → (∀ a, A0 = some a → ¬ (a.block = O ∨ ok a.block)) → Kd.C (Kd.int .i64) W A1 left.length left → left.length ≤ c1 → (∀ a, A1 = some a → ¬ (a.block = O ∨ ok a.block)) → color_from.f k done left out = some R →
 Calls Try.prog 129 (#[.slice A0 done.length c0, .slice A1 left.length c1] ++ caR O F) W fun e W' => e = .returned (.tuple #[]) ∧ (∃ v', RS w0 O F ok W' v' R) ∧ KeptBut (fun b => b = O ∨ ok b) W W'
def color_from.T1 : Bool × List (List Nat × List Nat) := (true, [([], []), ([], []), ([1], [1]), ([2], [2]), ([0, 3, 2], [0, 3]), ([4, 4, 0, 1, 2, 3, 4], [4])])
def color_from.B1 : List Nat := [0, 0, 2, 6, 15, 31]
theorem color_from.tab1 : rtab .any (opsOf Try.f129 1) = color_from.T1 := by kernel_rfl
theorem color_from.bits1 : waitsOk color_from.T1.2 color_from.B1 = true := by kernel_rfl
def color_from.T6 : Bool × List (List Nat × List Nat) := (true, [([], []), ([], []), ([1], [1]), ([], []), ([3], [3]), ([2, 4, 2], [2, 4]), ([], []), ([6, 5], [6]), ([], []), ([], []), ([9], [9]), ([7, 8, 10, 7], [7, 8, 10]), ([0, 5, 11, 11], [0, 5, 11])])
def color_from.B6 : List Nat := [0, 0, 2, 0, 8, 30, 0, 126, 0, 0, 512, 2046, 4095]
theorem color_from.tab6 : rtab .any (opsOf Try.f129 6) = color_from.T6 := by kernel_rfl
theorem color_from.bits6 : waitsOk color_from.T6.2 color_from.B6 = true := by kernel_rfl
theorem infoInts : (Try.prog.info? 28).map (fun i => (i.zero, i.size, i.bytes)) = some (some (.slice none 0 0), 1, 24) := by kernel_rfl
theorem from_leaf (w0 : World) (O F : Nat) (ok : Nat → Prop) (done : List Int) (out : List (List Int)) (W : World) (vO : Value) (A0 : Option Addr) (c0 : Nat) (A1 : Option Addr) (c1 : Nat) (hS : RS w0 O F ok W vO out) (hfr : ∀ b, W.heap.size ≤ b → ok b)
  (hd : Kd.C (Kd.int .i64) W A0 done.length done) (hdc : done.length ≤ c0) (d1 : done.length < 1000000) (d2 : out.length < 1000000000) :
  Calls Try.prog 129 (#[.slice A0 done.length c0, .slice A1 0 c1] ++ caR O F) W fun e W' => e = .returned (.tuple #[]) ∧ (∃ v', RS w0 O F ok W' v' (out ++ [done])) ∧ KeptBut (fun b => b = O ∨ ok b) W W' := by
 have HS := am hS
 have HFR := am hfr
 have HD := am hd
 have HDC := am hdc
 have D2 := am d2
 have HCF : Aside0 (slices_Clone_int_int.f done = some done) := ⟨by unfold slices_Clone_int_int.f; rw [if_pos (by omega)]⟩
 clear hS hfr hd hdc d1 d2
 have e1 : (#[Value.slice A0 done.length c0, .slice A1 0 c1] ++ caR O F : Array Value) = #[.slice A0 done.length c0, .slice A1 0 c1, .pointer (some ⟨O, 0, none⟩), .pointer (some ⟨F, 0, none⟩)] := rfl
 rw [e1]
 clear e1
 go_enter Try.func129, Try.ntmps129
 go_wp2_with fail
 have HSd := am (HS.out.next (below_drew (Below.refl _ W)))
 have HDd := am (Kd.C_drew HD.out)
 have hc0 : W.drew.cell? ⟨O, 0, none⟩ = some vO := (blk_cell HSd.out.bO 0).trans rfl
 refine start_ (n := 6) (S := fun w' => w'.cell? ⟨O, 0, none⟩ = some vO) (ds := [5]) #[false, false, false, false, false, false] (by kernel_rfl) rfl rfl hc0 (fun hHeld => ?_); refine with_tabW color_from.tab1 color_from.bits1 (fun HT_ HW_ => ?_)
 have hsz : W.heap.size ≤ W.drew.heap.size := Nat.le_refl _
 have hKd : KeptBut (fun b => b = O ∨ ok b) W W.drew := KeptBut.of_below (below_drew (Below.refl _ W))
 have HKd := am hKd
 clear hc0 hKd HD HS
 generalize W.drew = wd at HSd HDd HKd hsz hHeld ⊢
 have HSZ := am hsz
 clear hsz
 refine pv_ 1 12 xos0 HT_ ?_
 refine tv_ 0 11 xos1 HT_ HW_ hHeld ?_
 refine one_ (i := 2) (N := some 13) xos2 rfl rfl (one_of HT_.out (by kernel_rfl)) (by decide) (fun K hK => ?_)
 refine goes_ Try.func66 (by kernel_rfl) rfl #[.slice A0 done.length c0] (by rfl) rfl rfl (by (try simp only [List.map_toArray, List.map_cons, List.map_nil]); first | done | rfl) ?_
 refine (slices_Clone_int_int.calls A0 c0 done done _ HDd.out HDC.out HCF.out).mono ?_
 rintro e w14 ⟨v13, rfl, ho0, hb⟩
 refine ⟨_, rfl, ?_⟩
 have HS4 := am (HSd.out.next hb)
 have HR4 := am (Kd.R_lower ho0 HSd.out.below.size)
 have HB4 := am (fun k (hk : v13.ownBlock = some k) => HFR.out k (Nat.le_trans HSZ.out (Kd.R_base ho0 k hk)))
 have HE4 := am (Kd.S_elder' HSd.out.S (Kd.R_base ho0) hb)
 have HK4 := am (HKd.out.trans (KeptBut.of_below hb))
 have HSZ4 := am (Nat.le_trans HSZ.out hb.size)
 clear ho0 hb HSd HKd HDd HSZ
 obtain ⟨Ao, co, eo⟩ := Kd.R_slice HR4.out
 subst eo
 refine hK.out _ _ ((blk_cell HS4.out.bO 0).trans rfl) (fun hHeld => ?_)
 clear hK K
 refine nm_ 13 ?_
 refine one_ (i := 3) (N := some 14) xos3 rfl rfl (one_of HT_.out (by kernel_rfl)) (by decide) (fun K hK => ?_)
 refine value_ (w1 := ?_) (v := ?_) (by rfl) rfl ?_ ?_
 rotate_left 2
 ·go_simp
  constructor
  ·rfl
  ·rfl
 refine hK.out _ _ ((blk_cell (blk_alloc HS4.out.bO _) 0).trans rfl) (fun hHeld => ?_)
 clear hK K
 refine nm_ 14 ?_
 refine one_ (i := 4) (N := some 15) xos4 rfl rfl (one_of HT_.out (by kernel_rfl)) (by decide) (fun K hK => ?_)
 have HN4 := am (fun k (hk : (.slice Ao done.length co : Value).ownBlock = some k) => ((Kd.R_apart' HR4.out (Kd.S_typed HE4.out) (by decide)).1 k hk).2)
 refine Kd.S_append_step (Kd.slice 3 (Kd.int .i64)) (w0 := w0) w0.heap.size (by rfl) (.tmp 11) (.tmp 14) 22 28 (.slice none 0 0) 24 rfl Try.underlying22 infoInts rfl (by decide) (by omega) vO out done [.slice Ao done.length co] ok (fun k_ => some k_ = (.slice Ao done.length co : Value).ownBlock) rfl rfl ?aP (fun k_ hk_ => ⟨HB4.out k_ hk_.symm, HN4.out k_ hk_.symm⟩) ?aF ?aO ?aB ?aS ?aL ?_
 case aP => exact Kd.M_row (Kd.R_mono (Kd.R_tight rfl HR4.out) (fun _ h_ => h_))
 case aB => exact HS4.out.below
 case aF => exact fun k hk => HFR.out k (Nat.le_trans HSZ4.out hk)
 case aO => exact Kd.S_mono HE4.out fun k hk => ⟨hk.1, fun e => hk.2 e⟩
 case aS => exact HS4.out.below.size
 case aL => have := D2.out; omega
 intro v15 w15 ho hb hg hat
 obtain ⟨hc15, hf15, hS15, hK15⟩ := HS4.out.put hg hb ho
 have HS15 := am hS15
 have HK15 := am (HK4.out.trans hK15)
 clear hS15 hK15 hb hg hat HS4 HK4 HE4 HR4 HB4 HN4 HSZ4
 obtain ⟨Ap, cp, ep⟩ := Kd.S_slice ho
 rw [show (out ++ [done]).length = out.length + 1 by simp] at ep
 subst ep
 clear ho
 refine hK.out _ _ hc15 (fun hHeld => ?_)
 clear hK K
 refine nm_ 15 ?_
 refine last_ (i := 5) (N := none) xos5 rfl rfl (one_of HT_.out (by kernel_rfl)) (by decide) (fun K hK => ?_)
 refine skip_ (w1 := ?_) (by rfl) rfl ?_ ?_
 rotate_left
 ·go_simp
  rfl
 refine hK.out _ _ ?_
 clear hK K
 refine done_ (done_of HT_.out (by kernel_rfl)) ?_
 clear HT_ HW_
 go_wp2_with fail
 refine bodyPost_ret (results_none rfl _ _ _) rfl ?_
 exact ⟨rfl, ⟨_, HS15.out⟩, HK15.out⟩
theorem own_block {w : World} {base : Nat} {ok : Nat → Prop} {a : Addr} {n c : Nat} {xs : List Int} (h : Kd.R (Kd.int .i64) 3 w base ok (.slice (some a) n c) xs) : base ≤ a.block ∧ a.block < w.heap.size := by
 rcases R_parts h with ⟨e, _⟩ | ⟨g, cap, e, hlt, _, _⟩
 ·cases e
 ·injection e with e1 e2 e3
  injection e1 with e1
  subst e1
  exact ⟨Kd.R_base h g rfl, hlt⟩
theorem from_stepR (w0 : World) (O F k : Nat) (ih : ∀ j, j ≤ k → FromOkR w0 O F j) : FromOkR w0 O F (k + 1) := by
 intro ok done left out R W vO A0 c0 A1 c1 hS hfr hd hdc hda hl hlc hla h
 simp only [color_from.f] at h
 by_cases hz : left.length = 0
 ·rw [if_pos hz] at h
  by_cases d1 : done.length < 1000000
  ·rw [if_pos d1] at h
   by_cases d2 : out.length < 1000000000
   ·rw [if_pos d2] at h
    obtain rfl := Option.some.inj h
    rw [hz]
    exact from_leaf w0 O F ok done out W vO A0 c0 A1 c1 hS hfr hd hdc d1 d2
   ·rw [if_neg d2] at h; cases h
  ·rw [if_neg d1] at h; cases h
 ·rw [if_neg hz] at h
  have zb : ((left.length : Int) == 0) = false := by rw [beq_eq_false_iff_ne]; omega
  have HS := am hS
  have HFR := am hfr
  have HD := am hd
  have HDC := am hdc
  have HDA := am hda
  have HL := am hl
  have HLC := am hlc
  have HLA := am hla
  have IH := am ih
  have H' := am h
  clear hS hfr hd hdc hda hl hlc hla ih h hz
  have e1 : (#[Value.slice A0 done.length c0, .slice A1 left.length c1] ++ caR O F : Array Value) = #[.slice A0 done.length c0, .slice A1 left.length c1, .pointer (some ⟨O, 0, none⟩), .pointer (some ⟨F, 0, none⟩)] := rfl
  rw [e1]
  clear e1
  go_enter Try.func129, Try.ntmps129
  go_wp2_with fail
  go_loopg [18] k (fun kq v18 w' => ∃ (i : Nat) (vO : Value) (out : List (List Int)), v18 = .int .i64 (i : Int) ∧ Aside0 (color_from.l kq done left i out = some R) ∧ Aside0 (kq ≤ k) ∧ Aside0 (RS w0 O F ok w' vO out) ∧ Aside0 (KeptBut (fun b => b = O ∨ ok b) W w'))
  case atStart => exact ⟨0, vO, out, rfl, H', ⟨Nat.le_refl _⟩, HS, ⟨KeptBut.refl _ _⟩⟩
  case round =>
   clear H' HS vO out
   obtain ⟨i, vO, out, rfl, HA, HK1, HS, HK⟩ := hrel
   cases gk with
   | zero => exact absurd HA.out (by simp [color_from.l])
   | succ k1 =>
    have H := HA.out
    clear HA
    simp only [color_from.l] at H
    have HDw := am (C_keptK HD.out HK.out HDA.out)
    have HLw := am (C_keptK HL.out HK.out HLA.out)
    by_cases d3 : i < left.length
    ·rw [if_pos d3] at H
     have hlen := Kd.C_max HL.out
     have d3b : decide ((i : Int) < (left.length : Int)) = true := decide_eq_true (by omega)
     have p0 : (0 : Int) ≤ (i : Int) := Int.natCast_nonneg i
     have p1 : (i : Int) < (left.length : Int) := by omega
     obtain ⟨ad, ea, hx⟩ := Kd.at_int HLw.out (i : Int) p0 p1
     subst ea
     rw [Int.toNat_natCast] at hx
     have D3 := am d3
     have q0 := eq_true p0
     have q1 := eq_true p1
     have wi : wrap64 ((i : Int) + 1) = ((i + 1 : Nat) : Int) := by unfold wrap64; omega
     have wn : wrap64 ((i + 1 : Nat) : Int) = ((i + 1 : Nat) : Int) := by unfold wrap64; omega
     generalize hxx : rd left (i : Int) = x at H hx
     have HXX := am hxx
     by_cases d4 : i = 0 ∨ rd left ((i - 1 : Nat) : Int) ≠ x
     ·rw [if_pos d4] at H
      by_cases d5 : done.length < 1000000
      ·rw [if_pos d5] at H
       by_cases d6 : left.length < 1000000
       ·rw [if_pos d6] at H
        obtain ⟨o, h1, h2⟩ := Option.bind_eq_some_iff.1 H
        have H1 := am h1
        have H2 := am h2
        have D5 := am d5
        have D6 := am d6
        have HCF : Aside0 (slices_Clone_int_int.f done = some done) := ⟨by unfold slices_Clone_int_int.f; rw [if_pos (by omega)]⟩
        have HCL : Aside0 (slices_Clone_int_int.f left = some left) := ⟨by unfold slices_Clone_int_int.f; rw [if_pos (by omega)]⟩
        have htest : ((i : Int) == 0) = true ∨ (((i : Int) == 0) = false ∧ (rd left ((i - 1 : Nat) : Int) == x) = false ∧ wrap64 ((i : Int) - 1) = ((i - 1 : Nat) : Int) ∧ ((0 : Int) ≤ ((i - 1 : Nat) : Int)) = True ∧ (((i - 1 : Nat) : Int) < (left.length : Int)) = True ∧ wr.cell? (ad.add (i - 1)) = some (.int .i64 (rd left ((i - 1 : Nat) : Int)))) := by
         by_cases z : i = 0
         ·exact Or.inl (by rw [beq_iff_eq]; omega)
         ·have r1 : ((i - 1 : Nat) : Int) < (left.length : Int) := by omega
          obtain ⟨ad', ea', hx'⟩ := Kd.at_int HLw.out ((i - 1 : Nat) : Int) (Int.natCast_nonneg _) r1
          injection ea' with ea'
          subst ea'
          rw [Int.toNat_natCast] at hx'
          refine Or.inr ⟨by rw [beq_eq_false_iff_ne]; omega, ?_, by unfold wrap64; omega, eq_true (Int.natCast_nonneg _), eq_true r1, hx'⟩
          rw [beq_eq_false_iff_ne]
          exact d4.resolve_left z
        clear H h1 h2 d3 d4 d5 d6 p0 p1 hxx hlen
        rcases htest with hp | ⟨hp, hu0, w1, z1, z2, hx1⟩
        all_goals (
         go_wp2_with fail
         have HSd := am (HS.out.next (below_drew (Below.refl _ wr)))
         have HDd := am (Kd.C_drew HDw.out)
         have HLd := am (Kd.C_drew HLw.out)
         have HKd := am (HK.out.trans (KeptBut.of_below (below_drew (Below.refl _ wr))))
         have hc0 : wr.drew.cell? ⟨F, 0, none⟩ = some (.func (.func 129) #[] (caR O F)) := (blk_cell HSd.out.bF 0).trans rfl
         refine start_ (n := 13) (S := fun w' => w'.cell? ⟨F, 0, none⟩ = some (.func (.func 129) #[] (caR O F))) (ds := [12]) #[false, false, false, false, false, false, false, false, false, false, false, false, false] (by kernel_rfl) rfl rfl hc0 (fun hHeld => ?_); refine with_tabW color_from.tab6 color_from.bits6 (fun HT_ HW_ => ?_)
         clear hc0 HDw HLw HS HK hx
         (try clear hx1)
         generalize wr.drew = wd at HSd HDd HLd HKd hHeld ⊢
         have HBd := am (Below.refl wd.heap.size wd)
         refine pv_ 1 35 xos6 HT_ ?_
         refine pv_ 3 37 xos7 HT_ ?_
         refine pv_ 6 40 xos8 HT_ ?_
         refine pv_ 8 42 xos9 HT_ ?_
         refine pv_ 9 43 xos10 HT_ ?_
         refine pv_ 10 44 xos11 HT_ ?_
         refine tv_ 0 34 xos12 HT_ HW_ hHeld ?_
         refine two_ (i := 2) (j := 4) (Ni := some 36) (Nj := some 38) xos13 xos14 rfl rfl rfl rfl (two_of HT_.out (by kernel_rfl)) (by decide) (by decide) (fun K hK => ?_) (fun K hK => ?_)
         focus (
          refine goes_ Try.func66 (by kernel_rfl) rfl #[.slice A0 done.length c0] (by rfl) rfl rfl (by (try simp only [List.map_toArray, List.map_cons, List.map_nil]); first | done | rfl) ?_
          refine (slices_Clone_int_int.calls A0 c0 done done _ (Kd.C_below HDd.out HBd.out) HDC.out HCF.out).mono ?_
          rintro e w14 ⟨v13, rfl, ho0, hb⟩
          refine ⟨_, rfl, ?_⟩
          have HR := am (Kd.R_lower ho0 HBd.out.size)
          have HBd := am (below_step HBd.out hb)
          clear ho0 hb
          obtain ⟨Ao, co, eo⟩ := Kd.R_slice HR.out
          subst eo
          refine hK.out _ _ ((blk_cell (HSd.out.next HBd.out).bF 0).trans rfl) (fun hHeld => ?_)
          clear hK K
          refine nm_ 36 ?_
          refine one_ (i := 4) (N := some 38) xos15 rfl rfl (one_of HT_.out (by kernel_rfl)) (by decide) (fun K hK => ?_)
          refine value_ (v := .slice (some ⟨w14.heap.size, 0, none⟩) 1 1) (w1 := w14.alloc (.cells #[.int .i64 x] 3)) (by rfl) rfl (by first | (go_simp; done) | (go_simp; rfl)) ?_
          have hb_ := ba (Below.refl _ w14) (.cells #[.int .i64 x] 3)
          have HL2 := am (blk_new w14 (.cells #[.int .i64 x] 3))
          have HR := am (Kd.R_below HR.out hb_)
          have HBd := am (below_step HBd.out hb_)
          clear hb_
          refine hK.out _ _ ((blk_cell (HSd.out.next HBd.out).bF 0).trans rfl) (fun hHeld => ?_)
          clear hK K
          generalize w14.heap.size = b2 at HL2 ⊢
          generalize w14.alloc (.cells #[.int .i64 x] 3) = wl at HL2 HBd hHeld HR ⊢
          refine nm_ 38 ?_
          generalize wl = wt at HR HL2 HBd hHeld ⊢)
         rotate_left
         focus (
          refine value_ (v := .slice (some ⟨wd.heap.size, 0, none⟩) 1 1) (w1 := wd.alloc (.cells #[.int .i64 x] 3)) (by rfl) rfl (by first | (go_simp; done) | (go_simp; rfl)) ?_
          have hb_ := ba (Below.refl _ wd) (.cells #[.int .i64 x] 3)
          have HL2 := am (blk_new wd (.cells #[.int .i64 x] 3))
          have HBd := am (below_step HBd.out hb_)
          clear hb_
          refine hK.out _ _ ((blk_cell (HSd.out.next HBd.out).bF 0).trans rfl) (fun hHeld => ?_)
          clear hK K
          generalize wd.heap.size = b2 at HL2 ⊢
          generalize wd.alloc (.cells #[.int .i64 x] 3) = wl at HL2 HBd hHeld ⊢
          refine nm_ 38 ?_
          refine one_ (i := 2) (N := some 36) xos15 rfl rfl (one_of HT_.out (by kernel_rfl)) (by decide) (fun K hK => ?_)
          refine goes_ Try.func66 (by kernel_rfl) rfl #[.slice A0 done.length c0] (by rfl) rfl rfl (by (try simp only [List.map_toArray, List.map_cons, List.map_nil]); first | done | rfl) ?_
          refine (slices_Clone_int_int.calls A0 c0 done done _ (Kd.C_below HDd.out HBd.out) HDC.out HCF.out).mono ?_
          rintro e w14 ⟨v13, rfl, ho0, hb⟩
          refine ⟨_, rfl, ?_⟩
          have HR := am (Kd.R_lower ho0 HBd.out.size)
          have HL2 := am (blk_below HL2.out hb)
          have HBd := am (below_step HBd.out hb)
          clear ho0 hb
          obtain ⟨Ao, co, eo⟩ := Kd.R_slice HR.out
          subst eo
          refine hK.out _ _ ((blk_cell (HSd.out.next HBd.out).bF 0).trans rfl) (fun hHeld => ?_)
          clear hK K
          refine nm_ 36 ?_
          generalize w14 = wt at HR HL2 HBd hHeld ⊢)
         all_goals (
          refine one_ (i := 5) (N := some 39) xos16 rfl rfl (one_of HT_.out (by kernel_rfl)) (by decide) (fun K hK => ?_)
          obtain ⟨vm, w15, hrm, hRm, hgm, hatm⟩ := append_runR (P := Try.prog) (Kd.int .i64) wd.heap.size 28 3 28 (.int .i64 0) 8 Try.underlying28 info3 rfl (by decide) (by decide) (.slice Ao done.length co) done x [.int .i64 x] (fun _ => True) (fun _ => False) ⟨b2, 0, none⟩ 1 HR.out rfl (fun _ h => h.elim) (fun _ _ => trivial) (lit_cellsR HL2.out) HBd.out.size (by have := D5.out; omega)
          obtain ⟨Ap, cp, ep⟩ := Kd.R_slice hRm
          rw [show (done ++ [x]).length = done.length + 1 by simp] at ep
          subst ep
          refine value_ (v := .slice Ap (done.length + 1) cp) (w1 := w15) (by rfl) rfl (run_append_opR rfl (by rfl) (by rfl) hrm) ?_
          have HBd := am (pw_below_grown HBd.out (.slice Ao done.length co : Value).ownBlock HBd.out.size hgm (fun k hk => Kd.R_base HR.out k hk))
          have HR39 := am hRm
          clear hrm hRm hgm hatm HR HL2
          refine hK.out _ _ ((blk_cell (HSd.out.next HBd.out).bF 0).trans rfl) (fun hHeld => ?_)
          clear hK K
          refine nm_ 39 ?_
          refine one_ (i := 7) (N := some 41) xos17 rfl rfl (one_of HT_.out (by kernel_rfl)) (by decide) (fun K hK => ?_)
          refine goes_ Try.func66 (by kernel_rfl) rfl #[.slice (some ad) left.length c1] (by rfl) rfl rfl (by (try simp only [List.map_toArray, List.map_cons, List.map_nil]); first | done | rfl) ?_
          refine (slices_Clone_int_int.calls (some ad) c1 left left _ (Kd.C_below HLd.out HBd.out) HLC.out HCL.out).mono ?_
          rintro e w16 ⟨v41, rfl, ho0, hb⟩
          refine ⟨_, rfl, ?_⟩
          have HR41 := am (Kd.R_lower ho0 HBd.out.size)
          have HB41 := am (fun k (hk : v41.ownBlock = some k) => Kd.R_base ho0 k hk)
          have HR39 := am (Kd.R_mono (Kd.R_below (Kd.R_mono (Kd.R_bound HR39.out) (ok' := fun k => k < w15.heap.size) fun k hk => hk.2.2.1) hb) fun k hk => hk)
          have HBd := am (below_step HBd.out hb)
          clear ho0 hb
          refine hK.out _ _ ((blk_cell (HSd.out.next HBd.out).bF 0).trans rfl) (fun hHeld => ?_)
          clear hK K
          refine nm_ 41 ?_
          refine one_ (i := 11) (N := some 45) xos18 rfl rfl (one_of HT_.out (by kernel_rfl)) (by decide) (fun K hK => ?_)
          refine goes_ Try.func130 (by kernel_rfl) rfl #[v41, .int .i64 (i : Int), .int .i64 ((i + 1 : Nat) : Int)] (by rfl) rfl rfl (by (try simp only [List.map_toArray, List.map_cons, List.map_nil]); first | done | rfl | (simp only [wi]; rfl)) ?_
          refine (delete_R HR41.out D3.out).mono ?_
          rintro e w17 ⟨v45, rfl, hown, ho, hg⟩
          refine ⟨_, rfl, ?_⟩
          have HR39 := am (Kd.R_mono (Kd.R_move (Kd.R_bound HR39.out) fun k hk => hg.block k hk.2.2.1 fun e => by have h1 := HB41.out k e.symm; have h2 := hk.1; omega) (ok' := fun _ => True) fun k hk => trivial)
          have HR45 := am ho
          have HBd := am (pw_below_grown HBd.out v41.ownBlock HBd.out.size hg (fun k hk => Kd.R_base HR41.out k hk))
          clear ho hg hown HR41 HB41
          obtain ⟨Aq, cq, eq⟩ := Kd.R_slice HR45.out
          subst eq
          refine hK.out _ _ ((blk_cell (HSd.out.next HBd.out).bF 0).trans rfl) (fun hHeld => ?_)
          clear hK K
          refine nm_ 45 ?_
          refine last_ (i := 12) (N := some 46) xos19 rfl rfl (one_of HT_.out (by kernel_rfl)) (by decide) (fun K hK => ?_)
          have e39 : (done ++ [x]).length = done.length + 1 := by simp
          refine goesC_ Try.func129 (by kernel_rfl) rfl #[.slice Ap (done ++ [x]).length cp, .slice Aq (left.eraseIdx i).length cq] (by rfl) rfl rfl (by rfl) (by rw [e39]; (try simp only [List.map_toArray, List.map_cons, List.map_nil]); first | done | rfl) ?_
          have hS17 := HSd.out.into HBd.out
          have lO := blk_lt HSd.out.bO
          have sz1 := HKd.out.size
          have sz2 := HBd.out.size
          have hA : ∀ {A : Option Addr} {n c : Nat} {xs : List Int}, Kd.R (Kd.int .i64) 3 w17 wd.heap.size (fun _ => True) (.slice A n c) xs → ∀ a, A = some a → ¬ (a.block = O ∨ ((ok a.block ∧ a.block < wd.heap.size) ∨ w17.heap.size ≤ a.block)) := fun hR a e => by
           subst e
           have := own_block hR
           omega
          refine (IH.out k1 (by have := HK1.out; omega) _ (done ++ [x]) (left.eraseIdx i) out o w17 vO Ap cp Aq cq hS17 (fun b hb => Or.inr hb) (Kd.R_reads' HR39.out).2.2 (by first | exact (Kd.R_reads' HR39.out).2.1 | (rw [e39]; exact (Kd.R_reads' HR39.out).2.1)) (hA HR39.out) (Kd.R_reads' HR45.out).2.2 (Kd.R_reads' HR45.out).2.1 (hA HR45.out) H1.out).mono ?_
          rintro e w18 ⟨rfl, ⟨v18, hS18⟩, hk18⟩
          refine ⟨_, rfl, ?_⟩
          have hin : ∀ b, ((ok b ∧ b < wd.heap.size) ∨ w17.heap.size ≤ b) → ok b := fun b hb => hb.elim (fun h => h.1) fun h => HFR.out b (by omega)
          have HS18 := am (hS18.mono hin HSd.out.nO HSd.out.nF)
          have HK18 := am ((HKd.out.trans (KeptBut.of_below HBd.out)).trans (hk18.mono fun b hb => hb.elim Or.inl fun h => Or.inr (hin b h)))
          clear hS17 lO sz1 sz2 hA hS18 hk18 hin HR39 HR45 HSd HKd HBd HDd HLd
          refine hK.out _ _ ?_
          clear hK K
          refine nm_ 46 ?_
          refine done_ (done_of HT_.out (by kernel_rfl)) ?_
          clear HT_ HW_
          go_wp2_with fail
          go_roundg k1
          case measure => omega
          case rel => exact ⟨i + 1, v18, o, by rw [← wi], H2, ⟨by have := HK1.out; omega⟩, HS18, HK18⟩))
       ·rw [if_neg d6] at H; exact absurd H (by simp)
      ·rw [if_neg d5] at H; exact absurd H (by simp)
     ·rw [if_neg d4] at H
      have H' := am H
      have d7 : i ≠ 0 := fun e => d4 (Or.inl e)
      have d8 : rd left ((i - 1 : Nat) : Int) = x := Classical.byContradiction fun e => d4 (Or.inr e)
      have hp : ((i : Int) == 0) = false := by rw [beq_eq_false_iff_ne]; omega
      have hu0 : (rd left ((i - 1 : Nat) : Int) == x) = true := by rw [beq_iff_eq]; exact d8
      have w1 : wrap64 ((i : Int) - 1) = ((i - 1 : Nat) : Int) := by unfold wrap64; omega
      have z1 : ((0 : Int) ≤ ((i - 1 : Nat) : Int)) = True := eq_true (Int.natCast_nonneg _)
      have r1 : ((i - 1 : Nat) : Int) < (left.length : Int) := by omega
      obtain ⟨ad', ea', hx1⟩ := Kd.at_int HLw.out ((i - 1 : Nat) : Int) (Int.natCast_nonneg _) r1
      injection ea' with ea'
      subst ea'
      rw [Int.toNat_natCast] at hx1
      have z2 := eq_true r1
      clear H d3 d4 d7 d8 p0 p1 hxx hlen r1
      go_wp2_with fail
      go_roundg k1
      case measure => omega
      case rel => exact ⟨i + 1, vO, out, by rw [← wi], H', ⟨by have := HK1.out; omega⟩, HS, HK⟩
    ·rw [if_neg d3] at H
     obtain rfl := Option.some.inj H
     have d3b : decide ((i : Int) < (left.length : Int)) = false := decide_eq_false (by omega)
     have d3c : decide (i < left.length) = false := decide_eq_false d3
     clear H d3
     go_wp2_with fail
     first | go_end0 | refine bodyPost_ret (results_none rfl _ _ _) rfl ?_ | refine bodyPost_end (results_none rfl _ _ _) rfl ?_
     exact ⟨rfl, ⟨_, HS.out⟩, HK.out⟩
end Go.Proofs.Ytjgdalhdiohclaa.Q
end
