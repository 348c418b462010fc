/- The law MazeNames holds: a maze whose rooms are named anew is connected if and only if the maze is, and is walked through alike; no bound on the arguments beyond their types'. (text 18 of 19) -/
import Derived.Test.YtgbjbgdnldklpaaZMazeNamesp
import Derived.Test.YtgbjbgdnldklpaaZMazeNamesq
import Derived.Test.YtgbjbgdnldklpaaZMazeNameso
import Derived.Test.YtgbjbgdnldklpaaZMazeNamesh
import Derived.Test.YtgbjbgdnldklpaaZMazeNamesn
/-! Part StmtMazeNames -/
section
-- Written by xrow.py, a program of this session's. Lean checks it.
namespace Go.Proofs.Ytgbjbgdnldklpaa.Q
/-- What is left to prove of the law MazeNames. -/
def mizmazelaw10_MazeNames.Pure : Prop := ∀ (l0_0 : List (List S44)), ∀ (a1 : Int), ∀ (a2 : Bool), ∀ (a3 : Int), ∀ (l4 : List Int), MazeOk l0_0 → (0 ≤ a1 ∧ a1 ≤ 255) → (-9223372036854775808 ≤ a3 ∧ a3 ≤ 9223372036854775807) → IntsOk l4 → ∃ k, mizmazelaw10_MazeNames.f k l0_0 a1 a2 a3 l4 = some true
end Go.Proofs.Ytgbjbgdnldklpaa.Q
end
/-! Part PureMazeNames -/
section
namespace Go.Proofs.Ytgbjbgdnldklpaa.Pure
open Go.RowKit Go.Proofs.YtgbjbgdnldklpaaW.PrintWords Go.Proofs.YtgbjbgdnldklpaaW.PrintLast Go.Proofs.YtgbjbgdnldklpaaW.PrintMore Go.Proofs.Ytgbjbgdnldklpaa.Q
set_option linter.unusedVariables false
set_option linter.unusedSectionVars false
set_option linter.unusedSimpArgs false
/-- The new name of a room. -/
def nmF (n by_ : Nat) (turn : Bool) (r : Nat) : Nat := if turn = true then n - 1 - (r + by_) % n else (r + by_) % n
theorem nmF_lt {n b : Nat} {t : Bool} (h : 0 < n) (r : Nat) : nmF n b t r < n := by
  have := Nat.mod_lt (r + b) h
  unfold nmF; split <;> omega
theorem nmF_inj {n b : Nat} {t : Bool} {r s : Nat} (hr : r < n) (hs : s < n) (h : nmF n b t r = nmF n b t s) : r = s := by
  have h1 := Nat.mod_lt (r + b) (show 0 < n by omega)
  have h2 := Nat.mod_lt (s + b) (show 0 < n by omega)
  have h3 : (r + b) % n = (s + b) % n := by
    unfold nmF at h
    split at h <;> omega
  have h4 := Nat.div_add_mod (r + b) n
  have h5 := Nat.div_add_mod (s + b) n
  have h6 : ∀ p q : Nat, n * p + (s + b) % n = r + b → n * q + (s + b) % n = s + b → r = s := by
    intro p q hp hq
    rcases Nat.lt_trichotomy p q with h7 | h7 | h7
    · have : n * (p + 1) ≤ n * q := Nat.mul_le_mul_left n h7
      rw [Nat.mul_add, Nat.mul_one] at this
      omega
    · subst h7; omega
    · have : n * (q + 1) ≤ n * p := Nat.mul_le_mul_left n h7
      rw [Nat.mul_add, Nat.mul_one] at this
      omega
  exact h6 ((r + b) / n) ((s + b) / n) (by rw [← h3]; exact h4) h5
theorem rdTE {l : List S44} {i : Nat} (h : i < l.length) : rd_T44 l (i : Int) = l[i] := by
  show l.getD i _ = _
  rw [List.getD_eq_getElem?_getD, List.getElem?_eq_getElem h]; rfl
theorem rdL_set {l : List (List S44)} {i j : Nat} {v : List S44} (hj : j < l.length) : rd_L4 (l.set i v) (j : Int) = if i = j then v else rd_L4 l (j : Int) := by
  rw [rdLE4 (by rw [List.length_set]; exact hj), rdLE4 hj, List.getElem_set]
theorem turnE {n r : Nat} (hr : r < n) (hn : n ≤ 60) : wrap64 (wrap64 ((n : Int) - 1) - (r : Int)) = ((n - 1 - r : Nat) : Int) := by
  unfold wrap64; omega
section
variable {z : List (List S44)} {n m : Nat} (V : VZ z n m)
include V
theorem stepsZ_nm {zz : List (List S44)} {nm : Nat → Nat} (hg : ∀ r d, r < n → d < m → gz zz (nm r) d = nm (gz z r d)) : ∀ {w : List Nat} {s : Nat}, s < n → Wd m w → stepsZ zz (nm s) w = (stepsZ z s w).map nm ∧ endZ zz (nm s) w = nm (endZ z s w)
  | [], s, hs, hw => ⟨rfl, rfl⟩
  | x :: w, s, hs, hw => by
    have := stepsZ_nm hg (V.gLt s x hs hw.head) hw.tail
    simp only [stepsZ, endZ, hg s x hs hw.head, this.1, this.2, List.map_cons]
    exact ⟨trivial, trivial⟩
theorem cn_any (h : Cn z n m) {s : Nat} (hs : s < n) : ∀ t, t < n → ∃ w, Wd m w ∧ endZ z s w = t := fun t ht => by
  obtain ⟨u, hu, hu2⟩ := h s hs
  obtain ⟨w, hw, hw2⟩ := h t ht
  have h0 := V.n0
  refine ⟨bkZ z 0 u ++ w, (bkZ_wd V h0 hu).app hw, ?_⟩
  rw [endZ_app, ← hu2, (bk_ends V h0 hu).1, hw2]
end
set_option maxHeartbeats 2000000 in
theorem MazeNames : Q.mizmazelaw10_MazeNames.Pure := by
  intro z a1 turn a l hz ha1 _ hl
  refine Ev.rounds (g := fun k => mizmazelaw10_MazeNames.f k z a1 turn a l) ?_
  unfold mizmazelaw10_MazeNames.f
  have out : Ev (fun k => mizmazelaw10_MazeNames.j0 k a1 turn a l true z) true := by
    refine Ev.next ?_
    simp only [mizmazelaw10_MazeNames.j0, if_true]
    exact awake10_end
  obtain ⟨b, hb, hv⟩ := wide_ev z
  refine Ev.bind hb ?_
  cases b with
  | true => simp only [if_true]; exact out
  | false =>
    simp only [Bool.false_eq_true, if_false]
    refine Ev.bind (ref_valid10 z) ?_
    cases hm : mvB z with
    | false => simp only [Bool.false_eq_true, if_false]; exact out
    | true =>
      simp only [if_true]
      by_cases h5 : (l.length : Int) > 500
      · rw [decide_eq_true h5]; exact out
      rw [decide_eq_false h5]
      have V := mvB_iff.1 hm
      generalize hn : z.length = n at V
      generalize hk : (rd_L4 z 0).length = m at V
      have h0 := V.n0
      have h60 := V.n60
      have hk6 := V.k6
      obtain ⟨by_, rfl⟩ := Int.eq_ofNat_of_zero_le ha1.1
      refine Ev.next ?_
      simp only [mizmazelaw10_MazeNames.j0, Bool.false_eq_true, if_false, hn, if_pos (show (0 : Int) ≤ (n : Int) by omega), Int.toNat_natCast, if_pos (show n ≤ 35184372088832 by omega)]
      generalize hnm : nmF n by_ turn = nm
      have nlt : ∀ r, nm r < n := fun r => by rw [← hnm]; exact nmF_lt h0 r
      have ninj : ∀ r s, r < n → s < n → nm r = nm s → r = s := fun r s hr hs h => by rw [← hnm] at h; exact nmF_inj hr hs h
      have nsur : ∀ t, t < n → ∃ r, r < n ∧ nm r = t := fun t ht => by
        have hd : ((List.range n).map nm).Nodup := by
          unfold List.Nodup
          rw [List.pairwise_map]
          refine List.Pairwise.imp_of_mem ?_ (List.nodup_range (n := n))
          intro p q hp hq hne h
          exact hne (ninj p q (List.mem_range.1 hp) (List.mem_range.1 hq) h)
        have := nodup_full hd (fun x hx => by obtain ⟨r, _, rfl⟩ := List.mem_map.1 hx; exact nlt r) (by simp) ht
        obtain ⟨r, hr, h⟩ := List.mem_map.1 this
        exact ⟨r, List.mem_range.1 hr, h⟩
      -- the end: from the new maze on
      have last : ∀ (nl : List Int) (zz : List (List S44)), nl.length = n → (∀ j, j < n → rd nl (j : Int) = ((nm j : Nat) : Int)) → zz.length = n → (∀ j, j < n → rd_L4 zz ((nm j : Nat) : Int) = (List.range m).map fun d => (⟨((nm (gz z j d) : Nat) : Int), ((dz z j d : Nat) : Int)⟩ : S44)) →
          Ev (fun k => mizmazelaw10_MazeNames.l1 k a l (n : Int) nl (n : Int) z zz) true := by
        intro nl zz hnl hnr hzl hzr
        have row : ∀ j, j < n → (rd_L4 zz ((nm j : Nat) : Int)).length = m := fun j hj => by rw [hzr j hj]; simp
        have at_ : ∀ j d, j < n → d < m → rd_T44 (rd_L4 zz ((nm j : Nat) : Int)) (d : Int) = ⟨((nm (gz z j d) : Nat) : Int), ((dz z j d : Nat) : Int)⟩ := fun j d hj hd => by
          rw [hzr j hj, rdTE (by simpa using hd)]; simp
        have g1 : ∀ j d, j < n → d < m → gz zz (nm j) d = nm (gz z j d) := fun j d hj hd => by unfold gz; rw [at_ j d hj hd]; rfl
        have d1 : ∀ j d, j < n → d < m → dz zz (nm j) d = dz z j d := fun j d hj hd => by unfold dz; rw [at_ j d hj hd]; rfl
        have VV : VZ zz n m := by
          refine ⟨hzl, h0, h60, V.k0, hk6, fun r hr => ?_, fun r d hr hd => ?_, fun r d hr hd => ?_, fun r d hr hd => ?_, fun r d hr hd => ?_, fun r d hr hd => ?_⟩ <;> obtain ⟨j, hj, rfl⟩ := nsur r hr
          · exact row j hj
          · rw [at_ j d hj hd, g1 j d hj hd]
          · rw [at_ j d hj hd, d1 j d hj hd]
          · rw [g1 j d hj hd]; exact nlt _
          · rw [d1 j d hj hd]; exact V.dLt j d hj hd
          · have b := V.back j d hj hd
            have gl := V.gLt j d hj hd
            have dl := V.dLt j d hj hd
            rw [g1 j d hj hd, d1 j d hj hd, g1 _ _ gl dl, d1 _ _ gl dl, b.1, b.2]
            exact ⟨rfl, rfl⟩
        obtain ⟨c, hc1, _, hc2⟩ := conn_both V
        obtain ⟨c', hc1', _, hc2'⟩ := conn_both VV
        have hcc : c = c' := by
          rw [Bool.eq_iff_iff, hc2, hc2']
          obtain ⟨j0, hj0, e0⟩ := nsur 0 h0
          constructor
          · intro h t ht
            obtain ⟨j, hj, rfl⟩ := nsur t ht
            obtain ⟨w, hw, hw2⟩ := cn_any V h hj0 j hj
            exact ⟨w, hw, by rw [← e0, (stepsZ_nm V g1 hj0 hw).2, hw2]⟩
          · intro h t ht
            obtain ⟨w, hw, hw2⟩ := cn_any VV h (nlt 0) (nm t) (nlt t)
            refine ⟨w, hw, ninj _ _ (endZ_lt V h0 hw) ht ?_⟩
            rw [← (stepsZ_nm V g1 h0 hw).2, hw2]
        subst hcc
        refine Ev.next ?_
        simp only [mizmazelaw10_MazeNames.l1, if_neg (show ¬ (n : Int) < (n : Int) by omega)]
        refine Ev.bind hc1 (Ev.bind hc1' ?_)
        simp only [if_true, bne_self_eq_false, Bool.false_eq_true, if_false]
        refine Ev.bind (Ev.const (show maze_Valid.f zz = some true by unfold maze_Valid.f; rw [mvB_of VV])) ?_
        refine Ev.next ?_
        simp only [mizmazelaw10_MazeNames.j4, Bool.not_true, Bool.false_eq_true, if_false]
        by_cases hok : (0 ≤ a ∧ a < n) ∧ l.length ≤ 40000 ∧ inB (m : Int) l = true
        · obtain ⟨⟨ha0, ha1⟩, hl4, hin⟩ := hok
          obtain ⟨s, rfl⟩ := Int.eq_ofNat_of_zero_le ha0
          have hs : s < n := by omega
          obtain ⟨w, hw, rfl⟩ := toI_of hin
          rw [toI_len] at hl4
          refine Ev.bind (walk_ev V hw hl4 hs) ?_
          simp only [if_true, if_neg (show ¬ (s : Int) < 0 by omega), decide_eq_false (show ¬ (s : Int) ≥ (n : Int) by omega)]
          refine Ev.next ?_
          simp only [mizmazelaw10_MazeNames.j5, Bool.false_eq_true, if_false, if_pos (show (0 : Int) ≤ (s : Int) by omega), if_pos (show (s : Int) < (nl.length : Int) by omega), hnr s hs]
          refine Ev.bind (walk_ev VV hw hl4 (nlt s)) ?_
          have hpl := pathZ_len z s w
          have epath : pathZ zz (nm s) w = (pathZ z s w).map nm := by
            unfold pathZ; rw [(stepsZ_nm V g1 hs hw).1]; rfl
          have loop : ∀ (e i : Nat) (x : List Int), i + e = (pathZ z s w).length → x.length = (pathZ z s w).length → (∀ (j : Nat) (hj : j < (pathZ z s w).length), rd x (j : Int) = if j < i then ((nm (pathZ z s w)[j] : Nat) : Int) else (((pathZ z s w)[j] : Nat) : Int)) →
              Ev (fun k => mizmazelaw10_MazeNames.l3 k (n : Int) nl x (toI (pathZ zz (nm s) w)) 0 (i : Int)) true := by
            intro e
            induction e with
            | zero =>
              intro i x hi hx hr
              have ex : x = toI (pathZ zz (nm s) w) := by
                refine List.ext_getElem (by rw [toI_len, epath, List.length_map, hx]) fun p h1 h2 => ?_
                have := hr p (by omega)
                rw [rdE h1, if_pos (by omega)] at this
                rw [this]
                simp only [toI, epath, List.getElem_map]
              refine Ev.next ?_
              simp only [mizmazelaw10_MazeNames.l3, if_neg (show ¬ (i : Int) < (x.length : Int) by omega), if_true]
              rw [← ex]
              refine Ev.bind (same07 x (by omega)) ?_
              simp only [if_true]
              exact awake10_end
            | succ e ih =>
              intro i x hi hx hr
              have hil : i < (pathZ z s w).length := by omega
              have hp : (pathZ z s w)[i] < n := pathZ_lt V hs hw _ (List.getElem_mem hil)
              have e1 := hr i hil
              rw [if_neg (by omega)] at e1
              refine Ev.step (fun k => by rw [mizmazelaw10_MazeNames.l3, if_pos (by omega), if_pos (by omega), e1, if_neg (by omega), if_neg (by omega), if_pos (by omega), if_pos (by omega), Int.toNat_natCast, wrapS (by omega), hnr _ hp]) (ih (i + 1) (x.set i ((nm (pathZ z s w)[i] : Nat) : Int)) (by omega) (by rw [List.length_set]; exact hx) fun j hj => ?_)
              rw [rdI_put (by omega)]
              by_cases e2 : i = j
              · subst e2; rw [if_pos rfl, if_pos (by omega)]
              · rw [if_neg e2, hr j hj]
                by_cases e3 : j < i
                · rw [if_pos e3, if_pos (by omega)]
                · rw [if_neg e3, if_neg (by omega)]
          refine loop _ 0 (toI (pathZ z s w)) (Nat.zero_add _) (toI_len _) fun j hj => ?_
          rw [if_neg (by omega), toI_rd hj]
        · refine Ev.bind (walk_arg V hok) ?_
          simp only [show ¬ (2 : Int) = 0 by decide, if_false]
          refine Ev.next ?_
          simp only [mizmazelaw10_MazeNames.j5, if_true, show ¬ (2 : Int) = 0 by decide, if_false]
          exact awake10_end
      -- the rows
      have rows : ∀ (nl : List Int), nl.length = n → (∀ j, j < n → rd nl (j : Int) = ((nm j : Nat) : Int)) → ∀ (e i : Nat) (zz : List (List S44)), i + e = n → zz.length = n → (∀ j, j < i → rd_L4 zz ((nm j : Nat) : Int) = (List.range m).map fun d => (⟨((nm (gz z j d) : Nat) : Int), ((dz z j d : Nat) : Int)⟩ : S44)) →
          Ev (fun k => mizmazelaw10_MazeNames.l1 k a l (n : Int) nl (i : Int) z zz) true := by
        intro nl hnl hnr e
        induction e with
        | zero =>
          intro i zz hi hzl hzr
          obtain rfl : i = n := by omega
          exact last nl zz hnl hnr hzl hzr
        | succ e ih =>
          intro i zz hi hzl hzr
          have hin : i < n := by omega
          have hrow := V.row i hin
          have inner : ∀ (f d : Nat), d + f = m → Ev (fun k => mizmazelaw10_MazeNames.l2 k a l (n : Int) nl (i : Int) ((List.range d).map fun d => (⟨((nm (gz z i d) : Nat) : Int), ((dz z i d : Nat) : Int)⟩ : S44)) (d : Int) z zz) true := by
            intro f
            induction f with
            | zero =>
              intro d hd
              obtain rfl : d = m := by omega
              have hli := nlt i
              refine Ev.step (fun k => by rw [mizmazelaw10_MazeNames.l2, if_pos (by omega), if_pos (by omega), if_neg (by omega), if_pos (by omega), hnr i hin, if_pos (by omega), if_pos (by omega), Int.toNat_natCast, wrapS (by omega)]) (ih (i + 1) _ (by omega) (by rw [List.length_set]; exact hzl) fun j hj => ?_)
              rw [rdL_set (by rw [hzl]; exact nlt j)]
              by_cases e1 : i = j
              · subst e1; rw [if_pos rfl]
              · rw [if_neg (fun h => e1 (ninj _ _ hin (by omega) h))]
                exact hzr j (by omega)
            | succ f ihf =>
              intro d hd
              have hdm : d < m := by omega
              have hg := V.gLt i d hin hdm
              have e0 := V.f0 i d hin hdm
              have e1 := V.f1 i d hin hdm
              have := ihf (d + 1) (by omega)
              rw [List.range_succ, List.map_append] at this
              refine Ev.step (fun k => by rw [mizmazelaw10_MazeNames.l2, if_pos (by omega), if_pos (by omega), if_pos (by omega), if_pos (by omega), e0, e1, if_pos (by omega), if_pos (by omega), if_pos (by simp; omega), wrapS (by omega), hnr _ hg]; rfl) this
          exact Ev.step (f := fun k => mizmazelaw10_MazeNames.l2 k a l (n : Int) nl (i : Int) [] ((0 : Nat) : Int) z zz) (fun k => by rw [mizmazelaw10_MazeNames.l1, if_pos (by omega)]; rfl) (inner m 0 (by omega))
      -- the names
      have names : ∀ (e i : Nat) (x : List Int), i + e = n → x.length = n → (∀ j, j < i → rd x (j : Int) = ((nm j : Nat) : Int)) → Ev (fun k => mizmazelaw10_MazeNames.l0 k (by_ : Int) turn a l (n : Int) x (i : Int) z) true := by
        intro e
        induction e with
        | zero =>
          intro i x hi hx hr
          obtain rfl : i = n := by omega
          refine Ev.step (fun k => by rw [mizmazelaw10_MazeNames.l0, if_neg (by omega), if_pos (by omega), Int.toNat_natCast, if_pos (by omega)]; rfl) (rows x hx hr i 0 (List.replicate i []) (by omega) (by simp) fun j hj => by omega)
        | succ e ih =>
          intro i x hi hx hr
          have hin : i < n := by omega
          have hml := Nat.mod_lt (i + by_) h0
          have e1 : Int.tmod (wrap64 ((i : Int) + (wrap64 (by_ : Int)))) (n : Int) = (((i + by_) % n : Nat) : Int) := by
            rw [wrapI (z := (by_ : Int)) (by omega) (by omega), wrapI (by omega) (by omega), Int.tmod_eq_emod_of_nonneg (by omega)]
            norm_cast
          have step : ∀ v : Nat, nm i = v → ∀ y : List Int, y.length = n → (∀ j : Nat, j < n → i ≠ j → rd y (j : Int) = rd x (j : Int)) → rd y (i : Int) = (v : Int) → Ev (fun k => mizmazelaw10_MazeNames.l0 k (by_ : Int) turn a l (n : Int) y ((i + 1 : Nat) : Int) z) true := fun v hv y hy h1 h2 => ih (i + 1) y (by omega) hy fun j hj => by
            by_cases e : i = j
            · subst e; rw [h2, hv]
            · rw [h1 j (by omega) e, hr j (by omega)]
          cases turn with
          | true =>
            have hv : nm i = n - 1 - (i + by_) % n := by rw [← hnm]; rfl
            have e2 : ∀ v : Int, rd (x.set i v) (i : Int) = v := fun v => by rw [rdI_put (by omega), if_pos rfl]
            have e3 := turnE hml h60
            refine Ev.step (fun k => by rw [mizmazelaw10_MazeNames.l0, if_pos (by omega), if_neg (by omega), if_pos (by omega), if_pos (by omega), Option.bind_some, if_pos rfl, e1, Int.toNat_natCast, e2, e3, wrapS (by omega)]) (step _ hv _ (by rw [List.length_set, List.length_set]; exact hx) (fun j hj hne => ?_) ?_)
            · rw [rdI_put (by rw [List.length_set]; omega), if_neg hne, rdI_put (by omega), if_neg hne]
            · rw [rdI_put (by rw [List.length_set]; omega), if_pos rfl]
          | false =>
            have hv : nm i = (i + by_) % n := by rw [← hnm]; rfl
            refine Ev.step (fun k => by rw [mizmazelaw10_MazeNames.l0, if_pos (by omega), if_neg (by omega), if_pos (by omega), if_pos (by omega), Option.bind_some, if_neg (by simp), e1, Int.toNat_natCast, wrapS (by omega)]) (step _ hv _ (by rw [List.length_set]; exact hx) (fun j hj hne => ?_) ?_)
            · rw [rdI_put (by omega), if_neg hne]
            · rw [rdI_put (by omega), if_pos rfl]
      exact names n 0 (List.replicate n 0) (by omega) (by simp) fun j hj => by omega
end Go.Proofs.Ytgbjbgdnldklpaa.Pure
end
