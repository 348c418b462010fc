/- In any Eulerian automaton that has a reset word, whatever set of states, neither empty nor all, is led into by more states with a word of at most n - 1 letters, and its shortest reset word has at most n^2 - 3n + 3 letters; in any circular one at most (n - 1)^2. (At most 9 states) (text 39 of 42) -/
import Derived.Test.YtcpmmkennnjalaaZTopKarig
import Derived.Test.YtcpmmkennnjalaaZTopKariu
import Derived.Test.YtcpmmkennnjalaaZTopKarik
import Derived.Test.YtcpmmkennnjalaaZTopKarizb
section
namespace Go.Proofs.Ytcpmmkennnjalaa.Q
open Go.RowKit Go.Sort Go.Shelf Go.Lib Go.Proofs.YtcpmmkennnjalaaW.PrintWords Go.Proofs.YtcpmmkennnjalaaW.PrintLast Go.Proofs.YtcpmmkennnjalaaW.PrintMore
set_option linter.unusedVariables false
set_option linter.unusedSimpArgs false
/-! ### the stable sort of a row of sets with their words -/
/-- an element of such a row, with the word that it holds -/
structure El (w : World) (base : Nat) where
  z : Int × Hd
  r : List Int
  ok : PS w base z.2 r
  short : r.length < 1000000000000000000
instance (w : World) (base : Nat) : Inhabited (El w base) := ⟨⟨(0, none, 0, 0), [], Kd.R_nil _ _ _ _ _, by decide⟩⟩
def El.told {w : World} {base : Nat} (x : El w base) : Int × List Int := (x.z.1, x.r)
def cfEl {w : World} {base : Nat} (x y : El w base) : Int := cmpW x.r y.r
theorem swoEl (w : World) (base : Nat) : SWO (ltOf (cfEl (w := w) (base := base))) where
  irrefl x := by unfold ltOf cfEl; rw [cmpW_self]; rfl
  trans x y z h1 h2 := by
    unfold ltOf cfEl at *
    exact decide_eq_true (cmpW_lt _ _ _ (of_decide_eq_true h1) (of_decide_eq_true h2))
  ntrans x y z h1 h2 := by
    unfold ltOf cfEl at *
    have a := of_decide_eq_false h1
    have b := of_decide_eq_false h2
    have c := cmpW_swap x.r y.r
    have d := cmpW_swap y.r z.r
    have e := cmpW_swap x.r z.r
    have f := cmpW_le z.r y.r x.r (by omega) (by omega)
    exact decide_eq_false (by omega)
theorem sortWorld_grown {α : Type} [Inhabited α] (enc : α → List Value) (k : Nat) (w : World) (g n : Nat) (dk : Array α) (os : Array Obj) : w.grownBy (sortWorldK enc k w g 0 n dk os) (some g) := by
  have hsz : (putRowK enc k (Sort.ahead w n) g 0 dk).heap.size = w.heap.size := by rw [size_putRowK]; rfl
  refine ⟨rfl, rfl, rfl, ?_, ?_⟩
  · unfold sortWorldK; rw [size_grow, hsz]; omega
  · intro i hi hne
    unfold sortWorldK
    rw [heap_grow_old _ _ (by rw [hsz]; exact hi)]
    show (w.heap.modify g _)[i]? = _
    rw [Array.getElem?_modify, if_neg (fun e => hne (by rw [e]))]
theorem PS.sorted {w w1 : World} {base g : Nat} {cur : Array Value} {z : Hd} {r : List Int} (h : PS w base z r) (hg : w.heap[g]? = some (.cells cur 58 (0, 0))) (hw : w.grownBy w1 (some g)) : PS w1 base z r :=
  h.over (u := .slice (some ⟨g, 0, none⟩) 0 0) (e' := 58) (fun k hk => (Option.some.inj hk) ▸ ⟨cur, hg⟩) (by decide) hw
theorem cmpLays_El {w : World} {base g : Nat} {cur : Array Value} (hg : w.heap[g]? = some (.cells cur 58 (0, 0))) (size : Nat) : CmpLays Try.prog 76 #[] (encZ (fun x : El w base => x.z)) 2 cfEl g 0 size w := by
  intro m os dk hsz x y
  have hw := sortWorld_grown (encZ (fun x : El w base => x.z)) 2 w g m dk os
  generalize sortWorldK (encZ (fun x : El w base => x.z)) 2 w g 0 m dk os = W at hw
  have hx := Kd.R_reads' (x.ok.sorted hg hw)
  have hy := Kd.R_reads' (y.ok.sorted hg hw)
  obtain ⟨k, hk⟩ := compare_ev x.r y.r x.short y.short
  have h := fresh1_grow k x.z.1 y.z.1 x.z.2.1 y.z.2.1 x.z.2.2.2 y.z.2.2.2 x.r y.r (cmpW x.r y.r) W hx.2.2 (by rw [← hx.1]; exact hx.2.1) hy.2.2 (by rw [← hy.1]; exact hy.2.1) (hk k (Nat.le_refl _))
  rw [← hx.1, ← hy.1] at h
  exact h
theorem els_of {w : World} {base : Nat} : ∀ (zs : List (Int × Hd)) (L : List (Int × List Int)), zs.length = L.length → (∀ (i : Nat) z r, zs[i]? = some z → L[i]? = some r → z.1 = r.1 ∧ PS w base z.2 r.2) → (∀ r ∈ L, r.2.length < 1000000000000000000) → ∃ l : List (El w base), l.map (fun x => x.z) = zs ∧ l.map El.told = L
  | [], [], _, _, _ => ⟨[], rfl, rfl⟩
  | [], _ :: _, h, _, _ => by cases h
  | _ :: _, [], h, _, _ => by cases h
  | z :: zs, r :: L, hl, h, hs => by
    obtain ⟨l, h1, h2⟩ := els_of (w := w) (base := base) zs L (by simpa using hl) (fun i z' r' a b => h (i + 1) z' r' (by simpa using a) (by simpa using b)) fun r' hr => hs r' (List.mem_cons_of_mem _ hr)
    obtain ⟨k1, k2⟩ := h 0 z r rfl rfl
    refine ⟨⟨z, r.2, k2, hs r List.mem_cons_self⟩ :: l, by rw [List.map_cons, h1], ?_⟩
    rw [List.map_cons, h2]
    unfold El.told
    show (z.1, r.2) :: L = r :: L
    rw [k1]
theorem getBang {α : Type} [Inhabited α] (l : List α) (i : Nat) (h : i < l.length) : l.toArray[i]! = l[i] := by simp [h]
/-- behind the sort the row is one of the sorted elements -/
theorem GM.sorted {w : World} {base g cap n : Nat} {cur : Array Value} {l d' : List (El w base)} (os : Array Obj) (hb : base ≤ g) (hg : w.heap[g]? = some (.cells cur 58 (0, 0))) (hl : d'.length = l.length) (hc : l.length ≤ cap) (hm : cap ≤ maxLen) (hs : cur.size = cap * 2) :
    GM (sortWorldK (encZ (fun x : El w base => x.z)) 2 w g 0 n d'.toArray os) base (.slice (some ⟨g, 0, none⟩) l.length cap) (d'.map El.told) := by
  have hw := sortWorld_grown (encZ (fun x : El w base => x.z)) 2 w g n d'.toArray os
  have hsz : (putRowK (encZ (fun x : El w base => x.z)) 2 (Sort.ahead w n) g 0 d'.toArray).heap.size = w.heap.size := by rw [size_putRowK]; rfl
  have hfs : (flatK (encZ (fun x : El w base => x.z)) 2 d'.toArray).size = d'.length * 2 := by rw [size_flatK]; simp
  have hgg : (sortWorldK (encZ (fun x : El w base => x.z)) 2 w g 0 n d'.toArray os).heap[g]? = some (.cells (putCells id 0 (flatK (encZ (fun x : El w base => x.z)) 2 d'.toArray) cur) 58 (0, 0)) := by
    unfold sortWorldK
    rw [heap_grow_old _ _ (by rw [hsz]; exact blk_lt hg)]
    show (w.heap.modify g (onCells (putCells id 0 (flatK (encZ (fun x : El w base => x.z)) 2 d'.toArray))))[g]? = _
    rw [Array.getElem?_modify, if_pos rfl, hg]; rfl
  generalize sortWorldK (encZ (fun x : El w base => x.z)) 2 w g 0 n d'.toArray os = W at hw hgg
  generalize hF : flatK (encZ (fun x : El w base => x.z)) 2 d'.toArray = F at hfs hgg
  have htake : (putCells id 0 F cur).toList.take (d'.length * 2) = F.toList := by
    have h1 := putCells_take (id : Value → Value) F.toList cur (by rw [Array.length_toList, hfs, hs]; omega)
    rw [Array.length_toList, hfs] at h1
    rw [show F.toList.toArray = F from by simp] at h1
    rw [h1]
    simp [encs]
  refine ⟨d'.map fun x => x.z, ⟨fun k hk => trivial, F.toList, ⟨by rw [Array.length_toList, hfs, List.length_map]; rfl, .inr ⟨g, cap, putCells id 0 F cur, by rw [List.length_map, hl], hb, hgg, by rw [List.length_map, hl]; exact hc, hm, by simp only [putCells, Array.size_mapIdx]; exact hs, by rw [List.length_map]; exact htake⟩⟩, by rw [Array.length_toList, hfs, List.length_map]; rfl, fun j p hj => ?_⟩, by simp, fun i z r hz hr => ?_⟩
  · rw [List.getElem?_map] at hj
    obtain ⟨x, hx, rfl⟩ := Option.map_eq_some_iff.1 hj
    obtain ⟨hjl, hxe⟩ := List.getElem?_eq_some_iff.1 hx
    have f : ∀ c, c < 2 → F[j * 2 + c]! = (encZ (fun x : El w base => x.z) x)[c]! := fun c hc => by
      rw [← hF, get_flatK _ _ _ _ (by simp; omega), show (j * 2 + c) / 2 = j by omega, show (j * 2 + c) % 2 = c by omega, getBang _ _ hjl, hxe]
    have hlen : j * 2 + 1 < F.toList.length := by rw [Array.length_toList, hfs]; omega
    have f0 := f 0 (by omega)
    have f1 := f 1 (by omega)
    have e : (F.toList.drop (j * 2)).take 2 = [F[j * 2]!, F[j * 2 + 1]!] := by
      rw [List.drop_eq_getElem_cons (by omega), List.drop_eq_getElem_cons hlen]
      have g0 : F[j * 2]! = F.toList[j * 2]'(by omega) := by rw [getElem!_pos F (j * 2) (by rw [Array.length_toList] at hlen; omega)]; simp
      have g1 : F[j * 2 + 1]! = F.toList[j * 2 + 1]'hlen := by rw [getElem!_pos F (j * 2 + 1) (by rw [Array.length_toList] at hlen; exact hlen)]; simp
      rw [g0, g1]; rfl
    show kMo.M W base _ x.z ((F.toList.drop (j * 2)).take 2)
    rw [e, f1, show F[j * 2]! = _ from f0]
    exact kMo_M
  · rw [List.getElem?_map] at hz hr
    obtain ⟨x, hx, rfl⟩ := Option.map_eq_some_iff.1 hz
    rw [hx] at hr
    obtain rfl := Option.some.inj hr
    exact ⟨rfl, x.ok.sorted hg hw⟩
/-- by their words -/
def leM (x y : Int × List Int) : Bool := decide (cmpW x.2 y.2 ≤ 0)
def sortM (L : List (Int × List Int)) : List (Int × List Int) := L.mergeSort leM
theorem sortM_perm (L : List (Int × List Int)) : (sortM L).Perm L := List.mergeSort_perm L leM
theorem sortM_sorted (L : List (Int × List Int)) : (sortM L).Pairwise fun a b => cmpW a.2 b.2 ≤ 0 := by
  have h := List.pairwise_mergeSort (le := leM) (fun a b c h1 h2 => decide_eq_true (cmpW_le _ _ _ (of_decide_eq_true h1) (of_decide_eq_true h2))) (fun a b => by
    have := cmpW_swap a.2 b.2
    unfold leM
    by_cases c : cmpW a.2 b.2 ≤ 0
    · rw [decide_eq_true c]; rfl
    · rw [decide_eq_true (show cmpW b.2 a.2 ≤ 0 by omega), Bool.or_true]) L
  exact h.imp fun h => of_decide_eq_true h
theorem sorted_same {α : Type} {R : α → α → Prop} : ∀ (l l' : List α), l.Perm l' → l.Pairwise R → l'.Pairwise R → (∀ a b, a ∈ l → b ∈ l → R a b → R b a → a = b) → l = l'
  | [], l', hp, _, _, _ => (List.perm_nil.1 hp.symm).symm
  | a :: l, [], hp, _, _, _ => by have := hp.length_eq; simp at this
  | a :: l, b :: l', hp, h1, h2, ha => by
    have hab : a = b := by
      have m1 : a ∈ b :: l' := hp.subset List.mem_cons_self
      have m2 : b ∈ a :: l := hp.symm.subset List.mem_cons_self
      rcases List.mem_cons.1 m1 with e | e
      · exact e
      · rcases List.mem_cons.1 m2 with f | f
        · exact f.symm
        · exact ha a b List.mem_cons_self m2 ((List.pairwise_cons.1 h1).1 b f) ((List.pairwise_cons.1 h2).1 a e)
    subst hab
    rw [sorted_same l l' ((List.perm_cons a).1 hp) (List.pairwise_cons.1 h1).2 (List.pairwise_cons.1 h2).2 fun x y hx hy => ha x y (List.mem_cons_of_mem _ hx) (List.mem_cons_of_mem _ hy)]
theorem nodup_words {L : List (Int × List Int)} (h : (L.map (·.2)).Nodup) {a b : Int × List Int} (ha : a ∈ L) (hb : b ∈ L) (e : a.2 = b.2) : a = b := by
  induction L with
  | nil => cases ha
  | cons x L ih =>
    rw [List.map_cons, List.nodup_cons] at h
    rcases List.mem_cons.1 ha with ea | ha1
    · rcases List.mem_cons.1 hb with eb | hb1
      · rw [ea, eb]
      · exact absurd (List.mem_map.2 ⟨b, hb1, by rw [← e, ea]⟩) h.1
    · rcases List.mem_cons.1 hb with eb | hb1
      · exact absurd (List.mem_map.2 ⟨a, ha1, by rw [e, eb]⟩) h.1
      · exact ih h.2 ha1 hb1
set_option maxHeartbeats 1000000 in
/-- slices.SortStableFunc of a row of sets with different words. -/
theorem sortM_calls (v : Value) (L : List (Int × List Int)) (base : Nat) (w : World) (hG : GM w base v L) (h0 : 0 < L.length) (hL : L.length < 1000000000000000000) (hs : ∀ r ∈ L, r.2.length < 1000000000000000000) (hn : (L.map (·.2)).Nodup) :
    Calls Try.prog 75 #[v, .func (.func 76) #[] #[]] w fun x w' => x = .returned (.tuple #[]) ∧ GM w' base v (sortM L) ∧ w.grownBy w' v.ownBlock := by
  obtain ⟨zs, hR, hzl, h3⟩ := hG
  obtain ⟨l, l1, l2⟩ := els_of (w := w) (base := base) zs L hzl h3 hs
  obtain ⟨A0, c0, e0, _, hC⟩ := Kd.R_reads hR
  obtain ⟨_, inner, ho, hr⟩ := hR
  have hll : l.length = zs.length := by rw [← l1, List.length_map]
  rcases ho.2 with ⟨_, hz⟩ | ⟨g, cap, cur, rfl, hb, hh, hnc, hcm, hcs, ht⟩
  · omega
  obtain ⟨rfl, _, _⟩ : A0 = some ⟨g, 0, none⟩ ∧ True ∧ True := by injection e0 with e1 _ _; exact ⟨e1.symm, trivial, trivial⟩
  have hH : HoldsK (encZ (fun x : El w base => x.z)) 2 w g 0 l.toArray := by
    intro j hj
    rw [size_flatK] at hj
    have hj' : j < l.length * 2 := by simpa using hj
    have hi : j / 2 < l.length := by omega
    refine ⟨?_, by rw [Nat.zero_add]; exact blk_frozen hh j⟩
    obtain ⟨ad, cs, e1, e2, hK, hc⟩ := Kd.C_get hC (0, none, 0, 0) ((j / 2 : Nat) : Int) (by omega) (by omega)
    obtain rfl := Option.some.inj e1
    rw [Int.toNat_natCast] at hK hc
    have hz : zs.getD (j / 2) (0, none, 0, 0) = (l[j / 2]'hi).z := by
      have : zs[j / 2]? = some (l[j / 2]'hi).z := by rw [← l1, List.getElem?_map, List.getElem?_eq_getElem hi]; rfl
      rw [List.getD_eq_getElem?_getD, this]; rfl
    rw [hz] at hK
    obtain ⟨b0, b1, rfl, k0, k1⟩ := hK
    have k0 : b0 = [.int .u16 (l[j / 2]'hi).z.1] := k0
    have k1 : b1 = [.slice (l[j / 2]'hi).z.2.1 (l[j / 2]'hi).z.2.2.1 (l[j / 2]'hi).z.2.2.2] := k1
    subst k0; subst k1
    show w.cell? ⟨g, 0 + j, none⟩ = some (flatK _ 2 l.toArray)[j]!
    rw [get_flatK _ _ _ _ (by simpa using hj'), getBang _ _ hi, Nat.zero_add]
    have hc' : ∀ (c : Nat) (u : Value), ([Value.int .u16 (l[j / 2]'hi).z.1] ++ [Value.slice (l[j / 2]'hi).z.2.1 (l[j / 2]'hi).z.2.2.1 (l[j / 2]'hi).z.2.2.2])[c]? = some u → w.cell? ((⟨g, 0, none⟩ : Addr).add (j / 2 * 2 + c)) = some u := hc
    rcases Nat.mod_two_eq_zero_or_one j with hm | hm
    · have := hc' 0 _ rfl
      rw [show j / 2 * 2 + 0 = j by omega, Addr.add_lit, Nat.zero_add] at this
      rw [this, hm]; rfl
    · have := hc' 1 _ rfl
      rw [show j / 2 * 2 + 1 = j by omega, Addr.add_lit, Nat.zero_add] at this
      rw [this, hm]; rfl
  have hRK : RowK (encZ (fun x : El w base => x.z)) 2 w g 0 l.toArray := ⟨fun x => rfl, fun x v hv => by
    unfold encZ at hv
    rcases List.mem_cons.1 hv with rfl | hv
    · rfl
    · rw [List.mem_singleton.1 hv]; rfl, hH, blk_lt hh⟩
  have hsize : l.toArray.size = zs.length := by simp [hll]
  have H := sortStable_calls (fun x : El w base => x.z) cfEl (swoEl w base) g 0 cap l.toArray w hRK (cmpLays_El hh _) (by omega)
  rw [hsize] at H
  refine H.mono ?_
  rintro x w' ⟨rfl, d', ⟨n, os, rfl⟩, hp, hsd⟩
  have hd : d'.toList.length = l.length := by rw [Array.length_toList, hp.1]; simp
  have hperm : d'.toList.Perm l := by
    have h1 := hp.2.2
    rw [show (d'.extract 0 zs.length).toList = d'.toList from by rw [show zs.length = d'.size by rw [hp.1, hsize]]; simp, show (l.toArray.extract 0 zs.length).toList = l from by rw [← hsize]; simp] at h1
    exact h1
  have hpt : (d'.toList.map El.told).Perm L := by rw [← l2]; exact hperm.map _
  have hsorted : (d'.toList.map El.told).Pairwise fun a b => cmpW a.2 b.2 ≤ 0 := by
    rw [List.pairwise_map, List.pairwise_iff_getElem]
    intro i j hi hj hij
    have h1 := hsd i j (Nat.zero_le _) hij (by rw [← hll, ← hd]; exact hj)
    rw [getElem!_pos d' i (by rw [Array.length_toList] at hi; exact hi), getElem!_pos d' j (by rw [Array.length_toList] at hj; exact hj)] at h1
    have h2 : ¬ cmpW d'[j].r d'[i].r < 0 := of_decide_eq_false h1
    have h3 := cmpW_swap d'[j].r d'[i].r
    show cmpW (d'.toList[i]).r (d'.toList[j]).r ≤ 0
    rw [Array.getElem_toList, Array.getElem_toList]
    omega
  have hsame : d'.toList.map El.told = sortM L := sorted_same _ _ (hpt.trans (sortM_perm L).symm) hsorted (sortM_sorted L) fun a b ha hb h1 h2 => by
    have := cmpW_swap a.2 b.2
    exact nodup_words hn (hpt.subset ha) (hpt.subset hb) (cmpW_eq _ _ (by omega))
  refine ⟨rfl, ?_, sortWorld_grown _ _ _ _ _ _ _⟩
  have hG := GM.sorted (cap := cap) (n := n) (l := l) (d' := d'.toList) os hb hh hd (by omega) hcm hcs
  rw [hsame, hll, show d'.toList.toArray = d' from by simp] at hG
  exact hG
end Go.Proofs.Ytcpmmkennnjalaa.Q
end
