/- In any Eulerian automaton that has a reset word, whatever set of states, neither empty nor all, is led into by more states with a word of at most n - 1 letters, and its shortest reset word has at most n^2 - 3n + 3 letters; in any circular one at most (n - 1)^2. (At most 9 states) (text 15 of 42) -/
import Derived.Test.YtcpmmkennnjalaaZTopKarij
import Derived.Maps.Own
section
namespace Go.Proofs.Ytcpmmkennnjalaa.Q
open Go.RowKit Go.Proofs.YtcpmmkennnjalaaW.PrintWords Go.Proofs.YtcpmmkennnjalaaW.PrintLast Go.Proofs.YtcpmmkennnjalaaW.PrintMore
set_option linter.unusedVariables false
set_option linter.unusedSimpArgs false
set_option linter.unusedSectionVars false

/-- What the laws on a map's block need of the key's type; G: which values are keys. -/
structure KeyOk (P : Program) (kt : TypeId) (G : Value → Prop) : Prop where
  check : ∀ (w : World) (em : Bool) (v : Value), G v → (Instr.checkKey em 10000 kt v).run P w = .ok () w
  find : ∀ (w : World) (x : Value), G x → ∀ es : List MapEntry, (∀ e ∈ es, G e.key) →
    ((Instr.findKey kt x es).run P w = .ok none w ∧ ∀ e ∈ es, e.key ≠ x) ∨ ∃ j e, (Instr.findKey kt x es).run P w = .ok (some (j, e.val)) w ∧ es[j]? = some e ∧ e.key = x
  stays : ∀ (w : World) (v : Value), G v → (Instr.keyThatStays v v).run P w = .ok v w
def IntKey (q : IntKind) (v : Value) : Prop := ∃ n, v = .int q n
theorem int_keyOk {P : Program} {kt : TypeId} {q : IntKind} (hk : P.underlying kt = some (.int q)) : KeyOk P kt (IntKey q) := by
  have isK : ∀ {v : Value}, IntKey q v → MapKept.IsKey (.int q) v := by
    rintro v ⟨n, rfl⟩
    simp [MapKept.IsKey]
  refine ⟨fun w em v h => MapKept.run_checkKey hk (isK h) em 9999, ?_, fun w v h => MapKept.run_keyThatStays (isK h)⟩
  intro w x hx es hes
  rcases MapKept.findNow_spec (isK hx) es 0 (fun y hy => isK (hes y hy)) with ⟨h1, h2⟩ | ⟨j, e0, h1, h2, h3⟩
  · exact Or.inl ⟨MapKept.run_findKey hk h1, h2⟩
  · exact Or.inr ⟨j, e0, by simpa using MapKept.run_findKey hk h1, h2, h3⟩

theorem find_look {α : Type} [DecidableEq α] {enc : α → Value} (hinj : ∀ a b, enc a = enc b → a = b) (x : α) : ∀ (l : List MapEntry) (es : List (α × Value)), l.map (fun e => (e.key, e.val)) = es.map (fun p => (enc p.1, p.2)) → (es.map (·.1)).Nodup →
    ((∀ e : MapEntry, e ∈ l → e.key ≠ enc x) → es.lookup x = none) ∧ (∀ (j : Nat) (e : MapEntry), l[j]? = some e → e.key = enc x → es.lookup x = some e.val ∧ es[j]? = some (x, e.val))
  | [], [], _, _ => ⟨fun _ => rfl, fun j e h => by simp at h⟩
  | [], p :: es, h, _ => by simp at h
  | e :: l, [], h, _ => by simp at h
  | e :: l, p :: es, h, hn => by
    simp only [List.map_cons, List.cons.injEq, Prod.mk.injEq] at h
    obtain ⟨⟨h1, h2⟩, h3⟩ := h
    simp only [List.map_cons, List.nodup_cons] at hn
    obtain ⟨ih1, ih2⟩ := find_look hinj x l es h3 hn.2
    refine ⟨fun hne => ?_, fun j e' hj he => ?_⟩
    · have : (x == p.1) = false := by
        rw [beq_eq_false_iff_ne]; rintro rfl; exact hne e List.mem_cons_self h1
      obtain ⟨p1, p2⟩ := p
      simp only [List.lookup_cons]
      rw [this]
      exact ih1 (fun e he => hne e (List.mem_cons_of_mem _ he))
    · obtain ⟨p1, p2⟩ := p
      cases j with
      | zero =>
        simp only [List.getElem?_cons_zero, Option.some.injEq] at hj
        subst hj
        have : p1 = x := hinj _ _ (h1.symm.trans he)
        subst this
        simp only at h2
        simp [List.lookup_cons, h2]
      | succ j =>
        simp only [List.getElem?_cons_succ] at hj
        obtain ⟨q1, q2⟩ := ih2 j e' hj he
        have hx : x ∈ es.map (·.1) := List.mem_map.2 ⟨(x, e'.val), List.mem_of_getElem? q2, rfl⟩
        have : (x == p1) = false := by
          rw [beq_eq_false_iff_ne]; rintro rfl; exact hn.1 hx
        simp only [List.lookup_cons, List.getElem?_cons_succ]
        rw [this]
        exact ⟨q1, q2⟩

/-- Block b is a map with just these entries, in the order in which their keys came. -/
def MapIs {α : Type} (G : Value → Prop) (enc : α → Value) (w : World) (b : Nat) (es : List (α × Value)) : Prop :=
  ∃ arr clock, w.heap[b]? = some (.map arr clock) ∧ arr.toList.map (fun e => (e.key, e.val)) = es.map (fun p => (enc p.1, p.2)) ∧ (∀ p ∈ es, G (enc p.1)) ∧ (es.map (·.1)).Nodup ∧ MapKept.Stamped arr clock
/-- A store: the entry's value turns, or a new entry stands last. -/
def putM {α : Type} [DecidableEq α] (x : α) (v : Value) (es : List (α × Value)) : List (α × Value) :=
  if (es.lookup x).isSome then es.map (fun p => if p.1 = x then (x, v) else p) else es ++ [(x, v)]

section
variable {α : Type} [DecidableEq α] {G : Value → Prop} {enc : α → Value} {w w' : World} {b : Nat} {es : List (α × Value)} {P : Program} {kt t et : TypeId}
theorem MapIs.made (w : World) : MapIs (α := α) G enc (w.alloc (.map #[] 0)) w.heap.size [] :=
  ⟨#[], 0, (MapKept.heap_alloc w _).1, rfl, by simp, by simp, MapKept.stamped_empty 0⟩
theorem MapIs.lt (h : MapIs G enc w b es) : b < w.heap.size := by
  obtain ⟨arr, clock, hb, _⟩ := h
  exact (Array.getElem?_eq_some_iff.1 hb).1
theorem MapIs.kept {row : Option Nat} (h : MapIs G enc w b es) (hg : w.grownBy w' row) (hne : some b ≠ row) : MapIs G enc w' b es := by
  have hlt := h.lt
  obtain ⟨arr, clock, hb, r⟩ := h
  exact ⟨arr, clock, (hg.block b hlt hne).trans hb, r⟩
theorem MapIs.below (h : MapIs G enc w b es) (hb : Below w.heap.size w w') : MapIs G enc w' b es := h.kept (grown_of_below hb none) (by simp)
/-- A block of cells is not a map. -/
theorem MapIs.ne {cs : Array Value} {t : TypeId} {fr : Nat × Nat} {g : Nat} (h : MapIs G enc w b es) (hb : w.heap[g]? = some (.cells cs t fr)) : b ≠ g := by
  rintro rfl
  obtain ⟨arr, clock, h2, _⟩ := h
  rw [hb] at h2
  cases h2
theorem MapIs.lookup (h : MapIs G enc w b es) (K : KeyOk P kt G) (hinj : ∀ a b, enc a = enc b → a = b) (ht : P.underlying t = some (.map kt et)) {z : Value} (hz : (zeroValue et).run P w = .ok z w) (x : α) (hx : G (enc x)) (c : Bool) :
    (Instr.lookup t (.map (some b)) (enc x) c).run P w = .ok (if c then .tuple #[(es.lookup x).getD z, .bool (es.lookup x).isSome] else (es.lookup x).getD z) w := by
  obtain ⟨arr, clock, hb, he, hG, hn, _⟩ := h
  obtain ⟨q1, q2⟩ := find_look hinj x arr.toList es he hn
  have hk : ∀ e ∈ arr.toList, G e.key := fun e hm => by
    have : (e.key, e.val) ∈ es.map (fun p => (enc p.1, p.2)) := by rw [← he]; exact List.mem_map.2 ⟨e, hm, rfl⟩
    obtain ⟨p, hp, e2⟩ := List.mem_map.1 this
    have := hG p hp
    simp only [Prod.mk.injEq] at e2
    rw [← e2.1]; exact this
  rcases K.find w (enc x) hx arr.toList hk with ⟨h1, h2⟩ | ⟨j, e0, h1, h2, h3⟩
  · rw [q1 h2]
    simp [Instr.lookup, run_underlying ht, MapKept.run_getObj_map hb, K.check w _ _ hx, h1, hz, Result.andThen]
  · rw [(q2 j e0 h2 h3).1]
    simp [Instr.lookup, run_underlying ht, MapKept.run_getObj_map hb, K.check w _ _ hx, h1, Result.andThen]

theorem setBlock_grown {arr : Array MapEntry} {clock : Nat} (o : Obj) (hb : w.heap[b]? = some (.map arr clock)) : w.grownBy { w with heap := w.heap.setIfInBounds b o } (some b) :=
  ⟨rfl, rfl, rfl, by simp, fun i hi hne => (MapKept.heap_set (o' := o) hb).2 i (fun e => hne (by rw [e]))⟩
theorem putM_old {x : α} {v : Value} (h : (es.lookup x).isSome) : putM x v es = es.map (fun p => if p.1 = x then (x, v) else p) := by simp [putM, h]
theorem putM_new {x : α} {v : Value} (h : es.lookup x = none) : putM x v es = es ++ [(x, v)] := by simp [putM, h]
theorem putM_keys (x : α) (v : Value) (es : List (α × Value)) : (putM x v es).map (·.1) = if (es.lookup x).isSome then es.map (·.1) else es.map (·.1) ++ [x] := by
  unfold putM
  split
  · rw [List.map_map]
    apply List.map_congr_left
    intro p _
    simp only [Function.comp]
    split
    · rename_i h; exact h.symm
    · rfl
  · simp
theorem lookup_none_iff (x : α) : ∀ es : List (α × Value), es.lookup x = none ↔ x ∉ es.map (·.1)
  | [] => by simp
  | (k, v) :: es => by
    simp only [List.lookup_cons, List.map_cons, List.mem_cons, not_or]
    by_cases h : x = k
    · subst h; simp
    · have : (x == k) = false := beq_eq_false_iff_ne.2 h
      rw [this, ← lookup_none_iff x es]
      simp [h]
theorem MapIs.update (h : MapIs G enc w b es) (K : KeyOk P kt G) (hinj : ∀ a b, enc a = enc b → a = b) (ht : P.underlying t = some (.map kt et)) (x : α) (hx : G (enc x)) (v : Value) :
    ∃ w1, (Instr.mapUpdate t (.map (some b)) (enc x) v).run P w = .ok () w1 ∧ MapIs G enc w1 b (putM x v es) ∧ w.grownBy w1 (some b) := by
  obtain ⟨arr, clock, hb, he, hG, hn, hst⟩ := h
  obtain ⟨q1, q2⟩ := find_look hinj x arr.toList es he hn
  have hk : ∀ e ∈ arr.toList, G e.key := fun e hm => by
    have : (e.key, e.val) ∈ es.map (fun p => (enc p.1, p.2)) := by rw [← he]; exact List.mem_map.2 ⟨e, hm, rfl⟩
    obtain ⟨p, hp, e2⟩ := List.mem_map.1 this
    have := hG p hp
    simp only [Prod.mk.injEq] at e2
    rw [← e2.1]; exact this
  have hG' : ∀ p ∈ putM x v es, G (enc p.1) := by
    intro p hp
    have : p.1 ∈ (putM x v es).map (·.1) := List.mem_map.2 ⟨p, hp, rfl⟩
    rw [putM_keys] at this
    have old : p.1 ∈ es.map (·.1) → G (enc p.1) := fun hm => by
      obtain ⟨q, hq, e⟩ := List.mem_map.1 hm
      rw [← e]; exact hG q hq
    split at this
    · exact old this
    · rcases List.mem_append.1 this with h | h
      · exact old h
      · rw [List.mem_singleton.1 h]; exact hx
  rcases K.find w (enc x) hx arr.toList hk with ⟨h1, h2⟩ | ⟨j, e0, h1, h2, h3⟩
  · have hnone := q1 h2
    refine ⟨_, by simp [Instr.mapUpdate, run_underlying ht, MapKept.run_getObj_map hb, K.check w _ _ hx, h1, MapKept.run_setObj_map _ hb, Result.andThen]; rfl, ⟨_, _, (MapKept.heap_set hb).1, ?_, hG', ?_, MapKept.stamped_push hst h2⟩, setBlock_grown _ hb⟩
    · rw [putM_new hnone, Array.toList_push, List.map_append, List.map_append, he]; rfl
    · rw [putM_new hnone, List.map_append, List.nodup_append]
      refine ⟨hn, by simp, ?_⟩
      intro a ha b hb2 e
      simp only [List.map_cons, List.map_nil, List.mem_singleton] at hb2
      subst hb2
      subst e
      exact (lookup_none_iff _ es).1 hnone ha
  · obtain ⟨hl, hes⟩ := q2 j e0 h2 h3
    have hsome : (es.lookup x).isSome := by rw [hl]; rfl
    have hj : arr[j]? = some e0 := by rw [← Array.getElem?_toList]; exact h2
    refine ⟨{ w with heap := w.heap.setIfInBounds b (.map (arr.modify j fun e => { key := enc x, val := v, born := e.born }) clock) }, by simp [Instr.mapUpdate, run_underlying ht, MapKept.run_getObj_map hb, K.check w _ _ hx, h1, hj, h3, K.stays w _ hx, MapKept.run_setObj_map _ hb, Result.andThen], ⟨_, _, (MapKept.heap_set hb).1, ?_, hG', ?_, MapKept.stamped_modify hst j _ (fun _ _ => rfl) (fun e _ hj' => by rw [hj] at hj'; cases hj'; exact h3.symm)⟩, setBlock_grown _ hb⟩
    · rw [putM_old hsome]
      apply List.ext_getElem?
      intro i
      have hei := congrArg (fun l => l[i]?) he
      simp only [List.getElem?_map, Array.getElem?_toList, Array.getElem?_modify] at hei ⊢
      by_cases hij : j = i
      · subst hij
        rw [hj, hes]
        simp
      · simp only [if_neg hij]
        cases ha : arr[i]? with
        | none =>
          rw [ha] at hei
          cases hb2 : es[i]? with
          | none => simp
          | some q => rw [hb2] at hei; simp at hei
        | some q =>
          rw [ha] at hei
          cases hb2 : es[i]? with
          | none => rw [hb2] at hei; simp at hei
          | some q2 =>
            rw [hb2] at hei
            simp only [Option.map_some, Option.some.injEq, Prod.mk.injEq] at hei ⊢
            have hne : q2.1 ≠ x := by
              intro e
              have hi1 : i < es.length := (List.getElem?_eq_some_iff.1 hb2).1
              have hj1 : j < es.length := (List.getElem?_eq_some_iff.1 hes).1
              have g1 : (es.map (·.1))[i]? = some x := by simp [hb2, e]
              have g2 : (es.map (·.1))[j]? = some x := by simp [hes]
              have hi' : i < (es.map (·.1)).length := by simpa using hi1
              exact hij (((List.getElem?_inj hi' hn).1 (g1.trans g2.symm)).symm)
            rw [if_neg hne]
            exact hei
    · rw [putM_keys, if_pos hsome]; exact hn
end
end Go.Proofs.Ytcpmmkennnjalaa.Q
end
section
namespace Go.Proofs.Ytcpmmkennnjalaa.Q
open Go.RowKit Go.Proofs.YtcpmmkennnjalaaW.PrintWords Go.Proofs.YtcpmmkennnjalaaW.PrintLast Go.Proofs.YtcpmmkennnjalaaW.PrintMore
set_option linter.unusedVariables false
set_option linter.unusedSimpArgs false
set_option linter.unusedSectionVars false
/-! ### an entry that is asked for, and stored into later (m[k] = append(m[k], ..)) -/
/-- The entry of a key bears this stamp. -/
def BornAt (w : World) (b : Nat) (key : Value) (born : Nat) : Prop := ∃ (arr : Array MapEntry) (clock j : Nat) (e : MapEntry), w.heap[b]? = some (.map arr clock) ∧ arr[j]? = some e ∧ e.key = key ∧ e.born = born
section
variable {α : Type} [DecidableEq α] {G : Value → Prop} {enc : α → Value} {w w' : World} {b : Nat} {es : List (α × Value)} {P : Program} {kt t et : TypeId}
theorem BornAt.kept {row : Option Nat} {key : Value} {born : Nat} (h : BornAt w b key born) (hg : w.grownBy w' row) (hne : some b ≠ row) : BornAt w' b key born := by
  obtain ⟨arr, clock, j, e, hb, r⟩ := h
  exact ⟨arr, clock, j, e, (hg.block b (Array.getElem?_eq_some_iff.1 hb).1 hne).trans hb, r⟩
/-- The entries once the key has been asked for. -/
def askM (x : α) (z : Value) (es : List (α × Value)) : List (α × Value) := if (es.lookup x).isSome then es else es ++ [(x, z)]
theorem keys_G (he : ∀ p ∈ es, G (enc p.1)) {arr : Array MapEntry} (h : arr.toList.map (fun e => (e.key, e.val)) = es.map (fun p => (enc p.1, p.2))) : ∀ e ∈ arr.toList, G e.key := fun e hm => by
  have : (e.key, e.val) ∈ es.map (fun p => (enc p.1, p.2)) := by rw [← h]; exact List.mem_map.2 ⟨e, hm, rfl⟩
  obtain ⟨p, hp, e2⟩ := List.mem_map.1 this
  have := he p hp
  simp only [Prod.mk.injEq] at e2
  rw [← e2.1]; exact this
theorem MapIs.entry (h : MapIs G enc w b es) (K : KeyOk P kt G) (hinj : ∀ a b, enc a = enc b → a = b) (ht : P.underlying t = some (.map kt et)) {z : Value} (hz : (zeroValue et).run P w = .ok z w) (x : α) (hx : G (enc x)) :
    ∃ (w1 : World) (born : Nat), (Instr.mapEntry t (.map (some b)) (enc x)).run P w = .ok (.tuple #[(es.lookup x).getD z, goInt (born : Int)]) w1 ∧ MapIs G enc w1 b (askM x z es) ∧ BornAt w1 b (enc x) born ∧ w.grownBy w1 (some b) := by
  obtain ⟨arr, clock, hb, he, hG, hn, hst⟩ := h
  obtain ⟨q1, q2⟩ := find_look hinj x arr.toList es he hn
  rcases K.find w (enc x) hx arr.toList (keys_G hG he) with ⟨h1, h2⟩ | ⟨j, e0, h1, h2, h3⟩
  · have hnone := q1 h2
    refine ⟨_, clock, by rw [hnone]; simp [Instr.mapEntry, run_underlying ht, MapKept.run_getObj_map hb, K.check w _ _ hx, h1, hz, MapKept.run_setObj_map _ hb, Result.andThen]; rfl, ⟨_, _, (MapKept.heap_set hb).1, ?_, ?_, ?_, MapKept.stamped_push hst h2⟩, ⟨_, _, arr.size, _, (MapKept.heap_set hb).1, Array.getElem?_push_size, rfl, rfl⟩, setBlock_grown _ hb⟩
    · unfold askM
      rw [hnone, if_neg (by simp), Array.toList_push, List.map_append, List.map_append, he]; rfl
    · unfold askM
      rw [hnone, if_neg (by simp)]
      intro p hp
      rcases List.mem_append.1 hp with hp | hp
      · exact hG p hp
      · rw [List.mem_singleton.1 hp]; exact hx
    · unfold askM
      rw [hnone, if_neg (by simp), List.map_append, List.nodup_append]
      refine ⟨hn, by simp, ?_⟩
      intro a ha c hc e
      simp only [List.map_cons, List.map_nil, List.mem_singleton] at hc
      subst hc
      subst e
      exact (lookup_none_iff _ es).1 hnone ha
  · obtain ⟨hl, hes⟩ := q2 j e0 h2 h3
    have hj : arr[j]? = some e0 := by rw [← Array.getElem?_toList]; exact h2
    have hsame : (arr.modify j fun e => { e with key := enc x }) = arr := by
      apply Array.ext_getElem?
      intro i
      rw [Array.getElem?_modify]
      by_cases hij : j = i
      · subst hij
        rw [if_pos rfl, hj, ← h3]; rfl
      · rw [if_neg hij]
    refine ⟨{ w with heap := w.heap.setIfInBounds b (.map arr clock) }, e0.born, ?_, ⟨_, _, (MapKept.heap_set hb).1, ?_, ?_, ?_, hst⟩, ⟨_, _, j, e0, (MapKept.heap_set hb).1, hj, h3, rfl⟩, setBlock_grown _ hb⟩
    · rw [hl]
      simp [Instr.mapEntry, run_underlying ht, MapKept.run_getObj_map hb, K.check w _ _ hx, h1, hj, h3, K.stays w _ hx, hsame, MapKept.run_setObj_map _ hb, Result.andThen]
    · unfold askM; rw [hl, if_pos (by rfl)]; exact he
    · unfold askM; rw [hl, if_pos (by rfl)]; exact hG
    · unfold askM; rw [hl, if_pos (by rfl)]; exact hn
theorem MapIs.estore (h : MapIs G enc w b es) (hinj : ∀ a b, enc a = enc b → a = b) (x : α) {born : Nat} (hB : BornAt w b (enc x) born) (v : Value) :
    ∃ w1, (Instr.entryStore t (.map (some b)) (goInt (born : Int)) v).run P w = .ok () w1 ∧ MapIs G enc w1 b (es.map fun p => if p.1 = x then (x, v) else p) ∧ w.grownBy w1 (some b) := by
  obtain ⟨arr, clock, hb, he, hG, hn, hst⟩ := h
  obtain ⟨arr', clock', j, e0, hb', hj, hk, hborn⟩ := hB
  rw [hb] at hb'
  injection hb' with hb'
  injection hb' with e1 e2
  subst e1
  subst e2
  obtain ⟨hjs, hje⟩ := Array.getElem?_eq_some_iff.1 hj
  have hfi : arr.findIdx? (fun e => (e.born : Int) == (born : Int)) = some j := by
    rw [Array.findIdx?_eq_some_iff_getElem]
    refine ⟨hjs, by rw [hje, hborn]; simp, fun i hi hb2 => ?_⟩
    have his : i < arr.size := by omega
    have hib : arr[i].born = born := by have h3 := beq_iff_eq.mp hb2; omega
    have g1 : (arr.toList.map (·.born))[i]? = some born := by
      rw [List.getElem?_map, Array.getElem?_toList, Array.getElem?_eq_getElem (by omega), Option.map_some, hib]
    have g2 : (arr.toList.map (·.born))[j]? = some born := by
      rw [List.getElem?_map, Array.getElem?_toList, hj, Option.map_some, hborn]
    have hil : i < (arr.toList.map (·.born)).length := by simp; omega
    have := (List.getElem?_inj hil hst.2.1).1 (g1.trans g2.symm)
    omega
  obtain ⟨q1, q2⟩ := find_look hinj x arr.toList es he hn
  obtain ⟨hl, hes⟩ := q2 j e0 (by rw [Array.getElem?_toList]; exact hj) hk
  refine ⟨{ w with heap := w.heap.setIfInBounds b (.map (arr.modify j fun e => { e with val := v }) clock) }, by simp [Instr.entryStore, MapKept.run_getObj_map hb, goInt, asInt, asIntOf, hfi, MapKept.run_setObj_map _ hb, Result.andThen], ⟨_, _, (MapKept.heap_set hb).1, ?_, ?_, ?_, MapKept.stamped_modify hst j _ (fun _ _ => rfl) (fun _ _ _ => rfl)⟩, setBlock_grown _ hb⟩
  · apply List.ext_getElem?
    intro i
    have hei := congrArg (fun l => l[i]?) he
    simp only [List.getElem?_map, Array.getElem?_toList, Array.getElem?_modify] at hei ⊢
    by_cases hij : j = i
    · subst hij
      rw [hj, hes]
      simp [hk]
    · simp only [if_neg hij]
      cases ha : arr[i]? with
      | none =>
        rw [ha] at hei
        cases hb2 : es[i]? with
        | none => simp
        | some q => rw [hb2] at hei; simp at hei
      | some q =>
        rw [ha] at hei
        cases hb2 : es[i]? with
        | none => rw [hb2] at hei; simp at hei
        | some q2 =>
          rw [hb2] at hei
          simp only [Option.map_some, Option.some.injEq, Prod.mk.injEq] at hei ⊢
          have hne : q2.1 ≠ x := by
            intro e
            have hi1 : i < es.length := (List.getElem?_eq_some_iff.1 hb2).1
            have g1 : (es.map (·.1))[i]? = some x := by simp [hb2, e]
            have g2 : (es.map (·.1))[j]? = some x := by simp [hes]
            have hi' : i < (es.map (·.1)).length := by simpa using hi1
            exact hij (((List.getElem?_inj hi' hn).1 (g1.trans g2.symm)).symm)
          rw [if_neg hne]
          exact hei
  · intro p hp
    obtain ⟨q, hq, e⟩ := List.mem_map.1 hp
    by_cases h : q.1 = x
    · rw [if_pos h] at e; subst e; exact h ▸ hG q hq
    · rw [if_neg h] at e; subst e; exact hG q hq
  · have : (es.map fun p => if p.1 = x then (x, v) else p).map (·.1) = es.map (·.1) := by
      rw [List.map_map]
      apply List.map_congr_left
      intro p _
      simp only [Function.comp]
      split
      · rename_i h; exact h.symm
      · rfl
    rw [this]; exact hn
end
end Go.Proofs.Ytcpmmkennnjalaa.Q
end
