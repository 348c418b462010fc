/- In any Eulerian automaton that has a reset word, whatever set of states, neither empty nor all, is led into by more states with a word of at most n - 1 letters, and its shortest reset word has at most n^2 - 3n + 3 letters; in any circular one at most (n - 1)^2. (At most 9 states) (text 31 of 42) -/
import Derived.RangeFuncNested
import Derived.RangeFuncSeq
import Derived.Below
section
namespace Go.Proofs.Ytcpmmkennnjalaa.Q
open Go.RowKit
set_option linter.unusedVariables false
set_option linter.unusedSectionVars false
/-! ### a range over a function whose iterator keeps memory of its own -/
/-- Only the blocks of own may have turned. -/
structure KeptBut (own : Nat → Prop) (w w' : World) : Prop where
  os : w'.os = w.os
  tape : w'.tape = w.tape
  output : w'.output = w.output
  size : w.heap.size ≤ w'.heap.size
  block : ∀ b, b < w.heap.size → ¬ own b → w'.heap[b]? = w.heap[b]?
theorem KeptBut.refl (own : Nat → Prop) (w : World) : KeptBut own w w := ⟨rfl, rfl, rfl, Nat.le_refl _, fun _ _ _ => rfl⟩
theorem KeptBut.trans {own : Nat → Prop} {w w1 w2 : World} (h : KeptBut own w w1) (k : KeptBut own w1 w2) : KeptBut own w w2 :=
  ⟨k.os.trans h.os, k.tape.trans h.tape, k.output.trans h.output, Nat.le_trans h.size k.size, fun b hb hn => (k.block b (Nat.lt_of_lt_of_le hb h.size) hn).trans (h.block b hb hn)⟩
theorem KeptBut.mono {own own' : Nat → Prop} {w w1 : World} (h : KeptBut own w w1) (e : ∀ b, own b → own' b) : KeptBut own' w w1 := ⟨h.os, h.tape, h.output, h.size, fun b hb hn => h.block b hb fun ho => hn (e b ho)⟩
theorem KeptBut.of_below {own : Nat → Prop} {w w1 : World} (h : Below w.heap.size w w1) : KeptBut own w w1 := ⟨h.os, h.tape, h.output, h.size, fun b hb _ => h.block b hb⟩
/-- .. and loops' records, from base on. -/
structure KeptL (base : Nat) (own : Nat → Prop) (w w' : World) : Prop where
  os : w'.os = w.os
  tape : w'.tape = w.tape
  output : w'.output = w.output
  size : w.heap.size ≤ w'.heap.size
  block : ∀ b, b < w.heap.size → ¬ own b → (b < base ∨ ∀ r, w.heap[b]? ≠ some (.loop r)) → w'.heap[b]? = w.heap[b]?
theorem KeptBut.lax {base : Nat} {own : Nat → Prop} {w w' : World} (h : KeptBut own w w') : KeptL base own w w' := ⟨h.os, h.tape, h.output, h.size, fun b hb hn _ => h.block b hb hn⟩
section
variable {α : Type}
def StableJ (base : Nat) (J : (Nat → Prop) → List α → World → Prop) : Prop := ∀ (own own' : Nat → Prop) s w w', J own s w → KeptBut own w w' → (∀ b, own b → base ≤ b) → (∀ b, own' b → own b ∨ w.heap.size ≤ b) → J own' s w'
def StableI (base : Nat) (I : (Nat → Prop) → List α → World → Prop) : Prop := ∀ (own own' : Nat → Prop) s w w', I own s w → KeptL base own w w' → (∀ b, own b → base ≤ b) → (∀ b, own' b → own b ∨ w.heap.size ≤ b) → I own' s w'
/-- What a round must leave as it was. -/
structure RoundKept (keep : Nat → Prop) (w w' : World) : Prop where
  os : w'.os = w.os
  tape : w'.tape = w.tape
  output : w'.output = w.output
  size : w.heap.size ≤ w'.heap.size
  block : ∀ b, b < w.heap.size → keep b → w'.heap[b]? = w.heap[b]?
theorem RoundKept.refl (keep : Nat → Prop) (w : World) : RoundKept keep w w := ⟨rfl, rfl, rfl, Nat.le_refl _, fun _ _ _ => rfl⟩
theorem RoundKept.trans {keep : Nat → Prop} {w w1 w2 : World} (h : RoundKept keep w w1) (k : RoundKept keep w1 w2) : RoundKept keep w w2 :=
  ⟨k.os.trans h.os, k.tape.trans h.tape, k.output.trans h.output, Nat.le_trans h.size k.size, fun b hb hk => (k.block b (Nat.lt_of_lt_of_le hb h.size) hk).trans (h.block b hb hk)⟩
theorem RoundKept.mono {keep keep' : Nat → Prop} {w w1 : World} (h : RoundKept keep w w1) (e : ∀ b, keep' b → keep b) : RoundKept keep' w w1 := ⟨h.os, h.tape, h.output, h.size, fun b hb hk => h.block b hb (e b hk)⟩
theorem RoundKept.of_grown {keep : Nat → Prop} {w w1 : World} {row : Option Nat} (h : w.grownBy w1 row) (e : ∀ b, row = some b → ¬ keep b) : RoundKept keep w w1 := ⟨h.os, h.tape, h.output, h.size, fun b hb hk => h.block b hb fun he => e b he.symm hk⟩
theorem RoundKept.of_below {keep : Nat → Prop} {w w1 : World} (h : Below w.heap.size w w1) : RoundKept keep w w1 := ⟨h.os, h.tape, h.output, h.size, fun b hb _ => h.block b hb⟩
theorem RoundKept.putObj {keep : Nat → Prop} {w : World} {l : Nat} (o : Obj) (hl : ¬ keep l) : RoundKept keep w (w.putObj l o) :=
  ⟨rfl, rfl, rfl, by simp, fun b hb hk => World.putObj_heap_other (fun e => hl (e ▸ hk))⟩
theorem KeptL.putObj {base : Nat} {own : Nat → Prop} {w : World} {l : Nat} {r : Loop} (o : Obj) (hl : w.heap[l]? = some (.loop r)) (hb : base ≤ l) : KeptL base own w (w.putObj l o) :=
  ⟨rfl, rfl, rfl, by simp, fun b _ _ h => World.putObj_heap_other (fun e => by
    subst e
    rcases h with h | h
    · omega
    · exact h r hl)⟩
/-- The iterator's contract: it hands out the things of L, one behind the other, till yield says 'no more'. -/
def SeqP (P : Program) (base : Nat) (gf : Nat) (lb : Array Value) (Enc : (Nat → Prop) → α → World → Array Value → Prop) (L : List α) (own0 : Nat → Prop) (Start : World → Prop) : Prop :=
  ∀ (l : Nat) (J Jx : (Nat → Prop) → List α → World → Prop) (W : World), Start W → (∀ b, own0 b → b < W.heap.size ∧ base ≤ b) → base ≤ W.heap.size → StableJ base J → StableJ base Jx →
    (∀ own pre x vs W1, J own pre W1 → (∃ rest, L = pre ++ x :: rest) → Enc own x W1 vs → (∀ b, own0 b → own b) → YieldAt Fence.wide 0 P l vs W1 fun e W' =>
      (e = .returned (.bool true) ∧ J own (pre ++ [x]) W' ∧ RoundKept (fun b => b < base ∨ own b) W1 W') ∨ (e = .returned (.bool false) ∧ Jx own (pre ++ [x]) W')) →
    J own0 [] W →
    Calls P gf (#[.func (.yield l) #[] #[]] ++ lb) W fun e W' => (∃ v, e = .returned v) ∧ ((∃ own, (∀ b, own b → base ≤ b) ∧ J own L W') ∨ ∃ own pre, (∀ b, own b → base ≤ b) ∧ Jx own pre W')
/-- How the body of a round may be left. -/
def outPost (I : (Nat → Prop) → List α → World → Prop) (Ix : Code → (Nat → Prop) → List α → World → Prop) (own keep : Nat → Prop) (xs : List α) (W : World) : Exit → Act → World → Prop
  | .normal, _, W' => RoundKept keep W W' ∧ I own xs W'
  | .ret, _, W' => RoundKept keep W W' ∧ Ix .ret own xs W'
  | .exit id, _, W' => RoundKept keep W W' ∧ Ix (.exit id) own xs W'
  | .goto t, _, W' => RoundKept keep W W' ∧ Ix (.goto t) own xs W'
  | .panic _, _, _ => False
  | .outgrown, _, _ => False
/-- In a round: which blocks the body must leave. -/
def keepR (base : Nat) (own : Nat → Prop) (l D : Nat) : Nat → Prop := fun b => (b < base ∨ own b) ∨ b = l ∨ b = D
variable {P : Program}
theorem wp_rangeFunc_iter {g : Operand} {ps : Array Tmp} {assign body : Code} {Q : Exit → Act → World → Prop} {a : Act} {w : World} {base gf : Nat} {lb : Array Value} {Enc : (Nat → Prop) → α → World → Array Value → Prop} {L : List α} {own0 : Nat → Prop} {Start : World → Prop}
    (hg : a.eval g = .func (.func gf) #[] lb) (eg : ∀ args w, (callFunc gf args).run P w = .ok (.enter gf args) w) (hseq : SeqP P base gf lb Enc L own0 Start)
    (hbase : base ≤ w.heap.size) (hown : ∀ b, own0 b → b < w.heap.size ∧ base ≤ b) (hst : ∀ W, Below w.heap.size w W → Start W) (henc : ∀ own x W vs, Enc own x W vs → vs.size = ps.size)
    (I : (Nat → Prop) → List α → World → Prop) (Ix : Code → (Nat → Prop) → List α → World → Prop) (hI : StableI base I) (hIx : ∀ c, StableI base (Ix c)) (h0 : I own0 [] w)
    (hround : ∀ (l D : Nat) own pre x vs W, I own pre W → (∃ rest, L = pre ++ x :: rest) → Enc own x W vs → (∃ r, W.heap[l]? = some (.loop r)) → (∃ d, W.heap[D]? = some (.deferred d)) → w.heap.size ≤ l → w.heap.size ≤ D → ¬ own l → ¬ own D → (∀ b, own b → base ≤ b) →
      assign.wpIn (Fence.wide.inRound l) 0 P (Exit.then (fun a₁ W₁ => RoundKept (keepR base own l D) W W₁ ∧ ∀ W₂, (∃ r r', W₁.heap[l]? = some (.loop r) ∧ W₂ = W₁.putObj l (.loop r')) → body.wpIn (Fence.wide.inRound l) 0 P (outPost I Ix own (keepR base own l D) (pre ++ [x]) W₂) a₁ W₂) (fun _ _ _ => False))
        { tmps := (ps.zip vs).foldl (fun t (p, v) => t.setIfInBounds p v) a.tmps, defers := [] } W)
    (hdone : ∀ (D : Nat) own W, I own L W → (∀ b, own b → base ≤ b) → W.heap[D]? = some (.deferred (some [])) → w.heap.size ≤ D → Q .normal { a with defers := { target := .collected D, args := #[] } :: a.defers } W)
    (hstop : ∀ (D : Nat) (c : Code) own pre W, Ix c own pre W → (∀ b, own b → base ≤ b) → W.heap[D]? = some (.deferred (some [])) → w.heap.size ≤ D → c.wp P Q { a with defers := { target := .collected D, args := #[] } :: a.defers } W) :
    (Code.rangeFunc g ps assign body).wp P Q a w := by
  refine (wpIn_wide (n := 1)).1 (wpIn_rangeFunc ?_)
  intro fn hfn
  obtain ⟨rec, hrec⟩ : ∃ rec : LoopState → Option Code → Loop, rec = fun st pe => { state := st, pending := pe, fn, tmps := a.tmps, params := ps, assign, body, defers := w.heap.size } := ⟨_, rfl⟩
  obtain ⟨W1, hW1⟩ : ∃ W1, (w.alloc (.deferred (some []))).alloc (.loop (rec .ready none)) = W1 := ⟨_, rfl⟩
  have hL1 : W1.heap[w.heap.size + 1]? = some (.loop (rec .ready none)) := by
    rw [← hW1]; have := World.alloc_heap_new (w.alloc (.deferred (some []))) (.loop (rec .ready none)); rwa [World.size_alloc] at this
  have hK1 : W1.heap[w.heap.size]? = some (.deferred (some [])) := by
    rw [← hW1]; exact (Below.heap_alloc _ _ _ (by simp)).trans (World.alloc_heap_new w _)
  have hbW : Below w.heap.size w W1 := by
    rw [← hW1]; exact ((Below.refl _ w).alloc (Nat.le_refl _) _).alloc (by simp) _
  have hI1 : I own0 [] W1 := hI own0 own0 [] w W1 h0 (KeptBut.of_below hbW).lax (fun b hb => (hown b hb).2) fun b hb => Or.inl hb
  refine ⟨w.heap.size + 1, [{ target := .collected w.heap.size, args := #[] }], W1, { target := .fn (.func gf) lb, args := #[.func (.yield (w.heap.size + 1)) #[] #[]] }, W1, gf,
    #[.func (.yield (w.heap.size + 1)) #[] #[]] ++ lb, W1, ?_, ?_, fun _ _ => trivial, ?_, fun h => by simp [Fence.wide] at h, ?_⟩
  · rw [← hW1, hrec]; exact run_enterLoop_outer _ _ _ _ _
  · simp only [resolve, hg]
    simp [go_sem]
  · simp [invoke, go_sem, eg]
  · refine callsIn_wide.2 ((hseq (w.heap.size + 1)
      (fun own pre W => (I own pre W ∧ W.heap[w.heap.size + 1]? = some (.loop (rec .ready none)) ∧ W.heap[w.heap.size]? = some (.deferred (some []))) ∧ ¬ own (w.heap.size + 1) ∧ ¬ own w.heap.size ∧ ∀ b, own b → base ≤ b)
      (fun own pre W => (∃ c, Ix c own pre W ∧ W.heap[w.heap.size + 1]? = some (.loop (rec .done (some c))) ∧ W.heap[w.heap.size]? = some (.deferred (some []))) ∧ ¬ own (w.heap.size + 1) ∧ ¬ own w.heap.size ∧ ∀ b, own b → base ≤ b)
      W1 (hst W1 hbW) (fun b hb => ⟨Nat.lt_of_lt_of_le (hown b hb).1 hbW.size, (hown b hb).2⟩) (Nat.le_trans hbase hbW.size) ?_ ?_ ?_ ?_).mono ?_)
    · rintro own own' s A B ⟨⟨hi, hl, hk⟩, ho1, ho2, ho3⟩ hkb hbs hnew
      have hlA := (Array.getElem?_eq_some_iff.1 hl).1
      have hlD := (Array.getElem?_eq_some_iff.1 hk).1
      exact ⟨⟨hI own own' s A B hi hkb.lax hbs hnew, (hkb.block _ hlA ho1).trans hl, (hkb.block _ hlD ho2).trans hk⟩, fun h => (hnew _ h).elim ho1 (by omega), fun h => (hnew _ h).elim ho2 (by omega), fun b hb => (hnew b hb).elim (ho3 b) (by omega)⟩
    · rintro own own' s A B ⟨⟨c, hi, hl, hk⟩, ho1, ho2, ho3⟩ hkb hbs hnew
      have hlA := (Array.getElem?_eq_some_iff.1 hl).1
      have hlD := (Array.getElem?_eq_some_iff.1 hk).1
      exact ⟨⟨c, hIx c own own' s A B hi hkb.lax hbs hnew, (hkb.block _ hlA ho1).trans hl, (hkb.block _ hlD ho2).trans hk⟩, fun h => (hnew _ h).elim ho1 (by omega), fun h => (hnew _ h).elim ho2 (by omega), fun b hb => (hnew b hb).elim (ho3 b) (by omega)⟩
    · rintro own pre x vs W ⟨⟨hi, hl, hk⟩, ho1, ho2, ho3⟩ hrest hen hext
      have hlt : w.heap.size + 1 < W.heap.size := (Array.getElem?_eq_some_iff.1 hl).1
      have hy := run_yield (P := P) (args := vs) hl (by rw [hrec]; exact henc own x W vs hen)
      rw [hrec] at hy
      refine ⟨fn, _, assign, body, hy, roundIn_of_wpIn trivial (wpIn_mono (hround (w.heap.size + 1) w.heap.size own pre x vs W hi hrest hen ⟨_, hl⟩ ⟨_, hk⟩ (by omega) (Nat.le_refl _) ho1 ho2 ho3) ?_)⟩
      rintro e a1 W1' hp
      cases e with
      | normal =>
        obtain ⟨hrk, hbody⟩ := hp
        have hl1 : W1'.heap[w.heap.size + 1]? = some (.loop (rec .ready none)) := (hrk.block _ hlt (Or.inr (Or.inl rfl))).trans hl
        have hk1 : W1'.heap[w.heap.size]? = some (.deferred (some [])) := (hrk.block _ (by omega) (Or.inr (Or.inr rfl))).trans hk
        have hlt1 : w.heap.size + 1 < W1'.heap.size := (Array.getElem?_eq_some_iff.1 hl1).1
        refine ⟨_, run_beginRound hl1 (by rw [hrec]), ?_⟩
        have hl2 : (W1'.putObj (w.heap.size + 1) (.loop { rec .ready none with state := .busy })).heap[w.heap.size + 1]? = some (.loop { rec .ready none with state := .busy }) := World.putObj_heap_same hlt1
        have hk2 : (W1'.putObj (w.heap.size + 1) (.loop { rec .ready none with state := .busy })).heap[w.heap.size]? = some (.deferred (some [])) := (World.putObj_heap_other (by omega)).trans hk1
        have hkp2 : RoundKept (fun b => b < base ∨ own b) W1' (W1'.putObj (w.heap.size + 1) (.loop { rec .ready none with state := .busy })) := RoundKept.putObj _ fun h => h.elim (by omega) ho1
        refine wpIn_mono (hbody _ ⟨_, _, hl1, rfl⟩) ?_
        generalize W1'.putObj (w.heap.size + 1) (.loop { rec .ready none with state := .busy }) = W2 at hl2 hk2 hkp2
        have hlt2 : w.heap.size + 1 < W2.heap.size := (Array.getElem?_eq_some_iff.1 hl2).1
        have fin : ∀ (jump : Option Code) (W3 : World), RoundKept (keepR base own (w.heap.size + 1) w.heap.size) W2 W3 →
            (Instr.endRound (w.heap.size + 1) jump).run P W3 = .ok (.bool jump.isNone) (W3.putObj (w.heap.size + 1) (.loop (rec (if jump.isNone then .ready else .done) jump))) ∧
            W3.heap[w.heap.size + 1]? = some (.loop { rec .ready none with state := .busy }) ∧
            (W3.putObj (w.heap.size + 1) (.loop (rec (if jump.isNone then .ready else .done) jump))).heap[w.heap.size + 1]? = some (.loop (rec (if jump.isNone then .ready else .done) jump)) ∧
            (W3.putObj (w.heap.size + 1) (.loop (rec (if jump.isNone then .ready else .done) jump))).heap[w.heap.size]? = some (.deferred (some [])) := fun jump W3 hk3 => by
          have hl3 := (hk3.block _ hlt2 (Or.inr (Or.inl rfl))).trans hl2
          have hkk3 := (hk3.block _ (by omega) (Or.inr (Or.inr rfl))).trans hk2
          have := run_endRound (P := P) jump hl3
          rw [hrec] at this ⊢
          exact ⟨this, by rw [hrec] at hl3; exact hl3, World.putObj_heap_same (Array.getElem?_eq_some_iff.1 hl3).1, (World.putObj_heap_other (by omega)).trans hkk3⟩
        have stI : ∀ (J : (Nat → Prop) → List α → World → Prop), StableI base J → ∀ (W3 : World) (o : Obj) (r : Loop), W3.heap[w.heap.size + 1]? = some (.loop r) → J own (pre ++ [x]) W3 → J own (pre ++ [x]) (W3.putObj (w.heap.size + 1) o) := fun J hJ W3 o r h3 hj =>
          hJ own own _ W3 _ hj (KeptL.putObj o h3 (by omega)) ho3 fun b hb => Or.inl hb
        rintro e a3 W3 hp
        cases e with
        | normal =>
          obtain ⟨hk3, hi3⟩ := hp
          obtain ⟨hr, hl3, hl4, hk4⟩ := fin none W3 hk3
          exact ⟨_, _, hr, .inl ⟨rfl, ⟨⟨stI I hI W3 _ _ hl3 hi3, hl4, hk4⟩, ho1, ho2, ho3⟩, ((hrk.mono fun b hb => Or.inl hb).trans hkp2).trans ((hk3.mono fun b hb => Or.inl hb).trans (RoundKept.putObj _ fun h => h.elim (by omega) ho1))⟩⟩
        | ret =>
          obtain ⟨hk3, hi3⟩ := hp
          obtain ⟨hr, hl3, hl4, hk4⟩ := fin (some .ret) W3 hk3
          exact ⟨_, _, hr, .inr ⟨rfl, ⟨.ret, stI (Ix .ret) (hIx _) W3 _ _ hl3 hi3, hl4, hk4⟩, ho1, ho2, ho3⟩⟩
        | exit id =>
          obtain ⟨hk3, hi3⟩ := hp
          obtain ⟨hr, hl3, hl4, hk4⟩ := fin (some (.exit id)) W3 hk3
          exact ⟨_, _, hr, .inr ⟨rfl, ⟨.exit id, stI (Ix (.exit id)) (hIx _) W3 _ _ hl3 hi3, hl4, hk4⟩, ho1, ho2, ho3⟩⟩
        | goto t =>
          obtain ⟨hk3, hi3⟩ := hp
          obtain ⟨hr, hl3, hl4, hk4⟩ := fin (some (.goto t)) W3 hk3
          exact ⟨_, _, hr, .inr ⟨rfl, ⟨.goto t, stI (Ix (.goto t)) (hIx _) W3 _ _ hl3 hi3, hl4, hk4⟩, ho1, ho2, ho3⟩⟩
        | panic _ => exact hp.elim
        | outgrown => exact hp.elim
      | ret => exact hp.elim
      | exit id => exact hp.elim
      | goto t => exact hp.elim
      | panic _ => exact hp.elim
      | outgrown => exact hp.elim
    · refine ⟨⟨hI1, hL1, hK1⟩, fun h => ?_, fun h => ?_, fun b hb => (hown b hb).2⟩
      · have := (hown _ h).1; omega
      · have := (hown _ h).1; omega
    · rintro e W' ⟨⟨v, rfl⟩, ⟨own, ho3, ⟨⟨hi, hl, hk⟩, ho1, ho2, _⟩⟩ | ⟨own, pre, ho3, ⟨⟨c, hi, hl, hk⟩, ho1, ho2, _⟩⟩⟩
      · have he := run_endLoop (P := P) hl (by rw [hrec]; simp)
        rw [show (rec .ready none).pending = none by rw [hrec]] at he
        refine ⟨none, _, he, ?_⟩
        exact hdone w.heap.size own _ (hI own own _ W' _ hi (KeptL.putObj _ hl (by omega)) ho3 fun b hb => Or.inl hb) ho3 ((World.putObj_heap_other (by omega)).trans hk) (Nat.le_refl _)
      · have he := run_endLoop (P := P) hl (by rw [hrec]; simp)
        rw [show (rec .done (some c)).pending = some c by rw [hrec]] at he
        refine ⟨some c, _, he, ?_⟩
        exact wpIn_wide.2 (hstop w.heap.size c own pre _ (hIx c own own _ W' _ hi (KeptL.putObj _ hl (by omega)) ho3 fun b hb => Or.inl hb) ho3 ((World.putObj_heap_other (by omega)).trans hk) (Nat.le_refl _))
end
end Go.Proofs.Ytcpmmkennnjalaa.Q
end
