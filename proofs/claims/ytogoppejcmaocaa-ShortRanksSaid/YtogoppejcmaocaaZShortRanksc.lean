/- The law ShortRanks holds: Rank returns the least number of states to which a word leads, and the first shortest word that leads to no more, or the documented error, for any automaton; no bound on the argument beyond its type's. (text 3 of 30) -/

/-! Part MSkew -/
section
namespace Go.Proofs.Ytogoppejcmaocaa.Q
set_option linter.unusedVariables false
set_option linter.unusedSectionVars false
set_option linter.unusedSimpArgs false
/-! ### more functions than a span has: a relation; skew pairs (Frankl) -/
/-- f is a combination of the functions of a list. -/
inductive InSpan {X : Type} : List (X → Int) → (X → Int) → Prop
  | nil {f : X → Int} (h : ∀ x, f x = 0) : InSpan [] f
  | cons {b : X → Int} {B : List (X → Int)} {f g : X → Int} (a : Int) (hg : InSpan B g) (h : ∀ x, f x = a * b x + g x) : InSpan (b :: B) f
theorem InSpan.congr {X : Type} {B : List (X → Int)} {f g : X → Int} (h : InSpan B f) (e : ∀ x, g x = f x) : InSpan B g := by
  cases h with
  | nil h => exact .nil fun x => by rw [e, h]
  | cons a hg h => exact .cons a hg fun x => by rw [e, h]
theorem InSpan.zero {X : Type} : ∀ B : List (X → Int), InSpan B fun _ => 0
  | [] => .nil fun _ => rfl
  | b :: B => .cons 0 (InSpan.zero B) fun x => by simp
theorem InSpan.add {X : Type} {B : List (X → Int)} {f g : X → Int} (h : InSpan B f) (k : InSpan B g) : InSpan B fun x => f x + g x := by
  induction h generalizing g with
  | nil h => cases k with | nil k => exact .nil fun x => by rw [h, k]; rfl
  | cons a hg h ih => cases k with | cons c kg k => exact .cons (a + c) (ih kg) fun x => by rw [h, k, Int.add_mul]; omega
theorem InSpan.smul {X : Type} {B : List (X → Int)} {f : X → Int} (h : InSpan B f) (a : Int) : InSpan B fun x => a * f x := by
  induction h with
  | nil h => exact .nil fun x => by rw [h, Int.mul_zero]
  | cons c hg h ih => exact .cons (a * c) ih fun x => by rw [h, Int.mul_add, Int.mul_assoc]
theorem InSpan.mem {X : Type} {B : List (X → Int)} {b : X → Int} (h : b ∈ B) : InSpan B b := by
  induction B with
  | nil => cases h
  | cons c B ih =>
    rcases List.mem_cons.1 h with rfl | h
    · exact .cons 1 (InSpan.zero B) fun x => by omega
    · exact .cons 0 (ih h) fun x => by omega
/-- A linear map on functions takes a span into a span. -/
theorem InSpan.map {X Y : Type} {B : List (X → Int)} {B' : List (Y → Int)} (F : (X → Int) → Y → Int) (hc : ∀ f g : X → Int, (∀ x, f x = g x) → ∀ y, F f y = F g y) (h0 : ∀ y, F (fun _ => 0) y = 0)
    (hl : ∀ (a : Int) (f g : X → Int) y, F (fun x => a * f x + g x) y = a * F f y + F g y) (hB : ∀ b ∈ B, InSpan B' (F b)) {f : X → Int} (h : InSpan B f) : InSpan B' (F f) := by
  induction h with
  | nil h => exact (InSpan.zero B').congr fun y => by rw [hc _ _ h, h0]
  | @cons b B f g a hg h ih => exact (((hB b List.mem_cons_self).smul a).add (ih fun c hcB => hB c (List.mem_cons_of_mem _ hcB))).congr fun y => by rw [hc _ _ h, hl]
theorem InSpan.trans {X : Type} {B B' : List (X → Int)} (hB : ∀ b ∈ B, InSpan B' b) {f : X → Int} (h : InSpan B f) : InSpan B' f :=
  InSpan.map (fun f => f) (fun _ _ h => h) (fun _ => rfl) (fun _ _ _ _ => rfl) hB h
/-! the functions of a set: on (e1, e2) the product of e2 - t e1 + t^2 -/
end Go.Proofs.Ytogoppejcmaocaa.Q
end
