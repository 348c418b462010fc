/- In an Eulerian automaton of at most MaxSmall states that has a reset word, Extend of each set that is neither empty nor contains all states is a word of at most n - 1 letters whose preimage has more states. (text 27 of 44) -/
import Derived.Test.YtcpmmkennnjalaaZEulerKariz
import Derived.Shelf.RegionOpen
import Derived.OwnWalkIn
import Derived.TacticsInMore
import Derived.StillTailTactics
import Derived.Deep.CutRange
section
namespace Go.Proofs.Ytcpmmkennnjalaa.Q
open Go.RowKit Go.Proofs.YtcpmmkennnjalaaW.PrintWords Go.Proofs.YtcpmmkennnjalaaW.PrintLast Go.Proofs.YtcpmmkennnjalaaW.PrintMore
set_option linter.unusedVariables false
set_option linter.unusedSimpArgs false
theorem SS.start {w0 W w1 w5 : World} {A0 : Option Addr} {n c0 Bx : Nat} {all : Int} {v1 v2 : Value} (hSb : Below w0.heap.size w0 W) (hSB : W.heap[Bx]? = some (.cells #[.slice A0 n c0] 24 (0, 0))) (hBx : Bx < W.heap.size ∧ w0.heap.size ≤ Bx)
    (hO1 : Kd.R (Kd.int .u16) 86 w1 w0.heap.size (fun _ => True) v1 [all]) (hat : ∃ b, v1.ownBlock = some b ∧ W.heap.size ≤ b) (hB1 : Below W.heap.size W w1) (hO2 : Kd.R kSt 109 (w1.alloc (.cells #[.int .i64 (-1), .int .i64 0] 109)) w0.heap.size (fun _ => True) v2 [(-1, 0)]) (hv2 : Value.slice (some ⟨w1.heap.size, 0, none⟩) 1 1 = v2)
    (hm : MapIs (IntKey .u16) (Value.int .u16) w5 (w1.heap.size + 1 + 1) (esM [all])) (hg : ((((w1.alloc (.cells #[.int .i64 (-1), .int .i64 0] 109)).alloc (.cells #[v2] 110)).alloc (.map #[] 0))).grownBy w5 (some (w1.heap.size + 1 + 1))) :
    SS w0 A0 n c0 Bx (w1.heap.size + 1) (w1.heap.size + 1 + 1) (fun b => b = Bx) W w5 [all] v1 [all] v2 v2 [(-1, 0)] := by
  have h0 : w0.heap.size ≤ W.heap.size := hSb.size
  have h1 : W.heap.size ≤ w1.heap.size := hB1.size
  have hba : Below w1.heap.size w1 (((w1.alloc (.cells #[.int .i64 (-1), .int .i64 0] 109)).alloc (.cells #[v2] 110)).alloc (.map #[] 0)) := ((((Below.refl _ w1).alloc (Nat.le_refl _) _).alloc (by simp) _).alloc (by simp; omega) _)
  have hbW := below_step hB1 hba
  have hX : (((w1.alloc (.cells #[.int .i64 (-1), .int .i64 0] 109)).alloc (.cells #[v2] 110)).alloc (.map #[] 0)).heap[w1.heap.size + 1]? = some (.cells #[v2] 110 (0, 0)) := by
    have := World.alloc_heap_new (w1.alloc (.cells #[.int .i64 (-1), .int .i64 0] 109)) (.cells #[v2] 110)
    rw [World.size_alloc] at this
    exact (Below.heap_alloc _ _ _ (by simp)).trans this
  have hM : MapIs (IntKey .u16) (Value.int .u16) (((w1.alloc (.cells #[.int .i64 (-1), .int .i64 0] 109)).alloc (.cells #[v2] 110)).alloc (.map #[] 0)) (w1.heap.size + 1 + 1) (esM []) := by
    have := MapIs.made (G := IntKey .u16) (enc := Value.int .u16) ((w1.alloc (.cells #[.int .i64 (-1), .int .i64 0] 109)).alloc (.cells #[v2] 110))
    simpa [World.size_alloc, esM] using this
  obtain ⟨b1, hb1, hb2⟩ := hat
  have hS2 := Kd.R_below hO2 (((Below.refl _ (w1.alloc (.cells #[.int .i64 (-1), .int .i64 0] 109))).alloc (Nat.le_refl _) (.cells #[v2] 110)).alloc (by simp) (.map #[] 0))
  have hS : SS w0 A0 n c0 Bx (w1.heap.size + 1) (w1.heap.size + 1 + 1) (fun b => b = Bx) W (((w1.alloc (.cells #[.int .i64 (-1), .int .i64 0] 109)).alloc (.cells #[v2] 110)).alloc (.map #[] 0)) [] v1 [all] v2 v2 [(-1, 0)] :=
    ⟨below_step hSb hbW, blk_below hSB hbW, hX, hM, Kd.R_below hO1 hba, hS2, hBx.2, by omega, by omega, KeptBut.of_below hbW, Or.inl rfl, Or.inr (by omega), Or.inr (by omega), fun b hb => by rw [hb1] at hb; injection hb with hb; exact Or.inr (by omega), fun b hb => by rw [← hv2] at hb; simp [Value.ownBlock] at hb; exact Or.inr (by omega)⟩
  exact hS.metTo hg hm
end Go.Proofs.Ytcpmmkennnjalaa.Q
end
