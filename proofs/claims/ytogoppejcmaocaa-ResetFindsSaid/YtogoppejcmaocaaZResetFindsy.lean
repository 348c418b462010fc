/- Reset returns a reset word of at most (n^3 - n) / 6 letters, or the documented error, for any automaton. (text 25 of 26) -/
import Derived.Test.YtogoppejcmaocaaZResetFindsv
import Derived.Test.YtogoppejcmaocaaZResetFindsx
import Derived.Test.YtogoppejcmaocaaZResetFindsn
import Derived.Test.YtogoppejcmaocaaZResetFindsh
import Derived.Test.YtogoppejcmaocaaZResetFindsg
/-! Part PureResetFinds -/
section
namespace Go.Proofs.Ytogoppejcmaocaa.Pure
open Go.RowKit Go.Proofs.YtogoppejcmaocaaW.PrintWords Go.Proofs.YtogoppejcmaocaaW.PrintLast Go.Proofs.YtogoppejcmaocaaW.PrintMore Go.Proofs.Ytogoppejcmaocaa.Q
set_option linter.unusedVariables false
set_option linter.unusedSectionVars false
set_option linter.unusedSimpArgs false
theorem ref_resets {rows : List (List Int)} {n m : Nat} (V : VA rows n m) {w : List Nat} (hw : Wd m w) (hl : w.length ≤ 40000) (hr : ∀ s t, s < n → t < n → run (nx rows) s w = run (nx rows) t w) : Ev (fun k => mizmazeref03_Resets.f k rows (toI w)) true := by
  have h60 := V.n60
  have hn0 := V.n0
  unfold mizmazeref03_Resets.f
  refine Ev.bind (ref_word' V (toI w)) ?_
  rw [toI_len, decide_eq_true hl, inB_toI.2 hw]
  simp only [Bool.and_self, if_true, V.len]
  refine Ev.bind (ref_all n (by omega)) (Ev.bind (ref_image V (q := List.range n) (fun x hx => List.mem_range.1 hx) (by simp; omega) hw (by omega)) (Ev.ret ?_))
  rw [toI_len, imgL_one hn0 (runLt (fun s x => V.nxLt) w 0 hn0 hw) fun s hs => hr s 0 (List.mem_range.1 hs) hn0]
  · rfl
  · exact ⟨0, List.mem_range.2 hn0⟩
theorem most_val {n l : Nat} (hn : n ≤ 60) (h0 : 0 < n) (hl : 6 * l ≤ HH (n - 1)) : ∃ z, mizmazeref03_Most.f (n : Int) = some z ∧ (l : Int) ≤ z := by
  have e : HH (n - 1) + n = n * n * n := by
    obtain ⟨r, rfl⟩ : ∃ r, n = r + 1 := ⟨n - 1, by omega⟩
    unfold HH
    have e1 : (r + 1) * (r + 1) * (r + 1) = (r + 1) * ((r + 1) * (r + 1)) := Nat.mul_assoc _ _ _
    have e2 : (r + 1) * (r + 1) = r * (r + 2) + 1 := by
      rw [Nat.mul_add, Nat.add_mul, Nat.add_mul]; simp only [Nat.mul_one, Nat.one_mul, Nat.mul_add]; omega
    rw [e1, e2, Nat.add_sub_cancel, Nat.mul_comm r (r + 1), Nat.mul_assoc, Nat.mul_add (r + 1) (r * (r + 2)) 1, Nat.mul_one]
  have hnn : n * n ≤ 3600 := Nat.mul_le_mul hn hn
  have hnnn : n * n * n ≤ 216000 := Nat.mul_le_mul hnn hn
  generalize ha : n * n * n = c at *
  have hc : ((n : Int) * n) * n = (c : Int) := by rw [← ha, Int.natCast_mul, Int.natCast_mul]
  have hd : ((n * n : Nat) : Int) ≤ 3600 := by omega
  rw [Int.natCast_mul] at hd
  have hd0 : 0 ≤ ((n * n : Nat) : Int) := by omega
  rw [Int.natCast_mul] at hd0
  refine ⟨_, rfl, ?_⟩
  rw [wrapI (z := (n : Int) * n) (by omega) (by omega), hc, wrapI (z := (c : Int)) (by omega) (by omega), wrapI (z := (c : Int) - n) (by omega) (by omega), Int.tdiv_eq_ediv_of_nonneg (by omega), wrapI (by omega) (by omega)]
  omega
theorem ResetFinds : Q.mizmazelaw03_ResetFinds.Pure := by
  intro rows ho
  refine Ev.rounds (g := fun k => mizmazelaw03_ResetFinds.f k rows) ?_
  unfold mizmazelaw03_ResetFinds.f
  cases hv : validB rows with
  | false =>
    refine Ev.bind (reset_form hv) (Ev.bind (ref_valid rows ho) ?_)
    rw [hv]
    exact Ev.congr (fun k => by simp) awake3_end
  | true =>
    have V := VA.of' hv
    generalize hn : rows.length = n at V
    generalize hm : (rd_L1 rows 0).length = m at V
    have h60 := V.n60
    have hlen := V.len
    obtain ⟨r, hr, hev⟩ := reset_ev V
    refine Ev.bind hev (Ev.bind (ref_valid rows ho) ?_)
    rw [hv]
    simp only [if_true]
    rcases hr with ⟨w, hw, rfl, hall, hlw⟩ | ⟨rfl, a, b, ha, hb, hab⟩
    · refine Ev.bind (ref_home V (b := true) ⟨fun _ p q hp hq => ⟨w, hw, hall p q hp hq⟩, fun _ => rfl⟩) ?_
      obtain ⟨z, hz, hwz⟩ := most_val h60 V.n0 hlw
      have hH := HH60 (show n - 1 ≤ 60 by omega)
      simp only [if_true, hz, Option.bind_some, toI_len, if_pos hwz]
      refine Ev.bind (ref_resets V hw (by omega) hall) ?_
      simp only [if_true]
      exact awake3_end
    · refine Ev.bind (ref_home V (b := false) ⟨fun h => (by cases h), fun h => absurd (h a b ha hb) hab⟩) ?_
      exact Ev.congr (fun k => by simp) awake3_end
end Go.Proofs.Ytogoppejcmaocaa.Pure
end
