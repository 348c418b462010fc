/- In any Eulerian automaton that has a reset word, whatever set of states, neither empty nor all, is led into by more states with a word of at most n - 1 letters, and its shortest reset word has at most n^2 - 3n + 3 letters; in any circular one at most (n - 1)^2. (At most 9 states) (text 7 of 42) -/
import Derived.Test.YtcpmmkennnjalaaZTopKarif
import Derived.Test.YtcpmmkennnjalaaZTopKarib
import Derived.Test.YtcpmmkennnjalaaZTopKaric
section
namespace Go.Proofs.Ytcpmmkennnjalaa.Q
open Go.Shelf Go.RowKit Go.Lib Go.Sort
set_option linter.unusedVariables false
set_option linter.unusedSimpArgs false
/-! ### slices.stableCmpFunc, slices.SortStableFunc -/
variable {α : Type} [Inhabited α]
set_option maxHeartbeats 8000000 in
set_option maxRecDepth 1000000 in
theorem stable_calls (e : α → Int × Option Addr × Nat × Nat) (cf : α → α → Int) (hW : SWO (ltOf cf)) (blk off cap : Nat) (d : Array α) (w : World)
    (R : RowK (encZ e) 2 w blk off d) (hC : CmpLays Try.prog 76 #[] (encZ e) 2 cf blk off d.size w) (hsz : d.size < 1000000000000000000) :
    Calls Try.prog 92 #[.slice (some ⟨blk, off, none⟩) d.size cap, .int .i64 d.size, .func (.func 76) #[] #[]] w fun x w' => x = .returned (.tuple #[]) ∧ ∃ d', SWK (encZ e) 2 w blk off d' w' ∧ PermIn 0 d.size d d' ∧ SortedIn (ltOf cf) 0 d.size d' := by
  have HC : Aside _ := hC
  have HW : Aside _ := hW
  have S0 : Aside (SWK (encZ e) 2 w blk off d w) := SWK.start R.hH
  clear hC hW
  go_enter Try.func92, Try.ntmps92
  go_wp2
  go_loopg [7, 8] (d.size + 1) (fun kx s7 s8 wr => ∃ (a b : Nat) (dk : Array α), s7 = .int .i64 a ∧ s8 = .int .i64 b ∧ Aside (b = a + 20 ∧ a ≤ d.size ∧ d.size + 1 - a ≤ kx) ∧ Aside (SWK (encZ e) 2 w blk off dk wr) ∧ Aside (Inv1 (ltOf cf) d a dk))
  case atStart => exact ⟨0, 20, d, rfl, rfl, ⟨rfl, by omega, by omega⟩, S0, Inv1.start⟩
  case round =>
    clear S0
    obtain ⟨a, b, dk, rfl, rfl, HA, S1, HI⟩ := hrel
    have ha := HA.out
    have hz := HI.out.size
    by_cases hlt : b ≤ d.size
    · have hltz : (b : Int) ≤ (d.size : Int) := by omega
      cases gk with
      | zero => omega
      | succ kx =>
        have H := insertion_calls e cf blk off cap a b d dk w wr R HC.out (by omega) S1.out (by omega) (by omega) (by omega)
        rw [hz] at H
        have HH : Aside _ := H
        have rb : IntKind.i64.wrap ((b : Int) + 20) = (b : Int) + 20 := by rw [IntKind.wrap_i64]; omega
        have HN : Aside (Inv1 (ltOf cf) d b (Sort.insertionSort (ltOf cf) dk a b)) := by
          have := HI.out.next HW.out (by omega)
          rw [← ha.1] at this
          exact this
        clear H S1 HI hz ha
        go_wp2_with (go_at_call 106; refine Calls.mono HH.out ?_; rintro x w2 ⟨rfl, S2⟩)
        have S3 : Aside _ := S2
        clear S2
        go_roundg kx
        case measure => omega
        case rel =>
          have ha := HA.out
          exact ⟨b, b + 20, _, rfl, by go_num, ⟨rfl, by omega, by omega⟩, S3, HN⟩
    · have hltz : ¬ (b : Int) ≤ (d.size : Int) := by omega
      have H := insertion_calls e cf blk off cap a d.size d dk w wr R HC.out (by omega) S1.out (by omega) (by omega) (by omega)
      rw [hz] at H
      have HH : Aside _ := H
      have HN : Aside (InvB (ltOf cf) d 20 (Sort.insertionSort (ltOf cf) dk a d.size)) := HI.out.done HW.out (by omega) (by omega)
      clear H S1 HI hz ha HA hlt
      go_wp2_with (go_at_call 106; refine Calls.mono HH.out ?_; rintro x w2 ⟨rfl, S2⟩)
      have S3 : Aside _ := S2
      clear S2 HH
      generalize Sort.insertionSort (ltOf cf) dk a d.size = d1 at S3 HN
      go_loopg [6, 7, 8, 9] (d.size) (fun kx s6 s7 s8 s9 wr => ∃ (bs : Nat) (dk : Array α), s6 = .int .i64 bs ∧ Aside (0 < bs ∧ d.size - bs ≤ kx ∧ bs ≤ 2 * d.size + 20) ∧ Aside (SWK (encZ e) 2 w blk off dk wr) ∧ Aside (InvB (ltOf cf) d bs dk))
      case atStart => exact ⟨20, d1, rfl, ⟨by omega, by omega, by omega⟩, S3, HN⟩
      case round =>
        clear S3 HN
        obtain ⟨bs, dk, rfl, HA, S1, HI⟩ := hrel
        by_cases hlt : bs < d.size
        · have hltz : (bs : Int) < (d.size : Int) := by omega
          have r2 : IntKind.i64.wrap (2 * (bs : Int)) = 2 * (bs : Int) := by rw [IntKind.wrap_i64]; have := HA.out; omega
          have H3 : Aside (Inv3 (ltOf cf) d bs 0 dk) := HI.out.start
          clear HI
          go_wp2_with fail
          go_loopg [7, 8] (d.size) (fun kx s7 s8 wr => ∃ (a b : Nat) (dk : Array α), s7 = .int .i64 a ∧ s8 = .int .i64 b ∧ Aside (b = a + 2 * bs ∧ a ≤ d.size ∧ d.size - a ≤ kx) ∧ Aside (SWK (encZ e) 2 w blk off dk wr) ∧ Aside (Inv3 (ltOf cf) d bs a dk))
          case atStart => exact ⟨0, 2 * bs, dk, rfl, by go_num, ⟨by omega, by omega, by omega⟩, S1, H3⟩
          case round =>
            clear S1 H3
            obtain ⟨a, b, dk, rfl, rfl, HB, S1, HI⟩ := hrel
            have ha := HA.out
            have hb := HB.out
            have hz := HI.out.size
            by_cases hle : b ≤ d.size
            · have hlez : (b : Int) ≤ (d.size : Int) := by omega
              cases gk with
              | zero => omega
              | succ kx =>
                have H := symMerge_calls e cf blk off cap d w R HC.out (by omega) d.size a (a + bs) b dk wr (by omega) S1.out (by omega) (by omega) (by omega) (by omega)
                rw [hz, show ((a + bs : Nat) : Int) = (a : Int) + (bs : Int) by omega] at H
                have HH : Aside _ := H
                have ram : IntKind.i64.wrap ((a : Int) + (bs : Int)) = (a : Int) + (bs : Int) := by rw [IntKind.wrap_i64]; omega
                have rb : IntKind.i64.wrap ((b : Int) + 2 * (bs : Int)) = (b : Int) + 2 * (bs : Int) := by rw [IntKind.wrap_i64]; omega
                have HN : Aside (Inv3 (ltOf cf) d bs b (symM (ltOf cf) d.size dk a (a + bs) b)) := by
                  have := HI.out.next HW.out (K := d.size) (by omega) (by omega) (by omega)
                  rw [← hb.1] at this
                  exact this
                clear H S1 HI hz ha hb hlt hle
                go_wp2_with (go_at_call 107; refine Calls.mono HH.out ?_; rintro x w2 ⟨rfl, S2⟩)
                have S3 : Aside _ := S2
                clear S2
                go_roundg kx
                case measure => omega
                case rel =>
                  have ha := HA.out
                  have hb := HB.out
                  have hle : (b : Int) ≤ (d.size : Int) := hlez
                  exact ⟨b, b + 2 * bs, _, rfl, by first | go_num | (congr 1; omega), ⟨rfl, by omega, by omega⟩, S3, HN⟩
            · have hlez : ¬ (b : Int) ≤ (d.size : Int) := by omega
              have ram : IntKind.i64.wrap ((a : Int) + (bs : Int)) = (a : Int) + (bs : Int) := by rw [IntKind.wrap_i64]; omega
              have rbs : IntKind.i64.wrap ((bs : Int) * 2) = (bs : Int) * 2 := by rw [IntKind.wrap_i64]; omega
              by_cases hm : a + bs < d.size
              · have hmz : (a : Int) + (bs : Int) < (d.size : Int) := by omega
                have H := symMerge_calls e cf blk off cap d w R HC.out (by omega) d.size a (a + bs) d.size dk wr (by omega) S1.out (by omega) (by omega) (by omega) (by omega)
                rw [hz, show ((a + bs : Nat) : Int) = (a : Int) + (bs : Int) by omega] at H
                have HH : Aside _ := H
                have HN : Aside (InvB (ltOf cf) d (2 * bs) (symM (ltOf cf) d.size dk a (a + bs) d.size)) := HI.out.last HW.out (K := d.size) (by omega) (by omega) (by omega) (by omega)
                clear H S1 HI hz ha hb hlt hle hm HB
                go_wp2_with (go_at_call 107; refine Calls.mono HH.out ?_; rintro x w2 ⟨rfl, S2⟩)
                have S3 : Aside _ := S2
                clear S2
                go_roundg (d.size - 2 * bs)
                case measure => have ha := HA.out; omega
                case rel =>
                  have ha := HA.out
                  exact ⟨2 * bs, _, by first | go_num | (congr 1; omega), ⟨by omega, by omega, by omega⟩, S3, HN⟩
              · have hmz : ¬ (a : Int) + (bs : Int) < (d.size : Int) := by omega
                have HN : Aside (InvB (ltOf cf) d (2 * bs) dk) := HI.out.skip (by omega) (by omega)
                clear HI hz ha hb hlt hle hm HB
                go_wp2_with fail
                go_roundg (d.size - 2 * bs)
                case measure => have ha := HA.out; omega
                case rel =>
                  have ha := HA.out
                  exact ⟨2 * bs, dk, by first | go_num | (congr 1; omega), ⟨by omega, by omega, by omega⟩, S1, HN⟩
        · have hltz : ¬ (bs : Int) < (d.size : Int) := by omega
          have HD : Aside _ := HI.out.done (by omega)
          clear HI
          go_wp2
          go_end0
          exact ⟨rfl, dk, S1.out, HD.out.1, HD.out.2⟩
set_option maxHeartbeats 2000000 in
theorem sortStable_calls (e : α → Int × Option Addr × Nat × Nat) (cf : α → α → Int) (hW : SWO (ltOf cf)) (blk off cap : Nat) (d : Array α) (w : World)
    (R : RowK (encZ e) 2 w blk off d) (hC : CmpLays Try.prog 76 #[] (encZ e) 2 cf blk off d.size w) (hsz : d.size < 1000000000000000000) :
    Calls Try.prog 75 #[.slice (some ⟨blk, off, none⟩) d.size cap, .func (.func 76) #[] #[]] w fun x w' => x = .returned (.tuple #[]) ∧ ∃ d', SWK (encZ e) 2 w blk off d' w' ∧ PermIn 0 d.size d d' ∧ SortedIn (ltOf cf) 0 d.size d' := by
  have HH : Aside _ := stable_calls e cf hW blk off cap d w R hC hsz
  clear hW hC R
  go_enter Try.func75, Try.ntmps75
  go_wp2_with (go_at_call 92; refine Calls.mono HH.out ?_; rintro x w2 ⟨rfl, d', S2, hp, hs⟩)
  go_end0
  exact ⟨rfl, d', S2, hp, hs⟩
end Go.Proofs.Ytcpmmkennnjalaa.Q
end
