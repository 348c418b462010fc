/- In any Eulerian automaton that has a reset word, whatever set of states, neither empty nor all, is led into by more states with a word of at most n - 1 letters, and its shortest reset word has at most n^2 - 3n + 3 letters; in any circular one at most (n - 1)^2. (At most 9 states) (text 2 of 42) -/
import Derived.Test.YtcpmmkennnjalaaProg
import Derived.Shelf.SlSortCmp.KitK
import Derived.Sort.WalkB2
import Derived.Sort.WalkB12
import Derived.Deep.LoopGhost
import Derived.BigRegion
import Derived.BigQuiet
section
namespace Go.Proofs.Ytcpmmkennnjalaa.Q
open Go.Shelf Go.RowKit Go.Lib Go.Sort
set_option linter.unusedVariables false
set_option linter.unusedSimpArgs false
/-! ### slices.swapRangeCmpFunc at rows of sets with their words -/
/-- i elements from a on are exchanged with those from b on -/
def swapRng {α : Type} [Inhabited α] (d : Array α) (a b : Nat) : Nat → Array α
  | 0 => d
  | i + 1 => swp (swapRng d a b i) (a + i) (b + i)
theorem size_swapRng {α : Type} [Inhabited α] (d : Array α) (a b : Nat) : ∀ i, (swapRng d a b i).size = d.size
  | 0 => rfl
  | i + 1 => by rw [swapRng, size_swp, size_swapRng d a b i]
variable {α : Type} [Inhabited α]
theorem two_cells (W : World) (blk x y : Nat) (u v : Value) (h : x ≠ y ∧ x + 1 ≠ y) : ((W.setCell ⟨blk, x, none⟩ u).setCell ⟨blk, x + 1, none⟩ v).cell? ⟨blk, y, none⟩ = W.cell? ⟨blk, y, none⟩ := by
  rw [World.cell?_setCell_other, World.cell?_setCell_other]
  all_goals simp [h.1, h.2, Ne.symm h.1, Ne.symm h.2]
/-- the two cells of an element -/
def encZ (e : α → Int × Option Addr × Nat × Nat) (x : α) : List Value := [.int .u16 (e x).1, .slice (e x).2.1 (e x).2.2.1 (e x).2.2.2]
/-- what an exchange of two elements wants to know, and the world behind it -/
theorem swap4 {e : α → Int × Option Addr × Nat × Nat} {blk off : Nat} {d0 dk : Array α} {w0 wr : World} (S : SWK (encZ e) 2 w0 blk off dk wr) (R : RowK (encZ e) 2 w0 blk off d0) (hs : dk.size = d0.size) (i j : Nat) (hi : i < dk.size) (hj : j < dk.size) (hne : i ≠ j) :
    ∃ (p0 : Int) (p1 : Option Addr) (p2 p3 : Nat) (q0 : Int) (q1 : Option Addr) (q2 q3 : Nat),
      wr.cell? ⟨blk, off + i * 2, none⟩ = some (.int .u16 p0) ∧ wr.cell? ⟨blk, off + i * 2 + 1, none⟩ = some (.slice p1 p2 p3) ∧
      wr.cell? ⟨blk, off + j * 2, none⟩ = some (.int .u16 q0) ∧ wr.cell? ⟨blk, off + j * 2 + 1, none⟩ = some (.slice q1 q2 q3) ∧
      wr.frozen? ⟨blk, off + i * 2, none⟩ = false ∧ wr.frozen? ⟨blk, off + i * 2 + 1, none⟩ = false ∧
      wr.frozen? ⟨blk, off + j * 2, none⟩ = false ∧ wr.frozen? ⟨blk, off + j * 2 + 1, none⟩ = false ∧
      ((wr.setCell ⟨blk, off + i * 2, none⟩ (.int .u16 q0)).setCell ⟨blk, off + i * 2 + 1, none⟩ (.slice q1 q2 q3)).cell? ⟨blk, off + j * 2, none⟩ = some (.int .u16 q0) ∧
      ((wr.setCell ⟨blk, off + i * 2, none⟩ (.int .u16 q0)).setCell ⟨blk, off + i * 2 + 1, none⟩ (.slice q1 q2 q3)).cell? ⟨blk, off + j * 2 + 1, none⟩ = some (.slice q1 q2 q3) ∧
      Aside (SWK (encZ e) 2 w0 blk off (swp dk i j) ((((wr.setCell ⟨blk, off + i * 2, none⟩ (.int .u16 q0)).setCell ⟨blk, off + i * 2 + 1, none⟩ (.slice q1 q2 q3)).setCell ⟨blk, off + j * 2, none⟩ (.int .u16 p0)).setCell ⟨blk, off + j * 2 + 1, none⟩ (.slice p1 p2 p3)).drew) := by
  have S2 := S.swapped R i j hi hj
  have hh := S.drew.holds R.hblk R.hH hs
  have cA := HoldsK.cells hh R.hk hi
  have cB := HoldsK.cells hh R.hk hj
  have fz : ∀ x, x < dk.size → ∀ c, c < 2 → wr.drew.frozen? ⟨blk, off + (x * 2 + c), none⟩ = false := fun x hx c hc => (hh (x * 2 + c) (by rw [size_flatK]; omega)).2
  unfold encZ at S2 cA cB
  generalize e dk[i]! = p at S2 cA
  generalize e dk[j]! = q at S2 cB
  obtain ⟨p0, p1, p2, p3⟩ := p
  obtain ⟨q0, q1, q2, q3⟩ := q
  have b0 : wr.cell? ⟨blk, off + j * 2, none⟩ = some (.int .u16 q0) := cB 0 _ rfl
  have b1 : wr.cell? ⟨blk, off + j * 2 + 1, none⟩ = some (.slice q1 q2 q3) := cB 1 _ rfl
  exact ⟨p0, p1, p2, p3, q0, q1, q2, q3, cA 0 _ rfl, cA 1 _ rfl, b0, b1, fz i hi 0 (by omega), fz i hi 1 (by omega), fz j hj 0 (by omega), fz j hj 1 (by omega),
    (two_cells wr blk (off + i * 2) (off + j * 2) (.int .u16 q0) (.slice q1 q2 q3) (by omega)).trans b0, (two_cells wr blk (off + i * 2) (off + j * 2 + 1) (.int .u16 q0) (.slice q1 q2 q3) (by omega)).trans b1, S2⟩
set_option maxHeartbeats 4000000 in
set_option maxRecDepth 1000000 in
theorem swapRange_calls (e : α → Int × Option Addr × Nat × Nat) (cb : Value) (blk off cap a b n : Nat) (d0 d : Array α) (w0 w : World)
    (R : RowK (encZ e) 2 w0 blk off d0) (hs : d0.size = d.size) (S : SWK (encZ e) 2 w0 blk off d w) (hne : a ≠ b) (ha : a + n ≤ d.size) (hb : b + n ≤ d.size) (hsz : d.size < 4611686018427387904) :
    Calls Try.prog 115 #[.slice (some ⟨blk, off, none⟩) d.size cap, .int .i64 a, .int .i64 b, .int .i64 n, cb] w fun x w' => x = .returned (.tuple #[]) ∧ SWK (encZ e) 2 w0 blk off (swapRng d a b n) w' := by
  have S0 : Aside (SWK (encZ e) 2 w0 blk off d w) := S
  have mixed : Try.prog.follows .mixedOrders = true := by kernel_rfl
  clear S
  go_enter Try.func115, Try.ntmps115
  go_wp2
  go_loopg [10] n (fun kx s10 wr => ∃ (i : Nat), s10 = .int .i64 i ∧ i + kx = n ∧ Aside (SWK (encZ e) 2 w0 blk off (swapRng d a b i) wr))
  case atStart => exact ⟨0, rfl, by omega, S0⟩
  case round =>
    clear S0
    obtain ⟨i, rfl, hk, S1⟩ := hrel
    have hds := size_swapRng d a b i
    cases gk with
    | zero =>
      obtain rfl : i = n := by omega
      go_wp2
      go_end0
      exact ⟨rfl, S1.out⟩
    | succ kx =>
      have hlt : (i : Int) < (n : Int) := by omega
      go_wp2_with fail
      have ea : ((a : Int) + (i : Int)).toNat = a + i := by omega
      have pa : (0 : Int) ≤ (a : Int) + (i : Int) := by omega
      have ba : (a : Int) + (i : Int) < (d.size : Int) := by omega
      have ra : IntKind.i64.wrap ((a : Int) + (i : Int)) = (a : Int) + (i : Int) := by rw [IntKind.wrap_i64]; omega
      have eb : ((b : Int) + (i : Int)).toNat = b + i := by omega
      have pb : (0 : Int) ≤ (b : Int) + (i : Int) := by omega
      have bb : (b : Int) + (i : Int) < (d.size : Int) := by omega
      have rb : IntKind.i64.wrap ((b : Int) + (i : Int)) = (b : Int) + (i : Int) := by rw [IntKind.wrap_i64]; omega
      obtain ⟨p0, p1, p2, p3, q0, q1, q2, q3, a0, a1, b0, b1, fa0, fa1, fb0, fb1, g0, g1, S2⟩ := swap4 S1.out R (show (swapRng d a b i).size = d0.size by omega) (a + i) (b + i) (by omega) (by omega) (by omega)
      clear S1
      go_wp2_with fail
      go_big_region
      clear a0 a1 b0 b1 fa0 fa1 fb0 fb1 g0 g1
      generalize ((((wr.setCell _ _).setCell _ _).setCell _ _).setCell _ _).drew = w2 at S2 ⊢
      go_wp2
      go_roundg kx
      case measure => omega
      case rel => exact ⟨i + 1, by go_num, by omega, S2⟩
end Go.Proofs.Ytcpmmkennnjalaa.Q
end
section
namespace Go.Proofs.Ytcpmmkennnjalaa.Q
open Go.Shelf Go.RowKit Go.Lib Go.Sort
set_option linter.unusedVariables false
set_option linter.unusedSimpArgs false
/-! ### slices.rotateCmpFunc -/
def rotL {α : Type} [Inhabited α] : Nat → Array α → Nat → Nat → Nat → Array α
  | 0, d, _, _, _ => d
  | k + 1, d, m, i, j => if i = j then swapRng d (m - i) m i else if j < i then rotL k (swapRng d (m - i) m j) m (i - j) j else rotL k (swapRng d (m - i) (m + j - i) i) m i (j - i)
theorem size_rotL {α : Type} [Inhabited α] : ∀ (k : Nat) (d : Array α) (m i j : Nat), (rotL k d m i j).size = d.size
  | 0, _, _, _, _ => rfl
  | k + 1, d, m, i, j => by
    unfold rotL
    split
    · rw [size_swapRng]
    · split
      · rw [size_rotL k, size_swapRng]
      · rw [size_rotL k, size_swapRng]
variable {α : Type} [Inhabited α]
set_option maxHeartbeats 4000000 in
set_option maxRecDepth 1000000 in
theorem rotate_calls (e : α → Int × Option Addr × Nat × Nat) (cb : Value) (blk off cap a m b : Nat) (d0 d : Array α) (w0 w : World)
    (R : RowK (encZ e) 2 w0 blk off d0) (hs : d0.size = d.size) (S : SWK (encZ e) 2 w0 blk off d w) (ham : a < m) (hmb : m < b) (hb : b ≤ d.size) (hsz : d.size < 4611686018427387904) :
    Calls Try.prog 113 #[.slice (some ⟨blk, off, none⟩) d.size cap, .int .i64 a, .int .i64 m, .int .i64 b, cb] w fun x w' => x = .returned (.tuple #[]) ∧ SWK (encZ e) 2 w0 blk off (rotL (b - a) d m (m - a) (b - m)) w' := by
  have S0 : Aside (SWK (encZ e) 2 w0 blk off d w) := S
  clear S
  go_enter Try.func113, Try.ntmps113
  go_wp2
  go_loopg [10, 11] (b - a) (fun kx s10 s11 wr => ∃ (i j : Nat) (dk : Array α), s10 = .int .i64 i ∧ s11 = .int .i64 j ∧ 0 < i ∧ 0 < j ∧ i + j ≤ kx ∧ i ≤ m ∧ m + j ≤ b ∧ dk.size = d.size ∧ Aside (SWK (encZ e) 2 w0 blk off dk wr) ∧ Hid (rotL kx dk m i j = rotL (b - a) d m (m - a) (b - m)))
  case atStart => exact ⟨m - a, b - m, d, by rw [show ((m - a : Nat) : Int) = (m : Int) - (a : Int) by omega], by rw [show ((b - m : Nat) : Int) = (b : Int) - (m : Int) by omega], by omega, by omega, by omega, by omega, by omega, rfl, S0, rfl⟩
  case round =>
    clear S0
    obtain ⟨i, j, dk, rfl, rfl, hi0, hj0, hk, him, hmj, hds, S1, HE⟩ := hrel
    cases gk with
    | zero => omega
    | succ kx =>
      have he : rotL (kx + 1) dk m i j = rotL (b - a) d m (m - a) (b - m) := HE.out
      have em : ((m - i : Nat) : Int) = (m : Int) - (i : Int) := by omega
      have rm : IntKind.i64.wrap ((m : Int) - (i : Int)) = (m : Int) - (i : Int) := by rw [IntKind.wrap_i64]; omega
      by_cases hij : i = j
      · subst hij
        rw [rotL, if_pos rfl] at he
        have HE2 : Hid _ := he
        have H := swapRange_calls e cb blk off cap (m - i) m i d0 dk w0 wr R (by omega) S1.out (by omega) (by omega) (by omega) (by omega)
        rw [em, hds] at H
        have HH : Aside _ := H
        clear H S1 HE he
        go_wp2_with (go_at_call 115; refine Calls.mono HH.out ?_; rintro x w2 ⟨rfl, S2⟩)
        go_end0
        rw [← HE2.out]
        exact ⟨rfl, S2⟩
      · have hne : ¬ (i : Int) = (j : Int) := by omega
        rw [rotL, if_neg hij] at he
        by_cases hgt : j < i
        · rw [if_pos hgt] at he
          have HE2 : Hid _ := he
          have hgz : (j : Int) < (i : Int) := by omega
          have eij : ((i - j : Nat) : Int) = (i : Int) - (j : Int) := by omega
          have rij : IntKind.i64.wrap ((i : Int) - (j : Int)) = (i : Int) - (j : Int) := by rw [IntKind.wrap_i64]; omega
          have H := swapRange_calls e cb blk off cap (m - i) m j d0 dk w0 wr R (by omega) S1.out (by omega) (by omega) (by omega) (by omega)
          rw [em, hds] at H
          have HH : Aside _ := H
          clear H S1 HE he
          go_wp2_with (go_at_call 115; refine Calls.mono HH.out ?_; rintro x w2 ⟨rfl, S2⟩)
          have S3 : Aside _ := S2
          clear S2
          go_roundg kx
          case measure => omega
          case rel => exact ⟨i - j, j, _, by rw [eij], rfl, by omega, by omega, by omega, by omega, by omega, by rw [size_swapRng]; exact hds, S3, HE2⟩
        · rw [if_neg hgt] at he
          have HE2 : Hid _ := he
          have hgz : ¬ (j : Int) < (i : Int) := by omega
          have eji : ((j - i : Nat) : Int) = (j : Int) - (i : Int) := by omega
          have emj : ((m + j - i : Nat) : Int) = (m : Int) + (j : Int) - (i : Int) := by omega
          have rji : IntKind.i64.wrap ((j : Int) - (i : Int)) = (j : Int) - (i : Int) := by rw [IntKind.wrap_i64]; omega
          have rmj : IntKind.i64.wrap ((m : Int) + (j : Int)) = (m : Int) + (j : Int) := by rw [IntKind.wrap_i64]; omega
          have rmji : IntKind.i64.wrap ((m : Int) + (j : Int) - (i : Int)) = (m : Int) + (j : Int) - (i : Int) := by rw [IntKind.wrap_i64]; omega
          have H := swapRange_calls e cb blk off cap (m - i) (m + j - i) i d0 dk w0 wr R (by omega) S1.out (by omega) (by omega) (by omega) (by omega)
          rw [em, emj, hds] at H
          have HH : Aside _ := H
          clear H S1 HE he
          go_wp2_with (go_at_call 115; refine Calls.mono HH.out ?_; rintro x w2 ⟨rfl, S2⟩)
          have S3 : Aside _ := S2
          clear S2
          go_roundg kx
          case measure => omega
          case rel => exact ⟨i, j - i, _, rfl, by rw [eji], by omega, by omega, by omega, by omega, by omega, by rw [size_swapRng]; exact hds, S3, HE2⟩
end Go.Proofs.Ytcpmmkennnjalaa.Q
end
section
namespace Go.Proofs.Ytcpmmkennnjalaa.Q
open Go.Shelf Go.RowKit Go.Lib Go.Sort
set_option linter.unusedVariables false
set_option linter.unusedSimpArgs false
/-! ### slices.symMergeCmpFunc -/
/-- a binary search: the first place at which p fails -/
def bsN (p : Nat → Bool) : Nat → Nat → Nat → Nat
  | 0, i, _ => i
  | k + 1, i, j => if i < j then if p ((i + j) / 2) = true then bsN p k ((i + j) / 2 + 1) j else bsN p k i ((i + j) / 2) else i
theorem bsN_in (p : Nat → Bool) : ∀ (k i j : Nat), i ≤ j → i ≤ bsN p k i j ∧ bsN p k i j ≤ j
  | 0, i, j, h => ⟨Nat.le_refl _, h⟩
  | k + 1, i, j, h => by
    unfold bsN
    split
    · split
      · have := bsN_in p k ((i + j) / 2 + 1) j (by omega); omega
      · have := bsN_in p k i ((i + j) / 2) (by omega); omega
    · omega
section
variable {α : Type} [Inhabited α]
/-- an element goes c places on -/
def mvR (d : Array α) (a : Nat) : Nat → Array α
  | 0 => d
  | c + 1 => swp (mvR d a c) (a + c) (a + c + 1)
theorem size_mvR (d : Array α) (a : Nat) : ∀ c, (mvR d a c).size = d.size
  | 0 => rfl
  | c + 1 => by rw [mvR, size_swp, size_mvR d a c]
/-- an element goes c places back -/
def mvL (d : Array α) (m : Nat) : Nat → Array α
  | 0 => d
  | c + 1 => swp (mvL d m c) (m - c) (m - c - 1)
theorem size_mvL (d : Array α) (m : Nat) : ∀ c, (mvL d m c).size = d.size
  | 0 => rfl
  | c + 1 => by rw [mvL, size_swp, size_mvL d m c]
def symS (lt : α → α → Bool) (d : Array α) (a m b : Nat) : Nat :=
  bsN (fun c => !lt d[(a + b) / 2 + m - 1 - c]! d[c]!) (b - a) (if (a + b) / 2 < m then (a + b) / 2 + m - b else a) (if (a + b) / 2 < m then (a + b) / 2 else m)
def symM (lt : α → α → Bool) : Nat → Array α → Nat → Nat → Nat → Array α
  | 0, d, _, _, _ => d
  | K + 1, d, a, m, b =>
    if m - a = 1 then mvR d a (bsN (fun h => lt d[h]! d[a]!) (b - m) m b - 1 - a)
    else if b - m = 1 then mvL d m (m - bsN (fun h => !lt d[m]! d[h]!) (m - a) a m)
    else
      (fun s => (fun t => (fun d1 => (fun d2 => if (a + b) / 2 < t ∧ t < b then symM lt K d2 ((a + b) / 2) t b else d2) (if a < s ∧ s < (a + b) / 2 then symM lt K d1 a s ((a + b) / 2) else d1)) (if s < m ∧ m < t then rotL (t - s) d m (m - s) (t - m) else d)) ((a + b) / 2 + m - s)) (symS lt d a m b)
theorem size_symM (lt : α → α → Bool) : ∀ (K : Nat) (d : Array α) (a m b : Nat), (symM lt K d a m b).size = d.size
  | 0, _, _, _, _ => rfl
  | K + 1, d, a, m, b => by
    have e1 : ∀ (c : Prop) [Decidable c] (x y : Array α), (if c then x else y).size = if c then x.size else y.size := fun c _ x y => by split <;> rfl
    rw [symM]
    simp only [e1, size_symM lt K, size_rotL, size_mvR, size_mvL, ite_self]
/-- what a comparison of two elements wants to know -/
theorem cmp2 {e : α → Int × Option Addr × Nat × Nat} {cf : α → α → Int} {blk off : Nat} {d0 dk : Array α} {w0 wr : World} (S : SWK (encZ e) 2 w0 blk off dk wr) (R : RowK (encZ e) 2 w0 blk off d0) (hC : CmpLays Try.prog 76 #[] (encZ e) 2 cf blk off d0.size w0) (hs : dk.size = d0.size) (i j : Nat) (hi : i < dk.size) (hj : j < dk.size) :
    ∃ (p0 : Int) (p1 : Option Addr) (p2 p3 : Nat) (q0 : Int) (q1 : Option Addr) (q2 q3 : Nat),
      (∀ n os, (grow (wr.drewN n) os).cell? ⟨blk, off + i * 2, none⟩ = some (.int .u16 p0)) ∧ (∀ n os, (grow (wr.drewN n) os).cell? ⟨blk, off + i * 2 + 1, none⟩ = some (.slice p1 p2 p3)) ∧
      (∀ n os, (grow (wr.drewN n) os).cell? ⟨blk, off + j * 2, none⟩ = some (.int .u16 q0)) ∧ (∀ n os, (grow (wr.drewN n) os).cell? ⟨blk, off + j * 2 + 1, none⟩ = some (.slice q1 q2 q3)) ∧
      (∀ n os, Calls Try.prog 76 #[.agg #[.int .u16 p0, .slice p1 p2 p3], .agg #[.int .u16 q0, .slice q1 q2 q3]] (grow (wr.drewN n) os) fun x w' => x = .returned (.int .i64 (cf dk[i]! dk[j]!)) ∧ ∃ q os', w' = grow ((grow (wr.drewN n) os).drewN q) os') ∧
      Aside (∀ n os, SWK (encZ e) 2 w0 blk off dk (grow (wr.drewN n) os)) := by
  have hg : ∀ n os, SWK (encZ e) 2 w0 blk off dk (grow (wr.drewN n) os) := fun n os => S.grown n os
  have cA := fun n os => HoldsK.cells ((hg n os).holds R.hblk R.hH hs) R.hk hi
  have cB := fun n os => HoldsK.cells ((hg n os).holds R.hblk R.hH hs) R.hk hj
  have hc := fun n os => S.cmp hC hs dk[i]! dk[j]! n os
  have hg' : Aside (∀ n os, SWK (encZ e) 2 w0 blk off dk (grow (wr.drewN n) os)) := hg
  exact ⟨(e dk[i]!).1, (e dk[i]!).2.1, (e dk[i]!).2.2.1, (e dk[i]!).2.2.2, (e dk[j]!).1, (e dk[j]!).2.1, (e dk[j]!).2.2.1, (e dk[j]!).2.2.2,
    fun n os => cA n os 0 _ rfl, fun n os => cA n os 1 _ rfl, fun n os => cB n os 0 _ rfl, fun n os => cB n os 1 _ rfl, hc, hg'⟩
end
variable {α : Type} [Inhabited α]
set_option maxHeartbeats 8000000 in
set_option maxRecDepth 1000000 in
theorem symMerge_base (e : α → Int × Option Addr × Nat × Nat) (cf : α → α → Int) (blk off cap : Nat) (d0 : Array α) (w0 : World)
    (R : RowK (encZ e) 2 w0 blk off d0) (hC : CmpLays Try.prog 76 #[] (encZ e) 2 cf blk off d0.size w0) (hsz : d0.size < 4611686018427387904) (K a m b : Nat) (d : Array α) (w : World) (hs : d0.size = d.size) (S : SWK (encZ e) 2 w0 blk off d w) (ham : a < m) (hmb : m < b) (hb : b ≤ d.size) (hone : m - a = 1 ∨ b - m = 1) :
    Calls Try.prog 107 #[.slice (some ⟨blk, off, none⟩) d.size cap, .int .i64 a, .int .i64 m, .int .i64 b, .func (.func 76) #[] #[]] w fun x w' => x = .returned (.tuple #[]) ∧ SWK (encZ e) 2 w0 blk off (symM (ltOf cf) (K + 1) d a m b) w' := by
    have S0 : Aside (SWK (encZ e) 2 w0 blk off d w) := S
    have HC : Aside _ := hC
    have mixed : Try.prog.follows .mixedOrders = true := by kernel_rfl
    clear S hC
    go_enter Try.func107, Try.ntmps107
    by_cases h1 : m - a = 1
    · have e1 : (m : Int) - (a : Int) = 1 := by omega
      have hM : symM (ltOf cf) (K + 1) d a m b = mvR d a (bsN (fun h => ltOf cf d[h]! d[a]!) (b - m) m b - 1 - a) := by rw [symM, if_pos h1]
      rw [hM]
      clear hM
      generalize hF : bsN (fun h => ltOf cf d[h]! d[a]!) (b - m) m b = fin
      have hfin := bsN_in (fun h => ltOf cf d[h]! d[a]!) (b - m) m b (by omega)
      rw [hF] at hfin
      have HF : Hid _ := hF
      clear hF
      go_wp2
      go_loopg [10, 11] (b - m) (fun kx s10 s11 wr => ∃ (i j : Nat), s10 = .int .i64 i ∧ s11 = .int .i64 j ∧ m ≤ i ∧ i ≤ j ∧ j ≤ b ∧ j - i ≤ kx ∧ Aside (SWK (encZ e) 2 w0 blk off d wr) ∧ Hid (bsN (fun h => ltOf cf d[h]! d[a]!) kx i j = fin))
      case atStart => exact ⟨m, b, rfl, rfl, Nat.le_refl _, by omega, Nat.le_refl _, Nat.le_refl _, S0, HF⟩
      case round =>
        clear S0 HF
        obtain ⟨i, j, rfl, rfl, hi, hij, hj, hk, S1, HE⟩ := hrel
        by_cases hlt : i < j
        · have hltz : (i : Int) < (j : Int) := by omega
          cases gk with
          | zero => omega
          | succ kx =>
            have he := HE.out
            rw [bsN, if_pos hlt] at he
            obtain ⟨h, hh⟩ : ∃ h, (i + j) / 2 = h := ⟨_, rfl⟩
            rw [hh] at he
            have hih : i ≤ h := by omega
            have hhj : h < j := by omega
            go_wp2_with fail
            have hhz : ((i : Int) + (j : Int)) / 2 = (h : Int) := by omega
            rw [hhz]
            obtain ⟨p0, p1, p2, p3, q0, q1, q2, q3, la0, la1, lb0, lb1, hcc, SG⟩ := cmp2 S1.out R HC.out (by omega) h a (by omega) (by omega)
            have bh : (h : Int) < (d.size : Int) := by omega
            have ba : (a : Int) < (d.size : Int) := by omega
            have rh : IntKind.i64.wrap ((h : Int) + 1) = (h : Int) + 1 := by rw [IntKind.wrap_i64]; omega
            by_cases hlv : cf d[h]! d[a]! < 0
            · have hp : ltOf cf d[h]! d[a]! = true := decide_eq_true hlv
              rw [if_pos hp] at he
              have HE2 : Hid _ := he
              generalize cf d[h]! d[a]! = cv at hcc hlv
              clear S1 HE he hp
              go_quiet_grown (first | (go_at_call 76; refine Calls.grown_of (hcc _ _)) | refine Calls.grown_of (hcc _ _))
              have S2 : Aside _ := SG.out nq osq
              clear SG hcc la0 la1 lb0 lb1
              generalize grow (wr.drewN nq) osq = w2 at S2 ⊢
              go_wp2_with fail
              go_roundg kx
              case measure => omega
              case rel => exact ⟨h + 1, j, by go_num, rfl, by omega, by omega, hj, by omega, S2, HE2⟩
            · have hp : ¬ ltOf cf d[h]! d[a]! = true := fun hq => hlv (of_decide_eq_true hq)
              rw [if_neg hp] at he
              have HE2 : Hid _ := he
              generalize cf d[h]! d[a]! = cv at hcc hlv
              clear S1 HE he hp
              go_quiet_grown (first | (go_at_call 76; refine Calls.grown_of (hcc _ _)) | refine Calls.grown_of (hcc _ _))
              have S2 : Aside _ := SG.out nq osq
              clear SG hcc la0 la1 lb0 lb1
              generalize grow (wr.drewN nq) osq = w2 at S2 ⊢
              go_wp2_with fail
              go_roundg kx
              case measure => omega
              case rel => exact ⟨i, h, rfl, rfl, by omega, by omega, by omega, by omega, S2, HE2⟩
        · have hltz : ¬ (i : Int) < (j : Int) := by omega
          have hi2 : i = fin := by
            have he := HE.out
            cases gk with
            | zero => exact he
            | succ kx => rw [bsN, if_neg hlt] at he; exact he
          clear HE
          subst hi2
          go_wp2_with fail
          have r1 : IntKind.i64.wrap ((i : Int) - 1) = (i : Int) - 1 := by rw [IntKind.wrap_i64]; omega
          go_loopg [13] (i - 1 - a) (fun kx s13 wr2 => ∃ (c : Nat), s13 = .int .i64 ((a : Int) + (c : Int)) ∧ c + kx = i - 1 - a ∧ Aside (SWK (encZ e) 2 w0 blk off (mvR d a c) wr2))
          case atStart => exact ⟨0, by go_num, by omega, S1⟩
          case round =>
            clear S1
            obtain ⟨c, rfl, hk2, S1⟩ := hrel
            cases gk with
            | zero =>
              have hnl : ¬ (a : Int) + (c : Int) < (i : Int) - 1 := by omega
              have hc : c = i - 1 - a := by omega
              go_wp2
              (try simp only [Exit.inBlock, Exit.then]); refine bodyPost_ret (results_none rfl _ _ _) rfl ?_
              exact ⟨rfl, hc ▸ S1.out⟩
            | succ kx =>
              have hl : (a : Int) + (c : Int) < (i : Int) - 1 := by omega
              have hsz2 := size_mvR d a c
              obtain ⟨p0, p1, p2, p3, q0, q1, q2, q3, a0, a1, b0, b1, fa0, fa1, fb0, fb1, g0, g1, S2⟩ := swap4 S1.out R (by omega) (a + c) (a + c + 1) (by omega) (by omega) (by omega)
              have ea : ((a : Int) + (c : Int)).toNat = a + c := by omega
              have pa : (0 : Int) ≤ (a : Int) + (c : Int) := by omega
              have bb : (a : Int) + (c : Int) < (d.size : Int) := by omega
              have ra : IntKind.i64.wrap ((a : Int) + (c : Int)) = (a : Int) + (c : Int) := by rw [IntKind.wrap_i64]; omega
              have eb : ((a : Int) + (c : Int) + 1).toNat = a + c + 1 := by omega
              have pb : (0 : Int) ≤ (a : Int) + (c : Int) + 1 := by omega
              have bb2 : (a : Int) + (c : Int) + 1 < (d.size : Int) := by omega
              have rb : IntKind.i64.wrap ((a : Int) + (c : Int) + 1) = (a : Int) + (c : Int) + 1 := by rw [IntKind.wrap_i64]; omega
              clear S1
              go_wp2_with fail
              go_big_region
              clear a0 a1 b0 b1 fa0 fa1 fb0 fb1 g0 g1
              generalize ((((wr.setCell _ _).setCell _ _).setCell _ _).setCell _ _).drew = w2 at S2 ⊢
              go_wp2
              go_roundg kx
              case measure => omega
              case rel => exact ⟨c + 1, by go_num, by omega, S2⟩
    · have e1 : ¬ (m : Int) - (a : Int) = 1 := by omega
      have e1b : ((m : Int) - (a : Int) == 1) = false := beq_false_of_ne e1
      by_cases h2 : b - m = 1
      · have e2 : (b : Int) - (m : Int) = 1 := by omega
        have hM : symM (ltOf cf) (K + 1) d a m b = mvL d m (m - bsN (fun h => !ltOf cf d[m]! d[h]!) (m - a) a m) := by rw [symM, if_neg h1, if_pos h2]
        rw [hM]
        clear hM
        generalize hF : bsN (fun h => !ltOf cf d[m]! d[h]!) (m - a) a m = fin
        have hfin := bsN_in (fun h => !ltOf cf d[m]! d[h]!) (m - a) a m (by omega)
        rw [hF] at hfin
        have HF : Hid _ := hF
        clear hF
        go_wp2
        go_loopg [14, 15] (m - a) (fun kx s14 s15 wr => ∃ (i j : Nat), s14 = .int .i64 i ∧ s15 = .int .i64 j ∧ a ≤ i ∧ i ≤ j ∧ j ≤ m ∧ j - i ≤ kx ∧ Aside (SWK (encZ e) 2 w0 blk off d wr) ∧ Hid (bsN (fun h => !ltOf cf d[m]! d[h]!) kx i j = fin))
        case atStart => exact ⟨a, m, rfl, rfl, Nat.le_refl _, by omega, Nat.le_refl _, Nat.le_refl _, S0, HF⟩
        case round =>
          clear S0 HF
          obtain ⟨i, j, rfl, rfl, hi, hij, hj, hk, S1, HE⟩ := hrel
          by_cases hlt : i < j
          · have hltz : (i : Int) < (j : Int) := by omega
            cases gk with
            | zero => omega
            | succ kx =>
              have he := HE.out
              rw [bsN, if_pos hlt] at he
              obtain ⟨h, hh⟩ : ∃ h, (i + j) / 2 = h := ⟨_, rfl⟩
              rw [hh] at he
              have hih : i ≤ h := by omega
              have hhj : h < j := by omega
              go_wp2_with fail
              have hhz : ((i : Int) + (j : Int)) / 2 = (h : Int) := by omega
              rw [hhz]
              obtain ⟨p0, p1, p2, p3, q0, q1, q2, q3, la0, la1, lb0, lb1, hcc, SG⟩ := cmp2 S1.out R HC.out (by omega) m h (by omega) (by omega)
              have bh : (h : Int) < (d.size : Int) := by omega
              have ba : (m : Int) < (d.size : Int) := by omega
              have rh : IntKind.i64.wrap ((h : Int) + 1) = (h : Int) + 1 := by rw [IntKind.wrap_i64]; omega
              by_cases hlv : cf d[m]! d[h]! < 0
              · have hp : ¬ (!ltOf cf d[m]! d[h]!) = true := by rw [show ltOf cf d[m]! d[h]! = true from decide_eq_true hlv]; exact Bool.false_ne_true
                rw [if_neg hp] at he
                have HE2 : Hid _ := he
                generalize cf d[m]! d[h]! = cv at hcc hlv
                clear S1 HE he hp
                go_quiet_grown (first | (go_at_call 76; refine Calls.grown_of (hcc _ _)) | refine Calls.grown_of (hcc _ _))
                have S2 : Aside _ := SG.out nq osq
                clear SG hcc la0 la1 lb0 lb1
                generalize grow (wr.drewN nq) osq = w2 at S2 ⊢
                go_wp2_with fail
                go_roundg kx
                case measure => omega
                case rel => exact ⟨i, h, rfl, rfl, by omega, by omega, by omega, by omega, S2, HE2⟩
              · have hp : (!ltOf cf d[m]! d[h]!) = true := by rw [show ltOf cf d[m]! d[h]! = false from decide_eq_false hlv]; rfl
                rw [if_pos hp] at he
                have HE2 : Hid _ := he
                generalize cf d[m]! d[h]! = cv at hcc hlv
                clear S1 HE he hp
                go_quiet_grown (first | (go_at_call 76; refine Calls.grown_of (hcc _ _)) | refine Calls.grown_of (hcc _ _))
                have S2 : Aside _ := SG.out nq osq
                clear SG hcc la0 la1 lb0 lb1
                generalize grow (wr.drewN nq) osq = w2 at S2 ⊢
                go_wp2_with fail
                go_roundg kx
                case measure => omega
                case rel => exact ⟨h + 1, j, by go_num, rfl, by omega, by omega, hj, by omega, S2, HE2⟩
          · have hltz : ¬ (i : Int) < (j : Int) := by omega
            have hi2 : i = fin := by
              have he := HE.out
              cases gk with
              | zero => exact he
              | succ kx => rw [bsN, if_neg hlt] at he; exact he
            clear HE
            subst hi2
            go_wp2_with fail
            go_loopg [17] (m - i) (fun kx s17 wr2 => ∃ (c : Nat), s17 = .int .i64 ((m : Int) - (c : Int)) ∧ c + kx = m - i ∧ Aside (SWK (encZ e) 2 w0 blk off (mvL d m c) wr2))
            case atStart => exact ⟨0, by go_num, by omega, S1⟩
            case round =>
              clear S1
              obtain ⟨c, rfl, hk2, S1⟩ := hrel
              cases gk with
              | zero =>
                have hnl : ¬ (i : Int) < (m : Int) - (c : Int) := by omega
                have hc : c = m - i := by omega
                go_wp2
                (try simp only [Exit.inBlock, Exit.then]); refine bodyPost_ret (results_none rfl _ _ _) rfl ?_
                exact ⟨rfl, hc ▸ S1.out⟩
              | succ kx =>
                have hl : (i : Int) < (m : Int) - (c : Int) := by omega
                have hsz2 := size_mvL d m c
                obtain ⟨p0, p1, p2, p3, q0, q1, q2, q3, a0, a1, b0, b1, fa0, fa1, fb0, fb1, g0, g1, S2⟩ := swap4 S1.out R (by omega) (m - c) (m - c - 1) (by omega) (by omega) (by omega)
                have ea : ((m : Int) - (c : Int)).toNat = m - c := by omega
                have pa : (0 : Int) ≤ (m : Int) - (c : Int) := by omega
                have bb : (m : Int) - (c : Int) < (d.size : Int) := by omega
                have ra : IntKind.i64.wrap ((m : Int) - (c : Int)) = (m : Int) - (c : Int) := by rw [IntKind.wrap_i64]; omega
                have eb : ((m : Int) - (c : Int) - 1).toNat = m - c - 1 := by omega
                have pb : (0 : Int) ≤ (m : Int) - (c : Int) - 1 := by omega
                have bb2 : (m : Int) - (c : Int) - 1 < (d.size : Int) := by omega
                have rb : IntKind.i64.wrap ((m : Int) - (c : Int) - 1) = (m : Int) - (c : Int) - 1 := by rw [IntKind.wrap_i64]; omega
                clear S1
                go_wp2_with fail
                go_big_region
                clear a0 a1 b0 b1 fa0 fa1 fb0 fb1 g0 g1
                generalize ((((wr.setCell _ _).setCell _ _).setCell _ _).setCell _ _).drew = w2 at S2 ⊢
                go_wp2
                go_roundg kx
                case measure => omega
                case rel => exact ⟨c + 1, by rw [show (m : Int) - ((c + 1 : Nat) : Int) = (m : Int) - (c : Int) - 1 by omega], by omega, S2⟩
      · omega
end Go.Proofs.Ytcpmmkennnjalaa.Q
end
section
namespace Go.Proofs.Ytcpmmkennnjalaa.Q
open Go.Shelf Go.RowKit Go.Lib Go.Sort
set_option linter.unusedVariables false
set_option linter.unusedSimpArgs false
/-! ### slices.insertionSortCmpFunc -/
variable {α : Type} [Inhabited α]
set_option maxHeartbeats 8000000 in
set_option maxRecDepth 1000000 in
theorem insertion_calls (e : α → Int × Option Addr × Nat × Nat) (cf : α → α → Int) (blk off cap a b : Nat) (d0 d : Array α) (w0 w : World)
    (R : RowK (encZ e) 2 w0 blk off d0) (hC : CmpLays Try.prog 76 #[] (encZ e) 2 cf blk off d0.size w0) (hs : d0.size = d.size) (S : SWK (encZ e) 2 w0 blk off d w) (hab : a ≤ b) (hb : b ≤ d.size) (hsz : d.size < 4611686018427387904) :
    Calls Try.prog 106 #[.slice (some ⟨blk, off, none⟩) d.size cap, .int .i64 a, .int .i64 b, .func (.func 76) #[] #[]] w fun x w' => x = .returned (.tuple #[]) ∧ SWK (encZ e) 2 w0 blk off (Sort.insertionSort (ltOf cf) d a b) w' := by
  have S0 : Aside (SWK (encZ e) 2 w0 blk off d w) := S
  have HC : Aside _ := hC
  have mixed : Try.prog.follows .mixedOrders = true := by kernel_rfl
  clear S hC
  go_enter Try.func106, Try.ntmps106
  go_wp2
  go_loopg [8] (b - a) (fun kx s8 wr => ∃ (i : Nat) (dk : Array α), s8 = .int .i64 i ∧ a < i ∧ i ≤ b + 1 ∧ b + 1 - i ≤ kx + 1 ∧ dk.size = d.size ∧ Aside (SWK (encZ e) 2 w0 blk off dk wr) ∧ Hid (insOuter (ltOf cf) a b i dk = insOuter (ltOf cf) a b (a + 1) d))
  case atStart => exact ⟨a + 1, d, by go_num, by omega, by omega, by omega, rfl, S0, rfl⟩
  case round =>
    clear S0
    obtain ⟨i, dk, rfl, hai, hib, hg1, hsk, S1, HO⟩ := hrel
    by_cases hlt : i < b
    · have hltz : (i : Int) < (b : Int) := by omega
      go_wp2
      go_loopg [9] i (fun g2 s9 wr2 => ∃ (j : Nat) (dj : Array α), s9 = .int .i64 j ∧ a ≤ j ∧ j ≤ i ∧ j ≤ g2 ∧ dj.size = d.size ∧ Aside (SWK (encZ e) 2 w0 blk off dj wr2) ∧ Hid (insInner (ltOf cf) a j dj = insInner (ltOf cf) a i dk))
      case atStart => exact ⟨i, dk, rfl, by omega, Nat.le_refl _, Nat.le_refl _, hsk, S1, rfl⟩
      case round =>
        clear S1
        obtain ⟨j, dj, rfl, haj, hji, hg2, hsj, S1, HI⟩ := hrel
        have OUT : Aside ((j ≤ a ∨ ltOf cf dj[j]! dj[j - 1]! = false) → Hid (insOuter (ltOf cf) a b (i + 1) dj = insOuter (ltOf cf) a b (a + 1) d)) := fun hs => by
          show _ = _
          rw [← HO.out, insOuter_go _ _ _ _ _ hlt, ← HI.out, insInner_stop _ _ _ _ hs]
        by_cases hja : a < j
        · have hjaz : (a : Int) < (j : Int) := by omega
          obtain ⟨jp, rfl⟩ : ∃ jp, j = jp + 1 := ⟨j - 1, by omega⟩
          obtain ⟨p0, p1, p2, p3, q0, q1, q2, q3, la0, la1, lb0, lb1, hcc, SG⟩ := cmp2 S1.out R HC.out (by omega) (jp + 1) jp (by omega) (by omega)
          have e1 : ((jp + 1 : Nat) : Int) - 1 = (jp : Int) := by omega
          have e2 : (jp : Int) + 1 - 1 = (jp : Int) := by omega
          have et : ((jp : Int) + 1).toNat = jp + 1 := by omega
          have p0' : (0 : Int) ≤ (jp : Int) + 1 := by omega
          have jz : (jp : Int) + 1 < (d.size : Int) := by omega
          have jz1 : (jp : Int) < (d.size : Int) := by omega
          have hjaz' : (a : Int) < (jp : Int) + 1 := by omega
          have hwp : IntKind.i64.wrap (jp : Int) = (jp : Int) := by rw [IntKind.wrap_i64]; omega
          by_cases hlv : cf dj[jp + 1]! dj[jp]! < 0
          · have HL : Aside (ltOf cf dj[jp + 1]! dj[jp]! = true) := (show _ = _ from decide_eq_true hlv)
            generalize cf dj[jp + 1]! dj[jp]! = cv at hcc hlv
            clear S1
            go_wp2_with fail
            go_quiet_grown (first | (go_at_call 76; refine Calls.grown_of (hcc _ _)) | refine Calls.grown_of (hcc _ _))
            have S1 : Aside _ := SG.out nq osq
            clear SG hcc la0 la1 lb0 lb1
            generalize grow (wr.drewN nq) osq = w2 at S1 ⊢
            obtain ⟨p0, p1, p2, p3, q0, q1, q2, q3, a0, a1, b0, b1, fa0, fa1, fb0, fb1, g0, g1, S2⟩ := swap4 S1.out R (by omega) (jp + 1) jp (by omega) (by omega) (by omega)
            clear S1
            go_wp2_with fail
            go_big_region
            clear a0 a1 b0 b1 fa0 fa1 fb0 fb1 g0 g1
            generalize ((((w2.setCell _ _).setCell _ _).setCell _ _).setCell _ _).drew = w3 at S2 ⊢
            go_wp2
            go_roundg jp
            case measure => omega
            case rel =>
              refine ⟨jp, swp dj (jp + 1) jp, by first | rfl | go_num, by omega, by omega, Nat.le_refl _, by rw [size_swp]; exact hsj, S2, (show Hid _ from ?_)⟩
              show _ = _
              have := insInner_go (ltOf cf) a (jp + 1) dj hja (by simp only [Nat.add_sub_cancel]; exact HL.out)
              simp only [Nat.add_sub_cancel] at this
              rw [← HI.out, this]
          · have HL : Aside (ltOf cf dj[jp + 1]! dj[jp]! = false) := (show _ = _ from decide_eq_false hlv)
            generalize cf dj[jp + 1]! dj[jp]! = cv at hcc hlv
            clear S1
            go_wp2_with fail
            go_quiet_grown (first | (go_at_call 76; refine Calls.grown_of (hcc _ _)) | refine Calls.grown_of (hcc _ _))
            have S1 : Aside _ := SG.out nq osq
            clear SG hcc la0 la1 lb0 lb1
            generalize grow (wr.drewN nq) osq = w2 at S1 ⊢
            go_wp2
            go_roundg (b - (i + 1))
            case measure => omega
            case rel => exact ⟨i + 1, dj, by go_num, by omega, by omega, by omega, hsj, S1, OUT.out (Or.inr (by simp only [Nat.add_sub_cancel]; exact HL.out))⟩
        · have hjaz : decide ((j : Int) > (a : Int)) = false := decide_eq_false (by omega)
          have hjaz' : ¬ (a : Int) < (j : Int) := by omega
          have S2 : Aside (SWK (encZ e) 2 w0 blk off dj wr.drew) := S1.out.drew
          clear S1
          go_wp2_with fail
          go_big_region
          all_goals go_wp2
          go_roundg (b - (i + 1))
          case measure => omega
          case rel => exact ⟨i + 1, dj, by go_num, by omega, by omega, by omega, hsj, S2, OUT.out (Or.inl (by omega))⟩
    · have hltz : ¬ (i : Int) < (b : Int) := by omega
      go_wp2
      go_end0
      exact ⟨rfl, by unfold Sort.insertionSort; rw [← HO.out, insOuter_stop _ _ _ _ _ hlt]; exact S1.out⟩
end Go.Proofs.Ytcpmmkennnjalaa.Q
end
