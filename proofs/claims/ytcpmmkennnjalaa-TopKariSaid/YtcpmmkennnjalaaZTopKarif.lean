/- In any Eulerian automaton that has a reset word, whatever set of states, neither empty nor all, is led into by more states with a word of at most n - 1 letters, and its shortest reset word has at most n^2 - 3n + 3 letters; in any circular one at most (n - 1)^2. (At most 9 states) (text 6 of 42) -/
import Derived.Test.YtcpmmkennnjalaaZTopKarib
import Derived.Deep.CutRange
import Derived.Deep.Cut
section
namespace Go.Proofs.Ytcpmmkennnjalaa.Q
open Go.Shelf Go.RowKit Go.Lib Go.Sort
set_option linter.unusedVariables false
set_option linter.unusedSimpArgs false
variable {α : Type} [Inhabited α]
def rotIf (d : Array α) (s m t : Nat) : Array α := if s < m ∧ m < t then rotL (t - s) d m (m - s) (t - m) else d
def symIf (lt : α → α → Bool) (K : Nat) (d : Array α) (a s b : Nat) : Array α := if a < s ∧ s < b then symM lt K d a s b else d
set_option maxHeartbeats 8000000 in
set_option maxRecDepth 1000000 in
theorem symMerge_calls (e : α → Int × Option Addr × Nat × Nat) (cf : α → α → Int) (blk off cap : Nat) (d0 : Array α) (w0 : World)
    (R : RowK (encZ e) 2 w0 blk off d0) (hC : CmpLays Try.prog 76 #[] (encZ e) 2 cf blk off d0.size w0) (hsz : d0.size < 4611686018427387904) : ∀ (K a m b : Nat) (d : Array α) (w : World), d0.size = d.size → SWK (encZ e) 2 w0 blk off d w → a < m → m < b → b ≤ d.size → b - a ≤ K →
    Calls Try.prog 107 #[.slice (some ⟨blk, off, none⟩) d.size cap, .int .i64 a, .int .i64 m, .int .i64 b, .func (.func 76) #[] #[]] w fun x w' => x = .returned (.tuple #[]) ∧ SWK (encZ e) 2 w0 blk off (symM (ltOf cf) K d a m b) w'
  | 0, a, m, b, d, w, hs, S, ham, hmb, hb, hK => by omega
  | K + 1, a, m, b, d, w, hs, S, ham, hmb, hb, hK => by
    by_cases hone : m - a = 1 ∨ b - m = 1
    · exact symMerge_base e cf blk off cap d0 w0 R hC hsz K a m b d w hs S ham hmb hb hone
    have h1 : ¬ m - a = 1 := fun h => hone (.inl h)
    have h2 : ¬ b - m = 1 := fun h => hone (.inr h)
    have IH := symMerge_calls e cf blk off cap d0 w0 R hC hsz K
    have S0 : Aside (SWK (encZ e) 2 w0 blk off d w) := S
    have HC : Aside _ := hC
    have HI : Aside _ := IH
    have mixed : Try.prog.follows .mixedOrders = true := by kernel_rfl
    clear S hC IH
    go_enter Try.func107, Try.ntmps107
    have e1 : ¬ (m : Int) - (a : Int) = 1 := by omega
    have e1b : ((m : Int) - (a : Int) == 1) = false := beq_false_of_ne e1
    have e2 : ¬ (b : Int) - (m : Int) = 1 := by omega
    have e2b : ((b : Int) - (m : Int) == 1) = false := beq_false_of_ne e2
    obtain ⟨mid, hmid⟩ : ∃ mid, (a + b) / 2 = mid := ⟨_, rfl⟩
    have hmz : ((a : Int) + (b : Int)) / 2 = (mid : Int) := by omega
    obtain ⟨s, hs0⟩ : ∃ s, symS (ltOf cf) d a m b = s := ⟨_, rfl⟩
    have hM : symM (ltOf cf) (K + 1) d a m b = (fun t => (fun d1 => (fun d2 => if mid < t ∧ t < b then symM (ltOf cf) K d2 mid t b else d2) (if a < s ∧ s < mid then symM (ltOf cf) K d1 a s mid else d1)) (if s < m ∧ m < t then rotL (t - s) d m (m - s) (t - m) else d)) (mid + m - s) := by
      rw [symM, if_neg h1, if_neg h2, hs0, hmid]
    obtain ⟨i0, hi0⟩ : ∃ i0, (if mid < m then mid + m - b else a) = i0 := ⟨_, rfl⟩
    obtain ⟨j0, hj0⟩ : ∃ j0, (if mid < m then mid else m) = j0 := ⟨_, rfl⟩
    unfold symS at hs0
    rw [hmid, hi0, hj0] at hs0
    have hij0 : a ≤ i0 ∧ i0 ≤ j0 ∧ j0 ≤ m ∧ j0 ≤ mid ∧ mid + m ≤ b + i0 ∧ mid + m ≤ i0 + b ∧ j0 - i0 ≤ b - a := by
      rw [← hi0, ← hj0]; split <;> omega
    have hfin := bsN_in (fun c => !ltOf cf d[mid + m - 1 - c]! d[c]!) (b - a) i0 j0 hij0.2.1
    rw [hs0] at hfin
    have HS : Hid _ := hs0
    have HM : Aside _ := hM
    have HIJ : Aside _ := hij0
    have HFI : Aside _ := hfin
    have HI0 : Aside _ := hi0
    have HJ0 : Aside _ := hj0
    have rn : IntKind.i64.wrap ((mid : Int) + (m : Int)) = (mid : Int) + (m : Int) := by rw [IntKind.wrap_i64]; omega
    have rp : IntKind.i64.wrap ((mid : Int) + (m : Int) - 1) = (mid : Int) + (m : Int) - 1 := by rw [IntKind.wrap_i64]; omega
    have HMD : Aside (a < mid ∧ mid < b ∧ mid + mid ≤ a + b) := ⟨by omega, by omega, by omega⟩
    have HAB : Aside (a < m ∧ m < b ∧ b ≤ d.size ∧ b - a ≤ K + 1 ∧ d.size < 4611686018427387904 ∧ d0.size = d.size) := ⟨ham, hmb, hb, hK, by omega, hs⟩
    have E1 : Aside _ := h1
    clear hs0 hM hij0 hfin hi0 hj0 hmid hone hK
    go_upto_if 140 with (fail)
    clear h1 h2 e1 e1b e2 e2b
    go_cut [20, 21] from 138 to 146 (fun s20 s21 wc => s20 = .int .i64 i0 ∧ s21 = .int .i64 j0 ∧ Aside (SWK (encZ e) 2 w0 blk off d wc))
    case first => as_aux_lemma =>
      by_cases hmm : mid < m
      · have hmmz : (mid : Int) < (m : Int) := by omega
        have i0z : Aside ((mid : Int) + (m : Int) - (b : Int) = (i0 : Int)) := by
          have := HI0.out; rw [if_pos hmm] at this
          have := HAB.out; have := HMD.out
          exact (show _ = _ by omega)
        have j0z : Aside ((mid : Int) = (j0 : Int)) := by
          have := HJ0.out; rw [if_pos hmm] at this
          exact (show _ = _ by omega)
        clear hmm
        go_wp2_with fail
        go_meet
        case rel => exact ⟨by rw [← i0z.out], by rw [← j0z.out], S0⟩
      · have hmmz : ¬ (mid : Int) < (m : Int) := by omega
        have i0z : Aside ((a : Int) = (i0 : Int)) := by
          have := HI0.out; rw [if_neg hmm] at this
          exact (show _ = _ by omega)
        have j0z : Aside ((m : Int) = (j0 : Int)) := by
          have := HJ0.out; rw [if_neg hmm] at this
          exact (show _ = _ by omega)
        clear hmm
        go_wp2_with fail
        go_meet
        case rel => exact ⟨by rw [← i0z.out], by rw [← j0z.out], S0⟩
    case rest =>
      clear S0 HI0 HJ0
      obtain ⟨rfl, rfl, S0⟩ := hcut
      go_wp2_with fail
      go_loopg [20, 21] (b - a) (fun kx s20 s21 wr => ∃ (i j : Nat), s20 = .int .i64 i ∧ s21 = .int .i64 j ∧ Aside (i0 ≤ i ∧ i ≤ j ∧ j ≤ j0 ∧ j - i ≤ kx) ∧ Aside (SWK (encZ e) 2 w0 blk off d wr) ∧ Hid (bsN (fun c => !ltOf cf d[mid + m - 1 - c]! d[c]!) kx i j = s))
      case atStart =>
        have := HIJ.out
        exact ⟨i0, j0, rfl, rfl, ⟨Nat.le_refl _, by omega, Nat.le_refl _, by omega⟩, S0, HS⟩
      case round =>
        clear S0 HS
        obtain ⟨i, j, rfl, rfl, HR, S1, HE⟩ := hrel
        by_cases hlt : i < j
        · cases gk with
          | zero => have := HR.out; omega
          | succ kx => as_aux_lemma =>
            have he := HE.out
            rw [bsN, if_pos hlt] at he
            obtain ⟨h, hh⟩ : ∃ h, (i + j) / 2 = h := ⟨_, rfl⟩
            rw [hh] at he
            have hhz : ((i : Int) + (j : Int)) / 2 = (h : Int) := by omega
            have HH : Aside (i ≤ h ∧ h < j) := ⟨by omega, by omega⟩
            obtain ⟨q, hq⟩ : ∃ q, mid + m - 1 - h = q := ⟨_, rfl⟩
            rw [hq] at he
            have g1 := HR.out
            have g2 := HH.out
            have g3 := HAB.out
            have g4 := HMD.out
            have g5 := HIJ.out
            have qz : (mid : Int) + (m : Int) - 1 - (h : Int) = (q : Int) := by omega
            have hltz : (i : Int) < (j : Int) := by omega
            have bh : (h : Int) < (d.size : Int) := by omega
            have bc : (q : Int) < (d.size : Int) := by omega
            have rc : IntKind.i64.wrap (q : Int) = (q : Int) := by rw [IntKind.wrap_i64]; omega
            have rh : IntKind.i64.wrap ((h : Int) + 1) = (h : Int) + 1 := by rw [IntKind.wrap_i64]; omega
            go_wp2_with fail
            obtain ⟨p0, p1, p2, p3, q0, q1, q2, q3, la0, la1, lb0, lb1, hcc, SG⟩ := cmp2 S1.out R HC.out (by omega) q h (by omega) (by omega)
            clear g1 g2 g3 g4 g5 hh hq hlt
            by_cases hlv : cf d[q]! d[h]! < 0
            · as_aux_lemma =>
              have hp : ¬ (!ltOf cf d[q]! d[h]!) = true := by rw [show ltOf cf d[q]! d[h]! = true from decide_eq_true hlv]; exact Bool.false_ne_true
              rw [if_neg hp] at he
              have HE2 : Hid _ := he
              generalize cf d[q]! d[h]! = cv at hcc hlv
              clear S1 HE he hp
              go_quiet_grown (first | (go_at_call 76; refine Calls.grown_of (hcc _ _)) | refine Calls.grown_of (hcc _ _))
              have S2 : Aside _ := SG.out nq osq
              clear SG hcc la0 la1 lb0 lb1
              generalize grow (wr.drewN nq) osq = w2 at S2 ⊢
              go_wp2_with fail
              go_roundg kx
              case measure => omega
              case rel =>
                have g1 := HR.out
                have g2 := HH.out
                exact ⟨i, h, rfl, rfl, ⟨by omega, by omega, by omega, by omega⟩, S2, HE2⟩
            · as_aux_lemma =>
              have hp : (!ltOf cf d[q]! d[h]!) = true := by rw [show ltOf cf d[q]! d[h]! = false from decide_eq_false hlv]; rfl
              rw [if_pos hp] at he
              have HE2 : Hid _ := he
              generalize cf d[q]! d[h]! = cv at hcc hlv
              have hlb : decide (cv < 0) = false := decide_eq_false hlv
              clear S1 HE he hp
              go_quiet_grown (first | (go_at_call 76; refine Calls.grown_of (hcc _ _)) | refine Calls.grown_of (hcc _ _))
              have S2 : Aside _ := SG.out nq osq
              clear SG hcc la0 la1 lb0 lb1
              generalize grow (wr.drewN nq) osq = w2 at S2 ⊢
              go_wp2_with fail
              go_roundg kx
              case measure => omega
              case rel =>
                have g1 := HR.out
                have g2 := HH.out
                exact ⟨h + 1, j, by go_num, rfl, ⟨by omega, by omega, by omega, by omega⟩, S2, HE2⟩
        · have hltz : ¬ (i : Int) < (j : Int) := by omega
          have hi2 : i = s := by
            have he := HE.out
            cases gk with
            | zero => exact he
            | succ kx => rw [bsN, if_neg hlt] at he; exact he
          clear HE
          subst hi2
          obtain ⟨t, ht⟩ : ∃ t, mid + m - i = t := ⟨_, rfl⟩
          rw [ht] at HM
          have g1 := HR.out
          have g3 := HAB.out
          have g4 := HMD.out
          have g5 := HIJ.out
          have tz : (mid : Int) + (m : Int) - (i : Int) = (t : Int) := by omega
          have rt : IntKind.i64.wrap (t : Int) = (t : Int) := by rw [IntKind.wrap_i64]; omega
          have HST : Aside (i ≤ m ∧ i ≤ mid ∧ mid ≤ t ∧ m ≤ t ∧ t ≤ b ∧ a ≤ i) := ⟨by omega, by omega, by omega, by omega, by omega, by omega⟩
          clear hlt g1 g3 g4 g5 HR HIJ HFI ht
          go_upto_region 39 with (fail)
          clear rn rp hmz hltz
          go_cut [24, 185] from 178 to 185 (fun s24 sb wc => s24 = .int .i64 t ∧ ∃ bq : Bool, sb = .bool bq ∧ Hid (bq = true ↔ i < m ∧ m < t) ∧ Aside (SWK (encZ e) 2 w0 blk off d wc))
          case first => as_aux_lemma =>
            by_cases c0 : i < m
            · have c1 : (i : Int) < (m : Int) := by omega
              have c1d : decide ((i : Int) < (m : Int)) = true := decide_eq_true c1
              by_cases c3 : m < t
              · have c2 : (m : Int) < (t : Int) := by omega
                have c2d : decide ((m : Int) < (t : Int)) = true := decide_eq_true c2
                go_wp2_with fail
                go_meet
                case rel => exact ⟨rfl, true, rfl, (show _ ↔ _ from ⟨fun _ => ⟨c0, c3⟩, fun _ => rfl⟩), S1⟩
              · have c2 : ¬ (m : Int) < (t : Int) := by omega
                have c2d : decide ((m : Int) < (t : Int)) = false := decide_eq_false c2
                go_wp2_with fail
                go_meet
                case rel => exact ⟨rfl, false, rfl, (show _ ↔ _ from ⟨fun h => (by cases h), fun h => absurd h.2 c3⟩), S1⟩
            · have c1 : ¬ (i : Int) < (m : Int) := by omega
              have c1d : decide ((i : Int) < (m : Int)) = false := decide_eq_false c1
              go_wp2_with fail
              go_meet
              case rel => exact ⟨rfl, false, rfl, (show _ ↔ _ from ⟨fun h => (by cases h), fun h => absurd h.1 c0⟩), S1⟩
          case rest =>
          clear S1 tz rt
          obtain ⟨rfl, bq, rfl, HB, S1⟩ := hcut
          go_upto_if 185 with (fail)
          go_cut [24] from 186 to 191 (fun s24 wc => s24 = .int .i64 t ∧ ∃ d1 : Array α, d1.size = d.size ∧ Aside (SWK (encZ e) 2 w0 blk off d1 wc) ∧ Hid (d1 = rotIf d i m t))
          case first => as_aux_lemma =>
            have g1 := HST.out
            have g3 := HAB.out
            cases bq with
            | true =>
              have hc := HB.out.1 rfl
              have HH : Aside _ := rotate_calls e (.func (.func 76) #[] #[]) blk off cap i m t d0 d w0 wc R hs S1.out hc.1 hc.2 (by omega) (by omega)
              have HD : Aside (rotL (t - i) d m (m - i) (t - m) = rotIf d i m t) := (show _ = _ from (if_pos hc).symm)
              clear HB g1 g3 hc
              go_wp2_with (go_at_call 113; refine Calls.mono HH.out ?_; rintro x w2 ⟨rfl, S2⟩)
              go_meet
              case rel => exact ⟨rfl, _, size_rotL _ _ _ _ _, S2, HD.out⟩
            | false =>
              have hc : ¬ (i < m ∧ m < t) := fun h => Bool.false_ne_true (HB.out.2 h)
              have HD : Aside (d = rotIf d i m t) := (show _ = _ from (if_neg hc).symm)
              clear HB g1 g3 hc
              go_wp2_with fail
              go_meet
              case rel => exact ⟨rfl, d, rfl, S1, HD.out⟩
          case rest =>
            clear S1 HB
            obtain ⟨rfl, d1, hd1, S1, H1⟩ := hcut
            go_upto_region 41 with (fail)
            go_cut [24, 199] from 192 to 199 (fun s24 sb wc => s24 = .int .i64 t ∧ ∃ bq : Bool, sb = .bool bq ∧ Hid (bq = true ↔ a < i ∧ i < mid) ∧ Aside (SWK (encZ e) 2 w0 blk off d1 wc))
            case first => as_aux_lemma =>
              by_cases c0 : a < i
              · have c1 : (a : Int) < (i : Int) := by omega
                have c1d : decide ((a : Int) < (i : Int)) = true := decide_eq_true c1
                by_cases c3 : i < mid
                · have c2 : (i : Int) < (mid : Int) := by omega
                  have c2d : decide ((i : Int) < (mid : Int)) = true := decide_eq_true c2
                  go_wp2_with fail
                  go_meet
                  case rel => exact ⟨rfl, true, rfl, (show _ ↔ _ from ⟨fun _ => ⟨c0, c3⟩, fun _ => rfl⟩), S1⟩
                · have c2 : ¬ (i : Int) < (mid : Int) := by omega
                  have c2d : decide ((i : Int) < (mid : Int)) = false := decide_eq_false c2
                  go_wp2_with fail
                  go_meet
                  case rel => exact ⟨rfl, false, rfl, (show _ ↔ _ from ⟨fun h => (by cases h), fun h => absurd h.2 c3⟩), S1⟩
              · have c1 : ¬ (a : Int) < (i : Int) := by omega
                have c1d : decide ((a : Int) < (i : Int)) = false := decide_eq_false c1
                go_wp2_with fail
                go_meet
                case rel => exact ⟨rfl, false, rfl, (show _ ↔ _ from ⟨fun h => (by cases h), fun h => absurd h.1 c0⟩), S1⟩
            case rest =>
            clear S1
            obtain ⟨rfl, bq, rfl, HB, S1⟩ := hcut
            go_upto_if 199 with (fail)
            go_cut [24] from 200 to 205 (fun s24 wc => s24 = .int .i64 t ∧ ∃ d2 : Array α, d2.size = d.size ∧ Aside (SWK (encZ e) 2 w0 blk off d2 wc) ∧ Hid (d2 = symIf (ltOf cf) K d1 a i mid))
            case first => as_aux_lemma =>
              have g1 := HST.out
              have g3 := HAB.out
              have g4 := HMD.out
              cases bq with
              | true =>
                have hc := HB.out.1 rfl
                have H := HI.out a i mid d1 wc (by omega) S1.out hc.1 hc.2 (by omega) (by omega)
                rw [hd1] at H
                have HH : Aside _ := H
                have HD : Aside (symM (ltOf cf) K d1 a i mid = symIf (ltOf cf) K d1 a i mid) := (show _ = _ from (if_pos hc).symm)
                clear H HB g1 g3 g4 hc
                go_wp2_with (go_at_call 107; refine Calls.mono HH.out ?_; rintro x w2 ⟨rfl, S2⟩)
                go_meet
                case rel => exact ⟨rfl, _, (size_symM _ _ _ _ _ _).trans hd1, S2, HD.out⟩
              | false =>
                have hc : ¬ (a < i ∧ i < mid) := fun h => Bool.false_ne_true (HB.out.2 h)
                have HD : Aside (d1 = symIf (ltOf cf) K d1 a i mid) := (show _ = _ from (if_neg hc).symm)
                clear HB g1 g3 g4 hc
                go_wp2_with fail
                go_meet
                case rel => exact ⟨rfl, d1, hd1, S1, HD.out⟩
            case rest =>
              clear S1 HB
              obtain ⟨rfl, d2, hd2, S1, H2⟩ := hcut
              have FIN : Aside (∀ w', SWK (encZ e) 2 w0 blk off (if mid < t ∧ t < b then symM (ltOf cf) K d2 mid t b else d2) w' → SWK (encZ e) 2 w0 blk off (symM (ltOf cf) (K + 1) d a m b) w') := by
                intro w' hw
                have g0 := HM.out
                have g1 := H1.out
                have g2 := H2.out
                unfold rotIf at g1
                unfold symIf at g2
                rw [g0, ← g1, ← g2]
                exact hw
              clear HM H1 H2
              have g1 := HST.out
              have g3 := HAB.out
              have g4 := HMD.out
              by_cases hc : mid < t ∧ t < b
              · have c1 : (mid : Int) < (t : Int) := by omega
                have c2 : (t : Int) < (b : Int) := by omega
                have H := HI.out mid t b d2 wc (by omega) S1.out hc.1 hc.2 (by omega) (by omega)
                rw [hd2] at H
                have HH : Aside _ := H
                clear H g1 g3 g4
                go_wp2_with (go_at_call 107; refine Calls.mono HH.out ?_; rintro x w2 ⟨rfl, S2⟩)
                go_end0
                exact ⟨rfl, FIN.out _ (by rw [if_pos hc]; exact S2)⟩
              · by_cases c0 : mid < t
                · have c1 : (mid : Int) < (t : Int) := by omega
                  have c2 : ¬ (t : Int) < (b : Int) := by omega
                  clear g1 g3 g4
                  go_wp2
                  go_end0
                  exact ⟨rfl, FIN.out _ (by rw [if_neg hc]; exact S1.out)⟩
                · have c1 : ¬ (mid : Int) < (t : Int) := by omega
                  clear g1 g3 g4
                  go_wp2
                  go_end0
                  exact ⟨rfl, FIN.out _ (by rw [if_neg hc]; exact S1.out)⟩
end Go.Proofs.Ytcpmmkennnjalaa.Q
end
