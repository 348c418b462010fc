/- The law MazeNames holds: a maze whose rooms are named anew is connected if and only if the maze is, and is walked through alike; no bound on the arguments beyond their types'. (text 8 of 19) -/
import Derived.Test.YtgbjbgdnldklpaaZMazeNamesg
/-! Part MConnZ -/
section
namespace Go.Proofs.Ytgbjbgdnldklpaa.Q
open Go.RowKit Go.Proofs.YtgbjbgdnldklpaaW.PrintWords Go.Proofs.YtgbjbgdnldklpaaW.PrintLast Go.Proofs.YtgbjbgdnldklpaaW.PrintMore
set_option linter.unusedVariables false
set_option linter.unusedSectionVars false
/-- The last room of a path. -/
def endZ (z : List (List S44)) : Nat → List Nat → Nat
  | s, [] => s
  | s, x :: w => endZ z (gz z s x) w
theorem endZ_app (z : List (List S44)) : ∀ (u v : List Nat) (s : Nat), endZ z s (u ++ v) = endZ z (endZ z s u) v
  | [], _, _ => rfl
  | x :: u, v, s => by simp [endZ, endZ_app z u v]
/-! ### connected mazes -/
def trues (b : List Bool) : Nat := b.count true
theorem trues_set {l : List Bool} {u : Nat} (h : u < l.length) (hf : rdOf false l (u : Int) = false) : trues (l.set u true) = trues l + 1 := by
  induction l generalizing u with
  | nil => exact absurd h (by simp)
  | cons b l ih =>
    cases u with
    | zero =>
      have : b = false := hf
      subst this
      simp [trues]
    | succ u =>
      have := ih (u := u) (by simpa using h) (by rw [rdBE (by simpa using h)]; rw [rdBE h] at hf; simpa using hf)
      simp only [trues] at this
      cases b <;> simp [trues] <;> omega
theorem trues_le (b : List Bool) : trues b ≤ b.length := List.count_le_length
theorem trues_all {b : List Bool} : trues b = b.length ↔ ∀ t, t < b.length → rdOf false b (t : Int) = true := by
  unfold trues
  rw [List.count_eq_length]
  constructor
  · intro h t ht
    rw [rdBE ht]
    exact (h _ (List.getElem_mem ht)).symm
  · intro h x hx
    obtain ⟨t, ht, rfl⟩ := List.getElem_of_mem hx
    have := h t ht
    rw [rdBE ht] at this
    exact this.symm
theorem trues_none (n : Nat) : trues (List.replicate n false) = 0 := by
  simp [trues, List.count_replicate]
theorem nodup_full {n : Nat} {Q : List Nat} (hd : Q.Nodup) (hl : ∀ x ∈ Q, x < n) (h : Q.length = n) {t : Nat} (ht : t < n) : t ∈ Q := by
  refine Classical.byContradiction fun hc => ?_
  have := nodup_le n (t :: Q) (List.nodup_cons.2 ⟨hc, hd⟩) fun x hx => (List.mem_cons.1 hx).elim (fun e => e ▸ ht) (hl x)
  simp at this; omega
/-- Each room can be reached from room 0. -/
def Cn (z : List (List S44)) (n m : Nat) : Prop := ∀ t, t < n → ∃ w, Wd m w ∧ endZ z 0 w = t
structure BfZ (z : List (List S44)) (n m : Nat) (Q : List Nat) : Prop where
  nd : Q.Nodup
  lt : ∀ t ∈ Q, t < n
  z0 : 0 ∈ Q
  wd : ∀ (i : Nat) (hi : i < Q.length), ∃ w, Wd m w ∧ w.length ≤ i ∧ endZ z 0 w = Q[i]
/-- The list of rooms that the reference has seen at its end. -/
def SeenZ (z : List (List S44)) (n m : Nat) (b : List Bool) : Prop := b.length = n ∧ (∀ t, t < n → rdOf false b (t : Int) = true → ∃ w, Wd m w ∧ endZ z 0 w = t)
def FinZ (z : List (List S44)) (n m : Nat) (g : Nat → Option Bool) : Prop := ∃ b, SeenZ z n m b ∧ (∀ w, Wd m w → w.length ≤ n → rdOf false b ((endZ z 0 w : Nat) : Int) = true) ∧ Ev g (((trues b : Nat) : Int) == (n : Int))
theorem FinZ.step {z : List (List S44)} {n m : Nat} {g g' : Nat → Option Bool} (h : ∀ k, g (k + 1) = g' k) (hf : FinZ z n m g') : FinZ z n m g := by
  obtain ⟨b, h1, h2, h3⟩ := hf
  exact ⟨b, h1, h2, Ev.step h h3⟩
section
variable {z : List (List S44)} {n m : Nat} (V : VZ z n m)
include V
theorem endZ_lt : ∀ {w : List Nat} {s : Nat}, s < n → Wd m w → endZ z s w < n
  | [], s, hs, hw => hs
  | x :: w, s, hs, hw => endZ_lt (w := w) (s := gz z s x) (V.gLt s x hs hw.head) hw.tail
theorem conn_prog : ∃ Q, BfZ z n m Q ∧ (∀ t ∈ Q, ∀ x, x < m → gz z t x ∈ Q) ∧ Ev (fun k => maze_Connected.f k z) (((Q.length : Nat) : Int) == (n : Int), 0) := by
  have hlen := V.len; have h60 := V.n60; have h0 := V.n0; have hm6 := V.k6
  have outer : ∀ (d i : Nat) (b : List Bool) (Q : List Nat), i + d = n → i ≤ Q.length → b.length = n → BfZ z n m Q → (∀ t, t < n → (rdOf false b (t : Int) = true ↔ t ∈ Q)) → (∀ (j : Nat) (hj : j < Q.length), j < i → ∀ x, x < m → gz z Q[j] x ∈ Q) →
      ∃ Q', BfZ z n m Q' ∧ (∀ t ∈ Q', ∀ x, x < m → gz z t x ∈ Q') ∧ Ev (fun k => maze_Connected.l0 k b (toI Q) (i : Int) z) (((Q'.length : Nat) : Int) == (n : Int), 0) := by
    intro d
    induction d with
    | zero =>
      intro i b Q hi hiQ hb B hbQ hc
      have hQn := nodup_le n Q B.nd B.lt
      refine ⟨Q, B, fun t ht x hx => ?_, Ev.step (f := fun _ => some (((Q.length : Nat) : Int) == (n : Int), 0)) (fun k => by rw [maze_Connected.l0, if_neg (by rw [toI_len]; omega), toI_len, hlen]) (Ev.now _)⟩
      obtain ⟨j, hj, rfl⟩ := List.getElem_of_mem ht
      exact hc j hj (by omega) x hx
    | succ d ih =>
      intro i b Q hi hiQ hb B hbQ hc
      have hQn := nodup_le n Q B.nd B.lt
      by_cases hiq : i < Q.length
      · have hq := B.lt _ (List.getElem_mem hiq)
        have hrow := V.row _ hq
        obtain ⟨w, hw1, hw2, hw3⟩ := B.wd i hiq
        have inner : ∀ (e x : Nat) (b : List Bool) (P : List Nat), x + e = m → b.length = n → BfZ z n m (Q ++ P) → (∀ t, t < n → (rdOf false b (t : Int) = true ↔ t ∈ Q ++ P)) → (∀ y, y < x → gz z Q[i] y ∈ Q ++ P) →
            ∃ Q', BfZ z n m Q' ∧ (∀ t ∈ Q', ∀ x, x < m → gz z t x ∈ Q') ∧ Ev (fun k => maze_Connected.l1 k b (toI (Q ++ P)) (i : Int) (rd_L4 z ((Q[i] : Nat) : Int)) (m : Int) (x : Int) z) (((Q'.length : Nat) : Int) == (n : Int), 0) := by
          intro e
          induction e with
          | zero =>
            intro x b P hx hb B hbQ hy
            have : (Q ++ P).length = Q.length + P.length := by simp
            obtain ⟨Q', h1, h2, h3⟩ := ih (i + 1) b (Q ++ P) (by omega) (by omega) hb B hbQ (fun j hj hji y hym => by
              rw [List.getElem_append_left (by omega)]
              rcases Nat.lt_or_ge j i with h7 | h7
              · exact List.mem_append.2 (Or.inl (hc j (by omega) h7 y hym))
              · obtain rfl : j = i := by omega
                exact hy y (by omega))
            exact ⟨Q', h1, h2, Ev.step (fun k => by rw [maze_Connected.l1, if_neg (by omega), wrapS (by omega)]) h3⟩
          | succ e ih2 =>
            intro x b P hx hb B hbQ hy
            have hxm : x < m := by omega
            have hg := V.gLt _ x hq hxm
            have hle := nodup_le n _ B.nd B.lt
            by_cases hin : gz z Q[i] x ∈ Q ++ P
            · obtain ⟨Q', h1, h2, h3⟩ := ih2 (x + 1) b P (by omega) hb B hbQ (fun y hyx => by
                rcases Nat.lt_or_ge y x with h7 | h7
                · exact hy y h7
                · obtain rfl : y = x := by omega
                  exact hin)
              exact ⟨Q', h1, h2, Ev.step (fun k => by rw [maze_Connected.l1, if_pos (by omega), if_pos (by omega), if_pos (by omega), V.f0 _ _ hq hxm, if_pos (by omega), if_pos (by omega), if_pos ((hbQ _ hg).2 hin), wrapS (by omega)]) h3⟩
            · have hf : ¬ rdOf false b ((gz z Q[i] x : Nat) : Int) = true := fun h => hin ((hbQ _ hg).1 h)
              obtain ⟨Q', h1, h2, h3⟩ := ih2 (x + 1) (b.set (gz z Q[i] x) true) (P ++ [gz z Q[i] x]) (by omega) (by rw [List.length_set]; exact hb) (by
                  rw [← List.append_assoc]
                  refine ⟨?_, ?_, List.mem_append.2 (Or.inl B.z0), fun j hj => ?_⟩
                  · rw [List.nodup_append]
                    refine ⟨B.nd, by simp, fun a ha c hc e => hin ?_⟩
                    rw [List.mem_singleton.1 hc] at e
                    exact e ▸ ha
                  · intro t ht
                    rcases List.mem_append.1 ht with ht | ht
                    · exact B.lt t ht
                    · rw [List.mem_singleton.1 ht]; exact hg
                  · by_cases h7 : j < (Q ++ P).length
                    · rw [List.getElem_append_left h7]
                      exact B.wd j h7
                    · have h8 : j = (Q ++ P).length := by simp at hj h7 ⊢; omega
                      subst h8
                      refine ⟨w ++ [x], hw1.app (fun y hy => by rw [List.mem_singleton.1 hy]; exact hxm), ?_, ?_⟩
                      · simp at *; omega
                      · rw [endZ_app, hw3]; simp [endZ]) (fun t ht => by
                  rw [rdB_set (by omega), ← List.append_assoc, List.mem_append, List.mem_singleton]
                  by_cases h7 : gz z Q[i] x = t
                  · simp [h7]
                  · rw [if_neg h7, hbQ t ht]
                    exact ⟨Or.inl, fun h => h.elim id fun e => absurd e.symm h7⟩) (fun y hyx => by
                  rw [← List.append_assoc]
                  rcases Nat.lt_or_ge y x with h7 | h7
                  · exact List.mem_append.2 (Or.inl (hy y h7))
                  · obtain rfl : y = x := by omega
                    exact List.mem_append.2 (Or.inr (List.mem_singleton.2 rfl)))
              refine ⟨Q', h1, h2, Ev.step (fun k => by rw [maze_Connected.l1, if_pos (by omega), if_pos (by omega), if_pos (by omega), V.f0 _ _ hq hxm, if_pos (by omega), if_pos (by omega), if_neg hf, if_pos (by rw [toI_len]; omega), wrapS (by omega), Int.toNat_natCast, ← toI_snoc, List.append_assoc]) h3⟩
        obtain ⟨Q', h1, h2, h3⟩ := inner m 0 b [] (by omega) hb (by rw [List.append_nil]; exact B) (by rw [List.append_nil]; exact hbQ) (fun y hy => by omega)
        rw [List.append_nil] at h3
        exact ⟨Q', h1, h2, Ev.step (fun k => by rw [maze_Connected.l0, if_pos (by rw [toI_len]; omega), if_pos (by omega), toI_rd hiq, if_pos (by omega), if_pos (by omega), hrow]; rfl) h3⟩
      · refine ⟨Q, B, fun t ht x hx => ?_, Ev.step (f := fun _ => some (((Q.length : Nat) : Int) == (n : Int), 0)) (fun k => by rw [maze_Connected.l0, if_neg (by rw [toI_len]; omega), toI_len, hlen]) (Ev.now _)⟩
        obtain ⟨j, hj, rfl⟩ := List.getElem_of_mem ht
        exact hc j hj (by omega) x hx
  obtain ⟨Q', h1, h2, h3⟩ := outer n 0 ((List.replicate n false).set 0 true) [0] (by omega) (by simp) (by simp) ⟨by simp, fun t ht => by rw [List.mem_singleton.1 ht]; exact h0, by simp, fun i hi => ⟨[], Wd.nil m, Nat.zero_le _, by
      have : i = 0 := by simpa using hi
      subst this; rfl⟩⟩ (fun t ht => by
    rw [rdB_set (by simpa using ht), rdBE (by simpa using ht)]
    by_cases h : 0 = t
    · simp [← h]
    · rw [if_neg h]; simp; omega) (fun j hj hji => by omega)
  refine ⟨Q', h1, h2, ?_⟩
  refine h3.congr fun k => ?_
  unfold maze_Connected.f maze_Valid.f
  rw [mvB_of V, Option.bind_some, if_pos rfl, if_pos (by omega), if_pos (by rw [Int.toNat_natCast]; omega), Option.bind_some, Int.toNat_natCast, if_pos (by rw [List.length_replicate]; omega), hlen]
  rfl
theorem SeenZ.add {b : List Bool} {i x : Nat} (h : SeenZ z n m b) (hi : i < n) (hb : rdOf false b (i : Int) = true) (hx : x < m) : SeenZ z n m (b.set (gz z i x) true) := by
  refine ⟨by rw [List.length_set]; exact h.1, fun t ht hr => ?_⟩
  rw [rdB_set (by rw [h.1]; exact ht)] at hr
  by_cases e : gz z i x = t
  · obtain ⟨w, h1, h2⟩ := h.2 i hi hb
    exact ⟨w ++ [x], h1.app (fun y hy => by rw [List.mem_singleton.1 hy]; exact hx), by rw [endZ_app, h2]; exact e⟩
  · rw [if_neg e] at hr
    exact h.2 t ht hr
theorem conn_ref : FinZ z n m (fun k => mizmazeref10_Connected.f k z) := by
  have hlen := V.len; have h60 := V.n60; have h0 := V.n0; have hm6 := V.k6
  have key : ∀ (d j : Nat) (b : List Bool), j + d = n → SeenZ z n m b → (∀ w, Wd m w → w.length ≤ j → rdOf false b ((endZ z 0 w : Nat) : Int) = true) → FinZ z n m (fun k => mizmazeref10_Connected.l0 k b ((trues b : Nat) : Int) (j : Int) z) := by
    intro d
    induction d with
    | zero =>
      intro j b hj S hw
      exact ⟨b, S, fun w h1 h2 => hw w h1 (by omega), Ev.step (f := fun _ => some (((trues b : Nat) : Int) == (n : Int))) (fun k => by rw [mizmazeref10_Connected.l0, if_neg (by omega), hlen]) (Ev.now _)⟩
    | succ d ih =>
      intro j b hj S hw
      have rooms : ∀ (e i : Nat) (b : List Bool), i + e = n → SeenZ z n m b → (∀ w, Wd m w → w.length ≤ j → rdOf false b ((endZ z 0 w : Nat) : Int) = true) → (∀ w x, Wd m w → x < m → w.length ≤ j → endZ z 0 w < i → rdOf false b ((gz z (endZ z 0 w) x : Nat) : Int) = true) →
          FinZ z n m (fun k => mizmazeref10_Connected.l1 k b ((trues b : Nat) : Int) (j : Int) (i : Int) z) := by
        intro e
        induction e with
        | zero =>
          intro i b hi S hw hn
          refine FinZ.step (fun k => by rw [mizmazeref10_Connected.l1, if_neg (by omega), wrapS (by omega)]) (ih (j + 1) b (by omega) S fun w h1 h2 => ?_)
          by_cases h3 : w.length ≤ j
          · exact hw w h1 h3
          · have hne : w ≠ [] := fun h => by subst h; simp at h3
            obtain ⟨v, x, rfl⟩ : ∃ v x, w = v ++ [x] := ⟨_, _, (List.dropLast_concat_getLast hne).symm⟩
            rw [List.length_append] at h2; simp at h2
            rw [endZ_app]
            exact hn v x h1.left (h1.right x (by simp)) (by omega) (by have := endZ_lt V h0 h1.left; omega)
        | succ e ihr =>
          intro i b hi S hw hn
          have hin : i < n := by omega
          have hrow := V.row i hin
          refine FinZ.step (g' := fun k => mizmazeref10_Connected.l2 k b ((trues b : Nat) : Int) (j : Int) (i : Int) ((0 : Nat) : Int) z) (fun k => by rw [mizmazeref10_Connected.l1, if_pos (by omega)]; rfl) ?_
          cases hb : rdOf false b (i : Int) with
          | false =>
            refine FinZ.step (fun k => by rw [mizmazeref10_Connected.l2, if_pos (by omega), if_pos (by omega), if_pos (by have := V.k0; omega), if_pos (by have := S.1; omega), hb]) ?_
            refine FinZ.step (fun k => by rw [mizmazeref10_Connected.j3, if_neg (by simp), wrapS (by omega)]) (ihr (i + 1) b (by omega) S hw fun w x h1 hx h2 h3 => ?_)
            rcases Nat.lt_or_ge (endZ z 0 w) i with h7 | h7
            · exact hn w x h1 hx h2 h7
            · have : endZ z 0 w = i := by omega
              have h8 := hw w h1 h2
              rw [this, hb] at h8
              cases h8
          | true =>
            have doors : ∀ (e x : Nat) (b : List Bool), x + e = m → SeenZ z n m b → (∀ w, Wd m w → w.length ≤ j → rdOf false b ((endZ z 0 w : Nat) : Int) = true) → (∀ w x, Wd m w → x < m → w.length ≤ j → endZ z 0 w < i → rdOf false b ((gz z (endZ z 0 w) x : Nat) : Int) = true) → rdOf false b (i : Int) = true → (∀ y, y < x → rdOf false b ((gz z i y : Nat) : Int) = true) →
                FinZ z n m (fun k => mizmazeref10_Connected.l2 k b ((trues b : Nat) : Int) (j : Int) (i : Int) (x : Int) z) := by
              intro e
              induction e with
              | zero =>
                intro x b hx S hw hn hb hy
                refine FinZ.step (fun k => by rw [mizmazeref10_Connected.l2, if_pos (by omega), if_pos (by omega), if_neg (by omega)]) ?_
                refine FinZ.step (fun k => by rw [mizmazeref10_Connected.j3, if_neg (by simp), wrapS (by omega)]) (ihr (i + 1) b (by omega) S hw fun w x' h1 hx' h2 h3 => ?_)
                rcases Nat.lt_or_ge (endZ z 0 w) i with h7 | h7
                · exact hn w x' h1 hx' h2 h7
                · have : endZ z 0 w = i := by omega
                  rw [this]
                  exact hy x' (by omega)
              | succ e ihd =>
                intro x b hx S hw hn hb hy
                have hxm : x < m := by omega
                have hg := V.gLt i x hin hxm
                have hbl := S.1
                refine FinZ.step (fun k => by rw [mizmazeref10_Connected.l2, if_pos (by omega), if_pos (by omega), if_pos (by omega), if_pos (by omega), hb]) ?_
                cases hc : rdOf false b ((gz z i x : Nat) : Int) with
                | true =>
                  refine FinZ.step (fun k => by rw [mizmazeref10_Connected.j3, if_pos rfl, if_pos (by omega), if_pos (by omega), if_pos (by omega), if_pos (by omega), V.f0 _ _ hin hxm, if_pos (by omega), if_pos (by omega), if_pos hc, wrapS (by omega)]) (ihd (x + 1) b (by omega) S hw hn hb fun y hyx => ?_)
                  rcases Nat.lt_or_ge y x with h7 | h7
                  · exact hy y h7
                  · obtain rfl : y = x := by omega
                    exact hc
                | false =>
                  have mono : ∀ t : Nat, t < n → rdOf false b (t : Int) = true → rdOf false (b.set (gz z i x) true) (t : Int) = true := fun t ht h => by
                    rw [rdB_set (by omega)]
                    by_cases e : gz z i x = t
                    · rw [if_pos e]
                    · rw [if_neg e]; exact h
                  have ht := trues_set (by omega) hc
                  have hle := trues_le b
                  refine FinZ.step (fun k => by rw [mizmazeref10_Connected.j3, if_pos rfl, if_pos (by omega), if_pos (by omega), if_pos (by omega), if_pos (by omega), V.f0 _ _ hin hxm, if_pos (by omega), if_pos (by omega), if_neg (by rw [hc]; simp), wrapS (by omega), wrapS (by omega), Int.toNat_natCast, ← ht]) (ihd (x + 1) (b.set (gz z i x) true) (by omega) (SeenZ.add V S hin hb hxm) (fun w h1 h2 => mono _ (endZ_lt V h0 h1) (hw w h1 h2)) (fun w x' h1 hx' h2 h3 => mono _ (V.gLt _ _ (endZ_lt V h0 h1) hx') (hn w x' h1 hx' h2 h3)) (mono _ hin hb) fun y hyx => ?_)
                  rcases Nat.lt_or_ge y x with h7 | h7
                  · exact mono _ (V.gLt _ _ hin (by omega)) (hy y h7)
                  · obtain rfl : y = x := by omega
                    rw [rdB_set (by omega), if_pos rfl]
            exact doors m 0 b (by omega) S hw hn hb fun y hy => by omega
      exact FinZ.step (g' := fun k => mizmazeref10_Connected.l1 k b ((trues b : Nat) : Int) (j : Int) ((0 : Nat) : Int) z) (fun k => by rw [mizmazeref10_Connected.l0, if_pos (by omega)]; rfl) (rooms n 0 b (by omega) S hw fun w x _ _ _ h => by omega)
  have t1 : trues ((List.replicate n false).set 0 true) = 1 := by
    rw [trues_set (by simpa using h0) (by
      have : (0 : Nat) < (List.replicate n false).length := by simpa using h0
      rw [rdBE this]; simp), trues_none]
  obtain ⟨b, h1, h2, h3⟩ := key n 0 ((List.replicate n false).set 0 true) (by omega) ⟨by simp, fun t ht hr => by
    rw [rdB_set (by simpa using ht), rdBE (by simpa using ht)] at hr
    by_cases e : 0 = t
    · exact ⟨[], Wd.nil m, e⟩
    · rw [if_neg e] at hr; simp at hr⟩ (fun w hw hl => by
    obtain rfl := List.eq_nil_of_length_eq_zero (by omega : w.length = 0)
    show rdOf false _ ((0 : Nat) : Int) = true
    rw [rdB_set (by simpa using h0), if_pos rfl])
  refine ⟨b, h1, h2, h3.congr fun k => ?_⟩
  unfold mizmazeref10_Connected.f
  rw [if_pos (by omega), if_pos (by rw [Int.toNat_natCast]; omega), Option.bind_some, Int.toNat_natCast, hlen, if_pos (by rw [List.length_replicate]; omega), t1]
  rfl
theorem conn_both : ∃ b, Ev (fun k => maze_Connected.f k z) (b, 0) ∧ Ev (fun k => mizmazeref10_Connected.f k z) b ∧ (b = true ↔ Cn z n m) := by
  obtain ⟨Q, B, cl, h1⟩ := conn_prog V
  obtain ⟨b, S, hw, h2⟩ := conn_ref V
  have h0 := V.n0
  by_cases hq : Q.length = n
  · have hall : ∀ t, t < n → ∃ w, Wd m w ∧ w.length ≤ n ∧ endZ z 0 w = t := fun t ht => by
      obtain ⟨i, hi, rfl⟩ := List.getElem_of_mem (nodup_full B.nd B.lt hq ht)
      obtain ⟨w, w1, w2, w3⟩ := B.wd i hi
      exact ⟨w, w1, by omega, w3⟩
    have hT : trues b = b.length := trues_all.2 fun t ht => by
      obtain ⟨w, w1, w2, w3⟩ := hall t (by rw [← S.1]; exact ht)
      rw [← w3]; exact hw w w1 w2
    have e1 : (((Q.length : Nat) : Int) == (n : Int)) = true := by rw [hq]; simp
    have e2 : (((trues b : Nat) : Int) == (n : Int)) = true := by rw [hT, S.1]; simp
    rw [e1] at h1; rw [e2] at h2
    exact ⟨true, h1, h2, fun _ t ht => let ⟨w, w1, _, w3⟩ := hall t ht; ⟨w, w1, w3⟩, fun _ => rfl⟩
  · have hQn := nodup_le n Q B.nd B.lt
    have reach : ∀ (w : List Nat) (s : Nat), s ∈ Q → Wd m w → endZ z s w ∈ Q := by
      intro w
      induction w with
      | nil => intro s hs _; exact hs
      | cons x w ih => intro s hs hw; exact ih _ (cl s hs x hw.head) hw.tail
    have hno : ¬ Cn z n m := fun hc => by
      have := nodup_sub (S := List.range n) (T := Q) List.nodup_range fun t ht => by
        obtain ⟨w, w1, w2⟩ := hc t (List.mem_range.1 ht)
        rw [← w2]; exact reach w 0 B.z0 w1
      rw [List.length_range] at this; omega
    have hT : trues b ≠ n := fun h => hno fun t ht => S.2 t ht (trues_all.1 (by rw [h, S.1]) t (by rw [S.1]; exact ht))
    have e1 : (((Q.length : Nat) : Int) == (n : Int)) = false := by simp; omega
    have e2 : (((trues b : Nat) : Int) == (n : Int)) = false := by simp; omega
    rw [e1] at h1; rw [e2] at h2
    exact ⟨false, h1, h2, by simp [hno]⟩
end
end Go.Proofs.Ytgbjbgdnldklpaa.Q
end
/-! Part MBackZ -/
section
namespace Go.Proofs.Ytgbjbgdnldklpaa.Q
open Go.RowKit Go.Proofs.YtgbjbgdnldklpaaW.PrintWords Go.Proofs.YtgbjbgdnldklpaaW.PrintLast Go.Proofs.YtgbjbgdnldklpaaW.PrintMore
set_option linter.unusedVariables false
set_option linter.unusedSectionVars false
set_option linter.unusedSimpArgs false
/-- The doors that the doors of a word are joined to, from the last one back. -/
def bkZ (z : List (List S44)) : Nat → List Nat → List Nat
  | _, [] => []
  | s, x :: w => bkZ z (gz z s x) w ++ [dz z s x]
theorem stepsZ_app (z : List (List S44)) : ∀ (u v : List Nat) (s : Nat), stepsZ z s (u ++ v) = stepsZ z s u ++ stepsZ z (endZ z s u) v
  | [], _, _ => rfl
  | x :: u, v, s => by simp [stepsZ, endZ, stepsZ_app z u v]
section
variable {z : List (List S44)} {n m : Nat} (V : VZ z n m)
include V
theorem bkZ_wd : ∀ {w : List Nat} {s : Nat}, s < n → Wd m w → Wd m (bkZ z s w)
  | [], s, hs, hw => Wd.nil m
  | x :: w, s, hs, hw => by
    refine Wd.app (bkZ_wd (V.gLt s x hs hw.head) hw.tail) fun y hy => ?_
    rw [List.mem_singleton.1 hy]
    exact V.dLt s x hs hw.head
theorem bk_ends : ∀ {w : List Nat} {s : Nat}, s < n → Wd m w → endZ z (endZ z s w) (bkZ z s w) = s ∧ pathZ z (endZ z s w) (bkZ z s w) = (pathZ z s w).reverse
  | [], s, hs, hw => ⟨rfl, rfl⟩
  | x :: w, s, hs, hw => by
    have hx := hw.head
    obtain ⟨h1, h2⟩ := bk_ends (V.gLt s x hs hx) hw.tail
    obtain ⟨b1, b2⟩ := V.back s x hs hx
    constructor
    · show endZ z (endZ z (gz z s x) w) (bkZ z (gz z s x) w ++ [dz z s x]) = s
      rw [endZ_app, h1]
      exact b1
    · show pathZ z (endZ z (gz z s x) w) (bkZ z (gz z s x) w ++ [dz z s x]) = (s :: pathZ z (gz z s x) w).reverse
      rw [List.reverse_cons, ← h2]
      unfold pathZ
      rw [stepsZ_app, h1]
      simp [stepsZ, b1]
end
end Go.Proofs.Ytgbjbgdnldklpaa.Q
end
