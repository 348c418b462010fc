/- One word for all mazes: the word that is found for some numbers of rooms and doors visits all rooms of whatever connected maze with at most this number of rooms, also with doors before it and after it; it is proved for every input, without conditions. (text 27 of 31) -/
import Derived.Test.YtgbjbgdnldklpaaZTopMazei
import Derived.Test.YtgbjbgdnldklpaaZTopMazes
import Derived.Test.YtgbjbgdnldklpaaZTopMazez
import Derived.Test.YtgbjbgdnldklpaaZTopMazep
import Derived.Test.YtgbjbgdnldklpaaZTopMazew
/-! Part StmtMazeWalks -/
section
-- Written by xrow.py, a program of this session's. Lean checks it.
namespace Go.Proofs.Ytgbjbgdnldklpaa.Q
end Go.Proofs.Ytgbjbgdnldklpaa.Q
end
/-! Part PureMazeWalks -/
section
namespace Go.Proofs.Ytgbjbgdnldklpaa.Pure
open Go.RowKit Go.Proofs.YtgbjbgdnldklpaaW.PrintWords Go.Proofs.YtgbjbgdnldklpaaW.PrintLast Go.Proofs.YtgbjbgdnldklpaaW.PrintMore Go.Proofs.Ytgbjbgdnldklpaa.Q
set_option linter.unusedVariables false
set_option linter.unusedSectionVars false
set_option linter.unusedSimpArgs false
theorem tidy_natZ (l : List Nat) : ∃ Q : List Nat, tidy (toI l) = toI Q ∧ Q.Nodup ∧ ∀ x, x ∈ Q ↔ x ∈ l := by
 have hpos : ∀ z ∈ tidy (toI l), ∃ x : Nat, x ∈ l ∧ z = (x : Int) := fun z hz => by
  obtain ⟨x, hx, rfl⟩ := List.mem_map.1 (tidy_iff.1 hz)
  exact ⟨x, hx, rfl⟩
 have e : tidy (toI l) = toI ((tidy (toI l)).map Int.toNat) := by
  unfold toI
  rw [List.map_map]
  conv => lhs; rw [← List.map_id (tidy _)]
  refine List.map_congr_left fun z hz => ?_
  obtain ⟨x, _, rfl⟩ := hpos z hz
  simp
 refine ⟨(tidy (toI l)).map Int.toNat, e, ?_, fun x => ?_⟩
 ·unfold List.Nodup
  rw [List.pairwise_map]
  refine List.Pairwise.imp_of_mem ?_ (tidy_srt _)
  intro a b ha hb hab
  obtain ⟨x, _, rfl⟩ := hpos a ha
  obtain ⟨y, _, rfl⟩ := hpos b hb
  simp; omega
 ·rw [List.mem_map]
  constructor
  ·rintro ⟨z, hz, rfl⟩
   obtain ⟨x, hx, rfl⟩ := hpos z hz
   simpa using hx
  ·intro hx
   exact ⟨(x : Int), tidy_iff.2 (List.mem_map.2 ⟨x, hx, rfl⟩), by simp⟩
section
variable {z : List (List S44)} {n m : Nat} (V : VZ z n m)
include V
theorem visits_ev {w : List Nat} (hw : Wd m w) (hl : w.length ≤ 40000) {s : Nat} (hs : s < n) : ∃ r, Ev (fun k => maze_Visits.f k z (s : Int) (toI w)) (r, 0) ∧ (r = true ↔ ∀ t, t < n → t ∈ pathZ z s w) := by
 obtain ⟨Q, h1, h2, h3⟩ := tidy_natZ (pathZ z s w)
 have hlen := V.len
 have hle := nodup_sub h2 fun x hx => (h3 x).1 hx
 have hQn := nodup_le n Q h2 fun x hx => pathZ_lt V hs hw x ((h3 x).1 hx)
 have hpl := pathZ_len z s w
 refine ⟨((Q.length : Nat) : Int) == (n : Int), ?_, ?_⟩
 ·unfold maze_Visits.f
  refine Ev.bind (walk_ev V hw hl hs) ?_
  simp only [if_true]
  refine Ev.congr (f := fun _ => some (((Q.length : Nat) : Int) == (n : Int), 0)) (fun k => ?_) (Ev.now _)
  rw [if_pos (by rw [toI_len]; omega), h1, if_pos (by rw [toI_len, toI_len]; omega), toI_len, hlen]
 ·rw [beq_iff_eq]
  constructor
  ·intro h t ht
   exact (h3 t).1 (nodup_full h2 (fun x hx => pathZ_lt V hs hw x ((h3 x).1 hx)) (by omega) ht)
  ·intro h
   have := nodup_sub (S := List.range n) (T := Q) List.nodup_range fun t ht => (h3 t).2 (h t (List.mem_range.1 ht))
   rw [List.length_range] at this
   omega
end
end Go.Proofs.Ytgbjbgdnldklpaa.Pure
end
