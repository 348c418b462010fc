/- In any Eulerian automaton that has a reset word, whatever set of states, neither empty nor all, is led into by more states with a word of at most n - 1 letters, and its shortest reset word has at most n^2 - 3n + 3 letters; in any circular one at most (n - 1)^2. (At most 9 states) (text 20 of 42) -/
import Derived.Test.YtcpmmkennnjalaaZTopKarin
import Derived.Test.YtcpmmkennnjalaaZTopKarim
import Derived.Test.YtcpmmkennnjalaaZTopKaril
section
namespace Go.Proofs.Ytcpmmkennnjalaa.Pure
open Go.RowKit Go.Proofs.YtcpmmkennnjalaaW.PrintWords Go.Proofs.YtcpmmkennnjalaaW.PrintLast Go.Proofs.YtcpmmkennnjalaaW.PrintMore Go.Proofs.Ytcpmmkennnjalaa.Q
set_option linter.unusedVariables false
set_option linter.unusedSimpArgs false
/-! ### double counting -/
section
variable {rows : List (List Int)} {n m : Nat} (V : VA rows n m)
include V
theorem row_list {s : Nat} (hs : s < n) : rd_L1 rows (s : Int) = (List.range m).map fun x => ((nx rows s x : Nat) : Int) := by
  have hr := V.row s hs
  refine List.ext_getElem (by simpa using hr) fun i h1 h2 => ?_
  have hi : i < m := by omega
  rw [List.getElem_map, List.getElem_range, ← V.nxE hs hi, rdE h1]
theorem rows_list : rows = (List.range n).map fun s : Nat => rd_L1 rows (s : Int) := by
  have hl := V.len
  refine List.ext_getElem (by simpa using hl) fun i h1 h2 => ?_
  rw [List.getElem_map, List.getElem_range, rdLE h1]
theorem inn_count (t : Nat) : inn rows t = ((List.range n).map fun s => (List.range m).countP fun x => decide (nx rows s x = t)).sum := by
  have e : inn rows t = (((List.range n).map fun s : Nat => rd_L1 rows (s : Int)).map fun r => r.count (t : Int)).sum := by
    rw [← rows_list V]; rfl
  rw [e, List.map_map]
  congr 1
  refine List.map_congr_left fun s hs => ?_
  show (rd_L1 rows (s : Int)).count (t : Int) = _
  rw [row_list V (List.mem_range.1 hs), List.count, List.countP_map]
  refine List.countP_congr fun x _ => ?_
  simp
  omega
/-! ### the set -/
/-! ### the preimage -/
omit V in
omit V in
end
end Go.Proofs.Ytcpmmkennnjalaa.Pure
end
