/-
  No cell of these rows narrows 'for every input' (looked for: loops, veiled, ifaces, maps, wideKeys, modest, calm, conditions, laid).
  DERIVED. THE GIVEN ROWS OF THIS SEAT. 9 by the template 'for every input the law returns true; each argument reads behind the call as it read before'; 0 by the template 'total and deterministic' (their statements: YtgbjbgdnldklpaaTotals.lean).
  GIVEN WITH THE SEED: the statements are not yours to turn. If you find one false, say at which input.
  Laid BY PROGRAM, IN A SANDBOX (cutbox-rows.mjs): the forced cells as the released guide's own fill.sh prints them over the translation dc9e6dea1bfbcafe… (all of the seat's roots in one cut). By AI agents, Wed Nov 11 2026. No macro, syntax, notation, axiom, sorry.
-/
import Derived.Test.YtgbjbgdnldklpaaChecked
import GoSem.Claim
import GoSem.ClaimJoined
import GoSem.ClaimMapViews
import Derived.JoinedTies
import Derived.KernelRfl
namespace Go.Proofs.Ytgbjbgdnldklpaa
/- THE CELL 'sum', in the pinned program and in every row, IS THE sha256 OF THE DUMP (.gsa) THAT YtgbjbgdnldklpaaProg.lean LOADS. Nothing in Lean hashes anything: it is a label: what it is worth is what the hold of that sum in a sandbox is worth. -/
noncomputable def Try.pinned : Pinned := { name := "ytgbjbgdnldklpaa", sum := "dc9e6dea1bfbcafee202451290700dceae741af3c1a4764f3eac8acc529cf8a9", checked := Try.checked }
namespace Rows
def none {H : Type} : Left H := { results := [], args := [] }

/-- 'mizmazelaw10.MazeCounts': WHATEVER THE INPUT: true; the input reads as it did. -/
def mazeCountsSpec : ChangeSpec := { name := "mazeCounts", fn := fun _ => fun
  | [d1, d2] => { results := [.lit (.bool true)], args := [d1, d2] }
  | _ => none }
def mazeCountsRow : OpenClaim := { program := "ytgbjbgdnldklpaa", sum := "dc9e6dea1bfbcafee202451290700dceae741af3c1a4764f3eac8acc529cf8a9", func := "mizmaze/mizmazelaw10.MazeCounts", spec := "mazeCounts", unfollowed := true, recurses := true, apart := false }
def MazeCountsSaid : Prop := mazeCountsRow.holds Try.pinned (OpenSpec.ofChange mazeCountsSpec)

/-- ITS FALSE NEIGHBOUR: 'it returns false'. Refute it at one input. -/
def mazeCountsWrong : ChangeSpec := { name := "mazeCounts", fn := fun _ => fun
  | [d1, d2] => { results := [.lit (.bool false)], args := [d1, d2] }
  | _ => none }
def MazeCountsWrongFalsely : Prop := mazeCountsRow.holds Try.pinned (OpenSpec.ofChange mazeCountsWrong)

/-- 'mizmazelaw10.MazeChecks': WHATEVER THE INPUT: true; the input reads as it did. -/
def mazeChecksSpec : ChangeSpec := { name := "mazeChecks", fn := fun _ => fun
  | [d1, d2, d3] => { results := [.lit (.bool true)], args := [d1, d2, d3] }
  | _ => none }
def mazeChecksRow : OpenClaim := { program := "ytgbjbgdnldklpaa", sum := "dc9e6dea1bfbcafee202451290700dceae741af3c1a4764f3eac8acc529cf8a9", func := "mizmaze/mizmazelaw10.MazeChecks", spec := "mazeChecks", unfollowed := true, recurses := true, apart := false }
def MazeChecksSaid : Prop := mazeChecksRow.holds Try.pinned (OpenSpec.ofChange mazeChecksSpec)

/-- ITS FALSE NEIGHBOUR: 'it returns false'. Refute it at one input. -/
def mazeChecksWrong : ChangeSpec := { name := "mazeChecks", fn := fun _ => fun
  | [d1, d2, d3] => { results := [.lit (.bool false)], args := [d1, d2, d3] }
  | _ => none }
def MazeChecksWrongFalsely : Prop := mazeChecksRow.holds Try.pinned (OpenSpec.ofChange mazeChecksWrong)

/-- 'mizmazelaw10.MazeLonger': WHATEVER THE INPUT: true; the input reads as it did. -/
def mazeLongerSpec : ChangeSpec := { name := "mazeLonger", fn := fun _ => fun
  | [d1, d2, d3, d4, d5] => { results := [.lit (.bool true)], args := [d1, d2, d3, d4, d5] }
  | _ => none }
def mazeLongerRow : OpenClaim := { program := "ytgbjbgdnldklpaa", sum := "dc9e6dea1bfbcafee202451290700dceae741af3c1a4764f3eac8acc529cf8a9", func := "mizmaze/mizmazelaw10.MazeLonger", spec := "mazeLonger", unfollowed := true, recurses := true, apart := false }
def MazeLongerSaid : Prop := mazeLongerRow.holds Try.pinned (OpenSpec.ofChange mazeLongerSpec)

/-- ITS FALSE NEIGHBOUR: 'it returns false'. Refute it at one input. -/
def mazeLongerWrong : ChangeSpec := { name := "mazeLonger", fn := fun _ => fun
  | [d1, d2, d3, d4, d5] => { results := [.lit (.bool false)], args := [d1, d2, d3, d4, d5] }
  | _ => none }
def MazeLongerWrongFalsely : Prop := mazeLongerRow.holds Try.pinned (OpenSpec.ofChange mazeLongerWrong)

/-- 'mizmazelaw10.MazeBack': WHATEVER THE INPUT: true; the input reads as it did. -/
def mazeBackSpec : ChangeSpec := { name := "mazeBack", fn := fun _ => fun
  | [d1, d2, d3] => { results := [.lit (.bool true)], args := [d1, d2, d3] }
  | _ => none }
def mazeBackRow : OpenClaim := { program := "ytgbjbgdnldklpaa", sum := "dc9e6dea1bfbcafee202451290700dceae741af3c1a4764f3eac8acc529cf8a9", func := "mizmaze/mizmazelaw10.MazeBack", spec := "mazeBack", unfollowed := true, recurses := true, apart := false }
def MazeBackSaid : Prop := mazeBackRow.holds Try.pinned (OpenSpec.ofChange mazeBackSpec)

/-- ITS FALSE NEIGHBOUR: 'it returns false'. Refute it at one input. -/
def mazeBackWrong : ChangeSpec := { name := "mazeBack", fn := fun _ => fun
  | [d1, d2, d3] => { results := [.lit (.bool false)], args := [d1, d2, d3] }
  | _ => none }
def MazeBackWrongFalsely : Prop := mazeBackRow.holds Try.pinned (OpenSpec.ofChange mazeBackWrong)

/-- 'mizmazelaw10.MazeNames': WHATEVER THE INPUT: true; the input reads as it did. -/
def mazeNamesSpec : ChangeSpec := { name := "mazeNames", fn := fun _ => fun
  | [d1, d2, d3, d4, d5] => { results := [.lit (.bool true)], args := [d1, d2, d3, d4, d5] }
  | _ => none }
def mazeNamesRow : OpenClaim := { program := "ytgbjbgdnldklpaa", sum := "dc9e6dea1bfbcafee202451290700dceae741af3c1a4764f3eac8acc529cf8a9", func := "mizmaze/mizmazelaw10.MazeNames", spec := "mazeNames", unfollowed := true, recurses := true, apart := false }
def MazeNamesSaid : Prop := mazeNamesRow.holds Try.pinned (OpenSpec.ofChange mazeNamesSpec)

/-- ITS FALSE NEIGHBOUR: 'it returns false'. Refute it at one input. -/
def mazeNamesWrong : ChangeSpec := { name := "mazeNames", fn := fun _ => fun
  | [d1, d2, d3, d4, d5] => { results := [.lit (.bool false)], args := [d1, d2, d3, d4, d5] }
  | _ => none }
def MazeNamesWrongFalsely : Prop := mazeNamesRow.holds Try.pinned (OpenSpec.ofChange mazeNamesWrong)

/-- 'mizmazelaw10.MazeUniversal': WHATEVER THE INPUT: true; the input reads as it did. -/
def mazeUniversalSpec : ChangeSpec := { name := "mazeUniversal", fn := fun _ => fun
  | [d1, d2] => { results := [.lit (.bool true)], args := [d1, d2] }
  | _ => none }
def mazeUniversalRow : OpenClaim := { program := "ytgbjbgdnldklpaa", sum := "dc9e6dea1bfbcafee202451290700dceae741af3c1a4764f3eac8acc529cf8a9", func := "mizmaze/mizmazelaw10.MazeUniversal", spec := "mazeUniversal", unfollowed := true, recurses := true, apart := false }
def MazeUniversalSaid : Prop := mazeUniversalRow.holds Try.pinned (OpenSpec.ofChange mazeUniversalSpec)

/-- ITS FALSE NEIGHBOUR: 'it returns false'. Refute it at one input. -/
def mazeUniversalWrong : ChangeSpec := { name := "mazeUniversal", fn := fun _ => fun
  | [d1, d2] => { results := [.lit (.bool false)], args := [d1, d2] }
  | _ => none }
def MazeUniversalWrongFalsely : Prop := mazeUniversalRow.holds Try.pinned (OpenSpec.ofChange mazeUniversalWrong)

/-- 'mizmazetop.TopMaze': WHATEVER THE INPUT: true; the input reads as it did. -/
def topMazeSpec : ChangeSpec := { name := "topMaze", fn := fun _ => fun
  | [d1, d2, d3] => { results := [.lit (.bool true)], args := [d1, d2, d3] }
  | _ => none }
def topMazeRow : OpenClaim := { program := "ytgbjbgdnldklpaa", sum := "dc9e6dea1bfbcafee202451290700dceae741af3c1a4764f3eac8acc529cf8a9", func := "mizmaze/mizmazetop.TopMaze", spec := "topMaze", unfollowed := true, recurses := true, apart := false }
def TopMazeSaid : Prop := topMazeRow.holds Try.pinned (OpenSpec.ofChange topMazeSpec)

/-- ITS FALSE NEIGHBOUR: 'it returns false'. Refute it at one input. -/
def topMazeWrong : ChangeSpec := { name := "topMaze", fn := fun _ => fun
  | [d1, d2, d3] => { results := [.lit (.bool false)], args := [d1, d2, d3] }
  | _ => none }
def TopMazeWrongFalsely : Prop := topMazeRow.holds Try.pinned (OpenSpec.ofChange topMazeWrong)

/-- 'mizmazelaw10.MazeWalks': WHATEVER THE INPUT: true; the input reads as it did. -/
def mazeWalksSpec : ChangeSpec := { name := "mazeWalks", fn := fun _ => fun
  | [d1, d2, d3] => { results := [.lit (.bool true)], args := [d1, d2, d3] }
  | _ => none }
def mazeWalksRow : OpenClaim := { program := "ytgbjbgdnldklpaa", sum := "dc9e6dea1bfbcafee202451290700dceae741af3c1a4764f3eac8acc529cf8a9", func := "mizmaze/mizmazelaw10.MazeWalks", spec := "mazeWalks", unfollowed := true, recurses := true, apart := false }
def MazeWalksSaid : Prop := mazeWalksRow.holds Try.pinned (OpenSpec.ofChange mazeWalksSpec)

/-- ITS FALSE NEIGHBOUR: 'it returns false'. Refute it at one input. -/
def mazeWalksWrong : ChangeSpec := { name := "mazeWalks", fn := fun _ => fun
  | [d1, d2, d3] => { results := [.lit (.bool false)], args := [d1, d2, d3] }
  | _ => none }
def MazeWalksWrongFalsely : Prop := mazeWalksRow.holds Try.pinned (OpenSpec.ofChange mazeWalksWrong)

/-- 'mizmazelaw10.MazeHome': WHATEVER THE INPUT: true; the input reads as it did. -/
def mazeHomeSpec : ChangeSpec := { name := "mazeHome", fn := fun _ => fun
  | [d1, d2, d3, d4, d5] => { results := [.lit (.bool true)], args := [d1, d2, d3, d4, d5] }
  | _ => none }
def mazeHomeRow : OpenClaim := { program := "ytgbjbgdnldklpaa", sum := "dc9e6dea1bfbcafee202451290700dceae741af3c1a4764f3eac8acc529cf8a9", func := "mizmaze/mizmazelaw10.MazeHome", spec := "mazeHome", unfollowed := true, recurses := true, apart := false }
def MazeHomeSaid : Prop := mazeHomeRow.holds Try.pinned (OpenSpec.ofChange mazeHomeSpec)

/-- ITS FALSE NEIGHBOUR: 'it returns false'. Refute it at one input. -/
def mazeHomeWrong : ChangeSpec := { name := "mazeHome", fn := fun _ => fun
  | [d1, d2, d3, d4, d5] => { results := [.lit (.bool false)], args := [d1, d2, d3, d4, d5] }
  | _ => none }
def MazeHomeWrongFalsely : Prop := mazeHomeRow.holds Try.pinned (OpenSpec.ofChange mazeHomeWrong)

/- THE SECOND FORM. 'bulk': how many values and letters a reading holds, each counted each time it is reached (what is shared counts as often as it is met; a slice's spare places count too). A statement '..UptoSaid' is the law's where the arguments, and the package variables that the reading takes, are together of bulk at most 1048576: NARROWER than '..Said'. Prove '..Said' where nothing that the law and all that it calls make is longer than what came in: it says more and counts as full. Else prove '..UptoSaid'. A law counts once. -/
mutual
def uptoBulk {H : Type} : DataW H → Nat
  | .lit (.string bytes) => bytes.length + 1
  | .lit _ => 1
  | .nil => 1
  | .ptr d => uptoBulk d + 1
  | .slice elems spare => uptoBulkAll elems + uptoBulkAll spare + 1
  | .agg parts => uptoBulkAll parts + 1
  | .iface _ d => uptoBulk d + 1
  | .map entries => uptoBulkEntries entries + 1
  | .held _ => 1
def uptoBulkAll {H : Type} : List (DataW H) → Nat
  | [] => 0
  | d :: r => uptoBulk d + uptoBulkAll r
def uptoBulkEntries {H : Type} : List (Lit × DataW H) → Nat
  | [] => 0
  | x :: r => uptoBulkEntry x + uptoBulkEntries r
def uptoBulkEntry {H : Type} : Lit × DataW H → Nat
  | (.string bytes, d) => bytes.length + uptoBulk d + 1
  | (_, d) => uptoBulk d + 1
 end
def uptoSmall : (H : Type) → List (DataW H) → Bool := fun _ ds => decide (uptoBulkAll ds ≤ 1048576)
def OpenSpec.upto (s : _root_.Go.ChangeSpec) : _root_.Go.OpenSpec := { _root_.Go.OpenSpec.ofChange s with cond := some uptoSmall }

/-- 'mizmazelaw10.MazeCounts', WHERE WHAT IT READS IS OF BULK AT MOST 1048576: true; the input reads as it did. -/
def mazeCountsUptoRow : OpenClaim := { program := "ytgbjbgdnldklpaa", sum := "dc9e6dea1bfbcafee202451290700dceae741af3c1a4764f3eac8acc529cf8a9", func := "mizmaze/mizmazelaw10.MazeCounts", spec := "mazeCounts", unfollowed := true, recurses := true, apart := false, narrowed := true }
def MazeCountsUptoSaid : Prop := mazeCountsUptoRow.holds Try.pinned (OpenSpec.upto mazeCountsSpec)

/-- 'mizmazelaw10.MazeChecks', WHERE WHAT IT READS IS OF BULK AT MOST 1048576: true; the input reads as it did. -/
def mazeChecksUptoRow : OpenClaim := { program := "ytgbjbgdnldklpaa", sum := "dc9e6dea1bfbcafee202451290700dceae741af3c1a4764f3eac8acc529cf8a9", func := "mizmaze/mizmazelaw10.MazeChecks", spec := "mazeChecks", unfollowed := true, recurses := true, apart := false, narrowed := true }
def MazeChecksUptoSaid : Prop := mazeChecksUptoRow.holds Try.pinned (OpenSpec.upto mazeChecksSpec)

/-- 'mizmazelaw10.MazeLonger', WHERE WHAT IT READS IS OF BULK AT MOST 1048576: true; the input reads as it did. -/
def mazeLongerUptoRow : OpenClaim := { program := "ytgbjbgdnldklpaa", sum := "dc9e6dea1bfbcafee202451290700dceae741af3c1a4764f3eac8acc529cf8a9", func := "mizmaze/mizmazelaw10.MazeLonger", spec := "mazeLonger", unfollowed := true, recurses := true, apart := false, narrowed := true }
def MazeLongerUptoSaid : Prop := mazeLongerUptoRow.holds Try.pinned (OpenSpec.upto mazeLongerSpec)

/-- 'mizmazelaw10.MazeBack', WHERE WHAT IT READS IS OF BULK AT MOST 1048576: true; the input reads as it did. -/
def mazeBackUptoRow : OpenClaim := { program := "ytgbjbgdnldklpaa", sum := "dc9e6dea1bfbcafee202451290700dceae741af3c1a4764f3eac8acc529cf8a9", func := "mizmaze/mizmazelaw10.MazeBack", spec := "mazeBack", unfollowed := true, recurses := true, apart := false, narrowed := true }
def MazeBackUptoSaid : Prop := mazeBackUptoRow.holds Try.pinned (OpenSpec.upto mazeBackSpec)

/-- 'mizmazelaw10.MazeNames', WHERE WHAT IT READS IS OF BULK AT MOST 1048576: true; the input reads as it did. -/
def mazeNamesUptoRow : OpenClaim := { program := "ytgbjbgdnldklpaa", sum := "dc9e6dea1bfbcafee202451290700dceae741af3c1a4764f3eac8acc529cf8a9", func := "mizmaze/mizmazelaw10.MazeNames", spec := "mazeNames", unfollowed := true, recurses := true, apart := false, narrowed := true }
def MazeNamesUptoSaid : Prop := mazeNamesUptoRow.holds Try.pinned (OpenSpec.upto mazeNamesSpec)

/-- 'mizmazelaw10.MazeUniversal', WHERE WHAT IT READS IS OF BULK AT MOST 1048576: true; the input reads as it did. -/
def mazeUniversalUptoRow : OpenClaim := { program := "ytgbjbgdnldklpaa", sum := "dc9e6dea1bfbcafee202451290700dceae741af3c1a4764f3eac8acc529cf8a9", func := "mizmaze/mizmazelaw10.MazeUniversal", spec := "mazeUniversal", unfollowed := true, recurses := true, apart := false, narrowed := true }
def MazeUniversalUptoSaid : Prop := mazeUniversalUptoRow.holds Try.pinned (OpenSpec.upto mazeUniversalSpec)

/-- 'mizmazetop.TopMaze', WHERE WHAT IT READS IS OF BULK AT MOST 1048576: true; the input reads as it did. -/
def topMazeUptoRow : OpenClaim := { program := "ytgbjbgdnldklpaa", sum := "dc9e6dea1bfbcafee202451290700dceae741af3c1a4764f3eac8acc529cf8a9", func := "mizmaze/mizmazetop.TopMaze", spec := "topMaze", unfollowed := true, recurses := true, apart := false, narrowed := true }
def TopMazeUptoSaid : Prop := topMazeUptoRow.holds Try.pinned (OpenSpec.upto topMazeSpec)

/-- 'mizmazelaw10.MazeWalks', WHERE WHAT IT READS IS OF BULK AT MOST 1048576: true; the input reads as it did. -/
def mazeWalksUptoRow : OpenClaim := { program := "ytgbjbgdnldklpaa", sum := "dc9e6dea1bfbcafee202451290700dceae741af3c1a4764f3eac8acc529cf8a9", func := "mizmaze/mizmazelaw10.MazeWalks", spec := "mazeWalks", unfollowed := true, recurses := true, apart := false, narrowed := true }
def MazeWalksUptoSaid : Prop := mazeWalksUptoRow.holds Try.pinned (OpenSpec.upto mazeWalksSpec)

/-- 'mizmazelaw10.MazeHome', WHERE WHAT IT READS IS OF BULK AT MOST 1048576: true; the input reads as it did. -/
def mazeHomeUptoRow : OpenClaim := { program := "ytgbjbgdnldklpaa", sum := "dc9e6dea1bfbcafee202451290700dceae741af3c1a4764f3eac8acc529cf8a9", func := "mizmaze/mizmazelaw10.MazeHome", spec := "mazeHome", unfollowed := true, recurses := true, apart := false, narrowed := true }
def MazeHomeUptoSaid : Prop := mazeHomeUptoRow.holds Try.pinned (OpenSpec.upto mazeHomeSpec)

end Rows
end Go.Proofs.Ytgbjbgdnldklpaa
