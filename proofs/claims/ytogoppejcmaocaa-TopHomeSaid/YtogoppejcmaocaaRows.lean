/-
  No cell of these rows narrows 'for every input' (looked for: loops, veiled, ifaces, maps, wideKeys, modest, calm, conditions, laid).
  DERIVED. THE GIVEN ROWS OF THIS SEAT. 12 by the template 'for every input the law returns true; each argument reads behind the call as it read before'; 0 by the template 'total and deterministic' (their statements: YtogoppejcmaocaaTotals.lean).
  GIVEN WITH THE SEED: the statements are not yours to turn. If you find one false, say at which input.
  Laid BY PROGRAM, IN A SANDBOX (cutbox-rows.mjs): the forced cells as the released guide's own fill.sh prints them over the translation bad730d3daae5856… (all of the seat's roots in one cut). By AI agents, Wed Nov 11 2026. No macro, syntax, notation, axiom, sorry.
-/
import Derived.Test.YtogoppejcmaocaaChecked
import GoSem.Claim
import GoSem.ClaimJoined
import GoSem.ClaimMapViews
import Derived.JoinedTies
import Derived.KernelRfl
namespace Go.Proofs.Ytogoppejcmaocaa
/- THE CELL 'sum', in the pinned program and in every row, IS THE sha256 OF THE DUMP (.gsa) THAT YtogoppejcmaocaaProg.lean LOADS. Nothing in Lean hashes anything: it is a label: what it is worth is what the hold of that sum in a sandbox is worth. -/
noncomputable def Try.pinned : Pinned := { name := "ytogoppejcmaocaa", sum := "bad730d3daae58568c83fcdd56a022010a45a015d11cb913799daf9fb7621432", checked := Try.checked }
namespace Rows
def none {H : Type} : Left H := { results := [], args := [] }

/-- 'mizmazelaw04.ShortFinds': WHATEVER THE INPUT: true; the input reads as it did. -/
def shortFindsSpec : ChangeSpec := { name := "shortFinds", fn := fun _ => fun
  | [d] => { results := [.lit (.bool true)], args := [d] }
  | _ => none }
def shortFindsRow : OpenClaim := { program := "ytogoppejcmaocaa", sum := "bad730d3daae58568c83fcdd56a022010a45a015d11cb913799daf9fb7621432", func := "mizmaze/mizmazelaw04.ShortFinds", spec := "shortFinds", unfollowed := true, recurses := true, plainKeys := false, apart := false }
def ShortFindsSaid : Prop := shortFindsRow.holds Try.pinned (OpenSpec.ofChange shortFindsSpec)

/-- ITS FALSE NEIGHBOUR: 'it returns false'. Refute it at one input. -/
def shortFindsWrong : ChangeSpec := { name := "shortFinds", fn := fun _ => fun
  | [d] => { results := [.lit (.bool false)], args := [d] }
  | _ => none }
def ShortFindsWrongFalsely : Prop := shortFindsRow.holds Try.pinned (OpenSpec.ofChange shortFindsWrong)

/-- 'mizmazelaw04.ShortRanks': WHATEVER THE INPUT: true; the input reads as it did. -/
def shortRanksSpec : ChangeSpec := { name := "shortRanks", fn := fun _ => fun
  | [d] => { results := [.lit (.bool true)], args := [d] }
  | _ => none }
def shortRanksRow : OpenClaim := { program := "ytogoppejcmaocaa", sum := "bad730d3daae58568c83fcdd56a022010a45a015d11cb913799daf9fb7621432", func := "mizmaze/mizmazelaw04.ShortRanks", spec := "shortRanks", unfollowed := true, recurses := true, plainKeys := false, apart := false }
def ShortRanksSaid : Prop := shortRanksRow.holds Try.pinned (OpenSpec.ofChange shortRanksSpec)

/-- ITS FALSE NEIGHBOUR: 'it returns false'. Refute it at one input. -/
def shortRanksWrong : ChangeSpec := { name := "shortRanks", fn := fun _ => fun
  | [d] => { results := [.lit (.bool false)], args := [d] }
  | _ => none }
def ShortRanksWrongFalsely : Prop := shortRanksRow.holds Try.pinned (OpenSpec.ofChange shortRanksWrong)

/-- 'mizmazelaw04.ShortCerny': WHATEVER THE INPUT: true; the input reads as it did. -/
def shortCernySpec : ChangeSpec := { name := "shortCerny", fn := fun _ => fun
  | [d] => { results := [.lit (.bool true)], args := [d] }
  | _ => none }
def shortCernyRow : OpenClaim := { program := "ytogoppejcmaocaa", sum := "bad730d3daae58568c83fcdd56a022010a45a015d11cb913799daf9fb7621432", func := "mizmaze/mizmazelaw04.ShortCerny", spec := "shortCerny", unfollowed := true, recurses := true, plainKeys := false, apart := false }
def ShortCernySaid : Prop := shortCernyRow.holds Try.pinned (OpenSpec.ofChange shortCernySpec)

/-- ITS FALSE NEIGHBOUR: 'it returns false'. Refute it at one input. -/
def shortCernyWrong : ChangeSpec := { name := "shortCerny", fn := fun _ => fun
  | [d] => { results := [.lit (.bool false)], args := [d] }
  | _ => none }
def ShortCernyWrongFalsely : Prop := shortCernyRow.holds Try.pinned (OpenSpec.ofChange shortCernyWrong)

/-- 'mizmazetop.TopCerny': WHATEVER THE INPUT: true; the input reads as it did. -/
def topCernySpec : ChangeSpec := { name := "topCerny", fn := fun _ => fun
  | [] => { results := [.lit (.bool true)], args := [] }
  | _ => none }
def topCernyRow : OpenClaim := { program := "ytogoppejcmaocaa", sum := "bad730d3daae58568c83fcdd56a022010a45a015d11cb913799daf9fb7621432", func := "mizmaze/mizmazetop.TopCerny", spec := "topCerny", unfollowed := true, recurses := true, plainKeys := false, apart := false }
def TopCernySaid : Prop := topCernyRow.holds Try.pinned (OpenSpec.ofChange topCernySpec)

/-- ITS FALSE NEIGHBOUR: 'it returns false'. Refute it at one input. -/
def topCernyWrong : ChangeSpec := { name := "topCerny", fn := fun _ => fun
  | [] => { results := [.lit (.bool false)], args := [] }
  | _ => none }
def TopCernyWrongFalsely : Prop := topCernyRow.holds Try.pinned (OpenSpec.ofChange topCernyWrong)

/-- 'mizmazetop.TopHome': WHATEVER THE INPUT: true; the input reads as it did. -/
def topHomeSpec : ChangeSpec := { name := "topHome", fn := fun _ => fun
  | [d1, d2, d3] => { results := [.lit (.bool true)], args := [d1, d2, d3] }
  | _ => none }
def topHomeRow : OpenClaim := { program := "ytogoppejcmaocaa", sum := "bad730d3daae58568c83fcdd56a022010a45a015d11cb913799daf9fb7621432", func := "mizmaze/mizmazetop.TopHome", spec := "topHome", unfollowed := true, recurses := true, plainKeys := false, apart := false }
def TopHomeSaid : Prop := topHomeRow.holds Try.pinned (OpenSpec.ofChange topHomeSpec)

/-- ITS FALSE NEIGHBOUR: 'it returns false'. Refute it at one input. -/
def topHomeWrong : ChangeSpec := { name := "topHome", fn := fun _ => fun
  | [d1, d2, d3] => { results := [.lit (.bool false)], args := [d1, d2, d3] }
  | _ => none }
def TopHomeWrongFalsely : Prop := topHomeRow.holds Try.pinned (OpenSpec.ofChange topHomeWrong)

/-- 'mizmazelaw03.ResetMerges': WHATEVER THE INPUT: true; the input reads as it did. -/
def resetMergesSpec : ChangeSpec := { name := "resetMerges", fn := fun _ => fun
  | [d1, d2, d3] => { results := [.lit (.bool true)], args := [d1, d2, d3] }
  | _ => none }
def resetMergesRow : OpenClaim := { program := "ytogoppejcmaocaa", sum := "bad730d3daae58568c83fcdd56a022010a45a015d11cb913799daf9fb7621432", func := "mizmaze/mizmazelaw03.ResetMerges", spec := "resetMerges", unfollowed := true, recurses := true, plainKeys := false, apart := false }
def ResetMergesSaid : Prop := resetMergesRow.holds Try.pinned (OpenSpec.ofChange resetMergesSpec)

/-- ITS FALSE NEIGHBOUR: 'it returns false'. Refute it at one input. -/
def resetMergesWrong : ChangeSpec := { name := "resetMerges", fn := fun _ => fun
  | [d1, d2, d3] => { results := [.lit (.bool false)], args := [d1, d2, d3] }
  | _ => none }
def ResetMergesWrongFalsely : Prop := resetMergesRow.holds Try.pinned (OpenSpec.ofChange resetMergesWrong)

/-- 'mizmazelaw03.ResetFinds': WHATEVER THE INPUT: true; the input reads as it did. -/
def resetFindsSpec : ChangeSpec := { name := "resetFinds", fn := fun _ => fun
  | [d] => { results := [.lit (.bool true)], args := [d] }
  | _ => none }
def resetFindsRow : OpenClaim := { program := "ytogoppejcmaocaa", sum := "bad730d3daae58568c83fcdd56a022010a45a015d11cb913799daf9fb7621432", func := "mizmaze/mizmazelaw03.ResetFinds", spec := "resetFinds", unfollowed := true, recurses := true, plainKeys := false, apart := false }
def ResetFindsSaid : Prop := resetFindsRow.holds Try.pinned (OpenSpec.ofChange resetFindsSpec)

/-- ITS FALSE NEIGHBOUR: 'it returns false'. Refute it at one input. -/
def resetFindsWrong : ChangeSpec := { name := "resetFinds", fn := fun _ => fun
  | [d] => { results := [.lit (.bool false)], args := [d] }
  | _ => none }
def ResetFindsWrongFalsely : Prop := resetFindsRow.holds Try.pinned (OpenSpec.ofChange resetFindsWrong)

/-- 'mizmazelaw03.ResetClosed': WHATEVER THE INPUT: true; the input reads as it did. -/
def resetClosedSpec : ChangeSpec := { name := "resetClosed", fn := fun _ => fun
  | [d1, d2, d3] => { results := [.lit (.bool true)], args := [d1, d2, d3] }
  | _ => none }
def resetClosedRow : OpenClaim := { program := "ytogoppejcmaocaa", sum := "bad730d3daae58568c83fcdd56a022010a45a015d11cb913799daf9fb7621432", func := "mizmaze/mizmazelaw03.ResetClosed", spec := "resetClosed", unfollowed := true, recurses := true, plainKeys := false, apart := false }
def ResetClosedSaid : Prop := resetClosedRow.holds Try.pinned (OpenSpec.ofChange resetClosedSpec)

/-- ITS FALSE NEIGHBOUR: 'it returns false'. Refute it at one input. -/
def resetClosedWrong : ChangeSpec := { name := "resetClosed", fn := fun _ => fun
  | [d1, d2, d3] => { results := [.lit (.bool false)], args := [d1, d2, d3] }
  | _ => none }
def ResetClosedWrongFalsely : Prop := resetClosedRow.holds Try.pinned (OpenSpec.ofChange resetClosedWrong)

/-- 'mizmazelaw04.ShortLeast': WHATEVER THE INPUT: true; the input reads as it did. -/
def shortLeastSpec : ChangeSpec := { name := "shortLeast", fn := fun _ => fun
  | [d1, d2] => { results := [.lit (.bool true)], args := [d1, d2] }
  | _ => none }
def shortLeastRow : OpenClaim := { program := "ytogoppejcmaocaa", sum := "bad730d3daae58568c83fcdd56a022010a45a015d11cb913799daf9fb7621432", func := "mizmaze/mizmazelaw04.ShortLeast", spec := "shortLeast", unfollowed := true, recurses := true, plainKeys := false, apart := false }
def ShortLeastSaid : Prop := shortLeastRow.holds Try.pinned (OpenSpec.ofChange shortLeastSpec)

/-- ITS FALSE NEIGHBOUR: 'it returns false'. Refute it at one input. -/
def shortLeastWrong : ChangeSpec := { name := "shortLeast", fn := fun _ => fun
  | [d1, d2] => { results := [.lit (.bool false)], args := [d1, d2] }
  | _ => none }
def ShortLeastWrongFalsely : Prop := shortLeastRow.holds Try.pinned (OpenSpec.ofChange shortLeastWrong)

/-- 'mizmazelaw03.ResetMerged': WHATEVER THE INPUT: true; the input reads as it did. -/
def resetMergedSpec : ChangeSpec := { name := "resetMerged", fn := fun _ => fun
  | [d1, d2, d3, d4] => { results := [.lit (.bool true)], args := [d1, d2, d3, d4] }
  | _ => none }
def resetMergedRow : OpenClaim := { program := "ytogoppejcmaocaa", sum := "bad730d3daae58568c83fcdd56a022010a45a015d11cb913799daf9fb7621432", func := "mizmaze/mizmazelaw03.ResetMerged", spec := "resetMerged", unfollowed := true, recurses := true, plainKeys := false, apart := false }
def ResetMergedSaid : Prop := resetMergedRow.holds Try.pinned (OpenSpec.ofChange resetMergedSpec)

/-- ITS FALSE NEIGHBOUR: 'it returns false'. Refute it at one input. -/
def resetMergedWrong : ChangeSpec := { name := "resetMerged", fn := fun _ => fun
  | [d1, d2, d3, d4] => { results := [.lit (.bool false)], args := [d1, d2, d3, d4] }
  | _ => none }
def ResetMergedWrongFalsely : Prop := resetMergedRow.holds Try.pinned (OpenSpec.ofChange resetMergedWrong)

/-- 'mizmazelaw03.ResetMore': WHATEVER THE INPUT: true; the input reads as it did. -/
def resetMoreSpec : ChangeSpec := { name := "resetMore", fn := fun _ => fun
  | [d1, d2, d3] => { results := [.lit (.bool true)], args := [d1, d2, d3] }
  | _ => none }
def resetMoreRow : OpenClaim := { program := "ytogoppejcmaocaa", sum := "bad730d3daae58568c83fcdd56a022010a45a015d11cb913799daf9fb7621432", func := "mizmaze/mizmazelaw03.ResetMore", spec := "resetMore", unfollowed := true, recurses := true, plainKeys := false, apart := false }
def ResetMoreSaid : Prop := resetMoreRow.holds Try.pinned (OpenSpec.ofChange resetMoreSpec)

/-- ITS FALSE NEIGHBOUR: 'it returns false'. Refute it at one input. -/
def resetMoreWrong : ChangeSpec := { name := "resetMore", fn := fun _ => fun
  | [d1, d2, d3] => { results := [.lit (.bool false)], args := [d1, d2, d3] }
  | _ => none }
def ResetMoreWrongFalsely : Prop := resetMoreRow.holds Try.pinned (OpenSpec.ofChange resetMoreWrong)

/-- 'mizmazelaw04.ShortSmall': WHATEVER THE INPUT: true; the input reads as it did. -/
def shortSmallSpec : ChangeSpec := { name := "shortSmall", fn := fun _ => fun
  | [d1, d2] => { results := [.lit (.bool true)], args := [d1, d2] }
  | _ => none }
def shortSmallRow : OpenClaim := { program := "ytogoppejcmaocaa", sum := "bad730d3daae58568c83fcdd56a022010a45a015d11cb913799daf9fb7621432", func := "mizmaze/mizmazelaw04.ShortSmall", spec := "shortSmall", unfollowed := true, recurses := true, plainKeys := false, apart := false }
def ShortSmallSaid : Prop := shortSmallRow.holds Try.pinned (OpenSpec.ofChange shortSmallSpec)

/-- ITS FALSE NEIGHBOUR: 'it returns false'. Refute it at one input. -/
def shortSmallWrong : ChangeSpec := { name := "shortSmall", fn := fun _ => fun
  | [d1, d2] => { results := [.lit (.bool false)], args := [d1, d2] }
  | _ => none }
def ShortSmallWrongFalsely : Prop := shortSmallRow.holds Try.pinned (OpenSpec.ofChange shortSmallWrong)

/- THE SECOND FORM. 'bulk': how many values and letters a reading holds, each counted each time it is reached (what is shared counts as often as it is met; a slice's spare places count too). A statement '..UptoSaid' is the law's where the arguments, and the package variables that the reading takes, are together of bulk at most 1048576: NARROWER than '..Said'. Prove '..Said' where nothing that the law and all that it calls make is longer than what came in: it says more and counts as full. Else prove '..UptoSaid'. A law counts once. -/
mutual
def uptoBulk {H : Type} : DataW H → Nat
  | .lit (.string bytes) => bytes.length + 1
  | .lit _ => 1
  | .nil => 1
  | .ptr d => uptoBulk d + 1
  | .slice elems spare => uptoBulkAll elems + uptoBulkAll spare + 1
  | .agg parts => uptoBulkAll parts + 1
  | .iface _ d => uptoBulk d + 1
  | .map entries => uptoBulkEntries entries + 1
  | .held _ => 1
def uptoBulkAll {H : Type} : List (DataW H) → Nat
  | [] => 0
  | d :: r => uptoBulk d + uptoBulkAll r
def uptoBulkEntries {H : Type} : List (Lit × DataW H) → Nat
  | [] => 0
  | x :: r => uptoBulkEntry x + uptoBulkEntries r
def uptoBulkEntry {H : Type} : Lit × DataW H → Nat
  | (.string bytes, d) => bytes.length + uptoBulk d + 1
  | (_, d) => uptoBulk d + 1
 end
def uptoSmall : (H : Type) → List (DataW H) → Bool := fun _ ds => decide (uptoBulkAll ds ≤ 1048576)
def OpenSpec.upto (s : _root_.Go.ChangeSpec) : _root_.Go.OpenSpec := { _root_.Go.OpenSpec.ofChange s with cond := some uptoSmall }

/-- 'mizmazelaw04.ShortFinds', WHERE WHAT IT READS IS OF BULK AT MOST 1048576: true; the input reads as it did. -/
def shortFindsUptoRow : OpenClaim := { program := "ytogoppejcmaocaa", sum := "bad730d3daae58568c83fcdd56a022010a45a015d11cb913799daf9fb7621432", func := "mizmaze/mizmazelaw04.ShortFinds", spec := "shortFinds", unfollowed := true, recurses := true, plainKeys := false, apart := false, narrowed := true }
def ShortFindsUptoSaid : Prop := shortFindsUptoRow.holds Try.pinned (OpenSpec.upto shortFindsSpec)

/-- 'mizmazelaw04.ShortRanks', WHERE WHAT IT READS IS OF BULK AT MOST 1048576: true; the input reads as it did. -/
def shortRanksUptoRow : OpenClaim := { program := "ytogoppejcmaocaa", sum := "bad730d3daae58568c83fcdd56a022010a45a015d11cb913799daf9fb7621432", func := "mizmaze/mizmazelaw04.ShortRanks", spec := "shortRanks", unfollowed := true, recurses := true, plainKeys := false, apart := false, narrowed := true }
def ShortRanksUptoSaid : Prop := shortRanksUptoRow.holds Try.pinned (OpenSpec.upto shortRanksSpec)

/-- 'mizmazelaw04.ShortCerny', WHERE WHAT IT READS IS OF BULK AT MOST 1048576: true; the input reads as it did. -/
def shortCernyUptoRow : OpenClaim := { program := "ytogoppejcmaocaa", sum := "bad730d3daae58568c83fcdd56a022010a45a015d11cb913799daf9fb7621432", func := "mizmaze/mizmazelaw04.ShortCerny", spec := "shortCerny", unfollowed := true, recurses := true, plainKeys := false, apart := false, narrowed := true }
def ShortCernyUptoSaid : Prop := shortCernyUptoRow.holds Try.pinned (OpenSpec.upto shortCernySpec)

/-- 'mizmazetop.TopCerny', WHERE WHAT IT READS IS OF BULK AT MOST 1048576: true; the input reads as it did. -/
def topCernyUptoRow : OpenClaim := { program := "ytogoppejcmaocaa", sum := "bad730d3daae58568c83fcdd56a022010a45a015d11cb913799daf9fb7621432", func := "mizmaze/mizmazetop.TopCerny", spec := "topCerny", unfollowed := true, recurses := true, plainKeys := false, apart := false, narrowed := true }
def TopCernyUptoSaid : Prop := topCernyUptoRow.holds Try.pinned (OpenSpec.upto topCernySpec)

/-- 'mizmazetop.TopHome', WHERE WHAT IT READS IS OF BULK AT MOST 1048576: true; the input reads as it did. -/
def topHomeUptoRow : OpenClaim := { program := "ytogoppejcmaocaa", sum := "bad730d3daae58568c83fcdd56a022010a45a015d11cb913799daf9fb7621432", func := "mizmaze/mizmazetop.TopHome", spec := "topHome", unfollowed := true, recurses := true, plainKeys := false, apart := false, narrowed := true }
def TopHomeUptoSaid : Prop := topHomeUptoRow.holds Try.pinned (OpenSpec.upto topHomeSpec)

/-- 'mizmazelaw03.ResetMerges', WHERE WHAT IT READS IS OF BULK AT MOST 1048576: true; the input reads as it did. -/
def resetMergesUptoRow : OpenClaim := { program := "ytogoppejcmaocaa", sum := "bad730d3daae58568c83fcdd56a022010a45a015d11cb913799daf9fb7621432", func := "mizmaze/mizmazelaw03.ResetMerges", spec := "resetMerges", unfollowed := true, recurses := true, plainKeys := false, apart := false, narrowed := true }
def ResetMergesUptoSaid : Prop := resetMergesUptoRow.holds Try.pinned (OpenSpec.upto resetMergesSpec)

/-- 'mizmazelaw03.ResetFinds', WHERE WHAT IT READS IS OF BULK AT MOST 1048576: true; the input reads as it did. -/
def resetFindsUptoRow : OpenClaim := { program := "ytogoppejcmaocaa", sum := "bad730d3daae58568c83fcdd56a022010a45a015d11cb913799daf9fb7621432", func := "mizmaze/mizmazelaw03.ResetFinds", spec := "resetFinds", unfollowed := true, recurses := true, plainKeys := false, apart := false, narrowed := true }
def ResetFindsUptoSaid : Prop := resetFindsUptoRow.holds Try.pinned (OpenSpec.upto resetFindsSpec)

/-- 'mizmazelaw03.ResetClosed', WHERE WHAT IT READS IS OF BULK AT MOST 1048576: true; the input reads as it did. -/
def resetClosedUptoRow : OpenClaim := { program := "ytogoppejcmaocaa", sum := "bad730d3daae58568c83fcdd56a022010a45a015d11cb913799daf9fb7621432", func := "mizmaze/mizmazelaw03.ResetClosed", spec := "resetClosed", unfollowed := true, recurses := true, plainKeys := false, apart := false, narrowed := true }
def ResetClosedUptoSaid : Prop := resetClosedUptoRow.holds Try.pinned (OpenSpec.upto resetClosedSpec)

/-- 'mizmazelaw04.ShortLeast', WHERE WHAT IT READS IS OF BULK AT MOST 1048576: true; the input reads as it did. -/
def shortLeastUptoRow : OpenClaim := { program := "ytogoppejcmaocaa", sum := "bad730d3daae58568c83fcdd56a022010a45a015d11cb913799daf9fb7621432", func := "mizmaze/mizmazelaw04.ShortLeast", spec := "shortLeast", unfollowed := true, recurses := true, plainKeys := false, apart := false, narrowed := true }
def ShortLeastUptoSaid : Prop := shortLeastUptoRow.holds Try.pinned (OpenSpec.upto shortLeastSpec)

/-- 'mizmazelaw03.ResetMerged', WHERE WHAT IT READS IS OF BULK AT MOST 1048576: true; the input reads as it did. -/
def resetMergedUptoRow : OpenClaim := { program := "ytogoppejcmaocaa", sum := "bad730d3daae58568c83fcdd56a022010a45a015d11cb913799daf9fb7621432", func := "mizmaze/mizmazelaw03.ResetMerged", spec := "resetMerged", unfollowed := true, recurses := true, plainKeys := false, apart := false, narrowed := true }
def ResetMergedUptoSaid : Prop := resetMergedUptoRow.holds Try.pinned (OpenSpec.upto resetMergedSpec)

/-- 'mizmazelaw03.ResetMore', WHERE WHAT IT READS IS OF BULK AT MOST 1048576: true; the input reads as it did. -/
def resetMoreUptoRow : OpenClaim := { program := "ytogoppejcmaocaa", sum := "bad730d3daae58568c83fcdd56a022010a45a015d11cb913799daf9fb7621432", func := "mizmaze/mizmazelaw03.ResetMore", spec := "resetMore", unfollowed := true, recurses := true, plainKeys := false, apart := false, narrowed := true }
def ResetMoreUptoSaid : Prop := resetMoreUptoRow.holds Try.pinned (OpenSpec.upto resetMoreSpec)

/-- 'mizmazelaw04.ShortSmall', WHERE WHAT IT READS IS OF BULK AT MOST 1048576: true; the input reads as it did. -/
def shortSmallUptoRow : OpenClaim := { program := "ytogoppejcmaocaa", sum := "bad730d3daae58568c83fcdd56a022010a45a015d11cb913799daf9fb7621432", func := "mizmaze/mizmazelaw04.ShortSmall", spec := "shortSmall", unfollowed := true, recurses := true, plainKeys := false, apart := false, narrowed := true }
def ShortSmallUptoSaid : Prop := shortSmallUptoRow.holds Try.pinned (OpenSpec.upto shortSmallSpec)

end Rows
end Go.Proofs.Ytogoppejcmaocaa
