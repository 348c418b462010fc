/-
  No cell of these rows narrows 'for every input' (looked for: loops, veiled, ifaces, maps, wideKeys, modest, calm, conditions, laid).
  DERIVED. THE GIVEN ROWS OF THIS SEAT. 13 by the template 'for every input the law returns true; each argument reads behind the call as it read before'; 0 by the template 'total and deterministic' (their statements: YtjgdalhdiohclaaTotals.lean).
  GIVEN WITH THE SEED: the statements are not yours to turn. If you find one false, say at which input.
  Laid BY PROGRAM, IN A SANDBOX (cutbox-rows.mjs): the forced cells as the released guide's own fill.sh prints them over the translation 27411d2cee003ebe… (all of the seat's roots in one cut). By AI agents, Wed Nov 11 2026. No macro, syntax, notation, axiom, sorry.
-/
import Derived.Test.YtjgdalhdiohclaaChecked
import GoSem.Claim
import GoSem.ClaimJoined
import GoSem.ClaimMapViews
import Derived.JoinedTies
import Derived.KernelRfl
namespace Go.Proofs.Ytjgdalhdiohclaa
/- THE CELL 'sum', in the pinned program and in every row, IS THE sha256 OF THE DUMP (.gsa) THAT YtjgdalhdiohclaaProg.lean LOADS. Nothing in Lean hashes anything: it is a label: what it is worth is what the hold of that sum in a sandbox is worth. -/
noncomputable def Try.pinned : Pinned := { name := "ytjgdalhdiohclaa", sum := "27411d2cee003ebed78b3d1456cc7cf5e6eb22d0c7c46aebb5c36819e4306b5b", checked := Try.checked }
namespace Rows
def none {H : Type} : Left H := { results := [], args := [] }

/-- 'mizmazelaw02.NetPaths': WHATEVER THE INPUT: true; the input reads as it did. -/
def netPathsSpec : ChangeSpec := { name := "netPaths", fn := fun _ => fun
  | [d1, d2, d3] => { results := [.lit (.bool true)], args := [d1, d2, d3] }
  | _ => none }
def netPathsRow : OpenClaim := { program := "ytjgdalhdiohclaa", sum := "27411d2cee003ebed78b3d1456cc7cf5e6eb22d0c7c46aebb5c36819e4306b5b", func := "mizmaze/mizmazelaw02.NetPaths", spec := "netPaths", unfollowed := true, recurses := true, plainKeys := false, apart := false }
def NetPathsSaid : Prop := netPathsRow.holds Try.pinned (OpenSpec.ofChange netPathsSpec)

/-- ITS FALSE NEIGHBOUR: 'it returns false'. Refute it at one input. -/
def netPathsWrong : ChangeSpec := { name := "netPaths", fn := fun _ => fun
  | [d1, d2, d3] => { results := [.lit (.bool false)], args := [d1, d2, d3] }
  | _ => none }
def NetPathsWrongFalsely : Prop := netPathsRow.holds Try.pinned (OpenSpec.ofChange netPathsWrong)

/-- 'mizmazelaw02.NetSinks': WHATEVER THE INPUT: true; the input reads as it did. -/
def netSinksSpec : ChangeSpec := { name := "netSinks", fn := fun _ => fun
  | [d] => { results := [.lit (.bool true)], args := [d] }
  | _ => none }
def netSinksRow : OpenClaim := { program := "ytjgdalhdiohclaa", sum := "27411d2cee003ebed78b3d1456cc7cf5e6eb22d0c7c46aebb5c36819e4306b5b", func := "mizmaze/mizmazelaw02.NetSinks", spec := "netSinks", unfollowed := true, recurses := true, plainKeys := false, apart := false }
def NetSinksSaid : Prop := netSinksRow.holds Try.pinned (OpenSpec.ofChange netSinksSpec)

/-- ITS FALSE NEIGHBOUR: 'it returns false'. Refute it at one input. -/
def netSinksWrong : ChangeSpec := { name := "netSinks", fn := fun _ => fun
  | [d] => { results := [.lit (.bool false)], args := [d] }
  | _ => none }
def NetSinksWrongFalsely : Prop := netSinksRow.holds Try.pinned (OpenSpec.ofChange netSinksWrong)

/-- 'mizmazelaw02.NetLengths': WHATEVER THE INPUT: true; the input reads as it did. -/
def netLengthsSpec : ChangeSpec := { name := "netLengths", fn := fun _ => fun
  | [d1, d2] => { results := [.lit (.bool true)], args := [d1, d2] }
  | _ => none }
def netLengthsRow : OpenClaim := { program := "ytjgdalhdiohclaa", sum := "27411d2cee003ebed78b3d1456cc7cf5e6eb22d0c7c46aebb5c36819e4306b5b", func := "mizmaze/mizmazelaw02.NetLengths", spec := "netLengths", unfollowed := true, recurses := true, plainKeys := false, apart := false }
def NetLengthsSaid : Prop := netLengthsRow.holds Try.pinned (OpenSpec.ofChange netLengthsSpec)

/-- ITS FALSE NEIGHBOUR: 'it returns false'. Refute it at one input. -/
def netLengthsWrong : ChangeSpec := { name := "netLengths", fn := fun _ => fun
  | [d1, d2] => { results := [.lit (.bool false)], args := [d1, d2] }
  | _ => none }
def NetLengthsWrongFalsely : Prop := netLengthsRow.holds Try.pinned (OpenSpec.ofChange netLengthsWrong)

/-- 'mizmazelaw02.NetClasses': WHATEVER THE INPUT: true; the input reads as it did. -/
def netClassesSpec : ChangeSpec := { name := "netClasses", fn := fun _ => fun
  | [d1, d2, d3] => { results := [.lit (.bool true)], args := [d1, d2, d3] }
  | _ => none }
def netClassesRow : OpenClaim := { program := "ytjgdalhdiohclaa", sum := "27411d2cee003ebed78b3d1456cc7cf5e6eb22d0c7c46aebb5c36819e4306b5b", func := "mizmaze/mizmazelaw02.NetClasses", spec := "netClasses", unfollowed := true, recurses := true, plainKeys := false, apart := false }
def NetClassesSaid : Prop := netClassesRow.holds Try.pinned (OpenSpec.ofChange netClassesSpec)

/-- ITS FALSE NEIGHBOUR: 'it returns false'. Refute it at one input. -/
def netClassesWrong : ChangeSpec := { name := "netClasses", fn := fun _ => fun
  | [d1, d2, d3] => { results := [.lit (.bool false)], args := [d1, d2, d3] }
  | _ => none }
def NetClassesWrongFalsely : Prop := netClassesRow.holds Try.pinned (OpenSpec.ofChange netClassesWrong)

/-- 'mizmazelaw02.NetEnds': WHATEVER THE INPUT: true; the input reads as it did. -/
def netEndsSpec : ChangeSpec := { name := "netEnds", fn := fun _ => fun
  | [d1, d2] => { results := [.lit (.bool true)], args := [d1, d2] }
  | _ => none }
def netEndsRow : OpenClaim := { program := "ytjgdalhdiohclaa", sum := "27411d2cee003ebed78b3d1456cc7cf5e6eb22d0c7c46aebb5c36819e4306b5b", func := "mizmaze/mizmazelaw02.NetEnds", spec := "netEnds", unfollowed := true, recurses := true, plainKeys := false, apart := false }
def NetEndsSaid : Prop := netEndsRow.holds Try.pinned (OpenSpec.ofChange netEndsSpec)

/-- ITS FALSE NEIGHBOUR: 'it returns false'. Refute it at one input. -/
def netEndsWrong : ChangeSpec := { name := "netEnds", fn := fun _ => fun
  | [d1, d2] => { results := [.lit (.bool false)], args := [d1, d2] }
  | _ => none }
def NetEndsWrongFalsely : Prop := netEndsRow.holds Try.pinned (OpenSpec.ofChange netEndsWrong)

/-- 'mizmazelaw02.NetReset': WHATEVER THE INPUT: true; the input reads as it did. -/
def netResetSpec : ChangeSpec := { name := "netReset", fn := fun _ => fun
  | [d1, d2] => { results := [.lit (.bool true)], args := [d1, d2] }
  | _ => none }
def netResetRow : OpenClaim := { program := "ytjgdalhdiohclaa", sum := "27411d2cee003ebed78b3d1456cc7cf5e6eb22d0c7c46aebb5c36819e4306b5b", func := "mizmaze/mizmazelaw02.NetReset", spec := "netReset", unfollowed := true, recurses := true, plainKeys := false, apart := false }
def NetResetSaid : Prop := netResetRow.holds Try.pinned (OpenSpec.ofChange netResetSpec)

/-- ITS FALSE NEIGHBOUR: 'it returns false'. Refute it at one input. -/
def netResetWrong : ChangeSpec := { name := "netReset", fn := fun _ => fun
  | [d1, d2] => { results := [.lit (.bool false)], args := [d1, d2] }
  | _ => none }
def NetResetWrongFalsely : Prop := netResetRow.holds Try.pinned (OpenSpec.ofChange netResetWrong)

/-- 'mizmazelaw05.ColorMakes': WHATEVER THE INPUT: true; the input reads as it did. -/
def colorMakesSpec : ChangeSpec := { name := "colorMakes", fn := fun _ => fun
  | [d1, d2, d3] => { results := [.lit (.bool true)], args := [d1, d2, d3] }
  | _ => none }
def colorMakesRow : OpenClaim := { program := "ytjgdalhdiohclaa", sum := "27411d2cee003ebed78b3d1456cc7cf5e6eb22d0c7c46aebb5c36819e4306b5b", func := "mizmaze/mizmazelaw05.ColorMakes", spec := "colorMakes", unfollowed := true, recurses := true, plainKeys := false, apart := false }
def ColorMakesSaid : Prop := colorMakesRow.holds Try.pinned (OpenSpec.ofChange colorMakesSpec)

/-- ITS FALSE NEIGHBOUR: 'it returns false'. Refute it at one input. -/
def colorMakesWrong : ChangeSpec := { name := "colorMakes", fn := fun _ => fun
  | [d1, d2, d3] => { results := [.lit (.bool false)], args := [d1, d2, d3] }
  | _ => none }
def ColorMakesWrongFalsely : Prop := colorMakesRow.holds Try.pinned (OpenSpec.ofChange colorMakesWrong)

/-- 'mizmazelaw05.ColorCounts': WHATEVER THE INPUT: true; the input reads as it did. -/
def colorCountsSpec : ChangeSpec := { name := "colorCounts", fn := fun _ => fun
  | [d] => { results := [.lit (.bool true)], args := [d] }
  | _ => none }
def colorCountsRow : OpenClaim := { program := "ytjgdalhdiohclaa", sum := "27411d2cee003ebed78b3d1456cc7cf5e6eb22d0c7c46aebb5c36819e4306b5b", func := "mizmaze/mizmazelaw05.ColorCounts", spec := "colorCounts", unfollowed := true, recurses := true, plainKeys := false, apart := false }
def ColorCountsSaid : Prop := colorCountsRow.holds Try.pinned (OpenSpec.ofChange colorCountsSpec)

/-- ITS FALSE NEIGHBOUR: 'it returns false'. Refute it at one input. -/
def colorCountsWrong : ChangeSpec := { name := "colorCounts", fn := fun _ => fun
  | [d] => { results := [.lit (.bool false)], args := [d] }
  | _ => none }
def ColorCountsWrongFalsely : Prop := colorCountsRow.holds Try.pinned (OpenSpec.ofChange colorCountsWrong)

/-- 'mizmazelaw05.ColorRoads': WHATEVER THE INPUT: true; the input reads as it did. -/
def colorRoadsSpec : ChangeSpec := { name := "colorRoads", fn := fun _ => fun
  | [d] => { results := [.lit (.bool true)], args := [d] }
  | _ => none }
def colorRoadsRow : OpenClaim := { program := "ytjgdalhdiohclaa", sum := "27411d2cee003ebed78b3d1456cc7cf5e6eb22d0c7c46aebb5c36819e4306b5b", func := "mizmaze/mizmazelaw05.ColorRoads", spec := "colorRoads", unfollowed := true, recurses := true, plainKeys := false, apart := false }
def ColorRoadsSaid : Prop := colorRoadsRow.holds Try.pinned (OpenSpec.ofChange colorRoadsSpec)

/-- ITS FALSE NEIGHBOUR: 'it returns false'. Refute it at one input. -/
def colorRoadsWrong : ChangeSpec := { name := "colorRoads", fn := fun _ => fun
  | [d] => { results := [.lit (.bool false)], args := [d] }
  | _ => none }
def ColorRoadsWrongFalsely : Prop := colorRoadsRow.holds Try.pinned (OpenSpec.ofChange colorRoadsWrong)

/-- 'mizmazelaw05.ColorPeriods': WHATEVER THE INPUT: true; the input reads as it did. -/
def colorPeriodsSpec : ChangeSpec := { name := "colorPeriods", fn := fun _ => fun
  | [d1, d2, d3] => { results := [.lit (.bool true)], args := [d1, d2, d3] }
  | _ => none }
def colorPeriodsRow : OpenClaim := { program := "ytjgdalhdiohclaa", sum := "27411d2cee003ebed78b3d1456cc7cf5e6eb22d0c7c46aebb5c36819e4306b5b", func := "mizmaze/mizmazelaw05.ColorPeriods", spec := "colorPeriods", unfollowed := true, recurses := true, plainKeys := false, apart := false }
def ColorPeriodsSaid : Prop := colorPeriodsRow.holds Try.pinned (OpenSpec.ofChange colorPeriodsSpec)

/-- ITS FALSE NEIGHBOUR: 'it returns false'. Refute it at one input. -/
def colorPeriodsWrong : ChangeSpec := { name := "colorPeriods", fn := fun _ => fun
  | [d1, d2, d3] => { results := [.lit (.bool false)], args := [d1, d2, d3] }
  | _ => none }
def ColorPeriodsWrongFalsely : Prop := colorPeriodsRow.holds Try.pinned (OpenSpec.ofChange colorPeriodsWrong)

/-- 'mizmazelaw05.ColorAlike': WHATEVER THE INPUT: true; the input reads as it did. -/
def colorAlikeSpec : ChangeSpec := { name := "colorAlike", fn := fun _ => fun
  | [d1, d2, d3] => { results := [.lit (.bool true)], args := [d1, d2, d3] }
  | _ => none }
def colorAlikeRow : OpenClaim := { program := "ytjgdalhdiohclaa", sum := "27411d2cee003ebed78b3d1456cc7cf5e6eb22d0c7c46aebb5c36819e4306b5b", func := "mizmaze/mizmazelaw05.ColorAlike", spec := "colorAlike", unfollowed := true, recurses := true, plainKeys := false, apart := false }
def ColorAlikeSaid : Prop := colorAlikeRow.holds Try.pinned (OpenSpec.ofChange colorAlikeSpec)

/-- ITS FALSE NEIGHBOUR: 'it returns false'. Refute it at one input. -/
def colorAlikeWrong : ChangeSpec := { name := "colorAlike", fn := fun _ => fun
  | [d1, d2, d3] => { results := [.lit (.bool false)], args := [d1, d2, d3] }
  | _ => none }
def ColorAlikeWrongFalsely : Prop := colorAlikeRow.holds Try.pinned (OpenSpec.ofChange colorAlikeWrong)

/-- 'mizmazetop.TopRoad': WHATEVER THE INPUT: true; the input reads as it did. -/
def topRoadSpec : ChangeSpec := { name := "topRoad", fn := fun _ => fun
  | [d1, d2, d3] => { results := [.lit (.bool true)], args := [d1, d2, d3] }
  | _ => none }
def topRoadRow : OpenClaim := { program := "ytjgdalhdiohclaa", sum := "27411d2cee003ebed78b3d1456cc7cf5e6eb22d0c7c46aebb5c36819e4306b5b", func := "mizmaze/mizmazetop.TopRoad", spec := "topRoad", unfollowed := true, recurses := true, plainKeys := false, apart := false }
def TopRoadSaid : Prop := topRoadRow.holds Try.pinned (OpenSpec.ofChange topRoadSpec)

/-- ITS FALSE NEIGHBOUR: 'it returns false'. Refute it at one input. -/
def topRoadWrong : ChangeSpec := { name := "topRoad", fn := fun _ => fun
  | [d1, d2, d3] => { results := [.lit (.bool false)], args := [d1, d2, d3] }
  | _ => none }
def TopRoadWrongFalsely : Prop := topRoadRow.holds Try.pinned (OpenSpec.ofChange topRoadWrong)

/-- 'mizmazetop.TopColours': WHATEVER THE INPUT: true; the input reads as it did. -/
def topColoursSpec : ChangeSpec := { name := "topColours", fn := fun _ => fun
  | [d1, d2] => { results := [.lit (.bool true)], args := [d1, d2] }
  | _ => none }
def topColoursRow : OpenClaim := { program := "ytjgdalhdiohclaa", sum := "27411d2cee003ebed78b3d1456cc7cf5e6eb22d0c7c46aebb5c36819e4306b5b", func := "mizmaze/mizmazetop.TopColours", spec := "topColours", unfollowed := true, recurses := true, plainKeys := false, apart := false }
def TopColoursSaid : Prop := topColoursRow.holds Try.pinned (OpenSpec.ofChange topColoursSpec)

/-- ITS FALSE NEIGHBOUR: 'it returns false'. Refute it at one input. -/
def topColoursWrong : ChangeSpec := { name := "topColours", fn := fun _ => fun
  | [d1, d2] => { results := [.lit (.bool false)], args := [d1, d2] }
  | _ => none }
def TopColoursWrongFalsely : Prop := topColoursRow.holds Try.pinned (OpenSpec.ofChange topColoursWrong)

/- THE SECOND FORM. 'bulk': how many values and letters a reading holds, each counted each time it is reached (what is shared counts as often as it is met; a slice's spare places count too). A statement '..UptoSaid' is the law's where the arguments, and the package variables that the reading takes, are together of bulk at most 1048576: NARROWER than '..Said'. Prove '..Said' where nothing that the law and all that it calls make is longer than what came in: it says more and counts as full. Else prove '..UptoSaid'. A law counts once. -/
mutual
def uptoBulk {H : Type} : DataW H → Nat
  | .lit (.string bytes) => bytes.length + 1
  | .lit _ => 1
  | .nil => 1
  | .ptr d => uptoBulk d + 1
  | .slice elems spare => uptoBulkAll elems + uptoBulkAll spare + 1
  | .agg parts => uptoBulkAll parts + 1
  | .iface _ d => uptoBulk d + 1
  | .map entries => uptoBulkEntries entries + 1
  | .held _ => 1
def uptoBulkAll {H : Type} : List (DataW H) → Nat
  | [] => 0
  | d :: r => uptoBulk d + uptoBulkAll r
def uptoBulkEntries {H : Type} : List (Lit × DataW H) → Nat
  | [] => 0
  | x :: r => uptoBulkEntry x + uptoBulkEntries r
def uptoBulkEntry {H : Type} : Lit × DataW H → Nat
  | (.string bytes, d) => bytes.length + uptoBulk d + 1
  | (_, d) => uptoBulk d + 1
 end
def uptoSmall : (H : Type) → List (DataW H) → Bool := fun _ ds => decide (uptoBulkAll ds ≤ 1048576)
def OpenSpec.upto (s : _root_.Go.ChangeSpec) : _root_.Go.OpenSpec := { _root_.Go.OpenSpec.ofChange s with cond := some uptoSmall }

/-- 'mizmazelaw02.NetPaths', WHERE WHAT IT READS IS OF BULK AT MOST 1048576: true; the input reads as it did. -/
def netPathsUptoRow : OpenClaim := { program := "ytjgdalhdiohclaa", sum := "27411d2cee003ebed78b3d1456cc7cf5e6eb22d0c7c46aebb5c36819e4306b5b", func := "mizmaze/mizmazelaw02.NetPaths", spec := "netPaths", unfollowed := true, recurses := true, plainKeys := false, apart := false, narrowed := true }
def NetPathsUptoSaid : Prop := netPathsUptoRow.holds Try.pinned (OpenSpec.upto netPathsSpec)

/-- 'mizmazelaw02.NetSinks', WHERE WHAT IT READS IS OF BULK AT MOST 1048576: true; the input reads as it did. -/
def netSinksUptoRow : OpenClaim := { program := "ytjgdalhdiohclaa", sum := "27411d2cee003ebed78b3d1456cc7cf5e6eb22d0c7c46aebb5c36819e4306b5b", func := "mizmaze/mizmazelaw02.NetSinks", spec := "netSinks", unfollowed := true, recurses := true, plainKeys := false, apart := false, narrowed := true }
def NetSinksUptoSaid : Prop := netSinksUptoRow.holds Try.pinned (OpenSpec.upto netSinksSpec)

/-- 'mizmazelaw02.NetLengths', WHERE WHAT IT READS IS OF BULK AT MOST 1048576: true; the input reads as it did. -/
def netLengthsUptoRow : OpenClaim := { program := "ytjgdalhdiohclaa", sum := "27411d2cee003ebed78b3d1456cc7cf5e6eb22d0c7c46aebb5c36819e4306b5b", func := "mizmaze/mizmazelaw02.NetLengths", spec := "netLengths", unfollowed := true, recurses := true, plainKeys := false, apart := false, narrowed := true }
def NetLengthsUptoSaid : Prop := netLengthsUptoRow.holds Try.pinned (OpenSpec.upto netLengthsSpec)

/-- 'mizmazelaw02.NetClasses', WHERE WHAT IT READS IS OF BULK AT MOST 1048576: true; the input reads as it did. -/
def netClassesUptoRow : OpenClaim := { program := "ytjgdalhdiohclaa", sum := "27411d2cee003ebed78b3d1456cc7cf5e6eb22d0c7c46aebb5c36819e4306b5b", func := "mizmaze/mizmazelaw02.NetClasses", spec := "netClasses", unfollowed := true, recurses := true, plainKeys := false, apart := false, narrowed := true }
def NetClassesUptoSaid : Prop := netClassesUptoRow.holds Try.pinned (OpenSpec.upto netClassesSpec)

/-- 'mizmazelaw02.NetEnds', WHERE WHAT IT READS IS OF BULK AT MOST 1048576: true; the input reads as it did. -/
def netEndsUptoRow : OpenClaim := { program := "ytjgdalhdiohclaa", sum := "27411d2cee003ebed78b3d1456cc7cf5e6eb22d0c7c46aebb5c36819e4306b5b", func := "mizmaze/mizmazelaw02.NetEnds", spec := "netEnds", unfollowed := true, recurses := true, plainKeys := false, apart := false, narrowed := true }
def NetEndsUptoSaid : Prop := netEndsUptoRow.holds Try.pinned (OpenSpec.upto netEndsSpec)

/-- 'mizmazelaw02.NetReset', WHERE WHAT IT READS IS OF BULK AT MOST 1048576: true; the input reads as it did. -/
def netResetUptoRow : OpenClaim := { program := "ytjgdalhdiohclaa", sum := "27411d2cee003ebed78b3d1456cc7cf5e6eb22d0c7c46aebb5c36819e4306b5b", func := "mizmaze/mizmazelaw02.NetReset", spec := "netReset", unfollowed := true, recurses := true, plainKeys := false, apart := false, narrowed := true }
def NetResetUptoSaid : Prop := netResetUptoRow.holds Try.pinned (OpenSpec.upto netResetSpec)

/-- 'mizmazelaw05.ColorMakes', WHERE WHAT IT READS IS OF BULK AT MOST 1048576: true; the input reads as it did. -/
def colorMakesUptoRow : OpenClaim := { program := "ytjgdalhdiohclaa", sum := "27411d2cee003ebed78b3d1456cc7cf5e6eb22d0c7c46aebb5c36819e4306b5b", func := "mizmaze/mizmazelaw05.ColorMakes", spec := "colorMakes", unfollowed := true, recurses := true, plainKeys := false, apart := false, narrowed := true }
def ColorMakesUptoSaid : Prop := colorMakesUptoRow.holds Try.pinned (OpenSpec.upto colorMakesSpec)

/-- 'mizmazelaw05.ColorCounts', WHERE WHAT IT READS IS OF BULK AT MOST 1048576: true; the input reads as it did. -/
def colorCountsUptoRow : OpenClaim := { program := "ytjgdalhdiohclaa", sum := "27411d2cee003ebed78b3d1456cc7cf5e6eb22d0c7c46aebb5c36819e4306b5b", func := "mizmaze/mizmazelaw05.ColorCounts", spec := "colorCounts", unfollowed := true, recurses := true, plainKeys := false, apart := false, narrowed := true }
def ColorCountsUptoSaid : Prop := colorCountsUptoRow.holds Try.pinned (OpenSpec.upto colorCountsSpec)

/-- 'mizmazelaw05.ColorRoads', WHERE WHAT IT READS IS OF BULK AT MOST 1048576: true; the input reads as it did. -/
def colorRoadsUptoRow : OpenClaim := { program := "ytjgdalhdiohclaa", sum := "27411d2cee003ebed78b3d1456cc7cf5e6eb22d0c7c46aebb5c36819e4306b5b", func := "mizmaze/mizmazelaw05.ColorRoads", spec := "colorRoads", unfollowed := true, recurses := true, plainKeys := false, apart := false, narrowed := true }
def ColorRoadsUptoSaid : Prop := colorRoadsUptoRow.holds Try.pinned (OpenSpec.upto colorRoadsSpec)

/-- 'mizmazelaw05.ColorPeriods', WHERE WHAT IT READS IS OF BULK AT MOST 1048576: true; the input reads as it did. -/
def colorPeriodsUptoRow : OpenClaim := { program := "ytjgdalhdiohclaa", sum := "27411d2cee003ebed78b3d1456cc7cf5e6eb22d0c7c46aebb5c36819e4306b5b", func := "mizmaze/mizmazelaw05.ColorPeriods", spec := "colorPeriods", unfollowed := true, recurses := true, plainKeys := false, apart := false, narrowed := true }
def ColorPeriodsUptoSaid : Prop := colorPeriodsUptoRow.holds Try.pinned (OpenSpec.upto colorPeriodsSpec)

/-- 'mizmazelaw05.ColorAlike', WHERE WHAT IT READS IS OF BULK AT MOST 1048576: true; the input reads as it did. -/
def colorAlikeUptoRow : OpenClaim := { program := "ytjgdalhdiohclaa", sum := "27411d2cee003ebed78b3d1456cc7cf5e6eb22d0c7c46aebb5c36819e4306b5b", func := "mizmaze/mizmazelaw05.ColorAlike", spec := "colorAlike", unfollowed := true, recurses := true, plainKeys := false, apart := false, narrowed := true }
def ColorAlikeUptoSaid : Prop := colorAlikeUptoRow.holds Try.pinned (OpenSpec.upto colorAlikeSpec)

/-- 'mizmazetop.TopRoad', WHERE WHAT IT READS IS OF BULK AT MOST 1048576: true; the input reads as it did. -/
def topRoadUptoRow : OpenClaim := { program := "ytjgdalhdiohclaa", sum := "27411d2cee003ebed78b3d1456cc7cf5e6eb22d0c7c46aebb5c36819e4306b5b", func := "mizmaze/mizmazetop.TopRoad", spec := "topRoad", unfollowed := true, recurses := true, plainKeys := false, apart := false, narrowed := true }
def TopRoadUptoSaid : Prop := topRoadUptoRow.holds Try.pinned (OpenSpec.upto topRoadSpec)

/-- 'mizmazetop.TopColours', WHERE WHAT IT READS IS OF BULK AT MOST 1048576: true; the input reads as it did. -/
def topColoursUptoRow : OpenClaim := { program := "ytjgdalhdiohclaa", sum := "27411d2cee003ebed78b3d1456cc7cf5e6eb22d0c7c46aebb5c36819e4306b5b", func := "mizmaze/mizmazetop.TopColours", spec := "topColours", unfollowed := true, recurses := true, plainKeys := false, apart := false, narrowed := true }
def TopColoursUptoSaid : Prop := topColoursUptoRow.holds Try.pinned (OpenSpec.upto topColoursSpec)

end Rows
end Go.Proofs.Ytjgdalhdiohclaa
