/-
  No cell of these rows narrows 'for every input' (looked for: loops, veiled, ifaces, maps, wideKeys, modest, calm, conditions, laid).
  DERIVED. THE GIVEN ROWS OF THIS SEAT. 6 by the template 'for every input the law returns true; each argument reads behind the call as it read before'; 0 by the template 'total and deterministic' (their statements: YtcpmmkennnjalaaTotals.lean).
  GIVEN WITH THE SEED: the statements are not yours to turn. If you find one false, say at which input.
  Laid BY PROGRAM, IN A SANDBOX (cutbox-rows.mjs): the forced cells as the released guide's own fill.sh prints them over the translation 9bd9974ef06ce43f… (all of the seat's roots in one cut). By AI agents, Wed Nov 11 2026. No macro, syntax, notation, axiom, sorry.
-/
import Derived.Test.YtcpmmkennnjalaaChecked
import GoSem.Claim
import GoSem.ClaimJoined
import GoSem.ClaimMapViews
import Derived.JoinedTies
import Derived.KernelRfl
namespace Go.Proofs.Ytcpmmkennnjalaa
/- THE CELL 'sum', in the pinned program and in every row, IS THE sha256 OF THE DUMP (.gsa) THAT YtcpmmkennnjalaaProg.lean LOADS. Nothing in Lean hashes anything: it is a label: what it is worth is what the hold of that sum in a sandbox is worth. -/
noncomputable def Try.pinned : Pinned := { name := "ytcpmmkennnjalaa", sum := "9bd9974ef06ce43fe52207ba5ee35d3951b7ba9224d62763de2a411c7e014f2f", checked := Try.checked }
namespace Rows
def none {H : Type} : Left H := { results := [], args := [] }

/-- 'mizmazelaw06.EulerKinds': WHATEVER THE INPUT: true; the input reads as it did. -/
def eulerKindsSpec : ChangeSpec := { name := "eulerKinds", fn := fun _ => fun
  | [d] => { results := [.lit (.bool true)], args := [d] }
  | _ => none }
def eulerKindsRow : OpenClaim := { program := "ytcpmmkennnjalaa", sum := "9bd9974ef06ce43fe52207ba5ee35d3951b7ba9224d62763de2a411c7e014f2f", func := "mizmaze/mizmazelaw06.EulerKinds", spec := "eulerKinds", unfollowed := true, recurses := true, plainKeys := false, apart := false }
def EulerKindsSaid : Prop := eulerKindsRow.holds Try.pinned (OpenSpec.ofChange eulerKindsSpec)

/-- ITS FALSE NEIGHBOUR: 'it returns false'. Refute it at one input. -/
def eulerKindsWrong : ChangeSpec := { name := "eulerKinds", fn := fun _ => fun
  | [d] => { results := [.lit (.bool false)], args := [d] }
  | _ => none }
def EulerKindsWrongFalsely : Prop := eulerKindsRow.holds Try.pinned (OpenSpec.ofChange eulerKindsWrong)

/-- 'mizmazelaw06.EulerExtends': WHATEVER THE INPUT: true; the input reads as it did. -/
def eulerExtendsSpec : ChangeSpec := { name := "eulerExtends", fn := fun _ => fun
  | [d1, d2] => { results := [.lit (.bool true)], args := [d1, d2] }
  | _ => none }
def eulerExtendsRow : OpenClaim := { program := "ytcpmmkennnjalaa", sum := "9bd9974ef06ce43fe52207ba5ee35d3951b7ba9224d62763de2a411c7e014f2f", func := "mizmaze/mizmazelaw06.EulerExtends", spec := "eulerExtends", unfollowed := true, recurses := true, plainKeys := false, apart := false }
def EulerExtendsSaid : Prop := eulerExtendsRow.holds Try.pinned (OpenSpec.ofChange eulerExtendsSpec)

/-- ITS FALSE NEIGHBOUR: 'it returns false'. Refute it at one input. -/
def eulerExtendsWrong : ChangeSpec := { name := "eulerExtends", fn := fun _ => fun
  | [d1, d2] => { results := [.lit (.bool false)], args := [d1, d2] }
  | _ => none }
def EulerExtendsWrongFalsely : Prop := eulerExtendsRow.holds Try.pinned (OpenSpec.ofChange eulerExtendsWrong)

/-- 'mizmazelaw06.EulerKari': WHATEVER THE INPUT: true; the input reads as it did. -/
def eulerKariSpec : ChangeSpec := { name := "eulerKari", fn := fun _ => fun
  | [d1, d2] => { results := [.lit (.bool true)], args := [d1, d2] }
  | _ => none }
def eulerKariRow : OpenClaim := { program := "ytcpmmkennnjalaa", sum := "9bd9974ef06ce43fe52207ba5ee35d3951b7ba9224d62763de2a411c7e014f2f", func := "mizmaze/mizmazelaw06.EulerKari", spec := "eulerKari", unfollowed := true, recurses := true, plainKeys := false, apart := false }
def EulerKariSaid : Prop := eulerKariRow.holds Try.pinned (OpenSpec.ofChange eulerKariSpec)

/-- ITS FALSE NEIGHBOUR: 'it returns false'. Refute it at one input. -/
def eulerKariWrong : ChangeSpec := { name := "eulerKari", fn := fun _ => fun
  | [d1, d2] => { results := [.lit (.bool false)], args := [d1, d2] }
  | _ => none }
def EulerKariWrongFalsely : Prop := eulerKariRow.holds Try.pinned (OpenSpec.ofChange eulerKariWrong)

/-- 'mizmazelaw06.EulerMeans': WHATEVER THE INPUT: true; the input reads as it did. -/
def eulerMeansSpec : ChangeSpec := { name := "eulerMeans", fn := fun _ => fun
  | [d1, d2] => { results := [.lit (.bool true)], args := [d1, d2] }
  | _ => none }
def eulerMeansRow : OpenClaim := { program := "ytcpmmkennnjalaa", sum := "9bd9974ef06ce43fe52207ba5ee35d3951b7ba9224d62763de2a411c7e014f2f", func := "mizmaze/mizmazelaw06.EulerMeans", spec := "eulerMeans", unfollowed := true, recurses := true, plainKeys := false, apart := false }
def EulerMeansSaid : Prop := eulerMeansRow.holds Try.pinned (OpenSpec.ofChange eulerMeansSpec)

/-- ITS FALSE NEIGHBOUR: 'it returns false'. Refute it at one input. -/
def eulerMeansWrong : ChangeSpec := { name := "eulerMeans", fn := fun _ => fun
  | [d1, d2] => { results := [.lit (.bool false)], args := [d1, d2] }
  | _ => none }
def EulerMeansWrongFalsely : Prop := eulerMeansRow.holds Try.pinned (OpenSpec.ofChange eulerMeansWrong)

/-- 'mizmazelaw06.EulerBounds': WHATEVER THE INPUT: true; the input reads as it did. -/
def eulerBoundsSpec : ChangeSpec := { name := "eulerBounds", fn := fun _ => fun
  | [d] => { results := [.lit (.bool true)], args := [d] }
  | _ => none }
def eulerBoundsRow : OpenClaim := { program := "ytcpmmkennnjalaa", sum := "9bd9974ef06ce43fe52207ba5ee35d3951b7ba9224d62763de2a411c7e014f2f", func := "mizmaze/mizmazelaw06.EulerBounds", spec := "eulerBounds", unfollowed := true, recurses := true, plainKeys := false, apart := false }
def EulerBoundsSaid : Prop := eulerBoundsRow.holds Try.pinned (OpenSpec.ofChange eulerBoundsSpec)

/-- ITS FALSE NEIGHBOUR: 'it returns false'. Refute it at one input. -/
def eulerBoundsWrong : ChangeSpec := { name := "eulerBounds", fn := fun _ => fun
  | [d] => { results := [.lit (.bool false)], args := [d] }
  | _ => none }
def EulerBoundsWrongFalsely : Prop := eulerBoundsRow.holds Try.pinned (OpenSpec.ofChange eulerBoundsWrong)

/-- 'mizmazetop.TopKari': WHATEVER THE INPUT: true; the input reads as it did. -/
def topKariSpec : ChangeSpec := { name := "topKari", fn := fun _ => fun
  | [d1, d2] => { results := [.lit (.bool true)], args := [d1, d2] }
  | _ => none }
def topKariRow : OpenClaim := { program := "ytcpmmkennnjalaa", sum := "9bd9974ef06ce43fe52207ba5ee35d3951b7ba9224d62763de2a411c7e014f2f", func := "mizmaze/mizmazetop.TopKari", spec := "topKari", unfollowed := true, recurses := true, plainKeys := false, apart := false }
def TopKariSaid : Prop := topKariRow.holds Try.pinned (OpenSpec.ofChange topKariSpec)

/-- ITS FALSE NEIGHBOUR: 'it returns false'. Refute it at one input. -/
def topKariWrong : ChangeSpec := { name := "topKari", fn := fun _ => fun
  | [d1, d2] => { results := [.lit (.bool false)], args := [d1, d2] }
  | _ => none }
def TopKariWrongFalsely : Prop := topKariRow.holds Try.pinned (OpenSpec.ofChange topKariWrong)

/- THE SECOND FORM. 'bulk': how many values and letters a reading holds, each counted each time it is reached (what is shared counts as often as it is met; a slice's spare places count too). A statement '..UptoSaid' is the law's where the arguments, and the package variables that the reading takes, are together of bulk at most 1048576: NARROWER than '..Said'. Prove '..Said' where nothing that the law and all that it calls make is longer than what came in: it says more and counts as full. Else prove '..UptoSaid'. A law counts once. -/
mutual
def uptoBulk {H : Type} : DataW H → Nat
  | .lit (.string bytes) => bytes.length + 1
  | .lit _ => 1
  | .nil => 1
  | .ptr d => uptoBulk d + 1
  | .slice elems spare => uptoBulkAll elems + uptoBulkAll spare + 1
  | .agg parts => uptoBulkAll parts + 1
  | .iface _ d => uptoBulk d + 1
  | .map entries => uptoBulkEntries entries + 1
  | .held _ => 1
def uptoBulkAll {H : Type} : List (DataW H) → Nat
  | [] => 0
  | d :: r => uptoBulk d + uptoBulkAll r
def uptoBulkEntries {H : Type} : List (Lit × DataW H) → Nat
  | [] => 0
  | x :: r => uptoBulkEntry x + uptoBulkEntries r
def uptoBulkEntry {H : Type} : Lit × DataW H → Nat
  | (.string bytes, d) => bytes.length + uptoBulk d + 1
  | (_, d) => uptoBulk d + 1
 end
def uptoSmall : (H : Type) → List (DataW H) → Bool := fun _ ds => decide (uptoBulkAll ds ≤ 1048576)
def OpenSpec.upto (s : _root_.Go.ChangeSpec) : _root_.Go.OpenSpec := { _root_.Go.OpenSpec.ofChange s with cond := some uptoSmall }

/-- 'mizmazelaw06.EulerKinds', WHERE WHAT IT READS IS OF BULK AT MOST 1048576: true; the input reads as it did. -/
def eulerKindsUptoRow : OpenClaim := { program := "ytcpmmkennnjalaa", sum := "9bd9974ef06ce43fe52207ba5ee35d3951b7ba9224d62763de2a411c7e014f2f", func := "mizmaze/mizmazelaw06.EulerKinds", spec := "eulerKinds", unfollowed := true, recurses := true, plainKeys := false, apart := false, narrowed := true }
def EulerKindsUptoSaid : Prop := eulerKindsUptoRow.holds Try.pinned (OpenSpec.upto eulerKindsSpec)

/-- 'mizmazelaw06.EulerExtends', WHERE WHAT IT READS IS OF BULK AT MOST 1048576: true; the input reads as it did. -/
def eulerExtendsUptoRow : OpenClaim := { program := "ytcpmmkennnjalaa", sum := "9bd9974ef06ce43fe52207ba5ee35d3951b7ba9224d62763de2a411c7e014f2f", func := "mizmaze/mizmazelaw06.EulerExtends", spec := "eulerExtends", unfollowed := true, recurses := true, plainKeys := false, apart := false, narrowed := true }
def EulerExtendsUptoSaid : Prop := eulerExtendsUptoRow.holds Try.pinned (OpenSpec.upto eulerExtendsSpec)

/-- 'mizmazelaw06.EulerKari', WHERE WHAT IT READS IS OF BULK AT MOST 1048576: true; the input reads as it did. -/
def eulerKariUptoRow : OpenClaim := { program := "ytcpmmkennnjalaa", sum := "9bd9974ef06ce43fe52207ba5ee35d3951b7ba9224d62763de2a411c7e014f2f", func := "mizmaze/mizmazelaw06.EulerKari", spec := "eulerKari", unfollowed := true, recurses := true, plainKeys := false, apart := false, narrowed := true }
def EulerKariUptoSaid : Prop := eulerKariUptoRow.holds Try.pinned (OpenSpec.upto eulerKariSpec)

/-- 'mizmazelaw06.EulerMeans', WHERE WHAT IT READS IS OF BULK AT MOST 1048576: true; the input reads as it did. -/
def eulerMeansUptoRow : OpenClaim := { program := "ytcpmmkennnjalaa", sum := "9bd9974ef06ce43fe52207ba5ee35d3951b7ba9224d62763de2a411c7e014f2f", func := "mizmaze/mizmazelaw06.EulerMeans", spec := "eulerMeans", unfollowed := true, recurses := true, plainKeys := false, apart := false, narrowed := true }
def EulerMeansUptoSaid : Prop := eulerMeansUptoRow.holds Try.pinned (OpenSpec.upto eulerMeansSpec)

/-- 'mizmazelaw06.EulerBounds', WHERE WHAT IT READS IS OF BULK AT MOST 1048576: true; the input reads as it did. -/
def eulerBoundsUptoRow : OpenClaim := { program := "ytcpmmkennnjalaa", sum := "9bd9974ef06ce43fe52207ba5ee35d3951b7ba9224d62763de2a411c7e014f2f", func := "mizmaze/mizmazelaw06.EulerBounds", spec := "eulerBounds", unfollowed := true, recurses := true, plainKeys := false, apart := false, narrowed := true }
def EulerBoundsUptoSaid : Prop := eulerBoundsUptoRow.holds Try.pinned (OpenSpec.upto eulerBoundsSpec)

/-- 'mizmazetop.TopKari', WHERE WHAT IT READS IS OF BULK AT MOST 1048576: true; the input reads as it did. -/
def topKariUptoRow : OpenClaim := { program := "ytcpmmkennnjalaa", sum := "9bd9974ef06ce43fe52207ba5ee35d3951b7ba9224d62763de2a411c7e014f2f", func := "mizmaze/mizmazetop.TopKari", spec := "topKari", unfollowed := true, recurses := true, plainKeys := false, apart := false, narrowed := true }
def TopKariUptoSaid : Prop := topKariUptoRow.holds Try.pinned (OpenSpec.upto topKariSpec)

end Rows
end Go.Proofs.Ytcpmmkennnjalaa
