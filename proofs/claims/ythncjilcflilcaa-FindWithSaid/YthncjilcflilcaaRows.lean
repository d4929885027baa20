/-
  No cell of these rows narrows 'for every input' (looked for: loops, veiled, ifaces, maps, wideKeys, modest, calm, conditions, laid).
  DERIVED. THE GIVEN ROWS OF THIS SEAT. 14 by the template 'for every input the law returns true; each argument reads behind the call as it read before'; 0 by the template 'total and deterministic' (their statements: YthncjilcflilcaaTotals.lean).
  GIVEN WITH THE SEED: the statements are not yours to turn. If you find one false, say at which input.
  Laid BY PROGRAM, IN A SANDBOX (cutbox-rows.mjs): the forced cells as the released guide's own fill.sh prints them over the translation c5cb3b2d6df55425… (all of the seat's roots in one cut). By AI agents, Wed Nov 11 2026. No macro, syntax, notation, axiom, sorry.
-/
import Derived.Test.YthncjilcflilcaaChecked
import GoSem.Claim
import GoSem.ClaimJoined
import GoSem.ClaimMapViews
import Derived.JoinedTies
import Derived.KernelRfl
namespace Go.Proofs.Ythncjilcflilcaa
/- THE CELL 'sum', in the pinned program and in every row, IS THE sha256 OF THE DUMP (.gsa) THAT YthncjilcflilcaaProg.lean LOADS. Nothing in Lean hashes anything: it is a label: what it is worth is what the hold of that sum in a sandbox is worth. -/
noncomputable def Try.pinned : Pinned := { name := "ythncjilcflilcaa", sum := "c5cb3b2d6df554256ca2e1718534b4047169a8a1d69d83a5650822170fe65032", checked := Try.checked }
namespace Rows
def none {H : Type} : Left H := { results := [], args := [] }

/-- 'oyezlaw06.FindChanged': WHATEVER THE INPUT: true; the input reads as it did. -/
def findChangedSpec : ChangeSpec := { name := "findChanged", fn := fun _ => fun
  | [d1, d2] => { results := [.lit (.bool true)], args := [d1, d2] }
  | _ => none }
def findChangedRow : OpenClaim := { program := "ythncjilcflilcaa", sum := "c5cb3b2d6df554256ca2e1718534b4047169a8a1d69d83a5650822170fe65032", func := "oyez/oyezlaw06.FindChanged", spec := "findChanged", unfollowed := true, recurses := true, plainKeys := false, apart := false }
def FindChangedSaid : Prop := findChangedRow.holds Try.pinned (OpenSpec.ofChange findChangedSpec)

/-- ITS FALSE NEIGHBOUR: 'it returns false'. Refute it at one input. -/
def findChangedWrong : ChangeSpec := { name := "findChanged", fn := fun _ => fun
  | [d1, d2] => { results := [.lit (.bool false)], args := [d1, d2] }
  | _ => none }
def FindChangedWrongFalsely : Prop := findChangedRow.holds Try.pinned (OpenSpec.ofChange findChangedWrong)

/-- 'oyezlaw06.FindAsks': WHATEVER THE INPUT: true; the input reads as it did. -/
def findAsksSpec : ChangeSpec := { name := "findAsks", fn := fun _ => fun
  | [d] => { results := [.lit (.bool true)], args := [d] }
  | _ => none }
def findAsksRow : OpenClaim := { program := "ythncjilcflilcaa", sum := "c5cb3b2d6df554256ca2e1718534b4047169a8a1d69d83a5650822170fe65032", func := "oyez/oyezlaw06.FindAsks", spec := "findAsks", unfollowed := true, recurses := true, plainKeys := false, apart := false }
def FindAsksSaid : Prop := findAsksRow.holds Try.pinned (OpenSpec.ofChange findAsksSpec)

/-- ITS FALSE NEIGHBOUR: 'it returns false'. Refute it at one input. -/
def findAsksWrong : ChangeSpec := { name := "findAsks", fn := fun _ => fun
  | [d] => { results := [.lit (.bool false)], args := [d] }
  | _ => none }
def FindAsksWrongFalsely : Prop := findAsksRow.holds Try.pinned (OpenSpec.ofChange findAsksWrong)

/-- 'oyezlaw06.FindAsked': WHATEVER THE INPUT: true; the input reads as it did. -/
def findAskedSpec : ChangeSpec := { name := "findAsked", fn := fun _ => fun
  | [d] => { results := [.lit (.bool true)], args := [d] }
  | _ => none }
def findAskedRow : OpenClaim := { program := "ythncjilcflilcaa", sum := "c5cb3b2d6df554256ca2e1718534b4047169a8a1d69d83a5650822170fe65032", func := "oyez/oyezlaw06.FindAsked", spec := "findAsked", unfollowed := true, recurses := true, plainKeys := false, apart := false }
def FindAskedSaid : Prop := findAskedRow.holds Try.pinned (OpenSpec.ofChange findAskedSpec)

/-- ITS FALSE NEIGHBOUR: 'it returns false'. Refute it at one input. -/
def findAskedWrong : ChangeSpec := { name := "findAsked", fn := fun _ => fun
  | [d] => { results := [.lit (.bool false)], args := [d] }
  | _ => none }
def FindAskedWrongFalsely : Prop := findAskedRow.holds Try.pinned (OpenSpec.ofChange findAskedWrong)

/-- 'oyezlaw06.FindWith': WHATEVER THE INPUT: true; the input reads as it did. -/
def findWithSpec : ChangeSpec := { name := "findWith", fn := fun _ => fun
  | [d1, d2, d3, d4] => { results := [.lit (.bool true)], args := [d1, d2, d3, d4] }
  | _ => none }
def findWithRow : OpenClaim := { program := "ythncjilcflilcaa", sum := "c5cb3b2d6df554256ca2e1718534b4047169a8a1d69d83a5650822170fe65032", func := "oyez/oyezlaw06.FindWith", spec := "findWith", unfollowed := true, recurses := true, plainKeys := false, apart := false }
def FindWithSaid : Prop := findWithRow.holds Try.pinned (OpenSpec.ofChange findWithSpec)

/-- ITS FALSE NEIGHBOUR: 'it returns false'. Refute it at one input. -/
def findWithWrong : ChangeSpec := { name := "findWith", fn := fun _ => fun
  | [d1, d2, d3, d4] => { results := [.lit (.bool false)], args := [d1, d2, d3, d4] }
  | _ => none }
def FindWithWrongFalsely : Prop := findWithRow.holds Try.pinned (OpenSpec.ofChange findWithWrong)

/-- 'oyezlaw06.FindPaid': WHATEVER THE INPUT: true; the input reads as it did. -/
def findPaidSpec : ChangeSpec := { name := "findPaid", fn := fun _ => fun
  | [d1, d2] => { results := [.lit (.bool true)], args := [d1, d2] }
  | _ => none }
def findPaidRow : OpenClaim := { program := "ythncjilcflilcaa", sum := "c5cb3b2d6df554256ca2e1718534b4047169a8a1d69d83a5650822170fe65032", func := "oyez/oyezlaw06.FindPaid", spec := "findPaid", unfollowed := true, recurses := true, plainKeys := false, apart := false }
def FindPaidSaid : Prop := findPaidRow.holds Try.pinned (OpenSpec.ofChange findPaidSpec)

/-- ITS FALSE NEIGHBOUR: 'it returns false'. Refute it at one input. -/
def findPaidWrong : ChangeSpec := { name := "findPaid", fn := fun _ => fun
  | [d1, d2] => { results := [.lit (.bool false)], args := [d1, d2] }
  | _ => none }
def FindPaidWrongFalsely : Prop := findPaidRow.holds Try.pinned (OpenSpec.ofChange findPaidWrong)

/-- 'oyezlaw06.FindFated': WHATEVER THE INPUT: true; the input reads as it did. -/
def findFatedSpec : ChangeSpec := { name := "findFated", fn := fun _ => fun
  | [d] => { results := [.lit (.bool true)], args := [d] }
  | _ => none }
def findFatedRow : OpenClaim := { program := "ythncjilcflilcaa", sum := "c5cb3b2d6df554256ca2e1718534b4047169a8a1d69d83a5650822170fe65032", func := "oyez/oyezlaw06.FindFated", spec := "findFated", unfollowed := true, recurses := true, plainKeys := false, apart := false }
def FindFatedSaid : Prop := findFatedRow.holds Try.pinned (OpenSpec.ofChange findFatedSpec)

/-- ITS FALSE NEIGHBOUR: 'it returns false'. Refute it at one input. -/
def findFatedWrong : ChangeSpec := { name := "findFated", fn := fun _ => fun
  | [d] => { results := [.lit (.bool false)], args := [d] }
  | _ => none }
def FindFatedWrongFalsely : Prop := findFatedRow.holds Try.pinned (OpenSpec.ofChange findFatedWrong)

/-- 'oyezlaw06.FindNamed': WHATEVER THE INPUT: true; the input reads as it did. -/
def findNamedSpec : ChangeSpec := { name := "findNamed", fn := fun _ => fun
  | [d1, d2] => { results := [.lit (.bool true)], args := [d1, d2] }
  | _ => none }
def findNamedRow : OpenClaim := { program := "ythncjilcflilcaa", sum := "c5cb3b2d6df554256ca2e1718534b4047169a8a1d69d83a5650822170fe65032", func := "oyez/oyezlaw06.FindNamed", spec := "findNamed", unfollowed := true, recurses := true, plainKeys := false, apart := false }
def FindNamedSaid : Prop := findNamedRow.holds Try.pinned (OpenSpec.ofChange findNamedSpec)

/-- ITS FALSE NEIGHBOUR: 'it returns false'. Refute it at one input. -/
def findNamedWrong : ChangeSpec := { name := "findNamed", fn := fun _ => fun
  | [d1, d2] => { results := [.lit (.bool false)], args := [d1, d2] }
  | _ => none }
def FindNamedWrongFalsely : Prop := findNamedRow.holds Try.pinned (OpenSpec.ofChange findNamedWrong)

/-- 'oyezlaw06.FindJoins': WHATEVER THE INPUT: true; the input reads as it did. -/
def findJoinsSpec : ChangeSpec := { name := "findJoins", fn := fun _ => fun
  | [d1, d2, d3, d4] => { results := [.lit (.bool true)], args := [d1, d2, d3, d4] }
  | _ => none }
def findJoinsRow : OpenClaim := { program := "ythncjilcflilcaa", sum := "c5cb3b2d6df554256ca2e1718534b4047169a8a1d69d83a5650822170fe65032", func := "oyez/oyezlaw06.FindJoins", spec := "findJoins", unfollowed := true, recurses := true, plainKeys := false, apart := false }
def FindJoinsSaid : Prop := findJoinsRow.holds Try.pinned (OpenSpec.ofChange findJoinsSpec)

/-- ITS FALSE NEIGHBOUR: 'it returns false'. Refute it at one input. -/
def findJoinsWrong : ChangeSpec := { name := "findJoins", fn := fun _ => fun
  | [d1, d2, d3, d4] => { results := [.lit (.bool false)], args := [d1, d2, d3, d4] }
  | _ => none }
def FindJoinsWrongFalsely : Prop := findJoinsRow.holds Try.pinned (OpenSpec.ofChange findJoinsWrong)

/-- 'oyezlaw06.FindMore': WHATEVER THE INPUT: true; the input reads as it did. -/
def findMoreSpec : ChangeSpec := { name := "findMore", fn := fun _ => fun
  | [d] => { results := [.lit (.bool true)], args := [d] }
  | _ => none }
def findMoreRow : OpenClaim := { program := "ythncjilcflilcaa", sum := "c5cb3b2d6df554256ca2e1718534b4047169a8a1d69d83a5650822170fe65032", func := "oyez/oyezlaw06.FindMore", spec := "findMore", unfollowed := true, recurses := true, plainKeys := false, apart := false }
def FindMoreSaid : Prop := findMoreRow.holds Try.pinned (OpenSpec.ofChange findMoreSpec)

/-- ITS FALSE NEIGHBOUR: 'it returns false'. Refute it at one input. -/
def findMoreWrong : ChangeSpec := { name := "findMore", fn := fun _ => fun
  | [d] => { results := [.lit (.bool false)], args := [d] }
  | _ => none }
def FindMoreWrongFalsely : Prop := findMoreRow.holds Try.pinned (OpenSpec.ofChange findMoreWrong)

/-- 'oyezlaw06.FindChange': WHATEVER THE INPUT: true; the input reads as it did. -/
def findChangeSpec : ChangeSpec := { name := "findChange", fn := fun _ => fun
  | [d1, d2, d3, d4] => { results := [.lit (.bool true)], args := [d1, d2, d3, d4] }
  | _ => none }
def findChangeRow : OpenClaim := { program := "ythncjilcflilcaa", sum := "c5cb3b2d6df554256ca2e1718534b4047169a8a1d69d83a5650822170fe65032", func := "oyez/oyezlaw06.FindChange", spec := "findChange", unfollowed := true, recurses := true, plainKeys := false, apart := false }
def FindChangeSaid : Prop := findChangeRow.holds Try.pinned (OpenSpec.ofChange findChangeSpec)

/-- ITS FALSE NEIGHBOUR: 'it returns false'. Refute it at one input. -/
def findChangeWrong : ChangeSpec := { name := "findChange", fn := fun _ => fun
  | [d1, d2, d3, d4] => { results := [.lit (.bool false)], args := [d1, d2, d3, d4] }
  | _ => none }
def FindChangeWrongFalsely : Prop := findChangeRow.holds Try.pinned (OpenSpec.ofChange findChangeWrong)

/-- 'oyezlaw06.FindBest': WHATEVER THE INPUT: true; the input reads as it did. -/
def findBestSpec : ChangeSpec := { name := "findBest", fn := fun _ => fun
  | [d] => { results := [.lit (.bool true)], args := [d] }
  | _ => none }
def findBestRow : OpenClaim := { program := "ythncjilcflilcaa", sum := "c5cb3b2d6df554256ca2e1718534b4047169a8a1d69d83a5650822170fe65032", func := "oyez/oyezlaw06.FindBest", spec := "findBest", unfollowed := true, recurses := true, plainKeys := false, apart := false }
def FindBestSaid : Prop := findBestRow.holds Try.pinned (OpenSpec.ofChange findBestSpec)

/-- ITS FALSE NEIGHBOUR: 'it returns false'. Refute it at one input. -/
def findBestWrong : ChangeSpec := { name := "findBest", fn := fun _ => fun
  | [d] => { results := [.lit (.bool false)], args := [d] }
  | _ => none }
def FindBestWrongFalsely : Prop := findBestRow.holds Try.pinned (OpenSpec.ofChange findBestWrong)

/-- 'oyezlaw06.FindJoined': WHATEVER THE INPUT: true; the input reads as it did. -/
def findJoinedSpec : ChangeSpec := { name := "findJoined", fn := fun _ => fun
  | [d1, d2] => { results := [.lit (.bool true)], args := [d1, d2] }
  | _ => none }
def findJoinedRow : OpenClaim := { program := "ythncjilcflilcaa", sum := "c5cb3b2d6df554256ca2e1718534b4047169a8a1d69d83a5650822170fe65032", func := "oyez/oyezlaw06.FindJoined", spec := "findJoined", unfollowed := true, recurses := true, plainKeys := false, apart := false }
def FindJoinedSaid : Prop := findJoinedRow.holds Try.pinned (OpenSpec.ofChange findJoinedSpec)

/-- ITS FALSE NEIGHBOUR: 'it returns false'. Refute it at one input. -/
def findJoinedWrong : ChangeSpec := { name := "findJoined", fn := fun _ => fun
  | [d1, d2] => { results := [.lit (.bool false)], args := [d1, d2] }
  | _ => none }
def FindJoinedWrongFalsely : Prop := findJoinedRow.holds Try.pinned (OpenSpec.ofChange findJoinedWrong)

/-- 'oyezlaw06.FindClaimed': WHATEVER THE INPUT: true; the input reads as it did. -/
def findClaimedSpec : ChangeSpec := { name := "findClaimed", fn := fun _ => fun
  | [d] => { results := [.lit (.bool true)], args := [d] }
  | _ => none }
def findClaimedRow : OpenClaim := { program := "ythncjilcflilcaa", sum := "c5cb3b2d6df554256ca2e1718534b4047169a8a1d69d83a5650822170fe65032", func := "oyez/oyezlaw06.FindClaimed", spec := "findClaimed", unfollowed := true, recurses := true, plainKeys := false, apart := false }
def FindClaimedSaid : Prop := findClaimedRow.holds Try.pinned (OpenSpec.ofChange findClaimedSpec)

/-- ITS FALSE NEIGHBOUR: 'it returns false'. Refute it at one input. -/
def findClaimedWrong : ChangeSpec := { name := "findClaimed", fn := fun _ => fun
  | [d] => { results := [.lit (.bool false)], args := [d] }
  | _ => none }
def FindClaimedWrongFalsely : Prop := findClaimedRow.holds Try.pinned (OpenSpec.ofChange findClaimedWrong)

/-- 'oyezlaw06.FindChecks': WHATEVER THE INPUT: true; the input reads as it did. -/
def findChecksSpec : ChangeSpec := { name := "findChecks", fn := fun _ => fun
  | [d1, d2, d3] => { results := [.lit (.bool true)], args := [d1, d2, d3] }
  | _ => none }
def findChecksRow : OpenClaim := { program := "ythncjilcflilcaa", sum := "c5cb3b2d6df554256ca2e1718534b4047169a8a1d69d83a5650822170fe65032", func := "oyez/oyezlaw06.FindChecks", spec := "findChecks", unfollowed := true, recurses := true, plainKeys := false, apart := false }
def FindChecksSaid : Prop := findChecksRow.holds Try.pinned (OpenSpec.ofChange findChecksSpec)

/-- ITS FALSE NEIGHBOUR: 'it returns false'. Refute it at one input. -/
def findChecksWrong : ChangeSpec := { name := "findChecks", fn := fun _ => fun
  | [d1, d2, d3] => { results := [.lit (.bool false)], args := [d1, d2, d3] }
  | _ => none }
def FindChecksWrongFalsely : Prop := findChecksRow.holds Try.pinned (OpenSpec.ofChange findChecksWrong)

/- THE SECOND FORM. 'bulk': how many values and letters a reading holds, each counted each time it is reached (what is shared counts as often as it is met; a slice's spare places count too). A statement '..UptoSaid' is the law's where the arguments, and the package variables that the reading takes, are together of bulk at most 1048576: NARROWER than '..Said'. Prove '..Said' where nothing that the law and all that it calls make is longer than what came in: it says more and counts as full. Else prove '..UptoSaid'. A law counts once. -/
mutual
def uptoBulk {H : Type} : DataW H → Nat
  | .lit (.string bytes) => bytes.length + 1
  | .lit _ => 1
  | .nil => 1
  | .ptr d => uptoBulk d + 1
  | .slice elems spare => uptoBulkAll elems + uptoBulkAll spare + 1
  | .agg parts => uptoBulkAll parts + 1
  | .iface _ d => uptoBulk d + 1
  | .map entries => uptoBulkEntries entries + 1
  | .held _ => 1
def uptoBulkAll {H : Type} : List (DataW H) → Nat
  | [] => 0
  | d :: r => uptoBulk d + uptoBulkAll r
def uptoBulkEntries {H : Type} : List (Lit × DataW H) → Nat
  | [] => 0
  | x :: r => uptoBulkEntry x + uptoBulkEntries r
def uptoBulkEntry {H : Type} : Lit × DataW H → Nat
  | (.string bytes, d) => bytes.length + uptoBulk d + 1
  | (_, d) => uptoBulk d + 1
 end
def uptoSmall : (H : Type) → List (DataW H) → Bool := fun _ ds => decide (uptoBulkAll ds ≤ 1048576)
def OpenSpec.upto (s : _root_.Go.ChangeSpec) : _root_.Go.OpenSpec := { _root_.Go.OpenSpec.ofChange s with cond := some uptoSmall }

/-- 'oyezlaw06.FindChanged', WHERE WHAT IT READS IS OF BULK AT MOST 1048576: true; the input reads as it did. -/
def findChangedUptoRow : OpenClaim := { program := "ythncjilcflilcaa", sum := "c5cb3b2d6df554256ca2e1718534b4047169a8a1d69d83a5650822170fe65032", func := "oyez/oyezlaw06.FindChanged", spec := "findChanged", unfollowed := true, recurses := true, plainKeys := false, apart := false, narrowed := true }
def FindChangedUptoSaid : Prop := findChangedUptoRow.holds Try.pinned (OpenSpec.upto findChangedSpec)

/-- 'oyezlaw06.FindAsks', WHERE WHAT IT READS IS OF BULK AT MOST 1048576: true; the input reads as it did. -/
def findAsksUptoRow : OpenClaim := { program := "ythncjilcflilcaa", sum := "c5cb3b2d6df554256ca2e1718534b4047169a8a1d69d83a5650822170fe65032", func := "oyez/oyezlaw06.FindAsks", spec := "findAsks", unfollowed := true, recurses := true, plainKeys := false, apart := false, narrowed := true }
def FindAsksUptoSaid : Prop := findAsksUptoRow.holds Try.pinned (OpenSpec.upto findAsksSpec)

/-- 'oyezlaw06.FindAsked', WHERE WHAT IT READS IS OF BULK AT MOST 1048576: true; the input reads as it did. -/
def findAskedUptoRow : OpenClaim := { program := "ythncjilcflilcaa", sum := "c5cb3b2d6df554256ca2e1718534b4047169a8a1d69d83a5650822170fe65032", func := "oyez/oyezlaw06.FindAsked", spec := "findAsked", unfollowed := true, recurses := true, plainKeys := false, apart := false, narrowed := true }
def FindAskedUptoSaid : Prop := findAskedUptoRow.holds Try.pinned (OpenSpec.upto findAskedSpec)

/-- 'oyezlaw06.FindWith', WHERE WHAT IT READS IS OF BULK AT MOST 1048576: true; the input reads as it did. -/
def findWithUptoRow : OpenClaim := { program := "ythncjilcflilcaa", sum := "c5cb3b2d6df554256ca2e1718534b4047169a8a1d69d83a5650822170fe65032", func := "oyez/oyezlaw06.FindWith", spec := "findWith", unfollowed := true, recurses := true, plainKeys := false, apart := false, narrowed := true }
def FindWithUptoSaid : Prop := findWithUptoRow.holds Try.pinned (OpenSpec.upto findWithSpec)

/-- 'oyezlaw06.FindPaid', WHERE WHAT IT READS IS OF BULK AT MOST 1048576: true; the input reads as it did. -/
def findPaidUptoRow : OpenClaim := { program := "ythncjilcflilcaa", sum := "c5cb3b2d6df554256ca2e1718534b4047169a8a1d69d83a5650822170fe65032", func := "oyez/oyezlaw06.FindPaid", spec := "findPaid", unfollowed := true, recurses := true, plainKeys := false, apart := false, narrowed := true }
def FindPaidUptoSaid : Prop := findPaidUptoRow.holds Try.pinned (OpenSpec.upto findPaidSpec)

/-- 'oyezlaw06.FindFated', WHERE WHAT IT READS IS OF BULK AT MOST 1048576: true; the input reads as it did. -/
def findFatedUptoRow : OpenClaim := { program := "ythncjilcflilcaa", sum := "c5cb3b2d6df554256ca2e1718534b4047169a8a1d69d83a5650822170fe65032", func := "oyez/oyezlaw06.FindFated", spec := "findFated", unfollowed := true, recurses := true, plainKeys := false, apart := false, narrowed := true }
def FindFatedUptoSaid : Prop := findFatedUptoRow.holds Try.pinned (OpenSpec.upto findFatedSpec)

/-- 'oyezlaw06.FindNamed', WHERE WHAT IT READS IS OF BULK AT MOST 1048576: true; the input reads as it did. -/
def findNamedUptoRow : OpenClaim := { program := "ythncjilcflilcaa", sum := "c5cb3b2d6df554256ca2e1718534b4047169a8a1d69d83a5650822170fe65032", func := "oyez/oyezlaw06.FindNamed", spec := "findNamed", unfollowed := true, recurses := true, plainKeys := false, apart := false, narrowed := true }
def FindNamedUptoSaid : Prop := findNamedUptoRow.holds Try.pinned (OpenSpec.upto findNamedSpec)

/-- 'oyezlaw06.FindJoins', WHERE WHAT IT READS IS OF BULK AT MOST 1048576: true; the input reads as it did. -/
def findJoinsUptoRow : OpenClaim := { program := "ythncjilcflilcaa", sum := "c5cb3b2d6df554256ca2e1718534b4047169a8a1d69d83a5650822170fe65032", func := "oyez/oyezlaw06.FindJoins", spec := "findJoins", unfollowed := true, recurses := true, plainKeys := false, apart := false, narrowed := true }
def FindJoinsUptoSaid : Prop := findJoinsUptoRow.holds Try.pinned (OpenSpec.upto findJoinsSpec)

/-- 'oyezlaw06.FindMore', WHERE WHAT IT READS IS OF BULK AT MOST 1048576: true; the input reads as it did. -/
def findMoreUptoRow : OpenClaim := { program := "ythncjilcflilcaa", sum := "c5cb3b2d6df554256ca2e1718534b4047169a8a1d69d83a5650822170fe65032", func := "oyez/oyezlaw06.FindMore", spec := "findMore", unfollowed := true, recurses := true, plainKeys := false, apart := false, narrowed := true }
def FindMoreUptoSaid : Prop := findMoreUptoRow.holds Try.pinned (OpenSpec.upto findMoreSpec)

/-- 'oyezlaw06.FindChange', WHERE WHAT IT READS IS OF BULK AT MOST 1048576: true; the input reads as it did. -/
def findChangeUptoRow : OpenClaim := { program := "ythncjilcflilcaa", sum := "c5cb3b2d6df554256ca2e1718534b4047169a8a1d69d83a5650822170fe65032", func := "oyez/oyezlaw06.FindChange", spec := "findChange", unfollowed := true, recurses := true, plainKeys := false, apart := false, narrowed := true }
def FindChangeUptoSaid : Prop := findChangeUptoRow.holds Try.pinned (OpenSpec.upto findChangeSpec)

/-- 'oyezlaw06.FindBest', WHERE WHAT IT READS IS OF BULK AT MOST 1048576: true; the input reads as it did. -/
def findBestUptoRow : OpenClaim := { program := "ythncjilcflilcaa", sum := "c5cb3b2d6df554256ca2e1718534b4047169a8a1d69d83a5650822170fe65032", func := "oyez/oyezlaw06.FindBest", spec := "findBest", unfollowed := true, recurses := true, plainKeys := false, apart := false, narrowed := true }
def FindBestUptoSaid : Prop := findBestUptoRow.holds Try.pinned (OpenSpec.upto findBestSpec)

/-- 'oyezlaw06.FindJoined', WHERE WHAT IT READS IS OF BULK AT MOST 1048576: true; the input reads as it did. -/
def findJoinedUptoRow : OpenClaim := { program := "ythncjilcflilcaa", sum := "c5cb3b2d6df554256ca2e1718534b4047169a8a1d69d83a5650822170fe65032", func := "oyez/oyezlaw06.FindJoined", spec := "findJoined", unfollowed := true, recurses := true, plainKeys := false, apart := false, narrowed := true }
def FindJoinedUptoSaid : Prop := findJoinedUptoRow.holds Try.pinned (OpenSpec.upto findJoinedSpec)

/-- 'oyezlaw06.FindClaimed', WHERE WHAT IT READS IS OF BULK AT MOST 1048576: true; the input reads as it did. -/
def findClaimedUptoRow : OpenClaim := { program := "ythncjilcflilcaa", sum := "c5cb3b2d6df554256ca2e1718534b4047169a8a1d69d83a5650822170fe65032", func := "oyez/oyezlaw06.FindClaimed", spec := "findClaimed", unfollowed := true, recurses := true, plainKeys := false, apart := false, narrowed := true }
def FindClaimedUptoSaid : Prop := findClaimedUptoRow.holds Try.pinned (OpenSpec.upto findClaimedSpec)

/-- 'oyezlaw06.FindChecks', WHERE WHAT IT READS IS OF BULK AT MOST 1048576: true; the input reads as it did. -/
def findChecksUptoRow : OpenClaim := { program := "ythncjilcflilcaa", sum := "c5cb3b2d6df554256ca2e1718534b4047169a8a1d69d83a5650822170fe65032", func := "oyez/oyezlaw06.FindChecks", spec := "findChecks", unfollowed := true, recurses := true, plainKeys := false, apart := false, narrowed := true }
def FindChecksUptoSaid : Prop := findChecksUptoRow.holds Try.pinned (OpenSpec.upto findChecksSpec)

end Rows
end Go.Proofs.Ythncjilcflilcaa
