/-
  No cell of these rows narrows 'for every input' (looked for: loops, veiled, ifaces, maps, wideKeys, modest, calm, conditions, laid).
  DERIVED. THE GIVEN ROWS OF THIS SEAT. 12 by the template 'for every input the law returns true; each argument reads behind the call as it read before'; 0 by the template 'total and deterministic' (their statements: YtfcnhnbnjdccfaaTotals.lean).
  GIVEN WITH THE SEED: the statements are not yours to turn. If you find one false, say at which input.
  Laid BY PROGRAM, IN A SANDBOX (cutbox-rows.mjs): the forced cells as the released guide's own fill.sh prints them over the translation cf8a9380a3dc740c… (all of the seat's roots in one cut). By AI agents, Wed Nov 11 2026. No macro, syntax, notation, axiom, sorry.
-/
import Derived.Test.YtfcnhnbnjdccfaaChecked
import GoSem.Claim
import GoSem.ClaimJoined
import GoSem.ClaimMapViews
import Derived.JoinedTies
import Derived.KernelRfl
namespace Go.Proofs.Ytfcnhnbnjdccfaa
/- THE CELL 'sum', in the pinned program and in every row, IS THE sha256 OF THE DUMP (.gsa) THAT YtfcnhnbnjdccfaaProg.lean LOADS. Nothing in Lean hashes anything: it is a label: what it is worth is what the hold of that sum in a sandbox is worth. -/
noncomputable def Try.pinned : Pinned := { name := "ytfcnhnbnjdccfaa", sum := "cf8a9380a3dc740c71cae974be72c58fdfa137221f4746ccd26d41a37e03cb31", checked := Try.checked }
namespace Rows
def none {H : Type} : Left H := { results := [], args := [] }

/-- 'oyezlaw10.EchoConfused': WHATEVER THE INPUT: true; the input reads as it did. -/
def echoConfusedSpec : ChangeSpec := { name := "echoConfused", fn := fun _ => fun
  | [d1, d2] => { results := [.lit (.bool true)], args := [d1, d2] }
  | _ => none }
def echoConfusedRow : OpenClaim := { program := "ytfcnhnbnjdccfaa", sum := "cf8a9380a3dc740c71cae974be72c58fdfa137221f4746ccd26d41a37e03cb31", func := "oyez/oyezlaw10.EchoConfused", spec := "echoConfused", unfollowed := true, recurses := true, plainKeys := false, apart := false }
def EchoConfusedSaid : Prop := echoConfusedRow.holds Try.pinned (OpenSpec.ofChange echoConfusedSpec)

/-- ITS FALSE NEIGHBOUR: 'it returns false'. Refute it at one input. -/
def echoConfusedWrong : ChangeSpec := { name := "echoConfused", fn := fun _ => fun
  | [d1, d2] => { results := [.lit (.bool false)], args := [d1, d2] }
  | _ => none }
def EchoConfusedWrongFalsely : Prop := echoConfusedRow.holds Try.pinned (OpenSpec.ofChange echoConfusedWrong)

/-- 'oyezlaw10.EchoAfter': WHATEVER THE INPUT: true; the input reads as it did. -/
def echoAfterSpec : ChangeSpec := { name := "echoAfter", fn := fun _ => fun
  | [d1, d2] => { results := [.lit (.bool true)], args := [d1, d2] }
  | _ => none }
def echoAfterRow : OpenClaim := { program := "ytfcnhnbnjdccfaa", sum := "cf8a9380a3dc740c71cae974be72c58fdfa137221f4746ccd26d41a37e03cb31", func := "oyez/oyezlaw10.EchoAfter", spec := "echoAfter", unfollowed := true, recurses := true, plainKeys := false, apart := false }
def EchoAfterSaid : Prop := echoAfterRow.holds Try.pinned (OpenSpec.ofChange echoAfterSpec)

/-- ITS FALSE NEIGHBOUR: 'it returns false'. Refute it at one input. -/
def echoAfterWrong : ChangeSpec := { name := "echoAfter", fn := fun _ => fun
  | [d1, d2] => { results := [.lit (.bool false)], args := [d1, d2] }
  | _ => none }
def EchoAfterWrongFalsely : Prop := echoAfterRow.holds Try.pinned (OpenSpec.ofChange echoAfterWrong)

/-- 'oyezlaw10.EchoSure': WHATEVER THE INPUT: true; the input reads as it did. -/
def echoSureSpec : ChangeSpec := { name := "echoSure", fn := fun _ => fun
  | [d1, d2] => { results := [.lit (.bool true)], args := [d1, d2] }
  | _ => none }
def echoSureRow : OpenClaim := { program := "ytfcnhnbnjdccfaa", sum := "cf8a9380a3dc740c71cae974be72c58fdfa137221f4746ccd26d41a37e03cb31", func := "oyez/oyezlaw10.EchoSure", spec := "echoSure", unfollowed := true, recurses := true, plainKeys := false, apart := false }
def EchoSureSaid : Prop := echoSureRow.holds Try.pinned (OpenSpec.ofChange echoSureSpec)

/-- ITS FALSE NEIGHBOUR: 'it returns false'. Refute it at one input. -/
def echoSureWrong : ChangeSpec := { name := "echoSure", fn := fun _ => fun
  | [d1, d2] => { results := [.lit (.bool false)], args := [d1, d2] }
  | _ => none }
def EchoSureWrongFalsely : Prop := echoSureRow.holds Try.pinned (OpenSpec.ofChange echoSureWrong)

/-- 'oyezlaw10.EchoReads': WHATEVER THE INPUT: true; the input reads as it did. -/
def echoReadsSpec : ChangeSpec := { name := "echoReads", fn := fun _ => fun
  | [d1, d2] => { results := [.lit (.bool true)], args := [d1, d2] }
  | _ => none }
def echoReadsRow : OpenClaim := { program := "ytfcnhnbnjdccfaa", sum := "cf8a9380a3dc740c71cae974be72c58fdfa137221f4746ccd26d41a37e03cb31", func := "oyez/oyezlaw10.EchoReads", spec := "echoReads", unfollowed := true, recurses := true, plainKeys := false, apart := false }
def EchoReadsSaid : Prop := echoReadsRow.holds Try.pinned (OpenSpec.ofChange echoReadsSpec)

/-- ITS FALSE NEIGHBOUR: 'it returns false'. Refute it at one input. -/
def echoReadsWrong : ChangeSpec := { name := "echoReads", fn := fun _ => fun
  | [d1, d2] => { results := [.lit (.bool false)], args := [d1, d2] }
  | _ => none }
def EchoReadsWrongFalsely : Prop := echoReadsRow.holds Try.pinned (OpenSpec.ofChange echoReadsWrong)

/-- 'oyezlaw10.EchoFar': WHATEVER THE INPUT: true; the input reads as it did. -/
def echoFarSpec : ChangeSpec := { name := "echoFar", fn := fun _ => fun
  | [d] => { results := [.lit (.bool true)], args := [d] }
  | _ => none }
def echoFarRow : OpenClaim := { program := "ytfcnhnbnjdccfaa", sum := "cf8a9380a3dc740c71cae974be72c58fdfa137221f4746ccd26d41a37e03cb31", func := "oyez/oyezlaw10.EchoFar", spec := "echoFar", unfollowed := true, recurses := true, plainKeys := false, apart := false }
def EchoFarSaid : Prop := echoFarRow.holds Try.pinned (OpenSpec.ofChange echoFarSpec)

/-- ITS FALSE NEIGHBOUR: 'it returns false'. Refute it at one input. -/
def echoFarWrong : ChangeSpec := { name := "echoFar", fn := fun _ => fun
  | [d] => { results := [.lit (.bool false)], args := [d] }
  | _ => none }
def EchoFarWrongFalsely : Prop := echoFarRow.holds Try.pinned (OpenSpec.ofChange echoFarWrong)

/-- 'oyezlaw10.EchoFaults': WHATEVER THE INPUT: true; the input reads as it did. -/
def echoFaultsSpec : ChangeSpec := { name := "echoFaults", fn := fun _ => fun
  | [d1, d2, d3] => { results := [.lit (.bool true)], args := [d1, d2, d3] }
  | _ => none }
def echoFaultsRow : OpenClaim := { program := "ytfcnhnbnjdccfaa", sum := "cf8a9380a3dc740c71cae974be72c58fdfa137221f4746ccd26d41a37e03cb31", func := "oyez/oyezlaw10.EchoFaults", spec := "echoFaults", unfollowed := true, recurses := true, plainKeys := false, apart := false }
def EchoFaultsSaid : Prop := echoFaultsRow.holds Try.pinned (OpenSpec.ofChange echoFaultsSpec)

/-- ITS FALSE NEIGHBOUR: 'it returns false'. Refute it at one input. -/
def echoFaultsWrong : ChangeSpec := { name := "echoFaults", fn := fun _ => fun
  | [d1, d2, d3] => { results := [.lit (.bool false)], args := [d1, d2, d3] }
  | _ => none }
def EchoFaultsWrongFalsely : Prop := echoFaultsRow.holds Try.pinned (OpenSpec.ofChange echoFaultsWrong)

/-- 'oyezlaw10.EchoTexts': WHATEVER THE INPUT: true; the input reads as it did. -/
def echoTextsSpec : ChangeSpec := { name := "echoTexts", fn := fun _ => fun
  | [d1, d2, d3] => { results := [.lit (.bool true)], args := [d1, d2, d3] }
  | _ => none }
def echoTextsRow : OpenClaim := { program := "ytfcnhnbnjdccfaa", sum := "cf8a9380a3dc740c71cae974be72c58fdfa137221f4746ccd26d41a37e03cb31", func := "oyez/oyezlaw10.EchoTexts", spec := "echoTexts", unfollowed := true, recurses := true, plainKeys := false, apart := false }
def EchoTextsSaid : Prop := echoTextsRow.holds Try.pinned (OpenSpec.ofChange echoTextsSpec)

/-- ITS FALSE NEIGHBOUR: 'it returns false'. Refute it at one input. -/
def echoTextsWrong : ChangeSpec := { name := "echoTexts", fn := fun _ => fun
  | [d1, d2, d3] => { results := [.lit (.bool false)], args := [d1, d2, d3] }
  | _ => none }
def EchoTextsWrongFalsely : Prop := echoTextsRow.holds Try.pinned (OpenSpec.ofChange echoTextsWrong)

/-- 'oyezlaw10.EchoOther': WHATEVER THE INPUT: true; the input reads as it did. -/
def echoOtherSpec : ChangeSpec := { name := "echoOther", fn := fun _ => fun
  | [d] => { results := [.lit (.bool true)], args := [d] }
  | _ => none }
def echoOtherRow : OpenClaim := { program := "ytfcnhnbnjdccfaa", sum := "cf8a9380a3dc740c71cae974be72c58fdfa137221f4746ccd26d41a37e03cb31", func := "oyez/oyezlaw10.EchoOther", spec := "echoOther", unfollowed := true, recurses := true, plainKeys := false, apart := false }
def EchoOtherSaid : Prop := echoOtherRow.holds Try.pinned (OpenSpec.ofChange echoOtherSpec)

/-- ITS FALSE NEIGHBOUR: 'it returns false'. Refute it at one input. -/
def echoOtherWrong : ChangeSpec := { name := "echoOther", fn := fun _ => fun
  | [d] => { results := [.lit (.bool false)], args := [d] }
  | _ => none }
def EchoOtherWrongFalsely : Prop := echoOtherRow.holds Try.pinned (OpenSpec.ofChange echoOtherWrong)

/-- 'oyezlaw10.EchoPairs': WHATEVER THE INPUT: true; the input reads as it did. -/
def echoPairsSpec : ChangeSpec := { name := "echoPairs", fn := fun _ => fun
  | [d1, d2] => { results := [.lit (.bool true)], args := [d1, d2] }
  | _ => none }
def echoPairsRow : OpenClaim := { program := "ytfcnhnbnjdccfaa", sum := "cf8a9380a3dc740c71cae974be72c58fdfa137221f4746ccd26d41a37e03cb31", func := "oyez/oyezlaw10.EchoPairs", spec := "echoPairs", unfollowed := true, recurses := true, plainKeys := false, apart := false }
def EchoPairsSaid : Prop := echoPairsRow.holds Try.pinned (OpenSpec.ofChange echoPairsSpec)

/-- ITS FALSE NEIGHBOUR: 'it returns false'. Refute it at one input. -/
def echoPairsWrong : ChangeSpec := { name := "echoPairs", fn := fun _ => fun
  | [d1, d2] => { results := [.lit (.bool false)], args := [d1, d2] }
  | _ => none }
def EchoPairsWrongFalsely : Prop := echoPairsRow.holds Try.pinned (OpenSpec.ofChange echoPairsWrong)

/-- 'oyezlaw10.EchoMarks': WHATEVER THE INPUT: true; the input reads as it did. -/
def echoMarksSpec : ChangeSpec := { name := "echoMarks", fn := fun _ => fun
  | [d1, d2, d3] => { results := [.lit (.bool true)], args := [d1, d2, d3] }
  | _ => none }
def echoMarksRow : OpenClaim := { program := "ytfcnhnbnjdccfaa", sum := "cf8a9380a3dc740c71cae974be72c58fdfa137221f4746ccd26d41a37e03cb31", func := "oyez/oyezlaw10.EchoMarks", spec := "echoMarks", unfollowed := true, recurses := true, plainKeys := false, apart := false }
def EchoMarksSaid : Prop := echoMarksRow.holds Try.pinned (OpenSpec.ofChange echoMarksSpec)

/-- ITS FALSE NEIGHBOUR: 'it returns false'. Refute it at one input. -/
def echoMarksWrong : ChangeSpec := { name := "echoMarks", fn := fun _ => fun
  | [d1, d2, d3] => { results := [.lit (.bool false)], args := [d1, d2, d3] }
  | _ => none }
def EchoMarksWrongFalsely : Prop := echoMarksRow.holds Try.pinned (OpenSpec.ofChange echoMarksWrong)

/-- 'oyezlaw10.EchoWord': WHATEVER THE INPUT: true; the input reads as it did. -/
def echoWordSpec : ChangeSpec := { name := "echoWord", fn := fun _ => fun
  | [d1, d2, d3] => { results := [.lit (.bool true)], args := [d1, d2, d3] }
  | _ => none }
def echoWordRow : OpenClaim := { program := "ytfcnhnbnjdccfaa", sum := "cf8a9380a3dc740c71cae974be72c58fdfa137221f4746ccd26d41a37e03cb31", func := "oyez/oyezlaw10.EchoWord", spec := "echoWord", inPlace := ["slices.overlaps[int]"], unfollowed := true, recurses := true, plainKeys := false, apart := false }
def EchoWordSaid : Prop := echoWordRow.holds Try.pinned (OpenSpec.ofChange echoWordSpec)

/-- ITS FALSE NEIGHBOUR: 'it returns false'. Refute it at one input. -/
def echoWordWrong : ChangeSpec := { name := "echoWord", fn := fun _ => fun
  | [d1, d2, d3] => { results := [.lit (.bool false)], args := [d1, d2, d3] }
  | _ => none }
def EchoWordWrongFalsely : Prop := echoWordRow.holds Try.pinned (OpenSpec.ofChange echoWordWrong)

/-- 'oyezlaw10.EchoTold': WHATEVER THE INPUT: true; the input reads as it did. -/
def echoToldSpec : ChangeSpec := { name := "echoTold", fn := fun _ => fun
  | [d1, d2] => { results := [.lit (.bool true)], args := [d1, d2] }
  | _ => none }
def echoToldRow : OpenClaim := { program := "ytfcnhnbnjdccfaa", sum := "cf8a9380a3dc740c71cae974be72c58fdfa137221f4746ccd26d41a37e03cb31", func := "oyez/oyezlaw10.EchoTold", spec := "echoTold", unfollowed := true, recurses := true, plainKeys := false, apart := false }
def EchoToldSaid : Prop := echoToldRow.holds Try.pinned (OpenSpec.ofChange echoToldSpec)

/-- ITS FALSE NEIGHBOUR: 'it returns false'. Refute it at one input. -/
def echoToldWrong : ChangeSpec := { name := "echoTold", fn := fun _ => fun
  | [d1, d2] => { results := [.lit (.bool false)], args := [d1, d2] }
  | _ => none }
def EchoToldWrongFalsely : Prop := echoToldRow.holds Try.pinned (OpenSpec.ofChange echoToldWrong)

/- THE SECOND FORM. 'bulk': how many values and letters a reading holds, each counted each time it is reached (what is shared counts as often as it is met; a slice's spare places count too). A statement '..UptoSaid' is the law's where the arguments, and the package variables that the reading takes, are together of bulk at most 1048576: NARROWER than '..Said'. Prove '..Said' where nothing that the law and all that it calls make is longer than what came in: it says more and counts as full. Else prove '..UptoSaid'. A law counts once. -/
mutual
def uptoBulk {H : Type} : DataW H → Nat
  | .lit (.string bytes) => bytes.length + 1
  | .lit _ => 1
  | .nil => 1
  | .ptr d => uptoBulk d + 1
  | .slice elems spare => uptoBulkAll elems + uptoBulkAll spare + 1
  | .agg parts => uptoBulkAll parts + 1
  | .iface _ d => uptoBulk d + 1
  | .map entries => uptoBulkEntries entries + 1
  | .held _ => 1
def uptoBulkAll {H : Type} : List (DataW H) → Nat
  | [] => 0
  | d :: r => uptoBulk d + uptoBulkAll r
def uptoBulkEntries {H : Type} : List (Lit × DataW H) → Nat
  | [] => 0
  | x :: r => uptoBulkEntry x + uptoBulkEntries r
def uptoBulkEntry {H : Type} : Lit × DataW H → Nat
  | (.string bytes, d) => bytes.length + uptoBulk d + 1
  | (_, d) => uptoBulk d + 1
 end
def uptoSmall : (H : Type) → List (DataW H) → Bool := fun _ ds => decide (uptoBulkAll ds ≤ 1048576)
def OpenSpec.upto (s : _root_.Go.ChangeSpec) : _root_.Go.OpenSpec := { _root_.Go.OpenSpec.ofChange s with cond := some uptoSmall }

/-- 'oyezlaw10.EchoConfused', WHERE WHAT IT READS IS OF BULK AT MOST 1048576: true; the input reads as it did. -/
def echoConfusedUptoRow : OpenClaim := { program := "ytfcnhnbnjdccfaa", sum := "cf8a9380a3dc740c71cae974be72c58fdfa137221f4746ccd26d41a37e03cb31", func := "oyez/oyezlaw10.EchoConfused", spec := "echoConfused", unfollowed := true, recurses := true, plainKeys := false, apart := false, narrowed := true }
def EchoConfusedUptoSaid : Prop := echoConfusedUptoRow.holds Try.pinned (OpenSpec.upto echoConfusedSpec)

/-- 'oyezlaw10.EchoAfter', WHERE WHAT IT READS IS OF BULK AT MOST 1048576: true; the input reads as it did. -/
def echoAfterUptoRow : OpenClaim := { program := "ytfcnhnbnjdccfaa", sum := "cf8a9380a3dc740c71cae974be72c58fdfa137221f4746ccd26d41a37e03cb31", func := "oyez/oyezlaw10.EchoAfter", spec := "echoAfter", unfollowed := true, recurses := true, plainKeys := false, apart := false, narrowed := true }
def EchoAfterUptoSaid : Prop := echoAfterUptoRow.holds Try.pinned (OpenSpec.upto echoAfterSpec)

/-- 'oyezlaw10.EchoSure', WHERE WHAT IT READS IS OF BULK AT MOST 1048576: true; the input reads as it did. -/
def echoSureUptoRow : OpenClaim := { program := "ytfcnhnbnjdccfaa", sum := "cf8a9380a3dc740c71cae974be72c58fdfa137221f4746ccd26d41a37e03cb31", func := "oyez/oyezlaw10.EchoSure", spec := "echoSure", unfollowed := true, recurses := true, plainKeys := false, apart := false, narrowed := true }
def EchoSureUptoSaid : Prop := echoSureUptoRow.holds Try.pinned (OpenSpec.upto echoSureSpec)

/-- 'oyezlaw10.EchoReads', WHERE WHAT IT READS IS OF BULK AT MOST 1048576: true; the input reads as it did. -/
def echoReadsUptoRow : OpenClaim := { program := "ytfcnhnbnjdccfaa", sum := "cf8a9380a3dc740c71cae974be72c58fdfa137221f4746ccd26d41a37e03cb31", func := "oyez/oyezlaw10.EchoReads", spec := "echoReads", unfollowed := true, recurses := true, plainKeys := false, apart := false, narrowed := true }
def EchoReadsUptoSaid : Prop := echoReadsUptoRow.holds Try.pinned (OpenSpec.upto echoReadsSpec)

/-- 'oyezlaw10.EchoFar', WHERE WHAT IT READS IS OF BULK AT MOST 1048576: true; the input reads as it did. -/
def echoFarUptoRow : OpenClaim := { program := "ytfcnhnbnjdccfaa", sum := "cf8a9380a3dc740c71cae974be72c58fdfa137221f4746ccd26d41a37e03cb31", func := "oyez/oyezlaw10.EchoFar", spec := "echoFar", unfollowed := true, recurses := true, plainKeys := false, apart := false, narrowed := true }
def EchoFarUptoSaid : Prop := echoFarUptoRow.holds Try.pinned (OpenSpec.upto echoFarSpec)

/-- 'oyezlaw10.EchoFaults', WHERE WHAT IT READS IS OF BULK AT MOST 1048576: true; the input reads as it did. -/
def echoFaultsUptoRow : OpenClaim := { program := "ytfcnhnbnjdccfaa", sum := "cf8a9380a3dc740c71cae974be72c58fdfa137221f4746ccd26d41a37e03cb31", func := "oyez/oyezlaw10.EchoFaults", spec := "echoFaults", unfollowed := true, recurses := true, plainKeys := false, apart := false, narrowed := true }
def EchoFaultsUptoSaid : Prop := echoFaultsUptoRow.holds Try.pinned (OpenSpec.upto echoFaultsSpec)

/-- 'oyezlaw10.EchoTexts', WHERE WHAT IT READS IS OF BULK AT MOST 1048576: true; the input reads as it did. -/
def echoTextsUptoRow : OpenClaim := { program := "ytfcnhnbnjdccfaa", sum := "cf8a9380a3dc740c71cae974be72c58fdfa137221f4746ccd26d41a37e03cb31", func := "oyez/oyezlaw10.EchoTexts", spec := "echoTexts", unfollowed := true, recurses := true, plainKeys := false, apart := false, narrowed := true }
def EchoTextsUptoSaid : Prop := echoTextsUptoRow.holds Try.pinned (OpenSpec.upto echoTextsSpec)

/-- 'oyezlaw10.EchoOther', WHERE WHAT IT READS IS OF BULK AT MOST 1048576: true; the input reads as it did. -/
def echoOtherUptoRow : OpenClaim := { program := "ytfcnhnbnjdccfaa", sum := "cf8a9380a3dc740c71cae974be72c58fdfa137221f4746ccd26d41a37e03cb31", func := "oyez/oyezlaw10.EchoOther", spec := "echoOther", unfollowed := true, recurses := true, plainKeys := false, apart := false, narrowed := true }
def EchoOtherUptoSaid : Prop := echoOtherUptoRow.holds Try.pinned (OpenSpec.upto echoOtherSpec)

/-- 'oyezlaw10.EchoPairs', WHERE WHAT IT READS IS OF BULK AT MOST 1048576: true; the input reads as it did. -/
def echoPairsUptoRow : OpenClaim := { program := "ytfcnhnbnjdccfaa", sum := "cf8a9380a3dc740c71cae974be72c58fdfa137221f4746ccd26d41a37e03cb31", func := "oyez/oyezlaw10.EchoPairs", spec := "echoPairs", unfollowed := true, recurses := true, plainKeys := false, apart := false, narrowed := true }
def EchoPairsUptoSaid : Prop := echoPairsUptoRow.holds Try.pinned (OpenSpec.upto echoPairsSpec)

/-- 'oyezlaw10.EchoMarks', WHERE WHAT IT READS IS OF BULK AT MOST 1048576: true; the input reads as it did. -/
def echoMarksUptoRow : OpenClaim := { program := "ytfcnhnbnjdccfaa", sum := "cf8a9380a3dc740c71cae974be72c58fdfa137221f4746ccd26d41a37e03cb31", func := "oyez/oyezlaw10.EchoMarks", spec := "echoMarks", unfollowed := true, recurses := true, plainKeys := false, apart := false, narrowed := true }
def EchoMarksUptoSaid : Prop := echoMarksUptoRow.holds Try.pinned (OpenSpec.upto echoMarksSpec)

/-- 'oyezlaw10.EchoWord', WHERE WHAT IT READS IS OF BULK AT MOST 1048576: true; the input reads as it did. -/
def echoWordUptoRow : OpenClaim := { program := "ytfcnhnbnjdccfaa", sum := "cf8a9380a3dc740c71cae974be72c58fdfa137221f4746ccd26d41a37e03cb31", func := "oyez/oyezlaw10.EchoWord", spec := "echoWord", inPlace := ["slices.overlaps[int]"], unfollowed := true, recurses := true, plainKeys := false, apart := false, narrowed := true }
def EchoWordUptoSaid : Prop := echoWordUptoRow.holds Try.pinned (OpenSpec.upto echoWordSpec)

/-- 'oyezlaw10.EchoTold', WHERE WHAT IT READS IS OF BULK AT MOST 1048576: true; the input reads as it did. -/
def echoToldUptoRow : OpenClaim := { program := "ytfcnhnbnjdccfaa", sum := "cf8a9380a3dc740c71cae974be72c58fdfa137221f4746ccd26d41a37e03cb31", func := "oyez/oyezlaw10.EchoTold", spec := "echoTold", unfollowed := true, recurses := true, plainKeys := false, apart := false, narrowed := true }
def EchoToldUptoSaid : Prop := echoToldUptoRow.holds Try.pinned (OpenSpec.upto echoToldSpec)

end Rows
end Go.Proofs.Ytfcnhnbnjdccfaa
