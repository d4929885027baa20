/-
  No cell of these rows narrows 'for every input' (looked for: loops, veiled, ifaces, maps, wideKeys, modest, calm, conditions, laid).
  DERIVED. THE GIVEN ROWS OF THIS SEAT. 15 by the template 'for every input the law returns true; each argument reads behind the call as it read before'; 0 by the template 'total and deterministic' (their statements: YtfamlpbdhhikdaaTotals.lean).
  GIVEN WITH THE SEED: the statements are not yours to turn. If you find one false, say at which input.
  Laid BY PROGRAM, IN A SANDBOX (cutbox-rows.mjs): the forced cells as the released guide's own fill.sh prints them over the translation 06a821d35d644027… (all of the seat's roots in one cut). By AI agents, Wed Nov 11 2026. No macro, syntax, notation, axiom, sorry.
-/
import Derived.Test.YtfamlpbdhhikdaaChecked
import GoSem.Claim
import GoSem.ClaimJoined
import GoSem.ClaimMapViews
import Derived.JoinedTies
import Derived.KernelRfl
namespace Go.Proofs.Ytfamlpbdhhikdaa
/- THE CELL 'sum', in the pinned program and in every row, IS THE sha256 OF THE DUMP (.gsa) THAT YtfamlpbdhhikdaaProg.lean LOADS. Nothing in Lean hashes anything: it is a label: what it is worth is what the hold of that sum in a sandbox is worth. -/
noncomputable def Try.pinned : Pinned := { name := "ytfamlpbdhhikdaa", sum := "06a821d35d644027973e0f854273c2ec208c6316d5afc17e476f805ad96a8db6", checked := Try.checked }
namespace Rows
def none {H : Type} : Left H := { results := [], args := [] }

/-- 'oyezlaw02.TextFewest': WHATEVER THE INPUT: true; the input reads as it did. -/
def textFewestSpec : ChangeSpec := { name := "textFewest", fn := fun _ => fun
  | [d] => { results := [.lit (.bool true)], args := [d] }
  | _ => none }
def textFewestRow : OpenClaim := { program := "ytfamlpbdhhikdaa", sum := "06a821d35d644027973e0f854273c2ec208c6316d5afc17e476f805ad96a8db6", func := "oyez/oyezlaw02.TextFewest", spec := "textFewest", unfollowed := true, recurses := true, apart := false }
def TextFewestSaid : Prop := textFewestRow.holds Try.pinned (OpenSpec.ofChange textFewestSpec)

/-- ITS FALSE NEIGHBOUR: 'it returns false'. Refute it at one input. -/
def textFewestWrong : ChangeSpec := { name := "textFewest", fn := fun _ => fun
  | [d] => { results := [.lit (.bool false)], args := [d] }
  | _ => none }
def TextFewestWrongFalsely : Prop := textFewestRow.holds Try.pinned (OpenSpec.ofChange textFewestWrong)

/-- 'oyezlaw02.TextAstray': WHATEVER THE INPUT: true; the input reads as it did. -/
def textAstraySpec : ChangeSpec := { name := "textAstray", fn := fun _ => fun
  | [d1, d2] => { results := [.lit (.bool true)], args := [d1, d2] }
  | _ => none }
def textAstrayRow : OpenClaim := { program := "ytfamlpbdhhikdaa", sum := "06a821d35d644027973e0f854273c2ec208c6316d5afc17e476f805ad96a8db6", func := "oyez/oyezlaw02.TextAstray", spec := "textAstray", unfollowed := true, recurses := true, apart := false }
def TextAstraySaid : Prop := textAstrayRow.holds Try.pinned (OpenSpec.ofChange textAstraySpec)

/-- ITS FALSE NEIGHBOUR: 'it returns false'. Refute it at one input. -/
def textAstrayWrong : ChangeSpec := { name := "textAstray", fn := fun _ => fun
  | [d1, d2] => { results := [.lit (.bool false)], args := [d1, d2] }
  | _ => none }
def TextAstrayWrongFalsely : Prop := textAstrayRow.holds Try.pinned (OpenSpec.ofChange textAstrayWrong)

/-- 'oyezlaw02.TextCounted': WHATEVER THE INPUT: true; the input reads as it did. -/
def textCountedSpec : ChangeSpec := { name := "textCounted", fn := fun _ => fun
  | [d] => { results := [.lit (.bool true)], args := [d] }
  | _ => none }
def textCountedRow : OpenClaim := { program := "ytfamlpbdhhikdaa", sum := "06a821d35d644027973e0f854273c2ec208c6316d5afc17e476f805ad96a8db6", func := "oyez/oyezlaw02.TextCounted", spec := "textCounted", unfollowed := true, recurses := true, apart := false }
def TextCountedSaid : Prop := textCountedRow.holds Try.pinned (OpenSpec.ofChange textCountedSpec)

/-- ITS FALSE NEIGHBOUR: 'it returns false'. Refute it at one input. -/
def textCountedWrong : ChangeSpec := { name := "textCounted", fn := fun _ => fun
  | [d] => { results := [.lit (.bool false)], args := [d] }
  | _ => none }
def TextCountedWrongFalsely : Prop := textCountedRow.holds Try.pinned (OpenSpec.ofChange textCountedWrong)

/-- 'oyezlaw02.TextParts': WHATEVER THE INPUT: true; the input reads as it did. -/
def textPartsSpec : ChangeSpec := { name := "textParts", fn := fun _ => fun
  | [d1, d2, d3] => { results := [.lit (.bool true)], args := [d1, d2, d3] }
  | _ => none }
def textPartsRow : OpenClaim := { program := "ytfamlpbdhhikdaa", sum := "06a821d35d644027973e0f854273c2ec208c6316d5afc17e476f805ad96a8db6", func := "oyez/oyezlaw02.TextParts", spec := "textParts", unfollowed := true, recurses := true, apart := false }
def TextPartsSaid : Prop := textPartsRow.holds Try.pinned (OpenSpec.ofChange textPartsSpec)

/-- ITS FALSE NEIGHBOUR: 'it returns false'. Refute it at one input. -/
def textPartsWrong : ChangeSpec := { name := "textParts", fn := fun _ => fun
  | [d1, d2, d3] => { results := [.lit (.bool false)], args := [d1, d2, d3] }
  | _ => none }
def TextPartsWrongFalsely : Prop := textPartsRow.holds Try.pinned (OpenSpec.ofChange textPartsWrong)

/-- 'oyezlaw02.TextSure': WHATEVER THE INPUT: true; the input reads as it did. -/
def textSureSpec : ChangeSpec := { name := "textSure", fn := fun _ => fun
  | [d1, d2] => { results := [.lit (.bool true)], args := [d1, d2] }
  | _ => none }
def textSureRow : OpenClaim := { program := "ytfamlpbdhhikdaa", sum := "06a821d35d644027973e0f854273c2ec208c6316d5afc17e476f805ad96a8db6", func := "oyez/oyezlaw02.TextSure", spec := "textSure", unfollowed := true, recurses := true, apart := false }
def TextSureSaid : Prop := textSureRow.holds Try.pinned (OpenSpec.ofChange textSureSpec)

/-- ITS FALSE NEIGHBOUR: 'it returns false'. Refute it at one input. -/
def textSureWrong : ChangeSpec := { name := "textSure", fn := fun _ => fun
  | [d1, d2] => { results := [.lit (.bool false)], args := [d1, d2] }
  | _ => none }
def TextSureWrongFalsely : Prop := textSureRow.holds Try.pinned (OpenSpec.ofChange textSureWrong)

/-- 'oyezlaw02.TextEvener': WHATEVER THE INPUT: true; the input reads as it did. -/
def textEvenerSpec : ChangeSpec := { name := "textEvener", fn := fun _ => fun
  | [d1, d2] => { results := [.lit (.bool true)], args := [d1, d2] }
  | _ => none }
def textEvenerRow : OpenClaim := { program := "ytfamlpbdhhikdaa", sum := "06a821d35d644027973e0f854273c2ec208c6316d5afc17e476f805ad96a8db6", func := "oyez/oyezlaw02.TextEvener", spec := "textEvener", unfollowed := true, recurses := true, apart := false }
def TextEvenerSaid : Prop := textEvenerRow.holds Try.pinned (OpenSpec.ofChange textEvenerSpec)

/-- ITS FALSE NEIGHBOUR: 'it returns false'. Refute it at one input. -/
def textEvenerWrong : ChangeSpec := { name := "textEvener", fn := fun _ => fun
  | [d1, d2] => { results := [.lit (.bool false)], args := [d1, d2] }
  | _ => none }
def TextEvenerWrongFalsely : Prop := textEvenerRow.holds Try.pinned (OpenSpec.ofChange textEvenerWrong)

/-- 'oyezlaw02.TextLeast': WHATEVER THE INPUT: true; the input reads as it did. -/
def textLeastSpec : ChangeSpec := { name := "textLeast", fn := fun _ => fun
  | [d1, d2] => { results := [.lit (.bool true)], args := [d1, d2] }
  | _ => none }
def textLeastRow : OpenClaim := { program := "ytfamlpbdhhikdaa", sum := "06a821d35d644027973e0f854273c2ec208c6316d5afc17e476f805ad96a8db6", func := "oyez/oyezlaw02.TextLeast", spec := "textLeast", unfollowed := true, recurses := true, apart := false }
def TextLeastSaid : Prop := textLeastRow.holds Try.pinned (OpenSpec.ofChange textLeastSpec)

/-- ITS FALSE NEIGHBOUR: 'it returns false'. Refute it at one input. -/
def textLeastWrong : ChangeSpec := { name := "textLeast", fn := fun _ => fun
  | [d1, d2] => { results := [.lit (.bool false)], args := [d1, d2] }
  | _ => none }
def TextLeastWrongFalsely : Prop := textLeastRow.holds Try.pinned (OpenSpec.ofChange textLeastWrong)

/-- 'oyezlaw02.TextMore': WHATEVER THE INPUT: true; the input reads as it did. -/
def textMoreSpec : ChangeSpec := { name := "textMore", fn := fun _ => fun
  | [d1, d2, d3] => { results := [.lit (.bool true)], args := [d1, d2, d3] }
  | _ => none }
def textMoreRow : OpenClaim := { program := "ytfamlpbdhhikdaa", sum := "06a821d35d644027973e0f854273c2ec208c6316d5afc17e476f805ad96a8db6", func := "oyez/oyezlaw02.TextMore", spec := "textMore", unfollowed := true, recurses := true, apart := false }
def TextMoreSaid : Prop := textMoreRow.holds Try.pinned (OpenSpec.ofChange textMoreSpec)

/-- ITS FALSE NEIGHBOUR: 'it returns false'. Refute it at one input. -/
def textMoreWrong : ChangeSpec := { name := "textMore", fn := fun _ => fun
  | [d1, d2, d3] => { results := [.lit (.bool false)], args := [d1, d2, d3] }
  | _ => none }
def TextMoreWrongFalsely : Prop := textMoreRow.holds Try.pinned (OpenSpec.ofChange textMoreWrong)

/-- 'oyezlaw02.TextEven': WHATEVER THE INPUT: true; the input reads as it did. -/
def textEvenSpec : ChangeSpec := { name := "textEven", fn := fun _ => fun
  | [d] => { results := [.lit (.bool true)], args := [d] }
  | _ => none }
def textEvenRow : OpenClaim := { program := "ytfamlpbdhhikdaa", sum := "06a821d35d644027973e0f854273c2ec208c6316d5afc17e476f805ad96a8db6", func := "oyez/oyezlaw02.TextEven", spec := "textEven", unfollowed := true, recurses := true, apart := false }
def TextEvenSaid : Prop := textEvenRow.holds Try.pinned (OpenSpec.ofChange textEvenSpec)

/-- ITS FALSE NEIGHBOUR: 'it returns false'. Refute it at one input. -/
def textEvenWrong : ChangeSpec := { name := "textEven", fn := fun _ => fun
  | [d] => { results := [.lit (.bool false)], args := [d] }
  | _ => none }
def TextEvenWrongFalsely : Prop := textEvenRow.holds Try.pinned (OpenSpec.ofChange textEvenWrong)

/-- 'oyezlaw02.TextLone': WHATEVER THE INPUT: true; the input reads as it did. -/
def textLoneSpec : ChangeSpec := { name := "textLone", fn := fun _ => fun
  | [d] => { results := [.lit (.bool true)], args := [d] }
  | _ => none }
def textLoneRow : OpenClaim := { program := "ytfamlpbdhhikdaa", sum := "06a821d35d644027973e0f854273c2ec208c6316d5afc17e476f805ad96a8db6", func := "oyez/oyezlaw02.TextLone", spec := "textLone", unfollowed := true, recurses := true, apart := false }
def TextLoneSaid : Prop := textLoneRow.holds Try.pinned (OpenSpec.ofChange textLoneSpec)

/-- ITS FALSE NEIGHBOUR: 'it returns false'. Refute it at one input. -/
def textLoneWrong : ChangeSpec := { name := "textLone", fn := fun _ => fun
  | [d] => { results := [.lit (.bool false)], args := [d] }
  | _ => none }
def TextLoneWrongFalsely : Prop := textLoneRow.holds Try.pinned (OpenSpec.ofChange textLoneWrong)

/-- 'oyezlaw02.TextBroken': WHATEVER THE INPUT: true; the input reads as it did. -/
def textBrokenSpec : ChangeSpec := { name := "textBroken", fn := fun _ => fun
  | [d1, d2] => { results := [.lit (.bool true)], args := [d1, d2] }
  | _ => none }
def textBrokenRow : OpenClaim := { program := "ytfamlpbdhhikdaa", sum := "06a821d35d644027973e0f854273c2ec208c6316d5afc17e476f805ad96a8db6", func := "oyez/oyezlaw02.TextBroken", spec := "textBroken", unfollowed := true, recurses := true, apart := false }
def TextBrokenSaid : Prop := textBrokenRow.holds Try.pinned (OpenSpec.ofChange textBrokenSpec)

/-- ITS FALSE NEIGHBOUR: 'it returns false'. Refute it at one input. -/
def textBrokenWrong : ChangeSpec := { name := "textBroken", fn := fun _ => fun
  | [d1, d2] => { results := [.lit (.bool false)], args := [d1, d2] }
  | _ => none }
def TextBrokenWrongFalsely : Prop := textBrokenRow.holds Try.pinned (OpenSpec.ofChange textBrokenWrong)

/-- 'oyezlaw02.TextMarks': WHATEVER THE INPUT: true; the input reads as it did. -/
def textMarksSpec : ChangeSpec := { name := "textMarks", fn := fun _ => fun
  | [d1, d2] => { results := [.lit (.bool true)], args := [d1, d2] }
  | _ => none }
def textMarksRow : OpenClaim := { program := "ytfamlpbdhhikdaa", sum := "06a821d35d644027973e0f854273c2ec208c6316d5afc17e476f805ad96a8db6", func := "oyez/oyezlaw02.TextMarks", spec := "textMarks", unfollowed := true, recurses := true, apart := false }
def TextMarksSaid : Prop := textMarksRow.holds Try.pinned (OpenSpec.ofChange textMarksSpec)

/-- ITS FALSE NEIGHBOUR: 'it returns false'. Refute it at one input. -/
def textMarksWrong : ChangeSpec := { name := "textMarks", fn := fun _ => fun
  | [d1, d2] => { results := [.lit (.bool false)], args := [d1, d2] }
  | _ => none }
def TextMarksWrongFalsely : Prop := textMarksRow.holds Try.pinned (OpenSpec.ofChange textMarksWrong)

/-- 'oyezlaw02.TextKept': WHATEVER THE INPUT: true; the input reads as it did. -/
def textKeptSpec : ChangeSpec := { name := "textKept", fn := fun _ => fun
  | [d1, d2, d3] => { results := [.lit (.bool true)], args := [d1, d2, d3] }
  | _ => none }
def textKeptRow : OpenClaim := { program := "ytfamlpbdhhikdaa", sum := "06a821d35d644027973e0f854273c2ec208c6316d5afc17e476f805ad96a8db6", func := "oyez/oyezlaw02.TextKept", spec := "textKept", unfollowed := true, recurses := true, apart := false }
def TextKeptSaid : Prop := textKeptRow.holds Try.pinned (OpenSpec.ofChange textKeptSpec)

/-- ITS FALSE NEIGHBOUR: 'it returns false'. Refute it at one input. -/
def textKeptWrong : ChangeSpec := { name := "textKept", fn := fun _ => fun
  | [d1, d2, d3] => { results := [.lit (.bool false)], args := [d1, d2, d3] }
  | _ => none }
def TextKeptWrongFalsely : Prop := textKeptRow.holds Try.pinned (OpenSpec.ofChange textKeptWrong)

/-- 'oyezlaw02.TextShorter': WHATEVER THE INPUT: true; the input reads as it did. -/
def textShorterSpec : ChangeSpec := { name := "textShorter", fn := fun _ => fun
  | [d1, d2, d3] => { results := [.lit (.bool true)], args := [d1, d2, d3] }
  | _ => none }
def textShorterRow : OpenClaim := { program := "ytfamlpbdhhikdaa", sum := "06a821d35d644027973e0f854273c2ec208c6316d5afc17e476f805ad96a8db6", func := "oyez/oyezlaw02.TextShorter", spec := "textShorter", unfollowed := true, recurses := true, apart := false }
def TextShorterSaid : Prop := textShorterRow.holds Try.pinned (OpenSpec.ofChange textShorterSpec)

/-- ITS FALSE NEIGHBOUR: 'it returns false'. Refute it at one input. -/
def textShorterWrong : ChangeSpec := { name := "textShorter", fn := fun _ => fun
  | [d1, d2, d3] => { results := [.lit (.bool false)], args := [d1, d2, d3] }
  | _ => none }
def TextShorterWrongFalsely : Prop := textShorterRow.holds Try.pinned (OpenSpec.ofChange textShorterWrong)

/-- 'oyezlaw02.TextShortened': WHATEVER THE INPUT: true; the input reads as it did. -/
def textShortenedSpec : ChangeSpec := { name := "textShortened", fn := fun _ => fun
  | [d1, d2, d3] => { results := [.lit (.bool true)], args := [d1, d2, d3] }
  | _ => none }
def textShortenedRow : OpenClaim := { program := "ytfamlpbdhhikdaa", sum := "06a821d35d644027973e0f854273c2ec208c6316d5afc17e476f805ad96a8db6", func := "oyez/oyezlaw02.TextShortened", spec := "textShortened", unfollowed := true, recurses := true, apart := false }
def TextShortenedSaid : Prop := textShortenedRow.holds Try.pinned (OpenSpec.ofChange textShortenedSpec)

/-- ITS FALSE NEIGHBOUR: 'it returns false'. Refute it at one input. -/
def textShortenedWrong : ChangeSpec := { name := "textShortened", fn := fun _ => fun
  | [d1, d2, d3] => { results := [.lit (.bool false)], args := [d1, d2, d3] }
  | _ => none }
def TextShortenedWrongFalsely : Prop := textShortenedRow.holds Try.pinned (OpenSpec.ofChange textShortenedWrong)

/- THE SECOND FORM. 'bulk': how many values and letters a reading holds, each counted each time it is reached (what is shared counts as often as it is met; a slice's spare places count too). A statement '..UptoSaid' is the law's where the arguments, and the package variables that the reading takes, are together of bulk at most 1048576: NARROWER than '..Said'. Prove '..Said' where nothing that the law and all that it calls make is longer than what came in: it says more and counts as full. Else prove '..UptoSaid'. A law counts once. -/
mutual
def uptoBulk {H : Type} : DataW H → Nat
  | .lit (.string bytes) => bytes.length + 1
  | .lit _ => 1
  | .nil => 1
  | .ptr d => uptoBulk d + 1
  | .slice elems spare => uptoBulkAll elems + uptoBulkAll spare + 1
  | .agg parts => uptoBulkAll parts + 1
  | .iface _ d => uptoBulk d + 1
  | .map entries => uptoBulkEntries entries + 1
  | .held _ => 1
def uptoBulkAll {H : Type} : List (DataW H) → Nat
  | [] => 0
  | d :: r => uptoBulk d + uptoBulkAll r
def uptoBulkEntries {H : Type} : List (Lit × DataW H) → Nat
  | [] => 0
  | x :: r => uptoBulkEntry x + uptoBulkEntries r
def uptoBulkEntry {H : Type} : Lit × DataW H → Nat
  | (.string bytes, d) => bytes.length + uptoBulk d + 1
  | (_, d) => uptoBulk d + 1
 end
def uptoSmall : (H : Type) → List (DataW H) → Bool := fun _ ds => decide (uptoBulkAll ds ≤ 1048576)
def OpenSpec.upto (s : _root_.Go.ChangeSpec) : _root_.Go.OpenSpec := { _root_.Go.OpenSpec.ofChange s with cond := some uptoSmall }

/-- 'oyezlaw02.TextFewest', WHERE WHAT IT READS IS OF BULK AT MOST 1048576: true; the input reads as it did. -/
def textFewestUptoRow : OpenClaim := { program := "ytfamlpbdhhikdaa", sum := "06a821d35d644027973e0f854273c2ec208c6316d5afc17e476f805ad96a8db6", func := "oyez/oyezlaw02.TextFewest", spec := "textFewest", unfollowed := true, recurses := true, apart := false, narrowed := true }
def TextFewestUptoSaid : Prop := textFewestUptoRow.holds Try.pinned (OpenSpec.upto textFewestSpec)

/-- 'oyezlaw02.TextAstray', WHERE WHAT IT READS IS OF BULK AT MOST 1048576: true; the input reads as it did. -/
def textAstrayUptoRow : OpenClaim := { program := "ytfamlpbdhhikdaa", sum := "06a821d35d644027973e0f854273c2ec208c6316d5afc17e476f805ad96a8db6", func := "oyez/oyezlaw02.TextAstray", spec := "textAstray", unfollowed := true, recurses := true, apart := false, narrowed := true }
def TextAstrayUptoSaid : Prop := textAstrayUptoRow.holds Try.pinned (OpenSpec.upto textAstraySpec)

/-- 'oyezlaw02.TextCounted', WHERE WHAT IT READS IS OF BULK AT MOST 1048576: true; the input reads as it did. -/
def textCountedUptoRow : OpenClaim := { program := "ytfamlpbdhhikdaa", sum := "06a821d35d644027973e0f854273c2ec208c6316d5afc17e476f805ad96a8db6", func := "oyez/oyezlaw02.TextCounted", spec := "textCounted", unfollowed := true, recurses := true, apart := false, narrowed := true }
def TextCountedUptoSaid : Prop := textCountedUptoRow.holds Try.pinned (OpenSpec.upto textCountedSpec)

/-- 'oyezlaw02.TextParts', WHERE WHAT IT READS IS OF BULK AT MOST 1048576: true; the input reads as it did. -/
def textPartsUptoRow : OpenClaim := { program := "ytfamlpbdhhikdaa", sum := "06a821d35d644027973e0f854273c2ec208c6316d5afc17e476f805ad96a8db6", func := "oyez/oyezlaw02.TextParts", spec := "textParts", unfollowed := true, recurses := true, apart := false, narrowed := true }
def TextPartsUptoSaid : Prop := textPartsUptoRow.holds Try.pinned (OpenSpec.upto textPartsSpec)

/-- 'oyezlaw02.TextSure', WHERE WHAT IT READS IS OF BULK AT MOST 1048576: true; the input reads as it did. -/
def textSureUptoRow : OpenClaim := { program := "ytfamlpbdhhikdaa", sum := "06a821d35d644027973e0f854273c2ec208c6316d5afc17e476f805ad96a8db6", func := "oyez/oyezlaw02.TextSure", spec := "textSure", unfollowed := true, recurses := true, apart := false, narrowed := true }
def TextSureUptoSaid : Prop := textSureUptoRow.holds Try.pinned (OpenSpec.upto textSureSpec)

/-- 'oyezlaw02.TextEvener', WHERE WHAT IT READS IS OF BULK AT MOST 1048576: true; the input reads as it did. -/
def textEvenerUptoRow : OpenClaim := { program := "ytfamlpbdhhikdaa", sum := "06a821d35d644027973e0f854273c2ec208c6316d5afc17e476f805ad96a8db6", func := "oyez/oyezlaw02.TextEvener", spec := "textEvener", unfollowed := true, recurses := true, apart := false, narrowed := true }
def TextEvenerUptoSaid : Prop := textEvenerUptoRow.holds Try.pinned (OpenSpec.upto textEvenerSpec)

/-- 'oyezlaw02.TextLeast', WHERE WHAT IT READS IS OF BULK AT MOST 1048576: true; the input reads as it did. -/
def textLeastUptoRow : OpenClaim := { program := "ytfamlpbdhhikdaa", sum := "06a821d35d644027973e0f854273c2ec208c6316d5afc17e476f805ad96a8db6", func := "oyez/oyezlaw02.TextLeast", spec := "textLeast", unfollowed := true, recurses := true, apart := false, narrowed := true }
def TextLeastUptoSaid : Prop := textLeastUptoRow.holds Try.pinned (OpenSpec.upto textLeastSpec)

/-- 'oyezlaw02.TextMore', WHERE WHAT IT READS IS OF BULK AT MOST 1048576: true; the input reads as it did. -/
def textMoreUptoRow : OpenClaim := { program := "ytfamlpbdhhikdaa", sum := "06a821d35d644027973e0f854273c2ec208c6316d5afc17e476f805ad96a8db6", func := "oyez/oyezlaw02.TextMore", spec := "textMore", unfollowed := true, recurses := true, apart := false, narrowed := true }
def TextMoreUptoSaid : Prop := textMoreUptoRow.holds Try.pinned (OpenSpec.upto textMoreSpec)

/-- 'oyezlaw02.TextEven', WHERE WHAT IT READS IS OF BULK AT MOST 1048576: true; the input reads as it did. -/
def textEvenUptoRow : OpenClaim := { program := "ytfamlpbdhhikdaa", sum := "06a821d35d644027973e0f854273c2ec208c6316d5afc17e476f805ad96a8db6", func := "oyez/oyezlaw02.TextEven", spec := "textEven", unfollowed := true, recurses := true, apart := false, narrowed := true }
def TextEvenUptoSaid : Prop := textEvenUptoRow.holds Try.pinned (OpenSpec.upto textEvenSpec)

/-- 'oyezlaw02.TextLone', WHERE WHAT IT READS IS OF BULK AT MOST 1048576: true; the input reads as it did. -/
def textLoneUptoRow : OpenClaim := { program := "ytfamlpbdhhikdaa", sum := "06a821d35d644027973e0f854273c2ec208c6316d5afc17e476f805ad96a8db6", func := "oyez/oyezlaw02.TextLone", spec := "textLone", unfollowed := true, recurses := true, apart := false, narrowed := true }
def TextLoneUptoSaid : Prop := textLoneUptoRow.holds Try.pinned (OpenSpec.upto textLoneSpec)

/-- 'oyezlaw02.TextBroken', WHERE WHAT IT READS IS OF BULK AT MOST 1048576: true; the input reads as it did. -/
def textBrokenUptoRow : OpenClaim := { program := "ytfamlpbdhhikdaa", sum := "06a821d35d644027973e0f854273c2ec208c6316d5afc17e476f805ad96a8db6", func := "oyez/oyezlaw02.TextBroken", spec := "textBroken", unfollowed := true, recurses := true, apart := false, narrowed := true }
def TextBrokenUptoSaid : Prop := textBrokenUptoRow.holds Try.pinned (OpenSpec.upto textBrokenSpec)

/-- 'oyezlaw02.TextMarks', WHERE WHAT IT READS IS OF BULK AT MOST 1048576: true; the input reads as it did. -/
def textMarksUptoRow : OpenClaim := { program := "ytfamlpbdhhikdaa", sum := "06a821d35d644027973e0f854273c2ec208c6316d5afc17e476f805ad96a8db6", func := "oyez/oyezlaw02.TextMarks", spec := "textMarks", unfollowed := true, recurses := true, apart := false, narrowed := true }
def TextMarksUptoSaid : Prop := textMarksUptoRow.holds Try.pinned (OpenSpec.upto textMarksSpec)

/-- 'oyezlaw02.TextKept', WHERE WHAT IT READS IS OF BULK AT MOST 1048576: true; the input reads as it did. -/
def textKeptUptoRow : OpenClaim := { program := "ytfamlpbdhhikdaa", sum := "06a821d35d644027973e0f854273c2ec208c6316d5afc17e476f805ad96a8db6", func := "oyez/oyezlaw02.TextKept", spec := "textKept", unfollowed := true, recurses := true, apart := false, narrowed := true }
def TextKeptUptoSaid : Prop := textKeptUptoRow.holds Try.pinned (OpenSpec.upto textKeptSpec)

/-- 'oyezlaw02.TextShorter', WHERE WHAT IT READS IS OF BULK AT MOST 1048576: true; the input reads as it did. -/
def textShorterUptoRow : OpenClaim := { program := "ytfamlpbdhhikdaa", sum := "06a821d35d644027973e0f854273c2ec208c6316d5afc17e476f805ad96a8db6", func := "oyez/oyezlaw02.TextShorter", spec := "textShorter", unfollowed := true, recurses := true, apart := false, narrowed := true }
def TextShorterUptoSaid : Prop := textShorterUptoRow.holds Try.pinned (OpenSpec.upto textShorterSpec)

/-- 'oyezlaw02.TextShortened', WHERE WHAT IT READS IS OF BULK AT MOST 1048576: true; the input reads as it did. -/
def textShortenedUptoRow : OpenClaim := { program := "ytfamlpbdhhikdaa", sum := "06a821d35d644027973e0f854273c2ec208c6316d5afc17e476f805ad96a8db6", func := "oyez/oyezlaw02.TextShortened", spec := "textShortened", unfollowed := true, recurses := true, apart := false, narrowed := true }
def TextShortenedUptoSaid : Prop := textShortenedUptoRow.holds Try.pinned (OpenSpec.upto textShortenedSpec)

end Rows
end Go.Proofs.Ytfamlpbdhhikdaa
