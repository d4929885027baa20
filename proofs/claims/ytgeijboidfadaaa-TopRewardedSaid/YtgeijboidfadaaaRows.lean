/-
  No cell of these rows narrows 'for every input' (looked for: loops, veiled, ifaces, maps, wideKeys, modest, calm, conditions, laid).
  DERIVED. THE GIVEN ROWS OF THIS SEAT. 3 by the template 'for every input the law returns true; each argument reads behind the call as it read before'; 0 by the template 'total and deterministic' (their statements: YtgeijboidfadaaaTotals.lean).
  GIVEN WITH THE SEED: the statements are not yours to turn. If you find one false, say at which input.
  Laid BY PROGRAM, IN A SANDBOX (cutbox-rows.mjs): the forced cells as the released guide's own fill.sh prints them over the translation 0d6f23eaa0b0680f… (all of the seat's roots in one cut). By AI agents, Wed Nov 11 2026. No macro, syntax, notation, axiom, sorry.
-/
import Derived.Test.YtgeijboidfadaaaChecked
import GoSem.Claim
import GoSem.ClaimJoined
import GoSem.ClaimMapViews
import Derived.JoinedTies
import Derived.KernelRfl
namespace Go.Proofs.Ytgeijboidfadaaa
/- THE CELL 'sum', in the pinned program and in every row, IS THE sha256 OF THE DUMP (.gsa) THAT YtgeijboidfadaaaProg.lean LOADS. Nothing in Lean hashes anything: it is a label: what it is worth is what the hold of that sum in a sandbox is worth. -/
noncomputable def Try.pinned : Pinned := { name := "ytgeijboidfadaaa", sum := "0d6f23eaa0b0680f80a5ccf00910e32011284cafd162c6be2d9dac24db98ea25", checked := Try.checked }
namespace Rows
def none {H : Type} : Left H := { results := [], args := [] }

/-- 'oyeztop.TopWorded': WHATEVER THE INPUT: true; the input reads as it did. -/
def topWordedSpec : ChangeSpec := { name := "topWorded", fn := fun _ => fun
  | [d] => { results := [.lit (.bool true)], args := [d] }
  | _ => none }
def topWordedRow : OpenClaim := { program := "ytgeijboidfadaaa", sum := "0d6f23eaa0b0680f80a5ccf00910e32011284cafd162c6be2d9dac24db98ea25", func := "oyez/oyeztop.TopWorded", spec := "topWorded", unfollowed := true, recurses := true, plainKeys := false, apart := false }
def TopWordedSaid : Prop := topWordedRow.holds Try.pinned (OpenSpec.ofChange topWordedSpec)

/-- ITS FALSE NEIGHBOUR: 'it returns false'. Refute it at one input. -/
def topWordedWrong : ChangeSpec := { name := "topWorded", fn := fun _ => fun
  | [d] => { results := [.lit (.bool false)], args := [d] }
  | _ => none }
def TopWordedWrongFalsely : Prop := topWordedRow.holds Try.pinned (OpenSpec.ofChange topWordedWrong)

/-- 'oyeztop.TopOverheard': WHATEVER THE INPUT: true; the input reads as it did. -/
def topOverheardSpec : ChangeSpec := { name := "topOverheard", fn := fun _ => fun
  | [d1, d2] => { results := [.lit (.bool true)], args := [d1, d2] }
  | _ => none }
def topOverheardRow : OpenClaim := { program := "ytgeijboidfadaaa", sum := "0d6f23eaa0b0680f80a5ccf00910e32011284cafd162c6be2d9dac24db98ea25", func := "oyez/oyeztop.TopOverheard", spec := "topOverheard", unfollowed := true, recurses := true, plainKeys := false, apart := false }
def TopOverheardSaid : Prop := topOverheardRow.holds Try.pinned (OpenSpec.ofChange topOverheardSpec)

/-- ITS FALSE NEIGHBOUR: 'it returns false'. Refute it at one input. -/
def topOverheardWrong : ChangeSpec := { name := "topOverheard", fn := fun _ => fun
  | [d1, d2] => { results := [.lit (.bool false)], args := [d1, d2] }
  | _ => none }
def TopOverheardWrongFalsely : Prop := topOverheardRow.holds Try.pinned (OpenSpec.ofChange topOverheardWrong)

/-- 'oyeztop.TopRewarded': WHATEVER THE INPUT: true; the input reads as it did. -/
def topRewardedSpec : ChangeSpec := { name := "topRewarded", fn := fun _ => fun
  | [d] => { results := [.lit (.bool true)], args := [d] }
  | _ => none }
def topRewardedRow : OpenClaim := { program := "ytgeijboidfadaaa", sum := "0d6f23eaa0b0680f80a5ccf00910e32011284cafd162c6be2d9dac24db98ea25", func := "oyez/oyeztop.TopRewarded", spec := "topRewarded", unfollowed := true, recurses := true, plainKeys := false, apart := false }
def TopRewardedSaid : Prop := topRewardedRow.holds Try.pinned (OpenSpec.ofChange topRewardedSpec)

/-- ITS FALSE NEIGHBOUR: 'it returns false'. Refute it at one input. -/
def topRewardedWrong : ChangeSpec := { name := "topRewarded", fn := fun _ => fun
  | [d] => { results := [.lit (.bool false)], args := [d] }
  | _ => none }
def TopRewardedWrongFalsely : Prop := topRewardedRow.holds Try.pinned (OpenSpec.ofChange topRewardedWrong)

/- THE SECOND FORM. 'bulk': how many values and letters a reading holds, each counted each time it is reached (what is shared counts as often as it is met; a slice's spare places count too). A statement '..UptoSaid' is the law's where the arguments, and the package variables that the reading takes, are together of bulk at most 1048576: NARROWER than '..Said'. Prove '..Said' where nothing that the law and all that it calls make is longer than what came in: it says more and counts as full. Else prove '..UptoSaid'. A law counts once. -/
mutual
def uptoBulk {H : Type} : DataW H → Nat
  | .lit (.string bytes) => bytes.length + 1
  | .lit _ => 1
  | .nil => 1
  | .ptr d => uptoBulk d + 1
  | .slice elems spare => uptoBulkAll elems + uptoBulkAll spare + 1
  | .agg parts => uptoBulkAll parts + 1
  | .iface _ d => uptoBulk d + 1
  | .map entries => uptoBulkEntries entries + 1
  | .held _ => 1
def uptoBulkAll {H : Type} : List (DataW H) → Nat
  | [] => 0
  | d :: r => uptoBulk d + uptoBulkAll r
def uptoBulkEntries {H : Type} : List (Lit × DataW H) → Nat
  | [] => 0
  | x :: r => uptoBulkEntry x + uptoBulkEntries r
def uptoBulkEntry {H : Type} : Lit × DataW H → Nat
  | (.string bytes, d) => bytes.length + uptoBulk d + 1
  | (_, d) => uptoBulk d + 1
 end
def uptoSmall : (H : Type) → List (DataW H) → Bool := fun _ ds => decide (uptoBulkAll ds ≤ 1048576)
def OpenSpec.upto (s : _root_.Go.ChangeSpec) : _root_.Go.OpenSpec := { _root_.Go.OpenSpec.ofChange s with cond := some uptoSmall }

/-- 'oyeztop.TopWorded', WHERE WHAT IT READS IS OF BULK AT MOST 1048576: true; the input reads as it did. -/
def topWordedUptoRow : OpenClaim := { program := "ytgeijboidfadaaa", sum := "0d6f23eaa0b0680f80a5ccf00910e32011284cafd162c6be2d9dac24db98ea25", func := "oyez/oyeztop.TopWorded", spec := "topWorded", unfollowed := true, recurses := true, plainKeys := false, apart := false, narrowed := true }
def TopWordedUptoSaid : Prop := topWordedUptoRow.holds Try.pinned (OpenSpec.upto topWordedSpec)

/-- 'oyeztop.TopOverheard', WHERE WHAT IT READS IS OF BULK AT MOST 1048576: true; the input reads as it did. -/
def topOverheardUptoRow : OpenClaim := { program := "ytgeijboidfadaaa", sum := "0d6f23eaa0b0680f80a5ccf00910e32011284cafd162c6be2d9dac24db98ea25", func := "oyez/oyeztop.TopOverheard", spec := "topOverheard", unfollowed := true, recurses := true, plainKeys := false, apart := false, narrowed := true }
def TopOverheardUptoSaid : Prop := topOverheardUptoRow.holds Try.pinned (OpenSpec.upto topOverheardSpec)

/-- 'oyeztop.TopRewarded', WHERE WHAT IT READS IS OF BULK AT MOST 1048576: true; the input reads as it did. -/
def topRewardedUptoRow : OpenClaim := { program := "ytgeijboidfadaaa", sum := "0d6f23eaa0b0680f80a5ccf00910e32011284cafd162c6be2d9dac24db98ea25", func := "oyez/oyeztop.TopRewarded", spec := "topRewarded", unfollowed := true, recurses := true, plainKeys := false, apart := false, narrowed := true }
def TopRewardedUptoSaid : Prop := topRewardedUptoRow.holds Try.pinned (OpenSpec.upto topRewardedSpec)

end Rows
end Go.Proofs.Ytgeijboidfadaaa
