/-
  No cell of these rows narrows 'for every input' (looked for: loops, veiled, ifaces, maps, wideKeys, modest, calm, conditions, laid).
  DERIVED. THE GIVEN ROWS OF THIS SEAT. 8 by the template 'for every input the law returns true; each argument reads behind the call as it read before'; 0 by the template 'total and deterministic' (their statements: YtcmaecfpggmcoaaTotals.lean).
  GIVEN WITH THE SEED: the statements are not yours to turn. If you find one false, say at which input.
  Laid BY PROGRAM, IN A SANDBOX (cutbox-rows.mjs): the forced cells as the released guide's own fill.sh prints them over the translation 49b90b3932b7a770… (all of the seat's roots in one cut). By AI agents, Wed Nov 11 2026. No macro, syntax, notation, axiom, sorry.
-/
import Derived.Test.YtcmaecfpggmcoaaChecked
import GoSem.Claim
import GoSem.ClaimJoined
import GoSem.ClaimMapViews
import Derived.JoinedTies
import Derived.KernelRfl
namespace Go.Proofs.Ytcmaecfpggmcoaa
/- THE CELL 'sum', in the pinned program and in every row, IS THE sha256 OF THE DUMP (.gsa) THAT YtcmaecfpggmcoaaProg.lean LOADS. Nothing in Lean hashes anything: it is a label: what it is worth is what the hold of that sum in a sandbox is worth. -/
noncomputable def Try.pinned : Pinned := { name := "ytcmaecfpggmcoaa", sum := "49b90b3932b7a7705e1fabc359118f6fafd3d2c17a6df0e70905a33531b76a51", checked := Try.checked }
namespace Rows
def none {H : Type} : Left H := { results := [], args := [] }

/-- 'reliquarylaw02.ModulusRoots': WHATEVER THE INPUT: true; the input reads as it did. -/
def modulusRootsSpec : ChangeSpec := { name := "modulusRoots", fn := fun _ => fun
  | [d1, d2] => { results := [.lit (.bool true)], args := [d1, d2] }
  | _ => none }
def modulusRootsRow : OpenClaim := { program := "ytcmaecfpggmcoaa", sum := "49b90b3932b7a7705e1fabc359118f6fafd3d2c17a6df0e70905a33531b76a51", func := "reliquary/reliquarylaw02.ModulusRoots", spec := "modulusRoots", inPlace := ["math/bits.Sub64", "math/bits.Add64"], apart := false }
def ModulusRootsSaid : Prop := modulusRootsRow.holds Try.pinned (OpenSpec.ofChange modulusRootsSpec)

/-- ITS FALSE NEIGHBOUR: 'it returns false'. Refute it at one input. -/
def modulusRootsWrong : ChangeSpec := { name := "modulusRoots", fn := fun _ => fun
  | [d1, d2] => { results := [.lit (.bool false)], args := [d1, d2] }
  | _ => none }
def ModulusRootsWrongFalsely : Prop := modulusRootsRow.holds Try.pinned (OpenSpec.ofChange modulusRootsWrong)

/-- 'reliquarylaw02.ModulusTells': WHATEVER THE INPUT: true; the input reads as it did. -/
def modulusTellsSpec : ChangeSpec := { name := "modulusTells", fn := fun _ => fun
  | [d1, d2, d3] => { results := [.lit (.bool true)], args := [d1, d2, d3] }
  | _ => none }
def modulusTellsRow : OpenClaim := { program := "ytcmaecfpggmcoaa", sum := "49b90b3932b7a7705e1fabc359118f6fafd3d2c17a6df0e70905a33531b76a51", func := "reliquary/reliquarylaw02.ModulusTells", spec := "modulusTells", inPlace := ["math/bits.Sub64", "math/bits.Add64"], apart := false }
def ModulusTellsSaid : Prop := modulusTellsRow.holds Try.pinned (OpenSpec.ofChange modulusTellsSpec)

/-- ITS FALSE NEIGHBOUR: 'it returns false'. Refute it at one input. -/
def modulusTellsWrong : ChangeSpec := { name := "modulusTells", fn := fun _ => fun
  | [d1, d2, d3] => { results := [.lit (.bool false)], args := [d1, d2, d3] }
  | _ => none }
def ModulusTellsWrongFalsely : Prop := modulusTellsRow.holds Try.pinned (OpenSpec.ofChange modulusTellsWrong)

/-- 'reliquarylaw02.ModulusInv': WHATEVER THE INPUT: true; the input reads as it did. -/
def modulusInvSpec : ChangeSpec := { name := "modulusInv", fn := fun _ => fun
  | [d1, d2] => { results := [.lit (.bool true)], args := [d1, d2] }
  | _ => none }
def modulusInvRow : OpenClaim := { program := "ytcmaecfpggmcoaa", sum := "49b90b3932b7a7705e1fabc359118f6fafd3d2c17a6df0e70905a33531b76a51", func := "reliquary/reliquarylaw02.ModulusInv", spec := "modulusInv", inPlace := ["math/bits.Sub64", "math/bits.Add64"], apart := false }
def ModulusInvSaid : Prop := modulusInvRow.holds Try.pinned (OpenSpec.ofChange modulusInvSpec)

/-- ITS FALSE NEIGHBOUR: 'it returns false'. Refute it at one input. -/
def modulusInvWrong : ChangeSpec := { name := "modulusInv", fn := fun _ => fun
  | [d1, d2] => { results := [.lit (.bool false)], args := [d1, d2] }
  | _ => none }
def ModulusInvWrongFalsely : Prop := modulusInvRow.holds Try.pinned (OpenSpec.ofChange modulusInvWrong)

/-- 'reliquarylaw02.ModulusPowers': WHATEVER THE INPUT: true; the input reads as it did. -/
def modulusPowersSpec : ChangeSpec := { name := "modulusPowers", fn := fun _ => fun
  | [d1, d2, d3, d4] => { results := [.lit (.bool true)], args := [d1, d2, d3, d4] }
  | _ => none }
def modulusPowersRow : OpenClaim := { program := "ytcmaecfpggmcoaa", sum := "49b90b3932b7a7705e1fabc359118f6fafd3d2c17a6df0e70905a33531b76a51", func := "reliquary/reliquarylaw02.ModulusPowers", spec := "modulusPowers", inPlace := ["math/bits.Sub64", "math/bits.Add64"], apart := false }
def ModulusPowersSaid : Prop := modulusPowersRow.holds Try.pinned (OpenSpec.ofChange modulusPowersSpec)

/-- ITS FALSE NEIGHBOUR: 'it returns false'. Refute it at one input. -/
def modulusPowersWrong : ChangeSpec := { name := "modulusPowers", fn := fun _ => fun
  | [d1, d2, d3, d4] => { results := [.lit (.bool false)], args := [d1, d2, d3, d4] }
  | _ => none }
def ModulusPowersWrongFalsely : Prop := modulusPowersRow.holds Try.pinned (OpenSpec.ofChange modulusPowersWrong)

/-- 'reliquarylaw02.ModulusRing': WHATEVER THE INPUT: true; the input reads as it did. -/
def modulusRingSpec : ChangeSpec := { name := "modulusRing", fn := fun _ => fun
  | [d1, d2, d3, d4] => { results := [.lit (.bool true)], args := [d1, d2, d3, d4] }
  | _ => none }
def modulusRingRow : OpenClaim := { program := "ytcmaecfpggmcoaa", sum := "49b90b3932b7a7705e1fabc359118f6fafd3d2c17a6df0e70905a33531b76a51", func := "reliquary/reliquarylaw02.ModulusRing", spec := "modulusRing", inPlace := ["math/bits.Sub64", "math/bits.Add64"], apart := false }
def ModulusRingSaid : Prop := modulusRingRow.holds Try.pinned (OpenSpec.ofChange modulusRingSpec)

/-- ITS FALSE NEIGHBOUR: 'it returns false'. Refute it at one input. -/
def modulusRingWrong : ChangeSpec := { name := "modulusRing", fn := fun _ => fun
  | [d1, d2, d3, d4] => { results := [.lit (.bool false)], args := [d1, d2, d3, d4] }
  | _ => none }
def ModulusRingWrongFalsely : Prop := modulusRingRow.holds Try.pinned (OpenSpec.ofChange modulusRingWrong)

/-- 'reliquarylaw02.ModulusFields': WHATEVER THE INPUT: true; the input reads as it did. -/
def modulusFieldsSpec : ChangeSpec := { name := "modulusFields", fn := fun _ => fun
  | [d] => { results := [.lit (.bool true)], args := [d] }
  | _ => none }
def modulusFieldsRow : OpenClaim := { program := "ytcmaecfpggmcoaa", sum := "49b90b3932b7a7705e1fabc359118f6fafd3d2c17a6df0e70905a33531b76a51", func := "reliquary/reliquarylaw02.ModulusFields", spec := "modulusFields", inPlace := ["math/bits.Sub64", "math/bits.Add64"], apart := false }
def ModulusFieldsSaid : Prop := modulusFieldsRow.holds Try.pinned (OpenSpec.ofChange modulusFieldsSpec)

/-- ITS FALSE NEIGHBOUR: 'it returns false'. Refute it at one input. -/
def modulusFieldsWrong : ChangeSpec := { name := "modulusFields", fn := fun _ => fun
  | [d] => { results := [.lit (.bool false)], args := [d] }
  | _ => none }
def ModulusFieldsWrongFalsely : Prop := modulusFieldsRow.holds Try.pinned (OpenSpec.ofChange modulusFieldsWrong)

/-- 'reliquarylaw02.ModulusNone': WHATEVER THE INPUT: true; the input reads as it did. -/
def modulusNoneSpec : ChangeSpec := { name := "modulusNone", fn := fun _ => fun
  | [d1, d2] => { results := [.lit (.bool true)], args := [d1, d2] }
  | _ => none }
def modulusNoneRow : OpenClaim := { program := "ytcmaecfpggmcoaa", sum := "49b90b3932b7a7705e1fabc359118f6fafd3d2c17a6df0e70905a33531b76a51", func := "reliquary/reliquarylaw02.ModulusNone", spec := "modulusNone", inPlace := ["math/bits.Add64", "math/bits.Sub64"], apart := false }
def ModulusNoneSaid : Prop := modulusNoneRow.holds Try.pinned (OpenSpec.ofChange modulusNoneSpec)

/-- ITS FALSE NEIGHBOUR: 'it returns false'. Refute it at one input. -/
def modulusNoneWrong : ChangeSpec := { name := "modulusNone", fn := fun _ => fun
  | [d1, d2] => { results := [.lit (.bool false)], args := [d1, d2] }
  | _ => none }
def ModulusNoneWrongFalsely : Prop := modulusNoneRow.holds Try.pinned (OpenSpec.ofChange modulusNoneWrong)

/-- 'reliquarylaw02.ModulusKnown': WHATEVER THE INPUT: true; the input reads as it did. -/
def modulusKnownSpec : ChangeSpec := { name := "modulusKnown", fn := fun _ => fun
  | [] => { results := [.lit (.bool true)], args := [] }
  | _ => none }
def modulusKnownRow : OpenClaim := { program := "ytcmaecfpggmcoaa", sum := "49b90b3932b7a7705e1fabc359118f6fafd3d2c17a6df0e70905a33531b76a51", func := "reliquary/reliquarylaw02.ModulusKnown", spec := "modulusKnown", inPlace := ["math/bits.Sub64", "math/bits.Add64"], apart := false }
def ModulusKnownSaid : Prop := modulusKnownRow.holds Try.pinned (OpenSpec.ofChange modulusKnownSpec)

/-- ITS FALSE NEIGHBOUR: 'it returns false'. Refute it at one input. -/
def modulusKnownWrong : ChangeSpec := { name := "modulusKnown", fn := fun _ => fun
  | [] => { results := [.lit (.bool false)], args := [] }
  | _ => none }
def ModulusKnownWrongFalsely : Prop := modulusKnownRow.holds Try.pinned (OpenSpec.ofChange modulusKnownWrong)

/- THE SECOND FORM. 'bulk': how many values and letters a reading holds, each counted each time it is reached (what is shared counts as often as it is met; a slice's spare places count too). A statement '..UptoSaid' is the law's where the arguments, and the package variables that the reading takes, are together of bulk at most 1048576: NARROWER than '..Said'. Prove '..Said' where nothing that the law and all that it calls make is longer than what came in: it says more and counts as full. Else prove '..UptoSaid'. A law counts once. -/
mutual
def uptoBulk {H : Type} : DataW H → Nat
  | .lit (.string bytes) => bytes.length + 1
  | .lit _ => 1
  | .nil => 1
  | .ptr d => uptoBulk d + 1
  | .slice elems spare => uptoBulkAll elems + uptoBulkAll spare + 1
  | .agg parts => uptoBulkAll parts + 1
  | .iface _ d => uptoBulk d + 1
  | .map entries => uptoBulkEntries entries + 1
  | .held _ => 1
def uptoBulkAll {H : Type} : List (DataW H) → Nat
  | [] => 0
  | d :: r => uptoBulk d + uptoBulkAll r
def uptoBulkEntries {H : Type} : List (Lit × DataW H) → Nat
  | [] => 0
  | x :: r => uptoBulkEntry x + uptoBulkEntries r
def uptoBulkEntry {H : Type} : Lit × DataW H → Nat
  | (.string bytes, d) => bytes.length + uptoBulk d + 1
  | (_, d) => uptoBulk d + 1
 end
def uptoSmall : (H : Type) → List (DataW H) → Bool := fun _ ds => decide (uptoBulkAll ds ≤ 1048576)
def OpenSpec.upto (s : _root_.Go.ChangeSpec) : _root_.Go.OpenSpec := { _root_.Go.OpenSpec.ofChange s with cond := some uptoSmall }

/-- 'reliquarylaw02.ModulusRoots', WHERE WHAT IT READS IS OF BULK AT MOST 1048576: true; the input reads as it did. -/
def modulusRootsUptoRow : OpenClaim := { program := "ytcmaecfpggmcoaa", sum := "49b90b3932b7a7705e1fabc359118f6fafd3d2c17a6df0e70905a33531b76a51", func := "reliquary/reliquarylaw02.ModulusRoots", spec := "modulusRoots", inPlace := ["math/bits.Sub64", "math/bits.Add64"], apart := false, narrowed := true }
def ModulusRootsUptoSaid : Prop := modulusRootsUptoRow.holds Try.pinned (OpenSpec.upto modulusRootsSpec)

/-- 'reliquarylaw02.ModulusTells', WHERE WHAT IT READS IS OF BULK AT MOST 1048576: true; the input reads as it did. -/
def modulusTellsUptoRow : OpenClaim := { program := "ytcmaecfpggmcoaa", sum := "49b90b3932b7a7705e1fabc359118f6fafd3d2c17a6df0e70905a33531b76a51", func := "reliquary/reliquarylaw02.ModulusTells", spec := "modulusTells", inPlace := ["math/bits.Sub64", "math/bits.Add64"], apart := false, narrowed := true }
def ModulusTellsUptoSaid : Prop := modulusTellsUptoRow.holds Try.pinned (OpenSpec.upto modulusTellsSpec)

/-- 'reliquarylaw02.ModulusInv', WHERE WHAT IT READS IS OF BULK AT MOST 1048576: true; the input reads as it did. -/
def modulusInvUptoRow : OpenClaim := { program := "ytcmaecfpggmcoaa", sum := "49b90b3932b7a7705e1fabc359118f6fafd3d2c17a6df0e70905a33531b76a51", func := "reliquary/reliquarylaw02.ModulusInv", spec := "modulusInv", inPlace := ["math/bits.Sub64", "math/bits.Add64"], apart := false, narrowed := true }
def ModulusInvUptoSaid : Prop := modulusInvUptoRow.holds Try.pinned (OpenSpec.upto modulusInvSpec)

/-- 'reliquarylaw02.ModulusPowers', WHERE WHAT IT READS IS OF BULK AT MOST 1048576: true; the input reads as it did. -/
def modulusPowersUptoRow : OpenClaim := { program := "ytcmaecfpggmcoaa", sum := "49b90b3932b7a7705e1fabc359118f6fafd3d2c17a6df0e70905a33531b76a51", func := "reliquary/reliquarylaw02.ModulusPowers", spec := "modulusPowers", inPlace := ["math/bits.Sub64", "math/bits.Add64"], apart := false, narrowed := true }
def ModulusPowersUptoSaid : Prop := modulusPowersUptoRow.holds Try.pinned (OpenSpec.upto modulusPowersSpec)

/-- 'reliquarylaw02.ModulusRing', WHERE WHAT IT READS IS OF BULK AT MOST 1048576: true; the input reads as it did. -/
def modulusRingUptoRow : OpenClaim := { program := "ytcmaecfpggmcoaa", sum := "49b90b3932b7a7705e1fabc359118f6fafd3d2c17a6df0e70905a33531b76a51", func := "reliquary/reliquarylaw02.ModulusRing", spec := "modulusRing", inPlace := ["math/bits.Sub64", "math/bits.Add64"], apart := false, narrowed := true }
def ModulusRingUptoSaid : Prop := modulusRingUptoRow.holds Try.pinned (OpenSpec.upto modulusRingSpec)

/-- 'reliquarylaw02.ModulusFields', WHERE WHAT IT READS IS OF BULK AT MOST 1048576: true; the input reads as it did. -/
def modulusFieldsUptoRow : OpenClaim := { program := "ytcmaecfpggmcoaa", sum := "49b90b3932b7a7705e1fabc359118f6fafd3d2c17a6df0e70905a33531b76a51", func := "reliquary/reliquarylaw02.ModulusFields", spec := "modulusFields", inPlace := ["math/bits.Sub64", "math/bits.Add64"], apart := false, narrowed := true }
def ModulusFieldsUptoSaid : Prop := modulusFieldsUptoRow.holds Try.pinned (OpenSpec.upto modulusFieldsSpec)

/-- 'reliquarylaw02.ModulusNone', WHERE WHAT IT READS IS OF BULK AT MOST 1048576: true; the input reads as it did. -/
def modulusNoneUptoRow : OpenClaim := { program := "ytcmaecfpggmcoaa", sum := "49b90b3932b7a7705e1fabc359118f6fafd3d2c17a6df0e70905a33531b76a51", func := "reliquary/reliquarylaw02.ModulusNone", spec := "modulusNone", inPlace := ["math/bits.Add64", "math/bits.Sub64"], apart := false, narrowed := true }
def ModulusNoneUptoSaid : Prop := modulusNoneUptoRow.holds Try.pinned (OpenSpec.upto modulusNoneSpec)

/-- 'reliquarylaw02.ModulusKnown', WHERE WHAT IT READS IS OF BULK AT MOST 1048576: true; the input reads as it did. -/
def modulusKnownUptoRow : OpenClaim := { program := "ytcmaecfpggmcoaa", sum := "49b90b3932b7a7705e1fabc359118f6fafd3d2c17a6df0e70905a33531b76a51", func := "reliquary/reliquarylaw02.ModulusKnown", spec := "modulusKnown", inPlace := ["math/bits.Sub64", "math/bits.Add64"], apart := false, narrowed := true }
def ModulusKnownUptoSaid : Prop := modulusKnownUptoRow.holds Try.pinned (OpenSpec.upto modulusKnownSpec)

end Rows
end Go.Proofs.Ytcmaecfpggmcoaa
