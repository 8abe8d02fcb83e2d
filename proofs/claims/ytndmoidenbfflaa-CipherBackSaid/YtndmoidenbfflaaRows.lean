/-
  No cell of these rows narrows 'for every input' (looked for: loops, veiled, ifaces, maps, wideKeys, modest, calm, conditions, laid).
  DERIVED. THE GIVEN ROWS OF THIS SEAT. 4 by the template 'for every input the law returns true; each argument reads behind the call as it read before'; 0 by the template 'total and deterministic' (their statements: YtndmoidenbfflaaTotals.lean).
  GIVEN WITH THE SEED: the statements are not yours to turn. If you find one false, say at which input.
  Laid BY PROGRAM, IN A SANDBOX (cutbox-rows.mjs): the forced cells as the released guide's own fill.sh prints them over the translation 6c5760169370fb15… (all of the seat's roots in one cut). By AI agents, Wed Nov 11 2026. No macro, syntax, notation, axiom, sorry.
-/
import Derived.Test.YtndmoidenbfflaaChecked
import GoSem.Claim
import GoSem.ClaimJoined
import GoSem.ClaimMapViews
import Derived.JoinedTies
import Derived.KernelRfl
namespace Go.Proofs.Ytndmoidenbfflaa
/- THE CELL 'sum', in the pinned program and in every row, IS THE sha256 OF THE DUMP (.gsa) THAT YtndmoidenbfflaaProg.lean LOADS. Nothing in Lean hashes anything: it is a label: what it is worth is what the hold of that sum in a sandbox is worth. -/
noncomputable def Try.pinned : Pinned := { name := "ytndmoidenbfflaa", sum := "6c5760169370fb15e0c03be75b051751212b33a989369e9b21495ebe8e119dc8", checked := Try.checked }
namespace Rows
def none {H : Type} : Left H := { results := [], args := [] }

/-- 'reliquarylaw10.CipherStreams': WHATEVER THE INPUT: true; the input reads as it did. -/
def cipherStreamsSpec : ChangeSpec := { name := "cipherStreams", fn := fun _ => fun
  | [d1, d2, d3, d4] => { results := [.lit (.bool true)], args := [d1, d2, d3, d4] }
  | _ => none }
def cipherStreamsRow : OpenClaim := { program := "ytndmoidenbfflaa", sum := "6c5760169370fb15e0c03be75b051751212b33a989369e9b21495ebe8e119dc8", func := "reliquary/reliquarylaw10.CipherStreams", spec := "cipherStreams", inPlace := ["math/bits.Add64"], apart := false }
def CipherStreamsSaid : Prop := cipherStreamsRow.holds Try.pinned (OpenSpec.ofChange cipherStreamsSpec)

/-- ITS FALSE NEIGHBOUR: 'it returns false'. Refute it at one input. -/
def cipherStreamsWrong : ChangeSpec := { name := "cipherStreams", fn := fun _ => fun
  | [d1, d2, d3, d4] => { results := [.lit (.bool false)], args := [d1, d2, d3, d4] }
  | _ => none }
def CipherStreamsWrongFalsely : Prop := cipherStreamsRow.holds Try.pinned (OpenSpec.ofChange cipherStreamsWrong)

/-- 'reliquarylaw10.CipherSeals': WHATEVER THE INPUT: true; the input reads as it did. -/
def cipherSealsSpec : ChangeSpec := { name := "cipherSeals", fn := fun _ => fun
  | [d1, d2, d3, d4, d5] => { results := [.lit (.bool true)], args := [d1, d2, d3, d4, d5] }
  | _ => none }
def cipherSealsRow : OpenClaim := { program := "ytndmoidenbfflaa", sum := "6c5760169370fb15e0c03be75b051751212b33a989369e9b21495ebe8e119dc8", func := "reliquary/reliquarylaw10.CipherSeals", spec := "cipherSeals", inPlace := ["math/bits.Add64"], apart := false }
def CipherSealsSaid : Prop := cipherSealsRow.holds Try.pinned (OpenSpec.ofChange cipherSealsSpec)

/-- ITS FALSE NEIGHBOUR: 'it returns false'. Refute it at one input. -/
def cipherSealsWrong : ChangeSpec := { name := "cipherSeals", fn := fun _ => fun
  | [d1, d2, d3, d4, d5] => { results := [.lit (.bool false)], args := [d1, d2, d3, d4, d5] }
  | _ => none }
def CipherSealsWrongFalsely : Prop := cipherSealsRow.holds Try.pinned (OpenSpec.ofChange cipherSealsWrong)

/-- 'reliquarylaw10.CipherKnown': WHATEVER THE INPUT: true; the input reads as it did. -/
def cipherKnownSpec : ChangeSpec := { name := "cipherKnown", fn := fun _ => fun
  | [] => { results := [.lit (.bool true)], args := [] }
  | _ => none }
def cipherKnownRow : OpenClaim := { program := "ytndmoidenbfflaa", sum := "6c5760169370fb15e0c03be75b051751212b33a989369e9b21495ebe8e119dc8", func := "reliquary/reliquarylaw10.CipherKnown", spec := "cipherKnown", inPlace := ["math/bits.Add64"], apart := false }
def CipherKnownSaid : Prop := cipherKnownRow.holds Try.pinned (OpenSpec.ofChange cipherKnownSpec)

/-- ITS FALSE NEIGHBOUR: 'it returns false'. Refute it at one input. -/
def cipherKnownWrong : ChangeSpec := { name := "cipherKnown", fn := fun _ => fun
  | [] => { results := [.lit (.bool false)], args := [] }
  | _ => none }
def CipherKnownWrongFalsely : Prop := cipherKnownRow.holds Try.pinned (OpenSpec.ofChange cipherKnownWrong)

/-- 'reliquarylaw10.CipherBack': WHATEVER THE INPUT: true; the input reads as it did. -/
def cipherBackSpec : ChangeSpec := { name := "cipherBack", fn := fun _ => fun
  | [d1, d2, d3, d4, d5] => { results := [.lit (.bool true)], args := [d1, d2, d3, d4, d5] }
  | _ => none }
def cipherBackRow : OpenClaim := { program := "ytndmoidenbfflaa", sum := "6c5760169370fb15e0c03be75b051751212b33a989369e9b21495ebe8e119dc8", func := "reliquary/reliquarylaw10.CipherBack", spec := "cipherBack", inPlace := ["math/bits.Add64"], apart := false }
def CipherBackSaid : Prop := cipherBackRow.holds Try.pinned (OpenSpec.ofChange cipherBackSpec)

/-- ITS FALSE NEIGHBOUR: 'it returns false'. Refute it at one input. -/
def cipherBackWrong : ChangeSpec := { name := "cipherBack", fn := fun _ => fun
  | [d1, d2, d3, d4, d5] => { results := [.lit (.bool false)], args := [d1, d2, d3, d4, d5] }
  | _ => none }
def CipherBackWrongFalsely : Prop := cipherBackRow.holds Try.pinned (OpenSpec.ofChange cipherBackWrong)

/- THE SECOND FORM. 'bulk': how many values and letters a reading holds, each counted each time it is reached (what is shared counts as often as it is met; a slice's spare places count too). A statement '..UptoSaid' is the law's where the arguments, and the package variables that the reading takes, are together of bulk at most 1048576: NARROWER than '..Said'. Prove '..Said' where nothing that the law and all that it calls make is longer than what came in: it says more and counts as full. Else prove '..UptoSaid'. A law counts once. -/
mutual
def uptoBulk {H : Type} : DataW H → Nat
  | .lit (.string bytes) => bytes.length + 1
  | .lit _ => 1
  | .nil => 1
  | .ptr d => uptoBulk d + 1
  | .slice elems spare => uptoBulkAll elems + uptoBulkAll spare + 1
  | .agg parts => uptoBulkAll parts + 1
  | .iface _ d => uptoBulk d + 1
  | .map entries => uptoBulkEntries entries + 1
  | .held _ => 1
def uptoBulkAll {H : Type} : List (DataW H) → Nat
  | [] => 0
  | d :: r => uptoBulk d + uptoBulkAll r
def uptoBulkEntries {H : Type} : List (Lit × DataW H) → Nat
  | [] => 0
  | x :: r => uptoBulkEntry x + uptoBulkEntries r
def uptoBulkEntry {H : Type} : Lit × DataW H → Nat
  | (.string bytes, d) => bytes.length + uptoBulk d + 1
  | (_, d) => uptoBulk d + 1
 end
def uptoSmall : (H : Type) → List (DataW H) → Bool := fun _ ds => decide (uptoBulkAll ds ≤ 1048576)
def OpenSpec.upto (s : _root_.Go.ChangeSpec) : _root_.Go.OpenSpec := { _root_.Go.OpenSpec.ofChange s with cond := some uptoSmall }

/-- 'reliquarylaw10.CipherStreams', WHERE WHAT IT READS IS OF BULK AT MOST 1048576: true; the input reads as it did. -/
def cipherStreamsUptoRow : OpenClaim := { program := "ytndmoidenbfflaa", sum := "6c5760169370fb15e0c03be75b051751212b33a989369e9b21495ebe8e119dc8", func := "reliquary/reliquarylaw10.CipherStreams", spec := "cipherStreams", inPlace := ["math/bits.Add64"], apart := false, narrowed := true }
def CipherStreamsUptoSaid : Prop := cipherStreamsUptoRow.holds Try.pinned (OpenSpec.upto cipherStreamsSpec)

/-- 'reliquarylaw10.CipherSeals', WHERE WHAT IT READS IS OF BULK AT MOST 1048576: true; the input reads as it did. -/
def cipherSealsUptoRow : OpenClaim := { program := "ytndmoidenbfflaa", sum := "6c5760169370fb15e0c03be75b051751212b33a989369e9b21495ebe8e119dc8", func := "reliquary/reliquarylaw10.CipherSeals", spec := "cipherSeals", inPlace := ["math/bits.Add64"], apart := false, narrowed := true }
def CipherSealsUptoSaid : Prop := cipherSealsUptoRow.holds Try.pinned (OpenSpec.upto cipherSealsSpec)

/-- 'reliquarylaw10.CipherKnown', WHERE WHAT IT READS IS OF BULK AT MOST 1048576: true; the input reads as it did. -/
def cipherKnownUptoRow : OpenClaim := { program := "ytndmoidenbfflaa", sum := "6c5760169370fb15e0c03be75b051751212b33a989369e9b21495ebe8e119dc8", func := "reliquary/reliquarylaw10.CipherKnown", spec := "cipherKnown", inPlace := ["math/bits.Add64"], apart := false, narrowed := true }
def CipherKnownUptoSaid : Prop := cipherKnownUptoRow.holds Try.pinned (OpenSpec.upto cipherKnownSpec)

/-- 'reliquarylaw10.CipherBack', WHERE WHAT IT READS IS OF BULK AT MOST 1048576: true; the input reads as it did. -/
def cipherBackUptoRow : OpenClaim := { program := "ytndmoidenbfflaa", sum := "6c5760169370fb15e0c03be75b051751212b33a989369e9b21495ebe8e119dc8", func := "reliquary/reliquarylaw10.CipherBack", spec := "cipherBack", inPlace := ["math/bits.Add64"], apart := false, narrowed := true }
def CipherBackUptoSaid : Prop := cipherBackUptoRow.holds Try.pinned (OpenSpec.upto cipherBackSpec)

end Rows
end Go.Proofs.Ytndmoidenbfflaa
