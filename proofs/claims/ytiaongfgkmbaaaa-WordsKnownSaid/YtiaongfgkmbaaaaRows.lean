/-
  No cell of these rows narrows 'for every input' (looked for: loops, veiled, ifaces, maps, wideKeys, modest, calm, conditions, laid).
  DERIVED. THE GIVEN ROWS OF THIS SEAT. 7 by the template 'for every input the law returns true; each argument reads behind the call as it read before'; 0 by the template 'total and deterministic' (their statements: YtiaongfgkmbaaaaTotals.lean).
  GIVEN WITH THE SEED: the statements are not yours to turn. If you find one false, say at which input.
  Laid BY PROGRAM, IN A SANDBOX (cutbox-rows.mjs): the forced cells as the released guide's own fill.sh prints them over the translation 80287bf0002ed722… (all of the seat's roots in one cut). By AI agents, Wed Nov 11 2026. No macro, syntax, notation, axiom, sorry.
-/
import Derived.Test.YtiaongfgkmbaaaaChecked
import GoSem.Claim
import GoSem.ClaimJoined
import GoSem.ClaimMapViews
import Derived.JoinedTies
import Derived.KernelRfl
namespace Go.Proofs.Ytiaongfgkmbaaaa
/- THE CELL 'sum', in the pinned program and in every row, IS THE sha256 OF THE DUMP (.gsa) THAT YtiaongfgkmbaaaaProg.lean LOADS. Nothing in Lean hashes anything: it is a label: what it is worth is what the hold of that sum in a sandbox is worth. -/
noncomputable def Try.pinned : Pinned := { name := "ytiaongfgkmbaaaa", sum := "80287bf0002ed722367ba018eefae7fa64b64163d8b34f077488e0c596be04bb", checked := Try.checked }
namespace Rows
def none {H : Type} : Left H := { results := [], args := [] }

/-- 'reliquarylaw01.WordsTexts': WHATEVER THE INPUT: true; the input reads as it did. -/
def wordsTextsSpec : ChangeSpec := { name := "wordsTexts", fn := fun _ => fun
  | [d1, d2, d3] => { results := [.lit (.bool true)], args := [d1, d2, d3] }
  | _ => none }
def wordsTextsRow : OpenClaim := { program := "ytiaongfgkmbaaaa", sum := "80287bf0002ed722367ba018eefae7fa64b64163d8b34f077488e0c596be04bb", func := "reliquary/reliquarylaw01.WordsTexts", spec := "wordsTexts", inPlace := ["internal/bytealg.IndexByteString"], apart := false }
def WordsTextsSaid : Prop := wordsTextsRow.holds Try.pinned (OpenSpec.ofChange wordsTextsSpec)

/-- ITS FALSE NEIGHBOUR: 'it returns false'. Refute it at one input. -/
def wordsTextsWrong : ChangeSpec := { name := "wordsTexts", fn := fun _ => fun
  | [d1, d2, d3] => { results := [.lit (.bool false)], args := [d1, d2, d3] }
  | _ => none }
def WordsTextsWrongFalsely : Prop := wordsTextsRow.holds Try.pinned (OpenSpec.ofChange wordsTextsWrong)

/-- 'reliquarylaw01.WordsTell': WHATEVER THE INPUT: true; the input reads as it did. -/
def wordsTellSpec : ChangeSpec := { name := "wordsTell", fn := fun _ => fun
  | [d1, d2, d3] => { results := [.lit (.bool true)], args := [d1, d2, d3] }
  | _ => none }
def wordsTellRow : OpenClaim := { program := "ytiaongfgkmbaaaa", sum := "80287bf0002ed722367ba018eefae7fa64b64163d8b34f077488e0c596be04bb", func := "reliquary/reliquarylaw01.WordsTell", spec := "wordsTell", inPlace := ["math/bits.Add64", "math/bits.Sub64"], apart := false }
def WordsTellSaid : Prop := wordsTellRow.holds Try.pinned (OpenSpec.ofChange wordsTellSpec)

/-- ITS FALSE NEIGHBOUR: 'it returns false'. Refute it at one input. -/
def wordsTellWrong : ChangeSpec := { name := "wordsTell", fn := fun _ => fun
  | [d1, d2, d3] => { results := [.lit (.bool false)], args := [d1, d2, d3] }
  | _ => none }
def WordsTellWrongFalsely : Prop := wordsTellRow.holds Try.pinned (OpenSpec.ofChange wordsTellWrong)

/-- 'reliquarylaw01.WordsLeads': WHATEVER THE INPUT: true; the input reads as it did. -/
def wordsLeadsSpec : ChangeSpec := { name := "wordsLeads", fn := fun _ => fun
  | [d1, d2] => { results := [.lit (.bool true)], args := [d1, d2] }
  | _ => none }
def wordsLeadsRow : OpenClaim := { program := "ytiaongfgkmbaaaa", sum := "80287bf0002ed722367ba018eefae7fa64b64163d8b34f077488e0c596be04bb", func := "reliquary/reliquarylaw01.WordsLeads", spec := "wordsLeads", inPlace := ["math/bits.Sub64", "internal/bytealg.IndexByteString"], apart := false }
def WordsLeadsSaid : Prop := wordsLeadsRow.holds Try.pinned (OpenSpec.ofChange wordsLeadsSpec)

/-- ITS FALSE NEIGHBOUR: 'it returns false'. Refute it at one input. -/
def wordsLeadsWrong : ChangeSpec := { name := "wordsLeads", fn := fun _ => fun
  | [d1, d2] => { results := [.lit (.bool false)], args := [d1, d2] }
  | _ => none }
def WordsLeadsWrongFalsely : Prop := wordsLeadsRow.holds Try.pinned (OpenSpec.ofChange wordsLeadsWrong)

/-- 'reliquarylaw01.WordsShifts': WHATEVER THE INPUT: true; the input reads as it did. -/
def wordsShiftsSpec : ChangeSpec := { name := "wordsShifts", fn := fun _ => fun
  | [d1, d2] => { results := [.lit (.bool true)], args := [d1, d2] }
  | _ => none }
def wordsShiftsRow : OpenClaim := { program := "ytiaongfgkmbaaaa", sum := "80287bf0002ed722367ba018eefae7fa64b64163d8b34f077488e0c596be04bb", func := "reliquary/reliquarylaw01.WordsShifts", spec := "wordsShifts", inPlace := ["math/bits.Sub64", "internal/bytealg.IndexByteString", "math/bits.Add64"], apart := false }
def WordsShiftsSaid : Prop := wordsShiftsRow.holds Try.pinned (OpenSpec.ofChange wordsShiftsSpec)

/-- ITS FALSE NEIGHBOUR: 'it returns false'. Refute it at one input. -/
def wordsShiftsWrong : ChangeSpec := { name := "wordsShifts", fn := fun _ => fun
  | [d1, d2] => { results := [.lit (.bool false)], args := [d1, d2] }
  | _ => none }
def WordsShiftsWrongFalsely : Prop := wordsShiftsRow.holds Try.pinned (OpenSpec.ofChange wordsShiftsWrong)

/-- 'reliquarylaw01.WordsBack': WHATEVER THE INPUT: true; the input reads as it did. -/
def wordsBackSpec : ChangeSpec := { name := "wordsBack", fn := fun _ => fun
  | [d1, d2] => { results := [.lit (.bool true)], args := [d1, d2] }
  | _ => none }
def wordsBackRow : OpenClaim := { program := "ytiaongfgkmbaaaa", sum := "80287bf0002ed722367ba018eefae7fa64b64163d8b34f077488e0c596be04bb", func := "reliquary/reliquarylaw01.WordsBack", spec := "wordsBack", inPlace := ["math/bits.Sub64", "internal/bytealg.IndexByteString", "math/bits.Add64"], apart := false }
def WordsBackSaid : Prop := wordsBackRow.holds Try.pinned (OpenSpec.ofChange wordsBackSpec)

/-- ITS FALSE NEIGHBOUR: 'it returns false'. Refute it at one input. -/
def wordsBackWrong : ChangeSpec := { name := "wordsBack", fn := fun _ => fun
  | [d1, d2] => { results := [.lit (.bool false)], args := [d1, d2] }
  | _ => none }
def WordsBackWrongFalsely : Prop := wordsBackRow.holds Try.pinned (OpenSpec.ofChange wordsBackWrong)

/-- 'reliquarylaw01.WordsRing': WHATEVER THE INPUT: true; the input reads as it did. -/
def wordsRingSpec : ChangeSpec := { name := "wordsRing", fn := fun _ => fun
  | [d1, d2, d3] => { results := [.lit (.bool true)], args := [d1, d2, d3] }
  | _ => none }
def wordsRingRow : OpenClaim := { program := "ytiaongfgkmbaaaa", sum := "80287bf0002ed722367ba018eefae7fa64b64163d8b34f077488e0c596be04bb", func := "reliquary/reliquarylaw01.WordsRing", spec := "wordsRing", inPlace := ["math/bits.Sub64", "internal/bytealg.IndexByteString", "math/bits.Add64"], apart := false }
def WordsRingSaid : Prop := wordsRingRow.holds Try.pinned (OpenSpec.ofChange wordsRingSpec)

/-- ITS FALSE NEIGHBOUR: 'it returns false'. Refute it at one input. -/
def wordsRingWrong : ChangeSpec := { name := "wordsRing", fn := fun _ => fun
  | [d1, d2, d3] => { results := [.lit (.bool false)], args := [d1, d2, d3] }
  | _ => none }
def WordsRingWrongFalsely : Prop := wordsRingRow.holds Try.pinned (OpenSpec.ofChange wordsRingWrong)

/-- 'reliquarylaw01.WordsKnown': WHATEVER THE INPUT: true; the input reads as it did. -/
def wordsKnownSpec : ChangeSpec := { name := "wordsKnown", fn := fun _ => fun
  | [] => { results := [.lit (.bool true)], args := [] }
  | _ => none }
def wordsKnownRow : OpenClaim := { program := "ytiaongfgkmbaaaa", sum := "80287bf0002ed722367ba018eefae7fa64b64163d8b34f077488e0c596be04bb", func := "reliquary/reliquarylaw01.WordsKnown", spec := "wordsKnown", inPlace := ["math/bits.Sub64", "math/bits.Add64", "internal/bytealg.IndexByteString", "internal/abi.NoEscape", "internal/bytealg.MakeNoZero"], apart := false }
def WordsKnownSaid : Prop := wordsKnownRow.holds Try.pinned (OpenSpec.ofChange wordsKnownSpec)

/-- ITS FALSE NEIGHBOUR: 'it returns false'. Refute it at one input. -/
def wordsKnownWrong : ChangeSpec := { name := "wordsKnown", fn := fun _ => fun
  | [] => { results := [.lit (.bool false)], args := [] }
  | _ => none }
def WordsKnownWrongFalsely : Prop := wordsKnownRow.holds Try.pinned (OpenSpec.ofChange wordsKnownWrong)

/- THE SECOND FORM. 'bulk': how many values and letters a reading holds, each counted each time it is reached (what is shared counts as often as it is met; a slice's spare places count too). A statement '..UptoSaid' is the law's where the arguments, and the package variables that the reading takes, are together of bulk at most 1048576: NARROWER than '..Said'. Prove '..Said' where nothing that the law and all that it calls make is longer than what came in: it says more and counts as full. Else prove '..UptoSaid'. A law counts once. -/
mutual
def uptoBulk {H : Type} : DataW H → Nat
  | .lit (.string bytes) => bytes.length + 1
  | .lit _ => 1
  | .nil => 1
  | .ptr d => uptoBulk d + 1
  | .slice elems spare => uptoBulkAll elems + uptoBulkAll spare + 1
  | .agg parts => uptoBulkAll parts + 1
  | .iface _ d => uptoBulk d + 1
  | .map entries => uptoBulkEntries entries + 1
  | .held _ => 1
def uptoBulkAll {H : Type} : List (DataW H) → Nat
  | [] => 0
  | d :: r => uptoBulk d + uptoBulkAll r
def uptoBulkEntries {H : Type} : List (Lit × DataW H) → Nat
  | [] => 0
  | x :: r => uptoBulkEntry x + uptoBulkEntries r
def uptoBulkEntry {H : Type} : Lit × DataW H → Nat
  | (.string bytes, d) => bytes.length + uptoBulk d + 1
  | (_, d) => uptoBulk d + 1
 end
def uptoSmall : (H : Type) → List (DataW H) → Bool := fun _ ds => decide (uptoBulkAll ds ≤ 1048576)
def OpenSpec.upto (s : _root_.Go.ChangeSpec) : _root_.Go.OpenSpec := { _root_.Go.OpenSpec.ofChange s with cond := some uptoSmall }

/-- 'reliquarylaw01.WordsTexts', WHERE WHAT IT READS IS OF BULK AT MOST 1048576: true; the input reads as it did. -/
def wordsTextsUptoRow : OpenClaim := { program := "ytiaongfgkmbaaaa", sum := "80287bf0002ed722367ba018eefae7fa64b64163d8b34f077488e0c596be04bb", func := "reliquary/reliquarylaw01.WordsTexts", spec := "wordsTexts", inPlace := ["internal/bytealg.IndexByteString"], apart := false, narrowed := true }
def WordsTextsUptoSaid : Prop := wordsTextsUptoRow.holds Try.pinned (OpenSpec.upto wordsTextsSpec)

/-- 'reliquarylaw01.WordsTell', WHERE WHAT IT READS IS OF BULK AT MOST 1048576: true; the input reads as it did. -/
def wordsTellUptoRow : OpenClaim := { program := "ytiaongfgkmbaaaa", sum := "80287bf0002ed722367ba018eefae7fa64b64163d8b34f077488e0c596be04bb", func := "reliquary/reliquarylaw01.WordsTell", spec := "wordsTell", inPlace := ["math/bits.Add64", "math/bits.Sub64"], apart := false, narrowed := true }
def WordsTellUptoSaid : Prop := wordsTellUptoRow.holds Try.pinned (OpenSpec.upto wordsTellSpec)

/-- 'reliquarylaw01.WordsLeads', WHERE WHAT IT READS IS OF BULK AT MOST 1048576: true; the input reads as it did. -/
def wordsLeadsUptoRow : OpenClaim := { program := "ytiaongfgkmbaaaa", sum := "80287bf0002ed722367ba018eefae7fa64b64163d8b34f077488e0c596be04bb", func := "reliquary/reliquarylaw01.WordsLeads", spec := "wordsLeads", inPlace := ["math/bits.Sub64", "internal/bytealg.IndexByteString"], apart := false, narrowed := true }
def WordsLeadsUptoSaid : Prop := wordsLeadsUptoRow.holds Try.pinned (OpenSpec.upto wordsLeadsSpec)

/-- 'reliquarylaw01.WordsShifts', WHERE WHAT IT READS IS OF BULK AT MOST 1048576: true; the input reads as it did. -/
def wordsShiftsUptoRow : OpenClaim := { program := "ytiaongfgkmbaaaa", sum := "80287bf0002ed722367ba018eefae7fa64b64163d8b34f077488e0c596be04bb", func := "reliquary/reliquarylaw01.WordsShifts", spec := "wordsShifts", inPlace := ["math/bits.Sub64", "internal/bytealg.IndexByteString", "math/bits.Add64"], apart := false, narrowed := true }
def WordsShiftsUptoSaid : Prop := wordsShiftsUptoRow.holds Try.pinned (OpenSpec.upto wordsShiftsSpec)

/-- 'reliquarylaw01.WordsBack', WHERE WHAT IT READS IS OF BULK AT MOST 1048576: true; the input reads as it did. -/
def wordsBackUptoRow : OpenClaim := { program := "ytiaongfgkmbaaaa", sum := "80287bf0002ed722367ba018eefae7fa64b64163d8b34f077488e0c596be04bb", func := "reliquary/reliquarylaw01.WordsBack", spec := "wordsBack", inPlace := ["math/bits.Sub64", "internal/bytealg.IndexByteString", "math/bits.Add64"], apart := false, narrowed := true }
def WordsBackUptoSaid : Prop := wordsBackUptoRow.holds Try.pinned (OpenSpec.upto wordsBackSpec)

/-- 'reliquarylaw01.WordsRing', WHERE WHAT IT READS IS OF BULK AT MOST 1048576: true; the input reads as it did. -/
def wordsRingUptoRow : OpenClaim := { program := "ytiaongfgkmbaaaa", sum := "80287bf0002ed722367ba018eefae7fa64b64163d8b34f077488e0c596be04bb", func := "reliquary/reliquarylaw01.WordsRing", spec := "wordsRing", inPlace := ["math/bits.Sub64", "internal/bytealg.IndexByteString", "math/bits.Add64"], apart := false, narrowed := true }
def WordsRingUptoSaid : Prop := wordsRingUptoRow.holds Try.pinned (OpenSpec.upto wordsRingSpec)

/-- 'reliquarylaw01.WordsKnown', WHERE WHAT IT READS IS OF BULK AT MOST 1048576: true; the input reads as it did. -/
def wordsKnownUptoRow : OpenClaim := { program := "ytiaongfgkmbaaaa", sum := "80287bf0002ed722367ba018eefae7fa64b64163d8b34f077488e0c596be04bb", func := "reliquary/reliquarylaw01.WordsKnown", spec := "wordsKnown", inPlace := ["math/bits.Sub64", "math/bits.Add64", "internal/bytealg.IndexByteString", "internal/abi.NoEscape", "internal/bytealg.MakeNoZero"], apart := false, narrowed := true }
def WordsKnownUptoSaid : Prop := wordsKnownUptoRow.holds Try.pinned (OpenSpec.upto wordsKnownSpec)

end Rows
end Go.Proofs.Ytiaongfgkmbaaaa
