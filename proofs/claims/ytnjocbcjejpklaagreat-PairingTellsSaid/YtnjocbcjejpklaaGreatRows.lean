/-
  No cell of these rows narrows 'for every input' (looked for: loops, veiled, ifaces, maps, wideKeys, modest, calm, conditions, laid).
  DERIVED. THE GIVEN ROWS OF THIS SEAT. 4 by the template 'for every input the law returns true; each argument reads behind the call as it read before'; 0 by the template 'total and deterministic' (their statements: YtnjocbcjejpklaaGreatTotals.lean).
  GIVEN WITH THE SEED: the statements are not yours to turn. If you find one false, say at which input.
  Laid BY PROGRAM, IN A SANDBOX (cutbox-rows.mjs): the forced cells as the released guide's own fill.sh prints them over the translation e33ee1865eee1690… (all of the seat's roots in one cut). By AI agents, Wed Nov 11 2026. No macro, syntax, notation, axiom, sorry.
-/
import Derived.Test.YtnjocbcjejpklaaGreatChecked
import GoSem.Claim
import GoSem.ClaimJoined
import GoSem.ClaimMapViews
import Derived.JoinedTies
import Derived.KernelRfl
namespace Go.Proofs.YtnjocbcjejpklaaGreat
/- THE CELL 'sum', in the pinned program and in every row, IS THE sha256 OF THE DUMP (.gsa) THAT YtnjocbcjejpklaaGreatProg.lean LOADS. Nothing in Lean hashes anything: it is a label: what it is worth is what the hold of that sum in a sandbox is worth. -/
noncomputable def Tryz.pinned : Pinned := { name := "ytnjocbcjejpklaagreat", sum := "e33ee1865eee16900d21da88e9eb78b56b104e307a264168e6ccfbb2bfa306d1", checked := Tryz.checked }
namespace Rows
def none {H : Type} : Left H := { results := [], args := [] }

/-- 'reliquarylaw06.PairingTells': WHATEVER THE INPUT: true; the input reads as it did. -/
def pairingTellsSpec : ChangeSpec := { name := "pairingTells", fn := fun _ => fun
  | [d1, d2, d3] => { results := [.lit (.bool true)], args := [d1, d2, d3] }
  | _ => none }
def pairingTellsRow : OpenClaim := { program := "ytnjocbcjejpklaagreat", sum := "e33ee1865eee16900d21da88e9eb78b56b104e307a264168e6ccfbb2bfa306d1", func := "reliquary/reliquarylaw06.PairingTells", spec := "pairingTells", inPlace := ["math/bits.Add64", "math/bits.Sub64"], unfollowed := true, recurses := true, apart := false }
def PairingTellsSaid : Prop := pairingTellsRow.holds Tryz.pinned (OpenSpec.ofChange pairingTellsSpec)

/-- ITS FALSE NEIGHBOUR: 'it returns false'. Refute it at one input. -/
def pairingTellsWrong : ChangeSpec := { name := "pairingTells", fn := fun _ => fun
  | [d1, d2, d3] => { results := [.lit (.bool false)], args := [d1, d2, d3] }
  | _ => none }
def PairingTellsWrongFalsely : Prop := pairingTellsRow.holds Tryz.pinned (OpenSpec.ofChange pairingTellsWrong)

/-- 'reliquarylaw06.PairingBilinear': WHATEVER THE INPUT: true; the input reads as it did. -/
def pairingBilinearSpec : ChangeSpec := { name := "pairingBilinear", fn := fun _ => fun
  | [d1, d2, d3, d4, d5, d6] => { results := [.lit (.bool true)], args := [d1, d2, d3, d4, d5, d6] }
  | _ => none }
def pairingBilinearRow : OpenClaim := { program := "ytnjocbcjejpklaagreat", sum := "e33ee1865eee16900d21da88e9eb78b56b104e307a264168e6ccfbb2bfa306d1", func := "reliquary/reliquarylaw06.PairingBilinear", spec := "pairingBilinear", inPlace := ["math/bits.Add64", "math/bits.Sub64"], unfollowed := true, recurses := true, apart := false }
def PairingBilinearSaid : Prop := pairingBilinearRow.holds Tryz.pinned (OpenSpec.ofChange pairingBilinearSpec)

/-- ITS FALSE NEIGHBOUR: 'it returns false'. Refute it at one input. -/
def pairingBilinearWrong : ChangeSpec := { name := "pairingBilinear", fn := fun _ => fun
  | [d1, d2, d3, d4, d5, d6] => { results := [.lit (.bool false)], args := [d1, d2, d3, d4, d5, d6] }
  | _ => none }
def PairingBilinearWrongFalsely : Prop := pairingBilinearRow.holds Tryz.pinned (OpenSpec.ofChange pairingBilinearWrong)

/-- 'reliquarylaw06.PairingKnown': WHATEVER THE INPUT: true; the input reads as it did. -/
def pairingKnownSpec : ChangeSpec := { name := "pairingKnown", fn := fun _ => fun
  | [] => { results := [.lit (.bool true)], args := [] }
  | _ => none }
def pairingKnownRow : OpenClaim := { program := "ytnjocbcjejpklaagreat", sum := "e33ee1865eee16900d21da88e9eb78b56b104e307a264168e6ccfbb2bfa306d1", func := "reliquary/reliquarylaw06.PairingKnown", spec := "pairingKnown", inPlace := ["internal/bytealg.IndexByteString", "math/bits.Add64", "math/bits.Sub64"], unfollowed := true, recurses := true, apart := false }
def PairingKnownSaid : Prop := pairingKnownRow.holds Tryz.pinned (OpenSpec.ofChange pairingKnownSpec)

/-- ITS FALSE NEIGHBOUR: 'it returns false'. Refute it at one input. -/
def pairingKnownWrong : ChangeSpec := { name := "pairingKnown", fn := fun _ => fun
  | [] => { results := [.lit (.bool false)], args := [] }
  | _ => none }
def PairingKnownWrongFalsely : Prop := pairingKnownRow.holds Tryz.pinned (OpenSpec.ofChange pairingKnownWrong)

/-- 'reliquarylaw06.PairingOrder': WHATEVER THE INPUT: true; the input reads as it did. -/
def pairingOrderSpec : ChangeSpec := { name := "pairingOrder", fn := fun _ => fun
  | [d1, d2] => { results := [.lit (.bool true)], args := [d1, d2] }
  | _ => none }
def pairingOrderRow : OpenClaim := { program := "ytnjocbcjejpklaagreat", sum := "e33ee1865eee16900d21da88e9eb78b56b104e307a264168e6ccfbb2bfa306d1", func := "reliquary/reliquarylaw06.PairingOrder", spec := "pairingOrder", inPlace := ["math/bits.Add64", "math/bits.Sub64", "internal/bytealg.IndexByteString"], unfollowed := true, recurses := true, apart := false }
def PairingOrderSaid : Prop := pairingOrderRow.holds Tryz.pinned (OpenSpec.ofChange pairingOrderSpec)

/-- ITS FALSE NEIGHBOUR: 'it returns false'. Refute it at one input. -/
def pairingOrderWrong : ChangeSpec := { name := "pairingOrder", fn := fun _ => fun
  | [d1, d2] => { results := [.lit (.bool false)], args := [d1, d2] }
  | _ => none }
def PairingOrderWrongFalsely : Prop := pairingOrderRow.holds Tryz.pinned (OpenSpec.ofChange pairingOrderWrong)

/- THE SECOND FORM. 'bulk': how many values and letters a reading holds, each counted each time it is reached (what is shared counts as often as it is met; a slice's spare places count too). A statement '..UptoSaid' is the law's where the arguments, and the package variables that the reading takes, are together of bulk at most 1048576: NARROWER than '..Said'. Prove '..Said' where nothing that the law and all that it calls make is longer than what came in: it says more and counts as full. Else prove '..UptoSaid'. A law counts once. -/
mutual
def uptoBulk {H : Type} : DataW H → Nat
  | .lit (.string bytes) => bytes.length + 1
  | .lit _ => 1
  | .nil => 1
  | .ptr d => uptoBulk d + 1
  | .slice elems spare => uptoBulkAll elems + uptoBulkAll spare + 1
  | .agg parts => uptoBulkAll parts + 1
  | .iface _ d => uptoBulk d + 1
  | .map entries => uptoBulkEntries entries + 1
  | .held _ => 1
def uptoBulkAll {H : Type} : List (DataW H) → Nat
  | [] => 0
  | d :: r => uptoBulk d + uptoBulkAll r
def uptoBulkEntries {H : Type} : List (Lit × DataW H) → Nat
  | [] => 0
  | x :: r => uptoBulkEntry x + uptoBulkEntries r
def uptoBulkEntry {H : Type} : Lit × DataW H → Nat
  | (.string bytes, d) => bytes.length + uptoBulk d + 1
  | (_, d) => uptoBulk d + 1
 end
def uptoSmall : (H : Type) → List (DataW H) → Bool := fun _ ds => decide (uptoBulkAll ds ≤ 1048576)
def OpenSpec.upto (s : _root_.Go.ChangeSpec) : _root_.Go.OpenSpec := { _root_.Go.OpenSpec.ofChange s with cond := some uptoSmall }

/-- 'reliquarylaw06.PairingTells', WHERE WHAT IT READS IS OF BULK AT MOST 1048576: true; the input reads as it did. -/
def pairingTellsUptoRow : OpenClaim := { program := "ytnjocbcjejpklaagreat", sum := "e33ee1865eee16900d21da88e9eb78b56b104e307a264168e6ccfbb2bfa306d1", func := "reliquary/reliquarylaw06.PairingTells", spec := "pairingTells", inPlace := ["math/bits.Add64", "math/bits.Sub64"], unfollowed := true, recurses := true, apart := false, narrowed := true }
def PairingTellsUptoSaid : Prop := pairingTellsUptoRow.holds Tryz.pinned (OpenSpec.upto pairingTellsSpec)

/-- 'reliquarylaw06.PairingBilinear', WHERE WHAT IT READS IS OF BULK AT MOST 1048576: true; the input reads as it did. -/
def pairingBilinearUptoRow : OpenClaim := { program := "ytnjocbcjejpklaagreat", sum := "e33ee1865eee16900d21da88e9eb78b56b104e307a264168e6ccfbb2bfa306d1", func := "reliquary/reliquarylaw06.PairingBilinear", spec := "pairingBilinear", inPlace := ["math/bits.Add64", "math/bits.Sub64"], unfollowed := true, recurses := true, apart := false, narrowed := true }
def PairingBilinearUptoSaid : Prop := pairingBilinearUptoRow.holds Tryz.pinned (OpenSpec.upto pairingBilinearSpec)

/-- 'reliquarylaw06.PairingKnown', WHERE WHAT IT READS IS OF BULK AT MOST 1048576: true; the input reads as it did. -/
def pairingKnownUptoRow : OpenClaim := { program := "ytnjocbcjejpklaagreat", sum := "e33ee1865eee16900d21da88e9eb78b56b104e307a264168e6ccfbb2bfa306d1", func := "reliquary/reliquarylaw06.PairingKnown", spec := "pairingKnown", inPlace := ["internal/bytealg.IndexByteString", "math/bits.Add64", "math/bits.Sub64"], unfollowed := true, recurses := true, apart := false, narrowed := true }
def PairingKnownUptoSaid : Prop := pairingKnownUptoRow.holds Tryz.pinned (OpenSpec.upto pairingKnownSpec)

/-- 'reliquarylaw06.PairingOrder', WHERE WHAT IT READS IS OF BULK AT MOST 1048576: true; the input reads as it did. -/
def pairingOrderUptoRow : OpenClaim := { program := "ytnjocbcjejpklaagreat", sum := "e33ee1865eee16900d21da88e9eb78b56b104e307a264168e6ccfbb2bfa306d1", func := "reliquary/reliquarylaw06.PairingOrder", spec := "pairingOrder", inPlace := ["math/bits.Add64", "math/bits.Sub64", "internal/bytealg.IndexByteString"], unfollowed := true, recurses := true, apart := false, narrowed := true }
def PairingOrderUptoSaid : Prop := pairingOrderUptoRow.holds Tryz.pinned (OpenSpec.upto pairingOrderSpec)

end Rows
end Go.Proofs.YtnjocbcjejpklaaGreat
