/-
  No cell of these rows narrows 'for every input' (looked for: loops, veiled, ifaces, maps, wideKeys, modest, calm, conditions, laid).
  DERIVED. THE GIVEN ROWS OF THIS SEAT. 8 by the template 'for every input the law returns true; each argument reads behind the call as it read before'; 0 by the template 'total and deterministic' (their statements: YtkmfiefnaeikdaaTotals.lean).
  GIVEN WITH THE SEED: the statements are not yours to turn. If you find one false, say at which input.
  Laid BY PROGRAM, IN A SANDBOX (cutbox-rows.mjs): the forced cells as the released guide's own fill.sh prints them over the translation 52d05d7737f366ca… (all of the seat's roots in one cut). By AI agents, Wed Nov 11 2026. No macro, syntax, notation, axiom, sorry.
-/
import Derived.Test.YtkmfiefnaeikdaaChecked
import GoSem.Claim
import GoSem.ClaimJoined
import GoSem.ClaimMapViews
import Derived.JoinedTies
import Derived.KernelRfl
namespace Go.Proofs.Ytkmfiefnaeikdaa
/- THE CELL 'sum', in the pinned program and in every row, IS THE sha256 OF THE DUMP (.gsa) THAT YtkmfiefnaeikdaaProg.lean LOADS. Nothing in Lean hashes anything: it is a label: what it is worth is what the hold of that sum in a sandbox is worth. -/
noncomputable def Try.pinned : Pinned := { name := "ytkmfiefnaeikdaa", sum := "52d05d7737f366cae4a8d42cc819b27eaac0cd222a8186edace072d0064a21ed", checked := Try.checked }
namespace Rows
def none {H : Type} : Left H := { results := [], args := [] }

/-- 'reliquarylaw03.TowerTwo': WHATEVER THE INPUT: true; the input reads as it did. -/
def towerTwoSpec : ChangeSpec := { name := "towerTwo", fn := fun _ => fun
  | [d1, d2] => { results := [.lit (.bool true)], args := [d1, d2] }
  | _ => none }
def towerTwoRow : OpenClaim := { program := "ytkmfiefnaeikdaa", sum := "52d05d7737f366cae4a8d42cc819b27eaac0cd222a8186edace072d0064a21ed", func := "reliquary/reliquarylaw03.TowerTwo", spec := "towerTwo", inPlace := ["math/bits.Add64", "math/bits.Sub64"], apart := false }
def TowerTwoSaid : Prop := towerTwoRow.holds Try.pinned (OpenSpec.ofChange towerTwoSpec)

/-- ITS FALSE NEIGHBOUR: 'it returns false'. Refute it at one input. -/
def towerTwoWrong : ChangeSpec := { name := "towerTwo", fn := fun _ => fun
  | [d1, d2] => { results := [.lit (.bool false)], args := [d1, d2] }
  | _ => none }
def TowerTwoWrongFalsely : Prop := towerTwoRow.holds Try.pinned (OpenSpec.ofChange towerTwoWrong)

/-- 'reliquarylaw03.TowerRoots': WHATEVER THE INPUT: true; the input reads as it did. -/
def towerRootsSpec : ChangeSpec := { name := "towerRoots", fn := fun _ => fun
  | [d] => { results := [.lit (.bool true)], args := [d] }
  | _ => none }
def towerRootsRow : OpenClaim := { program := "ytkmfiefnaeikdaa", sum := "52d05d7737f366cae4a8d42cc819b27eaac0cd222a8186edace072d0064a21ed", func := "reliquary/reliquarylaw03.TowerRoots", spec := "towerRoots", inPlace := ["math/bits.Add64", "math/bits.Sub64"], unfollowed := true, recurses := true, apart := false }
def TowerRootsSaid : Prop := towerRootsRow.holds Try.pinned (OpenSpec.ofChange towerRootsSpec)

/-- ITS FALSE NEIGHBOUR: 'it returns false'. Refute it at one input. -/
def towerRootsWrong : ChangeSpec := { name := "towerRoots", fn := fun _ => fun
  | [d] => { results := [.lit (.bool false)], args := [d] }
  | _ => none }
def TowerRootsWrongFalsely : Prop := towerRootsRow.holds Try.pinned (OpenSpec.ofChange towerRootsWrong)

/-- 'reliquarylaw03.TowerTwelve': WHATEVER THE INPUT: true; the input reads as it did. -/
def towerTwelveSpec : ChangeSpec := { name := "towerTwelve", fn := fun _ => fun
  | [d1, d2, d3, d4] => { results := [.lit (.bool true)], args := [d1, d2, d3, d4] }
  | _ => none }
def towerTwelveRow : OpenClaim := { program := "ytkmfiefnaeikdaa", sum := "52d05d7737f366cae4a8d42cc819b27eaac0cd222a8186edace072d0064a21ed", func := "reliquary/reliquarylaw03.TowerTwelve", spec := "towerTwelve", inPlace := ["math/bits.Add64", "math/bits.Sub64"], unfollowed := true, recurses := true, apart := false }
def TowerTwelveSaid : Prop := towerTwelveRow.holds Try.pinned (OpenSpec.ofChange towerTwelveSpec)

/-- ITS FALSE NEIGHBOUR: 'it returns false'. Refute it at one input. -/
def towerTwelveWrong : ChangeSpec := { name := "towerTwelve", fn := fun _ => fun
  | [d1, d2, d3, d4] => { results := [.lit (.bool false)], args := [d1, d2, d3, d4] }
  | _ => none }
def TowerTwelveWrongFalsely : Prop := towerTwelveRow.holds Try.pinned (OpenSpec.ofChange towerTwelveWrong)

/-- 'reliquarylaw03.TowerField2': WHATEVER THE INPUT: true; the input reads as it did. -/
def towerField2Spec : ChangeSpec := { name := "towerField2", fn := fun _ => fun
  | [d1, d2, d3] => { results := [.lit (.bool true)], args := [d1, d2, d3] }
  | _ => none }
def towerField2Row : OpenClaim := { program := "ytkmfiefnaeikdaa", sum := "52d05d7737f366cae4a8d42cc819b27eaac0cd222a8186edace072d0064a21ed", func := "reliquary/reliquarylaw03.TowerField2", spec := "towerField2", inPlace := ["math/bits.Add64", "math/bits.Sub64"], unfollowed := true, recurses := true, apart := false }
def TowerField2Said : Prop := towerField2Row.holds Try.pinned (OpenSpec.ofChange towerField2Spec)

/-- ITS FALSE NEIGHBOUR: 'it returns false'. Refute it at one input. -/
def towerField2Wrong : ChangeSpec := { name := "towerField2", fn := fun _ => fun
  | [d1, d2, d3] => { results := [.lit (.bool false)], args := [d1, d2, d3] }
  | _ => none }
def TowerField2WrongFalsely : Prop := towerField2Row.holds Try.pinned (OpenSpec.ofChange towerField2Wrong)

/-- 'reliquarylaw03.TowerPrime': WHATEVER THE INPUT: true; the input reads as it did. -/
def towerPrimeSpec : ChangeSpec := { name := "towerPrime", fn := fun _ => fun
  | [d] => { results := [.lit (.bool true)], args := [d] }
  | _ => none }
def towerPrimeRow : OpenClaim := { program := "ytkmfiefnaeikdaa", sum := "52d05d7737f366cae4a8d42cc819b27eaac0cd222a8186edace072d0064a21ed", func := "reliquary/reliquarylaw03.TowerPrime", spec := "towerPrime", inPlace := ["math/bits.Add64", "math/bits.Sub64"], unfollowed := true, recurses := true, apart := false }
def TowerPrimeSaid : Prop := towerPrimeRow.holds Try.pinned (OpenSpec.ofChange towerPrimeSpec)

/-- ITS FALSE NEIGHBOUR: 'it returns false'. Refute it at one input. -/
def towerPrimeWrong : ChangeSpec := { name := "towerPrime", fn := fun _ => fun
  | [d] => { results := [.lit (.bool false)], args := [d] }
  | _ => none }
def TowerPrimeWrongFalsely : Prop := towerPrimeRow.holds Try.pinned (OpenSpec.ofChange towerPrimeWrong)

/-- 'reliquarylaw03.TowerTurns': WHATEVER THE INPUT: true; the input reads as it did. -/
def towerTurnsSpec : ChangeSpec := { name := "towerTurns", fn := fun _ => fun
  | [d1, d2, d3] => { results := [.lit (.bool true)], args := [d1, d2, d3] }
  | _ => none }
def towerTurnsRow : OpenClaim := { program := "ytkmfiefnaeikdaa", sum := "52d05d7737f366cae4a8d42cc819b27eaac0cd222a8186edace072d0064a21ed", func := "reliquary/reliquarylaw03.TowerTurns", spec := "towerTurns", inPlace := ["math/bits.Add64", "math/bits.Sub64"], unfollowed := true, recurses := true, apart := false }
def TowerTurnsSaid : Prop := towerTurnsRow.holds Try.pinned (OpenSpec.ofChange towerTurnsSpec)

/-- ITS FALSE NEIGHBOUR: 'it returns false'. Refute it at one input. -/
def towerTurnsWrong : ChangeSpec := { name := "towerTurns", fn := fun _ => fun
  | [d1, d2, d3] => { results := [.lit (.bool false)], args := [d1, d2, d3] }
  | _ => none }
def TowerTurnsWrongFalsely : Prop := towerTurnsRow.holds Try.pinned (OpenSpec.ofChange towerTurnsWrong)

/-- 'reliquarylaw03.TowerField12': WHATEVER THE INPUT: true; the input reads as it did. -/
def towerField12Spec : ChangeSpec := { name := "towerField12", fn := fun _ => fun
  | [d1, d2, d3] => { results := [.lit (.bool true)], args := [d1, d2, d3] }
  | _ => none }
def towerField12Row : OpenClaim := { program := "ytkmfiefnaeikdaa", sum := "52d05d7737f366cae4a8d42cc819b27eaac0cd222a8186edace072d0064a21ed", func := "reliquary/reliquarylaw03.TowerField12", spec := "towerField12", inPlace := ["math/bits.Add64", "math/bits.Sub64"], unfollowed := true, recurses := true, apart := false }
def TowerField12Said : Prop := towerField12Row.holds Try.pinned (OpenSpec.ofChange towerField12Spec)

/-- ITS FALSE NEIGHBOUR: 'it returns false'. Refute it at one input. -/
def towerField12Wrong : ChangeSpec := { name := "towerField12", fn := fun _ => fun
  | [d1, d2, d3] => { results := [.lit (.bool false)], args := [d1, d2, d3] }
  | _ => none }
def TowerField12WrongFalsely : Prop := towerField12Row.holds Try.pinned (OpenSpec.ofChange towerField12Wrong)

/-- 'reliquarylaw03.TowerKnown': WHATEVER THE INPUT: true; the input reads as it did. -/
def towerKnownSpec : ChangeSpec := { name := "towerKnown", fn := fun _ => fun
  | [] => { results := [.lit (.bool true)], args := [] }
  | _ => none }
def towerKnownRow : OpenClaim := { program := "ytkmfiefnaeikdaa", sum := "52d05d7737f366cae4a8d42cc819b27eaac0cd222a8186edace072d0064a21ed", func := "reliquary/reliquarylaw03.TowerKnown", spec := "towerKnown", inPlace := ["math/bits.Add64", "math/bits.Sub64"], unfollowed := true, recurses := true, apart := false }
def TowerKnownSaid : Prop := towerKnownRow.holds Try.pinned (OpenSpec.ofChange towerKnownSpec)

/-- ITS FALSE NEIGHBOUR: 'it returns false'. Refute it at one input. -/
def towerKnownWrong : ChangeSpec := { name := "towerKnown", fn := fun _ => fun
  | [] => { results := [.lit (.bool false)], args := [] }
  | _ => none }
def TowerKnownWrongFalsely : Prop := towerKnownRow.holds Try.pinned (OpenSpec.ofChange towerKnownWrong)

/- THE SECOND FORM. 'bulk': how many values and letters a reading holds, each counted each time it is reached (what is shared counts as often as it is met; a slice's spare places count too). A statement '..UptoSaid' is the law's where the arguments, and the package variables that the reading takes, are together of bulk at most 1048576: NARROWER than '..Said'. Prove '..Said' where nothing that the law and all that it calls make is longer than what came in: it says more and counts as full. Else prove '..UptoSaid'. A law counts once. -/
mutual
def uptoBulk {H : Type} : DataW H → Nat
  | .lit (.string bytes) => bytes.length + 1
  | .lit _ => 1
  | .nil => 1
  | .ptr d => uptoBulk d + 1
  | .slice elems spare => uptoBulkAll elems + uptoBulkAll spare + 1
  | .agg parts => uptoBulkAll parts + 1
  | .iface _ d => uptoBulk d + 1
  | .map entries => uptoBulkEntries entries + 1
  | .held _ => 1
def uptoBulkAll {H : Type} : List (DataW H) → Nat
  | [] => 0
  | d :: r => uptoBulk d + uptoBulkAll r
def uptoBulkEntries {H : Type} : List (Lit × DataW H) → Nat
  | [] => 0
  | x :: r => uptoBulkEntry x + uptoBulkEntries r
def uptoBulkEntry {H : Type} : Lit × DataW H → Nat
  | (.string bytes, d) => bytes.length + uptoBulk d + 1
  | (_, d) => uptoBulk d + 1
 end
def uptoSmall : (H : Type) → List (DataW H) → Bool := fun _ ds => decide (uptoBulkAll ds ≤ 1048576)
def OpenSpec.upto (s : _root_.Go.ChangeSpec) : _root_.Go.OpenSpec := { _root_.Go.OpenSpec.ofChange s with cond := some uptoSmall }

/-- 'reliquarylaw03.TowerTwo', WHERE WHAT IT READS IS OF BULK AT MOST 1048576: true; the input reads as it did. -/
def towerTwoUptoRow : OpenClaim := { program := "ytkmfiefnaeikdaa", sum := "52d05d7737f366cae4a8d42cc819b27eaac0cd222a8186edace072d0064a21ed", func := "reliquary/reliquarylaw03.TowerTwo", spec := "towerTwo", inPlace := ["math/bits.Add64", "math/bits.Sub64"], apart := false, narrowed := true }
def TowerTwoUptoSaid : Prop := towerTwoUptoRow.holds Try.pinned (OpenSpec.upto towerTwoSpec)

/-- 'reliquarylaw03.TowerRoots', WHERE WHAT IT READS IS OF BULK AT MOST 1048576: true; the input reads as it did. -/
def towerRootsUptoRow : OpenClaim := { program := "ytkmfiefnaeikdaa", sum := "52d05d7737f366cae4a8d42cc819b27eaac0cd222a8186edace072d0064a21ed", func := "reliquary/reliquarylaw03.TowerRoots", spec := "towerRoots", inPlace := ["math/bits.Add64", "math/bits.Sub64"], unfollowed := true, recurses := true, apart := false, narrowed := true }
def TowerRootsUptoSaid : Prop := towerRootsUptoRow.holds Try.pinned (OpenSpec.upto towerRootsSpec)

/-- 'reliquarylaw03.TowerTwelve', WHERE WHAT IT READS IS OF BULK AT MOST 1048576: true; the input reads as it did. -/
def towerTwelveUptoRow : OpenClaim := { program := "ytkmfiefnaeikdaa", sum := "52d05d7737f366cae4a8d42cc819b27eaac0cd222a8186edace072d0064a21ed", func := "reliquary/reliquarylaw03.TowerTwelve", spec := "towerTwelve", inPlace := ["math/bits.Add64", "math/bits.Sub64"], unfollowed := true, recurses := true, apart := false, narrowed := true }
def TowerTwelveUptoSaid : Prop := towerTwelveUptoRow.holds Try.pinned (OpenSpec.upto towerTwelveSpec)

/-- 'reliquarylaw03.TowerField2', WHERE WHAT IT READS IS OF BULK AT MOST 1048576: true; the input reads as it did. -/
def towerField2UptoRow : OpenClaim := { program := "ytkmfiefnaeikdaa", sum := "52d05d7737f366cae4a8d42cc819b27eaac0cd222a8186edace072d0064a21ed", func := "reliquary/reliquarylaw03.TowerField2", spec := "towerField2", inPlace := ["math/bits.Add64", "math/bits.Sub64"], unfollowed := true, recurses := true, apart := false, narrowed := true }
def TowerField2UptoSaid : Prop := towerField2UptoRow.holds Try.pinned (OpenSpec.upto towerField2Spec)

/-- 'reliquarylaw03.TowerPrime', WHERE WHAT IT READS IS OF BULK AT MOST 1048576: true; the input reads as it did. -/
def towerPrimeUptoRow : OpenClaim := { program := "ytkmfiefnaeikdaa", sum := "52d05d7737f366cae4a8d42cc819b27eaac0cd222a8186edace072d0064a21ed", func := "reliquary/reliquarylaw03.TowerPrime", spec := "towerPrime", inPlace := ["math/bits.Add64", "math/bits.Sub64"], unfollowed := true, recurses := true, apart := false, narrowed := true }
def TowerPrimeUptoSaid : Prop := towerPrimeUptoRow.holds Try.pinned (OpenSpec.upto towerPrimeSpec)

/-- 'reliquarylaw03.TowerTurns', WHERE WHAT IT READS IS OF BULK AT MOST 1048576: true; the input reads as it did. -/
def towerTurnsUptoRow : OpenClaim := { program := "ytkmfiefnaeikdaa", sum := "52d05d7737f366cae4a8d42cc819b27eaac0cd222a8186edace072d0064a21ed", func := "reliquary/reliquarylaw03.TowerTurns", spec := "towerTurns", inPlace := ["math/bits.Add64", "math/bits.Sub64"], unfollowed := true, recurses := true, apart := false, narrowed := true }
def TowerTurnsUptoSaid : Prop := towerTurnsUptoRow.holds Try.pinned (OpenSpec.upto towerTurnsSpec)

/-- 'reliquarylaw03.TowerField12', WHERE WHAT IT READS IS OF BULK AT MOST 1048576: true; the input reads as it did. -/
def towerField12UptoRow : OpenClaim := { program := "ytkmfiefnaeikdaa", sum := "52d05d7737f366cae4a8d42cc819b27eaac0cd222a8186edace072d0064a21ed", func := "reliquary/reliquarylaw03.TowerField12", spec := "towerField12", inPlace := ["math/bits.Add64", "math/bits.Sub64"], unfollowed := true, recurses := true, apart := false, narrowed := true }
def TowerField12UptoSaid : Prop := towerField12UptoRow.holds Try.pinned (OpenSpec.upto towerField12Spec)

/-- 'reliquarylaw03.TowerKnown', WHERE WHAT IT READS IS OF BULK AT MOST 1048576: true; the input reads as it did. -/
def towerKnownUptoRow : OpenClaim := { program := "ytkmfiefnaeikdaa", sum := "52d05d7737f366cae4a8d42cc819b27eaac0cd222a8186edace072d0064a21ed", func := "reliquary/reliquarylaw03.TowerKnown", spec := "towerKnown", inPlace := ["math/bits.Add64", "math/bits.Sub64"], unfollowed := true, recurses := true, apart := false, narrowed := true }
def TowerKnownUptoSaid : Prop := towerKnownUptoRow.holds Try.pinned (OpenSpec.upto towerKnownSpec)

end Rows
end Go.Proofs.Ytkmfiefnaeikdaa
