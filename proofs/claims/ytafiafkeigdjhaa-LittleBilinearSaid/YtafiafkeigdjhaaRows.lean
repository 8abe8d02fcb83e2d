/-
  No cell of these rows narrows 'for every input' (looked for: loops, veiled, ifaces, maps, wideKeys, modest, calm, conditions, laid).
  DERIVED. THE GIVEN ROWS OF THIS SEAT. 7 by the template 'for every input the law returns true; each argument reads behind the call as it read before'; 0 by the template 'total and deterministic' (their statements: YtafiafkeigdjhaaTotals.lean).
  GIVEN WITH THE SEED: the statements are not yours to turn. If you find one false, say at which input.
  Laid BY PROGRAM, IN A SANDBOX (cutbox-rows.mjs): the forced cells as the released guide's own fill.sh prints them over the translation f2ec511f4a9ff74d… (all of the seat's roots in one cut). By AI agents, Wed Nov 11 2026. No macro, syntax, notation, axiom, sorry.
-/
import Derived.Test.YtafiafkeigdjhaaChecked
import GoSem.Claim
import GoSem.ClaimJoined
import GoSem.ClaimMapViews
import Derived.JoinedTies
import Derived.KernelRfl
namespace Go.Proofs.Ytafiafkeigdjhaa
/- THE CELL 'sum', in the pinned program and in every row, IS THE sha256 OF THE DUMP (.gsa) THAT YtafiafkeigdjhaaProg.lean LOADS. Nothing in Lean hashes anything: it is a label: what it is worth is what the hold of that sum in a sandbox is worth. -/
noncomputable def Try.pinned : Pinned := { name := "ytafiafkeigdjhaa", sum := "f2ec511f4a9ff74d5f6dab3f2a32a71618f41727ee69921933cc066fae6896ff", checked := Try.checked }
namespace Rows
def none {H : Type} : Left H := { results := [], args := [] }

/-- 'reliquarylaw07.LittleTexts': WHATEVER THE INPUT: true; the input reads as it did. -/
def littleTextsSpec : ChangeSpec := { name := "littleTexts", fn := fun _ => fun
  | [d1, d2, d3] => { results := [.lit (.bool true)], args := [d1, d2, d3] }
  | _ => none }
def littleTextsRow : OpenClaim := { program := "ytafiafkeigdjhaa", sum := "f2ec511f4a9ff74d5f6dab3f2a32a71618f41727ee69921933cc066fae6896ff", func := "reliquary/reliquarylaw07.LittleTexts", spec := "littleTexts", named := ["math/bits.divideError", "math/bits.overflowError"], apart := false }
def LittleTextsSaid : Prop := littleTextsRow.holds Try.pinned (OpenSpec.ofChange littleTextsSpec)

/-- ITS FALSE NEIGHBOUR: 'it returns false'. Refute it at one input. -/
def littleTextsWrong : ChangeSpec := { name := "littleTexts", fn := fun _ => fun
  | [d1, d2, d3] => { results := [.lit (.bool false)], args := [d1, d2, d3] }
  | _ => none }
def LittleTextsWrongFalsely : Prop := littleTextsRow.holds Try.pinned (OpenSpec.ofChange littleTextsWrong)

/-- 'reliquarylaw07.LittlePairs': WHATEVER THE INPUT: true; the input reads as it did. -/
def littlePairsSpec : ChangeSpec := { name := "littlePairs", fn := fun _ => fun
  | [d1, d2, d3, d4, d5, d6] => { results := [.lit (.bool true)], args := [d1, d2, d3, d4, d5, d6] }
  | _ => none }
def littlePairsRow : OpenClaim := { program := "ytafiafkeigdjhaa", sum := "f2ec511f4a9ff74d5f6dab3f2a32a71618f41727ee69921933cc066fae6896ff", func := "reliquary/reliquarylaw07.LittlePairs", spec := "littlePairs", unfollowed := true, recurses := true, named := ["math/bits.divideError", "math/bits.overflowError"], apart := false }
def LittlePairsSaid : Prop := littlePairsRow.holds Try.pinned (OpenSpec.ofChange littlePairsSpec)

/-- ITS FALSE NEIGHBOUR: 'it returns false'. Refute it at one input. -/
def littlePairsWrong : ChangeSpec := { name := "littlePairs", fn := fun _ => fun
  | [d1, d2, d3, d4, d5, d6] => { results := [.lit (.bool false)], args := [d1, d2, d3, d4, d5, d6] }
  | _ => none }
def LittlePairsWrongFalsely : Prop := littlePairsRow.holds Try.pinned (OpenSpec.ofChange littlePairsWrong)

/-- 'reliquarylaw07.LittleTells': WHATEVER THE INPUT: true; the input reads as it did. -/
def littleTellsSpec : ChangeSpec := { name := "littleTells", fn := fun _ => fun
  | [d1, d2, d3, d4] => { results := [.lit (.bool true)], args := [d1, d2, d3, d4] }
  | _ => none }
def littleTellsRow : OpenClaim := { program := "ytafiafkeigdjhaa", sum := "f2ec511f4a9ff74d5f6dab3f2a32a71618f41727ee69921933cc066fae6896ff", func := "reliquary/reliquarylaw07.LittleTells", spec := "littleTells", named := ["math/bits.divideError", "math/bits.overflowError"], apart := false }
def LittleTellsSaid : Prop := littleTellsRow.holds Try.pinned (OpenSpec.ofChange littleTellsSpec)

/-- ITS FALSE NEIGHBOUR: 'it returns false'. Refute it at one input. -/
def littleTellsWrong : ChangeSpec := { name := "littleTells", fn := fun _ => fun
  | [d1, d2, d3, d4] => { results := [.lit (.bool false)], args := [d1, d2, d3, d4] }
  | _ => none }
def LittleTellsWrongFalsely : Prop := littleTellsRow.holds Try.pinned (OpenSpec.ofChange littleTellsWrong)

/-- 'reliquarylaw07.LittleGroup': WHATEVER THE INPUT: true; the input reads as it did. -/
def littleGroupSpec : ChangeSpec := { name := "littleGroup", fn := fun _ => fun
  | [d1, d2, d3, d4, d5, d6] => { results := [.lit (.bool true)], args := [d1, d2, d3, d4, d5, d6] }
  | _ => none }
def littleGroupRow : OpenClaim := { program := "ytafiafkeigdjhaa", sum := "f2ec511f4a9ff74d5f6dab3f2a32a71618f41727ee69921933cc066fae6896ff", func := "reliquary/reliquarylaw07.LittleGroup", spec := "littleGroup", unfollowed := true, recurses := true, named := ["math/bits.divideError", "math/bits.overflowError"], apart := false }
def LittleGroupSaid : Prop := littleGroupRow.holds Try.pinned (OpenSpec.ofChange littleGroupSpec)

/-- ITS FALSE NEIGHBOUR: 'it returns false'. Refute it at one input. -/
def littleGroupWrong : ChangeSpec := { name := "littleGroup", fn := fun _ => fun
  | [d1, d2, d3, d4, d5, d6] => { results := [.lit (.bool false)], args := [d1, d2, d3, d4, d5, d6] }
  | _ => none }
def LittleGroupWrongFalsely : Prop := littleGroupRow.holds Try.pinned (OpenSpec.ofChange littleGroupWrong)

/-- 'reliquarylaw07.LittleBilinear': WHATEVER THE INPUT: true; the input reads as it did. -/
def littleBilinearSpec : ChangeSpec := { name := "littleBilinear", fn := fun _ => fun
  | [d1, d2, d3, d4, d5, d6] => { results := [.lit (.bool true)], args := [d1, d2, d3, d4, d5, d6] }
  | _ => none }
def littleBilinearRow : OpenClaim := { program := "ytafiafkeigdjhaa", sum := "f2ec511f4a9ff74d5f6dab3f2a32a71618f41727ee69921933cc066fae6896ff", func := "reliquary/reliquarylaw07.LittleBilinear", spec := "littleBilinear", unfollowed := true, recurses := true, named := ["math/bits.divideError", "math/bits.overflowError"], apart := false }
def LittleBilinearSaid : Prop := littleBilinearRow.holds Try.pinned (OpenSpec.ofChange littleBilinearSpec)

/-- ITS FALSE NEIGHBOUR: 'it returns false'. Refute it at one input. -/
def littleBilinearWrong : ChangeSpec := { name := "littleBilinear", fn := fun _ => fun
  | [d1, d2, d3, d4, d5, d6] => { results := [.lit (.bool false)], args := [d1, d2, d3, d4, d5, d6] }
  | _ => none }
def LittleBilinearWrongFalsely : Prop := littleBilinearRow.holds Try.pinned (OpenSpec.ofChange littleBilinearWrong)

/-- 'reliquarylaw07.LittleBack': WHATEVER THE INPUT: true; the input reads as it did. -/
def littleBackSpec : ChangeSpec := { name := "littleBack", fn := fun _ => fun
  | [d1, d2, d3] => { results := [.lit (.bool true)], args := [d1, d2, d3] }
  | _ => none }
def littleBackRow : OpenClaim := { program := "ytafiafkeigdjhaa", sum := "f2ec511f4a9ff74d5f6dab3f2a32a71618f41727ee69921933cc066fae6896ff", func := "reliquary/reliquarylaw07.LittleBack", spec := "littleBack", unfollowed := true, recurses := true, named := ["math/bits.divideError", "math/bits.overflowError"], apart := false }
def LittleBackSaid : Prop := littleBackRow.holds Try.pinned (OpenSpec.ofChange littleBackSpec)

/-- ITS FALSE NEIGHBOUR: 'it returns false'. Refute it at one input. -/
def littleBackWrong : ChangeSpec := { name := "littleBack", fn := fun _ => fun
  | [d1, d2, d3] => { results := [.lit (.bool false)], args := [d1, d2, d3] }
  | _ => none }
def LittleBackWrongFalsely : Prop := littleBackRow.holds Try.pinned (OpenSpec.ofChange littleBackWrong)

/-- 'reliquarylaw07.LittleKnown': WHATEVER THE INPUT: true; the input reads as it did. -/
def littleKnownSpec : ChangeSpec := { name := "littleKnown", fn := fun _ => fun
  | [] => { results := [.lit (.bool true)], args := [] }
  | _ => none }
def littleKnownRow : OpenClaim := { program := "ytafiafkeigdjhaa", sum := "f2ec511f4a9ff74d5f6dab3f2a32a71618f41727ee69921933cc066fae6896ff", func := "reliquary/reliquarylaw07.LittleKnown", spec := "littleKnown", unfollowed := true, recurses := true, named := ["math/bits.divideError", "math/bits.overflowError"], apart := false }
def LittleKnownSaid : Prop := littleKnownRow.holds Try.pinned (OpenSpec.ofChange littleKnownSpec)

/-- ITS FALSE NEIGHBOUR: 'it returns false'. Refute it at one input. -/
def littleKnownWrong : ChangeSpec := { name := "littleKnown", fn := fun _ => fun
  | [] => { results := [.lit (.bool false)], args := [] }
  | _ => none }
def LittleKnownWrongFalsely : Prop := littleKnownRow.holds Try.pinned (OpenSpec.ofChange littleKnownWrong)

/- THE SECOND FORM. 'bulk': how many values and letters a reading holds, each counted each time it is reached (what is shared counts as often as it is met; a slice's spare places count too). A statement '..UptoSaid' is the law's where the arguments, and the package variables that the reading takes, are together of bulk at most 1048576: NARROWER than '..Said'. Prove '..Said' where nothing that the law and all that it calls make is longer than what came in: it says more and counts as full. Else prove '..UptoSaid'. A law counts once. -/
mutual
def uptoBulk {H : Type} : DataW H → Nat
  | .lit (.string bytes) => bytes.length + 1
  | .lit _ => 1
  | .nil => 1
  | .ptr d => uptoBulk d + 1
  | .slice elems spare => uptoBulkAll elems + uptoBulkAll spare + 1
  | .agg parts => uptoBulkAll parts + 1
  | .iface _ d => uptoBulk d + 1
  | .map entries => uptoBulkEntries entries + 1
  | .held _ => 1
def uptoBulkAll {H : Type} : List (DataW H) → Nat
  | [] => 0
  | d :: r => uptoBulk d + uptoBulkAll r
def uptoBulkEntries {H : Type} : List (Lit × DataW H) → Nat
  | [] => 0
  | x :: r => uptoBulkEntry x + uptoBulkEntries r
def uptoBulkEntry {H : Type} : Lit × DataW H → Nat
  | (.string bytes, d) => bytes.length + uptoBulk d + 1
  | (_, d) => uptoBulk d + 1
 end
def uptoSmall : (H : Type) → List (DataW H) → Bool := fun _ ds => decide (uptoBulkAll ds ≤ 1048576)
def OpenSpec.upto (s : _root_.Go.ChangeSpec) : _root_.Go.OpenSpec := { _root_.Go.OpenSpec.ofChange s with cond := some uptoSmall }

/-- 'reliquarylaw07.LittleTexts', WHERE WHAT IT READS IS OF BULK AT MOST 1048576: true; the input reads as it did. -/
def littleTextsUptoRow : OpenClaim := { program := "ytafiafkeigdjhaa", sum := "f2ec511f4a9ff74d5f6dab3f2a32a71618f41727ee69921933cc066fae6896ff", func := "reliquary/reliquarylaw07.LittleTexts", spec := "littleTexts", named := ["math/bits.divideError", "math/bits.overflowError"], apart := false, narrowed := true }
def LittleTextsUptoSaid : Prop := littleTextsUptoRow.holds Try.pinned (OpenSpec.upto littleTextsSpec)

/-- 'reliquarylaw07.LittlePairs', WHERE WHAT IT READS IS OF BULK AT MOST 1048576: true; the input reads as it did. -/
def littlePairsUptoRow : OpenClaim := { program := "ytafiafkeigdjhaa", sum := "f2ec511f4a9ff74d5f6dab3f2a32a71618f41727ee69921933cc066fae6896ff", func := "reliquary/reliquarylaw07.LittlePairs", spec := "littlePairs", unfollowed := true, recurses := true, named := ["math/bits.divideError", "math/bits.overflowError"], apart := false, narrowed := true }
def LittlePairsUptoSaid : Prop := littlePairsUptoRow.holds Try.pinned (OpenSpec.upto littlePairsSpec)

/-- 'reliquarylaw07.LittleTells', WHERE WHAT IT READS IS OF BULK AT MOST 1048576: true; the input reads as it did. -/
def littleTellsUptoRow : OpenClaim := { program := "ytafiafkeigdjhaa", sum := "f2ec511f4a9ff74d5f6dab3f2a32a71618f41727ee69921933cc066fae6896ff", func := "reliquary/reliquarylaw07.LittleTells", spec := "littleTells", named := ["math/bits.divideError", "math/bits.overflowError"], apart := false, narrowed := true }
def LittleTellsUptoSaid : Prop := littleTellsUptoRow.holds Try.pinned (OpenSpec.upto littleTellsSpec)

/-- 'reliquarylaw07.LittleGroup', WHERE WHAT IT READS IS OF BULK AT MOST 1048576: true; the input reads as it did. -/
def littleGroupUptoRow : OpenClaim := { program := "ytafiafkeigdjhaa", sum := "f2ec511f4a9ff74d5f6dab3f2a32a71618f41727ee69921933cc066fae6896ff", func := "reliquary/reliquarylaw07.LittleGroup", spec := "littleGroup", unfollowed := true, recurses := true, named := ["math/bits.divideError", "math/bits.overflowError"], apart := false, narrowed := true }
def LittleGroupUptoSaid : Prop := littleGroupUptoRow.holds Try.pinned (OpenSpec.upto littleGroupSpec)

/-- 'reliquarylaw07.LittleBilinear', WHERE WHAT IT READS IS OF BULK AT MOST 1048576: true; the input reads as it did. -/
def littleBilinearUptoRow : OpenClaim := { program := "ytafiafkeigdjhaa", sum := "f2ec511f4a9ff74d5f6dab3f2a32a71618f41727ee69921933cc066fae6896ff", func := "reliquary/reliquarylaw07.LittleBilinear", spec := "littleBilinear", unfollowed := true, recurses := true, named := ["math/bits.divideError", "math/bits.overflowError"], apart := false, narrowed := true }
def LittleBilinearUptoSaid : Prop := littleBilinearUptoRow.holds Try.pinned (OpenSpec.upto littleBilinearSpec)

/-- 'reliquarylaw07.LittleBack', WHERE WHAT IT READS IS OF BULK AT MOST 1048576: true; the input reads as it did. -/
def littleBackUptoRow : OpenClaim := { program := "ytafiafkeigdjhaa", sum := "f2ec511f4a9ff74d5f6dab3f2a32a71618f41727ee69921933cc066fae6896ff", func := "reliquary/reliquarylaw07.LittleBack", spec := "littleBack", unfollowed := true, recurses := true, named := ["math/bits.divideError", "math/bits.overflowError"], apart := false, narrowed := true }
def LittleBackUptoSaid : Prop := littleBackUptoRow.holds Try.pinned (OpenSpec.upto littleBackSpec)

/-- 'reliquarylaw07.LittleKnown', WHERE WHAT IT READS IS OF BULK AT MOST 1048576: true; the input reads as it did. -/
def littleKnownUptoRow : OpenClaim := { program := "ytafiafkeigdjhaa", sum := "f2ec511f4a9ff74d5f6dab3f2a32a71618f41727ee69921933cc066fae6896ff", func := "reliquary/reliquarylaw07.LittleKnown", spec := "littleKnown", unfollowed := true, recurses := true, named := ["math/bits.divideError", "math/bits.overflowError"], apart := false, narrowed := true }
def LittleKnownUptoSaid : Prop := littleKnownUptoRow.holds Try.pinned (OpenSpec.upto littleKnownSpec)

end Rows
end Go.Proofs.Ytafiafkeigdjhaa
