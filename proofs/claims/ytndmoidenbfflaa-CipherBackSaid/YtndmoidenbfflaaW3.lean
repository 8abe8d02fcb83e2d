/- The document's addition and subtraction, off their loops. -/
import Derived.Test.YtndmoidenbfflaaW2
namespace Go.Proofs.Ytndmoidenbfflaa
open Go.Rq Go

abbrev pt (b o : Nat) : AV := .v1 (.sc (.pt b o))
abbrev wv (n : Nat) : AV := .v1 (.sc (.w .u64 n))
abbrev iv (z : Int) : AV := .v1 (.sc (.it z))
abbrev nb (f : Nat → Nat) : Option Blk := some ⟨24, [.ws .u64 6 f], 0, 0⟩

/-! Add -/
def InvA (a b : Nat → Nat) (x : Nat × (Nat → Nat) × Nat) : Prop := x.1 ≤ 6 ∧ x.2.2 ≤ 1 ∧ nvn x.2.1 x.1 + W ^ x.1 * x.2.2 = nvn a x.1 + nvn b x.1
def VA (i c : Nat) : List AV := [pt 0 0, pt 1 0, pt 2 0, pt 3 0, wv c, iv (Int.ofNat i)]
def HA (a b out : Nat → Nat) : Heap := [nb a, nb b, nb (fun _ => 0), nb out]

/-! Sub -/
def InvS (a b : Nat → Nat) (x : Nat × (Nat → Nat) × Nat) : Prop := x.1 ≤ 6 ∧ x.2.2 ≤ 1 ∧ nvn x.2.1 x.1 + nvn b x.1 = nvn a x.1 + W ^ x.1 * x.2.2
end Go.Proofs.Ytndmoidenbfflaa
