/- Shifts, off their runs. -/
import Derived.Test.YtndmoidenbfflaaW3
import Derived.Test.YtndmoidenbfflaaWM3
namespace Go.Proofs.Ytndmoidenbfflaa
open Go.Rq Go

def cShift : List AV → Option (List Prop × AV)
  | [.v1 (.agg [.ws .u64 6 a]), .v1 (.sc (.it n))] => some ([], numA (shiftN (nv a) n % R))
  | _ => none

theorem zero_nv : nv (fun _ => 0) = 0 := by simp [nv]
theorem ilt_not {x y : Int} (h : ¬ x < y) : ilt x y = false := by rw [← Bool.not_eq_true, ilt_iff]; exact h
theorem ilt_yes {x y : Int} (h : x < y) : ilt x y = true := by rw [ilt_iff]; exact h

/-! the document's -/
def InvD (a : Nat → Nat) (n : Int) (x : Nat × (Nat → Nat)) : Prop := x.1 ≤ 384 ∧ ∀ j, j < 384 → Nat.testBit (x.2 (j / 64)) (j % 64) = (decide (j < x.1) && tbI (nv a) (Int.ofNat j - n))
def VD (n : Int) (i : Nat) : List AV := [iv n, pt 0 0, pt 1 0, pt 2 0, iv (Int.ofNat i)]
def HD (a out : Nat → Nat) : Heap := [nb a, nb (fun _ => 0), nb out]
/-! the words' -/
def hintsB (bp : Bool) : List Hint := [⟨12,1,.lit (.bo bp)⟩, ⟨12,1,.lit (.bo bp)⟩, ⟨12,1,.lit (.bo bp)⟩, ⟨12,1,.lit (.bo bp)⟩, ⟨12,1,.lit (.bo bp)⟩, ⟨12,1,.lit (.bo bp)⟩]
end Go.Proofs.Ytndmoidenbfflaa
