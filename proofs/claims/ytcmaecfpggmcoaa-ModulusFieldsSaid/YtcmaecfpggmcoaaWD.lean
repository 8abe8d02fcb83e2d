/- Division as a tuple of three. -/
import Derived.Test.YtcmaecfpggmcoaaW5
namespace Go.Proofs.Ytcmaecfpggmcoaa
open Go.Rq Go

def dQ (x y : Nat) : Nat := bif Nat.beq y 0 then 0 else x / y
def dR (x y : Nat) : Nat := bif Nat.beq y 0 then 0 else x % y
def dE (y : Nat) : Int := bif Nat.beq y 0 then 2 else 0
def cDiv2 : List AV → Option (List Prop × AV)
  | [.v1 (.agg [.ws .u64 6 a]), .v1 (.agg [.ws .u64 6 b])] => some ([], .tup [numV (dQ (nv a) (nv b)), numV (dR (nv a) (nv b)), .sc (.it (dE (nv b)))])
  | _ => none
theorem divV_eq (x y : Nat) : divV x y = .tup [numV (dQ x y), numV (dR x y), .sc (.it (dE y))] := by
  unfold divV dQ dR dE; cases Nat.beq y 0 <;> rfl
theorem okDiv2_of {n : Nat} (h : (CallC.pure cDiv).Ok Try.prog n) : (CallC.pure cDiv2).Ok Try.prog n := by
  intro args pre v e _
  unfold cDiv2 at e
  split at e
  · rename_i a b
    cases e
    have := h [.v1 (.agg [.ws .u64 6 a]), .v1 (.agg [.ws .u64 6 b])] [] (divV (nv a) (nv b)) rfl (fun _ h => by cases h)
    rw [divV_eq] at this
    exact this
  · cases e

end Go.Proofs.Ytcmaecfpggmcoaa
