/- awake, and Pick: what the laws that do not ask the document lean on. -/
import Derived.Test.YtiaongfgkmbaaaaW9
namespace Go.Proofs.Ytiaongfgkmbaaaa
open Go.Rq Go

def dQ (x y : Nat) : Nat := bif Nat.beq y 0 then 0 else x / y
def dR (x y : Nat) : Nat := bif Nat.beq y 0 then 0 else x % y
def dE (y : Nat) : Int := bif Nat.beq y 0 then 2 else 0
def cDiv2 : List AV → Option (List Prop × AV)
  | [.v1 (.agg [.ws .u64 6 a]), .v1 (.agg [.ws .u64 6 b])] => some ([], .tup [numV (dQ (nv a) (nv b)), numV (dR (nv a) (nv b)), .sc (.it (dE (nv b)))])
  | _ => none
theorem divV_eq (x y : Nat) : divV x y = .tup [numV (dQ x y), numV (dR x y), .sc (.it (dE y))] := by
  unfold divV dQ dR dE; cases Nat.beq y 0 <;> rfl
theorem okDiv2_of {n : Nat} (h : (CallC.pure cDiv).Ok Try.prog n) : (CallC.pure cDiv2).Ok Try.prog n := by
  intro args pre v e _
  unfold cDiv2 at e
  split at e
  · rename_i a b
    cases e
    have := h [.v1 (.agg [.ws .u64 6 a]), .v1 (.agg [.ws .u64 6 b])] [] (divV (nv a) (nv b)) rfl (fun _ h => by cases h)
    rw [divV_eq] at this
    exact this
  · cases e

def GW : Ctx := ctxL [(38, .pure cOf), (30, .pure cDiv2), (14, .pure cParse), (20, .pure cText)]
theorem GW_ok : CtxOk Try.prog GW := ctxL_cons okOf <| ctxL_cons (okDiv2_of okDiv) <| ctxL_cons okParse <| ctxL_cons okText ctxL_nil
def cAwake : List AV → Option (List Prop × AV)
  | [] => some ([], .v1 (.sc (.bo true)))
  | _ => none
theorem okAwake : (CallC.pure cAwake).Ok Try.prog 40 := by
  intro args pre v h _
  unfold cAwake at h
  split at h
  · cases h
    refine pure_fn mixed tt_ok GW_ok Try.func40 (by kernel_rfl) (by kernel_rfl) (by kernel_rfl) (by kernel_rfl) 50 [] ?_
    exact same (p := some (AV.v1 (.sc (.bo true))) = some (AV.v1 (.sc (.bo true)))) rfl (by kernel_rfl)
  · cases h
end Go.Proofs.Ytiaongfgkmbaaaa
