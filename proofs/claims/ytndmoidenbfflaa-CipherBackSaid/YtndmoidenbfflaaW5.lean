/- Division, off its loops. -/
import Derived.Test.YtndmoidenbfflaaW4
import Derived.Test.YtndmoidenbfflaaWM4
namespace Go.Proofs.Ytndmoidenbfflaa
open Go.Rq Go

def GD : Ctx := ctxL []
theorem GD_ok : CtxOk Try.prog GD := ctxL_nil
def divV (x y : Nat) : AV := match Nat.beq y 0 with
  | true => .tup [numV 0, numV 0, .sc (.it 2)]
  | false => .tup [numV (x / y), numV (x % y), .sc (.it 0)]
def cDiv : List AV → Option (List Prop × AV)
  | [.v1 (.agg [.ws .u64 6 a]), .v1 (.agg [.ws .u64 6 b])] => some ([], divV (nv a) (nv b))
  | _ => none
def VQ (k : Nat) : List AV := [pt 0 0, pt 1 0, pt 2 0, pt 3 0, pt 4 0, pt 5 0, iv (predI k)]
def HQ (a b q r : Nat → Nat) : Heap := [nb a, nb b, nb (fun _ => 0), nb (fun _ => 0), nb q, nb r]
def InvQ (a b : Nat → Nat) (x : Nat × (Nat → Nat) × (Nat → Nat)) : Prop := x.1 ≤ 384 ∧ DivI (nv a) (nv b) x.1 (nv x.2.1) (nv x.2.2)
theorem divV_ok (x y : Nat) : vokB (divV x y) = true := by
  unfold divV; cases Nat.beq y 0 <;> rfl

end Go.Proofs.Ytndmoidenbfflaa
