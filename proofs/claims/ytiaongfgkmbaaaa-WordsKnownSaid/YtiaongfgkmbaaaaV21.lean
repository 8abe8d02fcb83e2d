/- The contracts that WordsKnown uses. -/
import Derived.Test.YtiaongfgkmbaaaaVR
import Derived.Test.YtiaongfgkmbaaaaW6
import Derived.Test.YtiaongfgkmbaaaaW10
import Derived.Test.YtiaongfgkmbaaaaW11
import Derived.Test.YtiaongfgkmbaaaaWL
namespace Go.Proofs.Ytiaongfgkmbaaaa
open Go.Rq Go
def gKw : List (Nat × CallC) := [(22, .pure cAdd), (38, .pure cOf), (24, .pure cSub), (32, .pure cShift), (28, .pure cMul), (30, .pure cDiv2), (14, .pure cParse), (12, .rd cRead), (36, .pure cLen), (34, .pure cBit), (40, .pure cAwake), (42, .pure cRep)]
theorem gKw_ok : CtxOk Try.prog (ctxL gKw) := ctxL_cons okAdd <| ctxL_cons okOf <| ctxL_cons okSub <| ctxL_cons okShift <| ctxL_cons okMul <| ctxL_cons (okDiv2_of okDiv) <| ctxL_cons okParse <| ctxL_cons okRead <| ctxL_cons okLen <| ctxL_cons okBit <| ctxL_cons okAwake <| ctxL_cons okRep ctxL_nil
theorem kEndT_ok : ∃ v', some (AV.v1 (.sc (.bo true))) = some v' ∧ ∀ ρ, v'.val ρ = (AV.v1 (.sc (.bo true))).val ρ := ⟨_, rfl, fun _ => rfl⟩
end Go.Proofs.Ytiaongfgkmbaaaa
