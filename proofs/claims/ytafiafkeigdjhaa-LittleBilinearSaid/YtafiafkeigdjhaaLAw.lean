/- 'awake' of layer 7: the document's examples of the little curve. -/
import Derived.Test.YtafiafkeigdjhaaL13
namespace Go.Proofs.Ytafiafkeigdjhaa
open Go.Rq Go
set_option linter.unusedVariables false
abbrev gL : LP := ⟨9723, 164643, false⟩
theorem gL_in : inN 786251 65521 gL = true := by kernel_rfl
theorem gL_p0 : pairN 786251 65521 12 gL gL 0 = 414096 := by kernel_rfl
theorem gL_p1 : pairN 786251 65521 12 gL gL 1 = 460347 := by kernel_rfl
def cAw : List AV → Option (List Prop × AV)
  | [] => some ([], .v1 (.sc (.bo true)))
  | _ => none
def GAw : Ctx := ctxL [(29, .pure (kGen 1 786251 65521 12 9723 164643)), (19, .pure (kPair 1 786251 65521 12 9723 164643))]
theorem cu1 : CuOk 1 786251 65521 12 9723 164643 := .inl ⟨rfl, rfl, rfl, rfl, rfl, rfl⟩
theorem GAw_ok : CtxOk Try.prog GAw := ctxL_cons (okEGen cu1) <| ctxL_cons (okEPair cu1) ctxL_nil
theorem okAw : (CallC.pure cAw).Ok Try.prog 41 := by
  intro args pre v e hp
  unfold cAw at e
  split at e
  rotate_left
  · cases e
  cases e
  refine pure_walk' tt_ok Try.func41 (by kernel_rfl) (by kernel_rfl) (by rfl) (by rfl) (evS_q mixed tt_ok GAw_ok 60 [⟨3,10,.lit (.bo true)⟩] ?_)
  refine same (p := (1 : Int) = 1 ∧ (1 : Int) = 1 ∧ inN 786251 65521 gL = true ∧ inN 786251 65521 gL = true ∧ (Nat.beq (pairN 786251 65521 12 gL gL 0 % W) (414096 % W) && (Nat.beq (pairN 786251 65521 12 gL gL 1 % W) (460347 % W) && true)) = true ∧ endV (.v1 (.sc (.bo true))) (.v1 (.sc (.bo true)))) ?_ (by kernel_rfl)
  refine ⟨rfl, rfl, gL_in, gL_in, ?_, endV_eq rfl⟩
  rw [gL_p0, gL_p1]; rfl
end Go.Proofs.Ytafiafkeigdjhaa
