/- Contracts by cases; the values of the chapter's examples. -/
import Derived.Test.YtafiafkeigdjhaaZL
namespace Go.Proofs.Ytafiafkeigdjhaa
open Go.Rq Go
set_option linter.unusedVariables false
def gdP (t : Int) (C : List AV → Option (List Prop × AV)) (args : List AV) : Option (List Prop × AV) :=
  match args with
  | .v1 (.sc (.it z)) :: _ => match ieq z t with
    | true => C args
    | false => none
  | _ => none
def orP (C D : List AV → Option (List Prop × AV)) (args : List AV) : Option (List Prop × AV) :=
  match C args with
  | some r => some r
  | none => D args
theorem gdP_ok {P : Program} {f : FuncId} {t : Int} {C : List AV → Option (List Prop × AV)} (h : (CallC.pure C).Ok P f) : (CallC.pure (gdP t C)).Ok P f := by
  intro args pre v e hp
  unfold gdP at e
  split at e
  · split at e
    · exact h _ _ _ e hp
    · cases e
  · cases e
theorem orP_ok {P : Program} {f : FuncId} {C D : List AV → Option (List Prop × AV)} (h : (CallC.pure C).Ok P f) (k : (CallC.pure D).Ok P f) : (CallC.pure (orP C D)).Ok P f := by
  intro args pre v e hp
  unfold orP at e
  split at e
  · rename_i r hr
    cases e
    exact h _ _ _ hr hp
  · exact k _ _ _ e hp
/-- By the third argument's first part. -/
def by3 (n : Nat) (C D : List AV → Option (List Prop × AV)) (args : List AV) : Option (List Prop × AV) :=
  match args with
  | [_, _, .v1 (.agg (.one (.w .u64 x) :: _))] => match Nat.beq x n with
    | true => C args
    | false => D args
  | _ => none
theorem by3_ok {P : Program} {f : FuncId} {n : Nat} {C D : List AV → Option (List Prop × AV)} (h : (CallC.pure C).Ok P f) (k : (CallC.pure D).Ok P f) : (CallC.pure (by3 n C D)).Ok P f := by
  intro args pre v e hp
  unfold by3 at e
  split at e
  · split at e
    · exact h _ _ _ e hp
    · exact k _ _ _ e hp
  · cases e
theorem cu2 : CuOk 2 1152921504606846223 72057594037927889 16 613740293506734924 666621259561003659 := .inr ⟨rfl, rfl, rfl, rfl, rfl, rfl⟩
abbrev hL : LP := ⟨613740293506734924, 666621259561003659, false⟩
abbrev p1 : Nat := 786251
abbrev p2 : Nat := 1152921504606846223
abbrev r2 : Nat := 72057594037927889
theorem hL_in : inN p2 r2 hL = true := by kernel_rfl
theorem hL_p0 : pairN p2 r2 16 hL hL 0 = 1031928651028551423 := by kernel_rfl
theorem hL_p1 : pairN p2 r2 16 hL hL 1 = 152963554084142207 := by kernel_rfl
theorem nr_P : nearP p1 1 = ⟨4, 204503, false⟩ := by kernel_rfl
theorem nr_K : nearK p1 1 = 3 := by kernel_rfl
theorem gL_r : mulP p1 gL 65521 = zeroL := by kernel_rfl
theorem gL_on : onB p1 gL = true := by kernel_rfl
theorem gL_neg : sumN p1 gL (negL p1 gL) = zeroL := by kernel_rfl
theorem gN_on : onB p1 (negL p1 gL) = true := by kernel_rfl
theorem bad_on : onB p1 ⟨1, 1, false⟩ = false := by kernel_rfl
theorem z_in : inN p1 65521 ⟨0, 0, false⟩ = false := by kernel_rfl
def gKn : List (Nat × CallC) := [(41, .pure cAw), (29, .pure (orP (gdP 1 (kGen 1 p1 65521 12 9723 164643)) (gdP 2 (kGen 2 p2 r2 16 613740293506734924 666621259561003659)))),
  (19, .pure (kPair 2 p2 r2 16 613740293506734924 666621259561003659)), (34, .pure (kNear 1 p1 65521 12 9723 164643)), (31, .pure (kMul 1 p1 65521 12 9723 164643)), (33, .pure (kNeg 1 p1 65521 12 9723 164643)),
  (30, .pure (by3 1 (kAddF 1 p1 65521 12 9723 164643) (kAdd 1 p1 65521 12 9723 164643))), (27, .pure (orP (gdP 2 (kPrime 2 p2 r2 16 613740293506734924 666621259561003659)) kPrimeB)),
  (35, .pure (kCheck 1 p1 65521 12 9723 164643)), (36, .pure (kIn 1 p1 65521 12 9723 164643)), (12, .mem (kBytes 1 p1 65521 12 9723 164643))]
theorem gKn_ok : CtxOk Try.prog (ctxL gKn) := ctxL_cons okAw <| ctxL_cons (orP_ok (gdP_ok (okEGen cu1)) (gdP_ok (okEGen cu2))) <| ctxL_cons (okEPair cu2) <| ctxL_cons (okENear cu1) <| ctxL_cons (okEMul cu1) <| ctxL_cons (okENeg cu1) <|
  ctxL_cons (by3_ok (okEAddF cu1) (okEAdd cu1)) <| ctxL_cons (orP_ok (gdP_ok (okEPrime cu2)) okEPrimeB) <| ctxL_cons (okECheck cu1) <| ctxL_cons (okEIn cu1) <| ctxL_cons (okEBytes cu1) ctxL_nil
end Go.Proofs.Ytafiafkeigdjhaa
