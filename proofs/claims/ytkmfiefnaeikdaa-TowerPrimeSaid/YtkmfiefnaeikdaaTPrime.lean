/- reliquarylaw03.TowerPrime answers true at every input, and leaves it as it was. Conditions: none. Printed by genlaws3.py. -/
import Derived.Test.YtkmfiefnaeikdaaRows
import Derived.Test.YtkmfiefnaeikdaaZD
import Derived.Test.YtkmfiefnaeikdaaZE
import Derived.Carry
namespace Go.Proofs.Ytkmfiefnaeikdaa
open Go.Rq Go Go.ChangeShapes Go.WideShapes Go.ChangeAt Go.RowKit
set_option maxRecDepth 100000
set_option linter.unusedVariables false
set_option linter.unusedSimpArgs false
def GPr : Ctx := ctxL [(26, .pure cAwake3), (47, .pure (cK primeF)), (44, .pure cTPow), (39, .pure cTFrob)]
theorem GPr_ok : CtxOk Try.prog GPr := ctxL_cons okAwake3 <| ctxL_cons okBase <| ctxL_cons okTPow <| ctxL_cons okTFrob ctxL_nil
theorem towerPrime_calls (a0 a1 a2 a3 a4 a5 a6 a7 a8 a9 a10 a11 : Nat → Nat) (w : World) :
    Calls Try.prog 7 (([.v1 (v12 a0 a1 a2 a3 a4 a5 a6 a7 a8 a9 a10 a11)] : List AV).map (AV.val fun _ => 0)).toArray w (fun e w' => e = .returned (.bool true) ∧ StepW w w') := by
  refine pure_calls tt_ok Try.func7 (by kernel_rfl) (by kernel_rfl) (v := .v1 (.sc (.bo true))) (by kernel_rfl) ?_ w
  refine evS_q mixed tt_ok GPr_ok 100 [⟨1,7,.lit (.bo true)⟩] ?_
  refine same (p := qL (nL ((g12 a0 a1 a2 a3 a4 a5 a6 a7 a8 a9 a10 a11) ^ nv primeF)) (nL (S12.turns (mq 1) (g12 a0 a1 a2 a3 a4 a5 a6 a7 a8 a9 a10 a11))) = true ∧ endT) ?_ (by kernel_rfl)
  refine ⟨qn_of ?_, endT_ok⟩
  have h1 : mq 1 = 1 := by kernel_rfl
  rw [nv_prime, S12.frob, h1]
  rfl

theorem towerPrime_lifted (os : Os) (started : os.Started) (H : Type) (enc : TypeId × Value → H) :
    ReturnsInHanded {} Try.checked os 7 .any (Rows.towerPrimeSpec.pre6 enc Try.prog Try.f7 Rows.towerPrimeRow.domain false) (Rows.towerPrimeSpec.post enc Try.prog Try.f7 false true false false) := by
  refine returnsInHanded_of_change (C := Try.checked) Try.own started (by kernel_rfl) Try.func7
    (ChangeSpec.witness6 (enc := enc) (C := Try.checked) false ⟨#[], #[.agg #[.int .u64 0, .int .u64 0, .int .u64 0, .int .u64 0, .int .u64 0, .int .u64 0, .int .u64 0, .int .u64 0, .int .u64 0, .int .u64 0, .int .u64 0, .int .u64 0, .int .u64 0, .int .u64 0, .int .u64 0, .int .u64 0, .int .u64 0, .int .u64 0, .int .u64 0, .int .u64 0, .int .u64 0, .int .u64 0, .int .u64 0, .int .u64 0, .int .u64 0, .int .u64 0, .int .u64 0, .int .u64 0, .int .u64 0, .int .u64 0, .int .u64 0, .int .u64 0, .int .u64 0, .int .u64 0, .int .u64 0, .int .u64 0, .int .u64 0, .int .u64 0, .int .u64 0, .int .u64 0, .int .u64 0, .int .u64 0, .int .u64 0, .int .u64 0, .int .u64 0, .int .u64 0, .int .u64 0, .int .u64 0, .int .u64 0, .int .u64 0, .int .u64 0, .int .u64 0, .int .u64 0, .int .u64 0, .int .u64 0, .int .u64 0, .int .u64 0, .int .u64 0, .int .u64 0, .int .u64 0, .int .u64 0, .int .u64 0, .int .u64 0, .int .u64 0, .int .u64 0, .int .u64 0, .int .u64 0, .int .u64 0, .int .u64 0, .int .u64 0, .int .u64 0, .int .u64 0]], []⟩ 8 (by kernel_rfl) (by kernel_rfl) (by kernel_rfl) (by kernel_rfl)) ?_
  intro Wd base args ds gs before hval0 hW _ _
  have hval : ∀ (j : Nat) t v, Try.f7.params[j]? = some t → args[j]? = some v → Value.okWide Try.prog Wd .any base t v := hval0
  have hW' := hW
  obtain ⟨p, q, hA0, hV, rfl, _, _⟩ := hW
  have hA : DataW.TrodAll enc Try.prog Wd 0 (fun _ => true) true Try.f7.params.toList args.toList ds p := hA0
  rw [Try.params7] at hA hval
  obtain ⟨v0, d0, rfl, rfl, h0⟩ := trodAll_one hA
  obtain ⟨rfl, rfl⟩ := trodVars_none hV
  obtain ⟨x0a, x0b, x0c, x0d, x0e, x0f, x0g, x0h, x0i, x0j, x0k, x0l, rfl, rfl, t0⟩ := e12_open h0 (hval 0 39 v0 rfl rfl)
  clear hA0 hval0
  simp only [List.append_nil] at hW'
  refine (towerPrime_calls x0a x0b x0c x0d x0e x0f x0g x0h x0i x0j x0k x0l Wd).mono fun e W' ⟨he, hw⟩ => ?_
  subst he
  have hg := hw.grown
  exact ⟨_, rfl, post_of_same (pa := []) (pv := []) hW' (fun _ _ _ => trodAll_mk1 (shut_bool Try.underlying4 true)) (fun sp _ => trodAll_mk1 (t0 _ _ _ _)) (fun _ _ => rfl) rfl (hg.frame _) hg.2.1 (ok_one (by kernel_rfl) rfl (okWide_bool_mk Try.underlying4 true))⟩

theorem towerPrime_holds : Rows.TowerPrimeSaid :=
  OpenClaim.holds_of_wide 7 Try.f7 rfl rfl rfl rfl rfl rfl rfl ⟨rfl, rfl, rfl, rfl, rfl⟩ rfl rfl rfl rfl rfl (by kernel_rfl) Try.func7 (by kernel_rfl)
    (of_decide_eq_true (by kernel_rfl)) (by unfold Func.isWrapper; rw [if_neg (of_decide_eq_false (by kernel_rfl))]; exact ⟨rfl, rfl⟩)
    (fun os started H enc _ => towerPrime_lifted os started H enc)
end Go.Proofs.Ytkmfiefnaeikdaa
