/- reliquarylaw02.ModulusNone answers true at every input, and leaves it as it was. Conditions: none. -/
import Derived.Test.YtcmaecfpggmcoaaRows
import Derived.Test.YtcmaecfpggmcoaaM6
import Derived.Test.YtcmaecfpggmcoaaM8
import Derived.Test.YtcmaecfpggmcoaaWL
import Derived.ProofKit
import Derived.Carry
namespace Go.Proofs.Ytcmaecfpggmcoaa
open Go.Rq Go Go.ChangeShapes Go.WideShapes Go.ChangeAt Go.RowKit

def gNoL : List (Nat × CallC) := [(33, .pure cAwakeM), (16, .rd (CZ zN)), (17, .rd (CZ zReduce)), (19, .rd (CZ zWide)), (21, .rd (CZ zAdd)), (23, .rd (CZ zSub)), (25, .rd (CZ zNeg)), (27, .rd (CZ zMul)), (31, .rd (CZ zPow)), (29, .rd (CZ zInv)), (14, .rd (CZ zRoot))]
theorem gNo_ok : CtxOk Try.prog (ctxL gNoL) :=
  ctxL_cons okAwakeM <| ctxL_cons okZN <| ctxL_cons okZReduce <| ctxL_cons okZWide <| ctxL_cons okZAdd <| ctxL_cons okZSub <| ctxL_cons okZNeg <| ctxL_cons okZMul <| ctxL_cons okZPow <| ctxL_cons okZInv <| ctxL_cons okZRoot ctxL_nil

theorem modulusNone_calls (a b : Nat → Nat) (w : World) :
    Calls Try.prog 9 ([nm a, nm b].map (AV.val fun _ => 0)).toArray w (fun e w' => e = .returned (.bool true) ∧ StepW w w') := by
  refine pure_calls tt_ok Try.func9 (by kernel_rfl) (by kernel_rfl) (v := .v1 (.sc (.bo true))) (by kernel_rfl) ?_ w
  refine evS_q mixed tt_ok gNo_ok 100 [] ?_
  refine same (p := 0 % W = 0 ∧ 0 % W = 0 ∧ 0 % W = 0 ∧ 0 % W = 0 ∧ 0 % W = 0 ∧ 0 % W = 0 ∧ 0 % W = 0 ∧ 0 % W = 0 ∧ 0 % W = 0 ∧ 0 % W = 0 ∧
    ∃ v', some (AV.v1 (.sc (.bo true))) = some v' ∧ ∀ ρ, v'.val ρ = (AV.v1 (.sc (.bo true))).val ρ) ?_ (by kernel_rfl)
  exact ⟨rfl, rfl, rfl, rfl, rfl, rfl, rfl, rfl, rfl, rfl, _, rfl, fun _ => rfl⟩

theorem modulusNone_lifted (os : Os) (started : os.Started) (H : Type) (enc : TypeId × Value → H) :
    ReturnsInHanded {} Try.checked os 9 .any (Rows.modulusNoneSpec.pre6 enc Try.prog Try.f9 Rows.modulusNoneRow.domain false) (Rows.modulusNoneSpec.post enc Try.prog Try.f9 false true false false) := by
  refine returnsInHanded_of_change (C := Try.checked) Try.own started (by kernel_rfl) Try.func9
    (ChangeSpec.witness6 (enc := enc) (C := Try.checked) false ⟨#[], #[.agg #[.int .u64 0, .int .u64 0, .int .u64 0, .int .u64 0, .int .u64 0, .int .u64 0], .agg #[.int .u64 0, .int .u64 0, .int .u64 0, .int .u64 0, .int .u64 0, .int .u64 0]], []⟩ 8 (by kernel_rfl) (by kernel_rfl) (by kernel_rfl) (by kernel_rfl)) ?_
  intro Wd base args ds gs before hval0 hW _ _
  have hval : ∀ (j : Nat) t v, Try.f9.params[j]? = some t → args[j]? = some v → Value.okWide Try.prog Wd .any base t v := hval0
  have hW' := hW
  obtain ⟨p, q, hA0, hV, rfl, _, _⟩ := hW
  have hA : DataW.TrodAll enc Try.prog Wd 0 (fun _ => true) true Try.f9.params.toList args.toList ds p := hA0
  rw [Try.params9] at hA hval
  obtain ⟨v0, v1, d0, d1, p0, p1, rfl, rfl, rfl, h0, h1⟩ := trodAll_two hA
  obtain ⟨rfl, rfl⟩ := trodVars_none hV
  obtain ⟨x0, rfl, rfl, t0⟩ := num_open h0 (hval 0 24 v0 rfl rfl)
  obtain ⟨x1, rfl, rfl, t1⟩ := num_open h1 (hval 1 24 v1 rfl rfl)
  clear hA0 hval0
  simp only [List.append_nil] at hW'
  refine (modulusNone_calls x0 x1 Wd).mono fun e W' ⟨he, hw⟩ => ?_
  subst he
  have hg := hw.grown
  exact ⟨_, rfl, post_of_same (pa := []) (pv := []) hW' (fun _ _ _ => trodAll_mk1 (shut_bool Try.underlying4 true)) (fun sp _ => trodAll_mk2 (t0 _ _ _ _) (t1 _ _ _ _)) (fun _ _ => rfl) rfl (hg.frame _) hg.2.1 (ok_one (by kernel_rfl) rfl (okWide_bool_mk Try.underlying4 true))⟩

theorem modulusNone_holds : Rows.ModulusNoneSaid :=
  OpenClaim.holds_of_wide 9 Try.f9 rfl rfl rfl rfl rfl rfl rfl ⟨rfl, rfl, rfl, rfl, rfl⟩ rfl rfl rfl rfl rfl (by kernel_rfl) Try.func9 (by kernel_rfl)
    (of_decide_eq_true (by kernel_rfl)) (by unfold Func.isWrapper; rw [if_neg (of_decide_eq_false (by kernel_rfl))]; exact ⟨rfl, rfl⟩)
    (fun os started H enc _ => modulusNone_lifted os started H enc)
end Go.Proofs.Ytcmaecfpggmcoaa
