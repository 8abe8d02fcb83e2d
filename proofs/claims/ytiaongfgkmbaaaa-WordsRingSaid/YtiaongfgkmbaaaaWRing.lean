/- reliquarylaw01.WordsRing answers true at every input, and leaves it as it was. Conditions: none. -/
import Derived.Test.YtiaongfgkmbaaaaRows
import Derived.Test.YtiaongfgkmbaaaaW10
import Derived.Test.YtiaongfgkmbaaaaWL
import Derived.ProofKit
namespace Go.Proofs.Ytiaongfgkmbaaaa
open Go.Rq Go Go.ChangeShapes Go.WideShapes Go.ChangeAt Go.RowKit

def GR : Ctx := ctxL [(40, .pure cAwake), (22, .pure cAdd), (28, .pure cMul)]
theorem GR_ok : CtxOk Try.prog GR := ctxL_cons okAwake <| ctxL_cons okAdd <| ctxL_cons okMul ctxL_nil
theorem eqW_of {x y : Nat} (h : x = y) : (eqN W 6 (wd x) (wd y) && true) = true := by subst h; exact eqW_self _
theorem wordsRing_calls (a b c : Nat → Nat) (w : World) :
    Calls Try.prog 8 ([.v1 (.agg [.ws .u64 6 a]), .v1 (.agg [.ws .u64 6 b]), .v1 (.agg [.ws .u64 6 c])].map (AV.val fun _ => 0)).toArray w (fun e w' => e = .returned (.bool true) ∧ StepW w w') := by
  refine pure_calls tt_ok Try.func8 (by kernel_rfl) (by kernel_rfl) (v := .v1 (.sc (.bo true))) (by kernel_rfl) ?_ w
  refine evS_q mixed tt_ok GR_ok 100 [⟨10,4,.lit (.bo true)⟩,⟨10,9,.lit (.bo true)⟩,⟨10,14,.lit (.bo true)⟩,⟨10,19,.lit (.bo true)⟩] ?_
  refine same (p :=
    (eqN W 6 (wd ((nv a + nv b) % R)) (wd ((nv b + nv a) % R)) && true) = true ∧
    (eqN W 6 (wd (nv a * nv b % R)) (wd (nv b * nv a % R)) && true) = true ∧
    (eqN W 6 (wd (nv a * nv b / R)) (wd (nv b * nv a / R)) && true) = true ∧
    (eqN W 6 (wd ((nv (wd (nv a * nv c % R)) + nv (wd (nv b * nv c % R))) % R)) (wd (nv (wd ((nv a + nv b) % R)) * nv c % R)) && true) = true ∧
    ∃ v', some (AV.v1 (.sc (.bo true))) = some v' ∧ ∀ ρ, v'.val ρ = (AV.v1 (.sc (.bo true))).val ρ) ?_ (by kernel_rfl)
  refine ⟨eqW_of (by rw [Nat.add_comm]), eqW_of (by rw [Nat.mul_comm]), eqW_of (by rw [Nat.mul_comm]), eqW_of ?_, _, rfl, fun _ => rfl⟩
  simp only [nv_wd, Nat.mod_mod]
  rw [← Nat.add_mod, ← Nat.add_mul, Nat.mod_mul_mod]

theorem wordsRing_lifted (os : Os) (started : os.Started) (H : Type) (enc : TypeId × Value → H) :
    ReturnsInHanded {} Try.checked os 8 .any (Rows.wordsRingSpec.pre6 enc Try.prog Try.f8 Rows.wordsRingRow.domain false) (Rows.wordsRingSpec.post enc Try.prog Try.f8 false true false false) := by
  refine returnsInHanded_of_change (C := Try.checked) Try.own started (by kernel_rfl) Try.func8
    (ChangeSpec.witness6 (enc := enc) (C := Try.checked) false ⟨#[], #[.agg #[.int .u64 0, .int .u64 0, .int .u64 0, .int .u64 0, .int .u64 0, .int .u64 0], .agg #[.int .u64 0, .int .u64 0, .int .u64 0, .int .u64 0, .int .u64 0, .int .u64 0], .agg #[.int .u64 0, .int .u64 0, .int .u64 0, .int .u64 0, .int .u64 0, .int .u64 0]], []⟩ 8 (by kernel_rfl) (by kernel_rfl) (by kernel_rfl) (by kernel_rfl)) ?_
  intro Wd base args ds gs before hval0 hW _ _
  have hval : ∀ (j : Nat) t v, Try.f8.params[j]? = some t → args[j]? = some v → Value.okWide Try.prog Wd .any base t v := hval0
  have hW' := hW
  obtain ⟨p, q, hA0, hV, rfl, _, _⟩ := hW
  have hA : DataW.TrodAll enc Try.prog Wd 0 (fun _ => true) true Try.f8.params.toList args.toList ds p := hA0
  rw [Try.params8] at hA hval
  obtain ⟨v0, v1, v2, d0, d1, d2, p0, p1, p2, rfl, rfl, rfl, h0, h1, h2⟩ := trodAll_three hA
  obtain ⟨rfl, rfl⟩ := trodVars_none hV
  obtain ⟨x0, rfl, rfl, t0⟩ := num_open h0 (hval 0 24 v0 rfl rfl)
  obtain ⟨x1, rfl, rfl, t1⟩ := num_open h1 (hval 1 24 v1 rfl rfl)
  obtain ⟨x2, rfl, rfl, t2⟩ := num_open h2 (hval 2 24 v2 rfl rfl)
  clear hA0 hval0
  simp only [List.append_nil] at hW'
  refine (wordsRing_calls x0 x1 x2 Wd).mono fun e W' ⟨he, hw⟩ => ?_
  subst he
  have hg := hw.grown
  exact ⟨_, rfl, post_of_same (pa := []) (pv := []) hW' (fun _ _ _ => trodAll_mk1 (shut_bool Try.underlying4 true)) (fun sp _ => trodAll_mk3 (t0 _ _ _ _) (t1 _ _ _ _) (t2 _ _ _ _)) (fun _ _ => rfl) rfl (hg.frame _) hg.2.1 (ok_one (by kernel_rfl) rfl (okWide_bool_mk Try.underlying4 true))⟩

theorem wordsRing_holds : Rows.WordsRingSaid :=
  OpenClaim.holds_of_wide 8 Try.f8 rfl rfl rfl rfl rfl rfl rfl ⟨rfl, rfl, rfl, rfl, rfl⟩ rfl rfl rfl rfl rfl (by kernel_rfl) Try.func8 (by kernel_rfl)
    (of_decide_eq_true (by kernel_rfl)) (by unfold Func.isWrapper; rw [if_neg (of_decide_eq_false (by kernel_rfl))]; exact ⟨rfl, rfl⟩)
    (fun os started H enc _ => wordsRing_lifted os started H enc)
end Go.Proofs.Ytiaongfgkmbaaaa
