/- reliquarylaw02.ModulusRoots answers true at every input, and leaves it as it was. Conditions: none. -/
import Derived.Test.YtcmaecfpggmcoaaRows
import Derived.Test.YtcmaecfpggmcoaaM10
import Derived.Test.YtcmaecfpggmcoaaWL
import Derived.ProofKit
import Derived.Carry
namespace Go.Proofs.Ytcmaecfpggmcoaa
open Go.Rq Go Go.ChangeShapes Go.WideShapes Go.ChangeAt Go.RowKit

def gRoL : List (Nat × CallC) := [(11, .pure cLen), (12, .pure cMay), (13, .mem cNew), (14, .rd (CM fRoot)), (15, .pure (two2e rootV rootE))]
theorem gRo_ok : CtxOk Try.prog (ctxL gRoL) := ctxL_cons okLen' <| ctxL_cons okMay <| ctxL_cons okNew <| ctxL_cons okRoot <| ctxL_cons okRoot' ctxL_nil
abbrev endT : Prop := ∃ v', some (AV.v1 (.sc (.bo true))) = some v' ∧ ∀ ρ, v'.val ρ = (AV.v1 (.sc (.bo true))).val ρ
theorem endT_ok : endT := ⟨_, rfl, fun _ => rfl⟩

theorem modulusRoots_calls (n a : Nat → Nat) (w : World) :
    Calls Try.prog 3 ([nm n, nm a].map (AV.val fun _ => 0)).toArray w (fun e w' => e = .returned (.bool true) ∧ StepW w w') := by
  refine pure_calls tt_ok Try.func3 (by kernel_rfl) (by kernel_rfl) (v := .v1 (.sc (.bo true))) (by kernel_rfl) ?_ w
  cases h1 : Nat.blt 130 (blen (nv n))
  · have hl : ilt 130 (Int.ofNat (blen (nv n))) = false := by show ilt (Int.ofNat 130) _ = false; rw [ilt_n, h1]
    cases h2 : mayB (nv n)
    · refine evS_q mixed tt_ok gRo_ok 100 [⟨1,2,.lit (.bo false)⟩,⟨1,6,.lit (.bo true)⟩] ?_
      exact same (p := ilt 130 (Int.ofNat (blen (nv n))) = false ∧ (!mayB (nv n)) = true ∧ endT) ⟨hl, by rw [h2]; rfl, endT_ok⟩ (by kernel_rfl)
    · have hMay : MayM (nv n) := (mayB_iff _).1 h2
      have hM : ModI n (newL n) (wd (R * R % nv n)) := may_ok hMay (by rw [nv_rem hMay])
      refine evS_q mixed tt_ok gRo_ok 100 [⟨1,2,.lit (.bo false)⟩,⟨1,6,.lit (.bo false)⟩,⟨8,2,.lit (.bo true)⟩,⟨8,6,.lit (.bo true)⟩] ?_
      refine same (p := ilt 130 (Int.ofNat (blen (nv n))) = false ∧ (!mayB (nv n)) = false ∧ MayM (nv n) ∧ ModI n (newL n) (wd (R * R % nv n)) ∧ MayM (nv n) ∧
        (eqN W 6 (wd (rootV (nv n) (nv a))) (wd (rootV (nv n) (nv a))) && true) = true ∧ ieq (rootE (nv n) (nv a)) (rootE (nv n) (nv a)) = true ∧ endT) ?_ (by kernel_rfl)
      exact ⟨hl, by rw [h2]; rfl, hMay, hM, hMay, eqW_self _, ieq_self _, endT_ok⟩
  · have hl : ilt 130 (Int.ofNat (blen (nv n))) = true := by show ilt (Int.ofNat 130) _ = true; rw [ilt_n, h1]
    refine evS_q mixed tt_ok gRo_ok 100 [⟨1,2,.lit (.bo true)⟩] ?_
    exact same (p := ilt 130 (Int.ofNat (blen (nv n))) = true ∧ endT) ⟨hl, endT_ok⟩ (by kernel_rfl)

theorem modulusRoots_lifted (os : Os) (started : os.Started) (H : Type) (enc : TypeId × Value → H) :
    ReturnsInHanded {} Try.checked os 3 .any (Rows.modulusRootsSpec.pre6 enc Try.prog Try.f3 Rows.modulusRootsRow.domain false) (Rows.modulusRootsSpec.post enc Try.prog Try.f3 false true false false) := by
  refine returnsInHanded_of_change (C := Try.checked) Try.own started (by kernel_rfl) Try.func3
    (ChangeSpec.witness6 (enc := enc) (C := Try.checked) false ⟨#[], #[.agg #[.int .u64 0, .int .u64 0, .int .u64 0, .int .u64 0, .int .u64 0, .int .u64 0], .agg #[.int .u64 0, .int .u64 0, .int .u64 0, .int .u64 0, .int .u64 0, .int .u64 0]], []⟩ 8 (by kernel_rfl) (by kernel_rfl) (by kernel_rfl) (by kernel_rfl)) ?_
  intro Wd base args ds gs before hval0 hW _ _
  have hval : ∀ (j : Nat) t v, Try.f3.params[j]? = some t → args[j]? = some v → Value.okWide Try.prog Wd .any base t v := hval0
  have hW' := hW
  obtain ⟨p, q, hA0, hV, rfl, _, _⟩ := hW
  have hA : DataW.TrodAll enc Try.prog Wd 0 (fun _ => true) true Try.f3.params.toList args.toList ds p := hA0
  rw [Try.params3] at hA hval
  obtain ⟨v0, v1, d0, d1, p0, p1, rfl, rfl, rfl, h0, h1⟩ := trodAll_two hA
  obtain ⟨rfl, rfl⟩ := trodVars_none hV
  obtain ⟨x0, rfl, rfl, t0⟩ := num_open h0 (hval 0 24 v0 rfl rfl)
  obtain ⟨x1, rfl, rfl, t1⟩ := num_open h1 (hval 1 24 v1 rfl rfl)
  clear hA0 hval0
  simp only [List.append_nil] at hW'
  refine (modulusRoots_calls x0 x1 Wd).mono fun e W' ⟨he, hw⟩ => ?_
  subst he
  have hg := hw.grown
  exact ⟨_, rfl, post_of_same (pa := []) (pv := []) hW' (fun _ _ _ => trodAll_mk1 (shut_bool Try.underlying4 true)) (fun sp _ => trodAll_mk2 (t0 _ _ _ _) (t1 _ _ _ _)) (fun _ _ => rfl) rfl (hg.frame _) hg.2.1 (ok_one (by kernel_rfl) rfl (okWide_bool_mk Try.underlying4 true))⟩

theorem modulusRoots_holds : Rows.ModulusRootsSaid :=
  OpenClaim.holds_of_wide 3 Try.f3 rfl rfl rfl rfl rfl rfl rfl ⟨rfl, rfl, rfl, rfl, rfl⟩ rfl rfl rfl rfl rfl (by kernel_rfl) Try.func3 (by kernel_rfl)
    (of_decide_eq_true (by kernel_rfl)) (by unfold Func.isWrapper; rw [if_neg (of_decide_eq_false (by kernel_rfl))]; exact ⟨rfl, rfl⟩)
    (fun os started H enc _ => modulusRoots_lifted os started H enc)
end Go.Proofs.Ytcmaecfpggmcoaa
