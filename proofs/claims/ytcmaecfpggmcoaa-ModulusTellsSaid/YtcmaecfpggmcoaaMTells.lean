/- reliquarylaw02.ModulusTells answers true at every input, and leaves it as it was. Conditions: none. -/
import Derived.Test.YtcmaecfpggmcoaaRows
import Derived.Test.YtcmaecfpggmcoaaM10
import Derived.Test.YtcmaecfpggmcoaaWL
import Derived.ProofKit
import Derived.Carry
namespace Go.Proofs.Ytcmaecfpggmcoaa
open Go.Rq Go Go.ChangeShapes Go.WideShapes Go.ChangeAt Go.RowKit

def gTeL (x : CallC) : List (Nat × CallC) := [(13, x), (12, .pure cMay), (16, .rd (CM fN)),
  (17, .rd (CM fRed)), (18, .pure (two2 remN)), (19, .rd (CM fWide)), (20, .pure (two3 wideN)),
  (21, .rd (CM fAdd)), (22, .pure (two3 addN')), (23, .rd (CM fSub)), (24, .pure (two3 subM)),
  (25, .rd (CM fNeg)), (26, .pure (two2 negN)), (27, .rd (CM fMul)), (28, .pure (two3 mulN')),
  (29, .rd (CM fInv)), (30, .pure (two2e invV invE)), (31, .rd (CM fPow)), (32, .pure (two3 powM))]
theorem gTe_ok {x : CallC} (h : x.Ok Try.prog 13) : CtxOk Try.prog (ctxL (gTeL x)) := ctxL_cons h <| ctxL_cons okMay <| ctxL_cons okN <|
  ctxL_cons okRed <| ctxL_cons okRed' <| ctxL_cons okWide <| ctxL_cons okWide' <| ctxL_cons okMAdd <| ctxL_cons okMAdd' <| ctxL_cons okMSub <| ctxL_cons okMSub' <|
  ctxL_cons okMNeg <| ctxL_cons okMNeg' <| ctxL_cons okMMul <| ctxL_cons okMMul' <| ctxL_cons okInv <| ctxL_cons okInv' <| ctxL_cons okPow <| ctxL_cons okPow' ctxL_nil
abbrev endT : Prop := ∃ v', some (AV.v1 (.sc (.bo true))) = some v' ∧ ∀ ρ, v'.val ρ = (AV.v1 (.sc (.bo true))).val ρ
theorem endT_ok : endT := ⟨_, rfl, fun _ => rfl⟩
abbrev smB (b : Nat → Nat) : Nat → Nat := upd (fun _ => 0) 0 (b 0 &&& 1099511627775)

theorem modulusTells_calls (n a b : Nat → Nat) (w : World) :
    Calls Try.prog 4 ([nm n, nm a, nm b].map (AV.val fun _ => 0)).toArray w (fun e w' => e = .returned (.bool true) ∧ StepW w w') := by
  refine pure_calls tt_ok Try.func4 (by kernel_rfl) (by kernel_rfl) (v := .v1 (.sc (.bo true))) (by kernel_rfl) ?_ w
  cases h2 : mayB (nv n)
  · have hMay : ¬ MayM (nv n) := fun h => by rw [(mayB_iff _).2 h] at h2; cases h2
    refine evS_q mixed tt_ok (gTe_ok (x := .pure cNewNo) okNewNo) 100 [⟨2,2,.lit (.bo true)⟩] ?_
    exact same (p := ¬ MayM (nv n) ∧ (!mayB (nv n)) = true ∧ endT) ⟨hMay, by rw [h2]; rfl, endT_ok⟩ (by kernel_rfl)
  · have hMay : MayM (nv n) := (mayB_iff _).1 h2
    have hM : ModI n (newL n) (wd (R * R % nv n)) := may_ok hMay (by rw [nv_rem hMay])
    refine evS_q mixed tt_ok (gTe_ok (x := .mem cNew) okNew) 200 [⟨2,2,.lit (.bo false)⟩,⟨4,10,.lit (.bo false)⟩,⟨6,6,.lit (.bo true)⟩,⟨6,16,.lit (.bo true)⟩,⟨6,27,.lit (.bo true)⟩,⟨6,38,.lit (.bo true)⟩,⟨6,47,.lit (.bo true)⟩,⟨6,58,.lit (.bo true)⟩,⟨10,10,.lit (.bo true)⟩,⟨10,15,.lit (.bo true)⟩,⟨10,20,.lit (.bo true)⟩] ?_
    refine same (p := MayM (nv n) ∧ (!mayB (nv n)) = false ∧ ModI n (newL n) (wd (R * R % nv n)) ∧ (!(eqN W 6 n n && true)) = false ∧
      ModI n (newL n) (wd (R * R % nv n)) ∧ MayM (nv n) ∧ (eqN W 6 (wd (nv a % nv n)) (wd (remN (nv n) (nv a))) && true) = true ∧
      ModI n (newL n) (wd (R * R % nv n)) ∧ MayM (nv n) ∧ (eqN W 6 (wd ((nv a + nv b * R) % nv n)) (wd (wideN (nv n) (nv a) (nv b))) && true) = true ∧
      ModI n (newL n) (wd (R * R % nv n)) ∧ MayM (nv n) ∧ (eqN W 6 (wd ((nv a + nv b) % nv n)) (wd (addN' (nv n) (nv a) (nv b))) && true) = true ∧
      ModI n (newL n) (wd (R * R % nv n)) ∧ MayM (nv n) ∧ (eqN W 6 (wd (subM (nv n) (nv a) (nv b))) (wd (subM (nv n) (nv a) (nv b))) && true) = true ∧
      ModI n (newL n) (wd (R * R % nv n)) ∧ MayM (nv n) ∧ (eqN W 6 (wd (subM (nv n) 0 (nv a))) (wd (negN (nv n) (nv a))) && true) = true ∧
      ModI n (newL n) (wd (R * R % nv n)) ∧ MayM (nv n) ∧ (eqN W 6 (wd (nv a * nv b % nv n)) (wd (mulN' (nv n) (nv a) (nv b))) && true) = true ∧
      ModI n (newL n) (wd (R * R % nv n)) ∧ MayM (nv n) ∧
      ModI n (newL n) (wd (R * R % nv n)) ∧ MayM (nv n) ∧ (eqN W 6 (wd (powM (nv n) (nv a) (nv (smB b)))) (wd (powM (nv n) (nv a) (nv (smB b)))) && true) = true ∧
      (eqN W 6 (wd (invV (nv n) (nv a))) (wd (invV (nv n) (nv a))) && true) = true ∧ ieq (invE (nv n) (nv a)) (invE (nv n) (nv a)) = true ∧ endT) ?_ (by kernel_rfl)
    exact ⟨hMay, by rw [h2]; rfl, hM, by rw [eqW_self]; rfl, hM, hMay, eqW_self _, hM, hMay, eqW_self _, hM, hMay, eqW_self _, hM, hMay, eqW_self _, hM, hMay, eqW_self _, hM, hMay, eqW_self _,
      hM, hMay, hM, hMay, eqW_self _, eqW_self _, ieq_self _, endT_ok⟩

theorem modulusTells_lifted (os : Os) (started : os.Started) (H : Type) (enc : TypeId × Value → H) :
    ReturnsInHanded {} Try.checked os 4 .any (Rows.modulusTellsSpec.pre6 enc Try.prog Try.f4 Rows.modulusTellsRow.domain false) (Rows.modulusTellsSpec.post enc Try.prog Try.f4 false true false false) := by
  refine returnsInHanded_of_change (C := Try.checked) Try.own started (by kernel_rfl) Try.func4
    (ChangeSpec.witness6 (enc := enc) (C := Try.checked) false ⟨#[], #[.agg #[.int .u64 0, .int .u64 0, .int .u64 0, .int .u64 0, .int .u64 0, .int .u64 0], .agg #[.int .u64 0, .int .u64 0, .int .u64 0, .int .u64 0, .int .u64 0, .int .u64 0], .agg #[.int .u64 0, .int .u64 0, .int .u64 0, .int .u64 0, .int .u64 0, .int .u64 0]], []⟩ 8 (by kernel_rfl) (by kernel_rfl) (by kernel_rfl) (by kernel_rfl)) ?_
  intro Wd base args ds gs before hval0 hW _ _
  have hval : ∀ (j : Nat) t v, Try.f4.params[j]? = some t → args[j]? = some v → Value.okWide Try.prog Wd .any base t v := hval0
  have hW' := hW
  obtain ⟨p, q, hA0, hV, rfl, _, _⟩ := hW
  have hA : DataW.TrodAll enc Try.prog Wd 0 (fun _ => true) true Try.f4.params.toList args.toList ds p := hA0
  rw [Try.params4] at hA hval
  obtain ⟨v0, v1, v2, d0, d1, d2, p0, p1, p2, rfl, rfl, rfl, h0, h1, h2⟩ := trodAll_three hA
  obtain ⟨rfl, rfl⟩ := trodVars_none hV
  obtain ⟨x0, rfl, rfl, t0⟩ := num_open h0 (hval 0 24 v0 rfl rfl)
  obtain ⟨x1, rfl, rfl, t1⟩ := num_open h1 (hval 1 24 v1 rfl rfl)
  obtain ⟨x2, rfl, rfl, t2⟩ := num_open h2 (hval 2 24 v2 rfl rfl)
  clear hA0 hval0
  simp only [List.append_nil] at hW'
  refine (modulusTells_calls x0 x1 x2 Wd).mono fun e W' ⟨he, hw⟩ => ?_
  subst he
  have hg := hw.grown
  exact ⟨_, rfl, post_of_same (pa := []) (pv := []) hW' (fun _ _ _ => trodAll_mk1 (shut_bool Try.underlying4 true)) (fun sp _ => trodAll_mk3 (t0 _ _ _ _) (t1 _ _ _ _) (t2 _ _ _ _)) (fun _ _ => rfl) rfl (hg.frame _) hg.2.1 (ok_one (by kernel_rfl) rfl (okWide_bool_mk Try.underlying4 true))⟩

theorem modulusTells_holds : Rows.ModulusTellsSaid :=
  OpenClaim.holds_of_wide 4 Try.f4 rfl rfl rfl rfl rfl rfl rfl ⟨rfl, rfl, rfl, rfl, rfl⟩ rfl rfl rfl rfl rfl (by kernel_rfl) Try.func4 (by kernel_rfl)
    (of_decide_eq_true (by kernel_rfl)) (by unfold Func.isWrapper; rw [if_neg (of_decide_eq_false (by kernel_rfl))]; exact ⟨rfl, rfl⟩)
    (fun os started H enc _ => modulusTells_lifted os started H enc)
end Go.Proofs.Ytcmaecfpggmcoaa
