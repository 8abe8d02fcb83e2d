/- reliquarylaw02.ModulusRing answers true at every input, and leaves it as it was. Conditions: none. Printed by genring.py. -/
import Derived.Test.YtcmaecfpggmcoaaRows
import Derived.Test.YtcmaecfpggmcoaaM6
import Derived.Test.YtcmaecfpggmcoaaWL
import Derived.ProofKit
import Derived.Carry
namespace Go.Proofs.Ytcmaecfpggmcoaa
open Go.Rq Go Go.ChangeShapes Go.WideShapes Go.ChangeAt Go.RowKit

def gRingL (x : Nat × CallC) : List (Nat × CallC) := [(33, .pure cAwakeM), x, (27, .rd (CM fMul)), (21, .rd (CM fAdd)), (23, .rd (CM fSub)), (25, .rd (CM fNeg)), (17, .rd (CM fRed)), (19, .rd (CM fWide)), (34, .pure cOf), (37, .pure cMul), (35, .pure cCmp)]
theorem gRing_ok {x : Nat × CallC} (h : x.2.Ok Try.prog x.1) : CtxOk Try.prog (ctxL (gRingL x)) :=
  ctxL_cons okAwakeM <| ctxL_cons h <| ctxL_cons okMMul <| ctxL_cons okMAdd <| ctxL_cons okMSub <| ctxL_cons okMNeg <| ctxL_cons okRed <| ctxL_cons okWide <| ctxL_cons okOf <| ctxL_cons okMul <| ctxL_cons okCmp ctxL_nil
theorem eqW_of {x y : Nat} (h : x = y) : (eqN W 6 (wd x) (wd y) && true) = true := by subst h; exact eqW_self _
theorem subM_neg (N a b : Nat) : subM N a b = (a + subM N 0 b) % N := by
  unfold subM
  rw [Nat.zero_mod, Nat.zero_add, Nat.add_mod a, Nat.mod_mod]
  rw [Nat.add_mod (a % N), Nat.mod_mod]

theorem modulusRing_calls (n a b c : Nat → Nat) (w : World) :
    Calls Try.prog 7 ([nm n, nm a, nm b, nm c].map (AV.val fun _ => 0)).toArray w (fun e w' => e = .returned (.bool true) ∧ StepW w w') := by
  refine pure_calls tt_ok Try.func7 (by kernel_rfl) (by kernel_rfl) (v := .v1 (.sc (.bo true))) (by kernel_rfl) ?_ w
  by_cases hMay : MayM (nv n)
  · have h3 : 0 < nv n := by have := hMay.2.2; omega
    have hM : ModI n (newL n) (wd (R * R % nv n)) := may_ok hMay (by rw [nv_wd, Nat.mod_eq_of_lt (Nat.lt_trans (Nat.mod_lt _ h3) (nv_lt n))])
    refine evS_q mixed tt_ok (gRing_ok (x := (13, .mem cNew)) okNew) 100 [⟨7,2,.lit (.bo true)⟩,⟨7,9,.lit (.bo true)⟩,⟨7,23,.lit (.bo true)⟩,⟨7,37,.lit (.bo true)⟩,⟨7,54,.lit (.bo true)⟩,⟨8,7,.lit (.bo true)⟩,⟨8,19,.lit (.bo true)⟩,⟨8,29,.lit (.bo true)⟩,⟨10,13,.lit (.bo true)⟩,⟨10,19,.lit (.bo true)⟩,⟨10,25,.lit (.bo true)⟩] ?_
    have nvm : ∀ x, nv (wd (x % nv n)) = x % nv n := nv_modN hM
    have nvs : ∀ x y, nv (wd (subM (nv n) x y)) = subM (nv n) x y := fun x y => by rw [nv_wd, Nat.mod_eq_of_lt (Nat.lt_trans (subM_lt h3) (nv_lt n))]
    have r3 : nv (wd (nv a * nv b % nv n)) * nv c % nv n = nv a * nv (wd (nv b * nv c % nv n)) % nv n := by rw [nvm, nvm, cg _ (Nat.mod_mod _ _), cg' _ (Nat.mod_mod _ _), Nat.mul_assoc]
    have r4 : (nv (wd ((nv a + nv b) % nv n)) + nv c) % nv n = (nv a + nv (wd ((nv b + nv c) % nv n))) % nv n := by rw [nvm, nvm, Nat.mod_add_mod, Nat.add_mod_mod, Nat.add_assoc]
    have r5 : nv (wd ((nv a + nv b) % nv n)) * nv c % nv n = (nv (wd (nv a * nv c % nv n)) + nv (wd (nv b * nv c % nv n))) % nv n := by rw [nvm, nvm, nvm, cg _ (Nat.mod_mod _ _), ← Nat.add_mod, Nat.add_mul]
    have r6 : nv (wd ((nv a + nv (wd (subM (nv n) 0 (nv a)))) % nv n)) = nv (fun _ => 0) := by
      rw [nvm, nvs, zero_nv, Nat.add_comm, subM_add h3, Nat.zero_mod]
    have r7 : subM (nv n) (nv a) (nv b) = (nv a + nv (wd (subM (nv n) 0 (nv b)))) % nv n := by rw [nvs]; exact subM_neg _ _ _
    have r8 : (nv (wd (nv a * nv b % R)) + nv (wd (nv a * nv b / R)) * R) % nv n = nv a * nv b % nv n := by
      have h4 : nv a * nv b / R < R := by
        rw [Nat.div_lt_iff_lt_mul (by decide)]
        exact Nat.mul_lt_mul'' (nv_lt a) (nv_lt b)
      rw [nv_wd, nv_wd, Nat.mod_mod, Nat.mod_eq_of_lt h4, Nat.mul_comm _ R, Nat.mod_add_div]
    have r9 : ilt (cmpI (nv (wd (nv a * nv b % nv n))) (nv n)) 0 = true := by rw [cmp_lt', nvm, Nat.blt_eq]; exact Nat.mod_lt _ h3
    have r10 : ilt (cmpI (nv (wd ((nv a + nv b) % nv n))) (nv n)) 0 = true := by rw [cmp_lt', nvm, Nat.blt_eq]; exact Nat.mod_lt _ h3
    refine same (p := MayM (nv n) ∧ ModI n (newL n) (wd (R * R % nv n)) ∧ ModI n (newL n) (wd (R * R % nv n)) ∧ ModI n (newL n) (wd (R * R % nv n)) ∧ (eqN W 6 (wd (nv a * nv b % nv n)) (wd (nv b * nv a % nv n)) && true) = true ∧ ModI n (newL n) (wd (R * R % nv n)) ∧ (eqN W 6 (wd ((nv a + nv b) % nv n)) (wd ((nv b + nv a) % nv n)) && true) = true ∧ ModI n (newL n) (wd (R * R % nv n)) ∧ ModI n (newL n) (wd (R * R % nv n)) ∧ ModI n (newL n) (wd (R * R % nv n)) ∧ (eqN W 6 (wd (nv (wd (nv a * nv b % nv n)) * nv c % nv n)) (wd (nv a * nv (wd (nv b * nv c % nv n)) % nv n)) && true) = true ∧ ModI n (newL n) (wd (R * R % nv n)) ∧ ModI n (newL n) (wd (R * R % nv n)) ∧ ModI n (newL n) (wd (R * R % nv n)) ∧ (eqN W 6 (wd ((nv (wd ((nv a + nv b) % nv n)) + nv c) % nv n)) (wd ((nv a + nv (wd ((nv b + nv c) % nv n))) % nv n)) && true) = true ∧ ModI n (newL n) (wd (R * R % nv n)) ∧ ModI n (newL n) (wd (R * R % nv n)) ∧ ModI n (newL n) (wd (R * R % nv n)) ∧ ModI n (newL n) (wd (R * R % nv n)) ∧ (eqN W 6 (wd (nv (wd ((nv a + nv b) % nv n)) * nv c % nv n)) (wd ((nv (wd (nv a * nv c % nv n)) + nv (wd (nv b * nv c % nv n))) % nv n)) && true) = true ∧ ModI n (newL n) (wd (R * R % nv n)) ∧ ModI n (newL n) (wd (R * R % nv n)) ∧ (eqN W 6 (wd ((nv a + nv (wd (subM (nv n) 0 (nv a)))) % nv n)) (fun _ => 0) && true) = true ∧ ModI n (newL n) (wd (R * R % nv n)) ∧ ModI n (newL n) (wd (R * R % nv n)) ∧ ModI n (newL n) (wd (R * R % nv n)) ∧ (eqN W 6 (wd (subM (nv n) (nv a) (nv b))) (wd ((nv a + nv (wd (subM (nv n) 0 (nv b)))) % nv n)) && true) = true ∧ ModI n (newL n) (wd (R * R % nv n)) ∧ ModI n (newL n) (wd (R * R % nv n)) ∧ (eqN W 6 (wd (nv a * nv (wd (1 % W)) % nv n)) (wd (nv a % nv n)) && true) = true ∧ ModI n (newL n) (wd (R * R % nv n)) ∧ (eqN W 6 (wd ((nv (wd (nv a * nv b % R)) + nv (wd (nv a * nv b / R)) * R) % nv n)) (wd (nv a * nv b % nv n)) && true) = true ∧ ilt (cmpI (nv (wd (nv a * nv b % nv n))) (nv n)) 0 = true ∧ ilt (cmpI (nv (wd ((nv a + nv b) % nv n))) (nv n)) 0 = true ∧ ∃ v', some (AV.v1 (.sc (.bo true))) = some v' ∧ ∀ ρ, v'.val ρ = (AV.v1 (.sc (.bo true))).val ρ) ?_ (by kernel_rfl)
    exact ⟨hMay, ⟨hM, ⟨hM, ⟨hM, ⟨eqW_of (by rw [Nat.mul_comm]), ⟨hM, ⟨eqW_of (by rw [Nat.add_comm]), ⟨hM, ⟨hM, ⟨hM, ⟨eqW_of r3, ⟨hM, ⟨hM, ⟨hM, ⟨eqW_of r4, ⟨hM, ⟨hM, ⟨hM, ⟨hM, ⟨eqW_of r5, ⟨hM, ⟨hM, ⟨eqW_nv r6, ⟨hM, ⟨hM, ⟨hM, ⟨eqW_of r7, ⟨hM, ⟨hM, ⟨eqW_of (by rw [nv_one, Nat.mul_one]), ⟨hM, ⟨eqW_of r8, ⟨r9, ⟨r10, ⟨_, rfl, fun _ => rfl⟩⟩⟩⟩⟩⟩⟩⟩⟩⟩⟩⟩⟩⟩⟩⟩⟩⟩⟩⟩⟩⟩⟩⟩⟩⟩⟩⟩⟩⟩⟩⟩⟩⟩⟩
  · refine evS_q mixed tt_ok (gRing_ok (x := (13, .pure cNewNo)) okNewNo) 100 [] ?_
    refine same (p := ¬ MayM (nv n) ∧ ∃ v', some (AV.v1 (.sc (.bo true))) = some v' ∧ ∀ ρ, v'.val ρ = (AV.v1 (.sc (.bo true))).val ρ) ?_ (by kernel_rfl)
    exact ⟨hMay, _, rfl, fun _ => rfl⟩

theorem modulusRing_lifted (os : Os) (started : os.Started) (H : Type) (enc : TypeId × Value → H) :
    ReturnsInHanded {} Try.checked os 7 .any (Rows.modulusRingSpec.pre6 enc Try.prog Try.f7 Rows.modulusRingRow.domain false) (Rows.modulusRingSpec.post enc Try.prog Try.f7 false true false false) := by
  refine returnsInHanded_of_change (C := Try.checked) Try.own started (by kernel_rfl) Try.func7
    (ChangeSpec.witness6 (enc := enc) (C := Try.checked) false ⟨#[], #[.agg #[.int .u64 0, .int .u64 0, .int .u64 0, .int .u64 0, .int .u64 0, .int .u64 0], .agg #[.int .u64 0, .int .u64 0, .int .u64 0, .int .u64 0, .int .u64 0, .int .u64 0], .agg #[.int .u64 0, .int .u64 0, .int .u64 0, .int .u64 0, .int .u64 0, .int .u64 0], .agg #[.int .u64 0, .int .u64 0, .int .u64 0, .int .u64 0, .int .u64 0, .int .u64 0]], []⟩ 8 (by kernel_rfl) (by kernel_rfl) (by kernel_rfl) (by kernel_rfl)) ?_
  intro Wd base args ds gs before hval0 hW _ _
  have hval : ∀ (j : Nat) t v, Try.f7.params[j]? = some t → args[j]? = some v → Value.okWide Try.prog Wd .any base t v := hval0
  have hW' := hW
  obtain ⟨p, q, hA0, hV, rfl, _, _⟩ := hW
  have hA : DataW.TrodAll enc Try.prog Wd 0 (fun _ => true) true Try.f7.params.toList args.toList ds p := hA0
  rw [Try.params7] at hA hval
  obtain ⟨v0, v1, v2, v3, d0, d1, d2, d3, p0, p1, p2, p3, rfl, rfl, rfl, h0, h1, h2, h3⟩ := trodAll_four hA
  obtain ⟨rfl, rfl⟩ := trodVars_none hV
  obtain ⟨x0, rfl, rfl, t0⟩ := num_open h0 (hval 0 24 v0 rfl rfl)
  obtain ⟨x1, rfl, rfl, t1⟩ := num_open h1 (hval 1 24 v1 rfl rfl)
  obtain ⟨x2, rfl, rfl, t2⟩ := num_open h2 (hval 2 24 v2 rfl rfl)
  obtain ⟨x3, rfl, rfl, t3⟩ := num_open h3 (hval 3 24 v3 rfl rfl)
  clear hA0 hval0
  simp only [List.append_nil] at hW'
  refine (modulusRing_calls x0 x1 x2 x3 Wd).mono fun e W' ⟨he, hw⟩ => ?_
  subst he
  have hg := hw.grown
  exact ⟨_, rfl, post_of_same (pa := []) (pv := []) hW' (fun _ _ _ => trodAll_mk1 (shut_bool Try.underlying4 true)) (fun sp _ => trodAll_mk4 (t0 _ _ _ _) (t1 _ _ _ _) (t2 _ _ _ _) (t3 _ _ _ _)) (fun _ _ => rfl) rfl (hg.frame _) hg.2.1 (ok_one (by kernel_rfl) rfl (okWide_bool_mk Try.underlying4 true))⟩

theorem modulusRing_holds : Rows.ModulusRingSaid :=
  OpenClaim.holds_of_wide 7 Try.f7 rfl rfl rfl rfl rfl rfl rfl ⟨rfl, rfl, rfl, rfl, rfl⟩ rfl rfl rfl rfl rfl (by kernel_rfl) Try.func7 (by kernel_rfl)
    (of_decide_eq_true (by kernel_rfl)) (by unfold Func.isWrapper; rw [if_neg (of_decide_eq_false (by kernel_rfl))]; exact ⟨rfl, rfl⟩)
    (fun os started H enc _ => modulusRing_lifted os started H enc)
end Go.Proofs.Ytcmaecfpggmcoaa
