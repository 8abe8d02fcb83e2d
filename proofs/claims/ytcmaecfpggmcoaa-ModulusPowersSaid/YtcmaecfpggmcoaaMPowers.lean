/- reliquarylaw02.ModulusPowers answers true at every input, and leaves it as it was. Conditions: none. Printed by genpow.py. -/
import Derived.Test.YtcmaecfpggmcoaaRows
import Derived.Test.YtcmaecfpggmcoaaM6
import Derived.Test.YtcmaecfpggmcoaaWL
import Derived.ProofKit
import Derived.Carry
namespace Go.Proofs.Ytcmaecfpggmcoaa
open Go.Rq Go Go.ChangeShapes Go.WideShapes Go.ChangeAt Go.RowKit

def gPwL (x : Nat × CallC) : List (Nat × CallC) := [(33, .pure cAwakeM), x, (27, .rd (CM fMul)), (31, .rd (CM fPow)), (34, .pure cOf), (37, .pure cMul)]
theorem gPw_ok {x : Nat × CallC} (h : x.2.Ok Try.prog x.1) : CtxOk Try.prog (ctxL (gPwL x)) :=
  ctxL_cons okAwakeM <| ctxL_cons h <| ctxL_cons okMMul <| ctxL_cons okPow <| ctxL_cons okOf <| ctxL_cons okMul ctxL_nil
theorem eqW_of {x y : Nat} (h : x = y) : (eqN W 6 (wd x) (wd y) && true) = true := by subst h; exact eqW_self _
theorem powM_add (N a x y : Nat) : powM N a (x + y) = powM N a x * powM N a y % N := by
  unfold powM
  rw [Nat.pow_add, Nat.mul_mod]
theorem powM_mul (N a x y : Nat) : powM N (powM N a x) y = powM N a (x * y) := by
  unfold powM
  rw [Nat.pow_mul, ← Nat.pow_mod]

theorem modulusPowers_calls (n a : Nat → Nat) (x0 y0 : Nat) (w : World) :
    Calls Try.prog 6 ([nm n, nm a, .v1 (.sc (.w .u64 x0)), .v1 (.sc (.w .u64 y0))].map (AV.val fun _ => 0)).toArray w (fun e w' => e = .returned (.bool true) ∧ StepW w w') := by
  refine pure_calls tt_ok Try.func6 (by kernel_rfl) (by kernel_rfl) (v := .v1 (.sc (.bo true))) (by kernel_rfl) ?_ w
  by_cases hMay : MayM (nv n)
  · have h3 : 0 < nv n := by have := hMay.2.2; omega
    have hM : ModI n (newL n) (wd (R * R % nv n)) := may_ok hMay (by rw [nv_wd, Nat.mod_eq_of_lt (Nat.lt_trans (Nat.mod_lt _ h3) (nv_lt n))])
    obtain ⟨x, hx⟩ : ∃ x, x = x0 &&& 1152921504606846975 := ⟨_, rfl⟩
    obtain ⟨y, hy⟩ : ∃ y, y = y0 &&& 1152921504606846975 := ⟨_, rfl⟩
    have hxl : x < 1152921504606846976 := by rw [hx]; exact Nat.and_lt_two_pow _ (n := 60) (by decide)
    have hyl : y < 1152921504606846976 := by rw [hy]; exact Nat.and_lt_two_pow _ (n := 60) (by decide)
    refine evS_q mixed tt_ok (gPw_ok (x := (13, .mem cNew)) okNew) 100 [⟨5,1,.lit (.w .u64 x)⟩,⟨5,3,.lit (.w .u64 y)⟩,⟨8,13,.lit (.bo true)⟩,⟨8,25,.lit (.bo true)⟩,⟨8,37,.lit (.bo true)⟩] ?_
    have nvp : ∀ u e, nv (wd (powM (nv n) u e)) = powM (nv n) u e := fun u e => by
      have h4 : powM (nv n) u e < nv n := Nat.mod_lt _ h3
      rw [nv_wd, Nat.mod_eq_of_lt (Nat.lt_trans h4 (nv_lt n))]
    have ex : nv (wd (x % W)) = x := nv_small (by simp only [W]; omega)
    have ey : nv (wd (y % W)) = y := nv_small (by simp only [W]; omega)
    have es : nv (wd ((x + y) % W)) = x + y := nv_small (by simp only [W]; omega)
    have eb : nv (wd (x * y % R)) = x * y := by
      rw [nv_wd, Nat.mod_mod]
      refine Nat.mod_eq_of_lt (Nat.lt_of_lt_of_le (Nat.mul_lt_mul'' hxl hyl) (by decide))
    have r1 : powM (nv n) (nv a) (nv (wd ((x + y) % W))) = nv (wd (powM (nv n) (nv a) (nv (wd (x % W))))) * nv (wd (powM (nv n) (nv a) (nv (wd (y % W))))) % nv n := by rw [es, ex, ey, nvp, nvp]; exact powM_add _ _ _ _
    have r2 : powM (nv n) (nv (wd (powM (nv n) (nv a) (nv (wd (x % W)))))) (nv (wd (y % W))) = powM (nv n) (nv a) (nv (wd (nv (wd (x % W)) * nv (wd (y % W)) % R))) := by rw [ex, ey, nvp, eb]; exact powM_mul _ _ _ _
    have r3 : powM (nv n) (nv (wd (powM (nv n) (nv a) (nv (wd (y % W)))))) (nv (wd (x % W))) = powM (nv n) (nv a) (nv (wd (nv (wd (x % W)) * nv (wd (y % W)) % R))) := by rw [ex, ey, nvp, eb, Nat.mul_comm]; exact powM_mul _ _ _ _
    refine same (p := MayM (nv n) ∧ x0 &&& 1152921504606846975 = x ∧ y0 &&& 1152921504606846975 = y ∧ ModI n (newL n) (wd (R * R % nv n)) ∧ ModI n (newL n) (wd (R * R % nv n)) ∧ ModI n (newL n) (wd (R * R % nv n)) ∧ ModI n (newL n) (wd (R * R % nv n)) ∧ (eqN W 6 (wd (powM (nv n) (nv a) (nv (wd ((x + y) % W))))) (wd (nv (wd (powM (nv n) (nv a) (nv (wd (x % W))))) * nv (wd (powM (nv n) (nv a) (nv (wd (y % W))))) % nv n)) && true) = true ∧ ModI n (newL n) (wd (R * R % nv n)) ∧ ModI n (newL n) (wd (R * R % nv n)) ∧ (eqN W 6 (wd (powM (nv n) (nv (wd (powM (nv n) (nv a) (nv (wd (x % W)))))) (nv (wd (y % W))))) (wd (powM (nv n) (nv a) (nv (wd (nv (wd (x % W)) * nv (wd (y % W)) % R))))) && true) = true ∧ ModI n (newL n) (wd (R * R % nv n)) ∧ ModI n (newL n) (wd (R * R % nv n)) ∧ (eqN W 6 (wd (powM (nv n) (nv (wd (powM (nv n) (nv a) (nv (wd (y % W)))))) (nv (wd (x % W))))) (wd (powM (nv n) (nv a) (nv (wd (nv (wd (x % W)) * nv (wd (y % W)) % R))))) && true) = true ∧ ∃ v', some (AV.v1 (.sc (.bo true))) = some v' ∧ ∀ ρ, v'.val ρ = (AV.v1 (.sc (.bo true))).val ρ) ?_ (by kernel_rfl)
    exact ⟨hMay, ⟨hx.symm, ⟨hy.symm, ⟨hM, ⟨hM, ⟨hM, ⟨hM, ⟨eqW_of r1, ⟨hM, ⟨hM, ⟨eqW_of r2, ⟨hM, ⟨hM, ⟨eqW_of r3, ⟨_, rfl, fun _ => rfl⟩⟩⟩⟩⟩⟩⟩⟩⟩⟩⟩⟩⟩⟩⟩
  · refine evS_q mixed tt_ok (gPw_ok (x := (13, .pure cNewNo)) okNewNo) 100 [] ?_
    refine same (p := ¬ MayM (nv n) ∧ ∃ v', some (AV.v1 (.sc (.bo true))) = some v' ∧ ∀ ρ, v'.val ρ = (AV.v1 (.sc (.bo true))).val ρ) ?_ (by kernel_rfl)
    exact ⟨hMay, _, rfl, fun _ => rfl⟩

theorem modulusPowers_lifted (os : Os) (started : os.Started) (H : Type) (enc : TypeId × Value → H) :
    ReturnsInHanded {} Try.checked os 6 .any (Rows.modulusPowersSpec.pre6 enc Try.prog Try.f6 Rows.modulusPowersRow.domain false) (Rows.modulusPowersSpec.post enc Try.prog Try.f6 false true false false) := by
  refine returnsInHanded_of_change (C := Try.checked) Try.own started (by kernel_rfl) Try.func6
    (ChangeSpec.witness6 (enc := enc) (C := Try.checked) false ⟨#[], #[.agg #[.int .u64 0, .int .u64 0, .int .u64 0, .int .u64 0, .int .u64 0, .int .u64 0], .agg #[.int .u64 0, .int .u64 0, .int .u64 0, .int .u64 0, .int .u64 0, .int .u64 0], .int .u64 0, .int .u64 0], []⟩ 8 (by kernel_rfl) (by kernel_rfl) (by kernel_rfl) (by kernel_rfl)) ?_
  intro Wd base args ds gs before hval0 hW _ _
  have hval : ∀ (j : Nat) t v, Try.f6.params[j]? = some t → args[j]? = some v → Value.okWide Try.prog Wd .any base t v := hval0
  have hW' := hW
  obtain ⟨p, q, hA0, hV, rfl, _, _⟩ := hW
  have hA : DataW.TrodAll enc Try.prog Wd 0 (fun _ => true) true Try.f6.params.toList args.toList ds p := hA0
  rw [Try.params6] at hA hval
  obtain ⟨v0, v1, v2, v3, d0, d1, d2, d3, p0, p1, p2, p3, rfl, rfl, rfl, h0, h1, h2, h3⟩ := trodAll_four hA
  obtain ⟨rfl, rfl⟩ := trodVars_none hV
  obtain ⟨x0, rfl, rfl, t0⟩ := num_open h0 (hval 0 24 v0 rfl rfl)
  obtain ⟨x1, rfl, rfl, t1⟩ := num_open h1 (hval 1 24 v1 rfl rfl)
  obtain ⟨z2, rfl, rfl, rfl, w2⟩ := open_int Try.underlying22 (hval 2 22 v2 rfl rfl) h2
  obtain ⟨x2, e2⟩ : ∃ y, z2 = Int.ofNat (y % W) := ⟨_, (u64_lit w2).symm⟩
  subst e2
  obtain ⟨z3, rfl, rfl, rfl, w3⟩ := open_int Try.underlying22 (hval 3 22 v3 rfl rfl) h3
  obtain ⟨x3, e3⟩ : ∃ y, z3 = Int.ofNat (y % W) := ⟨_, (u64_lit w3).symm⟩
  subst e3
  clear hA0 hval0
  simp only [List.append_nil] at hW'
  refine (modulusPowers_calls x0 x1 x2 x3 Wd).mono fun e W' ⟨he, hw⟩ => ?_
  subst he
  have hg := hw.grown
  exact ⟨_, rfl, post_of_same (pa := []) (pv := []) hW' (fun _ _ _ => trodAll_mk1 (shut_bool Try.underlying4 true)) (fun sp _ => trodAll_mk4 (t0 _ _ _ _) (t1 _ _ _ _) (shut_int Try.underlying22 w2) (shut_int Try.underlying22 w3)) (fun _ _ => rfl) rfl (hg.frame _) hg.2.1 (ok_one (by kernel_rfl) rfl (okWide_bool_mk Try.underlying4 true))⟩

theorem modulusPowers_holds : Rows.ModulusPowersSaid :=
  OpenClaim.holds_of_wide 6 Try.f6 rfl rfl rfl rfl rfl rfl rfl ⟨rfl, rfl, rfl, rfl, rfl⟩ rfl rfl rfl rfl rfl (by kernel_rfl) Try.func6 (by kernel_rfl)
    (of_decide_eq_true (by kernel_rfl)) (by unfold Func.isWrapper; rw [if_neg (of_decide_eq_false (by kernel_rfl))]; exact ⟨rfl, rfl⟩)
    (fun os started H enc _ => modulusPowers_lifted os started H enc)
end Go.Proofs.Ytcmaecfpggmcoaa
