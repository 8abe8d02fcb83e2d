/- reliquarylaw03.TowerField2 answers true at every input, and leaves it as it was. Conditions: none. Printed by genlaws3.py. -/
import Derived.Test.YtkmfiefnaeikdaaRows
import Derived.Test.YtkmfiefnaeikdaaZD
import Derived.Test.YtkmfiefnaeikdaaZE
import Derived.Carry
namespace Go.Proofs.Ytkmfiefnaeikdaa
open Go.Rq Go Go.ChangeShapes Go.WideShapes Go.ChangeAt Go.RowKit
set_option maxRecDepth 100000
set_option linter.unusedVariables false
set_option linter.unusedSimpArgs false
def GF2 : Ctx := ctxL [(26, .pure cAwake3), (27, .pure cSmall), (18, .pure (u2 (· * ·))), (12, .pure (u2 (· + ·))), (14, .pure (u2 (· - ·))), (20, .pure (u1 F2p.cj)), (22, .pure uI)]
theorem GF2_ok : CtxOk Try.prog GF2 := ctxL_cons okAwake3 <| ctxL_cons okSmall <| ctxL_cons okUMul2 <| ctxL_cons okUAdd2 <| ctxL_cons okUSub2 <| ctxL_cons okUConj2 <| ctxL_cons okUInv2 ctxL_nil
theorem zz_eq : g2 (fun _ => 0) (fun _ => 0) = 0 := F2p.ext gN_z gN_z
theorem add_zz (x : F2p) : x + g2 (fun _ => 0) (fun _ => 0) = x := by rw [zz_eq]; exact Rg.add_zero x
theorem invE_f {x : F2p} (h : z2 x.x x.y = false) : F2p.invE x = 0 := by unfold F2p.invE iE; rw [h, cond_false]
theorem invE_t {x : F2p} (h : z2 x.x x.y = true) : F2p.invE x = 6 := by unfold F2p.invE iE; rw [h, cond_true]
theorem inv2_mul {x : F2p} (h : z2 x.x x.y = false) : F2p.invz x * x = 1 := by
  have h0 : x ≠ 0 := fun e => by rw [(z2_iff x.x x.y).2 (by rw [e]; exact ⟨rfl, rfl⟩)] at h; cases h
  have e1 : F2p.invz x = F2p.inv' x := by
    unfold F2p.invz iX iY F2p.inv' inv2x inv2y eInv nor2 F2p.nrm
    rw [h, cond_false, cond_false, ePow_eq]
  rw [e1, Rg.mul_comm]
  exact F2p.mul_inv h0
theorem kq {x y : Fp} (h : x = y) {f : Nat → Nat} (k : nv (vF y) = nv f) : eqN W 6 (vF x) f = true := by subst h; exact eqN_nv k
theorem kz {x : Fp} (h : x = 0) : eqN W 6 (vF x) (fun _ => 0) = true := kq h zero_vF.symm
theorem kw {x : Fp} (k : Nat) (hk : k < W) (h : x = ofN k) : eqN W 6 (vF x) (wd (k % W)) = true := kq h (nv_v k hk)
theorem sm_eq (k l : Nat) (hk : k < W) (hl : l < W) : g2 (wd (k % W)) (wd (l % W)) = ⟨ofN k, ofN l⟩ := F2p.ext (gN_sm k hk) (gN_sm l hl)
theorem q2_w (s : F2p) (k l : Nat) (hk : k < W) (hl : l < W) (h : s = ⟨ofN k, ofN l⟩) : qL (nL2 s) [wd (k % W), wd (l % W)] = true := by
  subst h
  exact qL_nv2 (nv_v k hk) (nv_v l hl)
theorem towerField2_calls (a0 a1 b0 b1 c0 c1 : Nat → Nat) (w : World) :
    Calls Try.prog 6 (([f2 a0 a1, f2 b0 b1, f2 c0 c1] : List AV).map (AV.val fun _ => 0)).toArray w (fun e w' => e = .returned (.bool true) ∧ StepW w w') := by
  refine pure_calls tt_ok Try.func6 (by kernel_rfl) (by kernel_rfl) (v := .v1 (.sc (.bo true))) (by kernel_rfl) ?_ w
  have hz : qL (nL2 ((g2 a0 a1) + (g2 (fun _ => 0) (fun _ => 0)))) zL2 = z2 (gN a0) (gN a1) := by rw [q2_z, add_zz]
  cases hb : z2 (gN a0) (gN a1)
  · have hE : F2p.invE (g2 a0 a1) = 0 := invE_f hb
    refine evS_q mixed tt_ok GF2_ok 200 [⟨3,4,.lit (.bo false)⟩,⟨3,14,.lit (.bo false)⟩,⟨3,29,.lit (.bo false)⟩,⟨3,40,.lit (.bo false)⟩,⟨7,7,.lit (.bo true)⟩,⟨7,15,.lit (.bo true)⟩,⟨8,8,.lit (.bo true)⟩,⟨8,12,.lit (.bo false)⟩,⟨8,18,.lit (.bo true)⟩] ?_
    refine same (p := (!qL (nL2 ((g2 a0 a1) * (g2 b0 b1))) (nL2 ((g2 b0 b1) * (g2 a0 a1)))) = false ∧ (!qL (nL2 ((G2 ((g2 a0 a1) * (g2 b0 b1))) * (g2 c0 c1))) (nL2 ((g2 a0 a1) * (G2 ((g2 b0 b1) * (g2 c0 c1)))))) = false ∧ (!qL (nL2 ((G2 ((g2 a0 a1) + (g2 b0 b1))) * (g2 c0 c1))) (nL2 ((G2 ((g2 a0 a1) * (g2 c0 c1))) + (G2 ((g2 b0 b1) * (g2 c0 c1)))))) = false ∧ (!qL (nL2 ((G2 ((g2 a0 a1) - (g2 b0 b1))) + (g2 b0 b1))) (nL2 ((g2 a0 a1) + (g2 (fun _ => 0) (fun _ => 0))))) = false ∧ qL (nL2 (F2p.cj (G2 ((g2 a0 a1) * (g2 b0 b1))))) (nL2 ((G2 (F2p.cj (g2 a0 a1))) * (G2 (F2p.cj (g2 b0 b1))))) = true ∧ qL (nL2 (F2p.cj (G2 (F2p.cj (g2 a0 a1))))) (nL2 ((g2 a0 a1) + (g2 (fun _ => 0) (fun _ => 0)))) = true ∧ decide (ieq (F2p.invE (g2 a0 a1)) 6 = (qL (nL2 ((g2 a0 a1) + (g2 (fun _ => 0) (fun _ => 0)))) zL2)) = true ∧ (!ieq (F2p.invE (g2 a0 a1)) 0) = false ∧ qL (nL2 ((G2 (F2p.invz (g2 a0 a1))) * (g2 a0 a1))) [(wd (1 % W)), (wd (0 % W))] = true ∧ endT) ?_ (by kernel_rfl)
    refine ⟨q2_not (Rg.mul_comm _ _), q2_not (by rw [G2_eq, G2_eq]; exact Rg.mul_assoc _ _ _), q2_not (by rw [G2_eq, G2_eq, G2_eq]; exact cr_rd _ _ _), q2_not (by rw [G2_eq, add_zz]; exact cr_sa _ _), q2_of (by rw [G2_eq, G2_eq, G2_eq]; exact F2p.cj_mul _ _), q2_of (by rw [G2_eq, add_zz]; exact F2p.cj_cj _), by rw [hz, hb, hE]; rfl, by rw [hE]; rfl, q2_w _ 1 0 (by decide) (by decide) ?_, endT_ok⟩
    rw [G2_eq, inv2_mul hb]
    exact F2p.ext ofN_one.symm ofN_zero.symm
  · have hE : F2p.invE (g2 a0 a1) = 6 := invE_t hb
    refine evS_q mixed tt_ok GF2_ok 200 [⟨3,4,.lit (.bo false)⟩,⟨3,14,.lit (.bo false)⟩,⟨3,29,.lit (.bo false)⟩,⟨3,40,.lit (.bo false)⟩,⟨7,7,.lit (.bo true)⟩,⟨7,15,.lit (.bo true)⟩,⟨8,8,.lit (.bo true)⟩,⟨8,12,.lit (.bo true)⟩] ?_
    refine same (p := (!qL (nL2 ((g2 a0 a1) * (g2 b0 b1))) (nL2 ((g2 b0 b1) * (g2 a0 a1)))) = false ∧ (!qL (nL2 ((G2 ((g2 a0 a1) * (g2 b0 b1))) * (g2 c0 c1))) (nL2 ((g2 a0 a1) * (G2 ((g2 b0 b1) * (g2 c0 c1)))))) = false ∧ (!qL (nL2 ((G2 ((g2 a0 a1) + (g2 b0 b1))) * (g2 c0 c1))) (nL2 ((G2 ((g2 a0 a1) * (g2 c0 c1))) + (G2 ((g2 b0 b1) * (g2 c0 c1)))))) = false ∧ (!qL (nL2 ((G2 ((g2 a0 a1) - (g2 b0 b1))) + (g2 b0 b1))) (nL2 ((g2 a0 a1) + (g2 (fun _ => 0) (fun _ => 0))))) = false ∧ qL (nL2 (F2p.cj (G2 ((g2 a0 a1) * (g2 b0 b1))))) (nL2 ((G2 (F2p.cj (g2 a0 a1))) * (G2 (F2p.cj (g2 b0 b1))))) = true ∧ qL (nL2 (F2p.cj (G2 (F2p.cj (g2 a0 a1))))) (nL2 ((g2 a0 a1) + (g2 (fun _ => 0) (fun _ => 0)))) = true ∧ decide (ieq (F2p.invE (g2 a0 a1)) 6 = (qL (nL2 ((g2 a0 a1) + (g2 (fun _ => 0) (fun _ => 0)))) zL2)) = true ∧ (!ieq (F2p.invE (g2 a0 a1)) 0) = true ∧ endT) ?_ (by kernel_rfl)
    exact ⟨q2_not (Rg.mul_comm _ _), q2_not (by rw [G2_eq, G2_eq]; exact Rg.mul_assoc _ _ _), q2_not (by rw [G2_eq, G2_eq, G2_eq]; exact cr_rd _ _ _), q2_not (by rw [G2_eq, add_zz]; exact cr_sa _ _), q2_of (by rw [G2_eq, G2_eq, G2_eq]; exact F2p.cj_mul _ _), q2_of (by rw [G2_eq, add_zz]; exact F2p.cj_cj _), by rw [hz, hb, hE]; rfl, by rw [hE]; rfl, endT_ok⟩

theorem towerField2_lifted (os : Os) (started : os.Started) (H : Type) (enc : TypeId × Value → H) :
    ReturnsInHanded {} Try.checked os 6 .any (Rows.towerField2Spec.pre6 enc Try.prog Try.f6 Rows.towerField2Row.domain false) (Rows.towerField2Spec.post enc Try.prog Try.f6 false true false false) := by
  refine returnsInHanded_of_change (C := Try.checked) Try.own started (by kernel_rfl) Try.func6
    (ChangeSpec.witness6 (enc := enc) (C := Try.checked) false ⟨#[], #[.agg #[.int .u64 0, .int .u64 0, .int .u64 0, .int .u64 0, .int .u64 0, .int .u64 0, .int .u64 0, .int .u64 0, .int .u64 0, .int .u64 0, .int .u64 0, .int .u64 0], .agg #[.int .u64 0, .int .u64 0, .int .u64 0, .int .u64 0, .int .u64 0, .int .u64 0, .int .u64 0, .int .u64 0, .int .u64 0, .int .u64 0, .int .u64 0, .int .u64 0], .agg #[.int .u64 0, .int .u64 0, .int .u64 0, .int .u64 0, .int .u64 0, .int .u64 0, .int .u64 0, .int .u64 0, .int .u64 0, .int .u64 0, .int .u64 0, .int .u64 0]], []⟩ 8 (by kernel_rfl) (by kernel_rfl) (by kernel_rfl) (by kernel_rfl)) ?_
  intro Wd base args ds gs before hval0 hW _ _
  have hval : ∀ (j : Nat) t v, Try.f6.params[j]? = some t → args[j]? = some v → Value.okWide Try.prog Wd .any base t v := hval0
  have hW' := hW
  obtain ⟨p, q, hA0, hV, rfl, _, _⟩ := hW
  have hA : DataW.TrodAll enc Try.prog Wd 0 (fun _ => true) true Try.f6.params.toList args.toList ds p := hA0
  rw [Try.params6] at hA hval
  obtain ⟨v0, v1, v2, d0, d1, d2, p0, p1, p2, rfl, rfl, rfl, h0, h1, h2⟩ := trodAll_three hA
  obtain ⟨rfl, rfl⟩ := trodVars_none hV
  obtain ⟨x0, y0, rfl, rfl, t0⟩ := e2_open h0 (hval 0 26 v0 rfl rfl)
  obtain ⟨x1, y1, rfl, rfl, t1⟩ := e2_open h1 (hval 1 26 v1 rfl rfl)
  obtain ⟨x2, y2, rfl, rfl, t2⟩ := e2_open h2 (hval 2 26 v2 rfl rfl)
  clear hA0 hval0
  simp only [List.append_nil] at hW'
  refine (towerField2_calls x0 y0 x1 y1 x2 y2 Wd).mono fun e W' ⟨he, hw⟩ => ?_
  subst he
  have hg := hw.grown
  exact ⟨_, rfl, post_of_same (pa := []) (pv := []) hW' (fun _ _ _ => trodAll_mk1 (shut_bool Try.underlying4 true)) (fun sp _ => trodAll_mk3 (t0 _ _ _ _) (t1 _ _ _ _) (t2 _ _ _ _)) (fun _ _ => rfl) rfl (hg.frame _) hg.2.1 (ok_one (by kernel_rfl) rfl (okWide_bool_mk Try.underlying4 true))⟩

theorem towerField2_holds : Rows.TowerField2Said :=
  OpenClaim.holds_of_wide 6 Try.f6 rfl rfl rfl rfl rfl rfl rfl ⟨rfl, rfl, rfl, rfl, rfl⟩ rfl rfl rfl rfl rfl (by kernel_rfl) Try.func6 (by kernel_rfl)
    (of_decide_eq_true (by kernel_rfl)) (by unfold Func.isWrapper; rw [if_neg (of_decide_eq_false (by kernel_rfl))]; exact ⟨rfl, rfl⟩)
    (fun os started H enc _ => towerField2_lifted os started H enc)
end Go.Proofs.Ytkmfiefnaeikdaa
