/- reliquarylaw03.TowerTwo answers true at every input, and leaves it as it was. Conditions: none. Printed by genlaws3.py. -/
import Derived.Test.YtkmfiefnaeikdaaRows
import Derived.Test.YtkmfiefnaeikdaaZD
import Derived.Test.YtkmfiefnaeikdaaZE
import Derived.Test.YtkmfiefnaeikdaaZF
import Derived.Carry
namespace Go.Proofs.Ytkmfiefnaeikdaa
open Go.Rq Go Go.ChangeShapes Go.WideShapes Go.ChangeAt Go.RowKit
set_option maxRecDepth 100000
set_option linter.unusedVariables false
set_option linter.unusedSimpArgs false
def GTw2 : Ctx := ctxL [(11, .pure cD2Of), (12, .pure (u2 (· + ·))), (13, .pure (d2 (· + ·))), (14, .pure (u2 (· - ·))), (15, .pure (d2 (· - ·))), (16, .pure (u1 F2p.ng)), (17, .pure (d1 F2p.ng)), (18, .pure (u2 (· * ·))), (19, .pure (d2 (· * ·))), (20, .pure (u1 F2p.cj)), (21, .pure (d1 F2p.cj)), (22, .pure uI), (23, .pure uR), (24, .pure cD2Rt), (25, .pure (d1 F2p.inv'))]
theorem GTw2_ok : CtxOk Try.prog GTw2 := ctxL_cons okD2Of <| ctxL_cons okUAdd2 <| ctxL_cons okD2Add <| ctxL_cons okUSub2 <| ctxL_cons okD2Sub <| ctxL_cons okUNeg2 <| ctxL_cons okD2Neg <| ctxL_cons okUMul2 <| ctxL_cons okD2Mul <| ctxL_cons okUConj2 <| ctxL_cons okD2Conj <| ctxL_cons okUInv2 <| ctxL_cons okURoot2 <| ctxL_cons okD2Rt <| ctxL_cons okD2Inv ctxL_nil
theorem zz_eq : g2 (fun _ => 0) (fun _ => 0) = 0 := F2p.ext gN_z gN_z
theorem add_zz (x : F2p) : x + g2 (fun _ => 0) (fun _ => 0) = x := by rw [zz_eq]; exact Rg.add_zero x
theorem invE_f {x : F2p} (h : z2 x.x x.y = false) : F2p.invE x = 0 := by unfold F2p.invE iE; rw [h, cond_false]
theorem invE_t {x : F2p} (h : z2 x.x x.y = true) : F2p.invE x = 6 := by unfold F2p.invE iE; rw [h, cond_true]
theorem inv2_mul {x : F2p} (h : z2 x.x x.y = false) : F2p.invz x * x = 1 := by
  have h0 : x ≠ 0 := fun e => by rw [(z2_iff x.x x.y).2 (by rw [e]; exact ⟨rfl, rfl⟩)] at h; cases h
  have e1 : F2p.invz x = F2p.inv' x := by
    unfold F2p.invz iX iY F2p.inv' inv2x inv2y eInv nor2 F2p.nrm
    rw [h, cond_false, cond_false, ePow_eq]
  rw [e1, Rg.mul_comm]
  exact F2p.mul_inv h0
theorem kq {x y : Fp} (h : x = y) {f : Nat → Nat} (k : nv (vF y) = nv f) : eqN W 6 (vF x) f = true := by subst h; exact eqN_nv k
theorem kz {x : Fp} (h : x = 0) : eqN W 6 (vF x) (fun _ => 0) = true := kq h zero_vF.symm
theorem kw {x : Fp} (k : Nat) (hk : k < W) (h : x = ofN k) : eqN W 6 (vF x) (wd (k % W)) = true := kq h (nv_v k hk)
theorem sm_eq (k l : Nat) (hk : k < W) (hl : l < W) : g2 (wd (k % W)) (wd (l % W)) = ⟨ofN k, ofN l⟩ := F2p.ext (gN_sm k hk) (gN_sm l hl)
theorem q2_w (s : F2p) (k l : Nat) (hk : k < W) (hl : l < W) (h : s = ⟨ofN k, ofN l⟩) : qL (nL2 s) [wd (k % W), wd (l % W)] = true := by
  subst h
  exact qL_nv2 (nv_v k hk) (nv_v l hl)
theorem inv2_doc {x : F2p} (h : z2 x.x x.y = false) : F2p.invz x = F2p.inv' x := by
  unfold F2p.invz iX iY F2p.inv' inv2x inv2y eInv nor2 F2p.nrm
  rw [h, cond_false, cond_false, ePow_eq]
theorem inv2_zero {x : F2p} (h : z2 x.x x.y = true) : F2p.invz x = 0 := by
  unfold F2p.invz iX iY
  rw [h, cond_true, cond_true]; rfl
theorem towerTwo_calls (a0 a1 b0 b1 : Nat → Nat) (w : World) :
    Calls Try.prog 3 (([f2 a0 a1, f2 b0 b1] : List AV).map (AV.val fun _ => 0)).toArray w (fun e w' => e = .returned (.bool true) ∧ StepW w w') := by
  refine pure_calls tt_ok Try.func3 (by kernel_rfl) (by kernel_rfl) (v := .v1 (.sc (.bo true))) (by kernel_rfl) ?_ w
  have hG : (G2 (g2 a0 a1)) = (g2 a0 a1) := G2_eq _
  by_cases hs : sqr (F2p.nrm (g2 a0 a1))
  · have hD2 := doc_yes hs
    have hR := rt_yes hs
    cases hz : z2 (g2 a0 a1).x (g2 a0 a1).y
    · skip
      refine evS_q mixed tt_ok GTw2_ok 300 [⟨2,6,.lit (.bo false)⟩,⟨2,14,.lit (.bo false)⟩,⟨2,21,.lit (.bo false)⟩,⟨2,30,.lit (.bo false)⟩,⟨2,37,.lit (.bo false)⟩,⟨6,7,.lit (.bo true)⟩,⟨7,3,.lit (.bo false)⟩,⟨7,22,.lit (.bo false)⟩,⟨9,2,.lit (.bo false)⟩,⟨11,3,.lit (.bo true)⟩,⟨11,6,.lit (.bo true)⟩] ?_
      refine same (p := nv (vF (g2 a0 a1).x) < pN ∧ nv (vF (g2 a0 a1).y) < pN ∧ nv (vF (g2 b0 b1).x) < pN ∧ nv (vF (g2 b0 b1).y) < pN ∧ (!qL (nL2 ((g2 a0 a1) + (g2 b0 b1))) (nL2 ((G2 (g2 a0 a1)) + (G2 (g2 b0 b1))))) = false ∧ nv (vF (g2 a0 a1).x) < pN ∧ nv (vF (g2 a0 a1).y) < pN ∧ nv (vF (g2 b0 b1).x) < pN ∧ nv (vF (g2 b0 b1).y) < pN ∧ (!qL (nL2 ((g2 a0 a1) - (g2 b0 b1))) (nL2 ((G2 (g2 a0 a1)) - (G2 (g2 b0 b1))))) = false ∧ nv (vF (g2 a0 a1).x) < pN ∧ nv (vF (g2 a0 a1).y) < pN ∧ (!qL (nL2 (F2p.ng (g2 a0 a1))) (nL2 (F2p.ng (G2 (g2 a0 a1))))) = false ∧ nv (vF (g2 a0 a1).x) < pN ∧ nv (vF (g2 a0 a1).y) < pN ∧ nv (vF (g2 b0 b1).x) < pN ∧ nv (vF (g2 b0 b1).y) < pN ∧ (!qL (nL2 ((g2 a0 a1) * (g2 b0 b1))) (nL2 ((G2 (g2 a0 a1)) * (G2 (g2 b0 b1))))) = false ∧ nv (vF (g2 a0 a1).x) < pN ∧ nv (vF (g2 a0 a1).y) < pN ∧ (!qL (nL2 (F2p.cj (g2 a0 a1))) (nL2 (F2p.cj (G2 (g2 a0 a1))))) = false ∧ nv (vF (g2 a0 a1).x) < pN ∧ nv (vF (g2 a0 a1).y) < pN ∧ dRB (G2 (g2 a0 a1)) = true ∧ (!decide (true = ieq (F2p.rtE (g2 a0 a1)) 0)) = false ∧ (!qL (nL2 (F2p.rt (g2 a0 a1))) (nL2 (dRV (G2 (g2 a0 a1))))) = false ∧ qL (nL2 (g2 a0 a1)) zL2 = false ∧ nv (vF (g2 a0 a1).x) < pN ∧ nv (vF (g2 a0 a1).y) < pN ∧ qL (nL2 (F2p.invz (g2 a0 a1))) (nL2 (F2p.inv' (G2 (g2 a0 a1)))) = true ∧ ieq (F2p.invE (g2 a0 a1)) 0 = true ∧ endT) ?_ (by kernel_rfl)
      exact ⟨lt_vF _, lt_vF _, lt_vF _, lt_vF _, q2_not (by simp only [G2_eq]), lt_vF _, lt_vF _, lt_vF _, lt_vF _, q2_not (by simp only [G2_eq]), lt_vF _, lt_vF _, q2_not (by simp only [G2_eq]), lt_vF _, lt_vF _, lt_vF _, lt_vF _, q2_not (by simp only [G2_eq]), lt_vF _, lt_vF _, q2_not (by simp only [G2_eq]), lt_vF _, lt_vF _, by rw [hG]; exact hD2.1, by rw [hR.1]; rfl, q2_not (by rw [hG]; exact hD2.2.symm), by rw [q2_z]; exact hz, lt_vF _, lt_vF _, q2_of (by rw [hG]; exact inv2_doc hz), by rw [invE_f hz]; rfl, endT_ok⟩
    · skip
      refine evS_q mixed tt_ok GTw2_ok 300 [⟨2,6,.lit (.bo false)⟩,⟨2,14,.lit (.bo false)⟩,⟨2,21,.lit (.bo false)⟩,⟨2,30,.lit (.bo false)⟩,⟨2,37,.lit (.bo false)⟩,⟨6,7,.lit (.bo true)⟩,⟨7,3,.lit (.bo false)⟩,⟨7,22,.lit (.bo false)⟩,⟨9,2,.lit (.bo true)⟩,⟨10,2,.lit (.bo true)⟩,⟨10,5,.lit (.bo true)⟩] ?_
      refine same (p := nv (vF (g2 a0 a1).x) < pN ∧ nv (vF (g2 a0 a1).y) < pN ∧ nv (vF (g2 b0 b1).x) < pN ∧ nv (vF (g2 b0 b1).y) < pN ∧ (!qL (nL2 ((g2 a0 a1) + (g2 b0 b1))) (nL2 ((G2 (g2 a0 a1)) + (G2 (g2 b0 b1))))) = false ∧ nv (vF (g2 a0 a1).x) < pN ∧ nv (vF (g2 a0 a1).y) < pN ∧ nv (vF (g2 b0 b1).x) < pN ∧ nv (vF (g2 b0 b1).y) < pN ∧ (!qL (nL2 ((g2 a0 a1) - (g2 b0 b1))) (nL2 ((G2 (g2 a0 a1)) - (G2 (g2 b0 b1))))) = false ∧ nv (vF (g2 a0 a1).x) < pN ∧ nv (vF (g2 a0 a1).y) < pN ∧ (!qL (nL2 (F2p.ng (g2 a0 a1))) (nL2 (F2p.ng (G2 (g2 a0 a1))))) = false ∧ nv (vF (g2 a0 a1).x) < pN ∧ nv (vF (g2 a0 a1).y) < pN ∧ nv (vF (g2 b0 b1).x) < pN ∧ nv (vF (g2 b0 b1).y) < pN ∧ (!qL (nL2 ((g2 a0 a1) * (g2 b0 b1))) (nL2 ((G2 (g2 a0 a1)) * (G2 (g2 b0 b1))))) = false ∧ nv (vF (g2 a0 a1).x) < pN ∧ nv (vF (g2 a0 a1).y) < pN ∧ (!qL (nL2 (F2p.cj (g2 a0 a1))) (nL2 (F2p.cj (G2 (g2 a0 a1))))) = false ∧ nv (vF (g2 a0 a1).x) < pN ∧ nv (vF (g2 a0 a1).y) < pN ∧ dRB (G2 (g2 a0 a1)) = true ∧ (!decide (true = ieq (F2p.rtE (g2 a0 a1)) 0)) = false ∧ (!qL (nL2 (F2p.rt (g2 a0 a1))) (nL2 (dRV (G2 (g2 a0 a1))))) = false ∧ qL (nL2 (g2 a0 a1)) zL2 = true ∧ qL (nL2 (F2p.invz (g2 a0 a1))) zL2 = true ∧ ieq (F2p.invE (g2 a0 a1)) 6 = true ∧ endT) ?_ (by kernel_rfl)
      exact ⟨lt_vF _, lt_vF _, lt_vF _, lt_vF _, q2_not (by simp only [G2_eq]), lt_vF _, lt_vF _, lt_vF _, lt_vF _, q2_not (by simp only [G2_eq]), lt_vF _, lt_vF _, q2_not (by simp only [G2_eq]), lt_vF _, lt_vF _, lt_vF _, lt_vF _, q2_not (by simp only [G2_eq]), lt_vF _, lt_vF _, q2_not (by simp only [G2_eq]), lt_vF _, lt_vF _, by rw [hG]; exact hD2.1, by rw [hR.1]; rfl, q2_not (by rw [hG]; exact hD2.2.symm), by rw [q2_z]; exact hz, by rw [q2_z, inv2_zero hz]; rfl, by rw [invE_t hz]; rfl, endT_ok⟩
  · have hD2 := doc_no hs
    have hR := rt_no hs
    cases hz : z2 (g2 a0 a1).x (g2 a0 a1).y
    · skip
      refine evS_q mixed tt_ok GTw2_ok 300 [⟨2,6,.lit (.bo false)⟩,⟨2,14,.lit (.bo false)⟩,⟨2,21,.lit (.bo false)⟩,⟨2,30,.lit (.bo false)⟩,⟨2,37,.lit (.bo false)⟩,⟨6,7,.lit (.bo false)⟩,⟨7,3,.lit (.bo false)⟩,⟨7,9,.lit (.bo false)⟩,⟨7,13,.lit (.bo false)⟩,⟨9,2,.lit (.bo false)⟩,⟨11,3,.lit (.bo true)⟩,⟨11,6,.lit (.bo true)⟩] ?_
      refine same (p := nv (vF (g2 a0 a1).x) < pN ∧ nv (vF (g2 a0 a1).y) < pN ∧ nv (vF (g2 b0 b1).x) < pN ∧ nv (vF (g2 b0 b1).y) < pN ∧ (!qL (nL2 ((g2 a0 a1) + (g2 b0 b1))) (nL2 ((G2 (g2 a0 a1)) + (G2 (g2 b0 b1))))) = false ∧ nv (vF (g2 a0 a1).x) < pN ∧ nv (vF (g2 a0 a1).y) < pN ∧ nv (vF (g2 b0 b1).x) < pN ∧ nv (vF (g2 b0 b1).y) < pN ∧ (!qL (nL2 ((g2 a0 a1) - (g2 b0 b1))) (nL2 ((G2 (g2 a0 a1)) - (G2 (g2 b0 b1))))) = false ∧ nv (vF (g2 a0 a1).x) < pN ∧ nv (vF (g2 a0 a1).y) < pN ∧ (!qL (nL2 (F2p.ng (g2 a0 a1))) (nL2 (F2p.ng (G2 (g2 a0 a1))))) = false ∧ nv (vF (g2 a0 a1).x) < pN ∧ nv (vF (g2 a0 a1).y) < pN ∧ nv (vF (g2 b0 b1).x) < pN ∧ nv (vF (g2 b0 b1).y) < pN ∧ (!qL (nL2 ((g2 a0 a1) * (g2 b0 b1))) (nL2 ((G2 (g2 a0 a1)) * (G2 (g2 b0 b1))))) = false ∧ nv (vF (g2 a0 a1).x) < pN ∧ nv (vF (g2 a0 a1).y) < pN ∧ (!qL (nL2 (F2p.cj (g2 a0 a1))) (nL2 (F2p.cj (G2 (g2 a0 a1))))) = false ∧ nv (vF (g2 a0 a1).x) < pN ∧ nv (vF (g2 a0 a1).y) < pN ∧ dRB (G2 (g2 a0 a1)) = false ∧ (!decide (false = ieq (F2p.rtE (g2 a0 a1)) 0)) = false ∧ (!ieq (F2p.rtE (g2 a0 a1)) 6) = false ∧ (!qL (nL2 (F2p.rt (g2 a0 a1))) zL2) = false ∧ qL (nL2 (g2 a0 a1)) zL2 = false ∧ nv (vF (g2 a0 a1).x) < pN ∧ nv (vF (g2 a0 a1).y) < pN ∧ qL (nL2 (F2p.invz (g2 a0 a1))) (nL2 (F2p.inv' (G2 (g2 a0 a1)))) = true ∧ ieq (F2p.invE (g2 a0 a1)) 0 = true ∧ endT) ?_ (by kernel_rfl)
      exact ⟨lt_vF _, lt_vF _, lt_vF _, lt_vF _, q2_not (by simp only [G2_eq]), lt_vF _, lt_vF _, lt_vF _, lt_vF _, q2_not (by simp only [G2_eq]), lt_vF _, lt_vF _, q2_not (by simp only [G2_eq]), lt_vF _, lt_vF _, lt_vF _, lt_vF _, q2_not (by simp only [G2_eq]), lt_vF _, lt_vF _, q2_not (by simp only [G2_eq]), lt_vF _, lt_vF _, by rw [hG]; exact hD2.1, by rw [hR.1]; rfl, by rw [hR.1]; rfl, by rw [q2_z, hR.2]; rfl, by rw [q2_z]; exact hz, lt_vF _, lt_vF _, q2_of (by rw [hG]; exact inv2_doc hz), by rw [invE_f hz]; rfl, endT_ok⟩
    · skip
      refine evS_q mixed tt_ok GTw2_ok 300 [⟨2,6,.lit (.bo false)⟩,⟨2,14,.lit (.bo false)⟩,⟨2,21,.lit (.bo false)⟩,⟨2,30,.lit (.bo false)⟩,⟨2,37,.lit (.bo false)⟩,⟨6,7,.lit (.bo false)⟩,⟨7,3,.lit (.bo false)⟩,⟨7,9,.lit (.bo false)⟩,⟨7,13,.lit (.bo false)⟩,⟨9,2,.lit (.bo true)⟩,⟨10,2,.lit (.bo true)⟩,⟨10,5,.lit (.bo true)⟩] ?_
      refine same (p := nv (vF (g2 a0 a1).x) < pN ∧ nv (vF (g2 a0 a1).y) < pN ∧ nv (vF (g2 b0 b1).x) < pN ∧ nv (vF (g2 b0 b1).y) < pN ∧ (!qL (nL2 ((g2 a0 a1) + (g2 b0 b1))) (nL2 ((G2 (g2 a0 a1)) + (G2 (g2 b0 b1))))) = false ∧ nv (vF (g2 a0 a1).x) < pN ∧ nv (vF (g2 a0 a1).y) < pN ∧ nv (vF (g2 b0 b1).x) < pN ∧ nv (vF (g2 b0 b1).y) < pN ∧ (!qL (nL2 ((g2 a0 a1) - (g2 b0 b1))) (nL2 ((G2 (g2 a0 a1)) - (G2 (g2 b0 b1))))) = false ∧ nv (vF (g2 a0 a1).x) < pN ∧ nv (vF (g2 a0 a1).y) < pN ∧ (!qL (nL2 (F2p.ng (g2 a0 a1))) (nL2 (F2p.ng (G2 (g2 a0 a1))))) = false ∧ nv (vF (g2 a0 a1).x) < pN ∧ nv (vF (g2 a0 a1).y) < pN ∧ nv (vF (g2 b0 b1).x) < pN ∧ nv (vF (g2 b0 b1).y) < pN ∧ (!qL (nL2 ((g2 a0 a1) * (g2 b0 b1))) (nL2 ((G2 (g2 a0 a1)) * (G2 (g2 b0 b1))))) = false ∧ nv (vF (g2 a0 a1).x) < pN ∧ nv (vF (g2 a0 a1).y) < pN ∧ (!qL (nL2 (F2p.cj (g2 a0 a1))) (nL2 (F2p.cj (G2 (g2 a0 a1))))) = false ∧ nv (vF (g2 a0 a1).x) < pN ∧ nv (vF (g2 a0 a1).y) < pN ∧ dRB (G2 (g2 a0 a1)) = false ∧ (!decide (false = ieq (F2p.rtE (g2 a0 a1)) 0)) = false ∧ (!ieq (F2p.rtE (g2 a0 a1)) 6) = false ∧ (!qL (nL2 (F2p.rt (g2 a0 a1))) zL2) = false ∧ qL (nL2 (g2 a0 a1)) zL2 = true ∧ qL (nL2 (F2p.invz (g2 a0 a1))) zL2 = true ∧ ieq (F2p.invE (g2 a0 a1)) 6 = true ∧ endT) ?_ (by kernel_rfl)
      exact ⟨lt_vF _, lt_vF _, lt_vF _, lt_vF _, q2_not (by simp only [G2_eq]), lt_vF _, lt_vF _, lt_vF _, lt_vF _, q2_not (by simp only [G2_eq]), lt_vF _, lt_vF _, q2_not (by simp only [G2_eq]), lt_vF _, lt_vF _, lt_vF _, lt_vF _, q2_not (by simp only [G2_eq]), lt_vF _, lt_vF _, q2_not (by simp only [G2_eq]), lt_vF _, lt_vF _, by rw [hG]; exact hD2.1, by rw [hR.1]; rfl, by rw [hR.1]; rfl, by rw [q2_z, hR.2]; rfl, by rw [q2_z]; exact hz, by rw [q2_z, inv2_zero hz]; rfl, by rw [invE_t hz]; rfl, endT_ok⟩

theorem towerTwo_lifted (os : Os) (started : os.Started) (H : Type) (enc : TypeId × Value → H) :
    ReturnsInHanded {} Try.checked os 3 .any (Rows.towerTwoSpec.pre6 enc Try.prog Try.f3 Rows.towerTwoRow.domain false) (Rows.towerTwoSpec.post enc Try.prog Try.f3 false true false false) := by
  refine returnsInHanded_of_change (C := Try.checked) Try.own started (by kernel_rfl) Try.func3
    (ChangeSpec.witness6 (enc := enc) (C := Try.checked) false ⟨#[], #[.agg #[.int .u64 0, .int .u64 0, .int .u64 0, .int .u64 0, .int .u64 0, .int .u64 0, .int .u64 0, .int .u64 0, .int .u64 0, .int .u64 0, .int .u64 0, .int .u64 0], .agg #[.int .u64 0, .int .u64 0, .int .u64 0, .int .u64 0, .int .u64 0, .int .u64 0, .int .u64 0, .int .u64 0, .int .u64 0, .int .u64 0, .int .u64 0, .int .u64 0]], []⟩ 8 (by kernel_rfl) (by kernel_rfl) (by kernel_rfl) (by kernel_rfl)) ?_
  intro Wd base args ds gs before hval0 hW _ _
  have hval : ∀ (j : Nat) t v, Try.f3.params[j]? = some t → args[j]? = some v → Value.okWide Try.prog Wd .any base t v := hval0
  have hW' := hW
  obtain ⟨p, q, hA0, hV, rfl, _, _⟩ := hW
  have hA : DataW.TrodAll enc Try.prog Wd 0 (fun _ => true) true Try.f3.params.toList args.toList ds p := hA0
  rw [Try.params3] at hA hval
  obtain ⟨v0, v1, d0, d1, p0, p1, rfl, rfl, rfl, h0, h1⟩ := trodAll_two hA
  obtain ⟨rfl, rfl⟩ := trodVars_none hV
  obtain ⟨x0, y0, rfl, rfl, t0⟩ := e2_open h0 (hval 0 26 v0 rfl rfl)
  obtain ⟨x1, y1, rfl, rfl, t1⟩ := e2_open h1 (hval 1 26 v1 rfl rfl)
  clear hA0 hval0
  simp only [List.append_nil] at hW'
  refine (towerTwo_calls x0 y0 x1 y1 Wd).mono fun e W' ⟨he, hw⟩ => ?_
  subst he
  have hg := hw.grown
  exact ⟨_, rfl, post_of_same (pa := []) (pv := []) hW' (fun _ _ _ => trodAll_mk1 (shut_bool Try.underlying4 true)) (fun sp _ => trodAll_mk2 (t0 _ _ _ _) (t1 _ _ _ _)) (fun _ _ => rfl) rfl (hg.frame _) hg.2.1 (ok_one (by kernel_rfl) rfl (okWide_bool_mk Try.underlying4 true))⟩

theorem towerTwo_holds : Rows.TowerTwoSaid :=
  OpenClaim.holds_of_wide 3 Try.f3 rfl rfl rfl rfl rfl rfl rfl ⟨rfl, rfl, rfl, rfl, rfl⟩ rfl rfl rfl rfl rfl (by kernel_rfl) Try.func3 (by kernel_rfl)
    (of_decide_eq_true (by kernel_rfl)) (by unfold Func.isWrapper; rw [if_neg (of_decide_eq_false (by kernel_rfl))]; exact ⟨rfl, rfl⟩)
    (fun os started H enc _ => towerTwo_lifted os started H enc)
end Go.Proofs.Ytkmfiefnaeikdaa
