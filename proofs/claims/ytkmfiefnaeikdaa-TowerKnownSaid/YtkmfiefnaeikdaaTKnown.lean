/- reliquarylaw03.TowerKnown answers true at every input, and leaves it as it was. Conditions: none. Printed by genlaws3.py. -/
import Derived.Test.YtkmfiefnaeikdaaRows
import Derived.Test.YtkmfiefnaeikdaaZD
import Derived.Test.YtkmfiefnaeikdaaZE
import Derived.Carry
namespace Go.Proofs.Ytkmfiefnaeikdaa
open Go.Rq Go Go.ChangeShapes Go.WideShapes Go.ChangeAt Go.RowKit
set_option maxRecDepth 100000
set_option linter.unusedVariables false
set_option linter.unusedSimpArgs false
def GKn3 : Ctx := ctxL [(26, .pure cAwake3), (27, .pure cSmall), (48, .pure (c12 wL)), (49, .pure cOf), (29, .pure (c12 (n12 1))), (18, .pure (u2 (· * ·))), (16, .pure (u1 F2p.ng)), (20, .pure (u1 F2p.cj)), (22, .pure uI), (23, .pure uR), (37, .pure (t121 S12.conj)), (39, .pure cTFrob), (43, .pure cTInv)]
theorem GKn3_ok : CtxOk Try.prog GKn3 := ctxL_cons okAwake3 <| ctxL_cons okSmall <| ctxL_cons okW <| ctxL_cons okOf <| ctxL_cons okTOne <| ctxL_cons okUMul2 <| ctxL_cons okUNeg2 <| ctxL_cons okUConj2 <| ctxL_cons okUInv2 <| ctxL_cons okURoot2 <| ctxL_cons okTConj <| ctxL_cons okTFrob <| ctxL_cons okTInv ctxL_nil
theorem zz_eq : g2 (fun _ => 0) (fun _ => 0) = 0 := F2p.ext gN_z gN_z
theorem add_zz (x : F2p) : x + g2 (fun _ => 0) (fun _ => 0) = x := by rw [zz_eq]; exact Rg.add_zero x
theorem invE_f {x : F2p} (h : z2 x.x x.y = false) : F2p.invE x = 0 := by unfold F2p.invE iE; rw [h, cond_false]
theorem invE_t {x : F2p} (h : z2 x.x x.y = true) : F2p.invE x = 6 := by unfold F2p.invE iE; rw [h, cond_true]
theorem inv2_mul {x : F2p} (h : z2 x.x x.y = false) : F2p.invz x * x = 1 := by
  have h0 : x ≠ 0 := fun e => by rw [(z2_iff x.x x.y).2 (by rw [e]; exact ⟨rfl, rfl⟩)] at h; cases h
  have e1 : F2p.invz x = F2p.inv' x := by
    unfold F2p.invz iX iY F2p.inv' inv2x inv2y eInv nor2 F2p.nrm
    rw [h, cond_false, cond_false, ePow_eq]
  rw [e1, Rg.mul_comm]
  exact F2p.mul_inv h0
theorem kq {x y : Fp} (h : x = y) {f : Nat → Nat} (k : nv (vF y) = nv f) : eqN W 6 (vF x) f = true := by subst h; exact eqN_nv k
theorem kz {x : Fp} (h : x = 0) : eqN W 6 (vF x) (fun _ => 0) = true := kq h zero_vF.symm
theorem kw {x : Fp} (k : Nat) (hk : k < W) (h : x = ofN k) : eqN W 6 (vF x) (wd (k % W)) = true := kq h (nv_v k hk)
theorem sm_eq (k l : Nat) (hk : k < W) (hl : l < W) : g2 (wd (k % W)) (wd (l % W)) = ⟨ofN k, ofN l⟩ := F2p.ext (gN_sm k hk) (gN_sm l hl)
theorem q2_w (s : F2p) (k l : Nat) (hk : k < W) (hl : l < W) (h : s = ⟨ofN k, ofN l⟩) : qL (nL2 s) [wd (k % W), wd (l % W)] = true := by
  subst h
  exact qL_nv2 (nv_v k hk) (nv_v l hl)
theorem wg_eq : (g12 (fun _ => 0) (fun _ => 0) (wd (1 % W)) (wd (0 % W)) (fun _ => 0) (fun _ => 0) (fun _ => 0) (fun _ => 0) (fun _ => 0) (fun _ => 0) (fun _ => 0) (fun _ => 0)) = S12.w1 := by
  simp only [g12, gN_sm 1 (by decide), gN_sm 0 (by decide), gN_z, ofN_one, ofN_zero]
  rfl
theorem z12_zero : (g12 (fun _ => 0) (fun _ => 0) (fun _ => 0) (fun _ => 0) (fun _ => 0) (fun _ => 0) (fun _ => 0) (fun _ => 0) (fun _ => 0) (fun _ => 0) (fun _ => 0) (fun _ => 0)) = 0 := by
  simp only [g12, gN_z]
  rfl
theorem one_eq : g2 (wd (1 % W)) (wd (0 % W)) = 1 := by rw [sm_eq 1 0 (by decide) (by decide)]; exact F2p.ext ofN_one ofN_zero
theorem I_eq : g2 (wd (0 % W)) (wd (1 % W)) = F2p.i2 := by rw [sm_eq 0 1 (by decide) (by decide)]; exact F2p.ext ofN_zero ofN_one
theorem ng_eq : F2p.ng 1 = ⟨0 - 1, 0⟩ := F2p.ext rfl (Rg.sub_self (0 : Fp))
theorem no_m1 : ¬ sqr (0 - 1 : Fp) := by
  rw [sqr_iff fun e => absurd (congrArg Fin.val e) (by decide), ch_m1]
  exact fun e => one_ne_m1 e.symm
theorem no_two : ¬ sqr (ofN 2) := by
  rw [sqr_iff fun e => absurd (congrArg Fin.val e) (by decide), ch_two]
  exact fun e => one_ne_m1 e.symm
theorem rtF_one : rtF 1 = 1 := Rg.one_pow _
theorem rtF_zero : rtF 0 = 0 := pow_zero_pos (by decide)
theorem rt_m1 : F2p.rt ⟨0 - 1, 0⟩ = ⟨ofN 0, ofN 1⟩ ∧ F2p.rtE ⟨0 - 1, 0⟩ = 0 := by
  have hk : rtOk (0 - 1) = false := by rw [← Bool.not_eq_true, rtOk_sq]; exact no_m1
  have hz : Nat.beq (0 : Fp).val 0 = true := by kernel_rfl
  have h2 : r2 (0 - 1) 0 = r2l 0 1 := by
    unfold r2
    rw [hz, cond_true, hk, cond_false, rtC_eq, cr_q12, rtF_one]
  have h3 := rt_of h2
  rw [h3.1, h3.2, r2l_x, r2l_y, r2l_e]
  exact ⟨F2p.ext (Fin.ext (by kernel_rfl)) (Fin.ext (by kernel_rfl)), rfl⟩
theorem rt_zero : F2p.rt ⟨0, 0⟩ = ⟨0, 0⟩ ∧ F2p.rtE ⟨0, 0⟩ = 0 := by
  have hk : rtOk 0 = true := by rw [rtOk_sq]; exact ⟨0, cr_q6 0⟩
  have hz : Nat.beq (0 : Fp).val 0 = true := by kernel_rfl
  have h2 : r2 0 0 = r2l 0 0 := by
    unfold r2
    rw [hz, cond_true, hk, cond_true, rtC_eq, rtF_zero]
  have h3 := rt_of h2
  rw [h3.1, h3.2, r2l_x, r2l_y, r2l_e]
  exact ⟨F2p.ext (Fin.ext (by kernel_rfl)) (Fin.ext (by kernel_rfl)), rfl⟩
theorem turns_one (n : Nat) : S12.turns n 1 = 1 := by rw [S12.turns_pow, Rg.one_pow]
theorem conj_w1 : S12.conj S12.w1 = ⟨⟨0, 0, 0⟩, ⟨⟨0 - 1, 0⟩, 0, 0⟩⟩ := by
  have h : (0 : F2p) - 0 = 0 := Rg.sub_self _
  exact S12.ext rfl (S6.ext (F2p.ext rfl (Rg.sub_self (0 : Fp))) h h)
theorem cr_uq {α : Type} [CR α] {a b c : α} (h : b * a = 1) (k : c * a = 1) : b = c := by
  have : b = b * (c * a) := by rw [k, Rg.mul_one]
  have h2 : b * (c * a) = c * (b * a) := by clear h k this; grind
  rw [this, h2, h, Rg.mul_one]
theorem towerKnown_calls (w : World) :
    Calls Try.prog 10 (([] : List AV).map (AV.val fun _ => 0)).toArray w (fun e w' => e = .returned (.bool true) ∧ StepW w w') := by
  refine pure_calls tt_ok Try.func10 (by kernel_rfl) (by kernel_rfl) (v := .v1 (.sc (.bo true))) (by kernel_rfl) ?_ w
  have hM : (G2 (F2p.ng (g2 (wd (1 % W)) (wd (0 % W))))) = ⟨0 - 1, 0⟩ := by rw [G2_eq, one_eq, ng_eq]
  have h11 := rt_no (z := (g2 (wd (1 % W)) (wd (1 % W)))) (by
    have e : (g2 (wd (1 % W)) (wd (1 % W))) = kx := by rw [sm_eq 1 1 (by decide) (by decide)]; exact F2p.ext ofN_one ofN_one
    rw [e, F2p.nrm_kx]; exact no_two)
  have hzI : z2 (g2 (wd (0 % W)) (wd (1 % W))).x (g2 (wd (0 % W)) (wd (1 % W))).y = false := by rw [I_eq]; kernel_rfl
  have hinv : F2p.invz (g2 (wd (0 % W)) (wd (1 % W))) = F2p.ng (g2 (wd (0 % W)) (wd (1 % W))) := cr_uq (inv2_mul hzI) (by rw [I_eq]; exact F2p.ext (Fin.ext (by kernel_rfl)) (Fin.ext (by kernel_rfl)))
  have o1 : qL (nL (S12.conj (g12 (fun _ => 0) (fun _ => 0) (wd (1 % W)) (wd (0 % W)) (fun _ => 0) (fun _ => 0) (fun _ => 0) (fun _ => 0) (fun _ => 0) (fun _ => 0) (fun _ => 0) (fun _ => 0)))) [(fun _ => 0), (fun _ => 0), vF (F2p.ng (g2 (wd (1 % W)) (wd (0 % W)))).x, vF (F2p.ng (g2 (wd (1 % W)) (wd (0 % W)))).y, (fun _ => 0), (fun _ => 0), (fun _ => 0), (fun _ => 0), (fun _ => 0), (fun _ => 0), (fun _ => 0), (fun _ => 0)] = true := by
    rw [wg_eq, conj_w1, one_eq, ng_eq]
    have k0 : eqN W 6 (vF (0 : Fp)) (fun _ => 0) = true := kz rfl
    show (eqN W 6 (vF (0 : Fp)) (fun _ => 0) && (eqN W 6 (vF (0 : Fp)) (fun _ => 0) && (eqN W 6 (vF (0 - 1 : Fp)) (vF (0 - 1 : Fp)) && (eqN W 6 (vF (0 : Fp)) (vF (0 : Fp)) && (eqN W 6 (vF (0 : Fp)) (fun _ => 0) && (eqN W 6 (vF (0 : Fp)) (fun _ => 0) && (eqN W 6 (vF (0 : Fp)) (fun _ => 0) && (eqN W 6 (vF (0 : Fp)) (fun _ => 0) && (eqN W 6 (vF (0 : Fp)) (fun _ => 0) && (eqN W 6 (vF (0 : Fp)) (fun _ => 0) && (eqN W 6 (vF (0 : Fp)) (fun _ => 0) && (eqN W 6 (vF (0 : Fp)) (fun _ => 0) && true)))))))))))) = true
    rw [k0, (eqN_vF _ _).2 rfl, (eqN_vF _ _).2 rfl]; rfl
  have o2 : qL (nL (S12.turns (mq 12) (g12 (fun _ => 0) (fun _ => 0) (wd (1 % W)) (wd (0 % W)) (fun _ => 0) (fun _ => 0) (fun _ => 0) (fun _ => 0) (fun _ => 0) (fun _ => 0) (fun _ => 0) (fun _ => 0)))) [(fun _ => 0), (fun _ => 0), (wd (1 % W)), (wd (0 % W)), (fun _ => 0), (fun _ => 0), (fun _ => 0), (fun _ => 0), (fun _ => 0), (fun _ => 0), (fun _ => 0), (fun _ => 0)] = true := by
    have e0 : mq 12 = 0 := by kernel_rfl
    rw [e0, wg_eq]
    have k0 : eqN W 6 (vF (0 : Fp)) (fun _ => 0) = true := kz rfl
    have k1 : eqN W 6 (vF (1 : Fp)) (wd (1 % W)) = true := kw 1 (by decide) ofN_one.symm
    have k2 : eqN W 6 (vF (0 : Fp)) (wd (0 % W)) = true := kw 0 (by decide) ofN_zero.symm
    show (eqN W 6 (vF (0 : Fp)) (fun _ => 0) && (eqN W 6 (vF (0 : Fp)) (fun _ => 0) && (eqN W 6 (vF (1 : Fp)) (wd (1 % W)) && (eqN W 6 (vF (0 : Fp)) (wd (0 % W)) && (eqN W 6 (vF (0 : Fp)) (fun _ => 0) && (eqN W 6 (vF (0 : Fp)) (fun _ => 0) && (eqN W 6 (vF (0 : Fp)) (fun _ => 0) && (eqN W 6 (vF (0 : Fp)) (fun _ => 0) && (eqN W 6 (vF (0 : Fp)) (fun _ => 0) && (eqN W 6 (vF (0 : Fp)) (fun _ => 0) && (eqN W 6 (vF (0 : Fp)) (fun _ => 0) && (eqN W 6 (vF (0 : Fp)) (fun _ => 0) && true)))))))))))) = true
    rw [k0, k1, k2]; rfl
  have o3 : qL [vF (F2p.cj (g2 (wd (1 % W)) (wd (1 % W)))).x] [(wd (1 % W))] = true := by
    show (eqN W 6 (vF (gN (wd (1 % W)))) (wd (1 % W)) && true) = true
    rw [kw 1 (by decide) (gN_sm 1 (by decide))]; rfl
  refine evS_q mixed tt_ok GKn3_ok 200 [⟨9,5,.lit (.bo true)⟩,⟨9,10,.lit (.bo true)⟩,⟨9,16,.lit (.bo true)⟩,⟨10,6,.lit (.bo true)⟩,⟨10,12,.lit (.bo true)⟩,⟨10,16,.lit (.bo true)⟩,⟨10,20,.lit (.bo true)⟩,⟨10,25,.lit (.bo true)⟩,⟨10,29,.lit (.bo true)⟩,⟨10,33,.lit (.bo true)⟩,⟨10,38,.lit (.bo true)⟩,⟨10,42,.lit (.bo true)⟩,⟨10,46,.lit (.bo true)⟩,⟨10,56,.lit (.bo true)⟩] ?_
  refine same (p := qL (nL (S12.conj (g12 (fun _ => 0) (fun _ => 0) (wd (1 % W)) (wd (0 % W)) (fun _ => 0) (fun _ => 0) (fun _ => 0) (fun _ => 0) (fun _ => 0) (fun _ => 0) (fun _ => 0) (fun _ => 0)))) [(fun _ => 0), (fun _ => 0), vF (F2p.ng (g2 (wd (1 % W)) (wd (0 % W)))).x, vF (F2p.ng (g2 (wd (1 % W)) (wd (0 % W)))).y, (fun _ => 0), (fun _ => 0), (fun _ => 0), (fun _ => 0), (fun _ => 0), (fun _ => 0), (fun _ => 0), (fun _ => 0)] = true ∧ qL (nL (S12.turns (mq 12) (g12 (fun _ => 0) (fun _ => 0) (wd (1 % W)) (wd (0 % W)) (fun _ => 0) (fun _ => 0) (fun _ => 0) (fun _ => 0) (fun _ => 0) (fun _ => 0) (fun _ => 0) (fun _ => 0)))) [(fun _ => 0), (fun _ => 0), (wd (1 % W)), (wd (0 % W)), (fun _ => 0), (fun _ => 0), (fun _ => 0), (fun _ => 0), (fun _ => 0), (fun _ => 0), (fun _ => 0), (fun _ => 0)] = true ∧ qL (nL (S12.turns (mq 5) (G12 1))) (nL 1) = true ∧ qL (nL2 ((g2 (wd (0 % W)) (wd (1 % W))) * (g2 (wd (0 % W)) (wd (1 % W))))) (nL2 (F2p.ng (g2 (wd (1 % W)) (wd (0 % W))))) = true ∧ qL (nL2 (F2p.invz (g2 (wd (0 % W)) (wd (1 % W))))) (nL2 (F2p.ng (g2 (wd (0 % W)) (wd (1 % W))))) = true ∧ ieq (F2p.invE (g2 (wd (0 % W)) (wd (1 % W)))) 0 = true ∧ ieq (F2p.invE (g2 (fun _ => 0) (fun _ => 0))) 6 = true ∧ qL (nL2 (F2p.rt (G2 (F2p.ng (g2 (wd (1 % W)) (wd (0 % W))))))) [(wd (0 % W)), (wd (1 % W))] = true ∧ ieq (F2p.rtE (G2 (F2p.ng (g2 (wd (1 % W)) (wd (0 % W)))))) 0 = true ∧ ieq (F2p.rtE (g2 (wd (1 % W)) (wd (1 % W)))) 6 = true ∧ qL (nL2 (F2p.rt (g2 (fun _ => 0) (fun _ => 0)))) zL2 = true ∧ ieq (F2p.rtE (g2 (fun _ => 0) (fun _ => 0))) 0 = true ∧ ieq (invE (g12 (fun _ => 0) (fun _ => 0) (fun _ => 0) (fun _ => 0) (fun _ => 0) (fun _ => 0) (fun _ => 0) (fun _ => 0) (fun _ => 0) (fun _ => 0) (fun _ => 0) (fun _ => 0))) 6 = true ∧ qL [vF (F2p.cj (g2 (wd (1 % W)) (wd (1 % W)))).x] [(wd (1 % W))] = true ∧ endT) ?_ (by kernel_rfl)
  exact ⟨o1, o2, qn_of (by rw [G12_eq]; exact turns_one _), q2_of (by rw [I_eq, one_eq, ng_eq]; exact F2p.ext (Fin.ext (by kernel_rfl)) (Fin.ext (by kernel_rfl))), q2_of hinv, by rw [invE_f hzI]; rfl, by rw [invE_t (by rw [zz_eq]; rfl)]; rfl, q2_w _ 0 1 (by decide) (by decide) (by rw [hM, rt_m1.1]), by rw [hM, rt_m1.2]; rfl, by rw [h11.1]; rfl, by rw [zz_eq, q2_z]; exact (z2_iff _ _).2 (by rw [show F2p.rt 0 = ⟨0, 0⟩ from rt_zero.1]; exact ⟨rfl, rfl⟩), by rw [zz_eq, show F2p.rtE 0 = 0 from rt_zero.2]; rfl, by rw [z12_zero]; unfold invE; rw [(z12_iff 0).2 rfl]; rfl, o3, endT_ok⟩

theorem towerKnown_lifted (os : Os) (started : os.Started) (H : Type) (enc : TypeId × Value → H) :
    ReturnsInHanded {} Try.checked os 10 .any (Rows.towerKnownSpec.pre6 enc Try.prog Try.f10 Rows.towerKnownRow.domain false) (Rows.towerKnownSpec.post enc Try.prog Try.f10 false true false false) := by
  refine returnsInHanded_of_change (C := Try.checked) Try.own started (by kernel_rfl) Try.func10
    (ChangeSpec.witness6 (enc := enc) (C := Try.checked) false ⟨#[], #[], []⟩ 8 (by kernel_rfl) (by kernel_rfl) (by kernel_rfl) (by kernel_rfl)) ?_
  intro Wd base args ds gs before hval0 hW _ _
  have hval : ∀ (j : Nat) t v, Try.f10.params[j]? = some t → args[j]? = some v → Value.okWide Try.prog Wd .any base t v := hval0
  have hW' := hW
  obtain ⟨p, q, hA0, hV, rfl, _, _⟩ := hW
  have hA : DataW.TrodAll enc Try.prog Wd 0 (fun _ => true) true Try.f10.params.toList args.toList ds p := hA0
  rw [Try.params10] at hA hval
  obtain ⟨rfl, rfl, rfl⟩ := trodAll_none hA
  obtain ⟨rfl, rfl⟩ := trodVars_none hV
  clear hA0 hval0
  refine (towerKnown_calls  Wd).mono fun e W' ⟨he, hw⟩ => ?_
  subst he
  have hg := hw.grown
  exact ⟨_, rfl, post_of_same (pa := []) (pv := []) hW' (fun _ _ _ => trodAll_mk1 (shut_bool Try.underlying4 true)) (fun sp _ => trodAll_mk0) (fun _ _ => rfl) rfl (hg.frame _) hg.2.1 (ok_one (by kernel_rfl) rfl (okWide_bool_mk Try.underlying4 true))⟩

theorem towerKnown_holds : Rows.TowerKnownSaid :=
  OpenClaim.holds_of_wide 10 Try.f10 rfl rfl rfl rfl rfl rfl rfl ⟨rfl, rfl, rfl, rfl, rfl⟩ rfl rfl rfl rfl rfl (by kernel_rfl) Try.func10 (by kernel_rfl)
    (of_decide_eq_true (by kernel_rfl)) (by unfold Func.isWrapper; rw [if_neg (of_decide_eq_false (by kernel_rfl))]; exact ⟨rfl, rfl⟩)
    (fun os started H enc _ => towerKnown_lifted os started H enc)
end Go.Proofs.Ytkmfiefnaeikdaa
