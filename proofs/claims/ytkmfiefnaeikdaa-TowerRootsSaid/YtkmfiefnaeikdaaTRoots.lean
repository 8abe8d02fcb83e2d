/- reliquarylaw03.TowerRoots answers true at every input, and leaves it as it was. Conditions: none. Printed by genlaws3.py. -/
import Derived.Test.YtkmfiefnaeikdaaRows
import Derived.Test.YtkmfiefnaeikdaaZD
import Derived.Test.YtkmfiefnaeikdaaZE
import Derived.Carry
namespace Go.Proofs.Ytkmfiefnaeikdaa
open Go.Rq Go Go.ChangeShapes Go.WideShapes Go.ChangeAt Go.RowKit
set_option maxRecDepth 100000
set_option linter.unusedVariables false
set_option linter.unusedSimpArgs false
def GRt3 : Ctx := ctxL [(26, .pure cAwake3), (27, .pure cSmall), (18, .pure (u2 (· * ·))), (12, .pure (u2 (· + ·))), (16, .pure (u1 F2p.ng)), (23, .pure uR)]
theorem GRt3_ok : CtxOk Try.prog GRt3 := ctxL_cons okAwake3 <| ctxL_cons okSmall <| ctxL_cons okUMul2 <| ctxL_cons okUAdd2 <| ctxL_cons okUNeg2 <| ctxL_cons okURoot2 ctxL_nil
theorem zz_eq : g2 (fun _ => 0) (fun _ => 0) = 0 := F2p.ext gN_z gN_z
theorem add_zz (x : F2p) : x + g2 (fun _ => 0) (fun _ => 0) = x := by rw [zz_eq]; exact Rg.add_zero x
theorem invE_f {x : F2p} (h : z2 x.x x.y = false) : F2p.invE x = 0 := by unfold F2p.invE iE; rw [h, cond_false]
theorem invE_t {x : F2p} (h : z2 x.x x.y = true) : F2p.invE x = 6 := by unfold F2p.invE iE; rw [h, cond_true]
theorem inv2_mul {x : F2p} (h : z2 x.x x.y = false) : F2p.invz x * x = 1 := by
  have h0 : x ≠ 0 := fun e => by rw [(z2_iff x.x x.y).2 (by rw [e]; exact ⟨rfl, rfl⟩)] at h; cases h
  have e1 : F2p.invz x = F2p.inv' x := by
    unfold F2p.invz iX iY F2p.inv' inv2x inv2y eInv nor2 F2p.nrm
    rw [h, cond_false, cond_false, ePow_eq]
  rw [e1, Rg.mul_comm]
  exact F2p.mul_inv h0
theorem kq {x y : Fp} (h : x = y) {f : Nat → Nat} (k : nv (vF y) = nv f) : eqN W 6 (vF x) f = true := by subst h; exact eqN_nv k
theorem kz {x : Fp} (h : x = 0) : eqN W 6 (vF x) (fun _ => 0) = true := kq h zero_vF.symm
theorem kw {x : Fp} (k : Nat) (hk : k < W) (h : x = ofN k) : eqN W 6 (vF x) (wd (k % W)) = true := kq h (nv_v k hk)
theorem sm_eq (k l : Nat) (hk : k < W) (hl : l < W) : g2 (wd (k % W)) (wd (l % W)) = ⟨ofN k, ofN l⟩ := F2p.ext (gN_sm k hk) (gN_sm l hl)
theorem q2_w (s : F2p) (k l : Nat) (hk : k < W) (hl : l < W) (h : s = ⟨ofN k, ofN l⟩) : qL (nL2 s) [wd (k % W), wd (l % W)] = true := by
  subst h
  exact qL_nv2 (nv_v k hk) (nv_v l hl)
theorem cr_z00 : ((0 : F2p) * 0).x = 0 := congrArg F2p.x (Rg.mul_zero (0 : F2p))
theorem cr_z01 : ((0 : F2p) * 0).y = 0 := congrArg F2p.y (Rg.mul_zero (0 : F2p))
theorem cr_z02 : (0 : Fp) * 0 = F2p.nrm 0 := (Rg.mul_zero (0 : Fp)).trans F2p.nrm_z.symm
theorem cr_z03 : (0 : Fp) * 0 = F2p.nrm (0 * kx) := by rw [Rg.zero_mul]; exact cr_z02
theorem w11 : g2 (wd (1 % W)) (wd (1 % W)) = kx := by rw [sm_eq 1 1 (by decide) (by decide)]; exact F2p.ext ofN_one ofN_one
theorem z2_ne {z : F2p} (h : z ≠ 0) : z2 (z * z).x (z * z).y = false := by
  rw [← Bool.not_eq_true, z2_iff]
  intro ⟨h1, h2⟩
  exact h (F2p.sq0 (F2p.ext h1 h2))
theorem nrm_k (z : F2p) : F2p.nrm (z * kx) = F2p.nrm z * ofN 2 := by rw [F2p.nrm_mul, F2p.nrm_kx]
theorem towerRoots_calls (a0 a1 : Nat → Nat) (w : World) :
    Calls Try.prog 4 (([f2 a0 a1] : List AV).map (AV.val fun _ => 0)).toArray w (fun e w' => e = .returned (.bool true) ∧ StepW w w') := by
  refine pure_calls tt_ok Try.func4 (by kernel_rfl) (by kernel_rfl) (v := .v1 (.sc (.bo true))) (by kernel_rfl) ?_ w
  have hSn : sqr (F2p.nrm (G2 ((g2 a0 a1) * (g2 a0 a1)))) := by rw [G2_eq, F2p.nrm_mul]; exact ⟨_, rfl⟩
  have hS := rt_yes hSn
  have hRR : (F2p.rt (G2 ((g2 a0 a1) * (g2 a0 a1)))) * (F2p.rt (G2 ((g2 a0 a1) * (g2 a0 a1)))) = (g2 a0 a1) * (g2 a0 a1) := by rw [hS.2, G2_eq]
  have o1 : (!ieq (F2p.rtE (G2 ((g2 a0 a1) * (g2 a0 a1)))) 0) = false := by rw [hS.1]; rfl
  have o2 : (!qL (nL2 ((G2 (F2p.rt (G2 ((g2 a0 a1) * (g2 a0 a1))))) * (G2 (F2p.rt (G2 ((g2 a0 a1) * (g2 a0 a1))))))) (nL2 ((g2 a0 a1) * (g2 a0 a1)))) = false := q2_not (by rw [G2_eq (F2p.rt (G2 ((g2 a0 a1) * (g2 a0 a1))))]; exact hRR)
  have hK : (G2 ((g2 a0 a1) * (g2 (wd (1 % W)) (wd (1 % W))))) = (g2 a0 a1) * kx := by rw [G2_eq, w11]
  have oY : (F2p.rt (G2 ((g2 a0 a1) * (g2 (wd (1 % W)) (wd (1 % W)))))) * (F2p.rt (G2 ((g2 a0 a1) * (g2 (wd (1 % W)) (wd (1 % W)))))) = (G2 ((g2 a0 a1) * (g2 (wd (1 % W)) (wd (1 % W))))) → qL (nL2 ((G2 (F2p.rt (G2 ((g2 a0 a1) * (g2 (wd (1 % W)) (wd (1 % W))))))) * (G2 (F2p.rt (G2 ((g2 a0 a1) * (g2 (wd (1 % W)) (wd (1 % W))))))))) (nL2 ((g2 a0 a1) * (g2 (wd (1 % W)) (wd (1 % W))))) = true := fun h => q2_of (by rw [G2_eq (F2p.rt (G2 ((g2 a0 a1) * (g2 (wd (1 % W)) (wd (1 % W)))))), h, G2_eq])
  have oX : (F2p.rt (g2 a0 a1)) * (F2p.rt (g2 a0 a1)) = (g2 a0 a1) → qL (nL2 ((G2 (F2p.rt (g2 a0 a1))) * (G2 (F2p.rt (g2 a0 a1))))) (nL2 ((g2 a0 a1) + (g2 (fun _ => 0) (fun _ => 0)))) = true := fun h => q2_of (by rw [G2_eq (F2p.rt (g2 a0 a1)), h, add_zz])
  have hzb : qL (nL2 ((g2 a0 a1) * (g2 a0 a1))) zL2 = z2 (((g2 a0 a1) * (g2 a0 a1)).x) (((g2 a0 a1) * (g2 a0 a1)).y) := q2_z _
  by_cases h0 : (g2 a0 a1) = 0
  · have hX := rt_yes (z := (g2 a0 a1)) (by rw [h0]; exact ⟨0, cr_z02⟩)
    have hY := rt_yes (z := (G2 ((g2 a0 a1) * (g2 (wd (1 % W)) (wd (1 % W)))))) (by rw [hK, h0]; exact ⟨0, cr_z03⟩)
    by_cases hR : (F2p.rt (G2 ((g2 a0 a1) * (g2 a0 a1)))) = (g2 a0 a1)
    · skip
      refine evS_q mixed tt_ok GRt3_ok 200 [⟨4,1,.lit (.bo false)⟩,⟨4,7,.lit (.bo false)⟩,⟨4,14,.lit (.bo false)⟩,⟨8,2,.lit (.bo true)⟩,⟨9,3,.lit (.bo false)⟩,⟨9,11,.lit (.bo true)⟩,⟨9,26,.lit (.bo false)⟩,⟨9,34,.lit (.bo true)⟩] ?_
      refine same (p := (!ieq (F2p.rtE (G2 ((g2 a0 a1) * (g2 a0 a1)))) 0) = false ∧ (!qL (nL2 ((G2 (F2p.rt (G2 ((g2 a0 a1) * (g2 a0 a1))))) * (G2 (F2p.rt (G2 ((g2 a0 a1) * (g2 a0 a1))))))) (nL2 ((g2 a0 a1) * (g2 a0 a1)))) = false ∧ (!qL (nL2 (F2p.rt (G2 ((g2 a0 a1) * (g2 a0 a1))))) (nL2 ((g2 a0 a1) + (g2 (fun _ => 0) (fun _ => 0))))) = false ∧ qL (nL2 ((g2 a0 a1) * (g2 a0 a1))) zL2 = true ∧ (!ieq (F2p.rtE (g2 a0 a1)) 0) = false ∧ qL (nL2 ((G2 (F2p.rt (g2 a0 a1))) * (G2 (F2p.rt (g2 a0 a1))))) (nL2 ((g2 a0 a1) + (g2 (fun _ => 0) (fun _ => 0)))) = true ∧ (!ieq (F2p.rtE (G2 ((g2 a0 a1) * (g2 (wd (1 % W)) (wd (1 % W)))))) 0) = false ∧ qL (nL2 ((G2 (F2p.rt (G2 ((g2 a0 a1) * (g2 (wd (1 % W)) (wd (1 % W))))))) * (G2 (F2p.rt (G2 ((g2 a0 a1) * (g2 (wd (1 % W)) (wd (1 % W))))))))) (nL2 ((g2 a0 a1) * (g2 (wd (1 % W)) (wd (1 % W))))) = true ∧ endT) ?_ (by kernel_rfl)
      exact ⟨o1, o2, q2_not (by rw [add_zz]; exact hR), by rw [hzb]; exact (z2_iff _ _).2 (by rw [h0]; exact ⟨cr_z00, cr_z01⟩), by rw [hX.1]; rfl, oX hX.2, by rw [hY.1]; rfl, oY hY.2, endT_ok⟩
    · skip
      refine evS_q mixed tt_ok GRt3_ok 200 [⟨4,1,.lit (.bo false)⟩,⟨4,7,.lit (.bo false)⟩,⟨4,14,.lit (.bo true)⟩,⟨4,19,.lit (.bo false)⟩,⟨8,2,.lit (.bo true)⟩,⟨9,3,.lit (.bo false)⟩,⟨9,11,.lit (.bo true)⟩,⟨9,26,.lit (.bo false)⟩,⟨9,34,.lit (.bo true)⟩] ?_
      refine same (p := (!ieq (F2p.rtE (G2 ((g2 a0 a1) * (g2 a0 a1)))) 0) = false ∧ (!qL (nL2 ((G2 (F2p.rt (G2 ((g2 a0 a1) * (g2 a0 a1))))) * (G2 (F2p.rt (G2 ((g2 a0 a1) * (g2 a0 a1))))))) (nL2 ((g2 a0 a1) * (g2 a0 a1)))) = false ∧ (!qL (nL2 (F2p.rt (G2 ((g2 a0 a1) * (g2 a0 a1))))) (nL2 ((g2 a0 a1) + (g2 (fun _ => 0) (fun _ => 0))))) = true ∧ (!qL (nL2 (F2p.rt (G2 ((g2 a0 a1) * (g2 a0 a1))))) (nL2 (F2p.ng (g2 a0 a1)))) = false ∧ qL (nL2 ((g2 a0 a1) * (g2 a0 a1))) zL2 = true ∧ (!ieq (F2p.rtE (g2 a0 a1)) 0) = false ∧ qL (nL2 ((G2 (F2p.rt (g2 a0 a1))) * (G2 (F2p.rt (g2 a0 a1))))) (nL2 ((g2 a0 a1) + (g2 (fun _ => 0) (fun _ => 0)))) = true ∧ (!ieq (F2p.rtE (G2 ((g2 a0 a1) * (g2 (wd (1 % W)) (wd (1 % W)))))) 0) = false ∧ qL (nL2 ((G2 (F2p.rt (G2 ((g2 a0 a1) * (g2 (wd (1 % W)) (wd (1 % W))))))) * (G2 (F2p.rt (G2 ((g2 a0 a1) * (g2 (wd (1 % W)) (wd (1 % W))))))))) (nL2 ((g2 a0 a1) * (g2 (wd (1 % W)) (wd (1 % W))))) = true ∧ endT) ?_ (by kernel_rfl)
      exact ⟨o1, o2, by rw [Bool.not_eq_true', ← Bool.not_eq_true, q2_iff, add_zz]; exact hR, q2_not ((f2_sq hRR).resolve_left hR), by rw [hzb]; exact (z2_iff _ _).2 (by rw [h0]; exact ⟨cr_z00, cr_z01⟩), by rw [hX.1]; rfl, oX hX.2, by rw [hY.1]; rfl, oY hY.2, endT_ok⟩
  · have hn : F2p.nrm (g2 a0 a1) ≠ 0 := fun e => h0 (F2p.nrm_0 e)
    have h2 := sqr_two hn
    by_cases hs : sqr (F2p.nrm (g2 a0 a1))
    · have hX := rt_yes hs
      have hY := rt_no (z := (G2 ((g2 a0 a1) * (g2 (wd (1 % W)) (wd (1 % W)))))) (by rw [hK, nrm_k]; exact h2.1 hs)
      by_cases hR : (F2p.rt (G2 ((g2 a0 a1) * (g2 a0 a1)))) = (g2 a0 a1)
      · skip
        refine evS_q mixed tt_ok GRt3_ok 200 [⟨4,1,.lit (.bo false)⟩,⟨4,7,.lit (.bo false)⟩,⟨4,14,.lit (.bo false)⟩,⟨8,2,.lit (.bo false)⟩,⟨9,3,.lit (.bo false)⟩,⟨9,11,.lit (.bo true)⟩,⟨9,21,.lit (.bo true)⟩,⟨9,26,.lit (.bo true)⟩] ?_
        refine same (p := (!ieq (F2p.rtE (G2 ((g2 a0 a1) * (g2 a0 a1)))) 0) = false ∧ (!qL (nL2 ((G2 (F2p.rt (G2 ((g2 a0 a1) * (g2 a0 a1))))) * (G2 (F2p.rt (G2 ((g2 a0 a1) * (g2 a0 a1))))))) (nL2 ((g2 a0 a1) * (g2 a0 a1)))) = false ∧ (!qL (nL2 (F2p.rt (G2 ((g2 a0 a1) * (g2 a0 a1))))) (nL2 ((g2 a0 a1) + (g2 (fun _ => 0) (fun _ => 0))))) = false ∧ qL (nL2 ((g2 a0 a1) * (g2 a0 a1))) zL2 = false ∧ (!ieq (F2p.rtE (g2 a0 a1)) 0) = false ∧ qL (nL2 ((G2 (F2p.rt (g2 a0 a1))) * (G2 (F2p.rt (g2 a0 a1))))) (nL2 ((g2 a0 a1) + (g2 (fun _ => 0) (fun _ => 0)))) = true ∧ (!decide (ieq (F2p.rtE (g2 a0 a1)) 0 = ieq (F2p.rtE (G2 ((g2 a0 a1) * (g2 (wd (1 % W)) (wd (1 % W)))))) 0)) = true ∧ (!ieq (F2p.rtE (G2 ((g2 a0 a1) * (g2 (wd (1 % W)) (wd (1 % W)))))) 0) = true ∧ endT) ?_ (by kernel_rfl)
        exact ⟨o1, o2, q2_not (by rw [add_zz]; exact hR), by rw [hzb]; exact z2_ne h0, by rw [hX.1]; rfl, oX hX.2, by rw [hX.1, hY.1]; rfl, by rw [hY.1]; rfl, endT_ok⟩
      · skip
        refine evS_q mixed tt_ok GRt3_ok 200 [⟨4,1,.lit (.bo false)⟩,⟨4,7,.lit (.bo false)⟩,⟨4,14,.lit (.bo true)⟩,⟨4,19,.lit (.bo false)⟩,⟨8,2,.lit (.bo false)⟩,⟨9,3,.lit (.bo false)⟩,⟨9,11,.lit (.bo true)⟩,⟨9,21,.lit (.bo true)⟩,⟨9,26,.lit (.bo true)⟩] ?_
        refine same (p := (!ieq (F2p.rtE (G2 ((g2 a0 a1) * (g2 a0 a1)))) 0) = false ∧ (!qL (nL2 ((G2 (F2p.rt (G2 ((g2 a0 a1) * (g2 a0 a1))))) * (G2 (F2p.rt (G2 ((g2 a0 a1) * (g2 a0 a1))))))) (nL2 ((g2 a0 a1) * (g2 a0 a1)))) = false ∧ (!qL (nL2 (F2p.rt (G2 ((g2 a0 a1) * (g2 a0 a1))))) (nL2 ((g2 a0 a1) + (g2 (fun _ => 0) (fun _ => 0))))) = true ∧ (!qL (nL2 (F2p.rt (G2 ((g2 a0 a1) * (g2 a0 a1))))) (nL2 (F2p.ng (g2 a0 a1)))) = false ∧ qL (nL2 ((g2 a0 a1) * (g2 a0 a1))) zL2 = false ∧ (!ieq (F2p.rtE (g2 a0 a1)) 0) = false ∧ qL (nL2 ((G2 (F2p.rt (g2 a0 a1))) * (G2 (F2p.rt (g2 a0 a1))))) (nL2 ((g2 a0 a1) + (g2 (fun _ => 0) (fun _ => 0)))) = true ∧ (!decide (ieq (F2p.rtE (g2 a0 a1)) 0 = ieq (F2p.rtE (G2 ((g2 a0 a1) * (g2 (wd (1 % W)) (wd (1 % W)))))) 0)) = true ∧ (!ieq (F2p.rtE (G2 ((g2 a0 a1) * (g2 (wd (1 % W)) (wd (1 % W)))))) 0) = true ∧ endT) ?_ (by kernel_rfl)
        exact ⟨o1, o2, by rw [Bool.not_eq_true', ← Bool.not_eq_true, q2_iff, add_zz]; exact hR, q2_not ((f2_sq hRR).resolve_left hR), by rw [hzb]; exact z2_ne h0, by rw [hX.1]; rfl, oX hX.2, by rw [hX.1, hY.1]; rfl, by rw [hY.1]; rfl, endT_ok⟩
    · have hX := rt_no hs
      have hY := rt_yes (z := (G2 ((g2 a0 a1) * (g2 (wd (1 % W)) (wd (1 % W)))))) (by rw [hK, nrm_k]; exact Classical.byContradiction fun hc => hs (h2.2 hc))
      by_cases hR : (F2p.rt (G2 ((g2 a0 a1) * (g2 a0 a1)))) = (g2 a0 a1)
      · skip
        refine evS_q mixed tt_ok GRt3_ok 200 [⟨4,1,.lit (.bo false)⟩,⟨4,7,.lit (.bo false)⟩,⟨4,14,.lit (.bo false)⟩,⟨8,2,.lit (.bo false)⟩,⟨9,3,.lit (.bo true)⟩,⟨9,21,.lit (.bo true)⟩,⟨9,26,.lit (.bo false)⟩,⟨9,34,.lit (.bo true)⟩] ?_
        refine same (p := (!ieq (F2p.rtE (G2 ((g2 a0 a1) * (g2 a0 a1)))) 0) = false ∧ (!qL (nL2 ((G2 (F2p.rt (G2 ((g2 a0 a1) * (g2 a0 a1))))) * (G2 (F2p.rt (G2 ((g2 a0 a1) * (g2 a0 a1))))))) (nL2 ((g2 a0 a1) * (g2 a0 a1)))) = false ∧ (!qL (nL2 (F2p.rt (G2 ((g2 a0 a1) * (g2 a0 a1))))) (nL2 ((g2 a0 a1) + (g2 (fun _ => 0) (fun _ => 0))))) = false ∧ qL (nL2 ((g2 a0 a1) * (g2 a0 a1))) zL2 = false ∧ (!ieq (F2p.rtE (g2 a0 a1)) 0) = true ∧ (!decide (ieq (F2p.rtE (g2 a0 a1)) 0 = ieq (F2p.rtE (G2 ((g2 a0 a1) * (g2 (wd (1 % W)) (wd (1 % W)))))) 0)) = true ∧ (!ieq (F2p.rtE (G2 ((g2 a0 a1) * (g2 (wd (1 % W)) (wd (1 % W)))))) 0) = false ∧ qL (nL2 ((G2 (F2p.rt (G2 ((g2 a0 a1) * (g2 (wd (1 % W)) (wd (1 % W))))))) * (G2 (F2p.rt (G2 ((g2 a0 a1) * (g2 (wd (1 % W)) (wd (1 % W))))))))) (nL2 ((g2 a0 a1) * (g2 (wd (1 % W)) (wd (1 % W))))) = true ∧ endT) ?_ (by kernel_rfl)
        exact ⟨o1, o2, q2_not (by rw [add_zz]; exact hR), by rw [hzb]; exact z2_ne h0, by rw [hX.1]; rfl, by rw [hX.1, hY.1]; rfl, by rw [hY.1]; rfl, oY hY.2, endT_ok⟩
      · skip
        refine evS_q mixed tt_ok GRt3_ok 200 [⟨4,1,.lit (.bo false)⟩,⟨4,7,.lit (.bo false)⟩,⟨4,14,.lit (.bo true)⟩,⟨4,19,.lit (.bo false)⟩,⟨8,2,.lit (.bo false)⟩,⟨9,3,.lit (.bo true)⟩,⟨9,21,.lit (.bo true)⟩,⟨9,26,.lit (.bo false)⟩,⟨9,34,.lit (.bo true)⟩] ?_
        refine same (p := (!ieq (F2p.rtE (G2 ((g2 a0 a1) * (g2 a0 a1)))) 0) = false ∧ (!qL (nL2 ((G2 (F2p.rt (G2 ((g2 a0 a1) * (g2 a0 a1))))) * (G2 (F2p.rt (G2 ((g2 a0 a1) * (g2 a0 a1))))))) (nL2 ((g2 a0 a1) * (g2 a0 a1)))) = false ∧ (!qL (nL2 (F2p.rt (G2 ((g2 a0 a1) * (g2 a0 a1))))) (nL2 ((g2 a0 a1) + (g2 (fun _ => 0) (fun _ => 0))))) = true ∧ (!qL (nL2 (F2p.rt (G2 ((g2 a0 a1) * (g2 a0 a1))))) (nL2 (F2p.ng (g2 a0 a1)))) = false ∧ qL (nL2 ((g2 a0 a1) * (g2 a0 a1))) zL2 = false ∧ (!ieq (F2p.rtE (g2 a0 a1)) 0) = true ∧ (!decide (ieq (F2p.rtE (g2 a0 a1)) 0 = ieq (F2p.rtE (G2 ((g2 a0 a1) * (g2 (wd (1 % W)) (wd (1 % W)))))) 0)) = true ∧ (!ieq (F2p.rtE (G2 ((g2 a0 a1) * (g2 (wd (1 % W)) (wd (1 % W)))))) 0) = false ∧ qL (nL2 ((G2 (F2p.rt (G2 ((g2 a0 a1) * (g2 (wd (1 % W)) (wd (1 % W))))))) * (G2 (F2p.rt (G2 ((g2 a0 a1) * (g2 (wd (1 % W)) (wd (1 % W))))))))) (nL2 ((g2 a0 a1) * (g2 (wd (1 % W)) (wd (1 % W))))) = true ∧ endT) ?_ (by kernel_rfl)
        exact ⟨o1, o2, by rw [Bool.not_eq_true', ← Bool.not_eq_true, q2_iff, add_zz]; exact hR, q2_not ((f2_sq hRR).resolve_left hR), by rw [hzb]; exact z2_ne h0, by rw [hX.1]; rfl, by rw [hX.1, hY.1]; rfl, by rw [hY.1]; rfl, oY hY.2, endT_ok⟩

theorem towerRoots_lifted (os : Os) (started : os.Started) (H : Type) (enc : TypeId × Value → H) :
    ReturnsInHanded {} Try.checked os 4 .any (Rows.towerRootsSpec.pre6 enc Try.prog Try.f4 Rows.towerRootsRow.domain false) (Rows.towerRootsSpec.post enc Try.prog Try.f4 false true false false) := by
  refine returnsInHanded_of_change (C := Try.checked) Try.own started (by kernel_rfl) Try.func4
    (ChangeSpec.witness6 (enc := enc) (C := Try.checked) false ⟨#[], #[.agg #[.int .u64 0, .int .u64 0, .int .u64 0, .int .u64 0, .int .u64 0, .int .u64 0, .int .u64 0, .int .u64 0, .int .u64 0, .int .u64 0, .int .u64 0, .int .u64 0]], []⟩ 8 (by kernel_rfl) (by kernel_rfl) (by kernel_rfl) (by kernel_rfl)) ?_
  intro Wd base args ds gs before hval0 hW _ _
  have hval : ∀ (j : Nat) t v, Try.f4.params[j]? = some t → args[j]? = some v → Value.okWide Try.prog Wd .any base t v := hval0
  have hW' := hW
  obtain ⟨p, q, hA0, hV, rfl, _, _⟩ := hW
  have hA : DataW.TrodAll enc Try.prog Wd 0 (fun _ => true) true Try.f4.params.toList args.toList ds p := hA0
  rw [Try.params4] at hA hval
  obtain ⟨v0, d0, rfl, rfl, h0⟩ := trodAll_one hA
  obtain ⟨rfl, rfl⟩ := trodVars_none hV
  obtain ⟨x0, y0, rfl, rfl, t0⟩ := e2_open h0 (hval 0 26 v0 rfl rfl)
  clear hA0 hval0
  simp only [List.append_nil] at hW'
  refine (towerRoots_calls x0 y0 Wd).mono fun e W' ⟨he, hw⟩ => ?_
  subst he
  have hg := hw.grown
  exact ⟨_, rfl, post_of_same (pa := []) (pv := []) hW' (fun _ _ _ => trodAll_mk1 (shut_bool Try.underlying4 true)) (fun sp _ => trodAll_mk1 (t0 _ _ _ _)) (fun _ _ => rfl) rfl (hg.frame _) hg.2.1 (ok_one (by kernel_rfl) rfl (okWide_bool_mk Try.underlying4 true))⟩

theorem towerRoots_holds : Rows.TowerRootsSaid :=
  OpenClaim.holds_of_wide 4 Try.f4 rfl rfl rfl rfl rfl rfl rfl ⟨rfl, rfl, rfl, rfl, rfl⟩ rfl rfl rfl rfl rfl (by kernel_rfl) Try.func4 (by kernel_rfl)
    (of_decide_eq_true (by kernel_rfl)) (by unfold Func.isWrapper; rw [if_neg (of_decide_eq_false (by kernel_rfl))]; exact ⟨rfl, rfl⟩)
    (fun os started H enc _ => towerRoots_lifted os started H enc)
end Go.Proofs.Ytkmfiefnaeikdaa
