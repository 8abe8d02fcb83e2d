/- reliquarylaw03.TowerField12 answers true at every input, and leaves it as it was. Conditions: none. Printed by genlaws3.py. -/
import Derived.Test.YtkmfiefnaeikdaaRows
import Derived.Test.YtkmfiefnaeikdaaZD
import Derived.Test.YtkmfiefnaeikdaaZE
import Derived.Carry
namespace Go.Proofs.Ytkmfiefnaeikdaa
open Go.Rq Go Go.ChangeShapes Go.WideShapes Go.ChangeAt Go.RowKit
set_option maxRecDepth 100000
set_option linter.unusedVariables false
set_option linter.unusedSimpArgs false
def GF12 : Ctx := ctxL [(26, .pure cAwake3), (35, .pure (t122 S12.mul)), (31, .pure (t122 S12.add')), (33, .pure (t122 S12.sub')), (29, .pure (c12 (n12 1))), (43, .pure cTInv), (41, .pure cTWhole)]
theorem GF12_ok : CtxOk Try.prog GF12 := ctxL_cons okAwake3 <| ctxL_cons okTMul <| ctxL_cons okTAdd <| ctxL_cons okTSub <| ctxL_cons okTOne <| ctxL_cons okTInv <| ctxL_cons okTWhole ctxL_nil
theorem m_one (s : S12) : S12.mul s 1 = s := Rg.mul_one (R := S12) s
theorem whL_vF : ∀ l : List Fp, whL (l.map vF) = true
  | [] => rfl
  | x :: r => by rw [List.map_cons, whL_t (by rw [nv_vF]; exact x.isLt)]; exact whL_vF r
theorem ds {s t : S12} (h : s = t) : S12.mul s 1 = t := by rw [m_one, h]
theorem ep (x : F2p) : F2p.inv x = F2p.inv' x := by
  unfold F2p.inv F2p.inv' inv2x inv2y eInv nor2 F2p.nrm
  rw [ePow_eq]
theorem ep6 (x : S6) : S6.inv x = S6.inv' x := by
  have h1 : S6.ax x = iv4 x := by unfold S6.ax iv4 iv1 iv3 iv2; rw [xi_mul, Rg.mul_comm kx]
  have h2 : S6.ay x = iv8 x := by unfold S6.ay iv8 iv6 iv5 iv7; rw [xi_mul, Rg.mul_comm kx]
  have h3 : S6.az x = iv11 x := rfl
  have h4 : S6.nr x = iv17 x := by
    unfold S6.nr iv17 iv12 iv16 iv15 iv13 iv14
    rw [h1, h2, h3, xi_mul, Rg.mul_comm kx]
  unfold S6.inv S6.inv' iv19 iv20 iv21 iv18
  rw [h1, h2, h3, h4, ep]
theorem ep12 (x : S12) : S12.inv x = S12.inv' x := by
  have hn : jv4d x = S12.nr x := by
    unfold jv4d jv1d jv3d jv2d S12.nr
    rw [S6.next_mul]; rfl
  unfold S12.inv S12.inv' jv6d jv8d jv7d jv5d
  rw [hn, ep6]
  rfl
theorem inv_mul {s : S12} (h : z12 s = false) : S12.mul (G12 (S12.invz s)) s = 1 := by
  rw [G12_eq]
  unfold S12.invz
  rw [h, cond_false, ep12]
  have h0 : s ≠ 0 := fun e => by rw [(z12_iff s).2 e] at h; cases h
  exact (Rg.mul_comm (R := S12) _ _).trans (S12.mul_inv h0)
theorem towerField12_calls (a0 a1 a2 a3 a4 a5 a6 a7 a8 a9 a10 a11 b0 b1 b2 b3 b4 b5 b6 b7 b8 b9 b10 b11 c0 c1 c2 c3 c4 c5 c6 c7 c8 c9 c10 c11 : Nat → Nat) (w : World) :
    Calls Try.prog 9 (([.v1 (v12 a0 a1 a2 a3 a4 a5 a6 a7 a8 a9 a10 a11), .v1 (v12 b0 b1 b2 b3 b4 b5 b6 b7 b8 b9 b10 b11), .v1 (v12 c0 c1 c2 c3 c4 c5 c6 c7 c8 c9 c10 c11)] : List AV).map (AV.val fun _ => 0)).toArray w (fun e w' => e = .returned (.bool true) ∧ StepW w w') := by
  refine pure_calls tt_ok Try.func9 (by kernel_rfl) (by kernel_rfl) (v := .v1 (.sc (.bo true))) (by kernel_rfl) ?_ w
  have rdis : ∀ x y z : S12, S12.mul (S12.add' x y) z = S12.add' (S12.mul x z) (S12.mul y z) := fun x y z => cr_rd (α := S12) x y z
  have sadd : ∀ x y : S12, S12.add' (S12.sub' x y) y = x := fun x y => cr_sa (α := S12) x y
  have hz : qL (nL (S12.mul (g12 a0 a1 a2 a3 a4 a5 a6 a7 a8 a9 a10 a11) (G12 1))) zL12 = z12 (g12 a0 a1 a2 a3 a4 a5 a6 a7 a8 a9 a10 a11) := by rw [qn_z, G12_eq, m_one]
  have hw : whL (nL (S12.mul (g12 a0 a1 a2 a3 a4 a5 a6 a7 a8 a9 a10 a11) (g12 b0 b1 b2 b3 b4 b5 b6 b7 b8 b9 b10 b11))) = true := whL_vF [(S12.mul (g12 a0 a1 a2 a3 a4 a5 a6 a7 a8 a9 a10 a11) (g12 b0 b1 b2 b3 b4 b5 b6 b7 b8 b9 b10 b11)).p.u.x, (S12.mul (g12 a0 a1 a2 a3 a4 a5 a6 a7 a8 a9 a10 a11) (g12 b0 b1 b2 b3 b4 b5 b6 b7 b8 b9 b10 b11)).p.u.y, (S12.mul (g12 a0 a1 a2 a3 a4 a5 a6 a7 a8 a9 a10 a11) (g12 b0 b1 b2 b3 b4 b5 b6 b7 b8 b9 b10 b11)).q.u.x, (S12.mul (g12 a0 a1 a2 a3 a4 a5 a6 a7 a8 a9 a10 a11) (g12 b0 b1 b2 b3 b4 b5 b6 b7 b8 b9 b10 b11)).q.u.y, (S12.mul (g12 a0 a1 a2 a3 a4 a5 a6 a7 a8 a9 a10 a11) (g12 b0 b1 b2 b3 b4 b5 b6 b7 b8 b9 b10 b11)).p.v.x, (S12.mul (g12 a0 a1 a2 a3 a4 a5 a6 a7 a8 a9 a10 a11) (g12 b0 b1 b2 b3 b4 b5 b6 b7 b8 b9 b10 b11)).p.v.y, (S12.mul (g12 a0 a1 a2 a3 a4 a5 a6 a7 a8 a9 a10 a11) (g12 b0 b1 b2 b3 b4 b5 b6 b7 b8 b9 b10 b11)).q.v.x, (S12.mul (g12 a0 a1 a2 a3 a4 a5 a6 a7 a8 a9 a10 a11) (g12 b0 b1 b2 b3 b4 b5 b6 b7 b8 b9 b10 b11)).q.v.y, (S12.mul (g12 a0 a1 a2 a3 a4 a5 a6 a7 a8 a9 a10 a11) (g12 b0 b1 b2 b3 b4 b5 b6 b7 b8 b9 b10 b11)).p.w.x, (S12.mul (g12 a0 a1 a2 a3 a4 a5 a6 a7 a8 a9 a10 a11) (g12 b0 b1 b2 b3 b4 b5 b6 b7 b8 b9 b10 b11)).p.w.y, (S12.mul (g12 a0 a1 a2 a3 a4 a5 a6 a7 a8 a9 a10 a11) (g12 b0 b1 b2 b3 b4 b5 b6 b7 b8 b9 b10 b11)).q.w.x, (S12.mul (g12 a0 a1 a2 a3 a4 a5 a6 a7 a8 a9 a10 a11) (g12 b0 b1 b2 b3 b4 b5 b6 b7 b8 b9 b10 b11)).q.w.y]
  cases hb : z12 (g12 a0 a1 a2 a3 a4 a5 a6 a7 a8 a9 a10 a11)
  · have hE : invE (g12 a0 a1 a2 a3 a4 a5 a6 a7 a8 a9 a10 a11) = 0 := by unfold invE; rw [hb, cond_false]
    refine evS_q mixed tt_ok GF12_ok 200 [⟨3,4,.lit (.bo false)⟩,⟨3,14,.lit (.bo false)⟩,⟨3,29,.lit (.bo false)⟩,⟨3,40,.lit (.bo false)⟩,⟨7,3,.lit (.bo true)⟩,⟨7,9,.lit (.bo true)⟩,⟨7,13,.lit (.bo false)⟩,⟨7,19,.lit (.bo true)⟩] ?_
    refine same (p := (!qL (nL (S12.mul (g12 a0 a1 a2 a3 a4 a5 a6 a7 a8 a9 a10 a11) (g12 b0 b1 b2 b3 b4 b5 b6 b7 b8 b9 b10 b11))) (nL (S12.mul (g12 b0 b1 b2 b3 b4 b5 b6 b7 b8 b9 b10 b11) (g12 a0 a1 a2 a3 a4 a5 a6 a7 a8 a9 a10 a11)))) = false ∧ (!qL (nL (S12.mul (G12 (S12.mul (g12 a0 a1 a2 a3 a4 a5 a6 a7 a8 a9 a10 a11) (g12 b0 b1 b2 b3 b4 b5 b6 b7 b8 b9 b10 b11))) (g12 c0 c1 c2 c3 c4 c5 c6 c7 c8 c9 c10 c11))) (nL (S12.mul (g12 a0 a1 a2 a3 a4 a5 a6 a7 a8 a9 a10 a11) (G12 (S12.mul (g12 b0 b1 b2 b3 b4 b5 b6 b7 b8 b9 b10 b11) (g12 c0 c1 c2 c3 c4 c5 c6 c7 c8 c9 c10 c11)))))) = false ∧ (!qL (nL (S12.mul (G12 (S12.add' (g12 a0 a1 a2 a3 a4 a5 a6 a7 a8 a9 a10 a11) (g12 b0 b1 b2 b3 b4 b5 b6 b7 b8 b9 b10 b11))) (g12 c0 c1 c2 c3 c4 c5 c6 c7 c8 c9 c10 c11))) (nL (S12.add' (G12 (S12.mul (g12 a0 a1 a2 a3 a4 a5 a6 a7 a8 a9 a10 a11) (g12 c0 c1 c2 c3 c4 c5 c6 c7 c8 c9 c10 c11))) (G12 (S12.mul (g12 b0 b1 b2 b3 b4 b5 b6 b7 b8 b9 b10 b11) (g12 c0 c1 c2 c3 c4 c5 c6 c7 c8 c9 c10 c11)))))) = false ∧ (!qL (nL (S12.add' (G12 (S12.sub' (g12 a0 a1 a2 a3 a4 a5 a6 a7 a8 a9 a10 a11) (g12 b0 b1 b2 b3 b4 b5 b6 b7 b8 b9 b10 b11))) (g12 b0 b1 b2 b3 b4 b5 b6 b7 b8 b9 b10 b11))) (nL (S12.mul (g12 a0 a1 a2 a3 a4 a5 a6 a7 a8 a9 a10 a11) (G12 1)))) = false ∧ whL (nL (S12.mul (g12 a0 a1 a2 a3 a4 a5 a6 a7 a8 a9 a10 a11) (g12 b0 b1 b2 b3 b4 b5 b6 b7 b8 b9 b10 b11))) = true ∧ (decide ((ieq (invE (g12 a0 a1 a2 a3 a4 a5 a6 a7 a8 a9 a10 a11)) 6) = (qL (nL (S12.mul (g12 a0 a1 a2 a3 a4 a5 a6 a7 a8 a9 a10 a11) (G12 1))) zL12))) = true ∧ (!ieq (invE (g12 a0 a1 a2 a3 a4 a5 a6 a7 a8 a9 a10 a11)) 0) = false ∧ qL (nL (S12.mul (G12 (S12.invz (g12 a0 a1 a2 a3 a4 a5 a6 a7 a8 a9 a10 a11))) (g12 a0 a1 a2 a3 a4 a5 a6 a7 a8 a9 a10 a11))) (nL 1) = true ∧ endT) ?_ (by kernel_rfl)
    exact ⟨qn_not (Rg.mul_comm (R := S12) _ _), qn_not (by rw [G12_eq, G12_eq]; exact Rg.mul_assoc (R := S12) _ _ _), qn_not (by rw [G12_eq, G12_eq, G12_eq]; exact rdis _ _ _), qn_not (by rw [G12_eq, G12_eq, m_one]; exact sadd _ _), hw, by rw [hz, hb, hE]; rfl, by rw [hE]; rfl, qn_of (inv_mul hb), endT_ok⟩
  · have hE : invE (g12 a0 a1 a2 a3 a4 a5 a6 a7 a8 a9 a10 a11) = 6 := by unfold invE; rw [hb, cond_true]
    refine evS_q mixed tt_ok GF12_ok 200 [⟨3,4,.lit (.bo false)⟩,⟨3,14,.lit (.bo false)⟩,⟨3,29,.lit (.bo false)⟩,⟨3,40,.lit (.bo false)⟩,⟨7,3,.lit (.bo true)⟩,⟨7,9,.lit (.bo true)⟩,⟨7,13,.lit (.bo true)⟩] ?_
    refine same (p := (!qL (nL (S12.mul (g12 a0 a1 a2 a3 a4 a5 a6 a7 a8 a9 a10 a11) (g12 b0 b1 b2 b3 b4 b5 b6 b7 b8 b9 b10 b11))) (nL (S12.mul (g12 b0 b1 b2 b3 b4 b5 b6 b7 b8 b9 b10 b11) (g12 a0 a1 a2 a3 a4 a5 a6 a7 a8 a9 a10 a11)))) = false ∧ (!qL (nL (S12.mul (G12 (S12.mul (g12 a0 a1 a2 a3 a4 a5 a6 a7 a8 a9 a10 a11) (g12 b0 b1 b2 b3 b4 b5 b6 b7 b8 b9 b10 b11))) (g12 c0 c1 c2 c3 c4 c5 c6 c7 c8 c9 c10 c11))) (nL (S12.mul (g12 a0 a1 a2 a3 a4 a5 a6 a7 a8 a9 a10 a11) (G12 (S12.mul (g12 b0 b1 b2 b3 b4 b5 b6 b7 b8 b9 b10 b11) (g12 c0 c1 c2 c3 c4 c5 c6 c7 c8 c9 c10 c11)))))) = false ∧ (!qL (nL (S12.mul (G12 (S12.add' (g12 a0 a1 a2 a3 a4 a5 a6 a7 a8 a9 a10 a11) (g12 b0 b1 b2 b3 b4 b5 b6 b7 b8 b9 b10 b11))) (g12 c0 c1 c2 c3 c4 c5 c6 c7 c8 c9 c10 c11))) (nL (S12.add' (G12 (S12.mul (g12 a0 a1 a2 a3 a4 a5 a6 a7 a8 a9 a10 a11) (g12 c0 c1 c2 c3 c4 c5 c6 c7 c8 c9 c10 c11))) (G12 (S12.mul (g12 b0 b1 b2 b3 b4 b5 b6 b7 b8 b9 b10 b11) (g12 c0 c1 c2 c3 c4 c5 c6 c7 c8 c9 c10 c11)))))) = false ∧ (!qL (nL (S12.add' (G12 (S12.sub' (g12 a0 a1 a2 a3 a4 a5 a6 a7 a8 a9 a10 a11) (g12 b0 b1 b2 b3 b4 b5 b6 b7 b8 b9 b10 b11))) (g12 b0 b1 b2 b3 b4 b5 b6 b7 b8 b9 b10 b11))) (nL (S12.mul (g12 a0 a1 a2 a3 a4 a5 a6 a7 a8 a9 a10 a11) (G12 1)))) = false ∧ whL (nL (S12.mul (g12 a0 a1 a2 a3 a4 a5 a6 a7 a8 a9 a10 a11) (g12 b0 b1 b2 b3 b4 b5 b6 b7 b8 b9 b10 b11))) = true ∧ (decide ((ieq (invE (g12 a0 a1 a2 a3 a4 a5 a6 a7 a8 a9 a10 a11)) 6) = (qL (nL (S12.mul (g12 a0 a1 a2 a3 a4 a5 a6 a7 a8 a9 a10 a11) (G12 1))) zL12))) = true ∧ (!ieq (invE (g12 a0 a1 a2 a3 a4 a5 a6 a7 a8 a9 a10 a11)) 0) = true ∧ endT) ?_ (by kernel_rfl)
    exact ⟨qn_not (Rg.mul_comm (R := S12) _ _), qn_not (by rw [G12_eq, G12_eq]; exact Rg.mul_assoc (R := S12) _ _ _), qn_not (by rw [G12_eq, G12_eq, G12_eq]; exact rdis _ _ _), qn_not (by rw [G12_eq, G12_eq, m_one]; exact sadd _ _), hw, by rw [hz, hb, hE]; rfl, by rw [hE]; rfl, endT_ok⟩

theorem towerField12_lifted (os : Os) (started : os.Started) (H : Type) (enc : TypeId × Value → H) :
    ReturnsInHanded {} Try.checked os 9 .any (Rows.towerField12Spec.pre6 enc Try.prog Try.f9 Rows.towerField12Row.domain false) (Rows.towerField12Spec.post enc Try.prog Try.f9 false true false false) := by
  refine returnsInHanded_of_change (C := Try.checked) Try.own started (by kernel_rfl) Try.func9
    (ChangeSpec.witness6 (enc := enc) (C := Try.checked) false ⟨#[], #[.agg #[.int .u64 0, .int .u64 0, .int .u64 0, .int .u64 0, .int .u64 0, .int .u64 0, .int .u64 0, .int .u64 0, .int .u64 0, .int .u64 0, .int .u64 0, .int .u64 0, .int .u64 0, .int .u64 0, .int .u64 0, .int .u64 0, .int .u64 0, .int .u64 0, .int .u64 0, .int .u64 0, .int .u64 0, .int .u64 0, .int .u64 0, .int .u64 0, .int .u64 0, .int .u64 0, .int .u64 0, .int .u64 0, .int .u64 0, .int .u64 0, .int .u64 0, .int .u64 0, .int .u64 0, .int .u64 0, .int .u64 0, .int .u64 0, .int .u64 0, .int .u64 0, .int .u64 0, .int .u64 0, .int .u64 0, .int .u64 0, .int .u64 0, .int .u64 0, .int .u64 0, .int .u64 0, .int .u64 0, .int .u64 0, .int .u64 0, .int .u64 0, .int .u64 0, .int .u64 0, .int .u64 0, .int .u64 0, .int .u64 0, .int .u64 0, .int .u64 0, .int .u64 0, .int .u64 0, .int .u64 0, .int .u64 0, .int .u64 0, .int .u64 0, .int .u64 0, .int .u64 0, .int .u64 0, .int .u64 0, .int .u64 0, .int .u64 0, .int .u64 0, .int .u64 0, .int .u64 0], .agg #[.int .u64 0, .int .u64 0, .int .u64 0, .int .u64 0, .int .u64 0, .int .u64 0, .int .u64 0, .int .u64 0, .int .u64 0, .int .u64 0, .int .u64 0, .int .u64 0, .int .u64 0, .int .u64 0, .int .u64 0, .int .u64 0, .int .u64 0, .int .u64 0, .int .u64 0, .int .u64 0, .int .u64 0, .int .u64 0, .int .u64 0, .int .u64 0, .int .u64 0, .int .u64 0, .int .u64 0, .int .u64 0, .int .u64 0, .int .u64 0, .int .u64 0, .int .u64 0, .int .u64 0, .int .u64 0, .int .u64 0, .int .u64 0, .int .u64 0, .int .u64 0, .int .u64 0, .int .u64 0, .int .u64 0, .int .u64 0, .int .u64 0, .int .u64 0, .int .u64 0, .int .u64 0, .int .u64 0, .int .u64 0, .int .u64 0, .int .u64 0, .int .u64 0, .int .u64 0, .int .u64 0, .int .u64 0, .int .u64 0, .int .u64 0, .int .u64 0, .int .u64 0, .int .u64 0, .int .u64 0, .int .u64 0, .int .u64 0, .int .u64 0, .int .u64 0, .int .u64 0, .int .u64 0, .int .u64 0, .int .u64 0, .int .u64 0, .int .u64 0, .int .u64 0, .int .u64 0], .agg #[.int .u64 0, .int .u64 0, .int .u64 0, .int .u64 0, .int .u64 0, .int .u64 0, .int .u64 0, .int .u64 0, .int .u64 0, .int .u64 0, .int .u64 0, .int .u64 0, .int .u64 0, .int .u64 0, .int .u64 0, .int .u64 0, .int .u64 0, .int .u64 0, .int .u64 0, .int .u64 0, .int .u64 0, .int .u64 0, .int .u64 0, .int .u64 0, .int .u64 0, .int .u64 0, .int .u64 0, .int .u64 0, .int .u64 0, .int .u64 0, .int .u64 0, .int .u64 0, .int .u64 0, .int .u64 0, .int .u64 0, .int .u64 0, .int .u64 0, .int .u64 0, .int .u64 0, .int .u64 0, .int .u64 0, .int .u64 0, .int .u64 0, .int .u64 0, .int .u64 0, .int .u64 0, .int .u64 0, .int .u64 0, .int .u64 0, .int .u64 0, .int .u64 0, .int .u64 0, .int .u64 0, .int .u64 0, .int .u64 0, .int .u64 0, .int .u64 0, .int .u64 0, .int .u64 0, .int .u64 0, .int .u64 0, .int .u64 0, .int .u64 0, .int .u64 0, .int .u64 0, .int .u64 0, .int .u64 0, .int .u64 0, .int .u64 0, .int .u64 0, .int .u64 0, .int .u64 0]], []⟩ 8 (by kernel_rfl) (by kernel_rfl) (by kernel_rfl) (by kernel_rfl)) ?_
  intro Wd base args ds gs before hval0 hW _ _
  have hval : ∀ (j : Nat) t v, Try.f9.params[j]? = some t → args[j]? = some v → Value.okWide Try.prog Wd .any base t v := hval0
  have hW' := hW
  obtain ⟨p, q, hA0, hV, rfl, _, _⟩ := hW
  have hA : DataW.TrodAll enc Try.prog Wd 0 (fun _ => true) true Try.f9.params.toList args.toList ds p := hA0
  rw [Try.params9] at hA hval
  obtain ⟨v0, v1, v2, d0, d1, d2, p0, p1, p2, rfl, rfl, rfl, h0, h1, h2⟩ := trodAll_three hA
  obtain ⟨rfl, rfl⟩ := trodVars_none hV
  obtain ⟨x0a, x0b, x0c, x0d, x0e, x0f, x0g, x0h, x0i, x0j, x0k, x0l, rfl, rfl, t0⟩ := e12_open h0 (hval 0 39 v0 rfl rfl)
  obtain ⟨x1a, x1b, x1c, x1d, x1e, x1f, x1g, x1h, x1i, x1j, x1k, x1l, rfl, rfl, t1⟩ := e12_open h1 (hval 1 39 v1 rfl rfl)
  obtain ⟨x2a, x2b, x2c, x2d, x2e, x2f, x2g, x2h, x2i, x2j, x2k, x2l, rfl, rfl, t2⟩ := e12_open h2 (hval 2 39 v2 rfl rfl)
  clear hA0 hval0
  simp only [List.append_nil] at hW'
  refine (towerField12_calls x0a x0b x0c x0d x0e x0f x0g x0h x0i x0j x0k x0l x1a x1b x1c x1d x1e x1f x1g x1h x1i x1j x1k x1l x2a x2b x2c x2d x2e x2f x2g x2h x2i x2j x2k x2l Wd).mono fun e W' ⟨he, hw⟩ => ?_
  subst he
  have hg := hw.grown
  exact ⟨_, rfl, post_of_same (pa := []) (pv := []) hW' (fun _ _ _ => trodAll_mk1 (shut_bool Try.underlying4 true)) (fun sp _ => trodAll_mk3 (t0 _ _ _ _) (t1 _ _ _ _) (t2 _ _ _ _)) (fun _ _ => rfl) rfl (hg.frame _) hg.2.1 (ok_one (by kernel_rfl) rfl (okWide_bool_mk Try.underlying4 true))⟩

theorem towerField12_holds : Rows.TowerField12Said :=
  OpenClaim.holds_of_wide 9 Try.f9 rfl rfl rfl rfl rfl rfl rfl ⟨rfl, rfl, rfl, rfl, rfl⟩ rfl rfl rfl rfl rfl (by kernel_rfl) Try.func9 (by kernel_rfl)
    (of_decide_eq_true (by kernel_rfl)) (by unfold Func.isWrapper; rw [if_neg (of_decide_eq_false (by kernel_rfl))]; exact ⟨rfl, rfl⟩)
    (fun os started H enc _ => towerField12_lifted os started H enc)
end Go.Proofs.Ytkmfiefnaeikdaa
