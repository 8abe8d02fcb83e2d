/- reliquarylaw03.TowerTurns answers true at every input, and leaves it as it was. Conditions: none. Printed by genlaws3.py. -/
import Derived.Test.YtkmfiefnaeikdaaRows
import Derived.Test.YtkmfiefnaeikdaaZD
import Derived.Test.YtkmfiefnaeikdaaZE
import Derived.Carry
namespace Go.Proofs.Ytkmfiefnaeikdaa
open Go.Rq Go Go.ChangeShapes Go.WideShapes Go.ChangeAt Go.RowKit
set_option maxRecDepth 100000
set_option linter.unusedVariables false
set_option linter.unusedSimpArgs false
def GTu : Ctx := ctxL [(26, .pure cAwake3), (39, .pure cTFrob), (35, .pure (t122 S12.mul)), (31, .pure (t122 S12.add')), (29, .pure (c12 (n12 1))), (37, .pure (t121 S12.conj)), (20, .pure (u1 F2p.cj))]
theorem GTu_ok : CtxOk Try.prog GTu := ctxL_cons okAwake3 <| ctxL_cons okTFrob <| ctxL_cons okTMul <| ctxL_cons okTAdd <| ctxL_cons okTOne <| ctxL_cons okTConj <| ctxL_cons okUConj2 ctxL_nil
theorem m_one (s : S12) : S12.mul s 1 = s := Rg.mul_one (R := S12) s
theorem mq_mod (n : Int) : ((mq n : Nat) : Int) = n.emod 12 := by
  unfold mq
  have h1 := Int.tmod_lt_of_pos n (show (0 : Int) < 12 by omega)
  have h2 := tmod_low n
  rw [Int.tmod_eq_emod_of_nonneg (by omega)]
  have h3 : n.tmod 12 % 12 = n % 12 := by
    cases n with
    | ofNat k =>
      have h : (Int.ofNat k).tmod 12 = Int.ofNat (k % 12) := rfl
      rw [h]; simp only [Int.ofNat_eq_natCast]; omega
    | negSucc k =>
      have h : (Int.negSucc k).tmod 12 = -(((k + 1) % 12 : Nat) : Int) := rfl
      rw [h]; simp only [Int.negSucc_eq]; omega
  have h4 : n.emod 12 = n % 12 := rfl
  omega
theorem trn_back (s : S12) {m : Int} (h1 : -40 < m) (h2 : m < 40) : S12.turns (mq (12 - m)) (S12.turns (mq m) s) = s := by
  rw [S12.turns_turns]
  have e1 := mq_mod m
  have e2 := mq_mod (12 - m)
  have e3 : m.emod 12 = m % 12 := rfl
  have e4 : (12 - m).emod 12 = (12 - m) % 12 := rfl
  exact (S12.turns_cong s (n := 0) (by omega)).trans rfl
theorem trn_next (s : S12) {m : Int} (h1 : -40 < m) (h2 : m < 40) : S12.turns (mq m) (S12.turns (mq 1) s) = S12.turns (mq (m + 1)) s := by
  rw [S12.turns_turns]
  have e1 := mq_mod m
  have e2 := mq_mod (m + 1)
  have e0 : mq 1 = 1 := by kernel_rfl
  have e3 : m.emod 12 = m % 12 := rfl
  have e4 : (m + 1).emod 12 = (m + 1) % 12 := rfl
  exact S12.turns_cong s (by omega)
theorem trn_six (s : S12) : S12.turns (mq 6) s = S12.conj s := by
  have e0 : mq 6 = 6 := by kernel_rfl
  rw [e0, S12.turns_six]
  rfl
theorem trn_two (a b : Nat → Nat) : qL (nL (S12.turns (mq 1) (g12 a b (fun _ => 0) (fun _ => 0) (fun _ => 0) (fun _ => 0) (fun _ => 0) (fun _ => 0) (fun _ => 0) (fun _ => 0) (fun _ => 0) (fun _ => 0)))) [vF (F2p.cj (g2 a b)).x, vF (F2p.cj (g2 a b)).y, (fun _ => 0), (fun _ => 0), (fun _ => 0), (fun _ => 0), (fun _ => 0), (fun _ => 0), (fun _ => 0), (fun _ => 0), (fun _ => 0), (fun _ => 0)] = true := by
  have e0 : mq 1 = 1 := by kernel_rfl
  have e1 : (S12.turns (mq 1) (g12 a b (fun _ => 0) (fun _ => 0) (fun _ => 0) (fun _ => 0) (fun _ => 0) (fun _ => 0) (fun _ => 0) (fun _ => 0) (fun _ => 0) (fun _ => 0))) = ⟨⟨F2p.cj (g2 a b), 0, 0⟩, ⟨0, 0, 0⟩⟩ := by
    rw [e0]
    simp only [g12, gN_z]
    have hz : ∀ k : F2p, F2p.cj ⟨0, 0⟩ * k = 0 := fun k => by
      have : F2p.cj ⟨0, 0⟩ = 0 := F2p.ext rfl (Rg.sub_self (0 : Fp))
      rw [this]; exact Rg.zero_mul k
    exact S12.ext (S6.ext ((congrArg (fun k => F2p.cj ⟨gN a, gN b⟩ * k) S12.tu_0).trans (Rg.mul_one _)) (hz _) (hz _)) (S6.ext (hz _) (hz _) (hz _))
  rw [e1]
  have k0 : nv (vF (0 : Fp)) = nv (fun _ => 0) := zero_vF.symm
  simp only [qL, Bool.and_true, (eqN_vF _ _).2 rfl, Bool.true_and]
  show (eqN W 6 (vF (0 : Fp)) (fun _ => 0) && (eqN W 6 (vF (0 : Fp)) (fun _ => 0) && (eqN W 6 (vF (0 : Fp)) (fun _ => 0) && (eqN W 6 (vF (0 : Fp)) (fun _ => 0) && (eqN W 6 (vF (0 : Fp)) (fun _ => 0) && (eqN W 6 (vF (0 : Fp)) (fun _ => 0) && (eqN W 6 (vF (0 : Fp)) (fun _ => 0) && (eqN W 6 (vF (0 : Fp)) (fun _ => 0) && (eqN W 6 (vF (0 : Fp)) (fun _ => 0) && (eqN W 6 (vF (0 : Fp)) (fun _ => 0))))))))))) = true
  rw [eqN_nv k0]; rfl
theorem towerTurns_calls (a0 a1 a2 a3 a4 a5 a6 a7 a8 a9 a10 a11 b0 b1 b2 b3 b4 b5 b6 b7 b8 b9 b10 b11 : Nat → Nat) (n : Int) (w : World) :
    Calls Try.prog 8 (([.v1 (v12 a0 a1 a2 a3 a4 a5 a6 a7 a8 a9 a10 a11), .v1 (v12 b0 b1 b2 b3 b4 b5 b6 b7 b8 b9 b10 b11), .v1 (.sc (.it n))] : List AV).map (AV.val fun _ => 0)).toArray w (fun e w' => e = .returned (.bool true) ∧ StepW w w') := by
  refine pure_calls tt_ok Try.func8 (by kernel_rfl) (by kernel_rfl) (v := .v1 (.sc (.bo true))) (by kernel_rfl) ?_ w
  obtain ⟨m, hm⟩ : ∃ m, n.tmod 40 = m := ⟨_, rfl⟩
  have hm2 : m < 40 := by rw [← hm]; exact Int.tmod_lt_of_pos n (by omega)
  have hm1 : -40 < m := by
    rw [← hm]
    cases n with
    | ofNat k =>
      have h : (Int.ofNat k).tmod 40 = Int.ofNat (k % 40) := rfl
      rw [h]; simp only [Int.ofNat_eq_natCast]; omega
    | negSucc k =>
      have h : (Int.negSucc k).tmod 40 = -(((k + 1) % 40 : Nat) : Int) := rfl
      rw [h]; omega
  have hw1 : wrapI (12 - m) = 12 - m := wrap_in (by omega) (by omega)
  have hw2 : wrapI (m + 1) = m + 1 := wrap_in (by omega) (by omega)
  refine evS_q mixed tt_ok GTu_ok 200 [⟨2,1,.lit (.it m)⟩,⟨4,8,.lit (.bo true)⟩,⟨4,18,.lit (.bo true)⟩,⟨5,2,.lit (.it (12 - m))⟩,⟨5,7,.lit (.bo true)⟩,⟨5,13,.lit (.bo true)⟩,⟨5,22,.lit (.it (m + 1))⟩,⟨5,24,.lit (.bo true)⟩,⟨7,14,.lit (.bo true)⟩] ?_
  refine same (p := n.tmod 40 = m ∧ qL (nL (S12.turns (mq m) (G12 (S12.mul (g12 a0 a1 a2 a3 a4 a5 a6 a7 a8 a9 a10 a11) (g12 b0 b1 b2 b3 b4 b5 b6 b7 b8 b9 b10 b11))))) (nL (S12.mul (G12 (S12.turns (mq m) (g12 a0 a1 a2 a3 a4 a5 a6 a7 a8 a9 a10 a11))) (G12 (S12.turns (mq m) (g12 b0 b1 b2 b3 b4 b5 b6 b7 b8 b9 b10 b11))))) = true ∧ qL (nL (S12.turns (mq m) (G12 (S12.add' (g12 a0 a1 a2 a3 a4 a5 a6 a7 a8 a9 a10 a11) (g12 b0 b1 b2 b3 b4 b5 b6 b7 b8 b9 b10 b11))))) (nL (S12.add' (G12 (S12.turns (mq m) (g12 a0 a1 a2 a3 a4 a5 a6 a7 a8 a9 a10 a11))) (G12 (S12.turns (mq m) (g12 b0 b1 b2 b3 b4 b5 b6 b7 b8 b9 b10 b11))))) = true ∧ wrapI (12 - m) = 12 - m ∧ qL (nL (S12.turns (mq (12 - m)) (G12 (S12.turns (mq m) (g12 a0 a1 a2 a3 a4 a5 a6 a7 a8 a9 a10 a11))))) (nL (S12.mul (g12 a0 a1 a2 a3 a4 a5 a6 a7 a8 a9 a10 a11) (G12 1))) = true ∧ qL (nL (S12.turns (mq 6) (g12 a0 a1 a2 a3 a4 a5 a6 a7 a8 a9 a10 a11))) (nL (S12.conj (g12 a0 a1 a2 a3 a4 a5 a6 a7 a8 a9 a10 a11))) = true ∧ wrapI (m + 1) = m + 1 ∧ qL (nL (S12.turns (mq m) (G12 (S12.turns (mq 1) (g12 a0 a1 a2 a3 a4 a5 a6 a7 a8 a9 a10 a11))))) (nL (S12.turns (mq (m + 1)) (g12 a0 a1 a2 a3 a4 a5 a6 a7 a8 a9 a10 a11))) = true ∧ qL (nL (S12.turns (mq 1) (g12 a0 a1 (fun _ => 0) (fun _ => 0) (fun _ => 0) (fun _ => 0) (fun _ => 0) (fun _ => 0) (fun _ => 0) (fun _ => 0) (fun _ => 0) (fun _ => 0)))) [vF (F2p.cj (g2 a0 a1)).x, vF (F2p.cj (g2 a0 a1)).y, (fun _ => 0), (fun _ => 0), (fun _ => 0), (fun _ => 0), (fun _ => 0), (fun _ => 0), (fun _ => 0), (fun _ => 0), (fun _ => 0), (fun _ => 0)] = true ∧ endT) ?_ (by kernel_rfl)
  exact ⟨hm, qn_of (by rw [G12_eq, G12_eq, G12_eq]; exact S12.turns_mul _ _ _), qn_of (by rw [G12_eq, G12_eq, G12_eq]; exact S12.turns_add _ _ _), hw1, qn_of (by rw [G12_eq, G12_eq, m_one]; exact trn_back _ hm1 hm2), qn_of (trn_six _), hw2, qn_of (by rw [G12_eq]; exact trn_next _ hm1 hm2), trn_two _ _, endT_ok⟩

theorem towerTurns_lifted (os : Os) (started : os.Started) (H : Type) (enc : TypeId × Value → H) :
    ReturnsInHanded {} Try.checked os 8 .any (Rows.towerTurnsSpec.pre6 enc Try.prog Try.f8 Rows.towerTurnsRow.domain false) (Rows.towerTurnsSpec.post enc Try.prog Try.f8 false true false false) := by
  refine returnsInHanded_of_change (C := Try.checked) Try.own started (by kernel_rfl) Try.func8
    (ChangeSpec.witness6 (enc := enc) (C := Try.checked) false ⟨#[], #[.agg #[.int .u64 0, .int .u64 0, .int .u64 0, .int .u64 0, .int .u64 0, .int .u64 0, .int .u64 0, .int .u64 0, .int .u64 0, .int .u64 0, .int .u64 0, .int .u64 0, .int .u64 0, .int .u64 0, .int .u64 0, .int .u64 0, .int .u64 0, .int .u64 0, .int .u64 0, .int .u64 0, .int .u64 0, .int .u64 0, .int .u64 0, .int .u64 0, .int .u64 0, .int .u64 0, .int .u64 0, .int .u64 0, .int .u64 0, .int .u64 0, .int .u64 0, .int .u64 0, .int .u64 0, .int .u64 0, .int .u64 0, .int .u64 0, .int .u64 0, .int .u64 0, .int .u64 0, .int .u64 0, .int .u64 0, .int .u64 0, .int .u64 0, .int .u64 0, .int .u64 0, .int .u64 0, .int .u64 0, .int .u64 0, .int .u64 0, .int .u64 0, .int .u64 0, .int .u64 0, .int .u64 0, .int .u64 0, .int .u64 0, .int .u64 0, .int .u64 0, .int .u64 0, .int .u64 0, .int .u64 0, .int .u64 0, .int .u64 0, .int .u64 0, .int .u64 0, .int .u64 0, .int .u64 0, .int .u64 0, .int .u64 0, .int .u64 0, .int .u64 0, .int .u64 0, .int .u64 0], .agg #[.int .u64 0, .int .u64 0, .int .u64 0, .int .u64 0, .int .u64 0, .int .u64 0, .int .u64 0, .int .u64 0, .int .u64 0, .int .u64 0, .int .u64 0, .int .u64 0, .int .u64 0, .int .u64 0, .int .u64 0, .int .u64 0, .int .u64 0, .int .u64 0, .int .u64 0, .int .u64 0, .int .u64 0, .int .u64 0, .int .u64 0, .int .u64 0, .int .u64 0, .int .u64 0, .int .u64 0, .int .u64 0, .int .u64 0, .int .u64 0, .int .u64 0, .int .u64 0, .int .u64 0, .int .u64 0, .int .u64 0, .int .u64 0, .int .u64 0, .int .u64 0, .int .u64 0, .int .u64 0, .int .u64 0, .int .u64 0, .int .u64 0, .int .u64 0, .int .u64 0, .int .u64 0, .int .u64 0, .int .u64 0, .int .u64 0, .int .u64 0, .int .u64 0, .int .u64 0, .int .u64 0, .int .u64 0, .int .u64 0, .int .u64 0, .int .u64 0, .int .u64 0, .int .u64 0, .int .u64 0, .int .u64 0, .int .u64 0, .int .u64 0, .int .u64 0, .int .u64 0, .int .u64 0, .int .u64 0, .int .u64 0, .int .u64 0, .int .u64 0, .int .u64 0, .int .u64 0], .int .i64 0], []⟩ 8 (by kernel_rfl) (by kernel_rfl) (by kernel_rfl) (by kernel_rfl)) ?_
  intro Wd base args ds gs before hval0 hW _ _
  have hval : ∀ (j : Nat) t v, Try.f8.params[j]? = some t → args[j]? = some v → Value.okWide Try.prog Wd .any base t v := hval0
  have hW' := hW
  obtain ⟨p, q, hA0, hV, rfl, _, _⟩ := hW
  have hA : DataW.TrodAll enc Try.prog Wd 0 (fun _ => true) true Try.f8.params.toList args.toList ds p := hA0
  rw [Try.params8] at hA hval
  obtain ⟨v0, v1, v2, d0, d1, d2, p0, p1, p2, rfl, rfl, rfl, h0, h1, h2⟩ := trodAll_three hA
  obtain ⟨rfl, rfl⟩ := trodVars_none hV
  obtain ⟨x0a, x0b, x0c, x0d, x0e, x0f, x0g, x0h, x0i, x0j, x0k, x0l, rfl, rfl, t0⟩ := e12_open h0 (hval 0 39 v0 rfl rfl)
  obtain ⟨x1a, x1b, x1c, x1d, x1e, x1f, x1g, x1h, x1i, x1j, x1k, x1l, rfl, rfl, t1⟩ := e12_open h1 (hval 1 39 v1 rfl rfl)
  obtain ⟨x2, rfl, rfl, rfl, w2⟩ := open_int Try.underlying3 (hval 2 3 v2 rfl rfl) h2
  clear hA0 hval0
  simp only [List.append_nil] at hW'
  refine (towerTurns_calls x0a x0b x0c x0d x0e x0f x0g x0h x0i x0j x0k x0l x1a x1b x1c x1d x1e x1f x1g x1h x1i x1j x1k x1l x2 Wd).mono fun e W' ⟨he, hw⟩ => ?_
  subst he
  have hg := hw.grown
  exact ⟨_, rfl, post_of_same (pa := []) (pv := []) hW' (fun _ _ _ => trodAll_mk1 (shut_bool Try.underlying4 true)) (fun sp _ => trodAll_mk3 (t0 _ _ _ _) (t1 _ _ _ _) (shut_int Try.underlying3 w2)) (fun _ _ => rfl) rfl (hg.frame _) hg.2.1 (ok_one (by kernel_rfl) rfl (okWide_bool_mk Try.underlying4 true))⟩

theorem towerTurns_holds : Rows.TowerTurnsSaid :=
  OpenClaim.holds_of_wide 8 Try.f8 rfl rfl rfl rfl rfl rfl rfl ⟨rfl, rfl, rfl, rfl, rfl⟩ rfl rfl rfl rfl rfl (by kernel_rfl) Try.func8 (by kernel_rfl)
    (of_decide_eq_true (by kernel_rfl)) (by unfold Func.isWrapper; rw [if_neg (of_decide_eq_false (by kernel_rfl))]; exact ⟨rfl, rfl⟩)
    (fun os started H enc _ => towerTurns_lifted os started H enc)
end Go.Proofs.Ytkmfiefnaeikdaa
