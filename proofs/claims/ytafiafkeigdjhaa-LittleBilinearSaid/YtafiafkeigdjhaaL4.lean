/- Sums and multiples of points of the little curves. Printed by genl4.py. -/
import Derived.Test.YtafiafkeigdjhaaL3
namespace Go.Proofs.Ytafiafkeigdjhaa
open Go.Rq Go
set_option linter.unusedVariables false
set_option linter.unusedSimpArgs false
theorem endV_eq {a b : AV} (h : a = b) : endV a b := ⟨_, rfl, fun ρ => by rw [h]⟩


def GSm : Ctx := ctxL [(70, .pure (y2 LtP slV)), (63, .pure (z2 zMul)), (60, .pure (z2 zSub))]
theorem GSm_ok : CtxOk Try.prog GSm := ctxL_cons okSlope <| ctxL_cons okZMul <| ctxL_cons okZSub ctxL_nil
theorem okSum : (CallC.pure (y2 LtP fun p P Q => pv (sumN p P Q))).Ok Try.prog 58 := by
  refine y2_ok (fun _ _ _ => rfl) Try.func58 (by kernel_rfl) (by kernel_rfl) fun p r c gx gy gz x y z u v w hP h1 h2 => ?_
  cases z
  · cases w
    · have h1' : LtP p ⟨x, y, false⟩ := h1
      have h2' : LtP p ⟨u, v, false⟩ := h2
      obtain ⟨hx, hy⟩ : x < p ∧ y < p := h1
      obtain ⟨hu, hv⟩ : u < p ∧ v < p := h2
      cases hup : upB ⟨x, y, false⟩ ⟨u, v, false⟩
      · obtain ⟨m, hmd⟩ : ∃ m, m = slN p ⟨x, y, false⟩ ⟨u, v, false⟩ := ⟨_, rfl⟩
        have hm : m < p := by rw [hmd]; exact slN_lt hP
        refine evS_q mixed tt_ok GSm_ok 60 [⟨5,7,.lit (.w .u64 m)⟩,⟨6,1,.lit (.bo false)⟩] ?_
        refine same (p := Gp p ∧ LtP p ⟨x, y, false⟩ ∧ LtP p ⟨u, v, false⟩ ∧ (bif upB ⟨x, y, false⟩ ⟨u, v, false⟩ then 0 else slN p ⟨x, y, false⟩ ⟨u, v, false⟩) = m ∧ (!(!upB ⟨x, y, false⟩ ⟨u, v, false⟩)) = false ∧ Gp p ∧ m < p ∧ m < p ∧ Gp p ∧ zMul p m m < p ∧ x < p ∧ Gp p ∧ zSub p (zMul p m m) x < p ∧ u < p ∧ Gp p ∧ x < p ∧ zSub p (zSub p (zMul p m m) x) u < p ∧ Gp p ∧ m < p ∧ zSub p x (zSub p (zSub p (zMul p m m) x) u) < p ∧ Gp p ∧ zMul p m (zSub p x (zSub p (zSub p (zMul p m m) x) u)) < p ∧ y < p ∧ endV (pv (byN p m ⟨x, y, false⟩ ⟨u, v, false⟩)) (pv (sumN p ⟨x, y, false⟩ ⟨u, v, false⟩))) ?_ (by kernel_rfl)
        refine ⟨hP, h1', h2', by rw [hup, hmd]; rfl, by rw [hup]; rfl, hP, hm, hm, hP, zMul_lt hP, hx, hP, zSub_lt hP, hu, hP, hx, zSub_lt hP, hP, hm, zSub_lt hP, hP, zMul_lt hP, hy, endV_eq ?_⟩
        have : sumN p ⟨x, y, false⟩ ⟨u, v, false⟩ = byN p m ⟨x, y, false⟩ ⟨u, v, false⟩ := by
          show (bif upB ⟨x, y, false⟩ ⟨u, v, false⟩ then zeroL else byN p (slN p ⟨x, y, false⟩ ⟨u, v, false⟩) ⟨x, y, false⟩ ⟨u, v, false⟩) = _
          rw [hup, hmd]; rfl
        rw [this]
      · refine evS_q mixed tt_ok GSm_ok 60 [⟨6,1,.lit (.bo true)⟩] ?_
        refine same (p := Gp p ∧ LtP p ⟨x, y, false⟩ ∧ LtP p ⟨u, v, false⟩ ∧ (!(!upB ⟨x, y, false⟩ ⟨u, v, false⟩)) = true ∧ endV (pv zeroL) (pv (sumN p ⟨x, y, false⟩ ⟨u, v, false⟩))) ?_ (by kernel_rfl)
        refine ⟨hP, h1', h2', by rw [hup]; rfl, endV_eq ?_⟩
        have : sumN p ⟨x, y, false⟩ ⟨u, v, false⟩ = zeroL := by
          show (bif upB ⟨x, y, false⟩ ⟨u, v, false⟩ then zeroL else byN p (slN p ⟨x, y, false⟩ ⟨u, v, false⟩) ⟨x, y, false⟩ ⟨u, v, false⟩) = _
          rw [hup]; rfl
        rw [this]
    · refine evS_q mixed tt_ok GSm_ok 60 [] ?_
      exact same (p := endV (pv ⟨x, y, false⟩) (pv (sumN p ⟨x, y, false⟩ ⟨u, v, true⟩))) (endV_eq rfl) (by kernel_rfl)
  · refine evS_q mixed tt_ok GSm_ok 60 [] ?_
    exact same (p := endV (pv ⟨u, v, w⟩) (pv (sumN p ⟨x, y, true⟩ ⟨u, v, w⟩))) (endV_eq rfl) (by kernel_rfl)


def GTm : Ctx := ctxL [(58, .pure (y2 LtP fun p P Q => pv (sumN p P Q))), (54, .pure cLen64)]
theorem GTm_ok : CtxOk Try.prog GTm := ctxL_cons okSum <| ctxL_cons okLen64 ctxL_nil
abbrev InvTm (p : Nat) (P : LP) (n : Nat) (x : Nat × LP) : Prop := x.1 ≤ blen n ∧ x.2 = mulP p P (n / 2 ^ x.1)
abbrev VTm (n k : Nat) : List AV := [uv n, pt 0 0, pt 1 0, pt 2 0, pt 3 0, iv (predI k)]
abbrev pB (P : LP) : Option Blk := some ⟨25, pC P.x P.y P.z, 0, 0⟩
abbrev HTm (p r c gx gy : Nat) (gz : Bool) (P o : LP) : Heap := [some ⟨72, cvC p r c gx gy gz, 0, 0⟩, pB P, pB ⟨0, 0, false⟩, pB o, none]
theorem okTimes : (CallC.pure (yn LtP fun p P n => pv (mulP p P n))).Ok Try.prog 59 := by
  refine yn_ok (fun _ _ _ => rfl) Try.func59 (by kernel_rfl) (by kernel_rfl) fun p r c gx gy gz x y z n hP h1 => ?_
  obtain ⟨P, hPd⟩ : ∃ P : LP, P = ⟨x, y, z⟩ := ⟨_, rfl⟩
  have h1 : LtP p P := by rw [hPd]; exact h1
  have hbl : blen (n % W) ≤ 64 := blen_lt (k := 64) (Nat.mod_lt _ (by decide))
  show AWqS Try.prog _ _ (FEnd' tt _ (pv (mulP p ⟨x, y, z⟩ (n % W)))) ⟨frame0 [cw p r c gx gy gz, pv ⟨x, y, z⟩, uv n] _, []⟩
  rw [← hPd]
  have hkeep : ∀ m, LtP p (mulP p P m) := fun m => powB_keep (q := LtP p) ⟨hP.pos, hP.pos⟩ (fun _ hx => lt_sum hP hx hx) (fun _ hx => lt_sum hP hx h1) _ _
  refine loopK mixed tt_ok GTm_ok 0 (by kernel_rfl) (ι := {x // InvTm p P (n % W) x}) [2,3,4,6,7,8] 31 5 (fun x => VTm n x.1.1) (fun x => HTm p r c gx gy gz P x.1.2) (fun x => x.1.1) (fun x => x.1.1 = 0)
    (fun _ => rfl) (fun _ => by kernel_rfl) (fun _ _ h => h.elim) 60 [⟨2,2,.lit (.it (predI (blen (n % W))))⟩] ?_ ?_ ?_
  · refine same (p := wrapI (Int.ofNat (blen (n % W)) - 1) = predI (blen (n % W)) ∧ true = true ∧ ∃ j : {x // InvTm p P (n % W) x}, VTm n (blen (n % W)) = VTm n j.1.1 ∧ HTm p r c gx gy gz P zeroL = HTm p r c gx gy gz P j.1.2) ?_ (by kernel_rfl)
    exact ⟨predI_eq (by omega), rfl, ⟨(blen (n % W), zeroL), Nat.le_refl _, by simp only; rw [high_zero]; rfl⟩, rfl, rfl⟩
  · intro ⟨⟨k, o⟩, hk, ho⟩ junk
    simp only at hk ho
    cases k with
    | zero =>
      refine roundF mixed tt_ok GTm_ok 60 [] ?_
      refine same (p := true = true ∧ ∃ j : {x // InvTm p P (n % W) x}, j.1.1 = 0 ∧ VTm n 0 = VTm n j.1.1 ∧ HTm p r c gx gy gz P o = HTm p r c gx gy gz P j.1.2) ?_ (by kernel_rfl)
      exact ⟨rfl, ⟨(0, o), hk, ho⟩, rfl, rfl, rfl⟩
    | succ k =>
      have hol : LtP p o := by rw [ho]; exact hkeep _
      have hoo : LtP p (sumN p o o) := lt_sum hP hol hol
      have hs : wrapI (Int.ofNat k - 1) = predI k := predI_eq (by omega)
      have hbit := bit_one (n := n) (k := k) (by omega)
      have hne := high_ne (n := n % W) (k := k) (by omega)
      have hhalf := half_pow (n % W) k
      by_cases hb : n % W / 2 ^ k % 2 = 1
      · refine roundF mixed tt_ok GTm_ok 60 [⟨3,1,.lit (.bo true)⟩,⟨6,2,.sym⟩,⟨6,4,.lit (.bo true)⟩,⟨4,1,.lit (.it (predI k))⟩] ?_
        refine same (p := (!ilt (Int.ofNat k) 0) = true ∧ Gp p ∧ LtP p o ∧ LtP p o ∧ 0 ≤ Int.ofNat k ∧ Nat.beq (((n % W / 2 ^ min k 64) &&& 1) % W) 1 = true ∧ Gp p ∧ LtP p (sumN p o o) ∧ LtP p P ∧ wrapI (Int.ofNat k - 1) = predI k ∧ true = true ∧
          ∃ j : {x // InvTm p P (n % W) x}, j.1.1 < k + 1 ∧ VTm n k = VTm n j.1.1 ∧ HTm p r c gx gy gz P (sumN p (sumN p o o) P) = HTm p r c gx gy gz P j.1.2) ?_ (by kernel_rfl)
        refine ⟨by rw [ilt_nn']; rfl, hP, hol, hol, Int.natCast_nonneg _, by rw [hbit, hb]; rfl, hP, hoo, h1, hs, rfl, ⟨(k, sumN p (sumN p o o) P), by simp only; omega, ?_⟩, by simp only; omega, rfl, rfl⟩
        simp only
        unfold mulP
        rw [powB_odd _ _ _ hb, hhalf, ho]
        rfl
      · refine roundF mixed tt_ok GTm_ok 60 [⟨3,1,.lit (.bo true)⟩,⟨6,2,.sym⟩,⟨6,4,.lit (.bo false)⟩,⟨4,1,.lit (.it (predI k))⟩] ?_
        refine same (p := (!ilt (Int.ofNat k) 0) = true ∧ Gp p ∧ LtP p o ∧ LtP p o ∧ 0 ≤ Int.ofNat k ∧ Nat.beq (((n % W / 2 ^ min k 64) &&& 1) % W) 1 = false ∧ wrapI (Int.ofNat k - 1) = predI k ∧ true = true ∧
          ∃ j : {x // InvTm p P (n % W) x}, j.1.1 < k + 1 ∧ VTm n k = VTm n j.1.1 ∧ HTm p r c gx gy gz P (sumN p o o) = HTm p r c gx gy gz P j.1.2) ?_ (by kernel_rfl)
        refine ⟨by rw [ilt_nn']; rfl, hP, hol, hol, Int.natCast_nonneg _, by rw [hbit, ← Bool.not_eq_true, Nat.beq_eq]; exact hb, hs, rfl, ⟨(k, sumN p o o), by simp only; omega, ?_⟩, by simp only; omega, rfl, rfl⟩
        simp only
        unfold mulP
        rw [powB_even _ _ _ hne hb, hhalf, ho]
        rfl
  · intro ⟨⟨k, o⟩, hk, ho⟩ junk h0
    simp only at hk ho h0
    subst h0
    rw [Nat.pow_zero, Nat.div_one] at ho
    subst ho
    refine evS_q mixed tt_ok GTm_ok 60 [] ?_
    exact same (p := endV (pv (mulP p P (n % W))) (pv (mulP p P (n % W)))) (endV_eq rfl) (by kernel_rfl)
end Go.Proofs.Ytafiafkeigdjhaa
