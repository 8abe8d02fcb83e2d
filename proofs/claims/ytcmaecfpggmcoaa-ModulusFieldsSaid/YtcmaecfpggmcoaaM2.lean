/- A modulus: what is told of numbers. -/
import Derived.Test.YtcmaecfpggmcoaaM1
namespace Go.Proofs.Ytcmaecfpggmcoaa
open Go.Rq Go

theorem cmp_lt' (x y : Nat) : ilt (cmpI x y) 0 = Nat.blt x y := by
  unfold cmpI
  cases h : Nat.blt x y
  · cases Nat.blt y x <;> rfl
  · rfl
theorem nv_one : nv (wd (1 % W)) = 1 := by rw [nv_wd]; decide
theorem _root_.Go.Rq.ModI.wlt {n : Nat → Nat} {l : Nat} {w : Nat → Nat} (h : ModI n l w) : nv w < nv n := by rw [h.wide]; exact Nat.mod_lt _ h.pos
theorem nv_mont {n : Nat → Nat} {l : Nat} {w : Nat → Nat} (h : ModI n l w) (x y : Nat) : nv (wd (montV (nv n) x y)) = montV (nv n) x y := by
  rw [nv_wd, Nat.mod_eq_of_lt (Nat.lt_trans (montV_lt h.pos) (nv_lt n))]
theorem nv_modN {n : Nat → Nat} {l : Nat} {w : Nat → Nat} (h : ModI n l w) (x : Nat) : nv (wd (x % nv n)) = x % nv n := by
  rw [nv_wd, Nat.mod_eq_of_lt (Nat.lt_trans (Nat.mod_lt _ h.pos) (nv_lt n))]
/-- The end of a method: what is told. -/
abbrev endV (y : TypeId) (n : Nat → Nat) (l : Nat) (w : Nat → Nat) (u v : AV) : Prop :=
  some (mB y n l w) = some (mB y n l w) ∧ ∃ v', some u = some v' ∧ vokB v' = true ∧ ∀ ρ, v'.val ρ = v.val ρ
theorem endV_of {y : TypeId} {n : Nat → Nat} {l : Nat} {w : Nat → Nat} {u v : AV} (h : vokB u = true) (e : ∀ ρ, u.val ρ = v.val ρ) : endV y n l w u v := ⟨rfl, u, rfl, h, e⟩
theorem endV_num {y : TypeId} {n : Nat → Nat} {l : Nat} {w : Nat → Nat} {a b : Nat} (e : a = b) : endV y n l w (numA a) (numA b) := endV_of rfl fun ρ => by rw [e]

/-! Reduce -/
def GRd : Ctx := ctxL [(48, .rd (CM fNone)), (35, .pure cCmp), (52, .rd (CM fMont)), (34, .pure cOf)]
theorem GRd_ok : CtxOk Try.prog GRd := ctxL_cons okNone <| ctxL_cons okCmp <| ctxL_cons okMont <| ctxL_cons okOf ctxL_nil
def fRed (n : Nat → Nat) (l : Nat) (w : Nat → Nat) : List AV → Option (List Prop × AV)
  | [.v1 (.agg [.ws .u64 6 a])] => some ([ModI n l w], numA (nv a % nv n))
  | _ => none
theorem okRed : (CallC.rd (CM fRed)).Ok Try.prog 17 := by
  refine CM_ok Try.func17 (by kernel_rfl) (by kernel_rfl) fun n l w rest pre v e hp => ?_
  unfold fRed at e
  split at e
  · rename_i a
    cases e
    have hM : ModI n l w := hp _ (List.mem_cons_self ..)
    refine ⟨rfl, rfl, fun y => ?_⟩
    cases hb : Nat.blt (nv a) (nv n)
    · refine evS_q mixed tt_ok GRd_ok 50 [⟨3,6,.lit (.bo false)⟩] ?_
      refine same (p := ModI n l w ∧ ilt (cmpI (nv a) (nv n)) 0 = false ∧ ModI n l w ∧ (nv a < nv n ∨ nv w < nv n) ∧ ModI n l w ∧ (nv (wd (montV (nv n) (nv a) (nv w))) < nv n ∨ nv (wd (1 % W)) < nv n) ∧
        endV y n l w (numA (montV (nv n) (nv (wd (montV (nv n) (nv a) (nv w)))) (nv (wd (1 % W))))) (numA (nv a % nv n))) ?_ (by kernel_rfl)
      refine ⟨hM, by rw [cmp_lt', hb], hM, .inr hM.wlt, hM, .inr (by rw [nv_one]; have := hM.three; omega), endV_num ?_⟩
      rw [nv_mont hM, nv_one, hM.wide, mont_in hM.odd, mont_out hM.odd, Nat.mul_one]
    · have hlt : nv a < nv n := by rw [← Nat.blt_eq, hb]
      refine evS_q mixed tt_ok GRd_ok 50 [⟨3,6,.lit (.bo true)⟩] ?_
      refine same (p := ModI n l w ∧ ilt (cmpI (nv a) (nv n)) 0 = true ∧ endV y n l w (nm a) (numA (nv a % nv n))) ?_ (by kernel_rfl)
      exact ⟨hM, by rw [cmp_lt', hb], endV_of rfl fun ρ => numA_val (by rw [Nat.mod_eq_of_lt hlt, Nat.mod_eq_of_lt (nv_lt a)]) ρ⟩
  · cases e

/-! N -/
def GNn : Ctx := ctxL [(48, .rd (CM fNone))]
theorem GNn_ok : CtxOk Try.prog GNn := ctxL_cons okNone ctxL_nil
def fN (n : Nat → Nat) (l : Nat) (w : Nat → Nat) : List AV → Option (List Prop × AV)
  | [] => some ([ModI n l w], nm n)
  | _ => none
theorem okN : (CallC.rd (CM fN)).Ok Try.prog 16 := by
  refine CM_ok Try.func16 (by kernel_rfl) (by kernel_rfl) fun n l w rest pre v e hp => ?_
  unfold fN at e
  split at e
  · cases e
    have hM : ModI n l w := hp _ (List.mem_cons_self ..)
    refine ⟨rfl, rfl, fun y => evS_q mixed tt_ok GNn_ok 50 [] ?_⟩
    exact same (p := ModI n l w ∧ endV y n l w (nm n) (nm n)) ⟨hM, endV_of rfl fun _ => rfl⟩ (by kernel_rfl)
  · cases e

/-! Add -/
def GAd : Ctx := ctxL [(48, .rd (CM fNone)), (17, .rd (CM fRed)), (49, .pure cAdd), (40, .pure cSub), (46, .rd (CM fLess))]
theorem GAd_ok : CtxOk Try.prog GAd := ctxL_cons okNone <| ctxL_cons okRed <| ctxL_cons okAdd <| ctxL_cons okSub <| ctxL_cons okLess ctxL_nil
def fAdd (n : Nat → Nat) (l : Nat) (w : Nat → Nat) : List AV → Option (List Prop × AV)
  | [.v1 (.agg [.ws .u64 6 a]), .v1 (.agg [.ws .u64 6 b])] => some ([ModI n l w], numA ((nv a + nv b) % nv n))
  | _ => none
theorem okMAdd : (CallC.rd (CM fAdd)).Ok Try.prog 21 := by
  refine CM_ok Try.func21 (by kernel_rfl) (by kernel_rfl) fun n l w rest pre v e hp => ?_
  unfold fAdd at e
  split at e
  · rename_i a b
    cases e
    have hM : ModI n l w := hp _ (List.mem_cons_self ..)
    refine ⟨rfl, rfl, fun y => evS_q mixed tt_ok GAd_ok 50 [] ?_⟩
    refine same (p := ModI n l w ∧ ModI n l w ∧ ModI n l w ∧ endV y n l w (numA (lessV (nv n) (nv (wd ((nv (wd (nv a % nv n)) + nv (wd (nv b % nv n))) % R))))) (numA ((nv a + nv b) % nv n))) ?_ (by kernel_rfl)
    refine ⟨hM, hM, hM, endV_num ?_⟩
    have ha := Nat.mod_lt (nv a) hM.pos
    have hb := Nat.mod_lt (nv b) hM.pos
    have hs := hM.small
    rw [nv_modN hM, nv_modN hM, nv_wd, Nat.mod_mod, Nat.mod_eq_of_lt (show nv a % nv n + nv b % nv n < R by omega), lessV_mod (by omega), ← Nat.add_mod]
  · cases e

/-! Sub, Neg -/
def fSub (n : Nat → Nat) (l : Nat) (w : Nat → Nat) : List AV → Option (List Prop × AV)
  | [.v1 (.agg [.ws .u64 6 a]), .v1 (.agg [.ws .u64 6 b])] => some ([ModI n l w], numA (subM (nv n) (nv a) (nv b)))
  | _ => none
theorem okMSub : (CallC.rd (CM fSub)).Ok Try.prog 23 := by
  refine CM_ok Try.func23 (by kernel_rfl) (by kernel_rfl) fun n l w rest pre v e hp => ?_
  unfold fSub at e
  split at e
  · rename_i a b
    cases e
    have hM : ModI n l w := hp _ (List.mem_cons_self ..)
    have hs := hM.small
    have hsub := sub_eq (a := nv a) (b := nv b) hM.pos (show 2 * nv n ≤ R by omega)
    refine ⟨rfl, rfl, fun y => ?_⟩
    cases hc : Nat.blt (nv a % nv n) (nv b % nv n)
    · refine evS_q mixed tt_ok GAd_ok 50 [⟨4,0,.lit (.bo false)⟩] ?_
      refine same (p := ModI n l w ∧ ModI n l w ∧ ModI n l w ∧ Nat.blt (nv (wd (nv a % nv n))) (nv (wd (nv b % nv n))) = false ∧ endV y n l w (numA ((nv (wd (nv a % nv n)) + R - nv (wd (nv b % nv n))) % R)) (numA (subM (nv n) (nv a) (nv b)))) ?_ (by kernel_rfl)
      rw [nv_modN hM, nv_modN hM]
      exact ⟨hM, hM, hM, hc, endV_num (by rw [← hsub, hc, cond_false])⟩
    · refine evS_q mixed tt_ok GAd_ok 50 [⟨4,0,.lit (.bo true)⟩] ?_
      refine same (p := ModI n l w ∧ ModI n l w ∧ ModI n l w ∧ Nat.blt (nv (wd (nv a % nv n))) (nv (wd (nv b % nv n))) = true ∧ endV y n l w (numA ((nv (wd ((nv (wd (nv a % nv n)) + R - nv (wd (nv b % nv n))) % R)) + nv n) % R)) (numA (subM (nv n) (nv a) (nv b)))) ?_ (by kernel_rfl)
      rw [nv_modN hM, nv_modN hM]
      refine ⟨hM, hM, hM, hc, endV_num ?_⟩
      rw [← hsub, hc, nv_wd, Nat.mod_mod, cond_true]
  · cases e
def GNg : Ctx := ctxL [(23, .rd (CM fSub))]
theorem GNg_ok : CtxOk Try.prog GNg := ctxL_cons okMSub ctxL_nil
def fNeg (n : Nat → Nat) (l : Nat) (w : Nat → Nat) : List AV → Option (List Prop × AV)
  | [.v1 (.agg [.ws .u64 6 a])] => some ([ModI n l w], numA (subM (nv n) 0 (nv a)))
  | _ => none
theorem okMNeg : (CallC.rd (CM fNeg)).Ok Try.prog 25 := by
  refine CM_ok Try.func25 (by kernel_rfl) (by kernel_rfl) fun n l w rest pre v e hp => ?_
  unfold fNeg at e
  split at e
  · rename_i a
    cases e
    have hM : ModI n l w := hp _ (List.mem_cons_self ..)
    refine ⟨rfl, rfl, fun y => evS_q mixed tt_ok GNg_ok 50 [] ?_⟩
    refine same (p := ModI n l w ∧ endV y n l w (numA (subM (nv n) (nv (fun _ => 0)) (nv a))) (numA (subM (nv n) 0 (nv a)))) ?_ (by kernel_rfl)
    exact ⟨hM, endV_num (by rw [zero_nv])⟩
  · cases e

/-! Mul, Wide -/
def GMm : Ctx := ctxL [(48, .rd (CM fNone)), (52, .rd (CM fMont)), (21, .rd (CM fAdd))]
theorem GMm_ok : CtxOk Try.prog GMm := ctxL_cons okNone <| ctxL_cons okMont <| ctxL_cons okMAdd ctxL_nil
def fMul (n : Nat → Nat) (l : Nat) (w : Nat → Nat) : List AV → Option (List Prop × AV)
  | [.v1 (.agg [.ws .u64 6 a]), .v1 (.agg [.ws .u64 6 b])] => some ([ModI n l w], numA (nv a * nv b % nv n))
  | _ => none
theorem okMMul : (CallC.rd (CM fMul)).Ok Try.prog 27 := by
  refine CM_ok Try.func27 (by kernel_rfl) (by kernel_rfl) fun n l w rest pre v e hp => ?_
  unfold fMul at e
  split at e
  · rename_i a b
    cases e
    have hM : ModI n l w := hp _ (List.mem_cons_self ..)
    refine ⟨rfl, rfl, fun y => evS_q mixed tt_ok GMm_ok 50 [] ?_⟩
    refine same (p := ModI n l w ∧ ModI n l w ∧ (nv a < nv n ∨ nv w < nv n) ∧ ModI n l w ∧ (nv (wd (montV (nv n) (nv a) (nv w))) < nv n ∨ nv b < nv n) ∧
      endV y n l w (numA (montV (nv n) (nv (wd (montV (nv n) (nv a) (nv w)))) (nv b))) (numA (nv a * nv b % nv n))) ?_ (by kernel_rfl)
    refine ⟨hM, hM, .inr hM.wlt, hM, .inl (by rw [nv_mont hM]; exact montV_lt hM.pos), endV_num ?_⟩
    rw [nv_mont hM, hM.wide, mont_in hM.odd, mont_out hM.odd]
  · cases e
def fWide (n : Nat → Nat) (l : Nat) (w : Nat → Nat) : List AV → Option (List Prop × AV)
  | [.v1 (.agg [.ws .u64 6 a]), .v1 (.agg [.ws .u64 6 b])] => some ([ModI n l w], numA ((nv a + nv b * R) % nv n))
  | _ => none
theorem okWide : (CallC.rd (CM fWide)).Ok Try.prog 19 := by
  refine CM_ok Try.func19 (by kernel_rfl) (by kernel_rfl) fun n l w rest pre v e hp => ?_
  unfold fWide at e
  split at e
  · rename_i a b
    cases e
    have hM : ModI n l w := hp _ (List.mem_cons_self ..)
    refine ⟨rfl, rfl, fun y => evS_q mixed tt_ok GMm_ok 50 [] ?_⟩
    refine same (p := ModI n l w ∧ ModI n l w ∧ (nv b < nv n ∨ nv w < nv n) ∧ ModI n l w ∧ endV y n l w (numA ((nv a + nv (wd (montV (nv n) (nv b) (nv w)))) % nv n)) (numA ((nv a + nv b * R) % nv n))) ?_ (by kernel_rfl)
    refine ⟨hM, hM, .inr hM.wlt, hM, endV_num ?_⟩
    rw [nv_mont hM, hM.wide, mont_in hM.odd, Nat.add_mod, Nat.mod_mod, ← Nat.add_mod]
  · cases e
end Go.Proofs.Ytcmaecfpggmcoaa
