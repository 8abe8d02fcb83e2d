/- reliquarylaw01.WordsBack answers true at every input, and leaves it as it was. Conditions: none. -/
import Derived.Test.YtiaongfgkmbaaaaRows
import Derived.Test.YtiaongfgkmbaaaaW10
import Derived.Test.YtiaongfgkmbaaaaWL
import Derived.ProofKit
namespace Go.Proofs.Ytiaongfgkmbaaaa
open Go.Rq Go Go.ChangeShapes Go.WideShapes Go.ChangeAt Go.RowKit

def GR : Ctx := ctxL [(40, .pure cAwake), (22, .pure cAdd), (24, .pure cSub), (28, .pure cMul), (30, .pure cDiv2), (26, .pure cCmp)]
theorem GR_ok : CtxOk Try.prog GR := ctxL_cons okAwake <| ctxL_cons okAdd <| ctxL_cons okSub <| ctxL_cons okMul <| ctxL_cons (okDiv2_of okDiv) <| ctxL_cons okCmp ctxL_nil
theorem eqW_nv {f g : Nat → Nat} (h : nv f = nv g) : (eqN W 6 f g && true) = true := by
  rw [Bool.and_true, eqN_iff]
  intro i hi
  rw [← wd_nv f i hi, ← wd_nv g i hi, h]
theorem back_sub {A B : Nat} (hA : A < R) (hB : B < R) : ((A + B) % R + R - B) % R = A ∧ Nat.blt ((A + B) % R) B = Nat.ble R (A + B) := by
  by_cases h : A + B < R
  · rw [Nat.mod_eq_of_lt h]
    refine ⟨by rw [show A + B + R - B = A + R by omega, Nat.add_mod_right, Nat.mod_eq_of_lt hA], ?_⟩
    have h1 : Nat.ble R (A + B) = false := by rw [← Bool.not_eq_true, Nat.ble_eq]; omega
    have h2 : Nat.blt (A + B) B = false := by rw [← Bool.not_eq_true, Nat.blt_eq]; omega
    rw [h1, h2]
  · have e : (A + B) % R = A + B - R := by
      rw [Nat.mod_eq_sub_mod (by omega), Nat.mod_eq_of_lt (by omega)]
    rw [e]
    refine ⟨by rw [show A + B - R + R - B = A by omega, Nat.mod_eq_of_lt hA], ?_⟩
    have h1 : Nat.ble R (A + B) = true := by rw [Nat.ble_eq]; omega
    have h2 : Nat.blt (A + B - R) B = true := by rw [Nat.blt_eq]; omega
    rw [h1, h2]
theorem cmp_lt {x y : Nat} (h : x < y) : ilt (cmpI x y) 0 = true := by
  have : Nat.blt x y = true := by rw [Nat.blt_eq]; exact h
  unfold cmpI; rw [this]; rfl

theorem wordsBack_calls (a b : Nat → Nat) (w : World) :
    Calls Try.prog 7 ([.v1 (.agg [.ws .u64 6 a]), .v1 (.agg [.ws .u64 6 b])].map (AV.val fun _ => 0)).toArray w (fun e w' => e = .returned (.bool true) ∧ StepW w w') := by
  refine pure_calls tt_ok Try.func7 (by kernel_rfl) (by kernel_rfl) (v := .v1 (.sc (.bo true))) (by kernel_rfl) ?_ w
  have hA := nv_lt a
  have hB := nv_lt b
  obtain ⟨s1, s2⟩ := back_sub hA hB
  have c1 : (!(eqN W 6 (wd ((nv (wd ((nv a + nv b) % R)) + R - nv b) % R)) a && true)) = false := by
    rw [eqW_nv (by simp only [nv_wd, Nat.mod_mod]; exact s1)]; rfl
  have c2 : (!decide (Nat.blt (nv (wd ((nv a + nv b) % R))) (nv b) = Nat.ble R (nv a + nv b))) = false := by
    rw [nv_wd, Nat.mod_mod, s2]; simp
  cases hz : Nat.beq (nv b) 0
  · have hb0 : nv b ≠ 0 := fun e => by rw [← Nat.beq_eq, hz] at e; cases e
    have hq : dQ (nv a) (nv b) = nv a / nv b := by unfold dQ; rw [hz]; rfl
    have hr : dR (nv a) (nv b) = nv a % nv b := by unfold dR; rw [hz]; rfl
    have he : dE (nv b) = 0 := by unfold dE; rw [hz]; rfl
    have hqR : nv a / nv b < R := Nat.lt_of_le_of_lt (Nat.div_le_self _ _) hA
    have hrR : nv a % nv b < R := Nat.lt_of_le_of_lt (Nat.mod_le _ _) hA
    have hmul : nv a / nv b * nv b < R := Nat.lt_of_le_of_lt (Nat.div_mul_le_self _ _) hA
    have hsum : nv a / nv b * nv b + nv a % nv b = nv a := by rw [Nat.mul_comm]; exact Nat.div_add_mod _ _
    refine evS_q mixed tt_ok GR_ok 100 [⟨4,2,.lit (.bo false)⟩,⟨4,6,.lit (.bo false)⟩,⟨7,2,.lit (.bo false)⟩,⟨11,3,.lit (.bo true)⟩,⟨11,8,.lit (.bo true)⟩,⟨11,13,.lit (.bo true)⟩,⟨11,17,.lit (.bo true)⟩,⟨11,23,.lit (.bo true)⟩] ?_
    refine same (p :=
      (!(eqN W 6 (wd ((nv (wd ((nv a + nv b) % R)) + R - nv b) % R)) a && true)) = false ∧
      (!decide (Nat.blt (nv (wd ((nv a + nv b) % R))) (nv b) = Nat.ble R (nv a + nv b))) = false ∧
      (eqN W 6 b (fun _ => 0) && true) = false ∧
      ieq (dE (nv b)) 0 = true ∧
      (eqN W 6 (wd (nv (wd (dQ (nv a) (nv b))) * nv b / R)) (fun _ => 0) && true) = true ∧
      (eqN W 6 (wd ((nv (wd (nv (wd (dQ (nv a) (nv b))) * nv b % R)) + nv (wd (dR (nv a) (nv b)))) % R)) a && true) = true ∧
      (!Nat.ble R (nv (wd (nv (wd (dQ (nv a) (nv b))) * nv b % R)) + nv (wd (dR (nv a) (nv b))))) = true ∧
      ilt (cmpI (nv (wd (dR (nv a) (nv b)))) (nv b)) 0 = true ∧
      ∃ v', some (AV.v1 (.sc (.bo true))) = some v' ∧ ∀ ρ, v'.val ρ = (AV.v1 (.sc (.bo true))).val ρ) ?_ (by kernel_rfl)
    rw [hq, hr, he]
    have n1 : nv (wd (nv a / nv b)) = nv a / nv b := by rw [nv_wd, Nat.mod_eq_of_lt hqR]
    have n2 : nv (wd (nv a % nv b)) = nv a % nv b := by rw [nv_wd, Nat.mod_eq_of_lt hrR]
    have n3 : nv (wd (nv a / nv b * nv b % R)) = nv a / nv b * nv b := by rw [nv_wd, Nat.mod_mod, Nat.mod_eq_of_lt hmul]
    rw [n1, n2, n3, hsum]
    refine ⟨c1, c2, by rw [eqN_nv, hz]; rfl, rfl, ?_, ?_, ?_, cmp_lt (Nat.mod_lt _ (by omega)), _, rfl, fun _ => rfl⟩
    · refine eqW_nv ?_
      rw [nv_wd, zero_nv, Nat.div_eq_of_lt hmul]; rfl
    · refine eqW_nv ?_
      rw [nv_wd, Nat.mod_mod, Nat.mod_eq_of_lt hA]
    · have : Nat.ble R (nv a) = false := by rw [← Bool.not_eq_true, Nat.ble_eq]; omega
      rw [this]; rfl
  · have hq : dQ (nv a) (nv b) = 0 := by unfold dQ; rw [hz]; rfl
    have hr : dR (nv a) (nv b) = 0 := by unfold dR; rw [hz]; rfl
    have he : dE (nv b) = 2 := by unfold dE; rw [hz]; rfl
    refine evS_q mixed tt_ok GR_ok 100 [⟨4,2,.lit (.bo false)⟩,⟨4,6,.lit (.bo false)⟩,⟨7,2,.lit (.bo true)⟩,⟨8,3,.lit (.bo true)⟩,⟨8,8,.lit (.bo true)⟩,⟨8,13,.lit (.bo true)⟩] ?_
    refine same (p :=
      (!(eqN W 6 (wd ((nv (wd ((nv a + nv b) % R)) + R - nv b) % R)) a && true)) = false ∧
      (!decide (Nat.blt (nv (wd ((nv a + nv b) % R))) (nv b) = Nat.ble R (nv a + nv b))) = false ∧
      (eqN W 6 b (fun _ => 0) && true) = true ∧
      ieq (dE (nv b)) 2 = true ∧
      (eqN W 6 (wd (dQ (nv a) (nv b))) (fun _ => 0) && true) = true ∧
      (eqN W 6 (wd (dR (nv a) (nv b))) (fun _ => 0) && true) = true ∧
      ∃ v', some (AV.v1 (.sc (.bo true))) = some v' ∧ ∀ ρ, v'.val ρ = (AV.v1 (.sc (.bo true))).val ρ) ?_ (by kernel_rfl)
    rw [hq, hr, he]
    exact ⟨c1, c2, by rw [eqN_nv, hz]; rfl, rfl, eqW_nv (by rw [nv_wd, zero_nv]; rfl), eqW_nv (by rw [nv_wd, zero_nv]; rfl), _, rfl, fun _ => rfl⟩

theorem wordsBack_lifted (os : Os) (started : os.Started) (H : Type) (enc : TypeId × Value → H) :
    ReturnsInHanded {} Try.checked os 7 .any (Rows.wordsBackSpec.pre6 enc Try.prog Try.f7 Rows.wordsBackRow.domain false) (Rows.wordsBackSpec.post enc Try.prog Try.f7 false true false false) := by
  refine returnsInHanded_of_change (C := Try.checked) Try.own started (by kernel_rfl) Try.func7
    (ChangeSpec.witness6 (enc := enc) (C := Try.checked) false ⟨#[], #[.agg #[.int .u64 0, .int .u64 0, .int .u64 0, .int .u64 0, .int .u64 0, .int .u64 0], .agg #[.int .u64 0, .int .u64 0, .int .u64 0, .int .u64 0, .int .u64 0, .int .u64 0]], []⟩ 8 (by kernel_rfl) (by kernel_rfl) (by kernel_rfl) (by kernel_rfl)) ?_
  intro Wd base args ds gs before hval0 hW _ _
  have hval : ∀ (j : Nat) t v, Try.f7.params[j]? = some t → args[j]? = some v → Value.okWide Try.prog Wd .any base t v := hval0
  have hW' := hW
  obtain ⟨p, q, hA0, hV, rfl, _, _⟩ := hW
  have hA : DataW.TrodAll enc Try.prog Wd 0 (fun _ => true) true Try.f7.params.toList args.toList ds p := hA0
  rw [Try.params7] at hA hval
  obtain ⟨v0, v1, d0, d1, p0, p1, rfl, rfl, rfl, h0, h1⟩ := trodAll_two hA
  obtain ⟨rfl, rfl⟩ := trodVars_none hV
  obtain ⟨x0, rfl, rfl, t0⟩ := num_open h0 (hval 0 24 v0 rfl rfl)
  obtain ⟨x1, rfl, rfl, t1⟩ := num_open h1 (hval 1 24 v1 rfl rfl)
  clear hA0 hval0
  simp only [List.append_nil] at hW'
  refine (wordsBack_calls x0 x1 Wd).mono fun e W' ⟨he, hw⟩ => ?_
  subst he
  have hg := hw.grown
  exact ⟨_, rfl, post_of_same (pa := []) (pv := []) hW' (fun _ _ _ => trodAll_mk1 (shut_bool Try.underlying4 true)) (fun sp _ => trodAll_mk2 (t0 _ _ _ _) (t1 _ _ _ _)) (fun _ _ => rfl) rfl (hg.frame _) hg.2.1 (ok_one (by kernel_rfl) rfl (okWide_bool_mk Try.underlying4 true))⟩

theorem wordsBack_holds : Rows.WordsBackSaid :=
  OpenClaim.holds_of_wide 7 Try.f7 rfl rfl rfl rfl rfl rfl rfl ⟨rfl, rfl, rfl, rfl, rfl⟩ rfl rfl rfl rfl rfl (by kernel_rfl) Try.func7 (by kernel_rfl)
    (of_decide_eq_true (by kernel_rfl)) (by unfold Func.isWrapper; rw [if_neg (of_decide_eq_false (by kernel_rfl))]; exact ⟨rfl, rfl⟩)
    (fun os started H enc _ => wordsBack_lifted os started H enc)
end Go.Proofs.Ytiaongfgkmbaaaa
