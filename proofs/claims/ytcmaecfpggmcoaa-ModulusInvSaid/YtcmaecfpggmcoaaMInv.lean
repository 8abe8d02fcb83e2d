/- reliquarylaw02.ModulusInv answers true at every input, and leaves it as it was. Conditions: none. -/
import Derived.Test.YtcmaecfpggmcoaaRows
import Derived.Test.YtcmaecfpggmcoaaM6
import Derived.Test.YtcmaecfpggmcoaaWL
import Derived.Test.YtcmaecfpggmcoaaWD
import Derived.Test.YtcmaecfpggmcoaaWN5
import Derived.ProofKit
import Derived.Carry
namespace Go.Proofs.Ytcmaecfpggmcoaa
open Go.Rq Go Go.ChangeShapes Go.WideShapes Go.ChangeAt Go.RowKit

def gIvL (x : Nat × CallC) : List (Nat × CallC) := [(33, .pure cAwakeM), x, (29, .rd (CM fInv)), (27, .rd (CM fMul)), (17, .rd (CM fRed)), (34, .pure cOf), (35, .pure cCmp), (36, .pure cDiv2)]
theorem gIv_ok {x : Nat × CallC} (h : x.2.Ok Try.prog x.1) : CtxOk Try.prog (ctxL (gIvL x)) :=
  ctxL_cons okAwakeM <| ctxL_cons h <| ctxL_cons okInv <| ctxL_cons okMMul <| ctxL_cons okRed <| ctxL_cons okOf <| ctxL_cons okCmp <| ctxL_cons (okDiv2_of okDiv) ctxL_nil
abbrev gIn : Ctx := ctxL (gIvL (13, .mem cNew))
def VEu (i : Nat) : List AV := [.v1 (.sc (.bo true)), pt 5 0, iv 6, pt 7 0, pt 8 0, iv (Int.ofNat i)]
def HEu (n a x d r : Nat → Nat) : Heap := [nb n, nb a, none, some ⟨53, mCs n (newL n) (wd (R * R % nv n)), 0, 0⟩, none, nb x, none, nb d, nb r]
def InvEu (n a : Nat → Nat) (x : Nat × (Nat → Nat) × (Nat → Nat)) : Prop := x.1 ≤ 600 ∧ EucI (nv a) (nv n) (600 - x.1) (nv x.2.1) (nv x.2.2)
abbrev endT : Prop := ∃ v', some (AV.v1 (.sc (.bo true))) = some v' ∧ ∀ ρ, v'.val ρ = (AV.v1 (.sc (.bo true))).val ρ
theorem endT_ok : endT := ⟨_, rfl, fun _ => rfl⟩

theorem modulusInv_calls (n a : Nat → Nat) (w : World) :
    Calls Try.prog 5 ([nm n, nm a].map (AV.val fun _ => 0)).toArray w (fun e w' => e = .returned (.bool true) ∧ StepW w w') := by
  refine pure_calls tt_ok Try.func5 (by kernel_rfl) (by kernel_rfl) (v := .v1 (.sc (.bo true))) (by kernel_rfl) ?_ w
  by_cases hMay : MayM (nv n)
  · have h3 : 0 < nv n := by have := hMay.2.2; omega
    have hM : ModI n (newL n) (wd (R * R % nv n)) := may_ok hMay (by rw [nv_wd, Nat.mod_eq_of_lt (Nat.lt_trans (Nat.mod_lt _ h3) (nv_lt n))])
    have hN1 : 1 < nv n := by have := hMay.2.2; omega
    have hG := gIv_ok (x := (13, .mem cNew)) okNew
    by_cases hg : Nat.gcd (nv a) (nv n) = 1
    · obtain ⟨v1, v2, v3⟩ := invV_mul hM.odd hN1 hg
      have nvi : nv (wd (invV (nv n) (nv a))) = invV (nv n) (nv a) := by rw [nv_wd, Nat.mod_eq_of_lt (Nat.lt_trans v2 (nv_lt n))]
      refine evS_q mixed tt_ok hG 100 [⟨5,5,.lit (.it 0)⟩,⟨7,9,.lit (.bo true)⟩,⟨7,15,.lit (.bo true)⟩] ?_
      refine same (p := MayM (nv n) ∧ ModI n (newL n) (wd (R * R % nv n)) ∧ invE (nv n) (nv a) = 0 ∧ ModI n (newL n) (wd (R * R % nv n)) ∧ ModI n (newL n) (wd (R * R % nv n)) ∧
        (eqN W 6 (wd (nv (wd (invV (nv n) (nv a))) * nv a % nv n)) (wd (nv (wd (1 % W)) % nv n)) && true) = true ∧ ilt (cmpI (nv (wd (invV (nv n) (nv a)))) (nv n)) 0 = true ∧ endT) ?_ (by kernel_rfl)
      refine ⟨hMay, hM, v1, hM, hM, eqW_nv ?_, by rw [nvi, cmp_lt', Nat.blt_eq]; exact v2, endT_ok⟩
      rw [nvi, v3, nv_one, Nat.mod_eq_of_lt hN1]
    · obtain ⟨v1, v2⟩ := invV_none hM.odd hN1 hg
      refine loopK mixed tt_ok hG 0 (by kernel_rfl) (ι := {x // InvEu n a x}) [5,8,9,10,11,12] 96 9 (fun x => VEu x.1.1) (fun x => HEu n a (wd (invV (nv n) (nv a))) x.1.2.1 x.1.2.2) (fun x => 600 - x.1.1) (fun x => nv x.1.2.2 = 0)
        (fun _ => rfl) (fun _ => by kernel_rfl) (fun _ _ h => h.elim) 100 [⟨5,5,.lit (.it 6)⟩] ?_ ?_ ?_
      · refine same (p := MayM (nv n) ∧ ModI n (newL n) (wd (R * R % nv n)) ∧ invE (nv n) (nv a) = 6 ∧ ModI n (newL n) (wd (R * R % nv n)) ∧ true = true ∧ ∃ j : {x // InvEu n a x}, VEu 0 = VEu j.1.1 ∧ HEu n a (wd (invV (nv n) (nv a))) n (wd (nv a % nv n)) = HEu n a (wd (invV (nv n) (nv a))) j.1.2.1 j.1.2.2) ?_ (by kernel_rfl)
        refine ⟨hMay, hM, v1, hM, rfl, ⟨(0, n, wd (nv a % nv n)), by simp, ?_⟩, rfl, rfl⟩
        simp only
        rw [nv_modN hM]
        exact EucI.start h3 (nv_lt n)
      · intro ⟨⟨i, d, r⟩, hi, he⟩ junk
        simp only at hi he
        by_cases h600 : i < 600
        · have hl : ilt (Int.ofNat i) 600 = true := ilt_t (n := 600) h600
          by_cases hr : nv r = 0
          · refine roundF mixed tt_ok hG 100 [⟨10,1,.lit (.bo true)⟩,⟨10,5,.lit (.bo false)⟩] ?_
            refine same (p := ilt (Int.ofNat i) 600 = true ∧ (!(eqN W 6 r (fun _ => 0) && true)) = false ∧ true = true ∧ ∃ j : {x // InvEu n a x}, nv j.1.2.2 = 0 ∧ VEu i = VEu j.1.1 ∧ HEu n a (wd (invV (nv n) (nv a))) d r = HEu n a (wd (invV (nv n) (nv a))) j.1.2.1 j.1.2.2) ?_ (by kernel_rfl)
            exact ⟨hl, by rw [eqW_nv (by rw [hr, zero_nv])]; rfl, rfl, ⟨(i, d, r), hi, he⟩, hr, rfl, rfl⟩
          · refine roundF mixed tt_ok hG 100 [⟨10,1,.lit (.bo true)⟩,⟨10,5,.lit (.bo true)⟩,⟨11,1,.lit (.it (Int.ofNat (i+1)))⟩] ?_
            refine same (p := ilt (Int.ofNat i) 600 = true ∧ (!(eqN W 6 r (fun _ => 0) && true)) = true ∧ wrapI (Int.ofNat i + 1) = Int.ofNat (i + 1) ∧ true = true ∧ ∃ j : {x // InvEu n a x}, 600 - j.1.1 < 600 - i ∧ VEu (i + 1) = VEu j.1.1 ∧ HEu n a (wd (invV (nv n) (nv a))) r (wd (dR (nv d) (nv r))) = HEu n a (wd (invV (nv n) (nv a))) j.1.2.1 j.1.2.2) ?_ (by kernel_rfl)
            refine ⟨hl, by rw [neW_nv (by rw [zero_nv]; exact hr)]; rfl, wrapI_succ (by omega), rfl, ⟨(i + 1, r, wd (dR (nv d) (nv r))), by simp only; omega, ?_⟩, by simp only; omega, rfl, rfl⟩
            simp only
            have hd : dR (nv d) (nv r) = nv d % nv r := by
              unfold dR
              have : Nat.beq (nv r) 0 = false := by rw [← Bool.not_eq_true, Nat.beq_eq]; exact hr
              rw [this]; rfl
            have hlt : nv d % nv r < R := Nat.lt_trans (Nat.mod_lt _ (by omega)) (nv_lt r)
            rw [hd, nv_wd, Nat.mod_eq_of_lt hlt]
            rw [show 600 - i = (600 - (i + 1)) + 1 by omega] at he
            exact he.step (by omega)
        · have : i = 600 := by omega
          subst this
          have hr : nv r = 0 := he.zero
          refine roundF mixed tt_ok hG 100 [⟨10,1,.lit (.bo false)⟩] ?_
          refine same (p := ilt (Int.ofNat 600) 600 = false ∧ true = true ∧ ∃ j : {x // InvEu n a x}, nv j.1.2.2 = 0 ∧ VEu 600 = VEu j.1.1 ∧ HEu n a (wd (invV (nv n) (nv a))) d r = HEu n a (wd (invV (nv n) (nv a))) j.1.2.1 j.1.2.2) ?_ (by kernel_rfl)
          exact ⟨rfl, rfl, ⟨(600, d, r), hi, he⟩, hr, rfl, rfl⟩
      · intro ⟨⟨i, d, r⟩, hi, he⟩ junk hr
        simp only at hi he hr
        rw [hr] at he
        have hd := he.fin
        refine evS_q mixed tt_ok hG 100 [⟨14,8,.lit (.bo true)⟩,⟨14,13,.lit (.bo true)⟩,⟨14,18,.lit (.bo true)⟩] ?_
        refine same (p := (eqN W 6 (wd (invV (nv n) (nv a))) (fun _ => 0) && true) = true ∧ (eqN W 6 r (fun _ => 0) && true) = true ∧ (!(eqN W 6 d (wd (1 % W)) && true)) = true ∧ endT) ?_ (by kernel_rfl)
        refine ⟨eqW_nv (by rw [v2, nv_wd, zero_nv]; rfl), eqW_nv (by rw [hr, zero_nv]), ?_, endT_ok⟩
        rw [neW_nv (by rw [hd, nv_one]; exact hg)]; rfl
  · refine evS_q mixed tt_ok (gIv_ok (x := (13, .pure cNewNo)) okNewNo) 100 [] ?_
    refine same (p := ¬ MayM (nv n) ∧ endT) ?_ (by kernel_rfl)
    exact ⟨hMay, endT_ok⟩

theorem modulusInv_lifted (os : Os) (started : os.Started) (H : Type) (enc : TypeId × Value → H) :
    ReturnsInHanded {} Try.checked os 5 .any (Rows.modulusInvSpec.pre6 enc Try.prog Try.f5 Rows.modulusInvRow.domain false) (Rows.modulusInvSpec.post enc Try.prog Try.f5 false true false false) := by
  refine returnsInHanded_of_change (C := Try.checked) Try.own started (by kernel_rfl) Try.func5
    (ChangeSpec.witness6 (enc := enc) (C := Try.checked) false ⟨#[], #[.agg #[.int .u64 0, .int .u64 0, .int .u64 0, .int .u64 0, .int .u64 0, .int .u64 0], .agg #[.int .u64 0, .int .u64 0, .int .u64 0, .int .u64 0, .int .u64 0, .int .u64 0]], []⟩ 8 (by kernel_rfl) (by kernel_rfl) (by kernel_rfl) (by kernel_rfl)) ?_
  intro Wd base args ds gs before hval0 hW _ _
  have hval : ∀ (j : Nat) t v, Try.f5.params[j]? = some t → args[j]? = some v → Value.okWide Try.prog Wd .any base t v := hval0
  have hW' := hW
  obtain ⟨p, q, hA0, hV, rfl, _, _⟩ := hW
  have hA : DataW.TrodAll enc Try.prog Wd 0 (fun _ => true) true Try.f5.params.toList args.toList ds p := hA0
  rw [Try.params5] at hA hval
  obtain ⟨v0, v1, d0, d1, p0, p1, rfl, rfl, rfl, h0, h1⟩ := trodAll_two hA
  obtain ⟨rfl, rfl⟩ := trodVars_none hV
  obtain ⟨x0, rfl, rfl, t0⟩ := num_open h0 (hval 0 24 v0 rfl rfl)
  obtain ⟨x1, rfl, rfl, t1⟩ := num_open h1 (hval 1 24 v1 rfl rfl)
  clear hA0 hval0
  simp only [List.append_nil] at hW'
  refine (modulusInv_calls x0 x1 Wd).mono fun e W' ⟨he, hw⟩ => ?_
  subst he
  have hg := hw.grown
  exact ⟨_, rfl, post_of_same (pa := []) (pv := []) hW' (fun _ _ _ => trodAll_mk1 (shut_bool Try.underlying4 true)) (fun sp _ => trodAll_mk2 (t0 _ _ _ _) (t1 _ _ _ _)) (fun _ _ => rfl) rfl (hg.frame _) hg.2.1 (ok_one (by kernel_rfl) rfl (okWide_bool_mk Try.underlying4 true))⟩

theorem modulusInv_holds : Rows.ModulusInvSaid :=
  OpenClaim.holds_of_wide 5 Try.f5 rfl rfl rfl rfl rfl rfl rfl ⟨rfl, rfl, rfl, rfl, rfl⟩ rfl rfl rfl rfl rfl (by kernel_rfl) Try.func5 (by kernel_rfl)
    (of_decide_eq_true (by kernel_rfl)) (by unfold Func.isWrapper; rw [if_neg (of_decide_eq_false (by kernel_rfl))]; exact ⟨rfl, rfl⟩)
    (fun os started H enc _ => modulusInv_lifted os started H enc)
end Go.Proofs.Ytcmaecfpggmcoaa
