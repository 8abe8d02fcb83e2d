/- reliquarylaw02.ModulusFields answers true at every input, and leaves it as it was. Conditions: none. Printed by genfields.py. -/
import Derived.Test.YtcmaecfpggmcoaaRows
import Derived.Test.YtcmaecfpggmcoaaM6
import Derived.Test.YtcmaecfpggmcoaaM7
import Derived.Test.YtcmaecfpggmcoaaM9
import Derived.Test.YtcmaecfpggmcoaaWL
import Derived.Test.YtcmaecfpggmcoaaWP4
import Derived.ProofKit
import Derived.Carry
namespace Go.Proofs.Ytcmaecfpggmcoaa
open Go.Rq Go Go.ChangeShapes Go.WideShapes Go.ChangeAt Go.RowKit

def baseF : Nat → Nat := upd (upd (upd (upd (upd (upd (fun _ => 0) 0 13402431016077863595) 1 2210141511517208575) 2 7435674573564081700) 3 7239337960414712511) 4 5412103778470702295) 5 1873798617647539866
def orderF : Nat → Nat := upd (upd (upd (upd (fun _ => 0) 0 18446744069414584321) 1 6034159408538082302) 2 3691218898639771653) 3 8353516859464449352
def cK (f : Nat → Nat) : List AV → Option (List Prop × AV)
  | [] => some ([], nm f)
  | _ => none
theorem okBase : (CallC.pure (cK baseF)).Ok Try.prog 38 := by
  intro args pre v h _
  unfold cK at h
  split at h
  · cases h
    refine pure_fn mixed tt_ok G0_ok Try.func38 (by kernel_rfl) (by kernel_rfl) (by kernel_rfl) (by kernel_rfl) 60 [] ?_
    exact same (p := some (nm baseF) = some (nm baseF)) rfl (by kernel_rfl)
  · cases h
theorem okOrder : (CallC.pure (cK orderF)).Ok Try.prog 39 := by
  intro args pre v h _
  unfold cK at h
  split at h
  · cases h
    refine pure_fn mixed tt_ok G0_ok Try.func39 (by kernel_rfl) (by kernel_rfl) (by kernel_rfl) (by kernel_rfl) 60 [] ?_
    exact same (p := some (nm orderF) = some (nm orderF)) rfl (by kernel_rfl)
  · cases h
theorem nv_base : nv baseF = 4002409555221667393417789825735904156556882819939007885332058136124031650490837864442687629129015664037894272559787 := by kernel_rfl
theorem nv_order : nv orderF = 52435875175126190479447740508185965837690552500527637822603658699938581184513 := by kernel_rfl
theorem pr_base : Pr (nv baseF) := by rw [nv_base]; exact pr30
theorem pr_order : Pr (nv orderF) := by rw [nv_order]; exact pr14
theorem may_base : MayM (nv baseF) := (mayB_iff _).1 (by kernel_rfl)
theorem may_order : MayM (nv orderF) := (mayB_iff _).1 (by kernel_rfl)
abbrev MIf (n : Nat → Nat) : Prop := ModI n (newL n) (wd (R * R % nv n))
theorem mi_of {n : Nat → Nat} (h : MayM (nv n)) : MIf n := may_ok h (by rw [nv_rem h])

theorem rootOk_iff {N a : Nat} (hp : Pr N) (h4 : N % 4 = 3) (ha : a % N ≠ 0) : rootOk N a = true ↔ hV N a = 1 := by
  unfold rootOk
  rw [Nat.beq_eq]
  exact sq_ok hp h4 ha
theorem rootOk_neg {N a : Nat} (hp : Pr N) (h4 : N % 4 = 3) (ha : a % N ≠ 0) : rootOk N (subM N 0 a) = !rootOk N a := by
  have h1 := rootOk_iff hp h4 ha
  have h2 := rootOk_iff hp h4 (neg_ne (by omega) ha)
  have h3 := hV_neg hp h4 ha
  cases hb : rootOk N a
  · have : ¬ hV N a = 1 := fun e => by rw [h1.2 e] at hb; cases hb
    have h5 : hV N (subM N 0 a) = 1 := Classical.byContradiction fun hc => this (h3.2 hc)
    rw [h2.2 h5]; rfl
  · have := h3.1 (h1.1 hb)
    show _ = false
    rw [← Bool.not_eq_true]
    exact fun e => this (h2.1 e)
theorem rootV_sq {N a : Nat} (h4 : N % 4 = 3) (hb : rootOk N a = true) : rootV N a * rootV N a % N = a % N := by
  have hq : Nat.beq (N % 4) 1 = false := by rw [h4]; rfl
  have hs : rootC N a * rootC N a % N = a % N := by
    unfold rootOk at hb
    rwa [Nat.beq_eq] at hb
  unfold rootV
  rw [hq, hb, cond_false, cond_true]
  unfold rootX
  cases Nat.blt (subM N 0 (rootC N a)) (rootC N a)
  · exact hs
  · rw [cond_true, neg_sq (by omega)]; exact hs
theorem rootV_lt {N a : Nat} (h : 0 < N) : rootV N a < N := by
  unfold rootV rootX
  cases Nat.beq (N % 4) 1
  · cases rootOk N a
    · exact h
    · rw [cond_false, cond_true]
      cases Nat.blt (subM N 0 (rootC N a)) (rootC N a)
      · exact powM_lt h _
      · exact subM_lt h
  · exact h
theorem rootE_3 {N a : Nat} (h4 : N % 4 = 3) : ieq (rootE N a) 0 = rootOk N a := by
  have hq : Nat.beq (N % 4) 1 = false := by rw [h4]; rfl
  unfold rootE
  rw [hq]
  cases rootOk N a <;> rfl
theorem rootE_1 {N a : Nat} (h4 : N % 4 = 1) : (!ieq (rootE N a) 2) = false := by
  have hq : Nat.beq (N % 4) 1 = true := by rw [h4]; rfl
  unfold rootE
  rw [hq]; rfl
theorem nE_of {x : Int} (h : x = 0) : (!ieq x 0) = false := by rw [h]; rfl
theorem nW_of {f g : Nat → Nat} (h : nv f = nv g) : (!(eqN W 6 f g && true)) = false := by rw [eqW_nv h]; rfl
abbrev lessF (n : Nat → Nat) : Nat → Nat := wd ((nv n + R - nv (wd (1 % W))) % R)
/-- What holds by a prime of a number that is not 0. -/
theorem unit_of {n a : Nat → Nat} (hM : MayM (nv n)) (hp : Pr (nv n)) (ha : nv a % nv n ≠ 0) :
    (!ieq (invE (nv n) (nv a)) 0) = false ∧ (!(eqN W 6 (wd (nv (wd (invV (nv n) (nv a))) * nv a % nv n)) (wd (1 % W)) && true)) = false ∧
    (!(eqN W 6 (wd (powM (nv n) (nv a) (nv (lessF n)))) (wd (1 % W)) && true)) = false := by
  obtain ⟨v1, v2, v3⟩ := invV_mul hM.1 hM.one (prime_gcd hp ha)
  have hlt := nv_lt n
  have h1 := hM.one
  refine ⟨nE_of v1, nW_of ?_, nW_of ?_⟩
  · rw [nv_low hM v2, v3, nv_one]
    exact nv_low hM h1
  · have e : nv (lessF n) = nv n - 1 := by
      unfold lessF
      rw [nv_one, nv_wd, Nat.mod_mod, show nv n + R - 1 = (nv n - 1) + R by omega, Nat.add_mod_right, Nat.mod_eq_of_lt (by omega)]
    rw [e, nv_one]
    unfold powM
    rw [fermat_nat hp ha]
    exact nv_low hM h1

def gFiL : List (Nat × CallC) := [(33, .pure cAwakeM), (38, .pure (cK baseF)), (39, .pure (cK orderF)), (13, .mem cNew), (34, .pure cOf), (40, .pure cSub), (17, .rd (CM fRed)),
  (29, .rd (CM fInv)), (27, .rd (CM fMul)), (31, .rd (CM fPow)), (14, .rd (CM fRoot)), (25, .rd (CM fNeg))]
theorem gFi_ok : CtxOk Try.prog (ctxL gFiL) := ctxL_cons okAwakeM <| ctxL_cons okBase <| ctxL_cons okOrder <| ctxL_cons okNew <| ctxL_cons okOf <| ctxL_cons okSub <| ctxL_cons okRed <|
  ctxL_cons okInv <| ctxL_cons okMMul <| ctxL_cons okPow <| ctxL_cons okRoot <| ctxL_cons okMNeg ctxL_nil
abbrev endT : Prop := ∃ v', some (AV.v1 (.sc (.bo true))) = some v' ∧ ∀ ρ, v'.val ρ = (AV.v1 (.sc (.bo true))).val ρ
theorem endT_ok : endT := ⟨_, rfl, fun _ => rfl⟩
abbrev zRed (n a : Nat → Nat) : Bool := eqN W 6 (wd (nv a % nv n)) (fun _ => 0) && true
abbrev uni (n a : Nat → Nat) (k : Prop) : Prop := zRed n a = false ∧ MIf n ∧ (!ieq (invE (nv n) (nv a)) 0) = false ∧ MIf n ∧ (!(eqN W 6 (wd (nv (wd (invV (nv n) (nv a))) * nv a % nv n)) (wd (1 % W)) && true)) = false ∧
    MIf n ∧ (!(eqN W 6 (wd (powM (nv n) (nv a) (nv (lessF n)))) (wd (1 % W)) && true)) = false ∧ MIf n ∧ MIf n ∧ MIf n ∧ k
abbrev ngF (n a : Nat → Nat) : Nat → Nat := wd (subM (nv n) 0 (nv a))

theorem modulusFields_calls (a : Nat → Nat) (w : World) :
    Calls Try.prog 8 ([nm a].map (AV.val fun _ => 0)).toArray w (fun e w' => e = .returned (.bool true) ∧ StepW w w') := by
  refine pure_calls tt_ok Try.func8 (by kernel_rfl) (by kernel_rfl) (v := .v1 (.sc (.bo true))) (by kernel_rfl) ?_ w
  have mB := mi_of may_base
  have mO := mi_of may_order
  have p4 : nv baseF % 4 = 3 := by rw [nv_base]
  have q4 : nv orderF % 4 = 1 := by rw [nv_order]
  by_cases h0 : nv a % nv baseF = 0
  · have hz : zRed baseF a = true := eqW_nv (by rw [nv_rem may_base, h0, zero_nv])
    by_cases w0 : nv a % nv orderF = 0
    · have wz : zRed orderF a = true := eqW_nv (by rw [nv_rem may_order, w0, zero_nv])
      refine evS_q mixed tt_ok gFi_ok 400 [⟨9,4,.lit (.bo true)⟩,⟨9,4,.lit (.bo true)⟩] ?_
      exact same (p := MayM (nv baseF) ∧ MIf baseF ∧ zRed baseF a = true ∧ MayM (nv orderF) ∧ MIf orderF ∧ zRed orderF a = true ∧ endT) ⟨may_base, mB, hz, may_order, mO, wz, endT_ok⟩ (by kernel_rfl)
    · have wz : zRed orderF a = false := neW_nv (by rw [nv_rem may_order, zero_nv]; exact w0)
      obtain ⟨w1, w2, w3⟩ := unit_of may_order pr_order w0
      refine evS_q mixed tt_ok gFi_ok 400 [⟨9,4,.lit (.bo true)⟩,⟨9,4,.lit (.bo false)⟩,⟨12,1,.lit (.bo false)⟩,⟨12,8,.lit (.bo false)⟩,⟨12,16,.lit (.bo false)⟩,⟨16,42,.lit (.bo false)⟩,⟨16,45,.lit (.bo false)⟩] ?_
      exact same (p := MayM (nv baseF) ∧ MIf baseF ∧ zRed baseF a = true ∧ MayM (nv orderF) ∧ MIf orderF ∧ uni orderF a ((!ieq (rootE (nv orderF) (nv a)) 2) = false ∧ (!ieq (rootE (nv orderF) (nv (ngF orderF a))) 2) = false ∧ endT)) ⟨may_base, mB, hz, may_order, mO, wz, mO, w1, mO, w2, mO, w3, mO, mO, mO, rootE_1 q4, rootE_1 q4, endT_ok⟩ (by kernel_rfl)
  · have hz : zRed baseF a = false := neW_nv (by rw [nv_rem may_base, zero_nv]; exact h0)
    obtain ⟨u1, u2, u3⟩ := unit_of may_base pr_base h0
    have hg : nv (ngF baseF a) = subM (nv baseF) 0 (nv a) := nv_low may_base (subM_lt may_base.pos)
    have hn := rootOk_neg pr_base p4 h0
    cases hb : rootOk (nv baseF) (nv a)
    · rw [hb] at hn
      have hA : ieq (rootE (nv baseF) (nv a)) 0 = false := by rw [rootE_3 p4, hb]
      have hB : ieq (rootE (nv baseF) (nv (ngF baseF a))) 0 = true := by rw [rootE_3 p4, hg, hn]; rfl
      have hS : (!(eqN W 6 (wd (nv (wd (rootV (nv baseF) (nv (ngF baseF a)))) * nv (wd (rootV (nv baseF) (nv (ngF baseF a)))) % nv baseF)) (ngF baseF a) && true)) = false := nW_of (by
        rw [nv_low may_base (rootV_lt may_base.pos), nv_rem may_base, hg, rootV_sq p4 hn, Nat.mod_eq_of_lt (subM_lt may_base.pos)])
      by_cases w0 : nv a % nv orderF = 0
      · have wz : zRed orderF a = true := eqW_nv (by rw [nv_rem may_order, w0, zero_nv])
        refine evS_q mixed tt_ok gFi_ok 400 [⟨9,4,.lit (.bo false)⟩,⟨12,1,.lit (.bo false)⟩,⟨12,8,.lit (.bo false)⟩,⟨12,16,.lit (.bo false)⟩,⟨16,4,.lit (.bo false)⟩,⟨16,6,.lit (.bo true)⟩,⟨16,10,.lit (.bo false)⟩,⟨16,24,.lit (.bo true)⟩,⟨16,33,.lit (.bo false)⟩,⟨9,4,.lit (.bo true)⟩] ?_
        exact same (p := MayM (nv baseF) ∧ MIf baseF ∧ uni baseF a (ieq (rootE (nv baseF) (nv a)) 0 = false ∧ ieq (rootE (nv baseF) (nv (ngF baseF a))) 0 = true ∧ ieq (rootE (nv baseF) (nv a)) 0 = false ∧ ieq (rootE (nv baseF) (nv (ngF baseF a))) 0 = true ∧ MIf baseF ∧ MIf baseF ∧ (!(eqN W 6 (wd (nv (wd (rootV (nv baseF) (nv (ngF baseF a)))) * nv (wd (rootV (nv baseF) (nv (ngF baseF a)))) % nv baseF)) (ngF baseF a) && true)) = false ∧ MayM (nv orderF) ∧ MIf orderF ∧ zRed orderF a = true ∧ endT)) ⟨may_base, mB, hz, mB, u1, mB, u2, mB, u3, mB, mB, mB, hA, hB, hA, hB, mB, mB, hS, may_order, mO, wz, endT_ok⟩ (by kernel_rfl)
      · have wz : zRed orderF a = false := neW_nv (by rw [nv_rem may_order, zero_nv]; exact w0)
        obtain ⟨w1, w2, w3⟩ := unit_of may_order pr_order w0
        refine evS_q mixed tt_ok gFi_ok 400 [⟨9,4,.lit (.bo false)⟩,⟨12,1,.lit (.bo false)⟩,⟨12,8,.lit (.bo false)⟩,⟨12,16,.lit (.bo false)⟩,⟨16,4,.lit (.bo false)⟩,⟨16,6,.lit (.bo true)⟩,⟨16,10,.lit (.bo false)⟩,⟨16,24,.lit (.bo true)⟩,⟨16,33,.lit (.bo false)⟩,⟨9,4,.lit (.bo false)⟩,⟨12,1,.lit (.bo false)⟩,⟨12,8,.lit (.bo false)⟩,⟨12,16,.lit (.bo false)⟩,⟨16,42,.lit (.bo false)⟩,⟨16,45,.lit (.bo false)⟩] ?_
        exact same (p := MayM (nv baseF) ∧ MIf baseF ∧ uni baseF a (ieq (rootE (nv baseF) (nv a)) 0 = false ∧ ieq (rootE (nv baseF) (nv (ngF baseF a))) 0 = true ∧ ieq (rootE (nv baseF) (nv a)) 0 = false ∧ ieq (rootE (nv baseF) (nv (ngF baseF a))) 0 = true ∧ MIf baseF ∧ MIf baseF ∧ (!(eqN W 6 (wd (nv (wd (rootV (nv baseF) (nv (ngF baseF a)))) * nv (wd (rootV (nv baseF) (nv (ngF baseF a)))) % nv baseF)) (ngF baseF a) && true)) = false ∧ MayM (nv orderF) ∧ MIf orderF ∧ uni orderF a ((!ieq (rootE (nv orderF) (nv a)) 2) = false ∧ (!ieq (rootE (nv orderF) (nv (ngF orderF a))) 2) = false ∧ endT))) ⟨may_base, mB, hz, mB, u1, mB, u2, mB, u3, mB, mB, mB, hA, hB, hA, hB, mB, mB, hS, may_order, mO, wz, mO, w1, mO, w2, mO, w3, mO, mO, mO, rootE_1 q4, rootE_1 q4, endT_ok⟩ (by kernel_rfl)
    · rw [hb] at hn
      have hA : ieq (rootE (nv baseF) (nv a)) 0 = true := by rw [rootE_3 p4, hb]
      have hB : ieq (rootE (nv baseF) (nv (ngF baseF a))) 0 = false := by rw [rootE_3 p4, hg, hn]; rfl
      have hS : (!(eqN W 6 (wd (nv (wd (rootV (nv baseF) (nv a))) * nv (wd (rootV (nv baseF) (nv a))) % nv baseF)) (wd (nv a % nv baseF)) && true)) = false := nW_of (by
        rw [nv_low may_base (rootV_lt may_base.pos), rootV_sq p4 hb])
      by_cases w0 : nv a % nv orderF = 0
      · have wz : zRed orderF a = true := eqW_nv (by rw [nv_rem may_order, w0, zero_nv])
        refine evS_q mixed tt_ok gFi_ok 400 [⟨9,4,.lit (.bo false)⟩,⟨12,1,.lit (.bo false)⟩,⟨12,8,.lit (.bo false)⟩,⟨12,16,.lit (.bo false)⟩,⟨16,4,.lit (.bo true)⟩,⟨16,6,.lit (.bo false)⟩,⟨16,10,.lit (.bo true)⟩,⟨16,19,.lit (.bo false)⟩,⟨16,24,.lit (.bo false)⟩,⟨9,4,.lit (.bo true)⟩] ?_
        exact same (p := MayM (nv baseF) ∧ MIf baseF ∧ uni baseF a (ieq (rootE (nv baseF) (nv a)) 0 = true ∧ ieq (rootE (nv baseF) (nv (ngF baseF a))) 0 = false ∧ ieq (rootE (nv baseF) (nv a)) 0 = true ∧ MIf baseF ∧ MIf baseF ∧ (!(eqN W 6 (wd (nv (wd (rootV (nv baseF) (nv a))) * nv (wd (rootV (nv baseF) (nv a))) % nv baseF)) (wd (nv a % nv baseF)) && true)) = false ∧ ieq (rootE (nv baseF) (nv (ngF baseF a))) 0 = false ∧ MayM (nv orderF) ∧ MIf orderF ∧ zRed orderF a = true ∧ endT)) ⟨may_base, mB, hz, mB, u1, mB, u2, mB, u3, mB, mB, mB, hA, hB, hA, mB, mB, hS, hB, may_order, mO, wz, endT_ok⟩ (by kernel_rfl)
      · have wz : zRed orderF a = false := neW_nv (by rw [nv_rem may_order, zero_nv]; exact w0)
        obtain ⟨w1, w2, w3⟩ := unit_of may_order pr_order w0
        refine evS_q mixed tt_ok gFi_ok 400 [⟨9,4,.lit (.bo false)⟩,⟨12,1,.lit (.bo false)⟩,⟨12,8,.lit (.bo false)⟩,⟨12,16,.lit (.bo false)⟩,⟨16,4,.lit (.bo true)⟩,⟨16,6,.lit (.bo false)⟩,⟨16,10,.lit (.bo true)⟩,⟨16,19,.lit (.bo false)⟩,⟨16,24,.lit (.bo false)⟩,⟨9,4,.lit (.bo false)⟩,⟨12,1,.lit (.bo false)⟩,⟨12,8,.lit (.bo false)⟩,⟨12,16,.lit (.bo false)⟩,⟨16,42,.lit (.bo false)⟩,⟨16,45,.lit (.bo false)⟩] ?_
        exact same (p := MayM (nv baseF) ∧ MIf baseF ∧ uni baseF a (ieq (rootE (nv baseF) (nv a)) 0 = true ∧ ieq (rootE (nv baseF) (nv (ngF baseF a))) 0 = false ∧ ieq (rootE (nv baseF) (nv a)) 0 = true ∧ MIf baseF ∧ MIf baseF ∧ (!(eqN W 6 (wd (nv (wd (rootV (nv baseF) (nv a))) * nv (wd (rootV (nv baseF) (nv a))) % nv baseF)) (wd (nv a % nv baseF)) && true)) = false ∧ ieq (rootE (nv baseF) (nv (ngF baseF a))) 0 = false ∧ MayM (nv orderF) ∧ MIf orderF ∧ uni orderF a ((!ieq (rootE (nv orderF) (nv a)) 2) = false ∧ (!ieq (rootE (nv orderF) (nv (ngF orderF a))) 2) = false ∧ endT))) ⟨may_base, mB, hz, mB, u1, mB, u2, mB, u3, mB, mB, mB, hA, hB, hA, mB, mB, hS, hB, may_order, mO, wz, mO, w1, mO, w2, mO, w3, mO, mO, mO, rootE_1 q4, rootE_1 q4, endT_ok⟩ (by kernel_rfl)

theorem modulusFields_lifted (os : Os) (started : os.Started) (H : Type) (enc : TypeId × Value → H) :
    ReturnsInHanded {} Try.checked os 8 .any (Rows.modulusFieldsSpec.pre6 enc Try.prog Try.f8 Rows.modulusFieldsRow.domain false) (Rows.modulusFieldsSpec.post enc Try.prog Try.f8 false true false false) := by
  refine returnsInHanded_of_change (C := Try.checked) Try.own started (by kernel_rfl) Try.func8
    (ChangeSpec.witness6 (enc := enc) (C := Try.checked) false ⟨#[], #[.agg #[.int .u64 0, .int .u64 0, .int .u64 0, .int .u64 0, .int .u64 0, .int .u64 0]], []⟩ 8 (by kernel_rfl) (by kernel_rfl) (by kernel_rfl) (by kernel_rfl)) ?_
  intro Wd base args ds gs before hval0 hW _ _
  have hval : ∀ (j : Nat) t v, Try.f8.params[j]? = some t → args[j]? = some v → Value.okWide Try.prog Wd .any base t v := hval0
  have hW' := hW
  obtain ⟨p, q, hA0, hV, rfl, _, _⟩ := hW
  have hA : DataW.TrodAll enc Try.prog Wd 0 (fun _ => true) true Try.f8.params.toList args.toList ds p := hA0
  rw [Try.params8] at hA hval
  obtain ⟨v0, d0, rfl, rfl, h0⟩ := trodAll_one hA
  obtain ⟨rfl, rfl⟩ := trodVars_none hV
  obtain ⟨x0, rfl, rfl, t0⟩ := num_open h0 (hval 0 24 v0 rfl rfl)
  clear hA0 hval0
  simp only [List.append_nil] at hW'
  refine (modulusFields_calls x0 Wd).mono fun e W' ⟨he, hw⟩ => ?_
  subst he
  have hg := hw.grown
  exact ⟨_, rfl, post_of_same (pa := []) (pv := []) hW' (fun _ _ _ => trodAll_mk1 (shut_bool Try.underlying4 true)) (fun sp _ => trodAll_mk1 (t0 _ _ _ _)) (fun _ _ => rfl) rfl (hg.frame _) hg.2.1 (ok_one (by kernel_rfl) rfl (okWide_bool_mk Try.underlying4 true))⟩

theorem modulusFields_holds : Rows.ModulusFieldsSaid :=
  OpenClaim.holds_of_wide 8 Try.f8 rfl rfl rfl rfl rfl rfl rfl ⟨rfl, rfl, rfl, rfl, rfl⟩ rfl rfl rfl rfl rfl (by kernel_rfl) Try.func8 (by kernel_rfl)
    (of_decide_eq_true (by kernel_rfl)) (by unfold Func.isWrapper; rw [if_neg (of_decide_eq_false (by kernel_rfl))]; exact ⟨rfl, rfl⟩)
    (fun os started H enc _ => modulusFields_lifted os started H enc)
end Go.Proofs.Ytcmaecfpggmcoaa
