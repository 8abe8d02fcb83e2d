/- Joined: T1 T2 T3 T4 T5 T6 T7 T8. -/
import Derived.Test.YtnjocbcjejpklaaZA
import Derived.Test.YtnjocbcjejpklaaZB
/- Elements of the great field: sums, differences. -/
namespace Go.Proofs.Ytnjocbcjejpklaa
open Go.Rq Go
set_option maxRecDepth 100000

abbrev nm (a : Nat → Nat) : AV := .v1 (.agg [.ws .u64 6 a])
abbrev endN (u v : AV) : Prop := ∃ v', some u = some v' ∧ ∀ ρ, v'.val ρ = v.val ρ
theorem nm_val {f g : Nat → Nat} (h : nv f = nv g) (ρ : Ren) : (nm f).val ρ = (nm g).val ρ := by
  have h1 := numA_val (f := f) (n := nv f) (by rw [Nat.mod_eq_of_lt (nv_lt f)]) ρ
  have h2 := numA_val (f := g) (n := nv g) (by rw [Nat.mod_eq_of_lt (nv_lt g)]) ρ
  rw [h1, h2, h]
theorem endN_nm {f g : Nat → Nat} (e : nv f = nv g) : endN (nm f) (nm g) := ⟨_, rfl, nm_val e⟩
abbrev nbE (f : Nat → Nat) : Option Blk := some ⟨45, [.ws .u64 6 f], 0, 0⟩

/-- An element as it is held, and what it stands for. -/
def eF (z : Fp) : Nat → Nat := wd (enc z)
def dF (a : Nat → Nat) : Fp := dec (nv a)
theorem nv_eF (z : Fp) : nv (eF z) = enc z := by
  unfold eF
  rw [nv_wd, Nat.mod_eq_of_lt (Nat.lt_trans (enc_lt z) pN_lt)]
theorem dF_eF (z : Fp) : dF (eF z) = z := by unfold dF; rw [nv_eF, dec_enc]
theorem lt_eF (z : Fp) : nv (eF z) < pN := by rw [nv_eF]; exact enc_lt z
theorem eF_dF {a : Nat → Nat} (h : nv a < pN) : nv (eF (dF a)) = nv a := by
  rw [nv_eF]; exact enc_dec h

/-! what is given -/
def cK (f : Nat → Nat) : List AV → Option (List Prop × AV)
  | [] => some ([], nm f)
  | _ => none
theorem cK_ok {f : Nat → Nat} {n : FuncId} {fn : Func} (hf : Try.prog.funcs[n]? = some fn) (hb : fn.body = some (bodyOf fn)) (hn : (fn.name == "runtime.NumGoroutine") = false)
    (h : ev Try.prog tt (ctxL []) 60 (bodyOf fn) (fun e s' _ => FEnd tt fn (nm f) e s') ⟨frame0 [] fn.ntmps, []⟩ []) : (CallC.pure (cK f)).Ok Try.prog n := by
  intro args pre v e _
  unfold cK at e
  split at e
  · cases e
    exact pure_fn mixed tt_ok G0_ok hf hb hn (by rfl) (by rfl) 60 [] h
  · cases e
def primeF : Nat → Nat := upd (upd (upd (upd (upd (upd (fun _ => 0) 0 0xb9feffffffffaaab) 1 0x1eabfffeb153ffff) 2 0x6730d2a0f6b0f624) 3 0x64774b84f38512bf) 4 0x4b1ba7b6434bacd7) 5 0x1a0111ea397fe69a
def oneF : Nat → Nat := upd (upd (upd (upd (upd (upd (fun _ => 0) 0 0x760900000002fffd) 1 0xebf4000bc40c0002) 2 0x5f48985753c758ba) 3 0x77ce585370525745) 4 0x5c071a97a256ec6d) 5 0x15f65ec3fa80e493
def wideF : Nat → Nat := upd (upd (upd (upd (upd (upd (fun _ => 0) 0 0xf4df1f341c341746) 1 0x0a76e6a609d104f1) 2 0x8de5476c4c95b6d5) 3 0x67eb88a9939d83c0) 4 0x9a793e85b519952d) 5 0x11988fe592cae3aa
theorem nv_prime : nv primeF = pN := by kernel_rfl
theorem nv_one' : nv oneF = R % pN := by kernel_rfl
theorem nv_wide : nv wideF = R * R % pN := by kernel_rfl
theorem okPrime : (CallC.pure (cK primeF)).Ok Try.prog 83 :=
  cK_ok Try.func83 (by kernel_rfl) (by kernel_rfl) (same (p := some (nm primeF) = some (nm primeF)) rfl (by kernel_rfl))
theorem okOne0 : (CallC.pure (cK oneF)).Ok Try.prog 61 :=
  cK_ok Try.func61 (by kernel_rfl) (by kernel_rfl) (same (p := some (nm oneF) = some (nm oneF)) rfl (by kernel_rfl))
theorem okWide0 : (CallC.pure (cK wideF)).Ok Try.prog 72 :=
  cK_ok Try.func72 (by kernel_rfl) (by kernel_rfl) (same (p := some (nm wideF) = some (nm wideF)) rfl (by kernel_rfl))
theorem one_enc : nv oneF = enc 1 := by
  rw [nv_one']
  refine enc_of (Nat.mod_lt _ pN_pos) ?_
  rw [ofN_mod]
  show rr = 1 * rr
  grind

/-! contracts of one element, of two -/
def el1 (F : Fp → Fp) : List AV → Option (List Prop × AV)
  | [.v1 (.agg [.ws .u64 6 a])] => some ([nv a < pN], nm (eF (F (dF a))))
  | _ => none
def el2 (F : Fp → Fp → Fp) : List AV → Option (List Prop × AV)
  | [.v1 (.agg [.ws .u64 6 a]), .v1 (.agg [.ws .u64 6 b])] => some ([nv a < pN, nv b < pN], nm (eF (F (dF a) (dF b))))
  | _ => none
theorem el1_ok {F : Fp → Fp} {f : FuncId} {fn : Func} (hf : Try.prog.funcs[f]? = some fn) (hb : fn.body = some (bodyOf fn)) (hn : (fn.name == "runtime.NumGoroutine") = false)
    (h : ∀ a : Nat → Nat, nv a < pN → AWqS Try.prog (fun _ => False) (flatC (bodyOf fn)) (FEnd' tt fn (nm (eF (F (dF a))))) ⟨frame0 [nm a] fn.ntmps, []⟩) : (CallC.pure (el1 F)).Ok Try.prog f := by
  intro args pre v e hp
  unfold el1 at e
  split at e
  · rename_i a
    cases e
    exact pure_walk' tt_ok hf hb hn (by rfl) (by rfl) (h a (hp _ (List.mem_cons_self ..)))
  · cases e
theorem el2_ok {F : Fp → Fp → Fp} {f : FuncId} {fn : Func} (hf : Try.prog.funcs[f]? = some fn) (hb : fn.body = some (bodyOf fn)) (hn : (fn.name == "runtime.NumGoroutine") = false)
    (h : ∀ a b : Nat → Nat, nv a < pN → nv b < pN → AWqS Try.prog (fun _ => False) (flatC (bodyOf fn)) (FEnd' tt fn (nm (eF (F (dF a) (dF b))))) ⟨frame0 [nm a, nm b] fn.ntmps, []⟩) : (CallC.pure (el2 F)).Ok Try.prog f := by
  intro args pre v e hp
  unfold el2 at e
  split at e
  · rename_i a b
    cases e
    exact pure_walk' tt_ok hf hb hn (by rfl) (by rfl) (h a b (hp _ (by simp)) (hp _ (by simp)))
  · cases e
def eAdd (x y : Fp) : Fp := x + y
def eSub (x y : Fp) : Fp := x - y
def eNeg (x : Fp) : Fp := 0 - x
def eMul (x y : Fp) : Fp := x * y

/-! less -/
def cLess : List AV → Option (List Prop × AV)
  | [.v1 (.agg [.ws .u64 6 a])] => some ([], numA (lessV pN (nv a)))
  | _ => none
def GLe : Ctx := ctxL [(83, .pure (cK primeF)), (82, .pure cSub64), (80, .pure cAdd64)]
theorem GLe_ok : CtxOk Try.prog GLe := ctxL_cons okPrime <| ctxL_cons okSub64 <| ctxL_cons okAdd64 ctxL_nil
theorem okLess : (CallC.pure cLess).Ok Try.prog 81 := by
  intro args pre v e _
  unfold cLess at e
  split at e
  · rename_i a
    cases e
    refine pure_walk' tt_ok Try.func81 (by kernel_rfl) (by kernel_rfl) (by rfl) (by rfl) ?_
    have ha := nv_lt a
    have hd := sub_diff a primeF
    rw [nv_prime] at hd
    cases hb : Nat.blt (nv a) pN
    · have hb' : ¬ nv a < pN := by rw [← Nat.blt_eq, hb]; simp
      rw [hb] at hd
      have hl : lessV pN (nv a) = (nv a + R - pN) % R := by
        unfold lessV
        have : Nat.ble pN (nv a) = true := by rw [Nat.ble_eq]; omega
        rw [this, cond_true]
        exact less_gen (by omega) ha
      refine evS_q mixed tt_ok GLe_ok 100 [⟨9,1,.lit (.bo false)⟩] ?_
      refine same (p := subC a primeF 0 % W ≤ 1 ∧ subC a primeF 1 % W ≤ 1 ∧ subC a primeF 2 % W ≤ 1 ∧ subC a primeF 3 % W ≤ 1 ∧ subC a primeF 4 % W ≤ 1 ∧ subC a primeF 5 % W ≤ 1 ∧
        Nat.beq (subC a primeF 6 % W) (1 % W) = false ∧ endN (nm (subO a primeF 6)) (numA (lessV pN (nv a)))) ?_ (by kernel_rfl)
      exact ⟨subC_le' _ _ 0, subC_le' _ _ 1, subC_le' _ _ 2, subC_le' _ _ 3, subC_le' _ _ 4, subC_le' _ _ 5, hd.2, _, rfl, fun ρ => numA_val (by rw [hl, hd.1, Nat.mod_mod]) ρ⟩
    · have hb' : nv a < pN := by rw [← Nat.blt_eq, hb]
      rw [hb] at hd
      have hl : lessV pN (nv a) = nv a := by
        unfold lessV
        have : Nat.ble pN (nv a) = false := by rw [← Bool.not_eq_true, Nat.ble_eq]; omega
        rw [this, cond_false]
      refine evS_q mixed tt_ok GLe_ok 100 [⟨9,1,.lit (.bo true)⟩] ?_
      refine same (p := subC a primeF 0 % W ≤ 1 ∧ subC a primeF 1 % W ≤ 1 ∧ subC a primeF 2 % W ≤ 1 ∧ subC a primeF 3 % W ≤ 1 ∧ subC a primeF 4 % W ≤ 1 ∧ subC a primeF 5 % W ≤ 1 ∧
        Nat.beq (subC a primeF 6 % W) (1 % W) = true ∧ endN (nm a) (numA (lessV pN (nv a)))) ?_ (by kernel_rfl)
      exact ⟨subC_le' _ _ 0, subC_le' _ _ 1, subC_le' _ _ 2, subC_le' _ _ 3, subC_le' _ _ 4, subC_le' _ _ 5, hd.2, _, rfl, fun ρ => numA_val (by rw [hl, Nat.mod_eq_of_lt ha]) ρ⟩
  · cases e

/-! Add -/
def GAe : Ctx := ctxL [(81, .pure cLess), (80, .pure cAdd64)]
theorem GAe_ok : CtxOk Try.prog GAe := ctxL_cons okLess <| ctxL_cons okAdd64 ctxL_nil
theorem okEAdd : (CallC.pure (el2 eAdd)).Ok Try.prog 57 := by
  refine el2_ok Try.func57 (by kernel_rfl) (by kernel_rfl) fun a b ha hb => evS_q mixed tt_ok GAe_ok 100 [] ?_
  refine same (p := addC a b 0 % W ≤ 1 ∧ addC a b 1 % W ≤ 1 ∧ addC a b 2 % W ≤ 1 ∧ addC a b 3 % W ≤ 1 ∧ addC a b 4 % W ≤ 1 ∧ addC a b 5 % W ≤ 1 ∧ endN (numA (lessV pN (nv (addO a b 6)))) (nm (eF (eAdd (dF a) (dF b))))) ?_ (by kernel_rfl)
  refine ⟨addC_le' a b 0, addC_le' a b 1, addC_le' a b 2, addC_le' a b 3, addC_le' a b 4, addC_le' a b 5, endN_nm ?_⟩
  have hs := pN_small
  have e : lessV pN (nv (addO a b 6)) = enc (eAdd (dF a) (dF b)) := by
    rw [(add_sum a b).1, Nat.mod_eq_of_lt (show nv a + nv b < R by omega), lessV_mod (by omega), add_enc]
    rfl
  rw [e, nv_eF, nv_wd, Nat.mod_eq_of_lt (Nat.lt_trans (enc_lt _) pN_lt)]

/-! Sub, Neg -/
def iadd (o b : Nat → Nat) : Nat → (Nat → Nat)
  | 0 => o
  | i + 1 => upd (iadd o b i) i (o i + b i + addC o b i)
theorem iadd_eq (o b : Nat → Nat) : ∀ n j, j < n → iadd o b n j = addO o b n j
  | n + 1, j, h => by
    show (bif Nat.beq j n then _ else iadd o b n j) = (bif Nat.beq j n then _ else addO o b n j)
    cases hb : Nat.beq j n
    · have : j ≠ n := fun e => by rw [← Nat.beq_eq, hb] at e; cases e
      rw [cond_false, cond_false, iadd_eq o b n j (by omega)]
    · rfl
theorem okESub : (CallC.pure (el2 eSub)).Ok Try.prog 58 := by
  refine el2_ok Try.func58 (by kernel_rfl) (by kernel_rfl) fun a b ha hb => ?_
  have hs := pN_small
  have hd := sub_diff a b
  have hsub := sub_eq (a := nv a) (b := nv b) pN_pos (show 2 * pN ≤ R by omega)
  rw [Nat.mod_eq_of_lt ha, Nat.mod_eq_of_lt hb] at hsub
  have key : ∀ f : Nat → Nat, nv f = subM pN (nv a) (nv b) → endN (nm f) (nm (eF (eSub (dF a) (dF b)))) := fun f e => endN_nm (by rw [e, nv_eF, sub_enc]; rfl)
  cases hc : Nat.blt (nv a) (nv b)
  · rw [hc] at hd hsub
    refine evS_q mixed tt_ok GLe_ok 100 [⟨8,1,.lit (.bo false)⟩] ?_
    refine same (p := subC a b 0 % W ≤ 1 ∧ subC a b 1 % W ≤ 1 ∧ subC a b 2 % W ≤ 1 ∧ subC a b 3 % W ≤ 1 ∧ subC a b 4 % W ≤ 1 ∧ subC a b 5 % W ≤ 1 ∧
      Nat.beq (subC a b 6 % W) (1 % W) = false ∧ endN (nm (subO a b 6)) (nm (eF (eSub (dF a) (dF b))))) ?_ (by kernel_rfl)
    refine ⟨subC_le' _ _ 0, subC_le' _ _ 1, subC_le' _ _ 2, subC_le' _ _ 3, subC_le' _ _ 4, subC_le' _ _ 5, hd.2, key _ ?_⟩
    rw [hd.1, ← hsub, cond_false]
  · rw [hc] at hd hsub
    obtain ⟨K, hK⟩ : ∃ K : Nat → Nat, K = addC (subO a b 6) primeF := ⟨_, rfl⟩
    obtain ⟨S, hS⟩ : ∃ S : Nat → Nat, S = fun i => subO a b 6 i + primeF i + K i := ⟨_, rfl⟩
    have kl : ∀ i, addC (subO a b 6) primeF i % W ≤ 1 := addC_le' _ _
    have fin : nv (upd (upd (upd (upd (upd (upd (subO a b 6) 0 (S 0)) 1 (S 1)) 2 (S 2)) 3 (S 3)) 4 (S 4)) 5 (S 5)) = subM pN (nv a) (nv b) := by
      rw [nv_congr (g := addO (subO a b 6) primeF 6) fun j hj => by
        rw [← iadd_eq _ _ 6 j hj, hS, hK]; rfl]
      rw [(add_sum _ _).1, nv_prime, hd.1, ← hsub, cond_true]
    refine evS_q mixed tt_ok GLe_ok 100 [⟨8,1,.lit (.bo true)⟩,⟨13,10,.lit (.w .u64 (S 0))⟩,⟨13,11,.lit (.w .u64 (K 1))⟩,⟨13,10,.lit (.w .u64 (S 1))⟩,⟨13,11,.lit (.w .u64 (K 2))⟩,⟨13,10,.lit (.w .u64 (S 2))⟩,⟨13,11,.lit (.w .u64 (K 3))⟩,⟨13,10,.lit (.w .u64 (S 3))⟩,⟨13,11,.lit (.w .u64 (K 4))⟩,⟨13,10,.lit (.w .u64 (S 4))⟩,⟨13,11,.lit (.w .u64 (K 5))⟩,⟨13,10,.lit (.w .u64 (S 5))⟩,⟨13,11,.lit (.w .u64 (K 6))⟩] ?_
    refine same (p := subC a b 0 % W ≤ 1 ∧ subC a b 1 % W ≤ 1 ∧ subC a b 2 % W ≤ 1 ∧ subC a b 3 % W ≤ 1 ∧ subC a b 4 % W ≤ 1 ∧ subC a b 5 % W ≤ 1 ∧
      Nat.beq (subC a b 6 % W) (1 % W) = true ∧ 0 % W ≤ 1 ∧ subO a b 6 0 + primeF 0 + 0 = S 0 ∧ (subO a b 6 0 % W + primeF 0 % W + 0 % W) / W = K 1 ∧ (K 1) % W ≤ 1 ∧ subO a b 6 1 + primeF 1 + (K 1) = S 1 ∧ (subO a b 6 1 % W + primeF 1 % W + (K 1) % W) / W = K 2 ∧ (K 2) % W ≤ 1 ∧ subO a b 6 2 + primeF 2 + (K 2) = S 2 ∧ (subO a b 6 2 % W + primeF 2 % W + (K 2) % W) / W = K 3 ∧ (K 3) % W ≤ 1 ∧ subO a b 6 3 + primeF 3 + (K 3) = S 3 ∧ (subO a b 6 3 % W + primeF 3 % W + (K 3) % W) / W = K 4 ∧ (K 4) % W ≤ 1 ∧ subO a b 6 4 + primeF 4 + (K 4) = S 4 ∧ (subO a b 6 4 % W + primeF 4 % W + (K 4) % W) / W = K 5 ∧ (K 5) % W ≤ 1 ∧ subO a b 6 5 + primeF 5 + (K 5) = S 5 ∧ (subO a b 6 5 % W + primeF 5 % W + (K 5) % W) / W = K 6 ∧ endN (nm (upd (upd (upd (upd (upd (upd (subO a b 6) 0 (S 0)) 1 (S 1)) 2 (S 2)) 3 (S 3)) 4 (S 4)) 5 (S 5))) (nm (eF (eSub (dF a) (dF b))))) ?_ (by kernel_rfl)
    have endf := key _ fin
    subst hS hK
    exact ⟨subC_le' _ _ 0, subC_le' _ _ 1, subC_le' _ _ 2, subC_le' _ _ 3, subC_le' _ _ 4, subC_le' _ _ 5, hd.2, kl 0, rfl, rfl, kl 1, rfl, rfl, kl 2, rfl, rfl, kl 3, rfl, rfl, kl 4, rfl, rfl, kl 5, rfl, rfl, endf⟩
def GNe : Ctx := ctxL [(58, .pure (el2 eSub))]
theorem GNe_ok : CtxOk Try.prog GNe := ctxL_cons okESub ctxL_nil
theorem okENeg : (CallC.pure (el1 eNeg)).Ok Try.prog 77 := by
  refine el1_ok Try.func77 (by kernel_rfl) (by kernel_rfl) fun a ha => evS_q mixed tt_ok GNe_ok 100 [] ?_
  refine same (p := nv (fun _ => 0) < pN ∧ nv a < pN ∧ endN (nm (eF (eSub (dF (fun _ => 0)) (dF a)))) (nm (eF (eNeg (dF a))))) ?_ (by kernel_rfl)
  refine ⟨by rw [zero_nv]; exact pN_pos, ha, endN_nm ?_⟩
  unfold eSub eNeg
  rw [show dF (fun _ => 0) = 0 from by unfold dF; rw [zero_nv, dec_zero]]
end Go.Proofs.Ytnjocbcjejpklaa

/- Products of elements of the great field. Printed by genmontel.py. -/
namespace Go.Proofs.Ytnjocbcjejpklaa
open Go.Rq Go
set_option maxRecDepth 100000

def lowN : Nat := 9940570264628428797
def cEMul : List AV → Option (List Prop × AV)
  | [.v1 (.agg [.ws .u64 6 a]), .v1 (.agg [.ws .u64 6 b])] => some ([nv a < pN], nm (eF (eMul (dF a) (dF b))))
  | _ => none
def GMu : Ctx := ctxL [(84, .pure cMul64), (80, .pure cAdd64), (81, .pure cLess), (83, .pure (cK primeF))]
theorem GMu_ok : CtxOk Try.prog GMu := ctxL_cons okMul64 <| ctxL_cons okAdd64 <| ctxL_cons okLess <| ctxL_cons okPrime ctxL_nil
def VMu (b : Nat → Nat) (i : Nat) : List AV := [pt 0 0, pt 2 0, pt 4 0, pt 5 0, nm b, iv (Int.ofNat i)]
def HMu (a b t : Nat → Nat) : Heap := [nbE a, nbE b, nbE (fun _ => 0), none, nbE primeF, some ⟨118, [.ws .u64 7 t], 0, 0⟩]
def InvMu (a b : Nat → Nat) (x : Nat × (Nat → Nat)) : Prop := x.1 ≤ 6 ∧ ∃ Q, sB W x.2 7 * W ^ x.1 = sB W b x.1 * nv a + Q * nv primeF ∧ Q < W ^ x.1

theorem mu_upd {t L Mm : Nat → Nat} {S6 cc : Nat} (h : Mm 6 = cc) : ∀ {j : Nat}, j < 7 → (upd (upd (upd (upd (upd (upd (upd (upd (upd (upd (upd (upd (upd (upd t 0 (L 0)) 1 (L 1)) 2 (L 2)) 3 (L 3)) 4 (L 4)) 5 (L 5)) 6 S6) 0 (Mm 0)) 1 (Mm 1)) 2 (Mm 2)) 3 (Mm 3)) 4 (Mm 4)) 5 (Mm 5)) 6 cc) j = Mm j
  | 0, _ => rfl
  | 1, _ => rfl
  | 2, _ => rfl
  | 3, _ => rfl
  | 4, _ => rfl
  | 5, _ => rfl
  | 6, _ => h.symm
  | j + 7, h => by omega

theorem okEMul : (CallC.pure cEMul).Ok Try.prog 59 := by
  intro args pre v e hp
  unfold cEMul at e
  split at e
  · rename_i a b
    cases e
    have ha : nv a < pN := hp _ (List.mem_cons_self ..)
    have ha' : nv a < nv primeF := by rw [nv_prime]; exact ha
    have hs := pN_small
    have low : (primeF 0 % W * (lowN % W) + 1) % W = 0 := by decide
    refine pure_walk' tt_ok Try.func59 (by kernel_rfl) (by kernel_rfl) (by rfl) (by rfl) ?_
    refine loopF mixed tt_ok GMu_ok (by kernel_rfl) (ι := {x // InvMu a b x}) [2,4,5,6,21,22] 138 6 (fun x => VMu b x.1.1) (fun x => HMu a b x.1.2) (fun x => 6 - x.1.1) (fun x => x.1.1 = 6)
      (fun _ => rfl) (fun _ => by kernel_rfl) (fun _ _ h => h.elim) 100 [] ?_ ?_ ?_
    · refine same (p := true = true ∧ ∃ j : {x // InvMu a b x}, VMu b 0 = VMu b j.1.1 ∧ HMu a b (fun _ => 0) = HMu a b j.1.2) ?_ (by kernel_rfl)
      exact ⟨rfl, ⟨(0, fun _ => 0), by simp, 0, by simp [sB], by simp⟩, rfl, rfl⟩
    · intro ⟨⟨i, t⟩, hi, Q, hT, hQ⟩ junk
      simp only at hi hT hQ
      rcases (show i = 0 ∨ i = 1 ∨ i = 2 ∨ i = 3 ∨ i = 4 ∨ i = 5 ∨ i = 6 by omega) with rfl | rfl | rfl | rfl | rfl | rfl | rfl
      · obtain ⟨C, hC⟩ : ∃ C : Nat → Nat, C = crow (b 0) a t := ⟨_, rfl⟩
        obtain ⟨L, hL⟩ : ∃ L : Nat → Nat, L = fun k => mLo (b 0) (a k) (t k) (C k) := ⟨_, rfl⟩
        obtain ⟨S6, hS6⟩ : ∃ x, x = t 6 + C 6 := ⟨_, rfl⟩
        obtain ⟨S7, hS7⟩ : ∃ x, x = (t 6 % W + C 6 % W + 0 % W) / W := ⟨_, rfl⟩
        obtain ⟨q, hq⟩ : ∃ x, x = L 0 * lowN := ⟨_, rfl⟩
        obtain ⟨D, hD⟩ : ∃ D : Nat → Nat, D = drow q primeF L := ⟨_, rfl⟩
        obtain ⟨Mm, hMm⟩ : ∃ M : Nat → Nat, M = mrow q primeF L D S6 S7 := ⟨_, rfl⟩
        obtain ⟨cc, hcc⟩ : ∃ x, x = (S6 % W + D 6 % W + 0 % W) / W := ⟨_, rfl⟩
        have h7 : S7 = 0 := row_top hC hL hS7 (by
          have hb := round_bound (w := W) (B := nv a) (N := nv primeF) (x := b 0 % W) (i := 0) hT hQ (sB_lt b 0) (Nat.mod_lt _ (by decide)) ha'
          rw [nv_prime] at hb
          exact Nat.lt_of_lt_of_le hb (by decide))
        have hm6 : Mm 6 = cc := by rw [hMm, hcc, h7]; show 0 + _ = _; rw [Nat.zero_add]
        refine roundF mixed tt_ok GMu_ok 100 [⟨13,4,.lit (.w .u64 (L 0))⟩, ⟨14,2,.lit (.w .u64 (C 1))⟩, ⟨13,4,.lit (.w .u64 (L 1))⟩, ⟨14,2,.lit (.w .u64 (C 2))⟩, ⟨13,4,.lit (.w .u64 (L 2))⟩, ⟨14,2,.lit (.w .u64 (C 3))⟩, ⟨13,4,.lit (.w .u64 (L 3))⟩, ⟨14,2,.lit (.w .u64 (C 4))⟩, ⟨13,4,.lit (.w .u64 (L 4))⟩, ⟨14,2,.lit (.w .u64 (C 5))⟩, ⟨13,4,.lit (.w .u64 (L 5))⟩, ⟨14,2,.lit (.w .u64 (C 6))⟩, ⟨17,3,.lit (.w .u64 S6)⟩, ⟨18,2,.lit (.w .u64 q)⟩, ⟨21,2,.lit (.w .u64 (D 1))⟩, ⟨28,4,.lit (.w .u64 (Mm 0))⟩, ⟨29,2,.lit (.w .u64 (D 2))⟩, ⟨28,4,.lit (.w .u64 (Mm 1))⟩, ⟨29,2,.lit (.w .u64 (D 3))⟩, ⟨28,4,.lit (.w .u64 (Mm 2))⟩, ⟨29,2,.lit (.w .u64 (D 4))⟩, ⟨28,4,.lit (.w .u64 (Mm 3))⟩, ⟨29,2,.lit (.w .u64 (D 5))⟩, ⟨28,4,.lit (.w .u64 (Mm 4))⟩, ⟨29,2,.lit (.w .u64 (D 6))⟩, ⟨31,5,.lit (.w .u64 (Mm 5))⟩, ⟨31,6,.lit (.w .u64 cc)⟩] ?_
        have next : ∃ j : {x // InvMu a b x}, 6 - j.1.1 < 6 - 0 ∧ VMu b (0 + 1) = VMu b j.1.1 ∧ HMu a b (upd (upd (upd (upd (upd (upd (upd (upd (upd (upd (upd (upd (upd (upd t 0 (L 0)) 1 (L 1)) 2 (L 2)) 3 (L 3)) 4 (L 4)) 5 (L 5)) 6 S6) 0 (Mm 0)) 1 (Mm 1)) 2 (Mm 2)) 3 (Mm 3)) 4 (Mm 4)) 5 (Mm 5)) 6 cc) = HMu a b j.1.2 := by
          refine ⟨⟨(0 + 1, (upd (upd (upd (upd (upd (upd (upd (upd (upd (upd (upd (upd (upd (upd t 0 (L 0)) 1 (L 1)) 2 (L 2)) 3 (L 3)) 4 (L 4)) 5 (L 5)) 6 S6) 0 (Mm 0)) 1 (Mm 1)) 2 (Mm 2)) 3 (Mm 3)) 4 (Mm 4)) 5 (Mm 5)) 6 cc)), by simp only; omega, ?_⟩, by simp only; omega, rfl, rfl⟩
          simp only
          obtain ⟨T2, e1, e2⟩ := mont_row low hC hL hS6 hS7 hq hD hMm hcc
          have e3 : sB W (upd (upd (upd (upd (upd (upd (upd (upd (upd (upd (upd (upd (upd (upd t 0 (L 0)) 1 (L 1)) 2 (L 2)) 3 (L 3)) 4 (L 4)) 5 (L 5)) 6 S6) 0 (Mm 0)) 1 (Mm 1)) 2 (Mm 2)) 3 (Mm 3)) 4 (Mm 4)) 5 (Mm 5)) 6 cc) 7 = T2 := by rw [e1]; exact sB7 (fun j hj => mu_upd hm6 hj)
          rw [e3]
          have := mont_round (N := nv primeF) (B := nv a) (x := b 0 % W) (i := 0) rfl e2 hT hQ (Nat.mod_lt _ (by decide))
          exact ⟨_, by rw [show sB W b (0 + 1) = sB W b 0 + W ^ 0 * (b 0 % W) from rfl]; exact this.1, this.2⟩
        have z1 : 0 % W ≤ 1 := by decide
        refine same (p := 0 % W ≤ 1 ∧ 0 % W ≤ 1 ∧ mLo (b 0) (a 0) (t 0) 0 = L 0 ∧ mHi (b 0) (a 0) (t 0) 0 = C 1 ∧ 0 % W ≤ 1 ∧ 0 % W ≤ 1 ∧ mLo (b 0) (a 1) (t 1) (C 1) = L 1 ∧ mHi (b 0) (a 1) (t 1) (C 1) = C 2 ∧ 0 % W ≤ 1 ∧ 0 % W ≤ 1 ∧ mLo (b 0) (a 2) (t 2) (C 2) = L 2 ∧ mHi (b 0) (a 2) (t 2) (C 2) = C 3 ∧ 0 % W ≤ 1 ∧ 0 % W ≤ 1 ∧ mLo (b 0) (a 3) (t 3) (C 3) = L 3 ∧ mHi (b 0) (a 3) (t 3) (C 3) = C 4 ∧ 0 % W ≤ 1 ∧ 0 % W ≤ 1 ∧ mLo (b 0) (a 4) (t 4) (C 4) = L 4 ∧ mHi (b 0) (a 4) (t 4) (C 4) = C 5 ∧ 0 % W ≤ 1 ∧ 0 % W ≤ 1 ∧ mLo (b 0) (a 5) (t 5) (C 5) = L 5 ∧ mHi (b 0) (a 5) (t 5) (C 5) = C 6 ∧ t 6 + C 6 = S6 ∧ L 0 * lowN = q ∧ 0 % W ≤ 1 ∧ q % W * (primeF 0 % W) / W + (q * primeF 0 % W + L 0 % W + 0 % W) / W = D 1 ∧ 0 % W ≤ 1 ∧ 0 % W ≤ 1 ∧ mLo q (primeF 1) (L 1) (D 1) = Mm 0 ∧ mHi q (primeF 1) (L 1) (D 1) = D 2 ∧ 0 % W ≤ 1 ∧ 0 % W ≤ 1 ∧ mLo q (primeF 2) (L 2) (D 2) = Mm 1 ∧ mHi q (primeF 2) (L 2) (D 2) = D 3 ∧ 0 % W ≤ 1 ∧ 0 % W ≤ 1 ∧ mLo q (primeF 3) (L 3) (D 3) = Mm 2 ∧ mHi q (primeF 3) (L 3) (D 3) = D 4 ∧ 0 % W ≤ 1 ∧ 0 % W ≤ 1 ∧ mLo q (primeF 4) (L 4) (D 4) = Mm 3 ∧ mHi q (primeF 4) (L 4) (D 4) = D 5 ∧ 0 % W ≤ 1 ∧ 0 % W ≤ 1 ∧ mLo q (primeF 5) (L 5) (D 5) = Mm 4 ∧ mHi q (primeF 5) (L 5) (D 5) = D 6 ∧ 0 % W ≤ 1 ∧ S6 + D 6 + 0 = Mm 5 ∧ (S6 % W + D 6 % W + 0 % W) / W = cc ∧ true = true ∧ ∃ j : {x // InvMu a b x}, 6 - j.1.1 < 6 - 0 ∧ VMu b (0 + 1) = VMu b j.1.1 ∧ HMu a b (upd (upd (upd (upd (upd (upd (upd (upd (upd (upd (upd (upd (upd (upd t 0 (L 0)) 1 (L 1)) 2 (L 2)) 3 (L 3)) 4 (L 4)) 5 (L 5)) 6 S6) 0 (Mm 0)) 1 (Mm 1)) 2 (Mm 2)) 3 (Mm 3)) 4 (Mm 4)) 5 (Mm 5)) 6 cc) = HMu a b j.1.2) ?_ (by kernel_rfl)
        clear h7 hm6
        subst hC hL hS6 hS7 hq hD hMm hcc
        exact ⟨z1, ⟨z1, ⟨rfl, ⟨rfl, ⟨z1, ⟨z1, ⟨rfl, ⟨rfl, ⟨z1, ⟨z1, ⟨rfl, ⟨rfl, ⟨z1, ⟨z1, ⟨rfl, ⟨rfl, ⟨z1, ⟨z1, ⟨rfl, ⟨rfl, ⟨z1, ⟨z1, ⟨rfl, ⟨rfl, ⟨rfl, ⟨rfl, ⟨z1, ⟨rfl, ⟨z1, ⟨z1, ⟨rfl, ⟨rfl, ⟨z1, ⟨z1, ⟨rfl, ⟨rfl, ⟨z1, ⟨z1, ⟨rfl, ⟨rfl, ⟨z1, ⟨z1, ⟨rfl, ⟨rfl, ⟨z1, ⟨z1, ⟨rfl, ⟨rfl, ⟨z1, ⟨rfl, ⟨rfl, ⟨rfl, next⟩⟩⟩⟩⟩⟩⟩⟩⟩⟩⟩⟩⟩⟩⟩⟩⟩⟩⟩⟩⟩⟩⟩⟩⟩⟩⟩⟩⟩⟩⟩⟩⟩⟩⟩⟩⟩⟩⟩⟩⟩⟩⟩⟩⟩⟩⟩⟩⟩⟩⟩⟩
      · obtain ⟨C, hC⟩ : ∃ C : Nat → Nat, C = crow (b 1) a t := ⟨_, rfl⟩
        obtain ⟨L, hL⟩ : ∃ L : Nat → Nat, L = fun k => mLo (b 1) (a k) (t k) (C k) := ⟨_, rfl⟩
        obtain ⟨S6, hS6⟩ : ∃ x, x = t 6 + C 6 := ⟨_, rfl⟩
        obtain ⟨S7, hS7⟩ : ∃ x, x = (t 6 % W + C 6 % W + 0 % W) / W := ⟨_, rfl⟩
        obtain ⟨q, hq⟩ : ∃ x, x = L 0 * lowN := ⟨_, rfl⟩
        obtain ⟨D, hD⟩ : ∃ D : Nat → Nat, D = drow q primeF L := ⟨_, rfl⟩
        obtain ⟨Mm, hMm⟩ : ∃ M : Nat → Nat, M = mrow q primeF L D S6 S7 := ⟨_, rfl⟩
        obtain ⟨cc, hcc⟩ : ∃ x, x = (S6 % W + D 6 % W + 0 % W) / W := ⟨_, rfl⟩
        have h7 : S7 = 0 := row_top hC hL hS7 (by
          have hb := round_bound (w := W) (B := nv a) (N := nv primeF) (x := b 1 % W) (i := 1) hT hQ (sB_lt b 1) (Nat.mod_lt _ (by decide)) ha'
          rw [nv_prime] at hb
          exact Nat.lt_of_lt_of_le hb (by decide))
        have hm6 : Mm 6 = cc := by rw [hMm, hcc, h7]; show 0 + _ = _; rw [Nat.zero_add]
        refine roundF mixed tt_ok GMu_ok 100 [⟨13,4,.lit (.w .u64 (L 0))⟩, ⟨14,2,.lit (.w .u64 (C 1))⟩, ⟨13,4,.lit (.w .u64 (L 1))⟩, ⟨14,2,.lit (.w .u64 (C 2))⟩, ⟨13,4,.lit (.w .u64 (L 2))⟩, ⟨14,2,.lit (.w .u64 (C 3))⟩, ⟨13,4,.lit (.w .u64 (L 3))⟩, ⟨14,2,.lit (.w .u64 (C 4))⟩, ⟨13,4,.lit (.w .u64 (L 4))⟩, ⟨14,2,.lit (.w .u64 (C 5))⟩, ⟨13,4,.lit (.w .u64 (L 5))⟩, ⟨14,2,.lit (.w .u64 (C 6))⟩, ⟨17,3,.lit (.w .u64 S6)⟩, ⟨18,2,.lit (.w .u64 q)⟩, ⟨21,2,.lit (.w .u64 (D 1))⟩, ⟨28,4,.lit (.w .u64 (Mm 0))⟩, ⟨29,2,.lit (.w .u64 (D 2))⟩, ⟨28,4,.lit (.w .u64 (Mm 1))⟩, ⟨29,2,.lit (.w .u64 (D 3))⟩, ⟨28,4,.lit (.w .u64 (Mm 2))⟩, ⟨29,2,.lit (.w .u64 (D 4))⟩, ⟨28,4,.lit (.w .u64 (Mm 3))⟩, ⟨29,2,.lit (.w .u64 (D 5))⟩, ⟨28,4,.lit (.w .u64 (Mm 4))⟩, ⟨29,2,.lit (.w .u64 (D 6))⟩, ⟨31,5,.lit (.w .u64 (Mm 5))⟩, ⟨31,6,.lit (.w .u64 cc)⟩] ?_
        have next : ∃ j : {x // InvMu a b x}, 6 - j.1.1 < 6 - 1 ∧ VMu b (1 + 1) = VMu b j.1.1 ∧ HMu a b (upd (upd (upd (upd (upd (upd (upd (upd (upd (upd (upd (upd (upd (upd t 0 (L 0)) 1 (L 1)) 2 (L 2)) 3 (L 3)) 4 (L 4)) 5 (L 5)) 6 S6) 0 (Mm 0)) 1 (Mm 1)) 2 (Mm 2)) 3 (Mm 3)) 4 (Mm 4)) 5 (Mm 5)) 6 cc) = HMu a b j.1.2 := by
          refine ⟨⟨(1 + 1, (upd (upd (upd (upd (upd (upd (upd (upd (upd (upd (upd (upd (upd (upd t 0 (L 0)) 1 (L 1)) 2 (L 2)) 3 (L 3)) 4 (L 4)) 5 (L 5)) 6 S6) 0 (Mm 0)) 1 (Mm 1)) 2 (Mm 2)) 3 (Mm 3)) 4 (Mm 4)) 5 (Mm 5)) 6 cc)), by simp only; omega, ?_⟩, by simp only; omega, rfl, rfl⟩
          simp only
          obtain ⟨T2, e1, e2⟩ := mont_row low hC hL hS6 hS7 hq hD hMm hcc
          have e3 : sB W (upd (upd (upd (upd (upd (upd (upd (upd (upd (upd (upd (upd (upd (upd t 0 (L 0)) 1 (L 1)) 2 (L 2)) 3 (L 3)) 4 (L 4)) 5 (L 5)) 6 S6) 0 (Mm 0)) 1 (Mm 1)) 2 (Mm 2)) 3 (Mm 3)) 4 (Mm 4)) 5 (Mm 5)) 6 cc) 7 = T2 := by rw [e1]; exact sB7 (fun j hj => mu_upd hm6 hj)
          rw [e3]
          have := mont_round (N := nv primeF) (B := nv a) (x := b 1 % W) (i := 1) rfl e2 hT hQ (Nat.mod_lt _ (by decide))
          exact ⟨_, by rw [show sB W b (1 + 1) = sB W b 1 + W ^ 1 * (b 1 % W) from rfl]; exact this.1, this.2⟩
        have z1 : 0 % W ≤ 1 := by decide
        refine same (p := 0 % W ≤ 1 ∧ 0 % W ≤ 1 ∧ mLo (b 1) (a 0) (t 0) 0 = L 0 ∧ mHi (b 1) (a 0) (t 0) 0 = C 1 ∧ 0 % W ≤ 1 ∧ 0 % W ≤ 1 ∧ mLo (b 1) (a 1) (t 1) (C 1) = L 1 ∧ mHi (b 1) (a 1) (t 1) (C 1) = C 2 ∧ 0 % W ≤ 1 ∧ 0 % W ≤ 1 ∧ mLo (b 1) (a 2) (t 2) (C 2) = L 2 ∧ mHi (b 1) (a 2) (t 2) (C 2) = C 3 ∧ 0 % W ≤ 1 ∧ 0 % W ≤ 1 ∧ mLo (b 1) (a 3) (t 3) (C 3) = L 3 ∧ mHi (b 1) (a 3) (t 3) (C 3) = C 4 ∧ 0 % W ≤ 1 ∧ 0 % W ≤ 1 ∧ mLo (b 1) (a 4) (t 4) (C 4) = L 4 ∧ mHi (b 1) (a 4) (t 4) (C 4) = C 5 ∧ 0 % W ≤ 1 ∧ 0 % W ≤ 1 ∧ mLo (b 1) (a 5) (t 5) (C 5) = L 5 ∧ mHi (b 1) (a 5) (t 5) (C 5) = C 6 ∧ t 6 + C 6 = S6 ∧ L 0 * lowN = q ∧ 0 % W ≤ 1 ∧ q % W * (primeF 0 % W) / W + (q * primeF 0 % W + L 0 % W + 0 % W) / W = D 1 ∧ 0 % W ≤ 1 ∧ 0 % W ≤ 1 ∧ mLo q (primeF 1) (L 1) (D 1) = Mm 0 ∧ mHi q (primeF 1) (L 1) (D 1) = D 2 ∧ 0 % W ≤ 1 ∧ 0 % W ≤ 1 ∧ mLo q (primeF 2) (L 2) (D 2) = Mm 1 ∧ mHi q (primeF 2) (L 2) (D 2) = D 3 ∧ 0 % W ≤ 1 ∧ 0 % W ≤ 1 ∧ mLo q (primeF 3) (L 3) (D 3) = Mm 2 ∧ mHi q (primeF 3) (L 3) (D 3) = D 4 ∧ 0 % W ≤ 1 ∧ 0 % W ≤ 1 ∧ mLo q (primeF 4) (L 4) (D 4) = Mm 3 ∧ mHi q (primeF 4) (L 4) (D 4) = D 5 ∧ 0 % W ≤ 1 ∧ 0 % W ≤ 1 ∧ mLo q (primeF 5) (L 5) (D 5) = Mm 4 ∧ mHi q (primeF 5) (L 5) (D 5) = D 6 ∧ 0 % W ≤ 1 ∧ S6 + D 6 + 0 = Mm 5 ∧ (S6 % W + D 6 % W + 0 % W) / W = cc ∧ true = true ∧ ∃ j : {x // InvMu a b x}, 6 - j.1.1 < 6 - 1 ∧ VMu b (1 + 1) = VMu b j.1.1 ∧ HMu a b (upd (upd (upd (upd (upd (upd (upd (upd (upd (upd (upd (upd (upd (upd t 0 (L 0)) 1 (L 1)) 2 (L 2)) 3 (L 3)) 4 (L 4)) 5 (L 5)) 6 S6) 0 (Mm 0)) 1 (Mm 1)) 2 (Mm 2)) 3 (Mm 3)) 4 (Mm 4)) 5 (Mm 5)) 6 cc) = HMu a b j.1.2) ?_ (by kernel_rfl)
        clear h7 hm6
        subst hC hL hS6 hS7 hq hD hMm hcc
        exact ⟨z1, ⟨z1, ⟨rfl, ⟨rfl, ⟨z1, ⟨z1, ⟨rfl, ⟨rfl, ⟨z1, ⟨z1, ⟨rfl, ⟨rfl, ⟨z1, ⟨z1, ⟨rfl, ⟨rfl, ⟨z1, ⟨z1, ⟨rfl, ⟨rfl, ⟨z1, ⟨z1, ⟨rfl, ⟨rfl, ⟨rfl, ⟨rfl, ⟨z1, ⟨rfl, ⟨z1, ⟨z1, ⟨rfl, ⟨rfl, ⟨z1, ⟨z1, ⟨rfl, ⟨rfl, ⟨z1, ⟨z1, ⟨rfl, ⟨rfl, ⟨z1, ⟨z1, ⟨rfl, ⟨rfl, ⟨z1, ⟨z1, ⟨rfl, ⟨rfl, ⟨z1, ⟨rfl, ⟨rfl, ⟨rfl, next⟩⟩⟩⟩⟩⟩⟩⟩⟩⟩⟩⟩⟩⟩⟩⟩⟩⟩⟩⟩⟩⟩⟩⟩⟩⟩⟩⟩⟩⟩⟩⟩⟩⟩⟩⟩⟩⟩⟩⟩⟩⟩⟩⟩⟩⟩⟩⟩⟩⟩⟩⟩
      · obtain ⟨C, hC⟩ : ∃ C : Nat → Nat, C = crow (b 2) a t := ⟨_, rfl⟩
        obtain ⟨L, hL⟩ : ∃ L : Nat → Nat, L = fun k => mLo (b 2) (a k) (t k) (C k) := ⟨_, rfl⟩
        obtain ⟨S6, hS6⟩ : ∃ x, x = t 6 + C 6 := ⟨_, rfl⟩
        obtain ⟨S7, hS7⟩ : ∃ x, x = (t 6 % W + C 6 % W + 0 % W) / W := ⟨_, rfl⟩
        obtain ⟨q, hq⟩ : ∃ x, x = L 0 * lowN := ⟨_, rfl⟩
        obtain ⟨D, hD⟩ : ∃ D : Nat → Nat, D = drow q primeF L := ⟨_, rfl⟩
        obtain ⟨Mm, hMm⟩ : ∃ M : Nat → Nat, M = mrow q primeF L D S6 S7 := ⟨_, rfl⟩
        obtain ⟨cc, hcc⟩ : ∃ x, x = (S6 % W + D 6 % W + 0 % W) / W := ⟨_, rfl⟩
        have h7 : S7 = 0 := row_top hC hL hS7 (by
          have hb := round_bound (w := W) (B := nv a) (N := nv primeF) (x := b 2 % W) (i := 2) hT hQ (sB_lt b 2) (Nat.mod_lt _ (by decide)) ha'
          rw [nv_prime] at hb
          exact Nat.lt_of_lt_of_le hb (by decide))
        have hm6 : Mm 6 = cc := by rw [hMm, hcc, h7]; show 0 + _ = _; rw [Nat.zero_add]
        refine roundF mixed tt_ok GMu_ok 100 [⟨13,4,.lit (.w .u64 (L 0))⟩, ⟨14,2,.lit (.w .u64 (C 1))⟩, ⟨13,4,.lit (.w .u64 (L 1))⟩, ⟨14,2,.lit (.w .u64 (C 2))⟩, ⟨13,4,.lit (.w .u64 (L 2))⟩, ⟨14,2,.lit (.w .u64 (C 3))⟩, ⟨13,4,.lit (.w .u64 (L 3))⟩, ⟨14,2,.lit (.w .u64 (C 4))⟩, ⟨13,4,.lit (.w .u64 (L 4))⟩, ⟨14,2,.lit (.w .u64 (C 5))⟩, ⟨13,4,.lit (.w .u64 (L 5))⟩, ⟨14,2,.lit (.w .u64 (C 6))⟩, ⟨17,3,.lit (.w .u64 S6)⟩, ⟨18,2,.lit (.w .u64 q)⟩, ⟨21,2,.lit (.w .u64 (D 1))⟩, ⟨28,4,.lit (.w .u64 (Mm 0))⟩, ⟨29,2,.lit (.w .u64 (D 2))⟩, ⟨28,4,.lit (.w .u64 (Mm 1))⟩, ⟨29,2,.lit (.w .u64 (D 3))⟩, ⟨28,4,.lit (.w .u64 (Mm 2))⟩, ⟨29,2,.lit (.w .u64 (D 4))⟩, ⟨28,4,.lit (.w .u64 (Mm 3))⟩, ⟨29,2,.lit (.w .u64 (D 5))⟩, ⟨28,4,.lit (.w .u64 (Mm 4))⟩, ⟨29,2,.lit (.w .u64 (D 6))⟩, ⟨31,5,.lit (.w .u64 (Mm 5))⟩, ⟨31,6,.lit (.w .u64 cc)⟩] ?_
        have next : ∃ j : {x // InvMu a b x}, 6 - j.1.1 < 6 - 2 ∧ VMu b (2 + 1) = VMu b j.1.1 ∧ HMu a b (upd (upd (upd (upd (upd (upd (upd (upd (upd (upd (upd (upd (upd (upd t 0 (L 0)) 1 (L 1)) 2 (L 2)) 3 (L 3)) 4 (L 4)) 5 (L 5)) 6 S6) 0 (Mm 0)) 1 (Mm 1)) 2 (Mm 2)) 3 (Mm 3)) 4 (Mm 4)) 5 (Mm 5)) 6 cc) = HMu a b j.1.2 := by
          refine ⟨⟨(2 + 1, (upd (upd (upd (upd (upd (upd (upd (upd (upd (upd (upd (upd (upd (upd t 0 (L 0)) 1 (L 1)) 2 (L 2)) 3 (L 3)) 4 (L 4)) 5 (L 5)) 6 S6) 0 (Mm 0)) 1 (Mm 1)) 2 (Mm 2)) 3 (Mm 3)) 4 (Mm 4)) 5 (Mm 5)) 6 cc)), by simp only; omega, ?_⟩, by simp only; omega, rfl, rfl⟩
          simp only
          obtain ⟨T2, e1, e2⟩ := mont_row low hC hL hS6 hS7 hq hD hMm hcc
          have e3 : sB W (upd (upd (upd (upd (upd (upd (upd (upd (upd (upd (upd (upd (upd (upd t 0 (L 0)) 1 (L 1)) 2 (L 2)) 3 (L 3)) 4 (L 4)) 5 (L 5)) 6 S6) 0 (Mm 0)) 1 (Mm 1)) 2 (Mm 2)) 3 (Mm 3)) 4 (Mm 4)) 5 (Mm 5)) 6 cc) 7 = T2 := by rw [e1]; exact sB7 (fun j hj => mu_upd hm6 hj)
          rw [e3]
          have := mont_round (N := nv primeF) (B := nv a) (x := b 2 % W) (i := 2) rfl e2 hT hQ (Nat.mod_lt _ (by decide))
          exact ⟨_, by rw [show sB W b (2 + 1) = sB W b 2 + W ^ 2 * (b 2 % W) from rfl]; exact this.1, this.2⟩
        have z1 : 0 % W ≤ 1 := by decide
        refine same (p := 0 % W ≤ 1 ∧ 0 % W ≤ 1 ∧ mLo (b 2) (a 0) (t 0) 0 = L 0 ∧ mHi (b 2) (a 0) (t 0) 0 = C 1 ∧ 0 % W ≤ 1 ∧ 0 % W ≤ 1 ∧ mLo (b 2) (a 1) (t 1) (C 1) = L 1 ∧ mHi (b 2) (a 1) (t 1) (C 1) = C 2 ∧ 0 % W ≤ 1 ∧ 0 % W ≤ 1 ∧ mLo (b 2) (a 2) (t 2) (C 2) = L 2 ∧ mHi (b 2) (a 2) (t 2) (C 2) = C 3 ∧ 0 % W ≤ 1 ∧ 0 % W ≤ 1 ∧ mLo (b 2) (a 3) (t 3) (C 3) = L 3 ∧ mHi (b 2) (a 3) (t 3) (C 3) = C 4 ∧ 0 % W ≤ 1 ∧ 0 % W ≤ 1 ∧ mLo (b 2) (a 4) (t 4) (C 4) = L 4 ∧ mHi (b 2) (a 4) (t 4) (C 4) = C 5 ∧ 0 % W ≤ 1 ∧ 0 % W ≤ 1 ∧ mLo (b 2) (a 5) (t 5) (C 5) = L 5 ∧ mHi (b 2) (a 5) (t 5) (C 5) = C 6 ∧ t 6 + C 6 = S6 ∧ L 0 * lowN = q ∧ 0 % W ≤ 1 ∧ q % W * (primeF 0 % W) / W + (q * primeF 0 % W + L 0 % W + 0 % W) / W = D 1 ∧ 0 % W ≤ 1 ∧ 0 % W ≤ 1 ∧ mLo q (primeF 1) (L 1) (D 1) = Mm 0 ∧ mHi q (primeF 1) (L 1) (D 1) = D 2 ∧ 0 % W ≤ 1 ∧ 0 % W ≤ 1 ∧ mLo q (primeF 2) (L 2) (D 2) = Mm 1 ∧ mHi q (primeF 2) (L 2) (D 2) = D 3 ∧ 0 % W ≤ 1 ∧ 0 % W ≤ 1 ∧ mLo q (primeF 3) (L 3) (D 3) = Mm 2 ∧ mHi q (primeF 3) (L 3) (D 3) = D 4 ∧ 0 % W ≤ 1 ∧ 0 % W ≤ 1 ∧ mLo q (primeF 4) (L 4) (D 4) = Mm 3 ∧ mHi q (primeF 4) (L 4) (D 4) = D 5 ∧ 0 % W ≤ 1 ∧ 0 % W ≤ 1 ∧ mLo q (primeF 5) (L 5) (D 5) = Mm 4 ∧ mHi q (primeF 5) (L 5) (D 5) = D 6 ∧ 0 % W ≤ 1 ∧ S6 + D 6 + 0 = Mm 5 ∧ (S6 % W + D 6 % W + 0 % W) / W = cc ∧ true = true ∧ ∃ j : {x // InvMu a b x}, 6 - j.1.1 < 6 - 2 ∧ VMu b (2 + 1) = VMu b j.1.1 ∧ HMu a b (upd (upd (upd (upd (upd (upd (upd (upd (upd (upd (upd (upd (upd (upd t 0 (L 0)) 1 (L 1)) 2 (L 2)) 3 (L 3)) 4 (L 4)) 5 (L 5)) 6 S6) 0 (Mm 0)) 1 (Mm 1)) 2 (Mm 2)) 3 (Mm 3)) 4 (Mm 4)) 5 (Mm 5)) 6 cc) = HMu a b j.1.2) ?_ (by kernel_rfl)
        clear h7 hm6
        subst hC hL hS6 hS7 hq hD hMm hcc
        exact ⟨z1, ⟨z1, ⟨rfl, ⟨rfl, ⟨z1, ⟨z1, ⟨rfl, ⟨rfl, ⟨z1, ⟨z1, ⟨rfl, ⟨rfl, ⟨z1, ⟨z1, ⟨rfl, ⟨rfl, ⟨z1, ⟨z1, ⟨rfl, ⟨rfl, ⟨z1, ⟨z1, ⟨rfl, ⟨rfl, ⟨rfl, ⟨rfl, ⟨z1, ⟨rfl, ⟨z1, ⟨z1, ⟨rfl, ⟨rfl, ⟨z1, ⟨z1, ⟨rfl, ⟨rfl, ⟨z1, ⟨z1, ⟨rfl, ⟨rfl, ⟨z1, ⟨z1, ⟨rfl, ⟨rfl, ⟨z1, ⟨z1, ⟨rfl, ⟨rfl, ⟨z1, ⟨rfl, ⟨rfl, ⟨rfl, next⟩⟩⟩⟩⟩⟩⟩⟩⟩⟩⟩⟩⟩⟩⟩⟩⟩⟩⟩⟩⟩⟩⟩⟩⟩⟩⟩⟩⟩⟩⟩⟩⟩⟩⟩⟩⟩⟩⟩⟩⟩⟩⟩⟩⟩⟩⟩⟩⟩⟩⟩⟩
      · obtain ⟨C, hC⟩ : ∃ C : Nat → Nat, C = crow (b 3) a t := ⟨_, rfl⟩
        obtain ⟨L, hL⟩ : ∃ L : Nat → Nat, L = fun k => mLo (b 3) (a k) (t k) (C k) := ⟨_, rfl⟩
        obtain ⟨S6, hS6⟩ : ∃ x, x = t 6 + C 6 := ⟨_, rfl⟩
        obtain ⟨S7, hS7⟩ : ∃ x, x = (t 6 % W + C 6 % W + 0 % W) / W := ⟨_, rfl⟩
        obtain ⟨q, hq⟩ : ∃ x, x = L 0 * lowN := ⟨_, rfl⟩
        obtain ⟨D, hD⟩ : ∃ D : Nat → Nat, D = drow q primeF L := ⟨_, rfl⟩
        obtain ⟨Mm, hMm⟩ : ∃ M : Nat → Nat, M = mrow q primeF L D S6 S7 := ⟨_, rfl⟩
        obtain ⟨cc, hcc⟩ : ∃ x, x = (S6 % W + D 6 % W + 0 % W) / W := ⟨_, rfl⟩
        have h7 : S7 = 0 := row_top hC hL hS7 (by
          have hb := round_bound (w := W) (B := nv a) (N := nv primeF) (x := b 3 % W) (i := 3) hT hQ (sB_lt b 3) (Nat.mod_lt _ (by decide)) ha'
          rw [nv_prime] at hb
          exact Nat.lt_of_lt_of_le hb (by decide))
        have hm6 : Mm 6 = cc := by rw [hMm, hcc, h7]; show 0 + _ = _; rw [Nat.zero_add]
        refine roundF mixed tt_ok GMu_ok 100 [⟨13,4,.lit (.w .u64 (L 0))⟩, ⟨14,2,.lit (.w .u64 (C 1))⟩, ⟨13,4,.lit (.w .u64 (L 1))⟩, ⟨14,2,.lit (.w .u64 (C 2))⟩, ⟨13,4,.lit (.w .u64 (L 2))⟩, ⟨14,2,.lit (.w .u64 (C 3))⟩, ⟨13,4,.lit (.w .u64 (L 3))⟩, ⟨14,2,.lit (.w .u64 (C 4))⟩, ⟨13,4,.lit (.w .u64 (L 4))⟩, ⟨14,2,.lit (.w .u64 (C 5))⟩, ⟨13,4,.lit (.w .u64 (L 5))⟩, ⟨14,2,.lit (.w .u64 (C 6))⟩, ⟨17,3,.lit (.w .u64 S6)⟩, ⟨18,2,.lit (.w .u64 q)⟩, ⟨21,2,.lit (.w .u64 (D 1))⟩, ⟨28,4,.lit (.w .u64 (Mm 0))⟩, ⟨29,2,.lit (.w .u64 (D 2))⟩, ⟨28,4,.lit (.w .u64 (Mm 1))⟩, ⟨29,2,.lit (.w .u64 (D 3))⟩, ⟨28,4,.lit (.w .u64 (Mm 2))⟩, ⟨29,2,.lit (.w .u64 (D 4))⟩, ⟨28,4,.lit (.w .u64 (Mm 3))⟩, ⟨29,2,.lit (.w .u64 (D 5))⟩, ⟨28,4,.lit (.w .u64 (Mm 4))⟩, ⟨29,2,.lit (.w .u64 (D 6))⟩, ⟨31,5,.lit (.w .u64 (Mm 5))⟩, ⟨31,6,.lit (.w .u64 cc)⟩] ?_
        have next : ∃ j : {x // InvMu a b x}, 6 - j.1.1 < 6 - 3 ∧ VMu b (3 + 1) = VMu b j.1.1 ∧ HMu a b (upd (upd (upd (upd (upd (upd (upd (upd (upd (upd (upd (upd (upd (upd t 0 (L 0)) 1 (L 1)) 2 (L 2)) 3 (L 3)) 4 (L 4)) 5 (L 5)) 6 S6) 0 (Mm 0)) 1 (Mm 1)) 2 (Mm 2)) 3 (Mm 3)) 4 (Mm 4)) 5 (Mm 5)) 6 cc) = HMu a b j.1.2 := by
          refine ⟨⟨(3 + 1, (upd (upd (upd (upd (upd (upd (upd (upd (upd (upd (upd (upd (upd (upd t 0 (L 0)) 1 (L 1)) 2 (L 2)) 3 (L 3)) 4 (L 4)) 5 (L 5)) 6 S6) 0 (Mm 0)) 1 (Mm 1)) 2 (Mm 2)) 3 (Mm 3)) 4 (Mm 4)) 5 (Mm 5)) 6 cc)), by simp only; omega, ?_⟩, by simp only; omega, rfl, rfl⟩
          simp only
          obtain ⟨T2, e1, e2⟩ := mont_row low hC hL hS6 hS7 hq hD hMm hcc
          have e3 : sB W (upd (upd (upd (upd (upd (upd (upd (upd (upd (upd (upd (upd (upd (upd t 0 (L 0)) 1 (L 1)) 2 (L 2)) 3 (L 3)) 4 (L 4)) 5 (L 5)) 6 S6) 0 (Mm 0)) 1 (Mm 1)) 2 (Mm 2)) 3 (Mm 3)) 4 (Mm 4)) 5 (Mm 5)) 6 cc) 7 = T2 := by rw [e1]; exact sB7 (fun j hj => mu_upd hm6 hj)
          rw [e3]
          have := mont_round (N := nv primeF) (B := nv a) (x := b 3 % W) (i := 3) rfl e2 hT hQ (Nat.mod_lt _ (by decide))
          exact ⟨_, by rw [show sB W b (3 + 1) = sB W b 3 + W ^ 3 * (b 3 % W) from rfl]; exact this.1, this.2⟩
        have z1 : 0 % W ≤ 1 := by decide
        refine same (p := 0 % W ≤ 1 ∧ 0 % W ≤ 1 ∧ mLo (b 3) (a 0) (t 0) 0 = L 0 ∧ mHi (b 3) (a 0) (t 0) 0 = C 1 ∧ 0 % W ≤ 1 ∧ 0 % W ≤ 1 ∧ mLo (b 3) (a 1) (t 1) (C 1) = L 1 ∧ mHi (b 3) (a 1) (t 1) (C 1) = C 2 ∧ 0 % W ≤ 1 ∧ 0 % W ≤ 1 ∧ mLo (b 3) (a 2) (t 2) (C 2) = L 2 ∧ mHi (b 3) (a 2) (t 2) (C 2) = C 3 ∧ 0 % W ≤ 1 ∧ 0 % W ≤ 1 ∧ mLo (b 3) (a 3) (t 3) (C 3) = L 3 ∧ mHi (b 3) (a 3) (t 3) (C 3) = C 4 ∧ 0 % W ≤ 1 ∧ 0 % W ≤ 1 ∧ mLo (b 3) (a 4) (t 4) (C 4) = L 4 ∧ mHi (b 3) (a 4) (t 4) (C 4) = C 5 ∧ 0 % W ≤ 1 ∧ 0 % W ≤ 1 ∧ mLo (b 3) (a 5) (t 5) (C 5) = L 5 ∧ mHi (b 3) (a 5) (t 5) (C 5) = C 6 ∧ t 6 + C 6 = S6 ∧ L 0 * lowN = q ∧ 0 % W ≤ 1 ∧ q % W * (primeF 0 % W) / W + (q * primeF 0 % W + L 0 % W + 0 % W) / W = D 1 ∧ 0 % W ≤ 1 ∧ 0 % W ≤ 1 ∧ mLo q (primeF 1) (L 1) (D 1) = Mm 0 ∧ mHi q (primeF 1) (L 1) (D 1) = D 2 ∧ 0 % W ≤ 1 ∧ 0 % W ≤ 1 ∧ mLo q (primeF 2) (L 2) (D 2) = Mm 1 ∧ mHi q (primeF 2) (L 2) (D 2) = D 3 ∧ 0 % W ≤ 1 ∧ 0 % W ≤ 1 ∧ mLo q (primeF 3) (L 3) (D 3) = Mm 2 ∧ mHi q (primeF 3) (L 3) (D 3) = D 4 ∧ 0 % W ≤ 1 ∧ 0 % W ≤ 1 ∧ mLo q (primeF 4) (L 4) (D 4) = Mm 3 ∧ mHi q (primeF 4) (L 4) (D 4) = D 5 ∧ 0 % W ≤ 1 ∧ 0 % W ≤ 1 ∧ mLo q (primeF 5) (L 5) (D 5) = Mm 4 ∧ mHi q (primeF 5) (L 5) (D 5) = D 6 ∧ 0 % W ≤ 1 ∧ S6 + D 6 + 0 = Mm 5 ∧ (S6 % W + D 6 % W + 0 % W) / W = cc ∧ true = true ∧ ∃ j : {x // InvMu a b x}, 6 - j.1.1 < 6 - 3 ∧ VMu b (3 + 1) = VMu b j.1.1 ∧ HMu a b (upd (upd (upd (upd (upd (upd (upd (upd (upd (upd (upd (upd (upd (upd t 0 (L 0)) 1 (L 1)) 2 (L 2)) 3 (L 3)) 4 (L 4)) 5 (L 5)) 6 S6) 0 (Mm 0)) 1 (Mm 1)) 2 (Mm 2)) 3 (Mm 3)) 4 (Mm 4)) 5 (Mm 5)) 6 cc) = HMu a b j.1.2) ?_ (by kernel_rfl)
        clear h7 hm6
        subst hC hL hS6 hS7 hq hD hMm hcc
        exact ⟨z1, ⟨z1, ⟨rfl, ⟨rfl, ⟨z1, ⟨z1, ⟨rfl, ⟨rfl, ⟨z1, ⟨z1, ⟨rfl, ⟨rfl, ⟨z1, ⟨z1, ⟨rfl, ⟨rfl, ⟨z1, ⟨z1, ⟨rfl, ⟨rfl, ⟨z1, ⟨z1, ⟨rfl, ⟨rfl, ⟨rfl, ⟨rfl, ⟨z1, ⟨rfl, ⟨z1, ⟨z1, ⟨rfl, ⟨rfl, ⟨z1, ⟨z1, ⟨rfl, ⟨rfl, ⟨z1, ⟨z1, ⟨rfl, ⟨rfl, ⟨z1, ⟨z1, ⟨rfl, ⟨rfl, ⟨z1, ⟨z1, ⟨rfl, ⟨rfl, ⟨z1, ⟨rfl, ⟨rfl, ⟨rfl, next⟩⟩⟩⟩⟩⟩⟩⟩⟩⟩⟩⟩⟩⟩⟩⟩⟩⟩⟩⟩⟩⟩⟩⟩⟩⟩⟩⟩⟩⟩⟩⟩⟩⟩⟩⟩⟩⟩⟩⟩⟩⟩⟩⟩⟩⟩⟩⟩⟩⟩⟩⟩
      · obtain ⟨C, hC⟩ : ∃ C : Nat → Nat, C = crow (b 4) a t := ⟨_, rfl⟩
        obtain ⟨L, hL⟩ : ∃ L : Nat → Nat, L = fun k => mLo (b 4) (a k) (t k) (C k) := ⟨_, rfl⟩
        obtain ⟨S6, hS6⟩ : ∃ x, x = t 6 + C 6 := ⟨_, rfl⟩
        obtain ⟨S7, hS7⟩ : ∃ x, x = (t 6 % W + C 6 % W + 0 % W) / W := ⟨_, rfl⟩
        obtain ⟨q, hq⟩ : ∃ x, x = L 0 * lowN := ⟨_, rfl⟩
        obtain ⟨D, hD⟩ : ∃ D : Nat → Nat, D = drow q primeF L := ⟨_, rfl⟩
        obtain ⟨Mm, hMm⟩ : ∃ M : Nat → Nat, M = mrow q primeF L D S6 S7 := ⟨_, rfl⟩
        obtain ⟨cc, hcc⟩ : ∃ x, x = (S6 % W + D 6 % W + 0 % W) / W := ⟨_, rfl⟩
        have h7 : S7 = 0 := row_top hC hL hS7 (by
          have hb := round_bound (w := W) (B := nv a) (N := nv primeF) (x := b 4 % W) (i := 4) hT hQ (sB_lt b 4) (Nat.mod_lt _ (by decide)) ha'
          rw [nv_prime] at hb
          exact Nat.lt_of_lt_of_le hb (by decide))
        have hm6 : Mm 6 = cc := by rw [hMm, hcc, h7]; show 0 + _ = _; rw [Nat.zero_add]
        refine roundF mixed tt_ok GMu_ok 100 [⟨13,4,.lit (.w .u64 (L 0))⟩, ⟨14,2,.lit (.w .u64 (C 1))⟩, ⟨13,4,.lit (.w .u64 (L 1))⟩, ⟨14,2,.lit (.w .u64 (C 2))⟩, ⟨13,4,.lit (.w .u64 (L 2))⟩, ⟨14,2,.lit (.w .u64 (C 3))⟩, ⟨13,4,.lit (.w .u64 (L 3))⟩, ⟨14,2,.lit (.w .u64 (C 4))⟩, ⟨13,4,.lit (.w .u64 (L 4))⟩, ⟨14,2,.lit (.w .u64 (C 5))⟩, ⟨13,4,.lit (.w .u64 (L 5))⟩, ⟨14,2,.lit (.w .u64 (C 6))⟩, ⟨17,3,.lit (.w .u64 S6)⟩, ⟨18,2,.lit (.w .u64 q)⟩, ⟨21,2,.lit (.w .u64 (D 1))⟩, ⟨28,4,.lit (.w .u64 (Mm 0))⟩, ⟨29,2,.lit (.w .u64 (D 2))⟩, ⟨28,4,.lit (.w .u64 (Mm 1))⟩, ⟨29,2,.lit (.w .u64 (D 3))⟩, ⟨28,4,.lit (.w .u64 (Mm 2))⟩, ⟨29,2,.lit (.w .u64 (D 4))⟩, ⟨28,4,.lit (.w .u64 (Mm 3))⟩, ⟨29,2,.lit (.w .u64 (D 5))⟩, ⟨28,4,.lit (.w .u64 (Mm 4))⟩, ⟨29,2,.lit (.w .u64 (D 6))⟩, ⟨31,5,.lit (.w .u64 (Mm 5))⟩, ⟨31,6,.lit (.w .u64 cc)⟩] ?_
        have next : ∃ j : {x // InvMu a b x}, 6 - j.1.1 < 6 - 4 ∧ VMu b (4 + 1) = VMu b j.1.1 ∧ HMu a b (upd (upd (upd (upd (upd (upd (upd (upd (upd (upd (upd (upd (upd (upd t 0 (L 0)) 1 (L 1)) 2 (L 2)) 3 (L 3)) 4 (L 4)) 5 (L 5)) 6 S6) 0 (Mm 0)) 1 (Mm 1)) 2 (Mm 2)) 3 (Mm 3)) 4 (Mm 4)) 5 (Mm 5)) 6 cc) = HMu a b j.1.2 := by
          refine ⟨⟨(4 + 1, (upd (upd (upd (upd (upd (upd (upd (upd (upd (upd (upd (upd (upd (upd t 0 (L 0)) 1 (L 1)) 2 (L 2)) 3 (L 3)) 4 (L 4)) 5 (L 5)) 6 S6) 0 (Mm 0)) 1 (Mm 1)) 2 (Mm 2)) 3 (Mm 3)) 4 (Mm 4)) 5 (Mm 5)) 6 cc)), by simp only; omega, ?_⟩, by simp only; omega, rfl, rfl⟩
          simp only
          obtain ⟨T2, e1, e2⟩ := mont_row low hC hL hS6 hS7 hq hD hMm hcc
          have e3 : sB W (upd (upd (upd (upd (upd (upd (upd (upd (upd (upd (upd (upd (upd (upd t 0 (L 0)) 1 (L 1)) 2 (L 2)) 3 (L 3)) 4 (L 4)) 5 (L 5)) 6 S6) 0 (Mm 0)) 1 (Mm 1)) 2 (Mm 2)) 3 (Mm 3)) 4 (Mm 4)) 5 (Mm 5)) 6 cc) 7 = T2 := by rw [e1]; exact sB7 (fun j hj => mu_upd hm6 hj)
          rw [e3]
          have := mont_round (N := nv primeF) (B := nv a) (x := b 4 % W) (i := 4) rfl e2 hT hQ (Nat.mod_lt _ (by decide))
          exact ⟨_, by rw [show sB W b (4 + 1) = sB W b 4 + W ^ 4 * (b 4 % W) from rfl]; exact this.1, this.2⟩
        have z1 : 0 % W ≤ 1 := by decide
        refine same (p := 0 % W ≤ 1 ∧ 0 % W ≤ 1 ∧ mLo (b 4) (a 0) (t 0) 0 = L 0 ∧ mHi (b 4) (a 0) (t 0) 0 = C 1 ∧ 0 % W ≤ 1 ∧ 0 % W ≤ 1 ∧ mLo (b 4) (a 1) (t 1) (C 1) = L 1 ∧ mHi (b 4) (a 1) (t 1) (C 1) = C 2 ∧ 0 % W ≤ 1 ∧ 0 % W ≤ 1 ∧ mLo (b 4) (a 2) (t 2) (C 2) = L 2 ∧ mHi (b 4) (a 2) (t 2) (C 2) = C 3 ∧ 0 % W ≤ 1 ∧ 0 % W ≤ 1 ∧ mLo (b 4) (a 3) (t 3) (C 3) = L 3 ∧ mHi (b 4) (a 3) (t 3) (C 3) = C 4 ∧ 0 % W ≤ 1 ∧ 0 % W ≤ 1 ∧ mLo (b 4) (a 4) (t 4) (C 4) = L 4 ∧ mHi (b 4) (a 4) (t 4) (C 4) = C 5 ∧ 0 % W ≤ 1 ∧ 0 % W ≤ 1 ∧ mLo (b 4) (a 5) (t 5) (C 5) = L 5 ∧ mHi (b 4) (a 5) (t 5) (C 5) = C 6 ∧ t 6 + C 6 = S6 ∧ L 0 * lowN = q ∧ 0 % W ≤ 1 ∧ q % W * (primeF 0 % W) / W + (q * primeF 0 % W + L 0 % W + 0 % W) / W = D 1 ∧ 0 % W ≤ 1 ∧ 0 % W ≤ 1 ∧ mLo q (primeF 1) (L 1) (D 1) = Mm 0 ∧ mHi q (primeF 1) (L 1) (D 1) = D 2 ∧ 0 % W ≤ 1 ∧ 0 % W ≤ 1 ∧ mLo q (primeF 2) (L 2) (D 2) = Mm 1 ∧ mHi q (primeF 2) (L 2) (D 2) = D 3 ∧ 0 % W ≤ 1 ∧ 0 % W ≤ 1 ∧ mLo q (primeF 3) (L 3) (D 3) = Mm 2 ∧ mHi q (primeF 3) (L 3) (D 3) = D 4 ∧ 0 % W ≤ 1 ∧ 0 % W ≤ 1 ∧ mLo q (primeF 4) (L 4) (D 4) = Mm 3 ∧ mHi q (primeF 4) (L 4) (D 4) = D 5 ∧ 0 % W ≤ 1 ∧ 0 % W ≤ 1 ∧ mLo q (primeF 5) (L 5) (D 5) = Mm 4 ∧ mHi q (primeF 5) (L 5) (D 5) = D 6 ∧ 0 % W ≤ 1 ∧ S6 + D 6 + 0 = Mm 5 ∧ (S6 % W + D 6 % W + 0 % W) / W = cc ∧ true = true ∧ ∃ j : {x // InvMu a b x}, 6 - j.1.1 < 6 - 4 ∧ VMu b (4 + 1) = VMu b j.1.1 ∧ HMu a b (upd (upd (upd (upd (upd (upd (upd (upd (upd (upd (upd (upd (upd (upd t 0 (L 0)) 1 (L 1)) 2 (L 2)) 3 (L 3)) 4 (L 4)) 5 (L 5)) 6 S6) 0 (Mm 0)) 1 (Mm 1)) 2 (Mm 2)) 3 (Mm 3)) 4 (Mm 4)) 5 (Mm 5)) 6 cc) = HMu a b j.1.2) ?_ (by kernel_rfl)
        clear h7 hm6
        subst hC hL hS6 hS7 hq hD hMm hcc
        exact ⟨z1, ⟨z1, ⟨rfl, ⟨rfl, ⟨z1, ⟨z1, ⟨rfl, ⟨rfl, ⟨z1, ⟨z1, ⟨rfl, ⟨rfl, ⟨z1, ⟨z1, ⟨rfl, ⟨rfl, ⟨z1, ⟨z1, ⟨rfl, ⟨rfl, ⟨z1, ⟨z1, ⟨rfl, ⟨rfl, ⟨rfl, ⟨rfl, ⟨z1, ⟨rfl, ⟨z1, ⟨z1, ⟨rfl, ⟨rfl, ⟨z1, ⟨z1, ⟨rfl, ⟨rfl, ⟨z1, ⟨z1, ⟨rfl, ⟨rfl, ⟨z1, ⟨z1, ⟨rfl, ⟨rfl, ⟨z1, ⟨z1, ⟨rfl, ⟨rfl, ⟨z1, ⟨rfl, ⟨rfl, ⟨rfl, next⟩⟩⟩⟩⟩⟩⟩⟩⟩⟩⟩⟩⟩⟩⟩⟩⟩⟩⟩⟩⟩⟩⟩⟩⟩⟩⟩⟩⟩⟩⟩⟩⟩⟩⟩⟩⟩⟩⟩⟩⟩⟩⟩⟩⟩⟩⟩⟩⟩⟩⟩⟩
      · obtain ⟨C, hC⟩ : ∃ C : Nat → Nat, C = crow (b 5) a t := ⟨_, rfl⟩
        obtain ⟨L, hL⟩ : ∃ L : Nat → Nat, L = fun k => mLo (b 5) (a k) (t k) (C k) := ⟨_, rfl⟩
        obtain ⟨S6, hS6⟩ : ∃ x, x = t 6 + C 6 := ⟨_, rfl⟩
        obtain ⟨S7, hS7⟩ : ∃ x, x = (t 6 % W + C 6 % W + 0 % W) / W := ⟨_, rfl⟩
        obtain ⟨q, hq⟩ : ∃ x, x = L 0 * lowN := ⟨_, rfl⟩
        obtain ⟨D, hD⟩ : ∃ D : Nat → Nat, D = drow q primeF L := ⟨_, rfl⟩
        obtain ⟨Mm, hMm⟩ : ∃ M : Nat → Nat, M = mrow q primeF L D S6 S7 := ⟨_, rfl⟩
        obtain ⟨cc, hcc⟩ : ∃ x, x = (S6 % W + D 6 % W + 0 % W) / W := ⟨_, rfl⟩
        have h7 : S7 = 0 := row_top hC hL hS7 (by
          have hb := round_bound (w := W) (B := nv a) (N := nv primeF) (x := b 5 % W) (i := 5) hT hQ (sB_lt b 5) (Nat.mod_lt _ (by decide)) ha'
          rw [nv_prime] at hb
          exact Nat.lt_of_lt_of_le hb (by decide))
        have hm6 : Mm 6 = cc := by rw [hMm, hcc, h7]; show 0 + _ = _; rw [Nat.zero_add]
        refine roundF mixed tt_ok GMu_ok 100 [⟨13,4,.lit (.w .u64 (L 0))⟩, ⟨14,2,.lit (.w .u64 (C 1))⟩, ⟨13,4,.lit (.w .u64 (L 1))⟩, ⟨14,2,.lit (.w .u64 (C 2))⟩, ⟨13,4,.lit (.w .u64 (L 2))⟩, ⟨14,2,.lit (.w .u64 (C 3))⟩, ⟨13,4,.lit (.w .u64 (L 3))⟩, ⟨14,2,.lit (.w .u64 (C 4))⟩, ⟨13,4,.lit (.w .u64 (L 4))⟩, ⟨14,2,.lit (.w .u64 (C 5))⟩, ⟨13,4,.lit (.w .u64 (L 5))⟩, ⟨14,2,.lit (.w .u64 (C 6))⟩, ⟨17,3,.lit (.w .u64 S6)⟩, ⟨18,2,.lit (.w .u64 q)⟩, ⟨21,2,.lit (.w .u64 (D 1))⟩, ⟨28,4,.lit (.w .u64 (Mm 0))⟩, ⟨29,2,.lit (.w .u64 (D 2))⟩, ⟨28,4,.lit (.w .u64 (Mm 1))⟩, ⟨29,2,.lit (.w .u64 (D 3))⟩, ⟨28,4,.lit (.w .u64 (Mm 2))⟩, ⟨29,2,.lit (.w .u64 (D 4))⟩, ⟨28,4,.lit (.w .u64 (Mm 3))⟩, ⟨29,2,.lit (.w .u64 (D 5))⟩, ⟨28,4,.lit (.w .u64 (Mm 4))⟩, ⟨29,2,.lit (.w .u64 (D 6))⟩, ⟨31,5,.lit (.w .u64 (Mm 5))⟩, ⟨31,6,.lit (.w .u64 cc)⟩] ?_
        have next : ∃ j : {x // InvMu a b x}, 6 - j.1.1 < 6 - 5 ∧ VMu b (5 + 1) = VMu b j.1.1 ∧ HMu a b (upd (upd (upd (upd (upd (upd (upd (upd (upd (upd (upd (upd (upd (upd t 0 (L 0)) 1 (L 1)) 2 (L 2)) 3 (L 3)) 4 (L 4)) 5 (L 5)) 6 S6) 0 (Mm 0)) 1 (Mm 1)) 2 (Mm 2)) 3 (Mm 3)) 4 (Mm 4)) 5 (Mm 5)) 6 cc) = HMu a b j.1.2 := by
          refine ⟨⟨(5 + 1, (upd (upd (upd (upd (upd (upd (upd (upd (upd (upd (upd (upd (upd (upd t 0 (L 0)) 1 (L 1)) 2 (L 2)) 3 (L 3)) 4 (L 4)) 5 (L 5)) 6 S6) 0 (Mm 0)) 1 (Mm 1)) 2 (Mm 2)) 3 (Mm 3)) 4 (Mm 4)) 5 (Mm 5)) 6 cc)), by simp only; omega, ?_⟩, by simp only; omega, rfl, rfl⟩
          simp only
          obtain ⟨T2, e1, e2⟩ := mont_row low hC hL hS6 hS7 hq hD hMm hcc
          have e3 : sB W (upd (upd (upd (upd (upd (upd (upd (upd (upd (upd (upd (upd (upd (upd t 0 (L 0)) 1 (L 1)) 2 (L 2)) 3 (L 3)) 4 (L 4)) 5 (L 5)) 6 S6) 0 (Mm 0)) 1 (Mm 1)) 2 (Mm 2)) 3 (Mm 3)) 4 (Mm 4)) 5 (Mm 5)) 6 cc) 7 = T2 := by rw [e1]; exact sB7 (fun j hj => mu_upd hm6 hj)
          rw [e3]
          have := mont_round (N := nv primeF) (B := nv a) (x := b 5 % W) (i := 5) rfl e2 hT hQ (Nat.mod_lt _ (by decide))
          exact ⟨_, by rw [show sB W b (5 + 1) = sB W b 5 + W ^ 5 * (b 5 % W) from rfl]; exact this.1, this.2⟩
        have z1 : 0 % W ≤ 1 := by decide
        refine same (p := 0 % W ≤ 1 ∧ 0 % W ≤ 1 ∧ mLo (b 5) (a 0) (t 0) 0 = L 0 ∧ mHi (b 5) (a 0) (t 0) 0 = C 1 ∧ 0 % W ≤ 1 ∧ 0 % W ≤ 1 ∧ mLo (b 5) (a 1) (t 1) (C 1) = L 1 ∧ mHi (b 5) (a 1) (t 1) (C 1) = C 2 ∧ 0 % W ≤ 1 ∧ 0 % W ≤ 1 ∧ mLo (b 5) (a 2) (t 2) (C 2) = L 2 ∧ mHi (b 5) (a 2) (t 2) (C 2) = C 3 ∧ 0 % W ≤ 1 ∧ 0 % W ≤ 1 ∧ mLo (b 5) (a 3) (t 3) (C 3) = L 3 ∧ mHi (b 5) (a 3) (t 3) (C 3) = C 4 ∧ 0 % W ≤ 1 ∧ 0 % W ≤ 1 ∧ mLo (b 5) (a 4) (t 4) (C 4) = L 4 ∧ mHi (b 5) (a 4) (t 4) (C 4) = C 5 ∧ 0 % W ≤ 1 ∧ 0 % W ≤ 1 ∧ mLo (b 5) (a 5) (t 5) (C 5) = L 5 ∧ mHi (b 5) (a 5) (t 5) (C 5) = C 6 ∧ t 6 + C 6 = S6 ∧ L 0 * lowN = q ∧ 0 % W ≤ 1 ∧ q % W * (primeF 0 % W) / W + (q * primeF 0 % W + L 0 % W + 0 % W) / W = D 1 ∧ 0 % W ≤ 1 ∧ 0 % W ≤ 1 ∧ mLo q (primeF 1) (L 1) (D 1) = Mm 0 ∧ mHi q (primeF 1) (L 1) (D 1) = D 2 ∧ 0 % W ≤ 1 ∧ 0 % W ≤ 1 ∧ mLo q (primeF 2) (L 2) (D 2) = Mm 1 ∧ mHi q (primeF 2) (L 2) (D 2) = D 3 ∧ 0 % W ≤ 1 ∧ 0 % W ≤ 1 ∧ mLo q (primeF 3) (L 3) (D 3) = Mm 2 ∧ mHi q (primeF 3) (L 3) (D 3) = D 4 ∧ 0 % W ≤ 1 ∧ 0 % W ≤ 1 ∧ mLo q (primeF 4) (L 4) (D 4) = Mm 3 ∧ mHi q (primeF 4) (L 4) (D 4) = D 5 ∧ 0 % W ≤ 1 ∧ 0 % W ≤ 1 ∧ mLo q (primeF 5) (L 5) (D 5) = Mm 4 ∧ mHi q (primeF 5) (L 5) (D 5) = D 6 ∧ 0 % W ≤ 1 ∧ S6 + D 6 + 0 = Mm 5 ∧ (S6 % W + D 6 % W + 0 % W) / W = cc ∧ true = true ∧ ∃ j : {x // InvMu a b x}, 6 - j.1.1 < 6 - 5 ∧ VMu b (5 + 1) = VMu b j.1.1 ∧ HMu a b (upd (upd (upd (upd (upd (upd (upd (upd (upd (upd (upd (upd (upd (upd t 0 (L 0)) 1 (L 1)) 2 (L 2)) 3 (L 3)) 4 (L 4)) 5 (L 5)) 6 S6) 0 (Mm 0)) 1 (Mm 1)) 2 (Mm 2)) 3 (Mm 3)) 4 (Mm 4)) 5 (Mm 5)) 6 cc) = HMu a b j.1.2) ?_ (by kernel_rfl)
        clear h7 hm6
        subst hC hL hS6 hS7 hq hD hMm hcc
        exact ⟨z1, ⟨z1, ⟨rfl, ⟨rfl, ⟨z1, ⟨z1, ⟨rfl, ⟨rfl, ⟨z1, ⟨z1, ⟨rfl, ⟨rfl, ⟨z1, ⟨z1, ⟨rfl, ⟨rfl, ⟨z1, ⟨z1, ⟨rfl, ⟨rfl, ⟨z1, ⟨z1, ⟨rfl, ⟨rfl, ⟨rfl, ⟨rfl, ⟨z1, ⟨rfl, ⟨z1, ⟨z1, ⟨rfl, ⟨rfl, ⟨z1, ⟨z1, ⟨rfl, ⟨rfl, ⟨z1, ⟨z1, ⟨rfl, ⟨rfl, ⟨z1, ⟨z1, ⟨rfl, ⟨rfl, ⟨z1, ⟨z1, ⟨rfl, ⟨rfl, ⟨z1, ⟨rfl, ⟨rfl, ⟨rfl, next⟩⟩⟩⟩⟩⟩⟩⟩⟩⟩⟩⟩⟩⟩⟩⟩⟩⟩⟩⟩⟩⟩⟩⟩⟩⟩⟩⟩⟩⟩⟩⟩⟩⟩⟩⟩⟩⟩⟩⟩⟩⟩⟩⟩⟩⟩⟩⟩⟩⟩⟩⟩
      · refine roundF mixed tt_ok GMu_ok 100 [] ?_
        refine same (p := true = true ∧ ∃ j : {x // InvMu a b x}, j.1.1 = 6 ∧ VMu b 6 = VMu b j.1.1 ∧ HMu a b t = HMu a b j.1.2) ?_ (by kernel_rfl)
        exact ⟨rfl, ⟨(6, t), hi, Q, hT, hQ⟩, rfl, rfl, rfl⟩
    · intro ⟨⟨i, t⟩, hi, Q, hT, hQ⟩ junk h6
      simp only at hi hT hQ h6
      subst h6
      refine same (p := endN (numA (lessV pN (nv t))) (nm (eF (eMul (dF a) (dF b))))) ?_ (by kernel_rfl)
      rw [sB_W b 6, ← nv_nvn, ← R_eq] at hT
      rw [← R_eq] at hQ
      obtain ⟨h1, h2⟩ := mont_end (by rw [nv_prime]; exact pN_odd) (by rw [nv_prime]; exact pN_pos) (nv_lt b) (nv_lt a) (.inr ha') hQ hT
      have h7 := sB7_nv (t := t) (Nat.lt_of_lt_of_le h1 (by rw [nv_prime]; omega))
      rw [h7, nv_prime] at h2
      have e : lessV pN (nv t) = enc (eMul (dF a) (dF b)) := by
        unfold lessV
        rw [h2, mont_enc]
        unfold eMul dF
        rw [show dec (nv b) * dec (nv a) = dec (nv a) * dec (nv b) from by grind]
      refine endN_nm ?_
      rw [e, nv_eF, nv_wd, Nat.mod_eq_of_lt (Nat.lt_trans (enc_lt _) pN_lt)]
  · cases e
end Go.Proofs.Ytnjocbcjejpklaa

/- Elements of the great field: in, out, powers. -/
namespace Go.Proofs.Ytnjocbcjejpklaa
open Go.Rq Go
set_option maxRecDepth 100000

def vF (z : Fp) : Nat → Nat := wd z.val
theorem nv_vF (z : Fp) : nv (vF z) = z.val := by
  unfold vF
  rw [nv_wd, Nat.mod_eq_of_lt (Nat.lt_trans z.isLt pN_lt)]
theorem ofN_vF (z : Fp) : ofN (nv (vF z)) = z := by rw [nv_vF, ofN_self]
def cTo : List AV → Option (List Prop × AV)
  | [.v1 (.agg [.ws .u64 6 a])] => some ([], nm (eF (ofN (nv a))))
  | _ => none
def cFrom : List AV → Option (List Prop × AV)
  | [.v1 (.agg [.ws .u64 6 a])] => some ([nv a < pN], nm (vF (dF a)))
  | _ => none
def GTo : Ctx := ctxL [(72, .pure (cK wideF)), (59, .pure cEMul)]
theorem GTo_ok : CtxOk Try.prog GTo := ctxL_cons okWide0 <| ctxL_cons okEMul ctxL_nil
theorem okTo : (CallC.pure cTo).Ok Try.prog 42 := by
  intro args pre v e _
  unfold cTo at e
  split at e
  · rename_i a
    cases e
    refine pure_walk' tt_ok Try.func42 (by kernel_rfl) (by kernel_rfl) (by rfl) (by rfl) ?_
    refine evS_q mixed tt_ok GTo_ok 60 [] ?_
    refine same (p := nv wideF < pN ∧ endN (nm (eF (eMul (dF wideF) (dF a)))) (nm (eF (ofN (nv a))))) ?_ (by kernel_rfl)
    refine ⟨by rw [nv_wide]; exact Nat.mod_lt _ pN_pos, endN_nm ?_⟩
    rw [nv_eF, nv_eF]
    unfold eMul dF
    rw [← mont_enc, nv_wide, to_enc]
  · cases e
theorem nv_u1 : nv (upd (fun _ => 0) 0 1) = 1 := by kernel_rfl
theorem okFrom : (CallC.pure cFrom).Ok Try.prog 47 := by
  intro args pre v e hp
  unfold cFrom at e
  split at e
  · rename_i a
    cases e
    have ha : nv a < pN := hp _ (List.mem_cons_self ..)
    refine pure_walk' tt_ok Try.func47 (by kernel_rfl) (by kernel_rfl) (by rfl) (by rfl) ?_
    refine evS_q mixed tt_ok GTo_ok 60 [] ?_
    refine same (p := nv a < pN ∧ endN (nm (eF (eMul (dF a) (dF (upd (fun _ => 0) 0 1))))) (nm (vF (dF a)))) ?_ (by kernel_rfl)
    refine ⟨ha, endN_nm ?_⟩
    rw [nv_eF, nv_vF]
    unfold eMul dF
    rw [← mont_enc, nv_u1, from_val]
  · cases e

/-! Pow -/
def ePow (x : Fp) : Nat → Fp
  | 0 => 1
  | n + 1 => ePow x n * x
theorem ePow_add (x : Fp) (a : Nat) : ∀ b, ePow x (a + b) = ePow x a * ePow x b
  | 0 => by show ePow x a = ePow x a * 1; grind
  | b + 1 => by
    show ePow x (a + b) * x = ePow x a * (ePow x b * x)
    rw [ePow_add x a b]
    grind
def cEPow : List AV → Option (List Prop × AV)
  | [.v1 (.agg [.ws .u64 6 a]), .v1 (.agg [.ws .u64 6 e])] => some ([nv a < pN], nm (eF (ePow (dF a) (nv e))))
  | _ => none
def GPo : Ctx := ctxL [(61, .pure (cK oneF)), (59, .pure cEMul)]
theorem GPo_ok : CtxOk Try.prog GPo := ctxL_cons okOne0 <| ctxL_cons okEMul ctxL_nil
def VPo (k : Nat) : List AV := [pt 0 0, pt 1 0, pt 2 0, pt 4 0, iv (predI k)]
def HPo (a e o : Nat → Nat) : Heap := [nbE a, nb e, nbE (fun _ => 0), none, nbE o]
def InvPo (a e : Nat → Nat) (x : Nat × (Nat → Nat)) : Prop := x.1 ≤ 384 ∧ nv x.2 < pN ∧ dF x.2 = ePow (dF a) (nv e / 2 ^ x.1)
theorem bit_beq (e : Nat → Nat) {i : Nat} (hi : i < 384) : Nat.beq ((e (i / 64) % W / 2 ^ min (i % 64) 64 &&& 1) % W) (1 % W) = Nat.beq (nv e / 2 ^ i % 2) 1 := by
  rw [show min (i % 64) 64 = i % 64 by omega, Nat.and_two_pow_sub_one_eq_mod _ 1, show (2 : Nat) ^ 1 = 2 from rfl, bit_nv e i hi]
  have h : nv e / 2 ^ i % 2 < 2 := Nat.mod_lt _ (by omega)
  rw [Nat.mod_eq_of_lt (show nv e / 2 ^ i % 2 < W by simp only [W]; omega)]
  rfl
theorem okEPow : (CallC.pure cEPow).Ok Try.prog 85 := by
  intro args pre v e hp
  unfold cEPow at e
  split at e
  · rename_i a e
    cases e
    rename_i e
    have ha : nv a < pN := hp _ (List.mem_cons_self ..)
    refine pure_walk' tt_ok Try.func85 (by kernel_rfl) (by kernel_rfl) (by rfl) (by rfl) ?_
    refine loopF mixed tt_ok GPo_ok (by kernel_rfl) (ι := {x // InvPo a e x}) [2,3,4,5,6] 28 5 (fun x => VPo x.1.1) (fun x => HPo a e x.1.2) (fun x => x.1.1) (fun x => x.1.1 = 0)
      (fun _ => rfl) (fun _ => by kernel_rfl) (fun _ _ h => h.elim) 60 [] ?_ ?_ ?_
    · refine same (p := true = true ∧ ∃ j : {x // InvPo a e x}, VPo 384 = VPo j.1.1 ∧ HPo a e oneF = HPo a e j.1.2) ?_ (by kernel_rfl)
      refine ⟨rfl, ⟨(384, oneF), by simp, by rw [one_enc]; exact enc_lt 1, ?_⟩, rfl, rfl⟩
      have : nv e / 2 ^ 384 = 0 := Nat.div_eq_of_lt (by have := nv_lt e; rw [R_pow, E_eq] at this; exact this)
      simp only
      rw [this]
      unfold dF
      rw [one_enc, dec_enc]
      rfl
    · intro ⟨⟨k, o⟩, hk, ho, hd⟩ junk
      simp only at hk ho hd
      cases k with
      | zero =>
        refine roundF mixed tt_ok GPo_ok 60 [] ?_
        refine same (p := true = true ∧ ∃ j : {x // InvPo a e x}, j.1.1 = 0 ∧ VPo 0 = VPo j.1.1 ∧ HPo a e o = HPo a e j.1.2) ?_ (by kernel_rfl)
        exact ⟨rfl, ⟨(0, o), hk, ho, hd⟩, rfl, rfl, rfl⟩
      | succ k =>
        have hk : k < 384 := by omega
        have h64 : k / 64 < 6 := by omega
        have hge : (!ilt (Int.ofNat k) 0) = true := by rw [ilt_not (by simp)]; rfl
        have hs : wrapI (Int.ofNat k - 1) = predI k := predI_eq (by omega)
        have hn := div_next (nv e) k
        have next : ∀ o' : Fp, o' = ePow (dF a) (nv e / 2 ^ k) → ∃ j : {x // InvPo a e x}, j.1.1 < k + 1 ∧ VPo k = VPo j.1.1 ∧ HPo a e (eF o') = HPo a e j.1.2 :=
          fun o' h' => ⟨⟨(k, eF o'), by simp only; omega, lt_eF o', by simp only; rw [dF_eF, h']⟩, by simp only; omega, rfl, rfl⟩
        have sq : dF o * dF o = ePow (dF a) (2 * (nv e / 2 ^ (k + 1))) := by rw [hd, Nat.two_mul, ePow_add]
        cases hb : Nat.beq (nv e / 2 ^ k % 2) 1
        · refine roundF mixed tt_ok GPo_ok 60 [⟨3,1,.lit (.bo true)⟩,⟨6,1,.lit (.it (Int.ofNat (k/64)))⟩,⟨6,2,.sym⟩,⟨6,3,.sym⟩,⟨6,5,.lit (.it (Int.ofNat (k%64)))⟩,⟨6,8,.lit (.bo false)⟩,⟨4,1,.lit (.it (predI k))⟩] ?_
          refine same (p := (!ilt (Int.ofNat k) 0) = true ∧ nv o < pN ∧ wrapI ((Int.ofNat k).tdiv 64) = Int.ofNat (k / 64) ∧ ix (k / 64) 6 ((Int.ofNat k).tmod 64 = Int.ofNat (k % 64) ∧
            Nat.beq ((e (k / 64) % W / 2 ^ min (k % 64) 64 &&& 1) % W) (1 % W) = false ∧ wrapI (Int.ofNat k - 1) = predI k ∧ true = true ∧
            ∃ j : {x // InvPo a e x}, j.1.1 < k + 1 ∧ VPo k = VPo j.1.1 ∧ HPo a e (eF (eMul (dF o) (dF o))) = HPo a e j.1.2)) ?_ (by kernel_rfl)
          refine ⟨hge, ho, tdiv64 ⟨k, hk⟩, ix_of h64 ⟨tmod64 ⟨k, hk⟩, by rw [bit_beq e hk, hb], hs, rfl, next _ ?_⟩⟩
          have h0 : nv e / 2 ^ k % 2 = 0 := by
            have : nv e / 2 ^ k % 2 ≠ 1 := fun e' => by rw [← Nat.beq_eq, hb] at e'; cases e'
            omega
          rw [h0, Nat.add_zero] at hn
          unfold eMul
          rw [sq, hn]
        · refine roundF mixed tt_ok GPo_ok 60 [⟨3,1,.lit (.bo true)⟩,⟨6,1,.lit (.it (Int.ofNat (k/64)))⟩,⟨6,2,.sym⟩,⟨6,3,.sym⟩,⟨6,5,.lit (.it (Int.ofNat (k%64)))⟩,⟨6,8,.lit (.bo true)⟩,⟨4,1,.lit (.it (predI k))⟩] ?_
          refine same (p := (!ilt (Int.ofNat k) 0) = true ∧ nv o < pN ∧ wrapI ((Int.ofNat k).tdiv 64) = Int.ofNat (k / 64) ∧ ix (k / 64) 6 ((Int.ofNat k).tmod 64 = Int.ofNat (k % 64) ∧
            Nat.beq ((e (k / 64) % W / 2 ^ min (k % 64) 64 &&& 1) % W) (1 % W) = true ∧ nv (eF (eMul (dF o) (dF o))) < pN ∧ wrapI (Int.ofNat k - 1) = predI k ∧ true = true ∧
            ∃ j : {x // InvPo a e x}, j.1.1 < k + 1 ∧ VPo k = VPo j.1.1 ∧ HPo a e (eF (eMul (dF (eF (eMul (dF o) (dF o)))) (dF a))) = HPo a e j.1.2)) ?_ (by kernel_rfl)
          refine ⟨hge, ho, tdiv64 ⟨k, hk⟩, ix_of h64 ⟨tmod64 ⟨k, hk⟩, by rw [bit_beq e hk, hb], lt_eF _, hs, rfl, next _ ?_⟩⟩
          rw [Nat.beq_eq] at hb
          rw [hb] at hn
          rw [dF_eF]
          unfold eMul
          rw [sq, hn]
          rfl
    · intro ⟨⟨k, o⟩, hk, ho, hd⟩ junk h0
      simp only at hk ho hd h0
      subst h0
      refine same (p := endN (nm o) (nm (eF (ePow (dF a) (nv e))))) ?_ (by kernel_rfl)
      rw [Nat.pow_zero, Nat.div_one] at hd
      rw [← hd]
      exact endN_nm (eF_dF ho).symm
  · cases e
def eInv (x : Fp) : Fp := ePow x (pN - 2)
def invF0 : Nat → Nat := upd (upd (upd (upd (upd (upd (fun _ => 0) 0 13402431016077863593) 1 2210141511517208575) 2 7435674573564081700) 3 7239337960414712511) 4 5412103778470702295) 5 1873798617647539866
theorem nv_inv0 : nv invF0 = pN - 2 := by kernel_rfl
def GIe : Ctx := ctxL [(85, .pure cEPow)]
theorem GIe_ok : CtxOk Try.prog GIe := ctxL_cons okEPow ctxL_nil
theorem okEInv : (CallC.pure (el1 eInv)).Ok Try.prog 60 := by
  refine el1_ok Try.func60 (by kernel_rfl) (by kernel_rfl) fun a ha => evS_q mixed tt_ok GIe_ok 100 [] ?_
  refine same (p := nv a < pN ∧ endN (nm (eF (ePow (dF a) (nv invF0)))) (nm (eF (eInv (dF a))))) ?_ (by kernel_rfl)
  exact ⟨ha, endN_nm (by rw [nv_inv0]; rfl)⟩
end Go.Proofs.Ytnjocbcjejpklaa

/- Elements of two parts. Printed by gentwo.py. -/
namespace Go.Proofs.Ytnjocbcjejpklaa
open Go.Rq Go
set_option maxRecDepth 100000

abbrev f2 (a b : Nat → Nat) : AV := .v1 (.agg [.ws .u64 6 a, .ws .u64 6 b])
theorem f2_val {f g f' g' : Nat → Nat} (h : nv f = nv f') (k : nv g = nv g') (ρ : Ren) : (f2 f g).val ρ = (f2 f' g').val ρ := by
  have w : ∀ {f g : Nat → Nat}, nv f = nv g → cvals ρ [.ws .u64 6 f] = cvals ρ [.ws .u64 6 g] := fun {f g} h => by
    simp only [cvals, Cell.vals, List.append_nil]
    refine List.map_congr_left fun j hj => ?_
    have hj' := List.mem_range.1 hj
    have e : f j % W = g j % W := by rw [← wd_nv f j hj', ← wd_nv g j hj', h]
    simp only [W] at e
    simp only [M, e]
  have c : ∀ f g : Nat → Nat, cvals ρ [.ws .u64 6 f, .ws .u64 6 g] = cvals ρ [.ws .u64 6 f] ++ cvals ρ [.ws .u64 6 g] := fun f g => by simp [cvals]
  show Value.agg (cvals ρ _).toArray = Value.agg (cvals ρ _).toArray
  rw [c, c, w h, w k]
theorem endN_f2 {f g f' g' : Nat → Nat} (h : nv f = nv f') (k : nv g = nv g') : endN (f2 f g) (f2 f' g') := ⟨_, rfl, f2_val h k⟩
theorem nvE {x y : Fp} (h : x = y) : nv (eF x) = nv (eF y) := by rw [h]
def q1 (X Y : Fp → Fp → Fp) : List AV → Option (List Prop × AV)
  | [.v1 (.agg [.ws .u64 6 a, .ws .u64 6 b])] => some ([nv a < pN, nv b < pN], f2 (eF (X (dF a) (dF b))) (eF (Y (dF a) (dF b))))
  | _ => none
def q2 (X Y : Fp → Fp → Fp → Fp → Fp) : List AV → Option (List Prop × AV)
  | [.v1 (.agg [.ws .u64 6 a, .ws .u64 6 b]), .v1 (.agg [.ws .u64 6 c, .ws .u64 6 d])] => some ([nv a < pN, nv b < pN, nv c < pN, nv d < pN], f2 (eF (X (dF a) (dF b) (dF c) (dF d))) (eF (Y (dF a) (dF b) (dF c) (dF d))))
  | _ => none
def qs (X Y : Fp → Fp → Fp → Fp) : List AV → Option (List Prop × AV)
  | [.v1 (.agg [.ws .u64 6 a, .ws .u64 6 b]), .v1 (.agg [.ws .u64 6 c])] => some ([nv a < pN, nv b < pN, nv c < pN], f2 (eF (X (dF a) (dF b) (dF c))) (eF (Y (dF a) (dF b) (dF c))))
  | _ => none
def qn (X : Fp → Fp → Fp) : List AV → Option (List Prop × AV)
  | [.v1 (.agg [.ws .u64 6 a, .ws .u64 6 b])] => some ([nv a < pN, nv b < pN], nm (eF (X (dF a) (dF b))))
  | _ => none
theorem q1_ok {X Y : Fp → Fp → Fp} {f : FuncId} {fn : Func} (hf : Try.prog.funcs[f]? = some fn) (hb : fn.body = some (bodyOf fn)) (hn : (fn.name == "runtime.NumGoroutine") = false)
    (h : ∀ a b : Nat → Nat, nv a < pN → nv b < pN → AWqS Try.prog (fun _ => False) (flatC (bodyOf fn)) (FEnd' tt fn (f2 (eF (X (dF a) (dF b))) (eF (Y (dF a) (dF b))))) ⟨frame0 [f2 a b] fn.ntmps, []⟩) : (CallC.pure (q1 X Y)).Ok Try.prog f := by
  intro args pre v e hp
  unfold q1 at e
  split at e
  · rename_i a b
    cases e
    exact pure_walk' tt_ok hf hb hn (by rfl) (by rfl) (h a b (hp _ (by simp)) (hp _ (by simp)))
  · cases e
theorem q2_ok {X Y : Fp → Fp → Fp → Fp → Fp} {f : FuncId} {fn : Func} (hf : Try.prog.funcs[f]? = some fn) (hb : fn.body = some (bodyOf fn)) (hn : (fn.name == "runtime.NumGoroutine") = false)
    (h : ∀ a b c d : Nat → Nat, nv a < pN → nv b < pN → nv c < pN → nv d < pN → AWqS Try.prog (fun _ => False) (flatC (bodyOf fn)) (FEnd' tt fn (f2 (eF (X (dF a) (dF b) (dF c) (dF d))) (eF (Y (dF a) (dF b) (dF c) (dF d))))) ⟨frame0 [f2 a b, f2 c d] fn.ntmps, []⟩) : (CallC.pure (q2 X Y)).Ok Try.prog f := by
  intro args pre v e hp
  unfold q2 at e
  split at e
  · rename_i a b c d
    cases e
    exact pure_walk' tt_ok hf hb hn (by rfl) (by rfl) (h a b c d (hp _ (by simp)) (hp _ (by simp)) (hp _ (by simp)) (hp _ (by simp)))
  · cases e
theorem qs_ok {X Y : Fp → Fp → Fp → Fp} {f : FuncId} {fn : Func} (hf : Try.prog.funcs[f]? = some fn) (hb : fn.body = some (bodyOf fn)) (hn : (fn.name == "runtime.NumGoroutine") = false)
    (h : ∀ a b c : Nat → Nat, nv a < pN → nv b < pN → nv c < pN → AWqS Try.prog (fun _ => False) (flatC (bodyOf fn)) (FEnd' tt fn (f2 (eF (X (dF a) (dF b) (dF c))) (eF (Y (dF a) (dF b) (dF c))))) ⟨frame0 [f2 a b, nm c] fn.ntmps, []⟩) : (CallC.pure (qs X Y)).Ok Try.prog f := by
  intro args pre v e hp
  unfold qs at e
  split at e
  · rename_i a b c
    cases e
    exact pure_walk' tt_ok hf hb hn (by rfl) (by rfl) (h a b c (hp _ (by simp)) (hp _ (by simp)) (hp _ (by simp)))
  · cases e
theorem qn_ok {X : Fp → Fp → Fp} {f : FuncId} {fn : Func} (hf : Try.prog.funcs[f]? = some fn) (hb : fn.body = some (bodyOf fn)) (hn : (fn.name == "runtime.NumGoroutine") = false)
    (h : ∀ a b : Nat → Nat, nv a < pN → nv b < pN → AWqS Try.prog (fun _ => False) (flatC (bodyOf fn)) (FEnd' tt fn (nm (eF (X (dF a) (dF b))))) ⟨frame0 [f2 a b] fn.ntmps, []⟩) : (CallC.pure (qn X)).Ok Try.prog f := by
  intro args pre v e hp
  unfold qn at e
  split at e
  · rename_i a b
    cases e
    exact pure_walk' tt_ok hf hb hn (by rfl) (by rfl) (h a b (hp _ (by simp)) (hp _ (by simp)))
  · cases e
def GE : Ctx := ctxL [(57, .pure (el2 eAdd)), (58, .pure (el2 eSub)), (77, .pure (el1 eNeg)), (59, .pure cEMul)]
theorem GE_ok : CtxOk Try.prog GE := ctxL_cons okEAdd <| ctxL_cons okESub <| ctxL_cons okENeg <| ctxL_cons okEMul ctxL_nil

def add2x (a _ c _ : Fp) : Fp := a + c
def add2y (_ b _ d : Fp) : Fp := b + d
def sub2x (a _ c _ : Fp) : Fp := a - c
def sub2y (_ b _ d : Fp) : Fp := b - d
def mul2x (a b c d : Fp) : Fp := a * c - b * d
def mul2y (a b c d : Fp) : Fp := a * d + b * c
def neg2x (a _ : Fp) : Fp := 0 - a
def neg2y (_ b : Fp) : Fp := 0 - b
def cj2x (a _ : Fp) : Fp := a
def cj2y (_ b : Fp) : Fp := 0 - b
def sc2x (a _ n : Fp) : Fp := a * n
def sc2y (_ b n : Fp) : Fp := b * n
def nor2 (a b : Fp) : Fp := a * a + b * b

theorem okAdd2 : (CallC.pure (q2 add2x add2y)).Ok Try.prog 54 := by
  refine q2_ok Try.func54 (by kernel_rfl) (by kernel_rfl) fun a b c d ha hb hc hd => evS_q mixed tt_ok GE_ok 100 [] ?_
  refine same (p := nv a < pN ∧ nv c < pN ∧ nv b < pN ∧ nv d < pN ∧ endN (f2 (eF (eAdd (dF a) (dF c))) (eF (eAdd (dF b) (dF d)))) (f2 (eF (add2x (dF a) (dF b) (dF c) (dF d))) (eF (add2y (dF a) (dF b) (dF c) (dF d))))) ?_ (by kernel_rfl)
  exact ⟨ha, hc, hb, hd, endN_f2 (nvE (by (try simp only [dF_eF]); (try unfold eAdd); (try unfold eSub); (try unfold eNeg); (try unfold eMul); (try unfold add2x); (try unfold add2y); grind)) (nvE (by (try simp only [dF_eF]); (try unfold eAdd); (try unfold eSub); (try unfold eNeg); (try unfold eMul); (try unfold add2x); (try unfold add2y); grind))⟩
theorem okSub2 : (CallC.pure (q2 sub2x sub2y)).Ok Try.prog 53 := by
  refine q2_ok Try.func53 (by kernel_rfl) (by kernel_rfl) fun a b c d ha hb hc hd => evS_q mixed tt_ok GE_ok 100 [] ?_
  refine same (p := nv a < pN ∧ nv c < pN ∧ nv b < pN ∧ nv d < pN ∧ endN (f2 (eF (eSub (dF a) (dF c))) (eF (eSub (dF b) (dF d)))) (f2 (eF (sub2x (dF a) (dF b) (dF c) (dF d))) (eF (sub2y (dF a) (dF b) (dF c) (dF d))))) ?_ (by kernel_rfl)
  exact ⟨ha, hc, hb, hd, endN_f2 (nvE (by (try simp only [dF_eF]); (try unfold eAdd); (try unfold eSub); (try unfold eNeg); (try unfold eMul); (try unfold sub2x); (try unfold sub2y); grind)) (nvE (by (try simp only [dF_eF]); (try unfold eAdd); (try unfold eSub); (try unfold eNeg); (try unfold eMul); (try unfold sub2x); (try unfold sub2y); grind))⟩
theorem okNeg2 : (CallC.pure (q1 neg2x neg2y)).Ok Try.prog 92 := by
  refine q1_ok Try.func92 (by kernel_rfl) (by kernel_rfl) fun a b ha hb => evS_q mixed tt_ok GE_ok 100 [] ?_
  refine same (p := nv a < pN ∧ nv b < pN ∧ endN (f2 (eF (eNeg (dF a))) (eF (eNeg (dF b)))) (f2 (eF (neg2x (dF a) (dF b))) (eF (neg2y (dF a) (dF b))))) ?_ (by kernel_rfl)
  exact ⟨ha, hb, endN_f2 (nvE (by (try simp only [dF_eF]); (try unfold eAdd); (try unfold eSub); (try unfold eNeg); (try unfold eMul); (try unfold neg2x); (try unfold neg2y); grind)) (nvE (by (try simp only [dF_eF]); (try unfold eAdd); (try unfold eSub); (try unfold eNeg); (try unfold eMul); (try unfold neg2x); (try unfold neg2y); grind))⟩
theorem okConj2 : (CallC.pure (q1 cj2x cj2y)).Ok Try.prog 51 := by
  refine q1_ok Try.func51 (by kernel_rfl) (by kernel_rfl) fun a b ha hb => evS_q mixed tt_ok GE_ok 100 [] ?_
  refine same (p := nv b < pN ∧ endN (f2 a (eF (eNeg (dF b)))) (f2 (eF (cj2x (dF a) (dF b))) (eF (cj2y (dF a) (dF b))))) ?_ (by kernel_rfl)
  exact ⟨hb, endN_f2 ((eF_dF ha).symm) (nvE (by (try simp only [dF_eF]); (try unfold eAdd); (try unfold eSub); (try unfold eNeg); (try unfold eMul); (try unfold cj2x); (try unfold cj2y); grind))⟩
theorem okMul2 : (CallC.pure (q2 mul2x mul2y)).Ok Try.prog 50 := by
  refine q2_ok Try.func50 (by kernel_rfl) (by kernel_rfl) fun a b c d ha hb hc hd => evS_q mixed tt_ok GE_ok 100 [] ?_
  refine same (p := nv a < pN ∧ nv b < pN ∧ nv a < pN ∧ nv b < pN ∧ nv c < pN ∧ nv d < pN ∧ nv (eF (eAdd (dF a) (dF b))) < pN ∧ nv (eF (eMul (dF a) (dF c))) < pN ∧ nv (eF (eMul (dF b) (dF d))) < pN ∧ nv (eF (eMul (dF (eF (eAdd (dF a) (dF b)))) (dF (eF (eAdd (dF c) (dF d)))))) < pN ∧ nv (eF (eMul (dF a) (dF c))) < pN ∧ nv (eF (eSub (dF (eF (eMul (dF (eF (eAdd (dF a) (dF b)))) (dF (eF (eAdd (dF c) (dF d))))))) (dF (eF (eMul (dF a) (dF c)))))) < pN ∧ nv (eF (eMul (dF b) (dF d))) < pN ∧ endN (f2 (eF (eSub (dF (eF (eMul (dF a) (dF c)))) (dF (eF (eMul (dF b) (dF d)))))) (eF (eSub (dF (eF (eSub (dF (eF (eMul (dF (eF (eAdd (dF a) (dF b)))) (dF (eF (eAdd (dF c) (dF d))))))) (dF (eF (eMul (dF a) (dF c))))))) (dF (eF (eMul (dF b) (dF d))))))) (f2 (eF (mul2x (dF a) (dF b) (dF c) (dF d))) (eF (mul2y (dF a) (dF b) (dF c) (dF d))))) ?_ (by kernel_rfl)
  exact ⟨ha, hb, ha, hb, hc, hd, lt_eF _, lt_eF _, lt_eF _, lt_eF _, lt_eF _, lt_eF _, lt_eF _, endN_f2 (nvE (by (try simp only [dF_eF]); (try unfold eAdd); (try unfold eSub); (try unfold eNeg); (try unfold eMul); (try unfold mul2x); (try unfold mul2y); grind)) (nvE (by (try simp only [dF_eF]); (try unfold eAdd); (try unfold eSub); (try unfold eNeg); (try unfold eMul); (try unfold mul2x); (try unfold mul2y); grind))⟩
theorem okScale : (CallC.pure (qs sc2x sc2y)).Ok Try.prog 88 := by
  refine qs_ok Try.func88 (by kernel_rfl) (by kernel_rfl) fun a b c ha hb hc => evS_q mixed tt_ok GE_ok 100 [] ?_
  refine same (p := nv a < pN ∧ nv b < pN ∧ endN (f2 (eF (eMul (dF a) (dF c))) (eF (eMul (dF b) (dF c)))) (f2 (eF (sc2x (dF a) (dF b) (dF c))) (eF (sc2y (dF a) (dF b) (dF c))))) ?_ (by kernel_rfl)
  exact ⟨ha, hb, endN_f2 (nvE (by (try simp only [dF_eF]); (try unfold eAdd); (try unfold eSub); (try unfold eNeg); (try unfold eMul); (try unfold sc2x); (try unfold sc2y); grind)) (nvE (by (try simp only [dF_eF]); (try unfold eAdd); (try unfold eSub); (try unfold eNeg); (try unfold eMul); (try unfold sc2x); (try unfold sc2y); grind))⟩
theorem okNorm : (CallC.pure (qn nor2)).Ok Try.prog 89 := by
  refine qn_ok Try.func89 (by kernel_rfl) (by kernel_rfl) fun a b ha hb => evS_q mixed tt_ok GE_ok 100 [] ?_
  refine same (p := nv a < pN ∧ nv b < pN ∧ nv (eF (eMul (dF a) (dF a))) < pN ∧ nv (eF (eMul (dF b) (dF b))) < pN ∧ endN (nm (eF (eAdd (dF (eF (eMul (dF a) (dF a)))) (dF (eF (eMul (dF b) (dF b))))))) (nm (eF (nor2 (dF a) (dF b))))) ?_ (by kernel_rfl)
  exact ⟨ha, hb, lt_eF _, lt_eF _, endN_nm (nvE (by (try simp only [dF_eF]); (try unfold eAdd); (try unfold eSub); (try unfold eNeg); (try unfold eMul); (try unfold nor2); grind))⟩
end Go.Proofs.Ytnjocbcjejpklaa

/- Numbers of two parts: in, out, and what is told of them. Printed by gentow.py. -/
namespace Go.Proofs.Ytnjocbcjejpklaa
open Go.Rq Go
set_option maxRecDepth 100000

def gN (a : Nat → Nat) : Fp := ofN (nv a)
theorem gN_vF (z : Fp) : gN (vF z) = z := ofN_vF z
theorem nvV {x y : Fp} (h : x = y) : nv (vF x) = nv (vF y) := by rw [h]
def cTo2 : List AV → Option (List Prop × AV)
  | [.v1 (.agg [.ws .u64 6 a, .ws .u64 6 b])] => some ([], f2 (eF (gN a)) (eF (gN b)))
  | _ => none
def cFrom2 : List AV → Option (List Prop × AV)
  | [.v1 (.agg [.ws .u64 6 a, .ws .u64 6 b])] => some ([nv a < pN, nv b < pN], f2 (vF (dF a)) (vF (dF b)))
  | _ => none
def GTf : Ctx := ctxL [(42, .pure cTo), (47, .pure cFrom)]
theorem GTf_ok : CtxOk Try.prog GTf := ctxL_cons okTo <| ctxL_cons okFrom ctxL_nil
theorem okTo2 : (CallC.pure cTo2).Ok Try.prog 20 := by
  intro args pre v e _
  unfold cTo2 at e
  split at e
  · rename_i a b
    cases e
    refine pure_walk' tt_ok Try.func20 (by kernel_rfl) (by kernel_rfl) (by rfl) (by rfl) ?_
    refine evS_q mixed tt_ok GTf_ok 60 [] ?_
    exact same (p := endN (f2 (eF (ofN (nv a))) (eF (ofN (nv b)))) (f2 (eF (gN a)) (eF (gN b)))) (endN_f2 rfl rfl) (by kernel_rfl)
  · cases e
theorem okFrom2 : (CallC.pure cFrom2).Ok Try.prog 21 := by
  intro args pre v e hp
  unfold cFrom2 at e
  split at e
  · rename_i a b
    cases e
    have ha : nv a < pN := hp _ (by simp)
    have hb : nv b < pN := hp _ (by simp)
    refine pure_walk' tt_ok Try.func21 (by kernel_rfl) (by kernel_rfl) (by rfl) (by rfl) ?_
    refine evS_q mixed tt_ok GTf_ok 60 [] ?_
    exact same (p := nv a < pN ∧ nv b < pN ∧ endN (f2 (vF (dF a)) (vF (dF b))) (f2 (vF (dF a)) (vF (dF b)))) ⟨ha, hb, endN_f2 rfl rfl⟩ (by kernel_rfl)
  · cases e

/-! Inv2 -/
def inv2x (a b : Fp) : Fp := a * eInv (nor2 a b)
def inv2y (a b : Fp) : Fp := (0 - b) * eInv (nor2 a b)
def GI2 : Ctx := ctxL [(51, .pure (q1 cj2x cj2y)), (89, .pure (qn nor2)), (60, .pure (el1 eInv)), (88, .pure (qs sc2x sc2y))]
theorem GI2_ok : CtxOk Try.prog GI2 := ctxL_cons okConj2 <| ctxL_cons okNorm <| ctxL_cons okEInv <| ctxL_cons okScale ctxL_nil
theorem okMInv2 : (CallC.pure (q1 inv2x inv2y)).Ok Try.prog 67 := by
  refine q1_ok Try.func67 (by kernel_rfl) (by kernel_rfl) fun a b ha hb => evS_q mixed tt_ok GI2_ok 100 [] ?_
  refine same (p := nv a < pN ∧ nv b < pN ∧ nv a < pN ∧ nv b < pN ∧ nv (eF (nor2 (dF a) (dF b))) < pN ∧
    nv (eF (cj2x (dF a) (dF b))) < pN ∧ nv (eF (cj2y (dF a) (dF b))) < pN ∧ nv (eF (eInv (dF (eF (nor2 (dF a) (dF b)))))) < pN ∧
    endN (f2 (eF (sc2x (dF (eF (cj2x (dF a) (dF b)))) (dF (eF (cj2y (dF a) (dF b)))) (dF (eF (eInv (dF (eF (nor2 (dF a) (dF b)))))))))
      (eF (sc2y (dF (eF (cj2x (dF a) (dF b)))) (dF (eF (cj2y (dF a) (dF b)))) (dF (eF (eInv (dF (eF (nor2 (dF a) (dF b)))))))))) (f2 (eF (inv2x (dF a) (dF b))) (eF (inv2y (dF a) (dF b))))) ?_ (by kernel_rfl)
  refine ⟨ha, hb, ha, hb, lt_eF _, lt_eF _, lt_eF _, lt_eF _, endN_f2 (nvE ?_) (nvE ?_)⟩
  · rw [dF_eF, dF_eF, dF_eF, dF_eF]; rfl
  · rw [dF_eF, dF_eF, dF_eF, dF_eF]; rfl

/-! what the tower tells -/
def t1 (X Y : Fp → Fp → Fp) : List AV → Option (List Prop × AV)
  | [.v1 (.agg [.ws .u64 6 a, .ws .u64 6 b])] => some ([], f2 (vF (X (gN a) (gN b))) (vF (Y (gN a) (gN b))))
  | _ => none
def t2 (X Y : Fp → Fp → Fp → Fp → Fp) : List AV → Option (List Prop × AV)
  | [.v1 (.agg [.ws .u64 6 a, .ws .u64 6 b]), .v1 (.agg [.ws .u64 6 c, .ws .u64 6 d])] => some ([], f2 (vF (X (gN a) (gN b) (gN c) (gN d))) (vF (Y (gN a) (gN b) (gN c) (gN d))))
  | _ => none

def GTAdd2 : Ctx := ctxL [(20, .pure cTo2), (21, .pure cFrom2), (54, .pure (q2 add2x add2y))]
theorem GTAdd2_ok : CtxOk Try.prog GTAdd2 := ctxL_cons okTo2 <| ctxL_cons okFrom2 <| ctxL_cons okAdd2 ctxL_nil
def GTSub2 : Ctx := ctxL [(20, .pure cTo2), (21, .pure cFrom2), (53, .pure (q2 sub2x sub2y))]
theorem GTSub2_ok : CtxOk Try.prog GTSub2 := ctxL_cons okTo2 <| ctxL_cons okFrom2 <| ctxL_cons okSub2 ctxL_nil
def GTNeg2 : Ctx := ctxL [(20, .pure cTo2), (21, .pure cFrom2), (92, .pure (q1 neg2x neg2y))]
theorem GTNeg2_ok : CtxOk Try.prog GTNeg2 := ctxL_cons okTo2 <| ctxL_cons okFrom2 <| ctxL_cons okNeg2 ctxL_nil
def GTConj2 : Ctx := ctxL [(20, .pure cTo2), (21, .pure cFrom2), (51, .pure (q1 cj2x cj2y))]
theorem GTConj2_ok : CtxOk Try.prog GTConj2 := ctxL_cons okTo2 <| ctxL_cons okFrom2 <| ctxL_cons okConj2 ctxL_nil
def GTMul2 : Ctx := ctxL [(20, .pure cTo2), (21, .pure cFrom2), (50, .pure (q2 mul2x mul2y))]
theorem GTMul2_ok : CtxOk Try.prog GTMul2 := ctxL_cons okTo2 <| ctxL_cons okFrom2 <| ctxL_cons okMul2 ctxL_nil
end Go.Proofs.Ytnjocbcjejpklaa

/- Numbers of two parts: inverses, the root of an element, the lesser root. -/
namespace Go.Proofs.Ytnjocbcjejpklaa
open Go.Rq Go
set_option maxRecDepth 100000

theorem cmp_lt' (x y : Nat) : ilt (cmpI x y) 0 = Nat.blt x y := by
  unfold cmpI
  cases h : Nat.blt x y
  · cases Nat.blt y x <;> rfl
  · rfl
theorem cmp_eq' {x y : Nat} (h : Nat.blt x y = false) : ieq (cmpI x y) 0 = !Nat.blt y x := by
  unfold cmpI
  rw [h]
  cases Nat.blt y x <;> rfl
theorem nv_one : nv (wd (1 % W)) = 1 := by rw [nv_wd]; decide
theorem shift_two (N : Nat) : shiftN N (-2) = N / 4 := by show N / 2 ^ (1 + 1) = N / 4; rfl
theorem eqW_beq (f g : Nat → Nat) : (eqN W 6 f g && true) = Nat.beq (nv f) (nv g) := by
  rw [Bool.and_true]
  cases h : Nat.beq (nv f) (nv g)
  · rw [← Bool.not_eq_true, eqN_iff]
    intro e
    have := nv_congr e
    rw [← Nat.beq_eq, h] at this; cases this
  · rw [eqN_iff]
    intro i hi
    rw [Nat.beq_eq] at h
    rw [← wd_nv f i hi, ← wd_nv g i hi, h]
abbrev endP (a b : Nat → Nat) (i : Int) (v : AV) : Prop := endN (.tup [.agg [.ws .u64 6 a, .ws .u64 6 b], .sc (.it i)]) v
theorem endP_of {f g f' g' : Nat → Nat} {i j : Int} (h : nv f = nv f') (k : nv g = nv g') (e : i = j) : endP f g i (.tup [.agg [.ws .u64 6 f', .ws .u64 6 g'], .sc (.it j)]) := ⟨_, rfl, fun ρ => by
  have := f2_val h k ρ
  simp only [AV.val, V1.val] at this
  simp only [AV.val, List.map_cons, List.map_nil, V1.val, this, e]⟩

/-! Inv2 -/
def z2 (x y : Fp) : Bool := Nat.beq x.val 0 && Nat.beq y.val 0
theorem z2_iff (x y : Fp) : z2 x y = true ↔ x = 0 ∧ y = 0 := by
  unfold z2
  simp only [Bool.and_eq_true, Nat.beq_eq]
  constructor
  · intro ⟨h1, h2⟩; exact ⟨Fin.ext h1, Fin.ext h2⟩
  · intro ⟨h1, h2⟩; rw [h1, h2]; exact ⟨rfl, rfl⟩
theorem enc_zero : enc 0 = 0 := by
  have : enc (dec 0) = 0 := enc_dec pN_pos
  rwa [dec_zero] at this
theorem enc_ne {x : Fp} : Nat.beq (enc x) 0 = Nat.beq x.val 0 := by
  rw [Bool.eq_iff_iff, Nat.beq_eq, Nat.beq_eq]
  constructor
  · intro h
    have e := dec_enc x
    rw [h, dec_zero] at e
    rw [← e]; rfl
  · intro h
    have e : x = 0 := Fin.ext h
    rw [e, enc_zero]
def iE (x y : Fp) : Int := bif z2 x y then 6 else 0
def iX (x y : Fp) : Fp := bif z2 x y then 0 else inv2x x y
def iY (x y : Fp) : Fp := bif z2 x y then 0 else inv2y x y
def cTInv2 : List AV → Option (List Prop × AV)
  | [.v1 (.agg [.ws .u64 6 a, .ws .u64 6 b])] => some ([], .tup [.agg [.ws .u64 6 (vF (iX (gN a) (gN b))), .ws .u64 6 (vF (iY (gN a) (gN b)))], .sc (.it (iE (gN a) (gN b)))])
  | _ => none
def GTi : Ctx := ctxL [(20, .pure cTo2), (21, .pure cFrom2), (67, .pure (q1 inv2x inv2y))]
theorem GTi_ok : CtxOk Try.prog GTi := ctxL_cons okTo2 <| ctxL_cons okFrom2 <| ctxL_cons okMInv2 ctxL_nil
theorem zero_vF : nv (fun _ => 0) = nv (vF 0) := by rw [zero_nv, nv_vF]; rfl
/-! root -/
def rtC (x : Fp) : Fp := ePow x ((pN + 1) / 4)
def rtOk (x : Fp) : Bool := Nat.beq (enc (rtC x * rtC x)) (enc x)
theorem rtOk_iff (x : Fp) : rtOk x = true ↔ rtC x * rtC x = x := by
  unfold rtOk
  rw [Nat.beq_eq]
  constructor
  · intro h
    have := congrArg dec h
    rwa [dec_enc, dec_enc] at this
  · intro h; rw [h]
def cRt : List AV → Option (List Prop × AV)
  | [.v1 (.agg [.ws .u64 6 a])] => some ([nv a < pN], .tup [.agg [.ws .u64 6 (eF (rtC (dF a)))], .sc (.bo (rtOk (dF a)))])
  | _ => none
theorem okBase : (CallC.pure (cK primeF)).Ok Try.prog 79 :=
  cK_ok Try.func79 (by kernel_rfl) (by kernel_rfl) (same (p := some (nm primeF) = some (nm primeF)) rfl (by kernel_rfl))
def GRt : Ctx := ctxL [(79, .pure (cK primeF)), (15, .pure cOf), (85, .pure cEPow), (59, .pure cEMul)]
theorem GRt_ok : CtxOk Try.prog GRt := ctxL_cons okBase <| ctxL_cons okOf <| ctxL_cons okEPow <| ctxL_cons okEMul ctxL_nil
abbrev rtE : Nat → Nat := wd (shiftN (nv (wd ((nv primeF + nv (wd (1 % W))) % R))) (-2) % R)
theorem nv_rtE : nv rtE = (pN + 1) / 4 := by
  have hs := pN_small
  have hp := pN_pos
  have h1 := pN_pr.1
  unfold rtE
  rw [nv_one, nv_prime, shift_two, nv_wd, nv_wd, Nat.mod_mod, Nat.mod_mod, Nat.mod_eq_of_lt (show pN + 1 < R by omega), Nat.mod_eq_of_lt (show (pN + 1) / 4 < R by omega)]
/-! lesser -/
def lsB (x y : Fp) : Bool := bif Nat.blt (0 - y).val y.val then true else bif Nat.blt y.val (0 - y).val then false else Nat.blt (0 - x).val x.val
def lsX (x y : Fp) : Fp := bif lsB x y then 0 - x else x
def lsY (x y : Fp) : Fp := bif lsB x y then 0 - y else y
def cLs : List AV → Option (List Prop × AV)
  | [.v1 (.agg [.ws .u64 6 a, .ws .u64 6 b])] => some ([nv a < pN, nv b < pN], f2 (vF (lsX (dF a) (dF b))) (vF (lsY (dF a) (dF b))))
  | _ => none
def GLs2 : Ctx := ctxL [(21, .pure cFrom2), (92, .pure (q1 neg2x neg2y)), (78, .pure cCmp)]
theorem GLs2_ok : CtxOk Try.prog GLs2 := ctxL_cons okFrom2 <| ctxL_cons okNeg2 <| ctxL_cons okCmp ctxL_nil
abbrev ngX (a b : Nat → Nat) : Nat → Nat := vF (dF (eF (neg2x (dF a) (dF b))))
abbrev ngY (a b : Nat → Nat) : Nat → Nat := vF (dF (eF (neg2y (dF a) (dF b))))
end Go.Proofs.Ytnjocbcjejpklaa

/- The root of a number of two parts. Printed by genroot2.py. -/
namespace Go.Proofs.Ytnjocbcjejpklaa
open Go.Rq Go
set_option maxRecDepth 100000

structure R3 where
  x : Fp
  y : Fp
  e : Int
def hf : Fp := eInv (1 + 1)
def r2x (a s : Fp) : Fp := rtC ((a + s) * hf)
def r2k (a s : Fp) : Bool := rtOk ((a + s) * hf)
def r2y (b x : Fp) : Fp := b * eInv (x + x)
def r2l (x y : Fp) : R3 := ⟨lsX x y, lsY x y, 0⟩
theorem r2l_x (x y : Fp) : (r2l x y).x = lsX x y := rfl
theorem r2l_y (x y : Fp) : (r2l x y).y = lsY x y := rfl
theorem r2l_e (x y : Fp) : (r2l x y).e = 0 := rfl
def r2n : R3 := ⟨0, 0, 6⟩
def r2s (a b s : Fp) : R3 := bif r2k a s then r2l (r2x a s) (r2y b (r2x a s)) else bif r2k a (0 - s) then r2l (r2x a (0 - s)) (r2y b (r2x a (0 - s))) else r2n
def r2 (a b : Fp) : R3 := bif Nat.beq b.val 0 then (bif rtOk a then r2l (rtC a) 0 else r2l 0 (rtC (0 - a))) else bif rtOk (nor2 a b) then r2s a b (rtC (nor2 a b)) else r2n
def rvX (a b : Fp) : Fp := (r2 a b).x
def rvY (a b : Fp) : Fp := (r2 a b).y
def rvE (a b : Fp) : Int := (r2 a b).e
def cTRoot2 : List AV → Option (List Prop × AV)
  | [.v1 (.agg [.ws .u64 6 a, .ws .u64 6 b])] => some ([], .tup [.agg [.ws .u64 6 (vF (rvX (gN a) (gN b))), .ws .u64 6 (vF (rvY (gN a) (gN b)))], .sc (.it (rvE (gN a) (gN b)))])
  | _ => none
def GRo : Ctx := ctxL [(20, .pure cTo2), (77, .pure (el1 eNeg)), (89, .pure (qn nor2)), (61, .pure (cK oneF)), (57, .pure (el2 eAdd)), (60, .pure (el1 eInv)), (59, .pure cEMul)]
theorem GRo_ok : CtxOk Try.prog GRo := ctxL_cons okTo2 <| ctxL_cons okENeg <| ctxL_cons okNorm <| ctxL_cons okOne0 <| ctxL_cons okEAdd <| ctxL_cons okEInv <| ctxL_cons okEMul ctxL_nil
abbrev rA (a : Nat → Nat) : Nat → Nat := eF (gN a)
abbrev rN (a b : Nat → Nat) : Nat → Nat := eF (nor2 (dF (rA a)) (dF (rA b)))
abbrev rS (a b : Nat → Nat) : Nat → Nat := eF (rtC (dF (rN a b)))
abbrev rG (s : Nat → Nat) : Nat → Nat := eF (eNeg (dF s))
abbrev rT : Nat → Nat := eF (eAdd (dF oneF) (dF oneF))
abbrev rH : Nat → Nat := eF (eInv (dF rT))
abbrev rP (a s : Nat → Nat) : Nat → Nat := eF (eAdd (dF (rA a)) (dF s))
abbrev rQ (a s : Nat → Nat) : Nat → Nat := eF (eMul (dF (rP a s)) (dF rH))
abbrev rX (a s : Nat → Nat) : Nat → Nat := eF (rtC (dF (rQ a s)))
abbrev rD (x : Nat → Nat) : Nat → Nat := eF (eAdd (dF x) (dF x))
abbrev rV (x : Nat → Nat) : Nat → Nat := eF (eInv (dF (rD x)))
abbrev rY (b x : Nat → Nat) : Nat → Nat := eF (eMul (dF (rA b)) (dF (rV x)))
theorem dF_one : dF oneF = 1 := by unfold dF; rw [one_enc, dec_enc]
theorem dF_zero : dF (fun _ => 0) = 0 := by unfold dF; rw [zero_nv, dec_zero]
theorem dF_rS (a b : Nat → Nat) : dF (rS a b) = rtC (nor2 (gN a) (gN b)) := by rw [dF_eF, dF_eF, dF_eF, dF_eF]
theorem dF_rG (s : Nat → Nat) : dF (rG s) = 0 - dF s := by rw [dF_eF]; rfl
theorem dF_rQ (a s : Nat → Nat) : dF (rQ a s) = (gN a + dF s) * hf := by
  rw [dF_eF, dF_eF, dF_eF, dF_eF, dF_eF, dF_one]; rfl
theorem dF_rX (a s : Nat → Nat) : dF (rX a s) = r2x (gN a) (dF s) := by rw [dF_eF, dF_rQ]; rfl
theorem dF_rY (b x : Nat → Nat) : dF (rY b x) = r2y (gN b) (dF x) := by
  rw [dF_eF, dF_eF, dF_eF, dF_eF]; rfl
theorem endR {a b x y : Nat → Nat} {i : Int} {r : R3} (hr : r2 (gN a) (gN b) = r) (h : nv x = nv (vF r.x) ∧ nv y = nv (vF r.y)) (k : i = r.e) :
    endP x y i (.tup [.agg [.ws .u64 6 (vF (rvX (gN a) (gN b))), .ws .u64 6 (vF (rvY (gN a) (gN b)))], .sc (.it (rvE (gN a) (gN b)))]) := by
  unfold rvX rvY rvE
  rw [hr]
  exact endP_of h.1 h.2 k
end Go.Proofs.Ytnjocbcjejpklaa

/- Numbers of three parts. Printed by gensix.py. -/
namespace Go.Proofs.Ytnjocbcjejpklaa
open Go.Rq Go
set_option maxRecDepth 100000

abbrev v6 (a b c d e f : Nat → Nat) : V1 := .agg [.ws .u64 6 a, .ws .u64 6 b, .ws .u64 6 c, .ws .u64 6 d, .ws .u64 6 e, .ws .u64 6 f]
abbrev d6 (a b c d e f : Nat → Nat) : S6 := ⟨⟨dF a, dF b⟩, ⟨dF c, dF d⟩, ⟨dF e, dF f⟩⟩
abbrev e6 (s : S6) : V1 := v6 (eF s.u.x) (eF s.u.y) (eF s.v.x) (eF s.v.y) (eF s.w.x) (eF s.w.y)
theorem ws_cell {f g : Nat → Nat} (ρ : Ren) (h : nv f = nv g) : (Cell.ws .u64 6 f).vals ρ = (Cell.ws .u64 6 g).vals ρ := by
  simp only [Cell.vals]
  refine List.map_congr_left fun j hj => ?_
  have hj' := List.mem_range.1 hj
  have e : f j % W = g j % W := by rw [← wd_nv f j hj', ← wd_nv g j hj', h]
  simp only [W] at e
  simp only [M, e]
theorem v6_val {a b c d e f a' b' c' d' e' f' : Nat → Nat} (h0 : nv a = nv a') (h1 : nv b = nv b') (h2 : nv c = nv c') (h3 : nv d = nv d') (h4 : nv e = nv e') (h5 : nv f = nv f') (ρ : Ren) : (v6 a b c d e f).val ρ = (v6 a' b' c' d' e' f').val ρ := by
  show Value.agg (cvals ρ _).toArray = Value.agg (cvals ρ _).toArray
  simp only [cvals]
  rw [ws_cell ρ h0, ws_cell ρ h1, ws_cell ρ h2, ws_cell ρ h3, ws_cell ρ h4, ws_cell ρ h5]
theorem endN_6 {a b c d e f a' b' c' d' e' f' : Nat → Nat} (h0 : nv a = nv a') (h1 : nv b = nv b') (h2 : nv c = nv c') (h3 : nv d = nv d') (h4 : nv e = nv e') (h5 : nv f = nv f') : endN (.v1 (v6 a b c d e f)) (.v1 (v6 a' b' c' d' e' f')) := ⟨_, rfl, v6_val h0 h1 h2 h3 h4 h5⟩

def k61 (F : S6 → S6) : List AV → Option (List Prop × AV)
  | [.v1 (.agg [.ws .u64 6 a0, .ws .u64 6 a1, .ws .u64 6 a2, .ws .u64 6 a3, .ws .u64 6 a4, .ws .u64 6 a5])] => some ([nv a0 < pN, nv a1 < pN, nv a2 < pN, nv a3 < pN, nv a4 < pN, nv a5 < pN], .v1 (e6 (F (d6 a0 a1 a2 a3 a4 a5))))
  | _ => none
def k62 (F : S6 → S6 → S6) : List AV → Option (List Prop × AV)
  | [.v1 (.agg [.ws .u64 6 a0, .ws .u64 6 a1, .ws .u64 6 a2, .ws .u64 6 a3, .ws .u64 6 a4, .ws .u64 6 a5]), .v1 (.agg [.ws .u64 6 b0, .ws .u64 6 b1, .ws .u64 6 b2, .ws .u64 6 b3, .ws .u64 6 b4, .ws .u64 6 b5])] => some ([nv a0 < pN, nv a1 < pN, nv a2 < pN, nv a3 < pN, nv a4 < pN, nv a5 < pN, nv b0 < pN, nv b1 < pN, nv b2 < pN, nv b3 < pN, nv b4 < pN, nv b5 < pN], .v1 (e6 (F (d6 a0 a1 a2 a3 a4 a5) (d6 b0 b1 b2 b3 b4 b5))))
  | _ => none
theorem k61_ok {F : S6 → S6} {f : FuncId} {fn : Func} (hf : Try.prog.funcs[f]? = some fn) (hb : fn.body = some (bodyOf fn)) (hn : (fn.name == "runtime.NumGoroutine") = false)
    (h : ∀ a0 a1 a2 a3 a4 a5 : Nat → Nat, nv a0 < pN → nv a1 < pN → nv a2 < pN → nv a3 < pN → nv a4 < pN → nv a5 < pN → AWqS Try.prog (fun _ => False) (flatC (bodyOf fn)) (FEnd' tt fn (.v1 (e6 (F (d6 a0 a1 a2 a3 a4 a5))))) ⟨frame0 [.v1 (v6 a0 a1 a2 a3 a4 a5)] fn.ntmps, []⟩) : (CallC.pure (k61 F)).Ok Try.prog f := by
  intro args pre v e hp
  unfold k61 at e
  split at e
  · rename_i a0 a1 a2 a3 a4 a5
    cases e
    exact pure_walk' tt_ok hf hb hn (by rfl) (by rfl) (h a0 a1 a2 a3 a4 a5 (hp _ (by simp)) (hp _ (by simp)) (hp _ (by simp)) (hp _ (by simp)) (hp _ (by simp)) (hp _ (by simp)))
  · cases e
theorem k62_ok {F : S6 → S6 → S6} {f : FuncId} {fn : Func} (hf : Try.prog.funcs[f]? = some fn) (hb : fn.body = some (bodyOf fn)) (hn : (fn.name == "runtime.NumGoroutine") = false)
    (h : ∀ a0 a1 a2 a3 a4 a5 b0 b1 b2 b3 b4 b5 : Nat → Nat, nv a0 < pN → nv a1 < pN → nv a2 < pN → nv a3 < pN → nv a4 < pN → nv a5 < pN → nv b0 < pN → nv b1 < pN → nv b2 < pN → nv b3 < pN → nv b4 < pN → nv b5 < pN → AWqS Try.prog (fun _ => False) (flatC (bodyOf fn)) (FEnd' tt fn (.v1 (e6 (F (d6 a0 a1 a2 a3 a4 a5) (d6 b0 b1 b2 b3 b4 b5))))) ⟨frame0 [.v1 (v6 a0 a1 a2 a3 a4 a5), .v1 (v6 b0 b1 b2 b3 b4 b5)] fn.ntmps, []⟩) : (CallC.pure (k62 F)).Ok Try.prog f := by
  intro args pre v e hp
  unfold k62 at e
  split at e
  · rename_i a0 a1 a2 a3 a4 a5 b0 b1 b2 b3 b4 b5
    cases e
    exact pure_walk' tt_ok hf hb hn (by rfl) (by rfl) (h a0 a1 a2 a3 a4 a5 b0 b1 b2 b3 b4 b5 (hp _ (by simp)) (hp _ (by simp)) (hp _ (by simp)) (hp _ (by simp)) (hp _ (by simp)) (hp _ (by simp)) (hp _ (by simp)) (hp _ (by simp)) (hp _ (by simp)) (hp _ (by simp)) (hp _ (by simp)) (hp _ (by simp)))
  · cases e
def upx (a b : Fp) : Fp := a - b
def upy (a b : Fp) : Fp := a + b
theorem okUp : (CallC.pure (q1 upx upy)).Ok Try.prog 55 := by
  refine q1_ok Try.func55 (by kernel_rfl) (by kernel_rfl) fun a b ha hb => evS_q mixed tt_ok GE_ok 100 [] ?_
  refine same (p := nv a < pN ∧ nv b < pN ∧ nv a < pN ∧ nv b < pN ∧ endN (f2 (eF (eSub (dF a) (dF b))) (eF (eAdd (dF a) (dF b)))) (f2 (eF (upx (dF a) (dF b))) (eF (upy (dF a) (dF b))))) ?_ (by kernel_rfl)
  exact ⟨ha, hb, ha, hb, endN_f2 rfl rfl⟩
def GSx : Ctx := ctxL [(54, .pure (q2 add2x add2y)), (53, .pure (q2 sub2x sub2y)), (55, .pure (q1 upx upy))]
theorem GSx_ok : CtxOk Try.prog GSx := ctxL_cons okAdd2 <| ctxL_cons okSub2 <| ctxL_cons okUp ctxL_nil
theorem okSadd : (CallC.pure (k62 S6.add)).Ok Try.prog 29 := by
  refine k62_ok Try.func29 (by kernel_rfl) (by kernel_rfl) fun a0 a1 a2 a3 a4 a5 b0 b1 b2 b3 b4 b5 ha0 ha1 ha2 ha3 ha4 ha5 hb0 hb1 hb2 hb3 hb4 hb5 => evS_q mixed tt_ok GSx_ok 100 [] ?_
  refine same (p := nv a0 < pN ∧ nv a1 < pN ∧ nv b0 < pN ∧ nv b1 < pN ∧ nv a2 < pN ∧ nv a3 < pN ∧ nv b2 < pN ∧ nv b3 < pN ∧ nv a4 < pN ∧ nv a5 < pN ∧ nv b4 < pN ∧ nv b5 < pN ∧ endN (.v1 (v6 (eF (add2x (dF a0) (dF a1) (dF b0) (dF b1))) (eF (add2y (dF a0) (dF a1) (dF b0) (dF b1))) (eF (add2x (dF a2) (dF a3) (dF b2) (dF b3))) (eF (add2y (dF a2) (dF a3) (dF b2) (dF b3))) (eF (add2x (dF a4) (dF a5) (dF b4) (dF b5))) (eF (add2y (dF a4) (dF a5) (dF b4) (dF b5))))) (.v1 (e6 (S6.add (d6 a0 a1 a2 a3 a4 a5) (d6 b0 b1 b2 b3 b4 b5))))) ?_ (by kernel_rfl)
  exact ⟨ha0, ha1, hb0, hb1, ha2, ha3, hb2, hb3, ha4, ha5, hb4, hb5, endN_6 rfl rfl rfl rfl rfl rfl⟩
theorem okSsub : (CallC.pure (k62 S6.sub)).Ok Try.prog 32 := by
  refine k62_ok Try.func32 (by kernel_rfl) (by kernel_rfl) fun a0 a1 a2 a3 a4 a5 b0 b1 b2 b3 b4 b5 ha0 ha1 ha2 ha3 ha4 ha5 hb0 hb1 hb2 hb3 hb4 hb5 => evS_q mixed tt_ok GSx_ok 100 [] ?_
  refine same (p := nv a0 < pN ∧ nv a1 < pN ∧ nv b0 < pN ∧ nv b1 < pN ∧ nv a2 < pN ∧ nv a3 < pN ∧ nv b2 < pN ∧ nv b3 < pN ∧ nv a4 < pN ∧ nv a5 < pN ∧ nv b4 < pN ∧ nv b5 < pN ∧ endN (.v1 (v6 (eF (sub2x (dF a0) (dF a1) (dF b0) (dF b1))) (eF (sub2y (dF a0) (dF a1) (dF b0) (dF b1))) (eF (sub2x (dF a2) (dF a3) (dF b2) (dF b3))) (eF (sub2y (dF a2) (dF a3) (dF b2) (dF b3))) (eF (sub2x (dF a4) (dF a5) (dF b4) (dF b5))) (eF (sub2y (dF a4) (dF a5) (dF b4) (dF b5))))) (.v1 (e6 (S6.sub (d6 a0 a1 a2 a3 a4 a5) (d6 b0 b1 b2 b3 b4 b5))))) ?_ (by kernel_rfl)
  exact ⟨ha0, ha1, hb0, hb1, ha2, ha3, hb2, hb3, ha4, ha5, hb4, hb5, endN_6 rfl rfl rfl rfl rfl rfl⟩
theorem okSnext : (CallC.pure (k61 S6.next)).Ok Try.prog 31 := by
  refine k61_ok Try.func31 (by kernel_rfl) (by kernel_rfl) fun a0 a1 a2 a3 a4 a5 ha0 ha1 ha2 ha3 ha4 ha5 => evS_q mixed tt_ok GSx_ok 100 [] ?_
  refine same (p := nv a4 < pN ∧ nv a5 < pN ∧ endN (.v1 (v6 (eF (upx (dF a4) (dF a5))) (eF (upy (dF a4) (dF a5))) a0 a1 a2 a3)) (.v1 (e6 (S6.next (d6 a0 a1 a2 a3 a4 a5))))) ?_ (by kernel_rfl)
  exact ⟨ha4, ha5, endN_6 rfl rfl (eF_dF ha0).symm (eF_dF ha1).symm (eF_dF ha2).symm (eF_dF ha3).symm⟩
end Go.Proofs.Ytnjocbcjejpklaa
