/- Texts of the proof, joined. -/
import Derived.Test.YtnjocbcjejpklaaGreatZtC
import Init.Data.Dyadic
set_option linter.all false
namespace Go.Proofs.YtnjocbcjejpklaaGreat
open Go.Rq Go
set_option maxRecDepth 100000
abbrev nm (a:Nat->Nat):AV:=.v1 (.agg [.ws .u64 6 a])
abbrev endN (u v:AV):Prop:=∃ v',some u = some v'/\∀ ρ,v'.val ρ = v.val ρ
theorem nm_val {f g:Nat->Nat} (h:nv f = nv g) (ρ:Ren):(nm f).val ρ = (nm g).val ρ:=by
 have h1:=numA_val (f:=f) (n:=nv f) (by rw [Nat.mod_eq_of_lt (nv_lt f)]) ρ
 have h2:=numA_val (f:=g) (n:=nv g) (by rw [Nat.mod_eq_of_lt (nv_lt g)]) ρ
 rw [h1,h2,h]
theorem endN_nm {f g:Nat->Nat} (e:nv f = nv g):endN (nm f) (nm g):=⟨_,rfl,nm_val e⟩
abbrev nbE (f:Nat->Nat):Option Blk:=some ⟨67,[.ws .u64 6 f],0,0⟩
def eF (z:Fp):Nat->Nat:=wd (enc z)
def dF (a:Nat->Nat):Fp:=dec (nv a)
theorem nv_eF (z:Fp):nv (eF z) = enc z:=by
 unfold eF
 rw [nv_wd,Nat.mod_eq_of_lt (Nat.lt_trans (enc_lt z) pN_lt)]
theorem qE (z:Fp):dF (eF z) = z:=by unfold dF;rw [nv_eF,dec_enc]
theorem lE (z:Fp):nv (eF z) < pN:=by rw [nv_eF];exact enc_lt z
theorem eF_dF {a:Nat->Nat} (h:nv a < pN):nv (eF (dF a)) = nv a:=by
 rw [nv_eF];exact enc_dec h
def cK (f:Nat->Nat):List AV->Option (List Prop × AV)
 | []=>some ([],nm f)
 | _=>none
theorem cK_ok {f:Nat->Nat} {n:FuncId} {fn:Func} (hf:Tryz.prog.funcs[n]? = some fn) (hb:fn.body = some (bodyOf fn)) (hn:(fn.name == "runtime.NumGoroutine") = false)
  (h:ev Tryz.prog tt (ctxL []) 60 (bodyOf fn) (fun e s' _=>FEnd tt fn (nm f) e s') ⟨frame0 [] fn.ntmps,[]⟩ []):(CallC.pure (cK f)).Ok Tryz.prog n:=by
 intro args pre v e _
 unfold cK at e
 split at e
 ·cases e
  exact pure_fn mxd tK G0_ok hf hb hn (by rfl) (by rfl) 60 [] h
 ·cases e
def prF:Nat->Nat:=upd (upd (upd (upd (upd (upd (fun _=>0) 0 0xb9feffffffffaaab) 1 0x1eabfffeb153ffff) 2 0x6730d2a0f6b0f624) 3 0x64774b84f38512bf) 4 0x4b1ba7b6434bacd7) 5 0x1a0111ea397fe69a
def oneF:Nat->Nat:=upd (upd (upd (upd (upd (upd (fun _=>0) 0 0x760900000002fffd) 1 0xebf4000bc40c0002) 2 0x5f48985753c758ba) 3 0x77ce585370525745) 4 0x5c071a97a256ec6d) 5 0x15f65ec3fa80e493
def wideF:Nat->Nat:=upd (upd (upd (upd (upd (upd (fun _=>0) 0 0xf4df1f341c341746) 1 0x0a76e6a609d104f1) 2 0x8de5476c4c95b6d5) 3 0x67eb88a9939d83c0) 4 0x9a793e85b519952d) 5 0x11988fe592cae3aa
theorem nv_prime:nv prF = pN:=by kernel_rfl
theorem nv_one':nv oneF = R % pN:=by kernel_rfl
theorem nv_wide:nv wideF = R * R % pN:=by kernel_rfl
theorem okPrime:(CallC.pure (cK prF)).Ok Tryz.prog 160 :=
 cK_ok Tryz.func160 (by kernel_rfl) (by kernel_rfl) (same (p:=some (nm prF) = some (nm prF)) rfl (by kernel_rfl))
theorem okOne0:(CallC.pure (cK oneF)).Ok Tryz.prog 104 :=
 cK_ok Tryz.func104 (by kernel_rfl) (by kernel_rfl) (same (p:=some (nm oneF) = some (nm oneF)) rfl (by kernel_rfl))
theorem okWide0:(CallC.pure (cK wideF)).Ok Tryz.prog 162 :=
 cK_ok Tryz.func162 (by kernel_rfl) (by kernel_rfl) (same (p:=some (nm wideF) = some (nm wideF)) rfl (by kernel_rfl))
theorem one_enc:nv oneF = enc 1:=by
 rw [nv_one']
 refine enc_of (Nat.mod_lt _ pN_pos) ?_
 rw [ofN_mod]
 show rr = 1 * rr
 grind
def el1 (F:Fp->Fp):List AV->Option (List Prop × AV)
 | [.v1 (.agg [.ws .u64 6 a])]=>some ([nv a < pN],nm (eF (F (dF a))))
 | _=>none
def el2 (F:Fp->Fp->Fp):List AV->Option (List Prop × AV)
 | [.v1 (.agg [.ws .u64 6 a]),.v1 (.agg [.ws .u64 6 b])]=>some ([nv a < pN,nv b < pN],nm (eF (F (dF a) (dF b))))
 | _=>none
theorem el1_ok {F:Fp->Fp} {f:FuncId} {fn:Func} (hf:Tryz.prog.funcs[f]? = some fn) (hb:fn.body = some (bodyOf fn)) (hn:(fn.name == "runtime.NumGoroutine") = false)
  (h:∀ a:Nat->Nat,nv a < pN->AWqS Tryz.prog (fun _=>False) (flatC (bodyOf fn)) (FEnd' tt fn (nm (eF (F (dF a))))) ⟨frame0 [nm a] fn.ntmps,[]⟩):(CallC.pure (el1 F)).Ok Tryz.prog f:=by
 intro args pre v e hp
 unfold el1 at e
 split at e
 ·rename_i a
  cases e
  exact pWk tK hf hb hn (by rfl) (by rfl) (h a (hp _ (List.mem_cons_self ..)))
 ·cases e
theorem el2_ok {F:Fp->Fp->Fp} {f:FuncId} {fn:Func} (hf:Tryz.prog.funcs[f]? = some fn) (hb:fn.body = some (bodyOf fn)) (hn:(fn.name == "runtime.NumGoroutine") = false)
  (h:∀ a b:Nat->Nat,nv a < pN->nv b < pN->AWqS Tryz.prog (fun _=>False) (flatC (bodyOf fn)) (FEnd' tt fn (nm (eF (F (dF a) (dF b))))) ⟨frame0 [nm a,nm b] fn.ntmps,[]⟩):(CallC.pure (el2 F)).Ok Tryz.prog f:=by
 intro args pre v e hp
 unfold el2 at e
 split at e
 ·rename_i a b
  cases e
  exact pWk tK hf hb hn (by rfl) (by rfl) (h a b (hp _ (by simp)) (hp _ (by simp)))
 ·cases e
def eAdd (x y:Fp):Fp:=x + y
def eSub (x y:Fp):Fp:=x - y
def eNeg (x:Fp):Fp:=0 - x
def eMul (x y:Fp):Fp:=x * y
def cLess:List AV->Option (List Prop × AV)
 | [.v1 (.agg [.ws .u64 6 a])]=>some ([],numA (lessV pN (nv a)))
 | _=>none
def GLe:Ctx:=ctxL [(160,.pure (cK prF)),(159,.pure cSub64),(62,.pure cAdd64)]
theorem GLe_ok:CtxOk Tryz.prog GLe:=cxC okPrime <| cxC okSub64 <| cxC okAdd64 cxN
theorem okLess:(CallC.pure cLess).Ok Tryz.prog 158:=by
 intro args pre v e _
 unfold cLess at e
 split at e
 ·rename_i a
  cases e
  refine pWk tK Tryz.func158 (by kernel_rfl) (by kernel_rfl) (by rfl) (by rfl) ?_
  have ha:=nv_lt a
  have hd:=sub_diff a prF
  rw [nv_prime] at hd
  cases hb:Nat.blt (nv a) pN
  ·have hb':¬ nv a < pN:=by rw [<-Nat.blt_eq,hb];simp
   rw [hb] at hd
   have hl:lessV pN (nv a) = (nv a + R - pN) % R:=by
    unfold lessV
    have:Nat.ble pN (nv a) = true:=by rw [Nat.ble_eq];omega
    rw [this,cond_true]
    exact less_gen (by omega) ha
   refine eSq mxd tK GLe_ok 100 [⟨9,1,.lit (.bo false)⟩] ?_
   refine same (p:=subC a prF 0 % W <= 1/\subC a prF 1 % W <= 1/\subC a prF 2 % W <= 1/\subC a prF 3 % W <= 1/\subC a prF 4 % W <= 1/\subC a prF 5 % W <= 1 /\
    Nat.beq (subC a prF 6 % W) (1 % W) = false/\endN (nm (subO a prF 6)) (numA (lessV pN (nv a)))) ?_ (by kernel_rfl)
   exact ⟨subC_le' _ _ 0,subC_le' _ _ 1,subC_le' _ _ 2,subC_le' _ _ 3,subC_le' _ _ 4,subC_le' _ _ 5,hd.2,_,rfl,fun ρ=>numA_val (by rw [hl,hd.1,Nat.mod_mod]) ρ⟩
  ·have hb':nv a < pN:=by rw [<-Nat.blt_eq,hb]
   rw [hb] at hd
   have hl:lessV pN (nv a) = nv a:=by
    unfold lessV
    have:Nat.ble pN (nv a) = false:=by rw [<-Bool.not_eq_true,Nat.ble_eq];omega
    rw [this,cond_false]
   refine eSq mxd tK GLe_ok 100 [⟨9,1,.lit (.bo true)⟩] ?_
   refine same (p:=subC a prF 0 % W <= 1/\subC a prF 1 % W <= 1/\subC a prF 2 % W <= 1/\subC a prF 3 % W <= 1/\subC a prF 4 % W <= 1/\subC a prF 5 % W <= 1 /\
    Nat.beq (subC a prF 6 % W) (1 % W) = true/\endN (nm a) (numA (lessV pN (nv a)))) ?_ (by kernel_rfl)
   exact ⟨subC_le' _ _ 0,subC_le' _ _ 1,subC_le' _ _ 2,subC_le' _ _ 3,subC_le' _ _ 4,subC_le' _ _ 5,hd.2,_,rfl,fun ρ=>numA_val (by rw [hl,Nat.mod_eq_of_lt ha]) ρ⟩
 ·cases e
def GAe:Ctx:=ctxL [(158,.pure cLess),(62,.pure cAdd64)]
theorem GAe_ok:CtxOk Tryz.prog GAe:=cxC okLess <| cxC okAdd64 cxN
theorem okEAdd:(CallC.pure (el2 eAdd)).Ok Tryz.prog 100:=by
 refine el2_ok Tryz.func100 (by kernel_rfl) (by kernel_rfl) fun a b ha hb=>eSq mxd tK GAe_ok 100 [] ?_
 refine same (p:=addC a b 0 % W <= 1/\addC a b 1 % W <= 1/\addC a b 2 % W <= 1/\addC a b 3 % W <= 1/\addC a b 4 % W <= 1/\addC a b 5 % W <= 1/\endN (numA (lessV pN (nv (addO a b 6)))) (nm (eF (eAdd (dF a) (dF b))))) ?_ (by kernel_rfl)
 refine ⟨addC_le' a b 0,addC_le' a b 1,addC_le' a b 2,addC_le' a b 3,addC_le' a b 4,addC_le' a b 5,endN_nm ?_⟩
 have hs:=pN_small
 have e:lessV pN (nv (addO a b 6)) = enc (eAdd (dF a) (dF b)):=by
  rw [(add_sum a b).1,Nat.mod_eq_of_lt (show nv a + nv b < R by omega),lessV_mod (by omega),add_enc]
  rfl
 rw [e,nv_eF,nv_wd,Nat.mod_eq_of_lt (Nat.lt_trans (enc_lt _) pN_lt)]
def iadd (o b:Nat->Nat):Nat->(Nat->Nat)
 | 0=>o
 | i + 1=>upd (iadd o b i) i (o i + b i + addC o b i)
theorem iadd_eq (o b:Nat->Nat):∀ n j,j < n->iadd o b n j = addO o b n j
 | n + 1,j,h=>by
  show (bif Nat.beq j n then _ else iadd o b n j) = (bif Nat.beq j n then _ else addO o b n j)
  cases hb:Nat.beq j n
  ·have:j ≠ n:=fun e=>by rw [<-Nat.beq_eq,hb] at e;cases e
   rw [cond_false,cond_false,iadd_eq o b n j (by omega)]
  ·rfl
theorem okESub:(CallC.pure (el2 eSub)).Ok Tryz.prog 101:=by
 refine el2_ok Tryz.func101 (by kernel_rfl) (by kernel_rfl) fun a b ha hb=>?_
 have hs:=pN_small
 have hd:=sub_diff a b
 have hsub:=sub_eq (a:=nv a) (b:=nv b) pN_pos (show 2 * pN <= R by omega)
 rw [Nat.mod_eq_of_lt ha,Nat.mod_eq_of_lt hb] at hsub
 have key:∀ f:Nat->Nat,nv f = subM pN (nv a) (nv b)->endN (nm f) (nm (eF (eSub (dF a) (dF b)))):=fun f e=>endN_nm (by rw [e,nv_eF,sub_enc];rfl)
 cases hc:Nat.blt (nv a) (nv b)
 ·rw [hc] at hd hsub
  refine eSq mxd tK GLe_ok 100 [⟨8,1,.lit (.bo false)⟩] ?_
  refine same (p:=subC a b 0 % W <= 1/\subC a b 1 % W <= 1/\subC a b 2 % W <= 1/\subC a b 3 % W <= 1/\subC a b 4 % W <= 1/\subC a b 5 % W <= 1 /\
   Nat.beq (subC a b 6 % W) (1 % W) = false/\endN (nm (subO a b 6)) (nm (eF (eSub (dF a) (dF b))))) ?_ (by kernel_rfl)
  refine ⟨subC_le' _ _ 0,subC_le' _ _ 1,subC_le' _ _ 2,subC_le' _ _ 3,subC_le' _ _ 4,subC_le' _ _ 5,hd.2,key _ ?_⟩
  rw [hd.1,<-hsub,cond_false]
 ·rw [hc] at hd hsub
  obtain ⟨K,hK⟩:∃ K:Nat->Nat,K = addC (subO a b 6) prF:=⟨_,rfl⟩
  obtain ⟨S,hS⟩:∃ S:Nat->Nat,S = fun i=>subO a b 6 i + prF i + K i:=⟨_,rfl⟩
  have kl:∀ i,addC (subO a b 6) prF i % W <= 1:=addC_le' _ _
  have fin:nv (upd (upd (upd (upd (upd (upd (subO a b 6) 0 (S 0)) 1 (S 1)) 2 (S 2)) 3 (S 3)) 4 (S 4)) 5 (S 5)) = subM pN (nv a) (nv b):=by
   rw [nv_congr (g:=addO (subO a b 6) prF 6) fun j hj=>by
    rw [<-iadd_eq _ _ 6 j hj,hS,hK];rfl]
   rw [(add_sum _ _).1,nv_prime,hd.1,<-hsub,cond_true]
  refine eSq mxd tK GLe_ok 100 [⟨8,1,.lit (.bo true)⟩,⟨13,10,.lit (.w .u64 (S 0))⟩,⟨13,11,.lit (.w .u64 (K 1))⟩,⟨13,10,.lit (.w .u64 (S 1))⟩,⟨13,11,.lit (.w .u64 (K 2))⟩,⟨13,10,.lit (.w .u64 (S 2))⟩,⟨13,11,.lit (.w .u64 (K 3))⟩,⟨13,10,.lit (.w .u64 (S 3))⟩,⟨13,11,.lit (.w .u64 (K 4))⟩,⟨13,10,.lit (.w .u64 (S 4))⟩,⟨13,11,.lit (.w .u64 (K 5))⟩,⟨13,10,.lit (.w .u64 (S 5))⟩,⟨13,11,.lit (.w .u64 (K 6))⟩] ?_
  refine same (p:=subC a b 0 % W <= 1/\subC a b 1 % W <= 1/\subC a b 2 % W <= 1/\subC a b 3 % W <= 1/\subC a b 4 % W <= 1/\subC a b 5 % W <= 1 /\
   Nat.beq (subC a b 6 % W) (1 % W) = true/\0 % W <= 1/\subO a b 6 0 + prF 0 + 0 = S 0/\(subO a b 6 0 % W + prF 0 % W + 0 % W) / W = K 1/\(K 1) % W <= 1/\subO a b 6 1 + prF 1 + (K 1) = S 1/\(subO a b 6 1 % W + prF 1 % W + (K 1) % W) / W = K 2/\(K 2) % W <= 1/\subO a b 6 2 + prF 2 + (K 2) = S 2/\(subO a b 6 2 % W + prF 2 % W + (K 2) % W) / W = K 3/\(K 3) % W <= 1/\subO a b 6 3 + prF 3 + (K 3) = S 3/\(subO a b 6 3 % W + prF 3 % W + (K 3) % W) / W = K 4/\(K 4) % W <= 1/\subO a b 6 4 + prF 4 + (K 4) = S 4/\(subO a b 6 4 % W + prF 4 % W + (K 4) % W) / W = K 5/\(K 5) % W <= 1/\subO a b 6 5 + prF 5 + (K 5) = S 5/\(subO a b 6 5 % W + prF 5 % W + (K 5) % W) / W = K 6/\endN (nm (upd (upd (upd (upd (upd (upd (subO a b 6) 0 (S 0)) 1 (S 1)) 2 (S 2)) 3 (S 3)) 4 (S 4)) 5 (S 5))) (nm (eF (eSub (dF a) (dF b))))) ?_ (by kernel_rfl)
  have endf:=key _ fin
  subst hS hK
  exact ⟨subC_le' _ _ 0,subC_le' _ _ 1,subC_le' _ _ 2,subC_le' _ _ 3,subC_le' _ _ 4,subC_le' _ _ 5,hd.2,kl 0,rfl,rfl,kl 1,rfl,rfl,kl 2,rfl,rfl,kl 3,rfl,rfl,kl 4,rfl,rfl,kl 5,rfl,rfl,endf⟩
def GNe:Ctx:=ctxL [(101,.pure (el2 eSub))]
theorem GNe_ok:CtxOk Tryz.prog GNe:=cxC okESub cxN
theorem okENeg:(CallC.pure (el1 eNeg)).Ok Tryz.prog 183:=by
 refine el1_ok Tryz.func183 (by kernel_rfl) (by kernel_rfl) fun a ha=>eSq mxd tK GNe_ok 100 [] ?_
 refine same (p:=nv (fun _=>0) < pN/\nv a < pN/\endN (nm (eF (eSub (dF (fun _=>0)) (dF a)))) (nm (eF (eNeg (dF a))))) ?_ (by kernel_rfl)
 refine ⟨by rw [zero_nv];exact pN_pos,ha,endN_nm ?_⟩
 unfold eSub eNeg
 rw [show dF (fun _=>0) = 0 from by unfold dF;rw [zero_nv,dec_zero]]
end Go.Proofs.YtnjocbcjejpklaaGreat
namespace Go.Rq
open Go
theorem sB_lt (f:Nat->Nat):∀ i,sB W f i < W ^ i
 | 0=>by rw [Nat.pow_zero];exact Nat.one_pos
 | i + 1=>by
  have ih:=sB_lt f i
  have h:f i % W < W:=Nat.mod_lt _ (by decide)
  show sB W f i + W ^ i * (f i % W) < W ^ (i + 1)
  rw [Nat.pow_succ]
  have:=Nat.mul_le_mul_left (W ^ i) (show f i % W + 1 <= W from h)
  rw [Nat.mul_add,Nat.mul_one] at this
  omega
theorem rBd {w T A Q B N x i:Nat} (h:T * w ^ i = A * B + Q * N) (hQ:Q < w ^ i) (hA:A < w ^ i) (hx:x < w) (hB:B < N):T + x * B < (w + 2) * N:=by
 have h1:T < 2 * N:=by
  refine Nat.lt_of_mul_lt_mul_right (a:=w ^ i) ?_
  rw [h]
  have e1:A * B <= w ^ i * N:=Nat.mul_le_mul (Nat.le_of_lt hA) (Nat.le_of_lt hB)
  have e2:Q * N < w ^ i * N:=Nat.mul_lt_mul_of_pos_right hQ (by omega)
  rw [show 2 * N * w ^ i = w ^ i * N + w ^ i * N by rw [Nat.mul_assoc,Nat.two_mul,Nat.mul_comm]]
  omega
 have h2:x * B <= w * N:=Nat.mul_le_mul (Nat.le_of_lt hx) (Nat.le_of_lt hB)
 rw [Nat.add_mul]
 omega
theorem top_gen {l0 l1 l2 l3 l4 l5 s6 s7 z w:Nat} (h:l0 + w * (l1 + w * (l2 + w * (l3 + w * (l4 + w * (l5 + w * (s6 + w * s7)))))) = z) (hz:z < w ^ 7):s7 = 0:=by
 refine Classical.byContradiction fun hc=>?_
 have h1:1 <= s7:=by omega
 have e:w ^ 7 = w * (w * (w * (w * (w * (w * (w * 1)))))):=by simp [Nat.pow_succ,Nat.mul_assoc]
 have k6:w * 1 <= s6 + w * s7:=Nat.le_trans (Nat.mul_le_mul_left w h1) (by omega)
 have k5:w * (w * 1) <= l5 + w * (s6 + w * s7):=Nat.le_trans (Nat.mul_le_mul_left w k6) (by omega)
 have k4:=Nat.mul_le_mul_left w k5
 have k3:=Nat.mul_le_mul_left w (Nat.le_trans k4 (Nat.le_add_left _ l4))
 have k2:=Nat.mul_le_mul_left w (Nat.le_trans k3 (Nat.le_add_left _ l3))
 have k1:=Nat.mul_le_mul_left w (Nat.le_trans k2 (Nat.le_add_left _ l2))
 have k0:=Nat.mul_le_mul_left w (Nat.le_trans k1 (Nat.le_add_left _ l1))
 have:=Nat.le_trans k0 (Nat.le_add_left _ l0)
 rw [h,<-e] at this
 omega
theorem row_top {x:Nat} {b t C L:Nat->Nat} {S7:Nat} (hC:C = crow x b t) (hL:L = fun k=>mLo x (b k) (t k) (C k)) (hS7:S7 = (t 6 % W + C 6 % W + 0 % W) / W)
  (hb:sB W t 7 + x % W * nv b < W ^ 7):S7 = 0:=by
 have cs:∀ k,C (k + 1) = mHi x (b k) (t k) (C k):=fun k=>by rw [hC];rfl
 have ls:∀ k,L k = mLo x (b k) (t k) (C k):=fun k=>by rw [hL]
 have c0:C 0 = 0:=by rw [hC];rfl
 have b0:C 0 < W:=by rw [c0];decide
 have s0:=m_step (x:=x) (y:=b 0) (p:=t 0) b0
 rw [<-cs,<-ls] at s0
 have s1:=m_step (x:=x) (y:=b 1) (p:=t 1) s0.2
 rw [<-cs,<-ls] at s1
 have s2:=m_step (x:=x) (y:=b 2) (p:=t 2) s1.2
 rw [<-cs,<-ls] at s2
 have s3:=m_step (x:=x) (y:=b 3) (p:=t 3) s2.2
 rw [<-cs,<-ls] at s3
 have s4:=m_step (x:=x) (y:=b 4) (p:=t 4) s3.2
 rw [<-cs,<-ls] at s4
 have s5:=m_step (x:=x) (y:=b 5) (p:=t 5) s4.2
 rw [<-cs,<-ls] at s5
 have s6:=top_step (x:=t 6) s5.2
 rw [<-hS7] at s6
 rw [c0] at s0
 rw [sB7_eq t] at hb
 have hw:=mont_words (x:=x % W) s0.1 s1.1 s2.1 s3.1 s4.1 s5.1 s6.1
 refine top_gen hw ?_
 unfold nv at hb
 exact hb
end Go.Rq
namespace Go.Proofs.YtnjocbcjejpklaaGreat
open Go.Rq Go
set_option maxRecDepth 100000
def lowN:Nat:=9940570264628428797
def cEMul:List AV->Option (List Prop × AV)
 | [.v1 (.agg [.ws .u64 6 a]),.v1 (.agg [.ws .u64 6 b])]=>some ([nv a < pN],nm (eF (eMul (dF a) (dF b))))
 | _=>none
def GMu:Ctx:=ctxL [(61,.pure cMul64),(62,.pure cAdd64),(158,.pure cLess),(160,.pure (cK prF))]
theorem GMu_ok:CtxOk Tryz.prog GMu:=cxC okMul64 <| cxC okAdd64 <| cxC okLess <| cxC okPrime cxN
def VMu (b:Nat->Nat) (i:Nat):List AV:=[pt 0 0,pt 2 0,pt 4 0,pt 5 0,nm b,iv (Int.ofNat i)]
def HMu (a b t:Nat->Nat):Heap:=[nbE a,nbE b,nbE (fun _=>0),none,nbE prF,some ⟨183,[.ws .u64 7 t],0,0⟩]
def InvMu (a b:Nat->Nat) (x:Nat × (Nat->Nat)):Prop:=x.1 <= 6/\∃ Q,sB W x.2 7 * W ^ x.1 = sB W b x.1 * nv a + Q * nv prF/\Q < W ^ x.1
theorem mu_upd {t L Mm:Nat->Nat} {S6 cc:Nat} (h:Mm 6 = cc):∀ {j:Nat},j < 7->(upd (upd (upd (upd (upd (upd (upd (upd (upd (upd (upd (upd (upd (upd t 0 (L 0)) 1 (L 1)) 2 (L 2)) 3 (L 3)) 4 (L 4)) 5 (L 5)) 6 S6) 0 (Mm 0)) 1 (Mm 1)) 2 (Mm 2)) 3 (Mm 3)) 4 (Mm 4)) 5 (Mm 5)) 6 cc) j = Mm j
 | 0,_=>rfl
 | 1,_=>rfl
 | 2,_=>rfl
 | 3,_=>rfl
 | 4,_=>rfl
 | 5,_=>rfl
 | 6,_=>h.symm
 | j + 7,h=>by omega
theorem okEMul:(CallC.pure cEMul).Ok Tryz.prog 102:=by
 intro args pre v e hp
 unfold cEMul at e
 split at e
 ·rename_i a b
  cases e
  have ha:nv a < pN:=hp _ (List.mem_cons_self ..)
  have ha':nv a < nv prF:=by rw [nv_prime];exact ha
  have hs:=pN_small
  have low:(prF 0 % W * (lowN % W) + 1) % W = 0:=by decide
  refine pWk tK Tryz.func102 (by kernel_rfl) (by kernel_rfl) (by rfl) (by rfl) ?_
  refine loopF mxd tK GMu_ok (by kernel_rfl) (ι:={x // InvMu a b x}) [2,4,5,6,21,22] 138 6 (fun x=>VMu b x.1.1) (fun x=>HMu a b x.1.2) (fun x=>6 - x.1.1) (fun x=>x.1.1 = 6)
   (fun _=>rfl) (fun _=>by kernel_rfl) (fun _ _ h=>h.elim) 100 [] ?_ ?_ ?_
  ·refine same (p:=true = true/\∃ j:{x // InvMu a b x},VMu b 0 = VMu b j.1.1/\HMu a b (fun _=>0) = HMu a b j.1.2) ?_ (by kernel_rfl)
   exact ⟨rfl,⟨(0,fun _=>0),by simp,0,by simp [sB],by simp⟩,rfl,rfl⟩
  ·intro ⟨⟨i,t⟩,hi,Q,hT,hQ⟩ junk
   simp only at hi hT hQ
   rcases (show i = 0∨i = 1∨i = 2∨i = 3∨i = 4∨i = 5∨i = 6 by omega) with rfl | rfl | rfl | rfl | rfl | rfl | rfl
   ·obtain ⟨C,hC⟩:∃ C:Nat->Nat,C = crow (b 0) a t:=⟨_,rfl⟩
    obtain ⟨L,hL⟩:∃ L:Nat->Nat,L = fun k=>mLo (b 0) (a k) (t k) (C k):=⟨_,rfl⟩
    obtain ⟨S6,hS6⟩:∃ x,x = t 6 + C 6:=⟨_,rfl⟩
    obtain ⟨S7,hS7⟩:∃ x,x = (t 6 % W + C 6 % W + 0 % W) / W:=⟨_,rfl⟩
    obtain ⟨q,hq⟩:∃ x,x = L 0 * lowN:=⟨_,rfl⟩
    obtain ⟨D,hD⟩:∃ D:Nat->Nat,D = drow q prF L:=⟨_,rfl⟩
    obtain ⟨Mm,hMm⟩:∃ M:Nat->Nat,M = mrow q prF L D S6 S7:=⟨_,rfl⟩
    obtain ⟨cc,hcc⟩:∃ x,x = (S6 % W + D 6 % W + 0 % W) / W:=⟨_,rfl⟩
    have h7:S7 = 0:=row_top hC hL hS7 (by
     have hb:=rBd (w:=W) (B:=nv a) (N:=nv prF) (x:=b 0 % W) (i:=0) hT hQ (sB_lt b 0) (Nat.mod_lt _ (by decide)) ha'
     rw [nv_prime] at hb
     exact Nat.lt_of_lt_of_le hb (by decide))
    have hm6:Mm 6 = cc:=by rw [hMm,hcc,h7];show 0 + _ = _;rw [Nat.zero_add]
    refine rQ mxd tK GMu_ok 100 [⟨13,4,.lit (.w .u64 (L 0))⟩,⟨14,2,.lit (.w .u64 (C 1))⟩,⟨13,4,.lit (.w .u64 (L 1))⟩,⟨14,2,.lit (.w .u64 (C 2))⟩,⟨13,4,.lit (.w .u64 (L 2))⟩,⟨14,2,.lit (.w .u64 (C 3))⟩,⟨13,4,.lit (.w .u64 (L 3))⟩,⟨14,2,.lit (.w .u64 (C 4))⟩,⟨13,4,.lit (.w .u64 (L 4))⟩,⟨14,2,.lit (.w .u64 (C 5))⟩,⟨13,4,.lit (.w .u64 (L 5))⟩,⟨14,2,.lit (.w .u64 (C 6))⟩,⟨17,3,.lit (.w .u64 S6)⟩,⟨18,2,.lit (.w .u64 q)⟩,⟨21,2,.lit (.w .u64 (D 1))⟩,⟨28,4,.lit (.w .u64 (Mm 0))⟩,⟨29,2,.lit (.w .u64 (D 2))⟩,⟨28,4,.lit (.w .u64 (Mm 1))⟩,⟨29,2,.lit (.w .u64 (D 3))⟩,⟨28,4,.lit (.w .u64 (Mm 2))⟩,⟨29,2,.lit (.w .u64 (D 4))⟩,⟨28,4,.lit (.w .u64 (Mm 3))⟩,⟨29,2,.lit (.w .u64 (D 5))⟩,⟨28,4,.lit (.w .u64 (Mm 4))⟩,⟨29,2,.lit (.w .u64 (D 6))⟩,⟨31,5,.lit (.w .u64 (Mm 5))⟩,⟨31,6,.lit (.w .u64 cc)⟩] ?_
    have next:∃ j:{x // InvMu a b x},6 - j.1.1 < 6 - 0/\VMu b (0 + 1) = VMu b j.1.1/\HMu a b (upd (upd (upd (upd (upd (upd (upd (upd (upd (upd (upd (upd (upd (upd t 0 (L 0)) 1 (L 1)) 2 (L 2)) 3 (L 3)) 4 (L 4)) 5 (L 5)) 6 S6) 0 (Mm 0)) 1 (Mm 1)) 2 (Mm 2)) 3 (Mm 3)) 4 (Mm 4)) 5 (Mm 5)) 6 cc) = HMu a b j.1.2:=by
     refine ⟨⟨(0 + 1,(upd (upd (upd (upd (upd (upd (upd (upd (upd (upd (upd (upd (upd (upd t 0 (L 0)) 1 (L 1)) 2 (L 2)) 3 (L 3)) 4 (L 4)) 5 (L 5)) 6 S6) 0 (Mm 0)) 1 (Mm 1)) 2 (Mm 2)) 3 (Mm 3)) 4 (Mm 4)) 5 (Mm 5)) 6 cc)),by simp only;omega,?_⟩,by simp only;omega,rfl,rfl⟩
     simp only
     obtain ⟨T2,e1,e2⟩:=mont_row low hC hL hS6 hS7 hq hD hMm hcc
     have e3:sB W (upd (upd (upd (upd (upd (upd (upd (upd (upd (upd (upd (upd (upd (upd t 0 (L 0)) 1 (L 1)) 2 (L 2)) 3 (L 3)) 4 (L 4)) 5 (L 5)) 6 S6) 0 (Mm 0)) 1 (Mm 1)) 2 (Mm 2)) 3 (Mm 3)) 4 (Mm 4)) 5 (Mm 5)) 6 cc) 7 = T2:=by rw [e1];exact sB7 (fun j hj=>mu_upd hm6 hj)
     rw [e3]
     have:=mont_round (N:=nv prF) (B:=nv a) (x:=b 0 % W) (i:=0) rfl e2 hT hQ (Nat.mod_lt _ (by decide))
     exact ⟨_,by rw [show sB W b (0 + 1) = sB W b 0 + W ^ 0 * (b 0 % W) from rfl];exact this.1,this.2⟩
    have z1:0 % W <= 1:=by decide
    refine same (p:=0 % W <= 1/\0 % W <= 1/\mLo (b 0) (a 0) (t 0) 0 = L 0/\mHi (b 0) (a 0) (t 0) 0 = C 1/\0 % W <= 1/\0 % W <= 1/\mLo (b 0) (a 1) (t 1) (C 1) = L 1/\mHi (b 0) (a 1) (t 1) (C 1) = C 2/\0 % W <= 1/\0 % W <= 1/\mLo (b 0) (a 2) (t 2) (C 2) = L 2/\mHi (b 0) (a 2) (t 2) (C 2) = C 3/\0 % W <= 1/\0 % W <= 1/\mLo (b 0) (a 3) (t 3) (C 3) = L 3/\mHi (b 0) (a 3) (t 3) (C 3) = C 4/\0 % W <= 1/\0 % W <= 1/\mLo (b 0) (a 4) (t 4) (C 4) = L 4/\mHi (b 0) (a 4) (t 4) (C 4) = C 5/\0 % W <= 1/\0 % W <= 1/\mLo (b 0) (a 5) (t 5) (C 5) = L 5/\mHi (b 0) (a 5) (t 5) (C 5) = C 6/\t 6 + C 6 = S6/\L 0 * lowN = q/\0 % W <= 1/\q % W * (prF 0 % W) / W + (q * prF 0 % W + L 0 % W + 0 % W) / W = D 1/\0 % W <= 1/\0 % W <= 1/\mLo q (prF 1) (L 1) (D 1) = Mm 0/\mHi q (prF 1) (L 1) (D 1) = D 2/\0 % W <= 1/\0 % W <= 1/\mLo q (prF 2) (L 2) (D 2) = Mm 1/\mHi q (prF 2) (L 2) (D 2) = D 3/\0 % W <= 1/\0 % W <= 1/\mLo q (prF 3) (L 3) (D 3) = Mm 2/\mHi q (prF 3) (L 3) (D 3) = D 4/\0 % W <= 1/\0 % W <= 1/\mLo q (prF 4) (L 4) (D 4) = Mm 3/\mHi q (prF 4) (L 4) (D 4) = D 5/\0 % W <= 1/\0 % W <= 1/\mLo q (prF 5) (L 5) (D 5) = Mm 4/\mHi q (prF 5) (L 5) (D 5) = D 6/\0 % W <= 1/\S6 + D 6 + 0 = Mm 5/\(S6 % W + D 6 % W + 0 % W) / W = cc/\true = true/\∃ j:{x // InvMu a b x},6 - j.1.1 < 6 - 0/\VMu b (0 + 1) = VMu b j.1.1/\HMu a b (upd (upd (upd (upd (upd (upd (upd (upd (upd (upd (upd (upd (upd (upd t 0 (L 0)) 1 (L 1)) 2 (L 2)) 3 (L 3)) 4 (L 4)) 5 (L 5)) 6 S6) 0 (Mm 0)) 1 (Mm 1)) 2 (Mm 2)) 3 (Mm 3)) 4 (Mm 4)) 5 (Mm 5)) 6 cc) = HMu a b j.1.2) ?_ (by kernel_rfl)
    clear h7 hm6
    subst hC hL hS6 hS7 hq hD hMm hcc
    exact ⟨z1,⟨z1,⟨rfl,⟨rfl,⟨z1,⟨z1,⟨rfl,⟨rfl,⟨z1,⟨z1,⟨rfl,⟨rfl,⟨z1,⟨z1,⟨rfl,⟨rfl,⟨z1,⟨z1,⟨rfl,⟨rfl,⟨z1,⟨z1,⟨rfl,⟨rfl,⟨rfl,⟨rfl,⟨z1,⟨rfl,⟨z1,⟨z1,⟨rfl,⟨rfl,⟨z1,⟨z1,⟨rfl,⟨rfl,⟨z1,⟨z1,⟨rfl,⟨rfl,⟨z1,⟨z1,⟨rfl,⟨rfl,⟨z1,⟨z1,⟨rfl,⟨rfl,⟨z1,⟨rfl,⟨rfl,⟨rfl,next⟩⟩⟩⟩⟩⟩⟩⟩⟩⟩⟩⟩⟩⟩⟩⟩⟩⟩⟩⟩⟩⟩⟩⟩⟩⟩⟩⟩⟩⟩⟩⟩⟩⟩⟩⟩⟩⟩⟩⟩⟩⟩⟩⟩⟩⟩⟩⟩⟩⟩⟩⟩
   ·obtain ⟨C,hC⟩:∃ C:Nat->Nat,C = crow (b 1) a t:=⟨_,rfl⟩
    obtain ⟨L,hL⟩:∃ L:Nat->Nat,L = fun k=>mLo (b 1) (a k) (t k) (C k):=⟨_,rfl⟩
    obtain ⟨S6,hS6⟩:∃ x,x = t 6 + C 6:=⟨_,rfl⟩
    obtain ⟨S7,hS7⟩:∃ x,x = (t 6 % W + C 6 % W + 0 % W) / W:=⟨_,rfl⟩
    obtain ⟨q,hq⟩:∃ x,x = L 0 * lowN:=⟨_,rfl⟩
    obtain ⟨D,hD⟩:∃ D:Nat->Nat,D = drow q prF L:=⟨_,rfl⟩
    obtain ⟨Mm,hMm⟩:∃ M:Nat->Nat,M = mrow q prF L D S6 S7:=⟨_,rfl⟩
    obtain ⟨cc,hcc⟩:∃ x,x = (S6 % W + D 6 % W + 0 % W) / W:=⟨_,rfl⟩
    have h7:S7 = 0:=row_top hC hL hS7 (by
     have hb:=rBd (w:=W) (B:=nv a) (N:=nv prF) (x:=b 1 % W) (i:=1) hT hQ (sB_lt b 1) (Nat.mod_lt _ (by decide)) ha'
     rw [nv_prime] at hb
     exact Nat.lt_of_lt_of_le hb (by decide))
    have hm6:Mm 6 = cc:=by rw [hMm,hcc,h7];show 0 + _ = _;rw [Nat.zero_add]
    refine rQ mxd tK GMu_ok 100 [⟨13,4,.lit (.w .u64 (L 0))⟩,⟨14,2,.lit (.w .u64 (C 1))⟩,⟨13,4,.lit (.w .u64 (L 1))⟩,⟨14,2,.lit (.w .u64 (C 2))⟩,⟨13,4,.lit (.w .u64 (L 2))⟩,⟨14,2,.lit (.w .u64 (C 3))⟩,⟨13,4,.lit (.w .u64 (L 3))⟩,⟨14,2,.lit (.w .u64 (C 4))⟩,⟨13,4,.lit (.w .u64 (L 4))⟩,⟨14,2,.lit (.w .u64 (C 5))⟩,⟨13,4,.lit (.w .u64 (L 5))⟩,⟨14,2,.lit (.w .u64 (C 6))⟩,⟨17,3,.lit (.w .u64 S6)⟩,⟨18,2,.lit (.w .u64 q)⟩,⟨21,2,.lit (.w .u64 (D 1))⟩,⟨28,4,.lit (.w .u64 (Mm 0))⟩,⟨29,2,.lit (.w .u64 (D 2))⟩,⟨28,4,.lit (.w .u64 (Mm 1))⟩,⟨29,2,.lit (.w .u64 (D 3))⟩,⟨28,4,.lit (.w .u64 (Mm 2))⟩,⟨29,2,.lit (.w .u64 (D 4))⟩,⟨28,4,.lit (.w .u64 (Mm 3))⟩,⟨29,2,.lit (.w .u64 (D 5))⟩,⟨28,4,.lit (.w .u64 (Mm 4))⟩,⟨29,2,.lit (.w .u64 (D 6))⟩,⟨31,5,.lit (.w .u64 (Mm 5))⟩,⟨31,6,.lit (.w .u64 cc)⟩] ?_
    have next:∃ j:{x // InvMu a b x},6 - j.1.1 < 6 - 1/\VMu b (1 + 1) = VMu b j.1.1/\HMu a b (upd (upd (upd (upd (upd (upd (upd (upd (upd (upd (upd (upd (upd (upd t 0 (L 0)) 1 (L 1)) 2 (L 2)) 3 (L 3)) 4 (L 4)) 5 (L 5)) 6 S6) 0 (Mm 0)) 1 (Mm 1)) 2 (Mm 2)) 3 (Mm 3)) 4 (Mm 4)) 5 (Mm 5)) 6 cc) = HMu a b j.1.2:=by
     refine ⟨⟨(1 + 1,(upd (upd (upd (upd (upd (upd (upd (upd (upd (upd (upd (upd (upd (upd t 0 (L 0)) 1 (L 1)) 2 (L 2)) 3 (L 3)) 4 (L 4)) 5 (L 5)) 6 S6) 0 (Mm 0)) 1 (Mm 1)) 2 (Mm 2)) 3 (Mm 3)) 4 (Mm 4)) 5 (Mm 5)) 6 cc)),by simp only;omega,?_⟩,by simp only;omega,rfl,rfl⟩
     simp only
     obtain ⟨T2,e1,e2⟩:=mont_row low hC hL hS6 hS7 hq hD hMm hcc
     have e3:sB W (upd (upd (upd (upd (upd (upd (upd (upd (upd (upd (upd (upd (upd (upd t 0 (L 0)) 1 (L 1)) 2 (L 2)) 3 (L 3)) 4 (L 4)) 5 (L 5)) 6 S6) 0 (Mm 0)) 1 (Mm 1)) 2 (Mm 2)) 3 (Mm 3)) 4 (Mm 4)) 5 (Mm 5)) 6 cc) 7 = T2:=by rw [e1];exact sB7 (fun j hj=>mu_upd hm6 hj)
     rw [e3]
     have:=mont_round (N:=nv prF) (B:=nv a) (x:=b 1 % W) (i:=1) rfl e2 hT hQ (Nat.mod_lt _ (by decide))
     exact ⟨_,by rw [show sB W b (1 + 1) = sB W b 1 + W ^ 1 * (b 1 % W) from rfl];exact this.1,this.2⟩
    have z1:0 % W <= 1:=by decide
    refine same (p:=0 % W <= 1/\0 % W <= 1/\mLo (b 1) (a 0) (t 0) 0 = L 0/\mHi (b 1) (a 0) (t 0) 0 = C 1/\0 % W <= 1/\0 % W <= 1/\mLo (b 1) (a 1) (t 1) (C 1) = L 1/\mHi (b 1) (a 1) (t 1) (C 1) = C 2/\0 % W <= 1/\0 % W <= 1/\mLo (b 1) (a 2) (t 2) (C 2) = L 2/\mHi (b 1) (a 2) (t 2) (C 2) = C 3/\0 % W <= 1/\0 % W <= 1/\mLo (b 1) (a 3) (t 3) (C 3) = L 3/\mHi (b 1) (a 3) (t 3) (C 3) = C 4/\0 % W <= 1/\0 % W <= 1/\mLo (b 1) (a 4) (t 4) (C 4) = L 4/\mHi (b 1) (a 4) (t 4) (C 4) = C 5/\0 % W <= 1/\0 % W <= 1/\mLo (b 1) (a 5) (t 5) (C 5) = L 5/\mHi (b 1) (a 5) (t 5) (C 5) = C 6/\t 6 + C 6 = S6/\L 0 * lowN = q/\0 % W <= 1/\q % W * (prF 0 % W) / W + (q * prF 0 % W + L 0 % W + 0 % W) / W = D 1/\0 % W <= 1/\0 % W <= 1/\mLo q (prF 1) (L 1) (D 1) = Mm 0/\mHi q (prF 1) (L 1) (D 1) = D 2/\0 % W <= 1/\0 % W <= 1/\mLo q (prF 2) (L 2) (D 2) = Mm 1/\mHi q (prF 2) (L 2) (D 2) = D 3/\0 % W <= 1/\0 % W <= 1/\mLo q (prF 3) (L 3) (D 3) = Mm 2/\mHi q (prF 3) (L 3) (D 3) = D 4/\0 % W <= 1/\0 % W <= 1/\mLo q (prF 4) (L 4) (D 4) = Mm 3/\mHi q (prF 4) (L 4) (D 4) = D 5/\0 % W <= 1/\0 % W <= 1/\mLo q (prF 5) (L 5) (D 5) = Mm 4/\mHi q (prF 5) (L 5) (D 5) = D 6/\0 % W <= 1/\S6 + D 6 + 0 = Mm 5/\(S6 % W + D 6 % W + 0 % W) / W = cc/\true = true/\∃ j:{x // InvMu a b x},6 - j.1.1 < 6 - 1/\VMu b (1 + 1) = VMu b j.1.1/\HMu a b (upd (upd (upd (upd (upd (upd (upd (upd (upd (upd (upd (upd (upd (upd t 0 (L 0)) 1 (L 1)) 2 (L 2)) 3 (L 3)) 4 (L 4)) 5 (L 5)) 6 S6) 0 (Mm 0)) 1 (Mm 1)) 2 (Mm 2)) 3 (Mm 3)) 4 (Mm 4)) 5 (Mm 5)) 6 cc) = HMu a b j.1.2) ?_ (by kernel_rfl)
    clear h7 hm6
    subst hC hL hS6 hS7 hq hD hMm hcc
    exact ⟨z1,⟨z1,⟨rfl,⟨rfl,⟨z1,⟨z1,⟨rfl,⟨rfl,⟨z1,⟨z1,⟨rfl,⟨rfl,⟨z1,⟨z1,⟨rfl,⟨rfl,⟨z1,⟨z1,⟨rfl,⟨rfl,⟨z1,⟨z1,⟨rfl,⟨rfl,⟨rfl,⟨rfl,⟨z1,⟨rfl,⟨z1,⟨z1,⟨rfl,⟨rfl,⟨z1,⟨z1,⟨rfl,⟨rfl,⟨z1,⟨z1,⟨rfl,⟨rfl,⟨z1,⟨z1,⟨rfl,⟨rfl,⟨z1,⟨z1,⟨rfl,⟨rfl,⟨z1,⟨rfl,⟨rfl,⟨rfl,next⟩⟩⟩⟩⟩⟩⟩⟩⟩⟩⟩⟩⟩⟩⟩⟩⟩⟩⟩⟩⟩⟩⟩⟩⟩⟩⟩⟩⟩⟩⟩⟩⟩⟩⟩⟩⟩⟩⟩⟩⟩⟩⟩⟩⟩⟩⟩⟩⟩⟩⟩⟩
   ·obtain ⟨C,hC⟩:∃ C:Nat->Nat,C = crow (b 2) a t:=⟨_,rfl⟩
    obtain ⟨L,hL⟩:∃ L:Nat->Nat,L = fun k=>mLo (b 2) (a k) (t k) (C k):=⟨_,rfl⟩
    obtain ⟨S6,hS6⟩:∃ x,x = t 6 + C 6:=⟨_,rfl⟩
    obtain ⟨S7,hS7⟩:∃ x,x = (t 6 % W + C 6 % W + 0 % W) / W:=⟨_,rfl⟩
    obtain ⟨q,hq⟩:∃ x,x = L 0 * lowN:=⟨_,rfl⟩
    obtain ⟨D,hD⟩:∃ D:Nat->Nat,D = drow q prF L:=⟨_,rfl⟩
    obtain ⟨Mm,hMm⟩:∃ M:Nat->Nat,M = mrow q prF L D S6 S7:=⟨_,rfl⟩
    obtain ⟨cc,hcc⟩:∃ x,x = (S6 % W + D 6 % W + 0 % W) / W:=⟨_,rfl⟩
    have h7:S7 = 0:=row_top hC hL hS7 (by
     have hb:=rBd (w:=W) (B:=nv a) (N:=nv prF) (x:=b 2 % W) (i:=2) hT hQ (sB_lt b 2) (Nat.mod_lt _ (by decide)) ha'
     rw [nv_prime] at hb
     exact Nat.lt_of_lt_of_le hb (by decide))
    have hm6:Mm 6 = cc:=by rw [hMm,hcc,h7];show 0 + _ = _;rw [Nat.zero_add]
    refine rQ mxd tK GMu_ok 100 [⟨13,4,.lit (.w .u64 (L 0))⟩,⟨14,2,.lit (.w .u64 (C 1))⟩,⟨13,4,.lit (.w .u64 (L 1))⟩,⟨14,2,.lit (.w .u64 (C 2))⟩,⟨13,4,.lit (.w .u64 (L 2))⟩,⟨14,2,.lit (.w .u64 (C 3))⟩,⟨13,4,.lit (.w .u64 (L 3))⟩,⟨14,2,.lit (.w .u64 (C 4))⟩,⟨13,4,.lit (.w .u64 (L 4))⟩,⟨14,2,.lit (.w .u64 (C 5))⟩,⟨13,4,.lit (.w .u64 (L 5))⟩,⟨14,2,.lit (.w .u64 (C 6))⟩,⟨17,3,.lit (.w .u64 S6)⟩,⟨18,2,.lit (.w .u64 q)⟩,⟨21,2,.lit (.w .u64 (D 1))⟩,⟨28,4,.lit (.w .u64 (Mm 0))⟩,⟨29,2,.lit (.w .u64 (D 2))⟩,⟨28,4,.lit (.w .u64 (Mm 1))⟩,⟨29,2,.lit (.w .u64 (D 3))⟩,⟨28,4,.lit (.w .u64 (Mm 2))⟩,⟨29,2,.lit (.w .u64 (D 4))⟩,⟨28,4,.lit (.w .u64 (Mm 3))⟩,⟨29,2,.lit (.w .u64 (D 5))⟩,⟨28,4,.lit (.w .u64 (Mm 4))⟩,⟨29,2,.lit (.w .u64 (D 6))⟩,⟨31,5,.lit (.w .u64 (Mm 5))⟩,⟨31,6,.lit (.w .u64 cc)⟩] ?_
    have next:∃ j:{x // InvMu a b x},6 - j.1.1 < 6 - 2/\VMu b (2 + 1) = VMu b j.1.1/\HMu a b (upd (upd (upd (upd (upd (upd (upd (upd (upd (upd (upd (upd (upd (upd t 0 (L 0)) 1 (L 1)) 2 (L 2)) 3 (L 3)) 4 (L 4)) 5 (L 5)) 6 S6) 0 (Mm 0)) 1 (Mm 1)) 2 (Mm 2)) 3 (Mm 3)) 4 (Mm 4)) 5 (Mm 5)) 6 cc) = HMu a b j.1.2:=by
     refine ⟨⟨(2 + 1,(upd (upd (upd (upd (upd (upd (upd (upd (upd (upd (upd (upd (upd (upd t 0 (L 0)) 1 (L 1)) 2 (L 2)) 3 (L 3)) 4 (L 4)) 5 (L 5)) 6 S6) 0 (Mm 0)) 1 (Mm 1)) 2 (Mm 2)) 3 (Mm 3)) 4 (Mm 4)) 5 (Mm 5)) 6 cc)),by simp only;omega,?_⟩,by simp only;omega,rfl,rfl⟩
     simp only
     obtain ⟨T2,e1,e2⟩:=mont_row low hC hL hS6 hS7 hq hD hMm hcc
     have e3:sB W (upd (upd (upd (upd (upd (upd (upd (upd (upd (upd (upd (upd (upd (upd t 0 (L 0)) 1 (L 1)) 2 (L 2)) 3 (L 3)) 4 (L 4)) 5 (L 5)) 6 S6) 0 (Mm 0)) 1 (Mm 1)) 2 (Mm 2)) 3 (Mm 3)) 4 (Mm 4)) 5 (Mm 5)) 6 cc) 7 = T2:=by rw [e1];exact sB7 (fun j hj=>mu_upd hm6 hj)
     rw [e3]
     have:=mont_round (N:=nv prF) (B:=nv a) (x:=b 2 % W) (i:=2) rfl e2 hT hQ (Nat.mod_lt _ (by decide))
     exact ⟨_,by rw [show sB W b (2 + 1) = sB W b 2 + W ^ 2 * (b 2 % W) from rfl];exact this.1,this.2⟩
    have z1:0 % W <= 1:=by decide
    refine same (p:=0 % W <= 1/\0 % W <= 1/\mLo (b 2) (a 0) (t 0) 0 = L 0/\mHi (b 2) (a 0) (t 0) 0 = C 1/\0 % W <= 1/\0 % W <= 1/\mLo (b 2) (a 1) (t 1) (C 1) = L 1/\mHi (b 2) (a 1) (t 1) (C 1) = C 2/\0 % W <= 1/\0 % W <= 1/\mLo (b 2) (a 2) (t 2) (C 2) = L 2/\mHi (b 2) (a 2) (t 2) (C 2) = C 3/\0 % W <= 1/\0 % W <= 1/\mLo (b 2) (a 3) (t 3) (C 3) = L 3/\mHi (b 2) (a 3) (t 3) (C 3) = C 4/\0 % W <= 1/\0 % W <= 1/\mLo (b 2) (a 4) (t 4) (C 4) = L 4/\mHi (b 2) (a 4) (t 4) (C 4) = C 5/\0 % W <= 1/\0 % W <= 1/\mLo (b 2) (a 5) (t 5) (C 5) = L 5/\mHi (b 2) (a 5) (t 5) (C 5) = C 6/\t 6 + C 6 = S6/\L 0 * lowN = q/\0 % W <= 1/\q % W * (prF 0 % W) / W + (q * prF 0 % W + L 0 % W + 0 % W) / W = D 1/\0 % W <= 1/\0 % W <= 1/\mLo q (prF 1) (L 1) (D 1) = Mm 0/\mHi q (prF 1) (L 1) (D 1) = D 2/\0 % W <= 1/\0 % W <= 1/\mLo q (prF 2) (L 2) (D 2) = Mm 1/\mHi q (prF 2) (L 2) (D 2) = D 3/\0 % W <= 1/\0 % W <= 1/\mLo q (prF 3) (L 3) (D 3) = Mm 2/\mHi q (prF 3) (L 3) (D 3) = D 4/\0 % W <= 1/\0 % W <= 1/\mLo q (prF 4) (L 4) (D 4) = Mm 3/\mHi q (prF 4) (L 4) (D 4) = D 5/\0 % W <= 1/\0 % W <= 1/\mLo q (prF 5) (L 5) (D 5) = Mm 4/\mHi q (prF 5) (L 5) (D 5) = D 6/\0 % W <= 1/\S6 + D 6 + 0 = Mm 5/\(S6 % W + D 6 % W + 0 % W) / W = cc/\true = true/\∃ j:{x // InvMu a b x},6 - j.1.1 < 6 - 2/\VMu b (2 + 1) = VMu b j.1.1/\HMu a b (upd (upd (upd (upd (upd (upd (upd (upd (upd (upd (upd (upd (upd (upd t 0 (L 0)) 1 (L 1)) 2 (L 2)) 3 (L 3)) 4 (L 4)) 5 (L 5)) 6 S6) 0 (Mm 0)) 1 (Mm 1)) 2 (Mm 2)) 3 (Mm 3)) 4 (Mm 4)) 5 (Mm 5)) 6 cc) = HMu a b j.1.2) ?_ (by kernel_rfl)
    clear h7 hm6
    subst hC hL hS6 hS7 hq hD hMm hcc
    exact ⟨z1,⟨z1,⟨rfl,⟨rfl,⟨z1,⟨z1,⟨rfl,⟨rfl,⟨z1,⟨z1,⟨rfl,⟨rfl,⟨z1,⟨z1,⟨rfl,⟨rfl,⟨z1,⟨z1,⟨rfl,⟨rfl,⟨z1,⟨z1,⟨rfl,⟨rfl,⟨rfl,⟨rfl,⟨z1,⟨rfl,⟨z1,⟨z1,⟨rfl,⟨rfl,⟨z1,⟨z1,⟨rfl,⟨rfl,⟨z1,⟨z1,⟨rfl,⟨rfl,⟨z1,⟨z1,⟨rfl,⟨rfl,⟨z1,⟨z1,⟨rfl,⟨rfl,⟨z1,⟨rfl,⟨rfl,⟨rfl,next⟩⟩⟩⟩⟩⟩⟩⟩⟩⟩⟩⟩⟩⟩⟩⟩⟩⟩⟩⟩⟩⟩⟩⟩⟩⟩⟩⟩⟩⟩⟩⟩⟩⟩⟩⟩⟩⟩⟩⟩⟩⟩⟩⟩⟩⟩⟩⟩⟩⟩⟩⟩
   ·obtain ⟨C,hC⟩:∃ C:Nat->Nat,C = crow (b 3) a t:=⟨_,rfl⟩
    obtain ⟨L,hL⟩:∃ L:Nat->Nat,L = fun k=>mLo (b 3) (a k) (t k) (C k):=⟨_,rfl⟩
    obtain ⟨S6,hS6⟩:∃ x,x = t 6 + C 6:=⟨_,rfl⟩
    obtain ⟨S7,hS7⟩:∃ x,x = (t 6 % W + C 6 % W + 0 % W) / W:=⟨_,rfl⟩
    obtain ⟨q,hq⟩:∃ x,x = L 0 * lowN:=⟨_,rfl⟩
    obtain ⟨D,hD⟩:∃ D:Nat->Nat,D = drow q prF L:=⟨_,rfl⟩
    obtain ⟨Mm,hMm⟩:∃ M:Nat->Nat,M = mrow q prF L D S6 S7:=⟨_,rfl⟩
    obtain ⟨cc,hcc⟩:∃ x,x = (S6 % W + D 6 % W + 0 % W) / W:=⟨_,rfl⟩
    have h7:S7 = 0:=row_top hC hL hS7 (by
     have hb:=rBd (w:=W) (B:=nv a) (N:=nv prF) (x:=b 3 % W) (i:=3) hT hQ (sB_lt b 3) (Nat.mod_lt _ (by decide)) ha'
     rw [nv_prime] at hb
     exact Nat.lt_of_lt_of_le hb (by decide))
    have hm6:Mm 6 = cc:=by rw [hMm,hcc,h7];show 0 + _ = _;rw [Nat.zero_add]
    refine rQ mxd tK GMu_ok 100 [⟨13,4,.lit (.w .u64 (L 0))⟩,⟨14,2,.lit (.w .u64 (C 1))⟩,⟨13,4,.lit (.w .u64 (L 1))⟩,⟨14,2,.lit (.w .u64 (C 2))⟩,⟨13,4,.lit (.w .u64 (L 2))⟩,⟨14,2,.lit (.w .u64 (C 3))⟩,⟨13,4,.lit (.w .u64 (L 3))⟩,⟨14,2,.lit (.w .u64 (C 4))⟩,⟨13,4,.lit (.w .u64 (L 4))⟩,⟨14,2,.lit (.w .u64 (C 5))⟩,⟨13,4,.lit (.w .u64 (L 5))⟩,⟨14,2,.lit (.w .u64 (C 6))⟩,⟨17,3,.lit (.w .u64 S6)⟩,⟨18,2,.lit (.w .u64 q)⟩,⟨21,2,.lit (.w .u64 (D 1))⟩,⟨28,4,.lit (.w .u64 (Mm 0))⟩,⟨29,2,.lit (.w .u64 (D 2))⟩,⟨28,4,.lit (.w .u64 (Mm 1))⟩,⟨29,2,.lit (.w .u64 (D 3))⟩,⟨28,4,.lit (.w .u64 (Mm 2))⟩,⟨29,2,.lit (.w .u64 (D 4))⟩,⟨28,4,.lit (.w .u64 (Mm 3))⟩,⟨29,2,.lit (.w .u64 (D 5))⟩,⟨28,4,.lit (.w .u64 (Mm 4))⟩,⟨29,2,.lit (.w .u64 (D 6))⟩,⟨31,5,.lit (.w .u64 (Mm 5))⟩,⟨31,6,.lit (.w .u64 cc)⟩] ?_
    have next:∃ j:{x // InvMu a b x},6 - j.1.1 < 6 - 3/\VMu b (3 + 1) = VMu b j.1.1/\HMu a b (upd (upd (upd (upd (upd (upd (upd (upd (upd (upd (upd (upd (upd (upd t 0 (L 0)) 1 (L 1)) 2 (L 2)) 3 (L 3)) 4 (L 4)) 5 (L 5)) 6 S6) 0 (Mm 0)) 1 (Mm 1)) 2 (Mm 2)) 3 (Mm 3)) 4 (Mm 4)) 5 (Mm 5)) 6 cc) = HMu a b j.1.2:=by
     refine ⟨⟨(3 + 1,(upd (upd (upd (upd (upd (upd (upd (upd (upd (upd (upd (upd (upd (upd t 0 (L 0)) 1 (L 1)) 2 (L 2)) 3 (L 3)) 4 (L 4)) 5 (L 5)) 6 S6) 0 (Mm 0)) 1 (Mm 1)) 2 (Mm 2)) 3 (Mm 3)) 4 (Mm 4)) 5 (Mm 5)) 6 cc)),by simp only;omega,?_⟩,by simp only;omega,rfl,rfl⟩
     simp only
     obtain ⟨T2,e1,e2⟩:=mont_row low hC hL hS6 hS7 hq hD hMm hcc
     have e3:sB W (upd (upd (upd (upd (upd (upd (upd (upd (upd (upd (upd (upd (upd (upd t 0 (L 0)) 1 (L 1)) 2 (L 2)) 3 (L 3)) 4 (L 4)) 5 (L 5)) 6 S6) 0 (Mm 0)) 1 (Mm 1)) 2 (Mm 2)) 3 (Mm 3)) 4 (Mm 4)) 5 (Mm 5)) 6 cc) 7 = T2:=by rw [e1];exact sB7 (fun j hj=>mu_upd hm6 hj)
     rw [e3]
     have:=mont_round (N:=nv prF) (B:=nv a) (x:=b 3 % W) (i:=3) rfl e2 hT hQ (Nat.mod_lt _ (by decide))
     exact ⟨_,by rw [show sB W b (3 + 1) = sB W b 3 + W ^ 3 * (b 3 % W) from rfl];exact this.1,this.2⟩
    have z1:0 % W <= 1:=by decide
    refine same (p:=0 % W <= 1/\0 % W <= 1/\mLo (b 3) (a 0) (t 0) 0 = L 0/\mHi (b 3) (a 0) (t 0) 0 = C 1/\0 % W <= 1/\0 % W <= 1/\mLo (b 3) (a 1) (t 1) (C 1) = L 1/\mHi (b 3) (a 1) (t 1) (C 1) = C 2/\0 % W <= 1/\0 % W <= 1/\mLo (b 3) (a 2) (t 2) (C 2) = L 2/\mHi (b 3) (a 2) (t 2) (C 2) = C 3/\0 % W <= 1/\0 % W <= 1/\mLo (b 3) (a 3) (t 3) (C 3) = L 3/\mHi (b 3) (a 3) (t 3) (C 3) = C 4/\0 % W <= 1/\0 % W <= 1/\mLo (b 3) (a 4) (t 4) (C 4) = L 4/\mHi (b 3) (a 4) (t 4) (C 4) = C 5/\0 % W <= 1/\0 % W <= 1/\mLo (b 3) (a 5) (t 5) (C 5) = L 5/\mHi (b 3) (a 5) (t 5) (C 5) = C 6/\t 6 + C 6 = S6/\L 0 * lowN = q/\0 % W <= 1/\q % W * (prF 0 % W) / W + (q * prF 0 % W + L 0 % W + 0 % W) / W = D 1/\0 % W <= 1/\0 % W <= 1/\mLo q (prF 1) (L 1) (D 1) = Mm 0/\mHi q (prF 1) (L 1) (D 1) = D 2/\0 % W <= 1/\0 % W <= 1/\mLo q (prF 2) (L 2) (D 2) = Mm 1/\mHi q (prF 2) (L 2) (D 2) = D 3/\0 % W <= 1/\0 % W <= 1/\mLo q (prF 3) (L 3) (D 3) = Mm 2/\mHi q (prF 3) (L 3) (D 3) = D 4/\0 % W <= 1/\0 % W <= 1/\mLo q (prF 4) (L 4) (D 4) = Mm 3/\mHi q (prF 4) (L 4) (D 4) = D 5/\0 % W <= 1/\0 % W <= 1/\mLo q (prF 5) (L 5) (D 5) = Mm 4/\mHi q (prF 5) (L 5) (D 5) = D 6/\0 % W <= 1/\S6 + D 6 + 0 = Mm 5/\(S6 % W + D 6 % W + 0 % W) / W = cc/\true = true/\∃ j:{x // InvMu a b x},6 - j.1.1 < 6 - 3/\VMu b (3 + 1) = VMu b j.1.1/\HMu a b (upd (upd (upd (upd (upd (upd (upd (upd (upd (upd (upd (upd (upd (upd t 0 (L 0)) 1 (L 1)) 2 (L 2)) 3 (L 3)) 4 (L 4)) 5 (L 5)) 6 S6) 0 (Mm 0)) 1 (Mm 1)) 2 (Mm 2)) 3 (Mm 3)) 4 (Mm 4)) 5 (Mm 5)) 6 cc) = HMu a b j.1.2) ?_ (by kernel_rfl)
    clear h7 hm6
    subst hC hL hS6 hS7 hq hD hMm hcc
    exact ⟨z1,⟨z1,⟨rfl,⟨rfl,⟨z1,⟨z1,⟨rfl,⟨rfl,⟨z1,⟨z1,⟨rfl,⟨rfl,⟨z1,⟨z1,⟨rfl,⟨rfl,⟨z1,⟨z1,⟨rfl,⟨rfl,⟨z1,⟨z1,⟨rfl,⟨rfl,⟨rfl,⟨rfl,⟨z1,⟨rfl,⟨z1,⟨z1,⟨rfl,⟨rfl,⟨z1,⟨z1,⟨rfl,⟨rfl,⟨z1,⟨z1,⟨rfl,⟨rfl,⟨z1,⟨z1,⟨rfl,⟨rfl,⟨z1,⟨z1,⟨rfl,⟨rfl,⟨z1,⟨rfl,⟨rfl,⟨rfl,next⟩⟩⟩⟩⟩⟩⟩⟩⟩⟩⟩⟩⟩⟩⟩⟩⟩⟩⟩⟩⟩⟩⟩⟩⟩⟩⟩⟩⟩⟩⟩⟩⟩⟩⟩⟩⟩⟩⟩⟩⟩⟩⟩⟩⟩⟩⟩⟩⟩⟩⟩⟩
   ·obtain ⟨C,hC⟩:∃ C:Nat->Nat,C = crow (b 4) a t:=⟨_,rfl⟩
    obtain ⟨L,hL⟩:∃ L:Nat->Nat,L = fun k=>mLo (b 4) (a k) (t k) (C k):=⟨_,rfl⟩
    obtain ⟨S6,hS6⟩:∃ x,x = t 6 + C 6:=⟨_,rfl⟩
    obtain ⟨S7,hS7⟩:∃ x,x = (t 6 % W + C 6 % W + 0 % W) / W:=⟨_,rfl⟩
    obtain ⟨q,hq⟩:∃ x,x = L 0 * lowN:=⟨_,rfl⟩
    obtain ⟨D,hD⟩:∃ D:Nat->Nat,D = drow q prF L:=⟨_,rfl⟩
    obtain ⟨Mm,hMm⟩:∃ M:Nat->Nat,M = mrow q prF L D S6 S7:=⟨_,rfl⟩
    obtain ⟨cc,hcc⟩:∃ x,x = (S6 % W + D 6 % W + 0 % W) / W:=⟨_,rfl⟩
    have h7:S7 = 0:=row_top hC hL hS7 (by
     have hb:=rBd (w:=W) (B:=nv a) (N:=nv prF) (x:=b 4 % W) (i:=4) hT hQ (sB_lt b 4) (Nat.mod_lt _ (by decide)) ha'
     rw [nv_prime] at hb
     exact Nat.lt_of_lt_of_le hb (by decide))
    have hm6:Mm 6 = cc:=by rw [hMm,hcc,h7];show 0 + _ = _;rw [Nat.zero_add]
    refine rQ mxd tK GMu_ok 100 [⟨13,4,.lit (.w .u64 (L 0))⟩,⟨14,2,.lit (.w .u64 (C 1))⟩,⟨13,4,.lit (.w .u64 (L 1))⟩,⟨14,2,.lit (.w .u64 (C 2))⟩,⟨13,4,.lit (.w .u64 (L 2))⟩,⟨14,2,.lit (.w .u64 (C 3))⟩,⟨13,4,.lit (.w .u64 (L 3))⟩,⟨14,2,.lit (.w .u64 (C 4))⟩,⟨13,4,.lit (.w .u64 (L 4))⟩,⟨14,2,.lit (.w .u64 (C 5))⟩,⟨13,4,.lit (.w .u64 (L 5))⟩,⟨14,2,.lit (.w .u64 (C 6))⟩,⟨17,3,.lit (.w .u64 S6)⟩,⟨18,2,.lit (.w .u64 q)⟩,⟨21,2,.lit (.w .u64 (D 1))⟩,⟨28,4,.lit (.w .u64 (Mm 0))⟩,⟨29,2,.lit (.w .u64 (D 2))⟩,⟨28,4,.lit (.w .u64 (Mm 1))⟩,⟨29,2,.lit (.w .u64 (D 3))⟩,⟨28,4,.lit (.w .u64 (Mm 2))⟩,⟨29,2,.lit (.w .u64 (D 4))⟩,⟨28,4,.lit (.w .u64 (Mm 3))⟩,⟨29,2,.lit (.w .u64 (D 5))⟩,⟨28,4,.lit (.w .u64 (Mm 4))⟩,⟨29,2,.lit (.w .u64 (D 6))⟩,⟨31,5,.lit (.w .u64 (Mm 5))⟩,⟨31,6,.lit (.w .u64 cc)⟩] ?_
    have next:∃ j:{x // InvMu a b x},6 - j.1.1 < 6 - 4/\VMu b (4 + 1) = VMu b j.1.1/\HMu a b (upd (upd (upd (upd (upd (upd (upd (upd (upd (upd (upd (upd (upd (upd t 0 (L 0)) 1 (L 1)) 2 (L 2)) 3 (L 3)) 4 (L 4)) 5 (L 5)) 6 S6) 0 (Mm 0)) 1 (Mm 1)) 2 (Mm 2)) 3 (Mm 3)) 4 (Mm 4)) 5 (Mm 5)) 6 cc) = HMu a b j.1.2:=by
     refine ⟨⟨(4 + 1,(upd (upd (upd (upd (upd (upd (upd (upd (upd (upd (upd (upd (upd (upd t 0 (L 0)) 1 (L 1)) 2 (L 2)) 3 (L 3)) 4 (L 4)) 5 (L 5)) 6 S6) 0 (Mm 0)) 1 (Mm 1)) 2 (Mm 2)) 3 (Mm 3)) 4 (Mm 4)) 5 (Mm 5)) 6 cc)),by simp only;omega,?_⟩,by simp only;omega,rfl,rfl⟩
     simp only
     obtain ⟨T2,e1,e2⟩:=mont_row low hC hL hS6 hS7 hq hD hMm hcc
     have e3:sB W (upd (upd (upd (upd (upd (upd (upd (upd (upd (upd (upd (upd (upd (upd t 0 (L 0)) 1 (L 1)) 2 (L 2)) 3 (L 3)) 4 (L 4)) 5 (L 5)) 6 S6) 0 (Mm 0)) 1 (Mm 1)) 2 (Mm 2)) 3 (Mm 3)) 4 (Mm 4)) 5 (Mm 5)) 6 cc) 7 = T2:=by rw [e1];exact sB7 (fun j hj=>mu_upd hm6 hj)
     rw [e3]
     have:=mont_round (N:=nv prF) (B:=nv a) (x:=b 4 % W) (i:=4) rfl e2 hT hQ (Nat.mod_lt _ (by decide))
     exact ⟨_,by rw [show sB W b (4 + 1) = sB W b 4 + W ^ 4 * (b 4 % W) from rfl];exact this.1,this.2⟩
    have z1:0 % W <= 1:=by decide
    refine same (p:=0 % W <= 1/\0 % W <= 1/\mLo (b 4) (a 0) (t 0) 0 = L 0/\mHi (b 4) (a 0) (t 0) 0 = C 1/\0 % W <= 1/\0 % W <= 1/\mLo (b 4) (a 1) (t 1) (C 1) = L 1/\mHi (b 4) (a 1) (t 1) (C 1) = C 2/\0 % W <= 1/\0 % W <= 1/\mLo (b 4) (a 2) (t 2) (C 2) = L 2/\mHi (b 4) (a 2) (t 2) (C 2) = C 3/\0 % W <= 1/\0 % W <= 1/\mLo (b 4) (a 3) (t 3) (C 3) = L 3/\mHi (b 4) (a 3) (t 3) (C 3) = C 4/\0 % W <= 1/\0 % W <= 1/\mLo (b 4) (a 4) (t 4) (C 4) = L 4/\mHi (b 4) (a 4) (t 4) (C 4) = C 5/\0 % W <= 1/\0 % W <= 1/\mLo (b 4) (a 5) (t 5) (C 5) = L 5/\mHi (b 4) (a 5) (t 5) (C 5) = C 6/\t 6 + C 6 = S6/\L 0 * lowN = q/\0 % W <= 1/\q % W * (prF 0 % W) / W + (q * prF 0 % W + L 0 % W + 0 % W) / W = D 1/\0 % W <= 1/\0 % W <= 1/\mLo q (prF 1) (L 1) (D 1) = Mm 0/\mHi q (prF 1) (L 1) (D 1) = D 2/\0 % W <= 1/\0 % W <= 1/\mLo q (prF 2) (L 2) (D 2) = Mm 1/\mHi q (prF 2) (L 2) (D 2) = D 3/\0 % W <= 1/\0 % W <= 1/\mLo q (prF 3) (L 3) (D 3) = Mm 2/\mHi q (prF 3) (L 3) (D 3) = D 4/\0 % W <= 1/\0 % W <= 1/\mLo q (prF 4) (L 4) (D 4) = Mm 3/\mHi q (prF 4) (L 4) (D 4) = D 5/\0 % W <= 1/\0 % W <= 1/\mLo q (prF 5) (L 5) (D 5) = Mm 4/\mHi q (prF 5) (L 5) (D 5) = D 6/\0 % W <= 1/\S6 + D 6 + 0 = Mm 5/\(S6 % W + D 6 % W + 0 % W) / W = cc/\true = true/\∃ j:{x // InvMu a b x},6 - j.1.1 < 6 - 4/\VMu b (4 + 1) = VMu b j.1.1/\HMu a b (upd (upd (upd (upd (upd (upd (upd (upd (upd (upd (upd (upd (upd (upd t 0 (L 0)) 1 (L 1)) 2 (L 2)) 3 (L 3)) 4 (L 4)) 5 (L 5)) 6 S6) 0 (Mm 0)) 1 (Mm 1)) 2 (Mm 2)) 3 (Mm 3)) 4 (Mm 4)) 5 (Mm 5)) 6 cc) = HMu a b j.1.2) ?_ (by kernel_rfl)
    clear h7 hm6
    subst hC hL hS6 hS7 hq hD hMm hcc
    exact ⟨z1,⟨z1,⟨rfl,⟨rfl,⟨z1,⟨z1,⟨rfl,⟨rfl,⟨z1,⟨z1,⟨rfl,⟨rfl,⟨z1,⟨z1,⟨rfl,⟨rfl,⟨z1,⟨z1,⟨rfl,⟨rfl,⟨z1,⟨z1,⟨rfl,⟨rfl,⟨rfl,⟨rfl,⟨z1,⟨rfl,⟨z1,⟨z1,⟨rfl,⟨rfl,⟨z1,⟨z1,⟨rfl,⟨rfl,⟨z1,⟨z1,⟨rfl,⟨rfl,⟨z1,⟨z1,⟨rfl,⟨rfl,⟨z1,⟨z1,⟨rfl,⟨rfl,⟨z1,⟨rfl,⟨rfl,⟨rfl,next⟩⟩⟩⟩⟩⟩⟩⟩⟩⟩⟩⟩⟩⟩⟩⟩⟩⟩⟩⟩⟩⟩⟩⟩⟩⟩⟩⟩⟩⟩⟩⟩⟩⟩⟩⟩⟩⟩⟩⟩⟩⟩⟩⟩⟩⟩⟩⟩⟩⟩⟩⟩
   ·obtain ⟨C,hC⟩:∃ C:Nat->Nat,C = crow (b 5) a t:=⟨_,rfl⟩
    obtain ⟨L,hL⟩:∃ L:Nat->Nat,L = fun k=>mLo (b 5) (a k) (t k) (C k):=⟨_,rfl⟩
    obtain ⟨S6,hS6⟩:∃ x,x = t 6 + C 6:=⟨_,rfl⟩
    obtain ⟨S7,hS7⟩:∃ x,x = (t 6 % W + C 6 % W + 0 % W) / W:=⟨_,rfl⟩
    obtain ⟨q,hq⟩:∃ x,x = L 0 * lowN:=⟨_,rfl⟩
    obtain ⟨D,hD⟩:∃ D:Nat->Nat,D = drow q prF L:=⟨_,rfl⟩
    obtain ⟨Mm,hMm⟩:∃ M:Nat->Nat,M = mrow q prF L D S6 S7:=⟨_,rfl⟩
    obtain ⟨cc,hcc⟩:∃ x,x = (S6 % W + D 6 % W + 0 % W) / W:=⟨_,rfl⟩
    have h7:S7 = 0:=row_top hC hL hS7 (by
     have hb:=rBd (w:=W) (B:=nv a) (N:=nv prF) (x:=b 5 % W) (i:=5) hT hQ (sB_lt b 5) (Nat.mod_lt _ (by decide)) ha'
     rw [nv_prime] at hb
     exact Nat.lt_of_lt_of_le hb (by decide))
    have hm6:Mm 6 = cc:=by rw [hMm,hcc,h7];show 0 + _ = _;rw [Nat.zero_add]
    refine rQ mxd tK GMu_ok 100 [⟨13,4,.lit (.w .u64 (L 0))⟩,⟨14,2,.lit (.w .u64 (C 1))⟩,⟨13,4,.lit (.w .u64 (L 1))⟩,⟨14,2,.lit (.w .u64 (C 2))⟩,⟨13,4,.lit (.w .u64 (L 2))⟩,⟨14,2,.lit (.w .u64 (C 3))⟩,⟨13,4,.lit (.w .u64 (L 3))⟩,⟨14,2,.lit (.w .u64 (C 4))⟩,⟨13,4,.lit (.w .u64 (L 4))⟩,⟨14,2,.lit (.w .u64 (C 5))⟩,⟨13,4,.lit (.w .u64 (L 5))⟩,⟨14,2,.lit (.w .u64 (C 6))⟩,⟨17,3,.lit (.w .u64 S6)⟩,⟨18,2,.lit (.w .u64 q)⟩,⟨21,2,.lit (.w .u64 (D 1))⟩,⟨28,4,.lit (.w .u64 (Mm 0))⟩,⟨29,2,.lit (.w .u64 (D 2))⟩,⟨28,4,.lit (.w .u64 (Mm 1))⟩,⟨29,2,.lit (.w .u64 (D 3))⟩,⟨28,4,.lit (.w .u64 (Mm 2))⟩,⟨29,2,.lit (.w .u64 (D 4))⟩,⟨28,4,.lit (.w .u64 (Mm 3))⟩,⟨29,2,.lit (.w .u64 (D 5))⟩,⟨28,4,.lit (.w .u64 (Mm 4))⟩,⟨29,2,.lit (.w .u64 (D 6))⟩,⟨31,5,.lit (.w .u64 (Mm 5))⟩,⟨31,6,.lit (.w .u64 cc)⟩] ?_
    have next:∃ j:{x // InvMu a b x},6 - j.1.1 < 6 - 5/\VMu b (5 + 1) = VMu b j.1.1/\HMu a b (upd (upd (upd (upd (upd (upd (upd (upd (upd (upd (upd (upd (upd (upd t 0 (L 0)) 1 (L 1)) 2 (L 2)) 3 (L 3)) 4 (L 4)) 5 (L 5)) 6 S6) 0 (Mm 0)) 1 (Mm 1)) 2 (Mm 2)) 3 (Mm 3)) 4 (Mm 4)) 5 (Mm 5)) 6 cc) = HMu a b j.1.2:=by
     refine ⟨⟨(5 + 1,(upd (upd (upd (upd (upd (upd (upd (upd (upd (upd (upd (upd (upd (upd t 0 (L 0)) 1 (L 1)) 2 (L 2)) 3 (L 3)) 4 (L 4)) 5 (L 5)) 6 S6) 0 (Mm 0)) 1 (Mm 1)) 2 (Mm 2)) 3 (Mm 3)) 4 (Mm 4)) 5 (Mm 5)) 6 cc)),by simp only;omega,?_⟩,by simp only;omega,rfl,rfl⟩
     simp only
     obtain ⟨T2,e1,e2⟩:=mont_row low hC hL hS6 hS7 hq hD hMm hcc
     have e3:sB W (upd (upd (upd (upd (upd (upd (upd (upd (upd (upd (upd (upd (upd (upd t 0 (L 0)) 1 (L 1)) 2 (L 2)) 3 (L 3)) 4 (L 4)) 5 (L 5)) 6 S6) 0 (Mm 0)) 1 (Mm 1)) 2 (Mm 2)) 3 (Mm 3)) 4 (Mm 4)) 5 (Mm 5)) 6 cc) 7 = T2:=by rw [e1];exact sB7 (fun j hj=>mu_upd hm6 hj)
     rw [e3]
     have:=mont_round (N:=nv prF) (B:=nv a) (x:=b 5 % W) (i:=5) rfl e2 hT hQ (Nat.mod_lt _ (by decide))
     exact ⟨_,by rw [show sB W b (5 + 1) = sB W b 5 + W ^ 5 * (b 5 % W) from rfl];exact this.1,this.2⟩
    have z1:0 % W <= 1:=by decide
    refine same (p:=0 % W <= 1/\0 % W <= 1/\mLo (b 5) (a 0) (t 0) 0 = L 0/\mHi (b 5) (a 0) (t 0) 0 = C 1/\0 % W <= 1/\0 % W <= 1/\mLo (b 5) (a 1) (t 1) (C 1) = L 1/\mHi (b 5) (a 1) (t 1) (C 1) = C 2/\0 % W <= 1/\0 % W <= 1/\mLo (b 5) (a 2) (t 2) (C 2) = L 2/\mHi (b 5) (a 2) (t 2) (C 2) = C 3/\0 % W <= 1/\0 % W <= 1/\mLo (b 5) (a 3) (t 3) (C 3) = L 3/\mHi (b 5) (a 3) (t 3) (C 3) = C 4/\0 % W <= 1/\0 % W <= 1/\mLo (b 5) (a 4) (t 4) (C 4) = L 4/\mHi (b 5) (a 4) (t 4) (C 4) = C 5/\0 % W <= 1/\0 % W <= 1/\mLo (b 5) (a 5) (t 5) (C 5) = L 5/\mHi (b 5) (a 5) (t 5) (C 5) = C 6/\t 6 + C 6 = S6/\L 0 * lowN = q/\0 % W <= 1/\q % W * (prF 0 % W) / W + (q * prF 0 % W + L 0 % W + 0 % W) / W = D 1/\0 % W <= 1/\0 % W <= 1/\mLo q (prF 1) (L 1) (D 1) = Mm 0/\mHi q (prF 1) (L 1) (D 1) = D 2/\0 % W <= 1/\0 % W <= 1/\mLo q (prF 2) (L 2) (D 2) = Mm 1/\mHi q (prF 2) (L 2) (D 2) = D 3/\0 % W <= 1/\0 % W <= 1/\mLo q (prF 3) (L 3) (D 3) = Mm 2/\mHi q (prF 3) (L 3) (D 3) = D 4/\0 % W <= 1/\0 % W <= 1/\mLo q (prF 4) (L 4) (D 4) = Mm 3/\mHi q (prF 4) (L 4) (D 4) = D 5/\0 % W <= 1/\0 % W <= 1/\mLo q (prF 5) (L 5) (D 5) = Mm 4/\mHi q (prF 5) (L 5) (D 5) = D 6/\0 % W <= 1/\S6 + D 6 + 0 = Mm 5/\(S6 % W + D 6 % W + 0 % W) / W = cc/\true = true/\∃ j:{x // InvMu a b x},6 - j.1.1 < 6 - 5/\VMu b (5 + 1) = VMu b j.1.1/\HMu a b (upd (upd (upd (upd (upd (upd (upd (upd (upd (upd (upd (upd (upd (upd t 0 (L 0)) 1 (L 1)) 2 (L 2)) 3 (L 3)) 4 (L 4)) 5 (L 5)) 6 S6) 0 (Mm 0)) 1 (Mm 1)) 2 (Mm 2)) 3 (Mm 3)) 4 (Mm 4)) 5 (Mm 5)) 6 cc) = HMu a b j.1.2) ?_ (by kernel_rfl)
    clear h7 hm6
    subst hC hL hS6 hS7 hq hD hMm hcc
    exact ⟨z1,⟨z1,⟨rfl,⟨rfl,⟨z1,⟨z1,⟨rfl,⟨rfl,⟨z1,⟨z1,⟨rfl,⟨rfl,⟨z1,⟨z1,⟨rfl,⟨rfl,⟨z1,⟨z1,⟨rfl,⟨rfl,⟨z1,⟨z1,⟨rfl,⟨rfl,⟨rfl,⟨rfl,⟨z1,⟨rfl,⟨z1,⟨z1,⟨rfl,⟨rfl,⟨z1,⟨z1,⟨rfl,⟨rfl,⟨z1,⟨z1,⟨rfl,⟨rfl,⟨z1,⟨z1,⟨rfl,⟨rfl,⟨z1,⟨z1,⟨rfl,⟨rfl,⟨z1,⟨rfl,⟨rfl,⟨rfl,next⟩⟩⟩⟩⟩⟩⟩⟩⟩⟩⟩⟩⟩⟩⟩⟩⟩⟩⟩⟩⟩⟩⟩⟩⟩⟩⟩⟩⟩⟩⟩⟩⟩⟩⟩⟩⟩⟩⟩⟩⟩⟩⟩⟩⟩⟩⟩⟩⟩⟩⟩⟩
   ·refine rQ mxd tK GMu_ok 100 [] ?_
    refine same (p:=true = true/\∃ j:{x // InvMu a b x},j.1.1 = 6/\VMu b 6 = VMu b j.1.1/\HMu a b t = HMu a b j.1.2) ?_ (by kernel_rfl)
    exact ⟨rfl,⟨(6,t),hi,Q,hT,hQ⟩,rfl,rfl,rfl⟩
  ·intro ⟨⟨i,t⟩,hi,Q,hT,hQ⟩ junk h6
   simp only at hi hT hQ h6
   subst h6
   refine same (p:=endN (numA (lessV pN (nv t))) (nm (eF (eMul (dF a) (dF b))))) ?_ (by kernel_rfl)
   rw [sB_W b 6,<-nv_nvn,<-R_eq] at hT
   rw [<-R_eq] at hQ
   obtain ⟨h1,h2⟩:=mont_end (by rw [nv_prime];exact pN_odd) (by rw [nv_prime];exact pN_pos) (nv_lt b) (nv_lt a) (.inr ha') hQ hT
   have h7:=sB7_nv (t:=t) (Nat.lt_of_lt_of_le h1 (by rw [nv_prime];omega))
   rw [h7,nv_prime] at h2
   have e:lessV pN (nv t) = enc (eMul (dF a) (dF b)):=by
    unfold lessV
    rw [h2,mont_enc]
    unfold eMul dF
    rw [show dec (nv b) * dec (nv a) = dec (nv a) * dec (nv b) from by grind]
   refine endN_nm ?_
   rw [e,nv_eF,nv_wd,Nat.mod_eq_of_lt (Nat.lt_trans (enc_lt _) pN_lt)]
 ·cases e
end Go.Proofs.YtnjocbcjejpklaaGreat
namespace Go.Rq
open Go
theorem div_next (x k:Nat):x / 2 ^ k = 2 * (x / 2 ^ (k + 1)) + x / 2 ^ k % 2:=by
 have hd:x / 2 ^ (k + 1) = x / 2 ^ k / 2:=by rw [Nat.div_div_eq_div_mul,Nat.pow_succ]
 rw [hd];omega
end Go.Rq
namespace Go.Proofs.YtnjocbcjejpklaaGreat
open Go.Rq Go
set_option maxRecDepth 100000
def vF (z:Fp):Nat->Nat:=wd z.val
theorem nv_vF (z:Fp):nv (vF z) = z.val:=by
 unfold vF
 rw [nv_wd,Nat.mod_eq_of_lt (Nat.lt_trans z.isLt pN_lt)]
theorem ofN_vF (z:Fp):ofN (nv (vF z)) = z:=by rw [nv_vF,ofN_self]
def cTo:List AV->Option (List Prop × AV)
 | [.v1 (.agg [.ws .u64 6 a])]=>some ([],nm (eF (ofN (nv a))))
 | _=>none
def cFrom:List AV->Option (List Prop × AV)
 | [.v1 (.agg [.ws .u64 6 a])]=>some ([nv a < pN],nm (vF (dF a)))
 | _=>none
def GTo:Ctx:=ctxL [(162,.pure (cK wideF)),(102,.pure cEMul)]
theorem GTo_ok:CtxOk Tryz.prog GTo:=cxC okWide0 <| cxC okEMul cxN
theorem okTo:(CallC.pure cTo).Ok Tryz.prog 105:=by
 intro args pre v e _
 unfold cTo at e
 split at e
 ·rename_i a
  cases e
  refine pWk tK Tryz.func105 (by kernel_rfl) (by kernel_rfl) (by rfl) (by rfl) ?_
  refine eSq mxd tK GTo_ok 60 [] ?_
  refine same (p:=nv wideF < pN/\endN (nm (eF (eMul (dF wideF) (dF a)))) (nm (eF (ofN (nv a))))) ?_ (by kernel_rfl)
  refine ⟨by rw [nv_wide];exact Nat.mod_lt _ pN_pos,endN_nm ?_⟩
  rw [nv_eF,nv_eF]
  unfold eMul dF
  rw [<-mont_enc,nv_wide,to_enc]
 ·cases e
theorem nv_u1:nv (upd (fun _=>0) 0 1) = 1:=by kernel_rfl
theorem okFrom:(CallC.pure cFrom).Ok Tryz.prog 133:=by
 intro args pre v e hp
 unfold cFrom at e
 split at e
 ·rename_i a
  cases e
  have ha:nv a < pN:=hp _ (List.mem_cons_self ..)
  refine pWk tK Tryz.func133 (by kernel_rfl) (by kernel_rfl) (by rfl) (by rfl) ?_
  refine eSq mxd tK GTo_ok 60 [] ?_
  refine same (p:=nv a < pN/\endN (nm (eF (eMul (dF a) (dF (upd (fun _=>0) 0 1))))) (nm (vF (dF a)))) ?_ (by kernel_rfl)
  refine ⟨ha,endN_nm ?_⟩
  rw [nv_eF,nv_vF]
  unfold eMul dF
  rw [<-mont_enc,nv_u1,from_val]
 ·cases e
def ePow (x:Fp):Nat->Fp
 | 0=>1
 | n + 1=>ePow x n * x
theorem ePow_add (x:Fp) (a:Nat):∀ b,ePow x (a + b) = ePow x a * ePow x b
 | 0=>by show ePow x a = ePow x a * 1;grind
 | b + 1=>by
  show ePow x (a + b) * x = ePow x a * (ePow x b * x)
  rw [ePow_add x a b]
  grind
def cEPow:List AV->Option (List Prop × AV)
 | [.v1 (.agg [.ws .u64 6 a]),.v1 (.agg [.ws .u64 6 e])]=>some ([nv a < pN],nm (eF (ePow (dF a) (nv e))))
 | _=>none
def GPo:Ctx:=ctxL [(104,.pure (cK oneF)),(102,.pure cEMul)]
theorem GPo_ok:CtxOk Tryz.prog GPo:=cxC okOne0 <| cxC okEMul cxN
def VPo (k:Nat):List AV:=[pt 0 0,pt 1 0,pt 2 0,pt 4 0,iv (predI k)]
def HPo (a e o:Nat->Nat):Heap:=[nbE a,nb e,nbE (fun _=>0),none,nbE o]
def InvPo (a e:Nat->Nat) (x:Nat × (Nat->Nat)):Prop:=x.1 <= 384/\nv x.2 < pN/\dF x.2 = ePow (dF a) (nv e / 2 ^ x.1)
theorem bit_beq (e:Nat->Nat) {i:Nat} (hi:i < 384):Nat.beq ((e (i / 64) % W / 2 ^ min (i % 64) 64 &&& 1) % W) (1 % W) = Nat.beq (nv e / 2 ^ i % 2) 1:=by
 rw [show min (i % 64) 64 = i % 64 by omega,Nat.and_two_pow_sub_one_eq_mod _ 1,show (2:Nat) ^ 1 = 2 from rfl,bit_nv e i hi]
 have h:nv e / 2 ^ i % 2 < 2:=Nat.mod_lt _ (by omega)
 rw [Nat.mod_eq_of_lt (show nv e / 2 ^ i % 2 < W by simp only [W];omega)]
 rfl
theorem okEPow:(CallC.pure cEPow).Ok Tryz.prog 161:=by
 intro args pre v e hp
 unfold cEPow at e
 split at e
 ·rename_i a e
  cases e
  rename_i e
  have ha:nv a < pN:=hp _ (List.mem_cons_self ..)
  refine pWk tK Tryz.func161 (by kernel_rfl) (by kernel_rfl) (by rfl) (by rfl) ?_
  refine loopF mxd tK GPo_ok (by kernel_rfl) (ι:={x // InvPo a e x}) [2,3,4,5,6] 28 5 (fun x=>VPo x.1.1) (fun x=>HPo a e x.1.2) (fun x=>x.1.1) (fun x=>x.1.1 = 0)
   (fun _=>rfl) (fun _=>by kernel_rfl) (fun _ _ h=>h.elim) 60 [] ?_ ?_ ?_
  ·refine same (p:=true = true/\∃ j:{x // InvPo a e x},VPo 384 = VPo j.1.1/\HPo a e oneF = HPo a e j.1.2) ?_ (by kernel_rfl)
   refine ⟨rfl,⟨(384,oneF),by simp,by rw [one_enc];exact enc_lt 1,?_⟩,rfl,rfl⟩
   have:nv e / 2 ^ 384 = 0:=Nat.div_eq_of_lt (by have:=nv_lt e;rw [R_pow,E_eq] at this;exact this)
   simp only
   rw [this]
   unfold dF
   rw [one_enc,dec_enc]
   rfl
  ·intro ⟨⟨k,o⟩,hk,ho,hd⟩ junk
   simp only at hk ho hd
   cases k with
   | zero =>
    refine rQ mxd tK GPo_ok 60 [] ?_
    refine same (p:=true = true/\∃ j:{x // InvPo a e x},j.1.1 = 0/\VPo 0 = VPo j.1.1/\HPo a e o = HPo a e j.1.2) ?_ (by kernel_rfl)
    exact ⟨rfl,⟨(0,o),hk,ho,hd⟩,rfl,rfl,rfl⟩
   | succ k =>
    have hk:k < 384:=by omega
    have h64:k / 64 < 6:=by omega
    have hge:(!ilt (Int.ofNat k) 0) = true:=by rw [ilt_not (by simp)];rfl
    have hs:wrapI (Int.ofNat k - 1) = predI k:=predI_eq (by omega)
    have hn:=div_next (nv e) k
    have next:∀ o':Fp,o' = ePow (dF a) (nv e / 2 ^ k)->∃ j:{x // InvPo a e x},j.1.1 < k + 1/\VPo k = VPo j.1.1/\HPo a e (eF o') = HPo a e j.1.2 :=
     fun o' h'=>⟨⟨(k,eF o'),by simp only;omega,lE o',by simp only;rw [qE,h']⟩,by simp only;omega,rfl,rfl⟩
    have sq:dF o * dF o = ePow (dF a) (2 * (nv e / 2 ^ (k + 1))):=by rw [hd,Nat.two_mul,ePow_add]
    cases hb:Nat.beq (nv e / 2 ^ k % 2) 1
    ·refine rQ mxd tK GPo_ok 60 [⟨3,1,.lit (.bo true)⟩,⟨6,1,.lit (.it (Int.ofNat (k/64)))⟩,⟨6,2,.sym⟩,⟨6,3,.sym⟩,⟨6,5,.lit (.it (Int.ofNat (k%64)))⟩,⟨6,8,.lit (.bo false)⟩,⟨4,1,.lit (.it (predI k))⟩] ?_
     refine same (p:=(!ilt (Int.ofNat k) 0) = true/\nv o < pN/\wrapI ((Int.ofNat k).tdiv 64) = Int.ofNat (k / 64)/\ix (k / 64) 6 ((Int.ofNat k).tmod 64 = Int.ofNat (k % 64) /\
      Nat.beq ((e (k / 64) % W / 2 ^ min (k % 64) 64 &&& 1) % W) (1 % W) = false/\wrapI (Int.ofNat k - 1) = predI k/\true = true /\
      ∃ j:{x // InvPo a e x},j.1.1 < k + 1/\VPo k = VPo j.1.1/\HPo a e (eF (eMul (dF o) (dF o))) = HPo a e j.1.2)) ?_ (by kernel_rfl)
     refine ⟨hge,ho,tdiv64 ⟨k,hk⟩,ix_of h64 ⟨tmod64 ⟨k,hk⟩,by rw [bit_beq e hk,hb],hs,rfl,next _ ?_⟩⟩
     have h0:nv e / 2 ^ k % 2 = 0:=by
      have:nv e / 2 ^ k % 2 ≠ 1:=fun e'=>by rw [<-Nat.beq_eq,hb] at e';cases e'
      omega
     rw [h0,Nat.add_zero] at hn
     unfold eMul
     rw [sq,hn]
    ·refine rQ mxd tK GPo_ok 60 [⟨3,1,.lit (.bo true)⟩,⟨6,1,.lit (.it (Int.ofNat (k/64)))⟩,⟨6,2,.sym⟩,⟨6,3,.sym⟩,⟨6,5,.lit (.it (Int.ofNat (k%64)))⟩,⟨6,8,.lit (.bo true)⟩,⟨4,1,.lit (.it (predI k))⟩] ?_
     refine same (p:=(!ilt (Int.ofNat k) 0) = true/\nv o < pN/\wrapI ((Int.ofNat k).tdiv 64) = Int.ofNat (k / 64)/\ix (k / 64) 6 ((Int.ofNat k).tmod 64 = Int.ofNat (k % 64) /\
      Nat.beq ((e (k / 64) % W / 2 ^ min (k % 64) 64 &&& 1) % W) (1 % W) = true/\nv (eF (eMul (dF o) (dF o))) < pN/\wrapI (Int.ofNat k - 1) = predI k/\true = true /\
      ∃ j:{x // InvPo a e x},j.1.1 < k + 1/\VPo k = VPo j.1.1/\HPo a e (eF (eMul (dF (eF (eMul (dF o) (dF o)))) (dF a))) = HPo a e j.1.2)) ?_ (by kernel_rfl)
     refine ⟨hge,ho,tdiv64 ⟨k,hk⟩,ix_of h64 ⟨tmod64 ⟨k,hk⟩,by rw [bit_beq e hk,hb],lE _,hs,rfl,next _ ?_⟩⟩
     rw [Nat.beq_eq] at hb
     rw [hb] at hn
     rw [qE]
     unfold eMul
     rw [sq,hn]
     rfl
  ·intro ⟨⟨k,o⟩,hk,ho,hd⟩ junk h0
   simp only at hk ho hd h0
   subst h0
   refine same (p:=endN (nm o) (nm (eF (ePow (dF a) (nv e))))) ?_ (by kernel_rfl)
   rw [Nat.pow_zero,Nat.div_one] at hd
   rw [<-hd]
   exact endN_nm (eF_dF ho).symm
 ·cases e
def eInv (x:Fp):Fp:=ePow x (pN - 2)
def invF0:Nat->Nat:=upd (upd (upd (upd (upd (upd (fun _=>0) 0 13402431016077863593) 1 2210141511517208575) 2 7435674573564081700) 3 7239337960414712511) 4 5412103778470702295) 5 1873798617647539866
theorem nv_inv0:nv invF0 = pN - 2:=by kernel_rfl
def GIe:Ctx:=ctxL [(161,.pure cEPow)]
theorem GIe_ok:CtxOk Tryz.prog GIe:=cxC okEPow cxN
theorem okEInv:(CallC.pure (el1 eInv)).Ok Tryz.prog 103:=by
 refine el1_ok Tryz.func103 (by kernel_rfl) (by kernel_rfl) fun a ha=>eSq mxd tK GIe_ok 100 [] ?_
 refine same (p:=nv a < pN/\endN (nm (eF (ePow (dF a) (nv invF0)))) (nm (eF (eInv (dF a))))) ?_ (by kernel_rfl)
 exact ⟨ha,endN_nm (by rw [nv_inv0];rfl)⟩
theorem exq {α:Type} (a:α):∃ q,q = a:=⟨a,rfl⟩
abbrev q6 (f:Nat->Nat):Cell:=.ws .u64 6 f
abbrev fz:Nat->Nat:=fun _=>0
abbrev lp (a:Nat->Nat):Prop:=nv a < pN
abbrev eD4 (f g:Fp->Fp->Fp->Fp->Fp) (a b c d:Fp):List Cell:=[.ws .u64 6 (eF (f a b c d)),.ws .u64 6 (eF (g a b c d))]
abbrev f2 (a b:Nat->Nat):AV:=.v1 (.agg [q6 a,q6 b])
theorem f2_val {f g f' g':Nat->Nat} (h:nv f = nv f') (k:nv g = nv g') (ρ:Ren):(f2 f g).val ρ = (f2 f' g').val ρ:=by
 have w:∀ {f g:Nat->Nat},nv f = nv g->cvals ρ [q6 f] = cvals ρ [q6 g]:=fun {f g} h=>by
  simp only [cvals,Cell.vals,List.append_nil]
  refine List.map_congr_left fun j hj=>?_
  have hj':=List.mem_range.1 hj
  have e:f j % W = g j % W:=by rw [<-wd_nv f j hj',<-wd_nv g j hj',h]
  simp only [W] at e
  simp only [M,e]
 have c:∀ f g:Nat->Nat,cvals ρ [q6 f,q6 g] = cvals ρ [q6 f] ++ cvals ρ [q6 g]:=fun f g=>by simp [cvals]
 show Value.agg (cvals ρ _).toArray = Value.agg (cvals ρ _).toArray
 rw [c,c,w h,w k]
theorem endN_f2 {f g f' g':Nat->Nat} (h:nv f = nv f') (k:nv g = nv g'):endN (f2 f g) (f2 f' g'):=⟨_,rfl,f2_val h k⟩
theorem nvE {x y:Fp} (h:x = y):nv (eF x) = nv (eF y):=by rw [h]
def q1 (X Y:Fp->Fp->Fp):List AV->Option (List Prop × AV)
 | [.v1 (.agg [.ws .u64 6 a,.ws .u64 6 b])]=>some ([nv a < pN,nv b < pN],f2 (eF (X (dF a) (dF b))) (eF (Y (dF a) (dF b))))
 | _=>none
def q2 (X Y:Fp->Fp->Fp->Fp->Fp):List AV->Option (List Prop × AV)
 | [.v1 (.agg [.ws .u64 6 a,.ws .u64 6 b]),.v1 (.agg [.ws .u64 6 c,.ws .u64 6 d])]=>some ([nv a < pN,nv b < pN,nv c < pN,nv d < pN],f2 (eF (X (dF a) (dF b) (dF c) (dF d))) (eF (Y (dF a) (dF b) (dF c) (dF d))))
 | _=>none
def qs (X Y:Fp->Fp->Fp->Fp):List AV->Option (List Prop × AV)
 | [.v1 (.agg [.ws .u64 6 a,.ws .u64 6 b]),.v1 (.agg [.ws .u64 6 c])]=>some ([nv a < pN,nv b < pN,nv c < pN],f2 (eF (X (dF a) (dF b) (dF c))) (eF (Y (dF a) (dF b) (dF c))))
 | _=>none
def qn (X:Fp->Fp->Fp):List AV->Option (List Prop × AV)
 | [.v1 (.agg [.ws .u64 6 a,.ws .u64 6 b])]=>some ([nv a < pN,nv b < pN],nm (eF (X (dF a) (dF b))))
 | _=>none
theorem q1_ok {X Y:Fp->Fp->Fp} {f:FuncId} {fn:Func} (hf:Tryz.prog.funcs[f]? = some fn) (hb:fn.body = some (bodyOf fn)) (hn:(fn.name == "runtime.NumGoroutine") = false)
  (h:∀ a b:Nat->Nat,nv a < pN->nv b < pN->AWqS Tryz.prog (fun _=>False) (flatC (bodyOf fn)) (FEnd' tt fn (f2 (eF (X (dF a) (dF b))) (eF (Y (dF a) (dF b))))) ⟨frame0 [f2 a b] fn.ntmps,[]⟩):(CallC.pure (q1 X Y)).Ok Tryz.prog f:=by
 intro args pre v e hp
 unfold q1 at e
 split at e
 ·rename_i a b
  cases e
  exact pWk tK hf hb hn (by rfl) (by rfl) (h a b (hp _ (by simp)) (hp _ (by simp)))
 ·cases e
theorem q2_ok {X Y:Fp->Fp->Fp->Fp->Fp} {f:FuncId} {fn:Func} (hf:Tryz.prog.funcs[f]? = some fn) (hb:fn.body = some (bodyOf fn)) (hn:(fn.name == "runtime.NumGoroutine") = false)
  (h:∀ a b c d:Nat->Nat,nv a < pN->nv b < pN->nv c < pN->nv d < pN->AWqS Tryz.prog (fun _=>False) (flatC (bodyOf fn)) (FEnd' tt fn (f2 (eF (X (dF a) (dF b) (dF c) (dF d))) (eF (Y (dF a) (dF b) (dF c) (dF d))))) ⟨frame0 [f2 a b,f2 c d] fn.ntmps,[]⟩):(CallC.pure (q2 X Y)).Ok Tryz.prog f:=by
 intro args pre v e hp
 unfold q2 at e
 split at e
 ·rename_i a b c d
  cases e
  exact pWk tK hf hb hn (by rfl) (by rfl) (h a b c d (hp _ (by simp)) (hp _ (by simp)) (hp _ (by simp)) (hp _ (by simp)))
 ·cases e
theorem qs_ok {X Y:Fp->Fp->Fp->Fp} {f:FuncId} {fn:Func} (hf:Tryz.prog.funcs[f]? = some fn) (hb:fn.body = some (bodyOf fn)) (hn:(fn.name == "runtime.NumGoroutine") = false)
  (h:∀ a b c:Nat->Nat,nv a < pN->nv b < pN->nv c < pN->AWqS Tryz.prog (fun _=>False) (flatC (bodyOf fn)) (FEnd' tt fn (f2 (eF (X (dF a) (dF b) (dF c))) (eF (Y (dF a) (dF b) (dF c))))) ⟨frame0 [f2 a b,nm c] fn.ntmps,[]⟩):(CallC.pure (qs X Y)).Ok Tryz.prog f:=by
 intro args pre v e hp
 unfold qs at e
 split at e
 ·rename_i a b c
  cases e
  exact pWk tK hf hb hn (by rfl) (by rfl) (h a b c (hp _ (by simp)) (hp _ (by simp)) (hp _ (by simp)))
 ·cases e
theorem qn_ok {X:Fp->Fp->Fp} {f:FuncId} {fn:Func} (hf:Tryz.prog.funcs[f]? = some fn) (hb:fn.body = some (bodyOf fn)) (hn:(fn.name == "runtime.NumGoroutine") = false)
  (h:∀ a b:Nat->Nat,nv a < pN->nv b < pN->AWqS Tryz.prog (fun _=>False) (flatC (bodyOf fn)) (FEnd' tt fn (nm (eF (X (dF a) (dF b))))) ⟨frame0 [f2 a b] fn.ntmps,[]⟩):(CallC.pure (qn X)).Ok Tryz.prog f:=by
 intro args pre v e hp
 unfold qn at e
 split at e
 ·rename_i a b
  cases e
  exact pWk tK hf hb hn (by rfl) (by rfl) (h a b (hp _ (by simp)) (hp _ (by simp)))
 ·cases e
def GE:Ctx:=ctxL [(100,.pure (el2 eAdd)),(101,.pure (el2 eSub)),(183,.pure (el1 eNeg)),(102,.pure cEMul)]
theorem GE_ok:CtxOk Tryz.prog GE:=cxC okEAdd <| cxC okESub <| cxC okENeg <| cxC okEMul cxN
def add2x (a _ c _:Fp):Fp:=a + c
def add2y (_ b _ d:Fp):Fp:=b + d
def sub2x (a _ c _:Fp):Fp:=a - c
def sub2y (_ b _ d:Fp):Fp:=b - d
def mul2x (a b c d:Fp):Fp:=a * c - b * d
def mul2y (a b c d:Fp):Fp:=a * d + b * c
def neg2x (a _:Fp):Fp:=0 - a
def neg2y (_ b:Fp):Fp:=0 - b
def cj2x (a _:Fp):Fp:=a
def cj2y (_ b:Fp):Fp:=0 - b
def sc2x (a _ n:Fp):Fp:=a * n
def sc2y (_ b n:Fp):Fp:=b * n
def nor2 (a b:Fp):Fp:=a * a + b * b
theorem okAdd2:(CallC.pure (q2 add2x add2y)).Ok Tryz.prog 110:=by
 refine q2_ok Tryz.func110 (by kernel_rfl) (by kernel_rfl) fun a b c d ha hb hc hd=>eSq mxd tK GE_ok 100 [] ?_
 refine same (p:=nv a < pN/\lp c/\lp b/\lp d/\endN (f2 (eF (eAdd (dF a) (dF c))) (eF (eAdd (dF b) (dF d)))) (f2 (eF (add2x (dF a) (dF b) (dF c) (dF d))) (eF (add2y (dF a) (dF b) (dF c) (dF d))))) ?_ (by kernel_rfl)
 exact ⟨ha,hc,hb,hd,endN_f2 (nvE (by (try simp only [qE]);(try unfold eAdd);(try unfold eSub);(try unfold eNeg);(try unfold eMul);(try unfold add2x);(try unfold add2y);grind)) (nvE (by (try simp only [qE]);(try unfold eAdd);(try unfold eSub);(try unfold eNeg);(try unfold eMul);(try unfold add2x);(try unfold add2y);grind))⟩
theorem okSub2:(CallC.pure (q2 sub2x sub2y)).Ok Tryz.prog 111:=by
 refine q2_ok Tryz.func111 (by kernel_rfl) (by kernel_rfl) fun a b c d ha hb hc hd=>eSq mxd tK GE_ok 100 [] ?_
 refine same (p:=nv a < pN/\lp c/\lp b/\lp d/\endN (f2 (eF (eSub (dF a) (dF c))) (eF (eSub (dF b) (dF d)))) (f2 (eF (sub2x (dF a) (dF b) (dF c) (dF d))) (eF (sub2y (dF a) (dF b) (dF c) (dF d))))) ?_ (by kernel_rfl)
 exact ⟨ha,hc,hb,hd,endN_f2 (nvE (by (try simp only [qE]);(try unfold eAdd);(try unfold eSub);(try unfold eNeg);(try unfold eMul);(try unfold sub2x);(try unfold sub2y);grind)) (nvE (by (try simp only [qE]);(try unfold eAdd);(try unfold eSub);(try unfold eNeg);(try unfold eMul);(try unfold sub2x);(try unfold sub2y);grind))⟩
theorem okNeg2:(CallC.pure (q1 neg2x neg2y)).Ok Tryz.prog 185:=by
 refine q1_ok Tryz.func185 (by kernel_rfl) (by kernel_rfl) fun a b ha hb=>eSq mxd tK GE_ok 100 [] ?_
 refine same (p:=nv a < pN/\lp b/\endN (f2 (eF (eNeg (dF a))) (eF (eNeg (dF b)))) (f2 (eF (neg2x (dF a) (dF b))) (eF (neg2y (dF a) (dF b))))) ?_ (by kernel_rfl)
 exact ⟨ha,hb,endN_f2 (nvE (by (try simp only [qE]);(try unfold eAdd);(try unfold eSub);(try unfold eNeg);(try unfold eMul);(try unfold neg2x);(try unfold neg2y);grind)) (nvE (by (try simp only [qE]);(try unfold eAdd);(try unfold eSub);(try unfold eNeg);(try unfold eMul);(try unfold neg2x);(try unfold neg2y);grind))⟩
theorem okConj2:(CallC.pure (q1 cj2x cj2y)).Ok Tryz.prog 151:=by
 refine q1_ok Tryz.func151 (by kernel_rfl) (by kernel_rfl) fun a b ha hb=>eSq mxd tK GE_ok 100 [] ?_
 refine same (p:=nv b < pN/\endN (f2 a (eF (eNeg (dF b)))) (f2 (eF (cj2x (dF a) (dF b))) (eF (cj2y (dF a) (dF b))))) ?_ (by kernel_rfl)
 exact ⟨hb,endN_f2 ((eF_dF ha).symm) (nvE (by (try simp only [qE]);(try unfold eAdd);(try unfold eSub);(try unfold eNeg);(try unfold eMul);(try unfold cj2x);(try unfold cj2y);grind))⟩
theorem okMul2:(CallC.pure (q2 mul2x mul2y)).Ok Tryz.prog 112:=by
 refine q2_ok Tryz.func112 (by kernel_rfl) (by kernel_rfl) fun a b c d ha hb hc hd=>eSq mxd tK GE_ok 100 [] ?_
 refine same (p:=nv a < pN/\lp b/\lp a/\lp b/\lp c/\lp d/\lp (eF (eAdd (dF a) (dF b)))/\lp (eF (eMul (dF a) (dF c)))/\lp (eF (eMul (dF b) (dF d)))/\nv (eF (eMul (dF (eF (eAdd (dF a) (dF b)))) (dF (eF (eAdd (dF c) (dF d)))))) < pN/\lp (eF (eMul (dF a) (dF c)))/\nv (eF (eSub (dF (eF (eMul (dF (eF (eAdd (dF a) (dF b)))) (dF (eF (eAdd (dF c) (dF d))))))) (dF (eF (eMul (dF a) (dF c)))))) < pN/\lp (eF (eMul (dF b) (dF d)))/\endN (f2 (eF (eSub (dF (eF (eMul (dF a) (dF c)))) (dF (eF (eMul (dF b) (dF d)))))) (eF (eSub (dF (eF (eSub (dF (eF (eMul (dF (eF (eAdd (dF a) (dF b)))) (dF (eF (eAdd (dF c) (dF d))))))) (dF (eF (eMul (dF a) (dF c))))))) (dF (eF (eMul (dF b) (dF d))))))) (f2 (eF (mul2x (dF a) (dF b) (dF c) (dF d))) (eF (mul2y (dF a) (dF b) (dF c) (dF d))))) ?_ (by kernel_rfl)
 exact ⟨ha,hb,ha,hb,hc,hd,lE _,lE _,lE _,lE _,lE _,lE _,lE _,endN_f2 (nvE (by (try simp only [qE]);(try unfold eAdd);(try unfold eSub);(try unfold eNeg);(try unfold eMul);(try unfold mul2x);(try unfold mul2y);grind)) (nvE (by (try simp only [qE]);(try unfold eAdd);(try unfold eSub);(try unfold eNeg);(try unfold eMul);(try unfold mul2x);(try unfold mul2y);grind))⟩
theorem okScale:(CallC.pure (qs sc2x sc2y)).Ok Tryz.prog 165:=by
 refine qs_ok Tryz.func165 (by kernel_rfl) (by kernel_rfl) fun a b c ha hb hc=>eSq mxd tK GE_ok 100 [] ?_
 refine same (p:=nv a < pN/\lp b/\endN (f2 (eF (eMul (dF a) (dF c))) (eF (eMul (dF b) (dF c)))) (f2 (eF (sc2x (dF a) (dF b) (dF c))) (eF (sc2y (dF a) (dF b) (dF c))))) ?_ (by kernel_rfl)
 exact ⟨ha,hb,endN_f2 (nvE (by (try simp only [qE]);(try unfold eAdd);(try unfold eSub);(try unfold eNeg);(try unfold eMul);(try unfold sc2x);(try unfold sc2y);grind)) (nvE (by (try simp only [qE]);(try unfold eAdd);(try unfold eSub);(try unfold eNeg);(try unfold eMul);(try unfold sc2x);(try unfold sc2y);grind))⟩
theorem okNorm:(CallC.pure (qn nor2)).Ok Tryz.prog 166:=by
 refine qn_ok Tryz.func166 (by kernel_rfl) (by kernel_rfl) fun a b ha hb=>eSq mxd tK GE_ok 100 [] ?_
 refine same (p:=nv a < pN/\lp b/\lp (eF (eMul (dF a) (dF a)))/\lp (eF (eMul (dF b) (dF b)))/\endN (nm (eF (eAdd (dF (eF (eMul (dF a) (dF a)))) (dF (eF (eMul (dF b) (dF b))))))) (nm (eF (nor2 (dF a) (dF b))))) ?_ (by kernel_rfl)
 exact ⟨ha,hb,lE _,lE _,endN_nm (nvE (by (try simp only [qE]);(try unfold eAdd);(try unfold eSub);(try unfold eNeg);(try unfold eMul);(try unfold nor2);grind))⟩
def gN (a:Nat->Nat):Fp:=ofN (nv a)
theorem gN_vF (z:Fp):gN (vF z) = z:=ofN_vF z
theorem nvV {x y:Fp} (h:x = y):nv (vF x) = nv (vF y):=by rw [h]
def cTo2:List AV->Option (List Prop × AV)
 | [.v1 (.agg [.ws .u64 6 a,.ws .u64 6 b])]=>some ([],f2 (eF (gN a)) (eF (gN b)))
 | _=>none
def cFrom2:List AV->Option (List Prop × AV)
 | [.v1 (.agg [.ws .u64 6 a,.ws .u64 6 b])]=>some ([nv a < pN,nv b < pN],f2 (vF (dF a)) (vF (dF b)))
 | _=>none
def GTf:Ctx:=ctxL [(105,.pure cTo),(133,.pure cFrom)]
theorem GTf_ok:CtxOk Tryz.prog GTf:=cxC okTo <| cxC okFrom cxN
theorem okTo2:(CallC.pure cTo2).Ok Tryz.prog 87:=by
 intro args pre v e _
 unfold cTo2 at e
 split at e
 ·rename_i a b
  cases e
  refine pWk tK Tryz.func87 (by kernel_rfl) (by kernel_rfl) (by rfl) (by rfl) ?_
  refine eSq mxd tK GTf_ok 60 [] ?_
  exact same (p:=endN (f2 (eF (ofN (nv a))) (eF (ofN (nv b)))) (f2 (eF (gN a)) (eF (gN b)))) (endN_f2 rfl rfl) (by kernel_rfl)
 ·cases e
theorem okFrom2:(CallC.pure cFrom2).Ok Tryz.prog 88:=by
 intro args pre v e hp
 unfold cFrom2 at e
 split at e
 ·rename_i a b
  cases e
  have ha:nv a < pN:=hp _ (by simp)
  have hb:nv b < pN:=hp _ (by simp)
  refine pWk tK Tryz.func88 (by kernel_rfl) (by kernel_rfl) (by rfl) (by rfl) ?_
  refine eSq mxd tK GTf_ok 60 [] ?_
  exact same (p:=nv a < pN/\nv b < pN/\endN (f2 (vF (dF a)) (vF (dF b))) (f2 (vF (dF a)) (vF (dF b)))) ⟨ha,hb,endN_f2 rfl rfl⟩ (by kernel_rfl)
 ·cases e
def inv2x (a b:Fp):Fp:=a * eInv (nor2 a b)
def inv2y (a b:Fp):Fp:=(0 - b) * eInv (nor2 a b)
def GI2:Ctx:=ctxL [(151,.pure (q1 cj2x cj2y)),(166,.pure (qn nor2)),(103,.pure (el1 eInv)),(165,.pure (qs sc2x sc2y))]
theorem GI2_ok:CtxOk Tryz.prog GI2:=cxC okConj2 <| cxC okNorm <| cxC okEInv <| cxC okScale cxN
theorem okMInv2:(CallC.pure (q1 inv2x inv2y)).Ok Tryz.prog 113:=by
 refine q1_ok Tryz.func113 (by kernel_rfl) (by kernel_rfl) fun a b ha hb=>eSq mxd tK GI2_ok 100 [] ?_
 refine same (p:=nv a < pN/\lp b/\lp a/\lp b/\nv (eF (nor2 (dF a) (dF b))) < pN /\
  nv (eF (cj2x (dF a) (dF b))) < pN/\lp (eF (cj2y (dF a) (dF b)))/\nv (eF (eInv (dF (eF (nor2 (dF a) (dF b)))))) < pN /\
  endN (f2 (eF (sc2x (dF (eF (cj2x (dF a) (dF b)))) (dF (eF (cj2y (dF a) (dF b)))) (dF (eF (eInv (dF (eF (nor2 (dF a) (dF b)))))))))
   (eF (sc2y (dF (eF (cj2x (dF a) (dF b)))) (dF (eF (cj2y (dF a) (dF b)))) (dF (eF (eInv (dF (eF (nor2 (dF a) (dF b)))))))))) (f2 (eF (inv2x (dF a) (dF b))) (eF (inv2y (dF a) (dF b))))) ?_ (by kernel_rfl)
 refine ⟨ha,hb,ha,hb,lE _,lE _,lE _,lE _,endN_f2 (nvE ?_) (nvE ?_)⟩
 ·rw [qE,qE,qE,qE];rfl
 ·rw [qE,qE,qE,qE];rfl
def dQ (x y:Nat):Nat:=bif Nat.beq y 0 then 0 else x / y
def dR (x y:Nat):Nat:=bif Nat.beq y 0 then 0 else x % y
def dE (y:Nat):Int:=bif Nat.beq y 0 then 2 else 0
def cDiv2:List AV->Option (List Prop × AV)
 | [.v1 (.agg [.ws .u64 6 a]),.v1 (.agg [.ws .u64 6 b])]=>some ([],.tup [numV (dQ (nv a) (nv b)),numV (dR (nv a) (nv b)),.sc (.it (dE (nv b)))])
 | _=>none
theorem divV_eq (x y:Nat):divV x y = .tup [numV (dQ x y),numV (dR x y),.sc (.it (dE y))]:=by
 unfold divV dQ dR dE;cases Nat.beq y 0 <;> rfl
theorem okDiv2_of {n:Nat} (h:(CallC.pure cDiv).Ok Tryz.prog n):(CallC.pure cDiv2).Ok Tryz.prog n:=by
 intro args pre v e _
 unfold cDiv2 at e
 split at e
 ·rename_i a b
  cases e
  have:=h [.v1 (.agg [.ws .u64 6 a]),.v1 (.agg [.ws .u64 6 b])] [] (divV (nv a) (nv b)) rfl (fun _ h=>by cases h)
  rw [divV_eq] at this
  exact this
 ·cases e
abbrev fA (n:Nat->Nat) (l:Nat) (s:Nat->Nat):AV:=.v1 (.agg [q6 n,.one (.w .u64 l),q6 s])
abbrev tB (t:Nat->Nat):Option Blk:=some ⟨197,[.ws .u64 8 t],0,0⟩
def rowF (x:Nat) (b t:Nat->Nat):Nat->Nat
 | 0=>mLo x (b 0) (t 0) (crow x b t 0)
 | 1=>mLo x (b 1) (t 1) (crow x b t 1)
 | 2=>mLo x (b 2) (t 2) (crow x b t 2)
 | 3=>mLo x (b 3) (t 3) (crow x b t 3)
 | 4=>mLo x (b 4) (t 4) (crow x b t 4)
 | 5=>mLo x (b 5) (t 5) (crow x b t 5)
 | 6=>t 6 + crow x b t 6 + 0
 | _=>t 7 + (t 6 % W + crow x b t 6 % W + 0 % W) / W
def cRow (args:List AV) (h:Heap) (slot:Nat):Option (List Prop × AV × Heap) :=
 match args with
 | [.v1 (.agg [.ws .u64 6 n,.one (.w .u64 l),.ws .u64 6 s]),.v1 (.sc (.pt k 0)),.v1 (.sc (.w .u64 x)),.v1 (.agg [.ws .u64 6 b])]=>match hget h k with
  | some ⟨ty,[.ws .u64 8 t],0,0⟩=>match Nat.beq ty 197 with
   | true=>some ([],.tup [],hset h k ⟨197,[.ws .u64 8 (rowF x b t)],0,0⟩)
   | false=>none
  | _=>none
 | _=>none
def GRw:Ctx:=ctxL [(61,.pure cMul64),(62,.pure cAdd64)]
theorem GRw_ok:CtxOk Tryz.prog GRw:=cxC okMul64 <| cxC okAdd64 cxN
theorem Lv_tB {t:Nat->Nat}:∀ i,i < 1->Lv [tB t] i:=fun i hi=>by
 have:i = 0:=by omega
 subst this;exact ⟨_,rfl,by simp⟩
theorem ws64_val {m:Nat} {f g:Nat->Nat} (h:∀ j,j < m->f j % W = g j % W) (ρ:Ren):cvals ρ [.ws .u64 m f] = cvals ρ [.ws .u64 m g]:=by
 simp only [cvals,Cell.vals,M,List.append_nil]
 exact List.map_congr_left fun j hj=>by have:=h j (List.mem_range.1 hj);simp only [W] at this;rw [this]
theorem okRow:(CallC.mem cRow).Ok Tryz.prog 177:=by
 intro args h slot pre v h' e _
 unfold cRow at e
 split at e
 ·rename_i n l s k x b
  split at e
  ·rename_i ty t hb
   split at e
   ·rename_i hty
    cases e
    have hty:ty = 197:=Nat.beq_eq.mp hty
    subst hty
    have hpk:pickH [k] h [k] = [tB t]:=by
     show [pickB [k] (hget h k)] = _
     rw [hb];rfl
    have hpk2:pickH [k] (hset h k ⟨197,[.ws .u64 8 (rowF x b t)],0,0⟩) [k] = [tB (rowF x b t)]:=by
     show [pickB [k] (hget _ k)] = _
     rw [hgS (hget_lt hb)];rfl
    have hbk:bk [k] k = 0:=by simp [bk,idxN]
    obtain ⟨C,hC⟩:∃ C:Nat->Nat,C = crow x b t:=⟨_,rfl⟩
    obtain ⟨L,hL⟩:∃ L:Nat->Nat,L = fun k=>mLo x (b k) (t k) (C k):=⟨_,rfl⟩
    obtain ⟨S6,hS6⟩:∃ x,x = t 6 + C 6 + 0:=⟨_,rfl⟩
    obtain ⟨S7,hS7⟩:∃ x,x = (t 6 % W + C 6 % W + 0 % W) / W:=⟨_,rfl⟩
    have z1:0 % W <= 1:=by decide
    have sim:SimH [tB (upd (upd (upd (upd (upd (upd (upd (upd t 0 (L 0)) 1 (L 1)) 2 (L 2)) 3 (L 3)) 4 (L 4)) 5 (L 5)) 6 S6) 7 (t 7 + S7))] [tB (rowF x b t)]:=by
     refine ⟨⟨rfl,rfl,rfl,ws64_val fun j hj=>?_⟩,trivial⟩
     subst hC hL hS6 hS7
     have:j = 0∨j = 1∨j = 2∨j = 3∨j = 4∨j = 5∨j = 6∨j = 7:=by omega
     rcases this with rfl | rfl | rfl | rfl | rfl | rfl | rfl | rfl <;> rfl
    refine mem_walk tK Tryz.func177 (by kernel_rfl) (by kernel_rfl) [k] [] 0 [tB t] [tB (rowF x b t)] (args':=[fA n l s,pt 0 0,.v1 (.sc (.w .u64 x)),nm b]) (vK:=.tup [])
     (by kernel_rfl) hpk (by kernel_rfl) ?_ (by kernel_rfl) Lv_tB (by kernel_rfl) (by kernel_rfl) (fun i hi=>(Lv_tB i (by simpa using hi)).dm) (by kernel_rfl) hpk2 rfl (fun t ht=>by simp at ht) (fun i hi _=>?_) ?_
    ·show [_,AV.v1 (.sc (.pt (bk [k] k) 0)),_,_] = _
     rw [hbk];rfl
    ·exact hgN fun e=>hi 0 (by simp) e.symm
    ·refine eSq mxd tK GRw_ok 200 [⟨8,4,.lit (.w .u64 (L 0))⟩,⟨9,2,.lit (.w .u64 (C 1))⟩,⟨8,4,.lit (.w .u64 (L 1))⟩,⟨9,2,.lit (.w .u64 (C 2))⟩,⟨8,4,.lit (.w .u64 (L 2))⟩,⟨9,2,.lit (.w .u64 (C 3))⟩,⟨8,4,.lit (.w .u64 (L 3))⟩,⟨9,2,.lit (.w .u64 (C 4))⟩,⟨8,4,.lit (.w .u64 (L 4))⟩,⟨9,2,.lit (.w .u64 (C 5))⟩,⟨8,4,.lit (.w .u64 (L 5))⟩,⟨9,2,.lit (.w .u64 (C 6))⟩,⟨11,7,.lit (.w .u64 S6)⟩,⟨11,8,.lit (.w .u64 S7)⟩] ?_
     refine same (p:=0 % W <= 1/\0 % W <= 1/\mLo x (b 0) (t 0) 0 = L 0/\mHi x (b 0) (t 0) 0 = C 1/\0 % W <= 1/\0 % W <= 1/\mLo x (b 1) (t 1) (C 1) = L 1/\mHi x (b 1) (t 1) (C 1) = C 2/\0 % W <= 1/\0 % W <= 1/\mLo x (b 2) (t 2) (C 2) = L 2/\mHi x (b 2) (t 2) (C 2) = C 3/\0 % W <= 1/\0 % W <= 1/\mLo x (b 3) (t 3) (C 3) = L 3/\mHi x (b 3) (t 3) (C 3) = C 4/\0 % W <= 1/\0 % W <= 1/\mLo x (b 4) (t 4) (C 4) = L 4/\mHi x (b 4) (t 4) (C 4) = C 5/\0 % W <= 1/\0 % W <= 1/\mLo x (b 5) (t 5) (C 5) = L 5/\mHi x (b 5) (t 5) (C 5) = C 6/\0 % W <= 1/\t 6 + C 6 + 0 = S6/\(t 6 % W + C 6 % W + 0 % W) / W = S7/\true = true/\true = true/\SimH [tB (upd (upd (upd (upd (upd (upd (upd (upd t 0 (L 0)) 1 (L 1)) 2 (L 2)) 3 (L 3)) 4 (L 4)) 5 (L 5)) 6 S6) 7 (t 7 + S7))] [tB (rowF x b t)]/\∃ v',some (AV.tup []) = some v'/\avB [tB (upd (upd (upd (upd (upd (upd (upd (upd t 0 (L 0)) 1 (L 1)) 2 (L 2)) 3 (L 3)) 4 (L 4)) 5 (L 5)) 6 S6) 7 (t 7 + S7))] (bkAV [0] v') = true/\∀ ρ,(bkAV [0] v').val ρ = (AV.tup []).val ρ) ?_ (by kernel_rfl)
     refine ⟨z1,z1,by subst hC hL hS6 hS7;rfl,by subst hC hL hS6 hS7;rfl,z1,z1,by subst hC hL hS6 hS7;rfl,by subst hC hL hS6 hS7;rfl,z1,z1,by subst hC hL hS6 hS7;rfl,by subst hC hL hS6 hS7;rfl,z1,z1,by subst hC hL hS6 hS7;rfl,by subst hC hL hS6 hS7;rfl,z1,z1,by subst hC hL hS6 hS7;rfl,by subst hC hL hS6 hS7;rfl,z1,z1,by subst hC hL hS6 hS7;rfl,by subst hC hL hS6 hS7;rfl,z1,by subst hC hL hS6 hS7;rfl,by subst hC hL hS6 hS7;rfl,rfl,rfl,sim,_,rfl,rfl,fun _=>rfl⟩
   ·cases e
  ·cases e
 ·cases e
theorem rowF_val {x:Nat} {b t:Nat->Nat} (h7:t 7 % W = 0) (hb:sB W t 7 + x % W * nv b < W ^ 7):sB W (rowF x b t) 7 = sB W t 7 + x % W * nv b/\rowF x b t 7 % W = 0:=by
 obtain ⟨C,hC⟩:∃ C:Nat->Nat,C = crow x b t:=⟨_,rfl⟩
 obtain ⟨L,hL⟩:∃ L:Nat->Nat,L = fun k=>mLo x (b k) (t k) (C k):=⟨_,rfl⟩
 obtain ⟨S7,hS7⟩:∃ x,x = (t 6 % W + C 6 % W + 0 % W) / W:=⟨_,rfl⟩
 have z:=row_top hC hL hS7 hb
 have cs:∀ k,C (k + 1) = mHi x (b k) (t k) (C k):=fun k=>by rw [hC];rfl
 have ls:∀ k,L k = mLo x (b k) (t k) (C k):=fun k=>by rw [hL]
 have c0:C 0 = 0:=by rw [hC];rfl
 have b0:C 0 < W:=by rw [c0];decide
 have s0:=m_step (x:=x) (y:=b 0) (p:=t 0) b0
 rw [<-cs,<-ls] at s0
 have s1:=m_step (x:=x) (y:=b 1) (p:=t 1) s0.2
 rw [<-cs,<-ls] at s1
 have s2:=m_step (x:=x) (y:=b 2) (p:=t 2) s1.2
 rw [<-cs,<-ls] at s2
 have s3:=m_step (x:=x) (y:=b 3) (p:=t 3) s2.2
 rw [<-cs,<-ls] at s3
 have s4:=m_step (x:=x) (y:=b 4) (p:=t 4) s3.2
 rw [<-cs,<-ls] at s4
 have s5:=m_step (x:=x) (y:=b 5) (p:=t 5) s4.2
 rw [<-cs,<-ls] at s5
 have s6:=top_step (x:=t 6) s5.2
 rw [<-hS7] at s6
 rw [c0] at s0
 have hw:=mont_words (x:=x % W) s0.1 s1.1 s2.1 s3.1 s4.1 s5.1 s6.1
 rw [z,Nat.mul_zero,Nat.add_zero] at hw
 constructor
 ·have e:sB W (rowF x b t) 7 = L 0 % W + W * (L 1 % W + W * (L 2 % W + W * (L 3 % W + W * (L 4 % W + W * (L 5 % W + W * ((t 6 + C 6 + 0) % W)))))):=by
   rw [sB7_eq]
   subst hC hL
   rfl
  rw [e,hw,sB7_eq t]
  unfold nv
  rfl
 ·show (t 7 + (t 6 % W + crow x b t 6 % W + 0 % W) / W) % W = 0
  rw [<-hC,<-hS7,z,Nat.add_zero];exact h7
def shS (t:Nat->Nat):Nat->(Nat->Nat)
 | 0=>t
 | k + 1=>upd (shS t k) k (shS t k (k + 1))
def rdF (n:Nat->Nat) (l x:Nat) (b t:Nat->Nat):Nat->Nat:=upd (shS (rowF (rowF x b t 0 * l) n (rowF x b t)) 7) 7 0
theorem sh_val {t:Nat->Nat} (h0:t 0 % W = 0) (h7:t 7 % W = 0):sB W (upd (shS t 7) 7 0) 7 * W = sB W t 7/\upd (shS t 7) 7 0 7 % W = 0:=by
 refine ⟨?_,rfl⟩
 rw [sB7_eq,sB7_eq t]
 show (t 1 % W + W * (t 2 % W + W * (t 3 % W + W * (t 4 % W + W * (t 5 % W + W * (t 6 % W + W * (t 7 % W))))))) * W = _
 rw [h0,h7]
 generalize t 1 % W = x1
 generalize t 2 % W = x2
 generalize t 3 % W = x3
 generalize t 4 % W = x4
 generalize t 5 % W = x5
 generalize t 6 % W = x6
 simp only [W];omega
theorem sB7_mod (t:Nat->Nat):sB W t 7 % W = t 0 % W:=by
 rw [sB7_eq,Nat.add_mul_mod_self_left,Nat.mod_mod]
theorem nv_mod (t:Nat->Nat):nv t % W = t 0 % W:=by
 unfold nv
 rw [Nat.add_mul_mod_self_left,Nat.mod_mod]
theorem rd_bound {w S N q:Nat} (h:S < (w + 2) * N) (hq:q < w):S + q * N < (w + w + 2) * N:=by
 have h2:q * N <= w * N:=Nat.mul_le_mul_right _ (Nat.le_of_lt hq)
 have e:(w + w + 2) * N = (w + 2) * N + w * N:=by rw [<-Nat.add_mul];congr 1;omega
 omega
theorem rd_val {n:Nat->Nat} {l x:Nat} {b t:Nat->Nat} (low:(n 0 % W * (l % W) + 1) % W = 0) (h7:t 7 % W = 0) (hb:nv b < pN) (hN:nv n = pN)
  (h1:sB W t 7 + x % W * nv b < W ^ 7) (h2:sB W t 7 + x % W * nv b + rowF x b t 0 * l % W * nv n < W ^ 7) :
  sB W (rdF n l x b t) 7 * W = sB W t 7 + x % W * nv b + rowF x b t 0 * l % W * nv n/\rdF n l x b t 7 % W = 0/\rowF x b t 0 * l % W < W:=by
 obtain ⟨a1,a2⟩:=rowF_val h7 h1
 rw [<-a1] at h2
 obtain ⟨c1,c2⟩:=rowF_val (x:=rowF x b t 0 * l) (b:=n) a2 h2
 have z:rowF (rowF x b t 0 * l) n (rowF x b t) 0 % W = 0:=by
  rw [<-sB7_mod,c1,Nat.add_mod,sB7_mod,Nat.mul_mod,Nat.mod_mod,nv_mod,<-Nat.mul_mod,<-Nat.add_mod]
  exact low_zero low
 obtain ⟨d1,d2⟩:=sh_val z c2
 refine ⟨?_,d2,Nat.mod_lt _ (by decide)⟩
 show sB W (upd (shS (rowF (rowF x b t 0 * l) n (rowF x b t)) 7) 7 0) 7 * W = _
 rw [d1,c1,a1]
def lowC:Nat:=9940570264628428797
def cMo (args:List AV):Option (List Prop × AV) :=
 match args with
 | [.v1 (.agg [.ws .u64 6 n,.one (.w .u64 l),.ws .u64 6 s]),.v1 (.agg [.ws .u64 6 a]),.v1 (.agg [.ws .u64 6 b])]=>some ([nv n = pN,l % W = lowC,nv b < pN],numA (montV pN (nv a) (nv b)))
 | _=>none
def GMo:Ctx:=ctxL [(177,.mem cRow),(135,.pure cCmp),(152,.pure cSub)]
theorem GMo_ok:CtxOk Tryz.prog GMo:=cxC okRow <| cxC okCmp' <| cxC okSub' cxN
def VMo (i:Nat):List AV:=[pt 0 0,pt 1 0,pt 2 0,pt 3 0,pt 4 0,iv (Int.ofNat i)]
def HMo (n:Nat->Nat) (l:Nat) (s a b t:Nat->Nat):Heap:=[some ⟨118,[q6 n,.one (.w .u64 l),q6 s],0,0⟩,nb a,nb b,nb fz,tB t]
def InvMo (n a b:Nat->Nat) (x:Nat × (Nat->Nat)):Prop:=x.1 <= 6/\(∃ Q,sB W x.2 7 * W ^ x.1 = sB W a x.1 * nv b + Q * nv n/\Q < W ^ x.1)/\x.2 7 % W = 0
abbrev otF (t:Nat->Nat):Nat->Nat:=(upd (upd (upd (upd (upd (upd fz 0 (t 0)) 1 (t 1)) 2 (t 2)) 3 (t 3)) 4 (t 4)) 5 (t 5))
theorem otF_nv {t:Nat->Nat}:nv (otF t) = nv t:=nv_congr fun j hj=>by
 have:j = 0∨j = 1∨j = 2∨j = 3∨j = 4∨j = 5:=by omega
 rcases this with rfl | rfl | rfl | rfl | rfl | rfl <;> rfl
theorem top0 {t:Nat->Nat} (h:sB W t 7 < R):t 6 % W = 0:=by
 rw [sB7_eq] at h
 have:R = W * (W * (W * (W * (W * W)))):=by decide
 rw [this] at h
 generalize t 0 % W = x0 at *
 generalize t 1 % W = x1 at *
 generalize t 2 % W = x2 at *
 generalize t 3 % W = x3 at *
 generalize t 4 % W = x4 at *
 generalize t 5 % W = x5 at *
 generalize t 6 % W = x6 at *
 simp only [W] at h;omega
theorem cmp_lt3 (x y:Nat):ilt (cmpI x y) 0 = Nat.blt x y:=by
 unfold cmpI
 cases h:Nat.blt x y
 ·cases Nat.blt y x <;> rfl
 ·rfl
theorem okMo:(CallC.pure cMo).Ok Tryz.prog 137:=by
 intro args pre v e hp
 unfold cMo at e
 split at e
 ·rename_i n l s a b
  cases e
  have hN:nv n = pN:=hp _ (by simp)
  have hl:l % W = lowC:=hp _ (by simp)
  have hb:nv b < pN:=hp _ (by simp)
  have hb':nv b < nv n:=by rw [hN];exact hb
  have hs:=pN_small
  have low:(n 0 % W * (l % W) + 1) % W = 0:=by
   rw [<-nv_mod n,hN,hl];decide
  refine pWk tK Tryz.func137 (by kernel_rfl) (by kernel_rfl) (by rfl) (by rfl) ?_
  refine loopK mxd tK GMo_ok 0 (by kernel_rfl) (ι:={x // InvMo n a b x}) [3,4,5,6,7,8] 69 5 (fun x=>VMo x.1.1) (fun x=>HMo n l s a b x.1.2) (fun x=>6 - x.1.1) (fun x=>x.1.1 = 6)
   (fun _=>rfl) (fun _=>by kernel_rfl) (fun _ _ h=>h.elim) 200 [] ?_ ?_ ?_
  ·refine same (p:=true = true/\∃ j:{x // InvMo n a b x},VMo 0 = VMo j.1.1/\HMo n l s a b fz = HMo n l s a b j.1.2) ?_ (by kernel_rfl)
   exact ⟨rfl,⟨(0,fun _=>0),by simp,⟨0,by simp [sB],by simp⟩,rfl⟩,rfl,rfl⟩
  ·intro ⟨⟨i,t⟩,hi,⟨Q,hT,hQ⟩,h7⟩ junk
   simp only at hi hT hQ h7
   rcases (show i = 0∨i = 1∨i = 2∨i = 3∨i = 4∨i = 5∨i = 6 by omega) with rfl | rfl | rfl | rfl | rfl | rfl | rfl
   ·refine rQ mxd tK GMo_ok 200 [] ?_
    refine same (p:=true = true/\∃ j:{x // InvMo n a b x},6 - j.1.1 < 6 - 0/\VMo (0 + 1) = VMo j.1.1/\HMo n l s a b (rdF n l (a 0) b t) = HMo n l s a b j.1.2) ?_ (by kernel_rfl)
    obtain ⟨e1,e2,e3⟩:=rd_val low h7 hb hN (t:=t) (x:=a 0) (Nat.lt_of_lt_of_le (rBd (w:=W) (B:=nv b) (N:=nv n) (x:=a 0 % W) (i:=0) hT hQ (sB_lt a 0) (Nat.mod_lt _ (by decide)) hb') (by rw [hN];decide))
     (Nat.lt_of_lt_of_le (rd_bound (w:=W) (rBd (w:=W) (B:=nv b) (N:=nv n) (x:=a 0 % W) (i:=0) hT hQ (sB_lt a 0) (Nat.mod_lt _ (by decide)) hb') (Nat.mod_lt _ (by decide))) (by rw [hN];decide))
    have e:=mont_round (N:=nv n) (B:=nv b) (x:=a 0 % W) (i:=0) rfl e1 hT hQ e3
    exact ⟨rfl,⟨(0 + 1,rdF n l (a 0) b t),by simp only;omega,⟨_,by rw [show sB W a (0 + 1) = sB W a 0 + W ^ 0 * (a 0 % W) from rfl];exact e.1,e.2⟩,e2⟩,by simp only;omega,rfl,rfl⟩
   ·refine rQ mxd tK GMo_ok 200 [] ?_
    refine same (p:=true = true/\∃ j:{x // InvMo n a b x},6 - j.1.1 < 6 - 1/\VMo (1 + 1) = VMo j.1.1/\HMo n l s a b (rdF n l (a 1) b t) = HMo n l s a b j.1.2) ?_ (by kernel_rfl)
    obtain ⟨e1,e2,e3⟩:=rd_val low h7 hb hN (t:=t) (x:=a 1) (Nat.lt_of_lt_of_le (rBd (w:=W) (B:=nv b) (N:=nv n) (x:=a 1 % W) (i:=1) hT hQ (sB_lt a 1) (Nat.mod_lt _ (by decide)) hb') (by rw [hN];decide))
     (Nat.lt_of_lt_of_le (rd_bound (w:=W) (rBd (w:=W) (B:=nv b) (N:=nv n) (x:=a 1 % W) (i:=1) hT hQ (sB_lt a 1) (Nat.mod_lt _ (by decide)) hb') (Nat.mod_lt _ (by decide))) (by rw [hN];decide))
    have e:=mont_round (N:=nv n) (B:=nv b) (x:=a 1 % W) (i:=1) rfl e1 hT hQ e3
    exact ⟨rfl,⟨(1 + 1,rdF n l (a 1) b t),by simp only;omega,⟨_,by rw [show sB W a (1 + 1) = sB W a 1 + W ^ 1 * (a 1 % W) from rfl];exact e.1,e.2⟩,e2⟩,by simp only;omega,rfl,rfl⟩
   ·refine rQ mxd tK GMo_ok 200 [] ?_
    refine same (p:=true = true/\∃ j:{x // InvMo n a b x},6 - j.1.1 < 6 - 2/\VMo (2 + 1) = VMo j.1.1/\HMo n l s a b (rdF n l (a 2) b t) = HMo n l s a b j.1.2) ?_ (by kernel_rfl)
    obtain ⟨e1,e2,e3⟩:=rd_val low h7 hb hN (t:=t) (x:=a 2) (Nat.lt_of_lt_of_le (rBd (w:=W) (B:=nv b) (N:=nv n) (x:=a 2 % W) (i:=2) hT hQ (sB_lt a 2) (Nat.mod_lt _ (by decide)) hb') (by rw [hN];decide))
     (Nat.lt_of_lt_of_le (rd_bound (w:=W) (rBd (w:=W) (B:=nv b) (N:=nv n) (x:=a 2 % W) (i:=2) hT hQ (sB_lt a 2) (Nat.mod_lt _ (by decide)) hb') (Nat.mod_lt _ (by decide))) (by rw [hN];decide))
    have e:=mont_round (N:=nv n) (B:=nv b) (x:=a 2 % W) (i:=2) rfl e1 hT hQ e3
    exact ⟨rfl,⟨(2 + 1,rdF n l (a 2) b t),by simp only;omega,⟨_,by rw [show sB W a (2 + 1) = sB W a 2 + W ^ 2 * (a 2 % W) from rfl];exact e.1,e.2⟩,e2⟩,by simp only;omega,rfl,rfl⟩
   ·refine rQ mxd tK GMo_ok 200 [] ?_
    refine same (p:=true = true/\∃ j:{x // InvMo n a b x},6 - j.1.1 < 6 - 3/\VMo (3 + 1) = VMo j.1.1/\HMo n l s a b (rdF n l (a 3) b t) = HMo n l s a b j.1.2) ?_ (by kernel_rfl)
    obtain ⟨e1,e2,e3⟩:=rd_val low h7 hb hN (t:=t) (x:=a 3) (Nat.lt_of_lt_of_le (rBd (w:=W) (B:=nv b) (N:=nv n) (x:=a 3 % W) (i:=3) hT hQ (sB_lt a 3) (Nat.mod_lt _ (by decide)) hb') (by rw [hN];decide))
     (Nat.lt_of_lt_of_le (rd_bound (w:=W) (rBd (w:=W) (B:=nv b) (N:=nv n) (x:=a 3 % W) (i:=3) hT hQ (sB_lt a 3) (Nat.mod_lt _ (by decide)) hb') (Nat.mod_lt _ (by decide))) (by rw [hN];decide))
    have e:=mont_round (N:=nv n) (B:=nv b) (x:=a 3 % W) (i:=3) rfl e1 hT hQ e3
    exact ⟨rfl,⟨(3 + 1,rdF n l (a 3) b t),by simp only;omega,⟨_,by rw [show sB W a (3 + 1) = sB W a 3 + W ^ 3 * (a 3 % W) from rfl];exact e.1,e.2⟩,e2⟩,by simp only;omega,rfl,rfl⟩
   ·refine rQ mxd tK GMo_ok 200 [] ?_
    refine same (p:=true = true/\∃ j:{x // InvMo n a b x},6 - j.1.1 < 6 - 4/\VMo (4 + 1) = VMo j.1.1/\HMo n l s a b (rdF n l (a 4) b t) = HMo n l s a b j.1.2) ?_ (by kernel_rfl)
    obtain ⟨e1,e2,e3⟩:=rd_val low h7 hb hN (t:=t) (x:=a 4) (Nat.lt_of_lt_of_le (rBd (w:=W) (B:=nv b) (N:=nv n) (x:=a 4 % W) (i:=4) hT hQ (sB_lt a 4) (Nat.mod_lt _ (by decide)) hb') (by rw [hN];decide))
     (Nat.lt_of_lt_of_le (rd_bound (w:=W) (rBd (w:=W) (B:=nv b) (N:=nv n) (x:=a 4 % W) (i:=4) hT hQ (sB_lt a 4) (Nat.mod_lt _ (by decide)) hb') (Nat.mod_lt _ (by decide))) (by rw [hN];decide))
    have e:=mont_round (N:=nv n) (B:=nv b) (x:=a 4 % W) (i:=4) rfl e1 hT hQ e3
    exact ⟨rfl,⟨(4 + 1,rdF n l (a 4) b t),by simp only;omega,⟨_,by rw [show sB W a (4 + 1) = sB W a 4 + W ^ 4 * (a 4 % W) from rfl];exact e.1,e.2⟩,e2⟩,by simp only;omega,rfl,rfl⟩
   ·refine rQ mxd tK GMo_ok 200 [] ?_
    refine same (p:=true = true/\∃ j:{x // InvMo n a b x},6 - j.1.1 < 6 - 5/\VMo (5 + 1) = VMo j.1.1/\HMo n l s a b (rdF n l (a 5) b t) = HMo n l s a b j.1.2) ?_ (by kernel_rfl)
    obtain ⟨e1,e2,e3⟩:=rd_val low h7 hb hN (t:=t) (x:=a 5) (Nat.lt_of_lt_of_le (rBd (w:=W) (B:=nv b) (N:=nv n) (x:=a 5 % W) (i:=5) hT hQ (sB_lt a 5) (Nat.mod_lt _ (by decide)) hb') (by rw [hN];decide))
     (Nat.lt_of_lt_of_le (rd_bound (w:=W) (rBd (w:=W) (B:=nv b) (N:=nv n) (x:=a 5 % W) (i:=5) hT hQ (sB_lt a 5) (Nat.mod_lt _ (by decide)) hb') (Nat.mod_lt _ (by decide))) (by rw [hN];decide))
    have e:=mont_round (N:=nv n) (B:=nv b) (x:=a 5 % W) (i:=5) rfl e1 hT hQ e3
    exact ⟨rfl,⟨(5 + 1,rdF n l (a 5) b t),by simp only;omega,⟨_,by rw [show sB W a (5 + 1) = sB W a 5 + W ^ 5 * (a 5 % W) from rfl];exact e.1,e.2⟩,e2⟩,by simp only;omega,rfl,rfl⟩
   ·refine rQ mxd tK GMo_ok 100 [] ?_
    refine same (p:=true = true/\∃ j:{x // InvMo n a b x},j.1.1 = 6/\VMo 6 = VMo j.1.1/\HMo n l s a b t = HMo n l s a b j.1.2) ?_ (by kernel_rfl)
    exact ⟨rfl,⟨(6,t),hi,⟨Q,hT,hQ⟩,h7⟩,rfl,rfl,rfl⟩
  ·intro ⟨⟨i,t⟩,hi,⟨Q,hT,hQ⟩,h7⟩ junk h6
   simp only at hi hT hQ h6
   subst h6
   rw [sB_W a 6,<-nv_nvn,<-R_eq] at hT
   rw [<-R_eq] at hQ
   obtain ⟨h1,h2⟩:=mont_end (by rw [hN];exact pN_odd) (by rw [hN];exact pN_pos) (nv_lt a) (nv_lt b) (.inr hb') hQ hT
   have hR:sB W t 7 < R:=Nat.lt_of_lt_of_le h1 (by rw [hN];omega)
   have h7':=sB7_nv (t:=t) hR
   rw [h7',hN] at h2
   have h0:(!Nat.beq (t 6 % W) (0 % W)) = false:=by rw [top0 hR];rfl
   cases hc:Nat.ble pN (nv t)
   ·have hlt:nv t < pN:=by
     have:¬ pN <= nv t:=fun e=>by rw [<-Nat.ble_eq,hc] at e;cases e
     omega
    have hbt:Nat.blt (nv t) pN = true:=by rw [Nat.blt_eq];exact hlt
    rw [hc,cond_false] at h2
    refine eSq mxd tK GMo_ok 200 [⟨17,2,.lit (.bo false)⟩,⟨17,8,.lit (.bo false)⟩] ?_
    refine same (p:=(!Nat.beq (t 6 % W) (0 % W)) = false/\(!ilt (cmpI (nv (otF t)) (nv n)) 0) = false/\∃ v',some (nm (otF t)) = some v'/\∀ ρ,v'.val ρ = (numA (montV pN (nv a) (nv b))).val ρ) ?_ (by kernel_rfl)
    refine ⟨h0,by rw [cmp_lt3,otF_nv,hN,hbt];rfl,_,rfl,fun ρ=>numA_val ?_ ρ⟩
    rw [otF_nv,<-h2,Nat.mod_eq_of_lt (nv_lt t)]
   ·have hle:pN <= nv t:=Nat.le_of_ble_eq_true hc
    rw [hc,cond_true] at h2
    have hb2:Nat.blt (nv t) pN = false:=by rw [<-Bool.not_eq_true,Nat.blt_eq];omega
    refine eSq mxd tK GMo_ok 200 [⟨17,2,.lit (.bo false)⟩,⟨17,8,.lit (.bo true)⟩] ?_
    refine same (p:=(!Nat.beq (t 6 % W) (0 % W)) = false/\(!ilt (cmpI (nv (otF t)) (nv n)) 0) = true/\∃ v',some (numA ((nv (otF t) + R - nv n) % R)) = some v'/\∀ ρ,v'.val ρ = (numA (montV pN (nv a) (nv b))).val ρ) ?_ (by kernel_rfl)
    refine ⟨h0,by rw [cmp_lt3,otF_nv,hN,hb2];rfl,_,rfl,fun ρ=>?_⟩
    rw [otF_nv,hN,<-h2,<-less_gen hle (nv_lt t)]
 ·cases e
end Go.Proofs.YtnjocbcjejpklaaGreat
namespace Go.Rq
open Go
abbrev appC {C:Type->Type} {α:Type} (_:C α):Type->Type:=C
abbrev CR:Type->Type:=appC Dyadic.instCommRing
namespace Rg
variable {R:Type} [i:CR R]
def nc (n:Nat):R:=i.toRing.toSemiring.natCast.natCast n
def ic (n:Int):R:=i.toRing.intCast.intCast n
theorem pow_zero (a:R):a ^ 0 = 1:=i.toRing.toSemiring.pow_zero a
theorem pow_succ (a:R) (n:Nat):a ^ (n + 1) = a ^ n * a:=i.toRing.toSemiring.pow_succ a n
theorem ofNat_succ (n:Nat):OfNat.ofNat (α:=R) (n + 1) = OfNat.ofNat n + 1:=i.toRing.toSemiring.ofNat_succ n
theorem ofNat_nc (n:Nat):OfNat.ofNat (α:=R) n = nc n:=i.toRing.toSemiring.ofNat_eq_natCast n
theorem nc_zero:nc (R:=R) 0 = 0:=(ofNat_nc 0).symm
theorem nc_one:nc (R:=R) 1 = 1:=(ofNat_nc 1).symm
theorem nc_succ (n:Nat):nc (R:=R) (n + 1) = nc n + 1:=by rw [<-ofNat_nc,ofNat_succ,ofNat_nc]
theorem ic_neg (n:Int):ic (R:=R) (-n) = -ic n:=i.toRing.intCast_neg n
theorem ic_ofNat (n:Nat):ic (R:=R) (OfNat.ofNat n) = OfNat.ofNat n:=i.toRing.intCast_ofNat n
theorem ic_nat (n:Nat):ic (R:=R) (n:Int) = nc n:=by rw [<-ofNat_nc];exact ic_ofNat n
theorem mul_comm (a b:R):a * b = b * a:=by grind
theorem mul_one (a:R):a * 1 = a:=by grind
theorem one_mul (a:R):1 * a = a:=by grind
theorem mul_zero (a:R):a * 0 = 0:=by grind
theorem zero_mul (a:R):0 * a = 0:=by grind
theorem add_zero (a:R):a + 0 = a:=by grind
theorem sub_self (a:R):a - a = 0:=by grind
theorem mul_assoc (a b c:R):a * b * c = a * (b * c):=by grind
theorem nc_add (a:Nat):∀ b:Nat,nc (R:=R) (a + b) = nc a + nc b
 | 0=>by rw [nc_zero,Nat.add_zero,add_zero]
 | b + 1=>by rw [<-Nat.add_assoc,nc_succ,nc_add a b,nc_succ];grind
theorem nc_mul (a:Nat):∀ b:Nat,nc (R:=R) (a * b) = nc a * nc b
 | 0=>by rw [nc_zero,Nat.mul_zero,nc_zero,mul_zero]
 | b + 1=>by rw [Nat.mul_succ,nc_add,nc_mul a b,nc_succ];grind
theorem pow_one (a:R):a ^ 1 = a:=by rw [pow_succ,pow_zero,one_mul]
theorem pow_two (a:R):a ^ 2 = a * a:=by rw [pow_succ,pow_one]
theorem pow_add (a:R) (m:Nat):∀ n:Nat,a ^ (m + n) = a ^ m * a ^ n
 | 0=>by rw [Nat.add_zero,pow_zero,mul_one]
 | n + 1=>by rw [<-Nat.add_assoc,pow_succ,pow_add a m n,pow_succ,mul_assoc]
theorem one_pow:∀ n:Nat,(1:R) ^ n = 1
 | 0=>pow_zero _
 | n + 1=>by rw [pow_succ,one_pow n,mul_one]
end Rg
structure F2p where
 x:Fp
 y:Fp
theorem F2p.ext {a b:F2p} (h1:a.x = b.x) (h2:a.y = b.y):a = b:=by cases a;cases b;simp_all
def nc (n:Nat):Fp:=Rg.nc n
def ic (n:Int):Fp:=Rg.ic n
theorem fp1 (u v:Fp):u * 1 - v * 0 = u:=by grind
theorem fp2 (u v:Fp):u * 0 + v * 1 = v:=by grind
theorem fp3 (u v:Fp):1 * u - 0 * v = u:=by rw [Fin.mul_comm 1 u,Fin.mul_comm 0 v];exact fp1 u v
theorem fp4 (u v:Fp):1 * v + 0 * u = v:=by rw [Fin.mul_comm 1 v,Fin.mul_comm 0 u];grind
theorem fpz (u:Fp):u * 0 = 0:=Rg.mul_zero u
theorem fps (u:Fp):u - u = 0:=Rg.sub_self u
theorem fp7 (u v:Fp):u * 0 - v * 0 = 0:=by rw [fpz,fpz];exact fps 0
theorem fp8 (u v:Fp):u * 0 + v * 0 = 0:=by rw [fpz,fpz];exact Rg.add_zero 0
theorem fp5 (u v:Fp):0 * u - 0 * v = 0:=by rw [Fin.mul_comm 0 u,Fin.mul_comm 0 v];exact fp7 u v
theorem fp6 (u v:Fp):0 * v + 0 * u = 0:=by rw [Fin.mul_comm 0 u,Fin.mul_comm 0 v];exact fp8 v u
theorem fp9 (c u v:Fp):c * u = c * u - 0 * v:=by rw [Fin.mul_comm 0 v];grind
theorem fp0 (c u v:Fp):c * u = c * u + 0 * v:=by rw [Fin.mul_comm 0 v];grind
namespace F2p
def npow (a:F2p):Nat->F2p
 | 0=>⟨1,0⟩
 | n + 1=>⟨(npow a n).x * a.x - (npow a n).y * a.y,(npow a n).x * a.y + (npow a n).y * a.x⟩
instance:Add F2p:=⟨fun a b=>⟨a.x + b.x,a.y + b.y⟩⟩
instance:Sub F2p:=⟨fun a b=>⟨a.x - b.x,a.y - b.y⟩⟩
instance:Neg F2p:=⟨fun a=>⟨-a.x,-a.y⟩⟩
instance:Mul F2p:=⟨fun a b=>⟨a.x * b.x - a.y * b.y,a.x * b.y + a.y * b.x⟩⟩
instance:NatCast F2p:=⟨fun n=>⟨nc n,0⟩⟩
instance:IntCast F2p:=⟨fun n=>⟨ic n,0⟩⟩
instance (n:Nat):OfNat F2p n:=⟨⟨OfNat.ofNat n,0⟩⟩
instance:SMul Nat F2p:=⟨fun n a=>⟨nc n * a.x,nc n * a.y⟩⟩
instance:SMul Int F2p:=⟨fun n a=>⟨ic n * a.x,ic n * a.y⟩⟩
instance:HPow F2p Nat F2p:=⟨npow⟩
theorem add_x (a b:F2p):(a + b).x = a.x + b.x:=rfl
theorem add_y (a b:F2p):(a + b).y = a.y + b.y:=rfl
theorem sub_x (a b:F2p):(a - b).x = a.x - b.x:=rfl
theorem sub_y (a b:F2p):(a - b).y = a.y - b.y:=rfl
theorem neg_x (a:F2p):(-a).x = -a.x:=rfl
theorem neg_y (a:F2p):(-a).y = -a.y:=rfl
theorem mul_x (a b:F2p):(a * b).x = a.x * b.x - a.y * b.y:=rfl
theorem mul_y (a b:F2p):(a * b).y = a.x * b.y + a.y * b.x:=rfl
theorem one_x:(1:F2p).x = 1:=rfl
theorem one_y:(1:F2p).y = 0:=rfl
theorem zero_x:(0:F2p).x = 0:=rfl
theorem zero_y:(0:F2p).y = 0:=rfl
theorem ic_neg (i:Int):ic (-i) = -ic i:=Rg.ic_neg i
theorem ic_nat (n:Nat):ic (n:Int) = nc n:=Rg.ic_nat n
instance:CR F2p where
 natCast:=inferInstance
 ofNat:=inferInstance
 nsmul:=inferInstance
 npow:=inferInstance
 intCast:=inferInstance
 zsmul:=inferInstance
 add_zero a:=F2p.ext (by rw [add_x,zero_x];grind) (by rw [add_y,zero_y];grind)
 add_comm a b:=F2p.ext (by rw [add_x,add_x];grind) (by rw [add_y,add_y];grind)
 add_assoc a b c:=F2p.ext (by simp only [add_x];grind) (by simp only [add_y];grind)
 mul_assoc a b c:=F2p.ext (by simp only [mul_x,mul_y];grind) (by simp only [mul_x,mul_y];grind)
 mul_one a:=F2p.ext (fp1 a.x a.y) (fp2 a.x a.y)
 one_mul a:=F2p.ext (fp3 a.x a.y) (fp4 a.x a.y)
 left_distrib a b c:=F2p.ext (by simp only [mul_x,add_x,add_y];grind) (by simp only [mul_y,add_x,add_y];grind)
 right_distrib a b c:=F2p.ext (by simp only [mul_x,add_x,add_y];grind) (by simp only [mul_y,add_x,add_y];grind)
 zero_mul a:=F2p.ext (fp5 a.x a.y) (fp6 a.x a.y)
 mul_zero a:=F2p.ext (fp7 a.x a.y) (fp8 a.x a.y)
 pow_zero _:=rfl
 pow_succ _ _:=rfl
 ofNat_succ n:=F2p.ext (Rg.ofNat_succ n) (Rg.add_zero (0:Fp)).symm
 ofNat_eq_natCast n:=F2p.ext (Rg.ofNat_nc n) rfl
 nsmul_eq_natCast_mul n a:=F2p.ext (fp9 (nc n) a.x a.y) (fp0 (nc n) a.y a.x)
 neg_add_cancel a:=F2p.ext (by rw [add_x,neg_x,zero_x];grind) (by rw [add_y,neg_y,zero_y];grind)
 sub_eq_add_neg a b:=F2p.ext (by rw [add_x,neg_x,sub_x];grind) (by rw [add_y,neg_y,sub_y];grind)
 neg_zsmul i a:=F2p.ext (by show ic (-i) * a.x = -(ic i * a.x);rw [ic_neg];grind) (by show ic (-i) * a.y = -(ic i * a.y);rw [ic_neg];grind)
 zsmul_natCast_eq_nsmul n a:=F2p.ext (by show ic (n:Int) * a.x = nc n * a.x;rw [ic_nat]) (by show ic (n:Int) * a.y = nc n * a.y;rw [ic_nat])
 intCast_ofNat n:=F2p.ext (Rg.ic_ofNat n) rfl
 intCast_neg i:=F2p.ext (Rg.ic_neg i) (by show (0:Fp) = -0;grind)
 mul_comm a b:=F2p.ext (by rw [mul_x,mul_x];grind) (by rw [mul_y,mul_y];grind)
end F2p
end Go.Rq
namespace Go.Proofs.YtnjocbcjejpklaaGreat
open Go.Rq Go
abbrev vC2 (s:F2p):List Cell:=[.ws .u64 6 (vF s.x),.ws .u64 6 (vF s.y)]
abbrev eC2 (s:F2p):List Cell:=[.ws .u64 6 (eF s.x),.ws .u64 6 (eF s.y)]
end Go.Proofs.YtnjocbcjejpklaaGreat
namespace Go.Rq
open Go
structure S6 where
 u:F2p
 v:F2p
 w:F2p
def xi (a:F2p):F2p:=⟨a.x - a.y,a.x + a.y⟩
def kx:F2p:=⟨1,1⟩
theorem xi_mul (a:F2p):xi a = a * kx:=F2p.ext (by rw [F2p.mul_x];show a.x - a.y = a.x * 1 - a.y * 1;grind) (by rw [F2p.mul_y];show a.x + a.y = a.x * 1 + a.y * 1;grind)
theorem S6.ext {a b:S6} (h1:a.u = b.u) (h2:a.v = b.v) (h3:a.w = b.w):a = b:=by cases a;cases b;simp_all
namespace S6
def add (a b:S6):S6:=⟨a.u + b.u,a.v + b.v,a.w + b.w⟩
def sub (a b:S6):S6:=⟨a.u - b.u,a.v - b.v,a.w - b.w⟩
def next (a:S6):S6:=⟨xi a.w,a.u,a.v⟩
def mul (a b:S6):S6:=⟨a.u * b.u + xi (a.v * b.w + a.w * b.v),a.u * b.v + a.v * b.u + xi (a.w * b.w),a.u * b.w + a.w * b.u + a.v * b.v⟩
def npow (a:S6):Nat->S6
 | 0=>⟨1,0,0⟩
 | n + 1=>mul (npow a n) a
instance:Add S6:=⟨add⟩
instance:Sub S6:=⟨sub⟩
instance:Neg S6:=⟨fun a=>⟨-a.u,-a.v,-a.w⟩⟩
instance:Mul S6:=⟨mul⟩
def nc (n:Nat):F2p:=Rg.nc n
def ic (n:Int):F2p:=Rg.ic n
instance:NatCast S6:=⟨fun n=>⟨nc n,0,0⟩⟩
instance:IntCast S6:=⟨fun n=>⟨ic n,0,0⟩⟩
instance (n:Nat):OfNat S6 n:=⟨⟨OfNat.ofNat n,0,0⟩⟩
instance:SMul Nat S6:=⟨fun n a=>⟨nc n * a.u,nc n * a.v,nc n * a.w⟩⟩
instance:SMul Int S6:=⟨fun n a=>⟨ic n * a.u,ic n * a.v,ic n * a.w⟩⟩
instance:HPow S6 Nat S6:=⟨npow⟩
theorem add_u (a b:S6):(a + b).u = a.u + b.u:=rfl
theorem add_v (a b:S6):(a + b).v = a.v + b.v:=rfl
theorem add_w (a b:S6):(a + b).w = a.w + b.w:=rfl
theorem sub_u (a b:S6):(a - b).u = a.u - b.u:=rfl
theorem sub_v (a b:S6):(a - b).v = a.v - b.v:=rfl
theorem sub_w (a b:S6):(a - b).w = a.w - b.w:=rfl
theorem neg_u (a:S6):(-a).u = -a.u:=rfl
theorem neg_v (a:S6):(-a).v = -a.v:=rfl
theorem neg_w (a:S6):(-a).w = -a.w:=rfl
theorem mul_u (a b:S6):(a * b).u = a.u * b.u + (a.v * b.w + a.w * b.v) * kx:=by rw [<-xi_mul];rfl
theorem mul_v (a b:S6):(a * b).v = a.u * b.v + a.v * b.u + a.w * b.w * kx:=by rw [<-xi_mul];rfl
theorem mul_w (a b:S6):(a * b).w = a.u * b.w + a.w * b.u + a.v * b.v:=rfl
theorem ic_neg (i:Int):ic (-i) = -ic i:=Rg.ic_neg i
theorem ic_nat (n:Nat):ic (n:Int) = nc n:=Rg.ic_nat n
section
variable {R:Type} [CR R]
theorem g1 (u v w k:R):u * 1 + (v * 0 + w * 0) * k = u:=by grind
theorem g2 (u v w k:R):u * 0 + v * 1 + w * 0 * k = v:=by grind
theorem g3 (u v w:R):u * 0 + w * 1 + v * 0 = w:=by grind
theorem g4 (u v w k:R):0 * u + (0 * w + 0 * v) * k = 0:=by grind
theorem g5 (u v w k:R):0 * v + 0 * u + 0 * w * k = 0:=by grind
theorem g6 (u v w:R):0 * w + 0 * u + 0 * v = 0:=by grind
theorem g7 (c u v w k:R):c * u = c * u + (0 * w + 0 * v) * k:=by grind
theorem g8 (c u v w k:R):c * v = c * v + 0 * u + 0 * w * k:=by grind
theorem g9 (c u v w:R):c * w = c * w + 0 * u + 0 * v:=by grind
theorem gn (a:R):-a + a = 0:=by grind
theorem gz (a:R):a + 0 = a:=by grind
theorem gzz:(0:R) = -0:=by grind
theorem c1 (u v w x y z k:R):u * x + (v * z + w * y) * k = x * u + (y * w + z * v) * k:=by grind
theorem c2 (u v w x y z k:R):u * y + v * x + w * z * k = x * v + y * u + z * w * k:=by grind
theorem c3 (u v w x y z:R):u * z + w * x + v * y = x * w + z * u + y * v:=by grind
end
theorem mulc (a b:S6):a * b = b * a:=S6.ext (by rw [mul_u,mul_u];exact c1 _ _ _ _ _ _ _) (by rw [mul_v,mul_v];exact c2 _ _ _ _ _ _ _) (by rw [mul_w,mul_w];exact c3 _ _ _ _ _ _)
theorem mul1 (a:S6):a * 1 = a:=S6.ext (by rw [mul_u];exact g1 _ _ _ _) (by rw [mul_v];exact g2 _ _ _ _) (by rw [mul_w];exact g3 _ _ _)
theorem zmul (a:S6):0 * a = 0:=S6.ext (by rw [mul_u];exact g4 _ _ _ _) (by rw [mul_v];exact g5 _ _ _ _) (by rw [mul_w];exact g6 _ _ _)
theorem ldis (a b c:S6):a * (b + c) = a * b + a * c:=S6.ext (by simp only [mul_u,add_u,add_v,add_w];grind) (by simp only [mul_v,add_u,add_v,add_w];grind) (by simp only [mul_w,add_u,add_v,add_w];grind)
instance:CR S6 where
 natCast:=inferInstance
 ofNat:=inferInstance
 nsmul:=inferInstance
 npow:=inferInstance
 intCast:=inferInstance
 zsmul:=inferInstance
 add_zero a:=S6.ext (gz _) (gz _) (gz _)
 add_comm a b:=S6.ext (by rw [add_u,add_u];grind) (by rw [add_v,add_v];grind) (by rw [add_w,add_w];grind)
 add_assoc a b c:=S6.ext (by simp only [add_u];grind) (by simp only [add_v];grind) (by simp only [add_w];grind)
 mul_assoc a b c:=S6.ext (by simp only [mul_u,mul_v,mul_w];grind) (by simp only [mul_u,mul_v,mul_w];grind) (by simp only [mul_u,mul_v,mul_w];grind)
 mul_one:=mul1
 zero_mul:=zmul
 left_distrib:=ldis
 one_mul a:=by rw [mulc];exact mul1 a
 mul_zero a:=by rw [mulc];exact zmul a
 right_distrib a b c:=by rw [mulc,ldis,mulc c,mulc c]
 pow_zero _:=rfl
 pow_succ _ _:=rfl
 ofNat_succ n:=S6.ext (Rg.ofNat_succ n) (gz 0).symm (gz 0).symm
 ofNat_eq_natCast n:=S6.ext (Rg.ofNat_nc n) rfl rfl
 nsmul_eq_natCast_mul n a:=S6.ext (by rw [mul_u];exact g7 (nc n) _ _ _ _) (by rw [mul_v];exact g8 (nc n) _ _ _ _) (by rw [mul_w];exact g9 (nc n) _ _ _)
 neg_add_cancel a:=S6.ext (gn _) (gn _) (gn _)
 sub_eq_add_neg a b:=S6.ext (by rw [add_u,neg_u,sub_u];grind) (by rw [add_v,neg_v,sub_v];grind) (by rw [add_w,neg_w,sub_w];grind)
 neg_zsmul i a:=S6.ext (by show ic (-i) * a.u = -(ic i * a.u);rw [ic_neg];grind) (by show ic (-i) * a.v = -(ic i * a.v);rw [ic_neg];grind) (by show ic (-i) * a.w = -(ic i * a.w);rw [ic_neg];grind)
 zsmul_natCast_eq_nsmul n a:=S6.ext (by show ic (n:Int) * a.u = nc n * a.u;rw [ic_nat]) (by show ic (n:Int) * a.v = nc n * a.v;rw [ic_nat]) (by show ic (n:Int) * a.w = nc n * a.w;rw [ic_nat])
 intCast_ofNat n:=S6.ext (Rg.ic_ofNat n) rfl rfl
 intCast_neg i:=S6.ext (Rg.ic_neg i) gzz gzz
 mul_comm:=mulc
def vv:S6:=⟨0,1,0⟩
theorem next_mul (a:S6):next a = a * vv:=S6.ext
 (by rw [mul_u];show xi a.w = a.u * 0 + (a.v * 0 + a.w * 1) * kx;rw [xi_mul];generalize kx = k;grind)
 (by rw [mul_v];show a.u = a.u * 1 + a.v * 0 + a.w * 0 * kx;generalize kx = k;grind)
 (by rw [mul_w];show a.v = a.u * 0 + a.w * 0 + a.v * 1;grind)
end S6
structure S12 where
 p:S6
 q:S6
theorem S12.ext {a b:S12} (h1:a.p = b.p) (h2:a.q = b.q):a = b:=by cases a;cases b;simp_all
namespace S12
def add (a b:S12):S12:=⟨a.p + b.p,a.q + b.q⟩
def sub (a b:S12):S12:=⟨a.p - b.p,a.q - b.q⟩
def mul (a b:S12):S12:=⟨(a.p.mul b.p).add (a.q.mul b.q).next,(a.p.mul b.q).add (a.q.mul b.p)⟩
def npow (a:S12):Nat->S12
 | 0=>⟨1,0⟩
 | n + 1=>mul (npow a n) a
instance:Add S12:=⟨add⟩
instance:Sub S12:=⟨sub⟩
instance:Neg S12:=⟨fun a=>⟨-a.p,-a.q⟩⟩
instance:Mul S12:=⟨mul⟩
def nc (n:Nat):S6:=Rg.nc n
def ic (n:Int):S6:=Rg.ic n
instance:NatCast S12:=⟨fun n=>⟨nc n,0⟩⟩
instance:IntCast S12:=⟨fun n=>⟨ic n,0⟩⟩
instance (n:Nat):OfNat S12 n:=⟨⟨OfNat.ofNat n,0⟩⟩
instance:SMul Nat S12:=⟨fun n a=>⟨nc n * a.p,nc n * a.q⟩⟩
instance:SMul Int S12:=⟨fun n a=>⟨ic n * a.p,ic n * a.q⟩⟩
instance:HPow S12 Nat S12:=⟨npow⟩
theorem add_p (a b:S12):(a + b).p = a.p + b.p:=rfl
theorem add_q (a b:S12):(a + b).q = a.q + b.q:=rfl
theorem sub_p (a b:S12):(a - b).p = a.p - b.p:=rfl
theorem sub_q (a b:S12):(a - b).q = a.q - b.q:=rfl
theorem neg_p (a:S12):(-a).p = -a.p:=rfl
theorem neg_q (a:S12):(-a).q = -a.q:=rfl
theorem mul_p (a b:S12):(a * b).p = a.p * b.p + a.q * b.q * S6.vv:=by rw [<-S6.next_mul];rfl
theorem mul_q (a b:S12):(a * b).q = a.p * b.q + a.q * b.p:=rfl
theorem ic_neg (i:Int):ic (-i) = -ic i:=Rg.ic_neg i
theorem ic_nat (n:Nat):ic (n:Int) = nc n:=Rg.ic_nat n
section
variable {R:Type} [CR R]
theorem g1 (u v k:R):u * 1 + v * 0 * k = u:=by grind
theorem g2 (u v:R):u * 0 + v * 1 = v:=by grind
theorem g4 (u v k:R):0 * u + 0 * v * k = 0:=by grind
theorem g5 (u v:R):0 * v + 0 * u = 0:=by grind
theorem g7 (c u v k:R):c * u = c * u + 0 * v * k:=by grind
theorem g8 (c u v:R):c * v = c * v + 0 * u:=by grind
end
open S6 (gz gn gzz)
theorem mulc (a b:S12):a * b = b * a:=S12.ext (by rw [mul_p,mul_p];generalize S6.vv = k;grind) (by rw [mul_q,mul_q];grind)
theorem mul1 (a:S12):a * 1 = a:=S12.ext (by rw [mul_p];exact g1 _ _ _) (by rw [mul_q];exact g2 _ _)
theorem zmul (a:S12):0 * a = 0:=S12.ext (by rw [mul_p];exact g4 _ _ _) (by rw [mul_q];exact g5 _ _)
theorem ldis (a b c:S12):a * (b + c) = a * b + a * c:=S12.ext (by simp only [mul_p,add_p,add_q];generalize S6.vv = k;grind) (by simp only [mul_q,add_p,add_q];grind)
instance:CR S12 where
 natCast:=inferInstance
 ofNat:=inferInstance
 nsmul:=inferInstance
 npow:=inferInstance
 intCast:=inferInstance
 zsmul:=inferInstance
 add_zero a:=S12.ext (gz _) (gz _)
 add_comm a b:=S12.ext (by rw [add_p,add_p];grind) (by rw [add_q,add_q];grind)
 add_assoc a b c:=S12.ext (by simp only [add_p];grind) (by simp only [add_q];grind)
 mul_assoc a b c:=S12.ext (by simp only [mul_p,mul_q];generalize S6.vv = k;grind) (by simp only [mul_p,mul_q];generalize S6.vv = k;grind)
 mul_one:=mul1
 zero_mul:=zmul
 left_distrib:=ldis
 one_mul a:=by rw [mulc];exact mul1 a
 mul_zero a:=by rw [mulc];exact zmul a
 right_distrib a b c:=by rw [mulc,ldis,mulc c,mulc c]
 pow_zero _:=rfl
 pow_succ _ _:=rfl
 ofNat_succ n:=S12.ext (Rg.ofNat_succ n) (gz 0).symm
 ofNat_eq_natCast n:=S12.ext (Rg.ofNat_nc n) rfl
 nsmul_eq_natCast_mul n a:=S12.ext (by rw [mul_p];exact g7 (nc n) _ _ _) (by rw [mul_q];exact g8 (nc n) _ _)
 neg_add_cancel a:=S12.ext (gn _) (gn _)
 sub_eq_add_neg a b:=S12.ext (by rw [add_p,neg_p,sub_p];grind) (by rw [add_q,neg_q,sub_q];grind)
 neg_zsmul i a:=S12.ext (by show ic (-i) * a.p = -(ic i * a.p);rw [ic_neg];grind) (by show ic (-i) * a.q = -(ic i * a.q);rw [ic_neg];grind)
 zsmul_natCast_eq_nsmul n a:=S12.ext (by show ic (n:Int) * a.p = nc n * a.p;rw [ic_nat]) (by show ic (n:Int) * a.q = nc n * a.q;rw [ic_nat])
 intCast_ofNat n:=S12.ext (Rg.ic_ofNat n) rfl
 intCast_neg i:=S12.ext (Rg.ic_neg i) gzz
 mul_comm:=mulc
end S12
section
variable {α:Type} [CR α]
theorem mul_pow' (x y:α):∀ n:Nat,(x * y) ^ n = x ^ n * y ^ n
 | 0=>by rw [Rg.pow_zero,Rg.pow_zero,Rg.pow_zero];grind
 | n + 1=>by rw [Rg.pow_succ,Rg.pow_succ,Rg.pow_succ,mul_pow' x y n];grind
theorem pow_mul' (x:α) (m:Nat):∀ n:Nat,x ^ (m * n) = (x ^ m) ^ n
 | 0=>by rw [Nat.mul_zero,Rg.pow_zero,Rg.pow_zero]
 | n + 1=>by rw [Nat.mul_succ,Rg.pow_add,pow_mul' x m n,Rg.pow_succ]
theorem pow_zero_pos {n:Nat} (h:0 < n):(0:α) ^ n = 0:=by
 obtain ⟨m,rfl⟩:∃ m,n = m + 1:=⟨n - 1,by omega⟩
 rw [Rg.pow_succ];grind
def bS (x y:α) (n:Nat):Nat->α
 | 0=>1
 | k + 1=>y * bS x y n k + Rg.nc (R:=α) (chs n (k + 1)) * x ^ (k + 1)
theorem bS_step (x y:α) (n:Nat):∀ k,bS x y (n + 1) (k + 1) = bS x y n (k + 1) + x * bS x y n k
 | 0=>by
  have e:chs (n + 1) (0 + 1) = chs n 0 + chs n 1:=rfl
  simp only [bS]
  rw [e,chs_zero,Rg.nc_add,Rg.nc_one,Rg.pow_one]
  grind
 | k + 1=>by
  have ih:=bS_step x y n k
  have e:chs (n + 1) (k + 2) = chs n (k + 1) + chs n (k + 2):=rfl
  have e1:bS x y n (k + 1) = y * bS x y n k + Rg.nc (R:=α) (chs n (k + 1)) * x ^ (k + 1):=rfl
  show y * bS x y (n + 1) (k + 1) + Rg.nc (R:=α) (chs (n + 1) (k + 2)) * x ^ (k + 2) = (y * bS x y n (k + 1) + Rg.nc (R:=α) (chs n (k + 2)) * x ^ (k + 2)) + x * bS x y n (k + 1)
  rw [ih,e,Rg.nc_add,Rg.pow_succ x (k + 1)]
  generalize x ^ (k + 1) = P at *
  generalize bS x y n k = B at *
  generalize bS x y n (k + 1) = C at *
  generalize Rg.nc (R:=α) (chs n (k + 1)) = c at *
  generalize Rg.nc (R:=α) (chs n (k + 2)) = d at *
  grind
theorem bS_pow (x y:α):∀ n,bS x y n n = (x + y) ^ n
 | 0=>by rw [Rg.pow_zero];rfl
 | n + 1=>by
  rw [bS_step]
  show (y * bS x y n n + Rg.nc (R:=α) (chs n (n + 1)) * x ^ (n + 1)) + x * bS x y n n = (x + y) ^ (n + 1)
  rw [chs_big (by omega),bS_pow x y n,Rg.nc_zero,Rg.pow_succ]
  grind
theorem bS_zero {s:Nat} (hs:Pr s) (h0:Rg.nc (R:=α) s = 0) (x y:α):∀ k,k < s->bS x y s k = y ^ k
 | 0,_=>by rw [Rg.pow_zero];rfl
 | k + 1,h=>by
  obtain ⟨m,hm⟩:=chs_dvd hs h
  show y * bS x y s k + Rg.nc (R:=α) (chs s (k + 1)) * x ^ (k + 1) = _
  rw [bS_zero hs h0 x y k (by omega),hm,Rg.nc_mul,h0,Rg.pow_succ]
  grind
theorem frobR {s:Nat} (hs:Pr s) (h0:Rg.nc (R:=α) s = 0) (x y:α):(x + y) ^ s = x ^ s + y ^ s:=by
 obtain ⟨n,rfl⟩:∃ n,s = n + 1:=⟨s - 1,by have:=hs.1;omega⟩
 rw [<-bS_pow]
 show y * bS x y (n + 1) n + Rg.nc (R:=α) (chs (n + 1) (n + 1)) * x ^ (n + 1) = _
 rw [bS_zero hs h0 x y n (by omega),chs_self,Rg.nc_one,Rg.pow_succ,Rg.pow_succ]
 grind
theorem fermatR {s:Nat} (hs:Pr s) (h0:Rg.nc (R:=α) s = 0):∀ a:Nat,Rg.nc (R:=α) a ^ s = Rg.nc a
 | 0=>by rw [Rg.nc_zero];exact pow_zero_pos (by have:=hs.1;omega)
 | a + 1=>by rw [Rg.nc_succ,frobR hs h0,fermatR hs h0 a,Rg.one_pow]
end
section
variable {α:Type} [CR α]
theorem cr_sub {x y z:α} (h:x * z = y * z):(x - y) * z = 0:=by grind
theorem cr_eq {x y:α} (h:x - y = 0):x = y:=by grind
theorem cr_neg {x y:α} (h:x * x + y * y = 0):x * x = (0 - 1) * (y * y):=by grind
theorem cr_m1:((0:α) - 1) * (0 - 1) = 1:=by grind
theorem cr_one (x:α):1 * x = x:=by grind
theorem cr_one' (x:α):x * 1 = x:=by grind
theorem cr_z1 {y:α} (h:(0:α) * 0 + y * y = 0):y * y = 0:=by grind
theorem cr_z2 {y:α} (h:y * y + 0 * 0 = 0):y * y = 0:=by grind
end
theorem fp_nat (n:Nat):nc n = ofN n:=by
 show Rg.nc (R:=Fp) n = _
 induction n with
 | zero=>exact Rg.nc_zero
 | succ n ih =>
  rw [ofN_add,<-ih,ofN_one];exact Rg.nc_succ n
theorem fp_char:Rg.nc (R:=Fp) pN = 0:=(fp_nat pN).trans ofN_p
theorem fp_fermat (x:Fp):x ^ pN = x:=by
 have:=fermatR (α:=Fp) pN_pr fp_char x.val
 have e:Rg.nc (R:=Fp) x.val = x:=(fp_nat _).trans (ofN_self x)
 exact (congrArg (fun y:Fp=>y ^ pN) e).symm.trans (this.trans e)
theorem fp_dom {x y:Fp} (h:x * y = 0):x = 0∨y = 0:=by
 have h1:=congrArg Fin.val h
 rw [Fin.val_mul] at h1
 have h2:pN ∣ x.val * y.val:=Nat.dvd_of_mod_eq_zero h1
 rcases pr_mul pN_pr h2 with h3 | h3
 ·left;exact Fin.ext (Nat.eq_zero_of_dvd_of_lt h3 x.isLt)
 ·right;exact Fin.ext (Nat.eq_zero_of_dvd_of_lt h3 y.isLt)
theorem fp_cancel {x y z:Fp} (hz:z ≠ 0) (h:x * z = y * z):x = y:=by
 rcases fp_dom (cr_sub h) with h | h
 ·exact cr_eq h
 ·exact absurd h hz
theorem fp_pow1 {x:Fp} (h:x ≠ 0):x ^ (pN - 1) = 1:=by
 have e:pN = (pN - 1) + 1:=by have:=pN_pos;omega
 have h1:x ^ (pN - 1 + 1) = x:=(congrArg (fun n:Nat=>x ^ n) e).symm.trans (fp_fermat x)
 rw [Rg.pow_succ] at h1
 refine fp_cancel h ?_
 rw [h1];exact (cr_one x).symm
theorem fp_inv {x:Fp} (h:x ≠ 0):x * x ^ (pN - 2) = 1:=by
 have:=fp_pow1 h
 have e:pN - 1 = (pN - 2) + 1:=by have:=pN_pr.1;omega
 rw [e,Rg.pow_succ] at this
 rw [Rg.mul_comm];exact this
theorem fp_norm {x y:Fp} (h:x * x + y * y = 0):x = 0/\y = 0:=by
 refine Classical.byContradiction fun hc=>?_
 have hy:y ≠ 0:=fun e=>by
  subst e
  rcases fp_dom (cr_z2 h) with e | e <;> exact hc ⟨e,rfl⟩
 have hx:x ≠ 0:=fun e=>by
  subst e
  rcases fp_dom (cr_z1 h) with e | e <;> exact hy e
 have e:pN - 1 = 2 * ((pN - 1) / 2):=by decide
 have h1:=fp_pow1 hx
 have h2:=fp_pow1 hy
 rw [e,pow_mul',Rg.pow_two] at h1 h2
 have h3:x * x = (0 - 1) * (y * y):=cr_neg h
 rw [h3,mul_pow',h2] at h1
 have e2:(pN - 1) / 2 = 2 * ((pN - 3) / 4) + 1:=by decide
 rw [e2,Rg.pow_succ,pow_mul',Rg.pow_two] at h1
 have h4:((0:Fp) - 1) * (0 - 1) = 1:=cr_m1
 rw [h4,Rg.one_pow] at h1
 have h5:=congrArg Fin.val h1
 exact absurd h5 (by decide)
def pwS (n a:Nat) (b:Bool) (r:Nat):Nat:=bif b then r * r % n * a % n else r * r % n
def pwN (n a:Nat):Nat->Nat->Nat
 | 0,_=>1 % n
 | k + 1,e=>pwS n a (Nat.beq (e % 2) 1) (pwN n a k (e / 2))
theorem pow_half {α:Type} [CR α] (x:α) (e:Nat):x ^ e = bif Nat.beq (e % 2) 1 then x ^ (e / 2) * x ^ (e / 2) * x else x ^ (e / 2) * x ^ (e / 2):=by
 cases h:Nat.beq (e % 2) 1
 ·have:e = e / 2 + e / 2:=by
   have:e % 2 ≠ 1:=fun e'=>by rw [<-Nat.beq_eq,h] at e';cases e'
   omega
  rw [cond_false,<-Rg.pow_add,<-this]
 ·have:e = e / 2 + e / 2 + 1:=by
   rw [Nat.beq_eq] at h
   omega
  rw [cond_true,<-Rg.pow_add,<-Rg.pow_succ,<-this]
theorem pwN_eq (a:Nat):∀ k e,e < 2 ^ k->ofN (pwN pN a k e) = ofN a ^ e
 | 0,e,h=>by
  have:e = 0:=by simpa using h
  subst this
  rw [Rg.pow_zero]
  show ofN (1 % pN) = 1
  rw [ofN_mod,ofN_one]
 | k + 1,e,h=>by
  have ih:=pwN_eq a k (e / 2) (by rw [Nat.pow_succ] at h;omega)
  rw [pow_half]
  show ofN (pwS pN a (Nat.beq (e % 2) 1) (pwN pN a k (e / 2))) = _
  unfold pwS
  cases Nat.beq (e % 2) 1
  ·rw [cond_false,cond_false,ofN_mod,ofN_mul,ih]
  ·rw [cond_true,cond_true,ofN_mod,ofN_mul,ofN_mod,ofN_mul,ih]
section
variable {α:Type} [CR α]
theorem cr_0 {z c:α}:((0:α) * 0 * 0 = c * (z * z * z)) = (0 = c * (z * z * z)):=by
 have:(0:α) * 0 * 0 = 0:=by grind
 rw [this]
theorem cr_01 {z c:α}:((0:α) * 0 = c * (z * z)) = (0 = c * (z * z)):=by
 have:(0:α) * 0 = 0:=by grind
 rw [this]
theorem cr_cub (x:α):x ^ 3 = x * x * x:=by rw [Rg.pow_succ,Rg.pow_two]
theorem cr_00 {y c:α}:(y * y * y = c * ((0:α) * 0 * 0)) = (y * y * y = 0):=by
 have:c * ((0:α) * 0 * 0) = 0:=by grind
 rw [this]
theorem cr_02 {y c:α}:(y * y = c * ((0:α) * 0)) = (y * y = 0):=by
 have:c * ((0:α) * 0) = 0:=by grind
 rw [this]
theorem cr_n (a b c d:α):(a * c - b * d) * (a * c - b * d) + (a * d + b * c) * (a * d + b * c) = (a * a + b * b) * (c * c + d * d):=by grind
theorem cr_zz:(0:α) * 0 + 0 * 0 = 0:=by grind
theorem cr_i1 (a b i:α):a * (a * i) - b * ((0 - b) * i) = (a * a + b * b) * i:=by grind
theorem cr_i2 (a b i:α):a * ((0 - b) * i) + b * (a * i) = 0:=by grind
theorem cr_i2' (a b i:α):a * ((0 - b) * i) + b * (a * i) = 0:=by grind
theorem cr_f1 {x y z k v w:α} (h1:y * y - x * z = w * 0) (h2:k * (z * z) - x * y = v * 0):y * y * y = k * (z * z * z):=by grind
theorem cr_f2 {x k u:α} (h:x * x - k * (0 * 0) = u * 0):x * x = 0:=by grind
theorem cr_f3 {u v w k:α} (h1:k * (w * w) - u * v = 0) (h2:v * v - u * w = 0):v * v * v = k * (w * w * w):=by grind
theorem cr_f4 {u k:α} (h:u * u - k * (0 * 0) = 0):u * u = 0:=by grind
theorem cr_k (k:α):(0:α) * ((0:α) * 0 - k * (1 * 0)) + k * (0 * (k * (0 * 0) - 0 * 1) + 1 * (1 * 1 - 0 * 0)) = k:=by grind
theorem cr_t1 {p q v:α} (h:p * p - q * q * v = 0):p * p = v * (q * q):=by grind
theorem cr_t2 (p q v i:α):p * (p * i) + q * ((0 - q) * i) * v = (p * p - q * q * v) * i:=by grind
theorem cr_t3 {a b c:α} (h:a * b = 0) (h1:a * c = 1):b = 0:=by
 have:b = c * (a * b):=by grind
 rw [this,h];grind
end
theorem two_sq:ofN 2 ^ ((pN - 1) / 2) = ofN (pN - 1):=by
 rw [<-pwN_eq 2 E _ (by rw [<-R_pow];decide)]
 exact congrArg ofN (by kernel_rfl)
theorem two_cu:ofN 2 ^ ((pN - 1) / 3) = ofN 793479390729215512621379701633421447060886740281060493010456487427281649075476305620758731620350:=by
 rw [<-pwN_eq 2 E _ (by rw [<-R_pow];decide)]
 exact congrArg ofN (by kernel_rfl)
theorem fp_cube {y z:Fp} (h:y * y * y = ofN 2 * (z * z * z)):y = 0/\z = 0:=by
 have hz:z = 0:=Classical.byContradiction fun hz=>by
  have hy:y ≠ 0:=fun e=>by
   subst e
   rw [cr_0] at h
   rcases fp_dom h.symm with h | h
   ·exact absurd (congrArg Fin.val h) (by decide)
   ·rcases fp_dom h with h | h
    ·rcases fp_dom h with h | h <;> exact hz h
    ·exact hz h
  have e:pN - 1 = 3 * ((pN - 1) / 3):=by decide
  have h1:=fp_pow1 hy
  have h2:=fp_pow1 hz
  rw [e,pow_mul',cr_cub] at h1 h2
  rw [h,mul_pow',h2,two_cu,cr_one'] at h1
  exact absurd (congrArg Fin.val h1) (by decide)
 subst hz
 rw [cr_00] at h
 refine ⟨?_,rfl⟩
 rcases fp_dom h with h | h
 ·rcases fp_dom h with h | h <;> exact h
 ·exact h
theorem fp_squ {y z:Fp} (h:y * y = ofN 2 * (z * z)):y = 0/\z = 0:=by
 have hz:z = 0:=Classical.byContradiction fun hz=>by
  have hy:y ≠ 0:=fun e=>by
   subst e
   rw [cr_01] at h
   rcases fp_dom h.symm with h | h
   ·exact absurd (congrArg Fin.val h) (by decide)
   ·rcases fp_dom h with h | h <;> exact hz h
  have e:pN - 1 = 2 * ((pN - 1) / 2):=by decide
  have h1:=fp_pow1 hy
  have h2:=fp_pow1 hz
  rw [e,pow_mul',Rg.pow_two] at h1 h2
  rw [h,mul_pow',h2,two_sq,cr_one'] at h1
  exact absurd (congrArg Fin.val h1) (by decide)
 subst hz
 rw [cr_02] at h
 refine ⟨?_,rfl⟩
 rcases fp_dom h with h | h <;> exact h
namespace F2p
def nrm (a:F2p):Fp:=a.x * a.x + a.y * a.y
theorem nrm_mul (a b:F2p):nrm (a * b) = nrm a * nrm b:=by
 simp only [nrm,mul_x,mul_y]
 exact cr_n _ _ _ _
theorem nrm_0 {a:F2p} (h:nrm a = 0):a = 0:=by
 obtain ⟨h1,h2⟩:=fp_norm h
 exact F2p.ext h1 h2
theorem nrm_z:nrm 0 = 0:=cr_zz
theorem dom {a b:F2p} (h:a * b = 0):a = 0∨b = 0:=by
 have h1:=nrm_mul a b
 rw [h,nrm_z] at h1
 rcases fp_dom h1.symm with h | h
 ·exact .inl (nrm_0 h)
 ·exact .inr (nrm_0 h)
def inv' (a:F2p):F2p:=⟨a.x * nrm a ^ (pN - 2),(0 - a.y) * nrm a ^ (pN - 2)⟩
theorem mul_inv {a:F2p} (h:a ≠ 0):a * inv' a = 1:=by
 have h1:nrm a ≠ 0:=fun e=>h (nrm_0 e)
 have h2:=fp_inv h1
 refine F2p.ext ?_ ?_
 ·show a.x * (a.x * nrm a ^ (pN - 2)) - a.y * ((0 - a.y) * nrm a ^ (pN - 2)) = 1
  rw [cr_i1];exact h2
 ·show a.x * ((0 - a.y) * nrm a ^ (pN - 2)) + a.y * (a.x * nrm a ^ (pN - 2)) = 0
  exact cr_i2 _ _ _
theorem nrm_kx:nrm kx = ofN 2:=by
 show (1:Fp) * 1 + 1 * 1 = ofN 2
 exact Fin.ext (by kernel_rfl)
theorem cube {y z:F2p} (h:y * y * y = kx * (z * z * z)):y = 0/\z = 0:=by
 have h1:=congrArg nrm h
 simp only [nrm_mul,nrm_kx] at h1
 obtain ⟨h2,h3⟩:=fp_cube h1
 exact ⟨nrm_0 h2,nrm_0 h3⟩
theorem squ {y z:F2p} (h:y * y = kx * (z * z)):y = 0/\z = 0:=by
 have h1:=congrArg nrm h
 simp only [nrm_mul,nrm_kx] at h1
 obtain ⟨h2,h3⟩:=fp_squ h1
 exact ⟨nrm_0 h2,nrm_0 h3⟩
theorem sq0 {a:F2p} (h:a * a = 0):a = 0:=by rcases dom h with h | h <;> exact h
end F2p
namespace S6
def ax (a:S6):F2p:=a.u * a.u - kx * (a.v * a.w)
def ay (a:S6):F2p:=kx * (a.w * a.w) - a.u * a.v
def az (a:S6):F2p:=a.v * a.v - a.u * a.w
def nr (a:S6):F2p:=a.u * ax a + kx * (a.w * ay a + a.v * az a)
theorem nr_0 {a:S6} (h:nr a = 0):a = 0:=by
 have e1:ay a * ay a - ax a * az a = a.w * nr a:=by simp only [nr,ax,ay,az];generalize kx = k;grind
 have e2:kx * (az a * az a) - ax a * ay a = a.v * nr a:=by simp only [nr,ax,ay,az];generalize kx = k;grind
 have e3:ax a * ax a - kx * (ay a * az a) = a.u * nr a:=by simp only [nr,ax,ay,az];generalize kx = k;grind
 rw [h] at e1 e2 e3
 have f1:ay a * ay a * ay a = kx * (az a * az a * az a):=cr_f1 e1 e2
 obtain ⟨y0,z0⟩:=F2p.cube f1
 rw [y0,z0] at e3
 have x0:ax a = 0:=F2p.sq0 (cr_f2 e3)
 have g1:a.v * a.v * a.v = kx * (a.w * a.w * a.w):=cr_f3 y0 z0
 obtain ⟨v0,w0⟩:=F2p.cube g1
 have u0:a.u = 0:=F2p.sq0 (by
  have:a.u * a.u - kx * (a.v * a.w) = 0:=x0
  rw [v0,w0] at this
  exact cr_f4 this)
 exact S6.ext u0 v0 w0
def inv' (a:S6):S6:=⟨ax a * (nr a).inv',ay a * (nr a).inv',az a * (nr a).inv'⟩
theorem mul_inv {a:S6} (h:a ≠ 0):a * inv' a = 1:=by
 have h1:=F2p.mul_inv fun e=>h (nr_0 e)
 refine S6.ext ?_ ?_ ?_
 ·rw [mul_u]
  show a.u * (ax a * (nr a).inv') + (a.v * (az a * (nr a).inv') + a.w * (ay a * (nr a).inv')) * kx = 1
  rw [<-h1]
  generalize (nr a).inv' = i
  simp only [nr]
  generalize kx = k
  grind
 ·rw [mul_v]
  show a.u * (ay a * (nr a).inv') + a.v * (ax a * (nr a).inv') + a.w * (az a * (nr a).inv') * kx = 0
  generalize (nr a).inv' = i
  simp only [ax,ay,az]
  generalize kx = k
  grind
 ·rw [mul_w]
  show a.u * (az a * (nr a).inv') + a.w * (ax a * (nr a).inv') + a.v * (ay a * (nr a).inv') = 0
  generalize (nr a).inv' = i
  simp only [ax,ay,az]
  generalize kx = k
  grind
theorem nr_mul (a b:S6):nr (a * b) = nr a * nr b:=by
 simp only [nr,ax,ay,az,mul_u,mul_v,mul_w]
 generalize kx = k
 grind
theorem nr_vv:nr vv = kx:=by
 show (0:F2p) * ((0:F2p) * 0 - kx * (1 * 0)) + kx * (0 * (kx * (0 * 0) - 0 * 1) + 1 * (1 * 1 - 0 * 0)) = kx
 exact cr_k _
theorem squ {y z:S6} (h:y * y = vv * (z * z)):y = 0/\z = 0:=by
 have h1:=congrArg nr h
 simp only [nr_mul,nr_vv] at h1
 obtain ⟨h2,h3⟩:=F2p.squ h1
 exact ⟨nr_0 h2,nr_0 h3⟩
end S6
namespace S12
def nr (a:S12):S6:=a.p * a.p - a.q * a.q * S6.vv
theorem nr_0 {a:S12} (h:nr a = 0):a = 0:=by
 obtain ⟨h1,h2⟩:=S6.squ (cr_t1 h)
 exact S12.ext h1 h2
def inv' (a:S12):S12:=⟨a.p * (nr a).inv',(0 - a.q) * (nr a).inv'⟩
theorem mul_inv {a:S12} (h:a ≠ 0):a * inv' a = 1:=by
 have h1:=S6.mul_inv fun e=>h (nr_0 e)
 refine S12.ext ?_ ?_
 ·rw [mul_p]
  show a.p * (a.p * (nr a).inv') + a.q * ((0 - a.q) * (nr a).inv') * S6.vv = 1
  rw [<-h1]
  simp only [nr]
  exact cr_t2 _ _ _ _
 ·rw [mul_q]
  show a.p * ((0 - a.q) * (nr a).inv') + a.q * (a.p * (nr a).inv') = 0
  exact cr_i2' _ _ _
theorem dom {a b:S12} (h:a * b = 0):a = 0∨b = 0:=by
 refine Classical.byContradiction fun hc=>?_
 have ha:a ≠ 0:=fun e=>hc (.inl e)
 have h1:=mul_inv ha
 refine hc (.inr ?_)
 exact cr_t3 h h1
end S12
def F2p.cj (a:F2p):F2p:=⟨a.x,0 - a.y⟩
def tuN0:Nat:=1
def tuN1:Nat:=0
def tuN2:Nat:=3850754370037169011952147076051364057158807420970682438676050522613628423219637725072182697113062777891589506424760
def tuN3:Nat:=151655185184498381465642749684540099398075398968325446656007613510403227271200139370504932015952886146304766135027
def tuN4:Nat:=0
def tuN5:Nat:=4002409555221667392624310435006688643935503118305586438271171395842971157480381377015405980053539358417135540939436
def tuN6:Nat:=1028732146235106349975324479215795277384839936929757896155643118032610843298655225875571310552543014690878354869257
def tuN7:Nat:=1028732146235106349975324479215795277384839936929757896155643118032610843298655225875571310552543014690878354869257
def tuN8:Nat:=4002409555221667392624310435006688643935503118305586438271171395842971157480381377015405980053539358417135540939437
def tuN9:Nat:=0
def tuN10:Nat:=877076961050607968509681729531255177986764537961432449499635504522207616027455086505066378536590128544573588734230
def tuN11:Nat:=3125332594171059424908108096204648978570118281977575435832422631601824034463382777937621250592425535493320683825557
def tuK0:F2p:=⟨ofN tuN0,ofN tuN1⟩
def tuK1:F2p:=⟨ofN tuN2,ofN tuN3⟩
def tuK2:F2p:=⟨ofN tuN4,ofN tuN5⟩
def tuK3:F2p:=⟨ofN tuN6,ofN tuN7⟩
def tuK4:F2p:=⟨ofN tuN8,ofN tuN9⟩
def tuK5:F2p:=⟨ofN tuN10,ofN tuN11⟩
def S12.turn (z:S12):S12:=⟨⟨z.p.u.cj * tuK0,z.p.v.cj * tuK2,z.p.w.cj * tuK4⟩,⟨z.q.u.cj * tuK1,z.q.v.cj * tuK3,z.q.w.cj * tuK5⟩⟩
def S12.turns:Nat->S12->S12
 | 0,z=>z
 | n + 1,z=>S12.turn (S12.turns n z)
section
variable {α:Type} [CR α]
theorem cr_9 (x y:α):x * y = x * y - 0 * 0:=by grind
theorem cr_10 (x y:α):(0:α) = x * 0 + 0 * y:=by grind
theorem cr_11 (x y:α):x = x + (y * 0 - 0 * 1):=by grind
theorem cr_12 (y:α):y = 0 + (y * 1 + 0 * 0):=by grind
theorem cr_13 (y:α):y * (0 - 1) = 0 - y:=by grind
theorem cr_14 (a b c d:α):a * c - b * d = a * c - (0 - b) * (0 - d):=by grind
theorem cr_15 (a b c d:α):0 - (a * d + b * c) = a * (0 - d) + (0 - b) * c:=by grind
theorem cr_16 (a:α):0 - (0 - a) = a:=by grind
theorem cr_18 {a b:α} (h:a + b = 0):a = 0 - b:=by grind
theorem cr_19 (a b:α):a + (0 - b) = a - b:=by grind
theorem cr_z (a:α):a * 0 = 0:=by grind
theorem cr_s1 (a u v w x y z k l:α):a * u + (0 * w + 0 * v) * k + ((0 * x + (0 * z + 0 * y) * k) * 0 + ((0 * y + 0 * x + 0 * z * k) * 0 + (0 * z + 0 * x + 0 * y) * 1) * l) = a * u:=by grind
theorem cr_s2 (a u v w x y z k l:α):a * v + 0 * u + 0 * w * k + ((0 * x + (0 * z + 0 * y) * k) * 1 + (0 * y + 0 * x + 0 * z * k) * 0 + (0 * z + 0 * x + 0 * y) * 0 * l) = a * v:=by grind
theorem cr_s3 (a u v w x y z k l:α):a * w + 0 * u + 0 * v + ((0 * x + (0 * z + 0 * y) * k) * 0 + (0 * z + 0 * x + 0 * y) * 0 + (0 * y + 0 * x + 0 * z * k) * 1) = a * w:=by grind
theorem cr_e1 (a b c d e f:α):a = a + b * 0 + c * 0 + d * 0 + e * 0 + f * 0:=by grind
theorem cr_e2 (a b c d e f:α):b = 0 + b * 1 + c * 0 + d * 0 + e * 0 + f * 0:=by grind
theorem cr_e3 (a b c d e f:α):c = 0 + b * 0 + c * 1 + d * 0 + e * 0 + f * 0:=by grind
theorem cr_e4 (a b c d e f:α):d = 0 + b * 0 + c * 0 + d * 1 + e * 0 + f * 0:=by grind
theorem cr_e5 (a b c d e f:α):e = 0 + b * 0 + c * 0 + d * 0 + e * 1 + f * 0:=by grind
theorem cr_e6 (a b c d e f:α):f = 0 + b * 0 + c * 0 + d * 0 + e * 0 + f * 1:=by grind
theorem cr_w (a b c d:α):a * b * (c * d) = a * c * (b * d):=by grind
theorem cr_k3 (a k:α):a * k * k * k = a * (k * k * k):=by grind
theorem cr_k4 (a:α):a * (0 - 1) = 0 - a:=by grind
end
namespace F2p
def c (x:Fp):F2p:=⟨x,0⟩
def i2:F2p:=⟨0,1⟩
theorem nc_eq (n:Nat):Rg.nc (R:=F2p) n = c (Rg.nc n):=rfl
theorem char:Rg.nc (R:=F2p) pN = 0:=by rw [nc_eq,fp_char];rfl
theorem c_mul (x y:Fp):c (x * y) = c x * c y:=F2p.ext (cr_9 x y) (cr_10 x y)
theorem c_pow (x:Fp):∀ n:Nat,c x ^ n = c (x ^ n)
 | 0=>by rw [Rg.pow_zero,Rg.pow_zero];rfl
 | n + 1=>by rw [Rg.pow_succ,Rg.pow_succ,c_pow x n,c_mul]
theorem split (a:F2p):a = c a.x + c a.y * i2:=F2p.ext (cr_11 a.x a.y) (cr_12 a.y)
theorem i2_2:i2 * i2 = c (ofN (pN - 1)):=by
 refine F2p.ext (Fin.ext (by kernel_rfl)) (Fin.ext (by kernel_rfl))
theorem i2_pow:i2 ^ pN = c (ofN (pN - 1)) * i2:=by
 have e:pN = 2 * (2 * ((pN - 3) / 4) + 1) + 1:=by decide
 have h:i2 ^ (2 * (2 * ((pN - 3) / 4) + 1) + 1) = c (ofN (pN - 1)) * i2:=by
  rw [Rg.pow_succ,pow_mul',Rg.pow_two,i2_2,Rg.pow_succ,pow_mul',Rg.pow_two]
  have h1:c (ofN (pN - 1)) * c (ofN (pN - 1)) = 1:=F2p.ext (Fin.ext (by kernel_rfl)) (Fin.ext (by kernel_rfl))
  rw [h1,Rg.one_pow,Rg.one_mul]
 exact (congrArg (fun n:Nat=>i2 ^ n) e).trans h
theorem neg1 (y:Fp):y * ofN (pN - 1) = 0 - y:=by
 have h:ofN (pN - 1) = 0 - 1:=Fin.ext (by kernel_rfl)
 rw [h];exact cr_13 y
theorem frob (a:F2p):a ^ pN = a.cj:=by
 have h:=split a
 have e:a ^ pN = (c a.x + c a.y * i2) ^ pN:=congrArg (fun z:F2p=>z ^ pN) h
 rw [e,frobR pN_pr char,mul_pow',c_pow,c_pow,fp_fermat,fp_fermat,i2_pow,<-Rg.mul_assoc,<-c_mul,neg1]
 exact (split a.cj).symm
theorem cj_mul (a b:F2p):cj (a * b) = cj a * cj b:=F2p.ext (cr_14 _ _ _ _) (cr_15 _ _ _ _)
theorem cj_cj (a:F2p):cj (cj a) = a:=F2p.ext rfl (cr_16 _)
end F2p
def qm (x y:Nat × Nat):Nat × Nat:=((x.1 * y.1 + (pN - x.2 * y.2 % pN)) % pN,(x.1 * y.2 + x.2 * y.1) % pN)
def qS (a:Nat × Nat) (b:Bool) (r:Nat × Nat):Nat × Nat:=bif b then qm (qm r r) a else qm r r
def qw (a:Nat × Nat):Nat->Nat->Nat × Nat
 | 0,_=>(1,0)
 | k + 1,e=>qS a (Nat.beq (e % 2) 1) (qw a k (e / 2))
def toQ (x:Nat × Nat):F2p:=⟨ofN x.1,ofN x.2⟩
theorem ofN_sub {a:Nat} (h:a <= pN):ofN (pN - a) = 0 - ofN a:=by
 have:ofN (pN - a) + ofN a = 0:=by rw [<-ofN_add,Nat.sub_add_cancel h,ofN_p]
 exact cr_18 this
theorem qm_eq (x y:Nat × Nat):toQ (qm x y) = toQ x * toQ y:=by
 refine F2p.ext ?_ ?_
 ·show ofN ((x.1 * y.1 + (pN - x.2 * y.2 % pN)) % pN) = ofN x.1 * ofN y.1 - ofN x.2 * ofN y.2
  rw [ofN_mod,ofN_add,ofN_sub (Nat.le_of_lt (Nat.mod_lt _ pN_pos)),ofN_mod,ofN_mul,ofN_mul]
  exact cr_19 _ _
 ·show ofN ((x.1 * y.2 + x.2 * y.1) % pN) = ofN x.1 * ofN y.2 + ofN x.2 * ofN y.1
  rw [ofN_mod,ofN_add,ofN_mul,ofN_mul]
theorem qw_eq (a:Nat × Nat):∀ k e,e < 2 ^ k->toQ (qw a k e) = toQ a ^ e
 | 0,e,h=>by
  have:e = 0:=by simpa using h
  subst this
  rw [Rg.pow_zero]
  exact F2p.ext ofN_one ofN_zero
 | k + 1,e,h=>by
  have ih:=qw_eq a k (e / 2) (by rw [Nat.pow_succ] at h;omega)
  rw [pow_half]
  show toQ (qS a (Nat.beq (e % 2) 1) (qw a k (e / 2))) = _
  unfold qS
  cases Nat.beq (e % 2) 1
  ·rw [cond_false,cond_false,qm_eq,ih]
  ·rw [cond_true,cond_true,qm_eq,qm_eq,ih]
theorem kx_Q:kx = toQ (1,1):=F2p.ext ofN_one.symm ofN_one.symm
theorem kx_pow:kx ^ ((pN - 1) / 6) = tuK1:=by
 rw [kx_Q,<-qw_eq (1,1) E _ (by rw [<-R_pow];decide)]
 exact F2p.ext (congrArg ofN (by kernel_rfl)) (congrArg ofN (by kernel_rfl))
namespace S12
def c (a:F2p):S12:=⟨⟨a,0,0⟩,⟨0,0,0⟩⟩
def w1:S12:=⟨⟨0,0,0⟩,⟨1,0,0⟩⟩
def w2:S12:=⟨⟨0,1,0⟩,⟨0,0,0⟩⟩
def w3:S12:=⟨⟨0,0,0⟩,⟨0,1,0⟩⟩
def w4:S12:=⟨⟨0,0,1⟩,⟨0,0,0⟩⟩
def w5:S12:=⟨⟨0,0,0⟩,⟨0,0,1⟩⟩
def scal (a:F2p) (z:S12):S12:=⟨⟨a * z.p.u,a * z.p.v,a * z.p.w⟩,⟨a * z.q.u,a * z.q.v,a * z.q.w⟩⟩
theorem nc_eq (n:Nat):Rg.nc (R:=S12) n = c (Rg.nc n):=rfl
theorem char:Rg.nc (R:=S12) pN = 0:=by rw [nc_eq,F2p.char];rfl
theorem c_scal (a:F2p) (z:S12):c a * z = scal a z:=by
 refine S12.ext (S6.ext ?_ ?_ ?_) (S6.ext ?_ ?_ ?_)
 ·rw [mul_p,S6.add_u,S6.mul_u,S6.mul_u,S6.mul_u,S6.mul_v,S6.mul_w]
  show a * z.p.u + (0 * z.p.w + 0 * z.p.v) * kx + _ = a * z.p.u
  exact cr_s1 _ _ _ _ _ _ _ _ _
 ·rw [mul_p,S6.add_v,S6.mul_v,S6.mul_v,S6.mul_u,S6.mul_v,S6.mul_w]
  show a * z.p.v + 0 * z.p.u + 0 * z.p.w * kx + _ = a * z.p.v
  exact cr_s2 _ _ _ _ _ _ _ _ _
 ·rw [mul_p,S6.add_w,S6.mul_w,S6.mul_w,S6.mul_u,S6.mul_v,S6.mul_w]
  show a * z.p.w + 0 * z.p.u + 0 * z.p.v + _ = a * z.p.w
  exact cr_s3 _ _ _ _ _ _ _ kx kx
 ·rw [mul_q,S6.add_u,S6.mul_u,S6.mul_u]
  show a * z.q.u + (0 * z.q.w + 0 * z.q.v) * kx + (0 * z.p.u + (0 * z.p.w + 0 * z.p.v) * kx) = a * z.q.u
  generalize kx = k
  grind
 ·rw [mul_q,S6.add_v,S6.mul_v,S6.mul_v]
  show a * z.q.v + 0 * z.q.u + 0 * z.q.w * kx + (0 * z.p.v + 0 * z.p.u + 0 * z.p.w * kx) = a * z.q.v
  generalize kx = k
  grind
 ·rw [mul_q,S6.add_w,S6.mul_w,S6.mul_w]
  show a * z.q.w + 0 * z.q.u + 0 * z.q.v + (0 * z.p.w + 0 * z.p.u + 0 * z.p.v) = a * z.q.w
  grind
theorem c_mul (a b:F2p):c (a * b) = c a * c b:=by
 rw [c_scal]
 exact S12.ext (S6.ext rfl (cr_z a).symm (cr_z a).symm) (S6.ext (cr_z a).symm (cr_z a).symm (cr_z a).symm)
theorem c_pow (a:F2p):∀ n:Nat,c a ^ n = c (a ^ n)
 | 0=>by rw [Rg.pow_zero,Rg.pow_zero];rfl
 | n + 1=>by rw [Rg.pow_succ,Rg.pow_succ,c_pow a n,c_mul]
theorem split (z:S12):z = c z.p.u + c z.q.u * w1 + c z.p.v * w2 + c z.q.v * w3 + c z.p.w * w4 + c z.q.w * w5:=by
 simp only [c_scal]
 exact S12.ext (S6.ext (cr_e1 _ _ _ _ _ _) (cr_e3 0 _ _ _ _ _) (cr_e5 0 _ _ _ _ _)) (S6.ext (cr_e2 0 _ _ _ _ _) (cr_e4 0 _ _ _ _ _) (cr_e6 0 _ _ _ _ _))
theorem w_2:w1 * w1 = w2:=by kernel_rfl
theorem w_3:w1 * w2 = w3:=by kernel_rfl
theorem w_4:w1 * w3 = w4:=by kernel_rfl
theorem w_5:w1 * w4 = w5:=by kernel_rfl
theorem w_6:w1 * w5 = c kx:=by kernel_rfl
theorem tu_2:tuK1 * tuK1 = tuK2:=by kernel_rfl
theorem tu_3:tuK1 * tuK2 = tuK3:=by kernel_rfl
theorem tu_4:tuK1 * tuK3 = tuK4:=by kernel_rfl
theorem tu_5:tuK1 * tuK4 = tuK5:=by kernel_rfl
theorem tu_0:tuK0 = 1:=by kernel_rfl
theorem w1_pow:w1 ^ pN = c tuK1 * w1:=by
 have e:pN = 6 * ((pN - 1) / 6) + 1:=by decide
 have h6:w1 ^ 6 = c kx:=by
  rw [Rg.pow_succ,Rg.pow_succ,Rg.pow_succ,Rg.pow_succ,Rg.pow_two,w_2,Rg.mul_comm w2,w_3,Rg.mul_comm w3,w_4,Rg.mul_comm w4,w_5,Rg.mul_comm w5,w_6]
 have h:w1 ^ (6 * ((pN - 1) / 6) + 1) = c tuK1 * w1:=by
  rw [Rg.pow_succ,pow_mul',h6,c_pow,kx_pow]
 exact (congrArg (fun n:Nat=>w1 ^ n) e).trans h
theorem wstep {a b d:S12} {s t r:F2p} (ha:a ^ pN = c s * a) (hb:b ^ pN = c t * b) (hd:a * b = d) (hr:s * t = r):d ^ pN = c r * d:=by
 rw [<-hd,mul_pow',ha,hb,<-hr,c_mul]
 exact cr_w _ _ _ _
theorem w2_pow:w2 ^ pN = c tuK2 * w2:=wstep w1_pow w1_pow w_2 tu_2
theorem w3_pow:w3 ^ pN = c tuK3 * w3:=wstep w1_pow w2_pow w_3 tu_3
theorem w4_pow:w4 ^ pN = c tuK4 * w4:=wstep w1_pow w3_pow w_4 tu_4
theorem w5_pow:w5 ^ pN = c tuK5 * w5:=wstep w1_pow w4_pow w_5 tu_5
theorem frob (z:S12):z ^ pN = turn z:=by
 have e:z ^ pN = (c z.p.u + c z.q.u * w1 + c z.p.v * w2 + c z.q.v * w3 + c z.p.w * w4 + c z.q.w * w5) ^ pN:=congrArg (fun z:S12=>z ^ pN) (split z)
 rw [e,frobR pN_pr char,frobR pN_pr char,frobR pN_pr char,frobR pN_pr char,frobR pN_pr char]
 simp only [mul_pow',c_pow,F2p.frob,w1_pow,w2_pow,w3_pow,w4_pow,w5_pow]
 rw [split (turn z)]
 show _ = c (z.p.u.cj * tuK0) + c (z.q.u.cj * tuK1) * w1 + c (z.p.v.cj * tuK2) * w2 + c (z.q.v.cj * tuK3) * w3 + c (z.p.w.cj * tuK4) * w4 + c (z.q.w.cj * tuK5) * w5
 rw [tu_0,Rg.mul_one]
 simp only [c_mul,Rg.mul_assoc]
theorem turn_mul (a b:S12):turn (a * b) = turn a * turn b:=by rw [<-frob,<-frob,<-frob,mul_pow']
theorem turn_add (a b:S12):turn (a + b) = turn a + turn b:=by rw [<-frob,<-frob,<-frob,frobR pN_pr char]
theorem turns_turns (m:Nat) (z:S12):∀ n:Nat,turns n (turns m z) = turns (n + m) z
 | 0=>by rw [Nat.zero_add];rfl
 | n + 1=>by
  rw [Nat.add_right_comm]
  show turn (turns n (turns m z)) = turn (turns (n + m) z)
  rw [turns_turns m z n]
theorem turns_pow (z:S12):∀ n:Nat,turns n z = z ^ (pN ^ n)
 | 0=>by rw [Nat.pow_zero,Rg.pow_one];rfl
 | n + 1=>by
  show turn (turns n z) = _
  rw [turns_pow z n,<-frob,Nat.pow_succ,pow_mul']
def conj' (z:S12):S12:=⟨z.p,0 - z.q⟩
def sk (k:F2p):F2p:=k.cj * k
def tw2 (z:S12):S12:=⟨⟨z.p.u * sk tuK0,z.p.v * sk tuK2,z.p.w * sk tuK4⟩,⟨z.q.u * sk tuK1,z.q.v * sk tuK3,z.q.w * sk tuK5⟩⟩
theorem two_turn (z:S12):turn (turn z) = tw2 z:=by
 have key:∀ a k:F2p,(a.cj * k).cj * k = a * sk k:=fun a k=>by rw [F2p.cj_mul,F2p.cj_cj,Rg.mul_assoc];rfl
 exact S12.ext (S6.ext (key _ _) (key _ _) (key _ _)) (S6.ext (key _ _) (key _ _) (key _ _))
def m1:F2p:=⟨ofN (pN - 1),0⟩
theorem sk0:sk tuK0 * sk tuK0 * sk tuK0 = 1:=by kernel_rfl
theorem sk1:sk tuK1 * sk tuK1 * sk tuK1 = m1:=by kernel_rfl
theorem sk2:sk tuK2 * sk tuK2 * sk tuK2 = 1:=by kernel_rfl
theorem sk3:sk tuK3 * sk tuK3 * sk tuK3 = m1:=by kernel_rfl
theorem sk4:sk tuK4 * sk tuK4 * sk tuK4 = 1:=by kernel_rfl
theorem sk5:sk tuK5 * sk tuK5 * sk tuK5 = m1:=by kernel_rfl
theorem m1_eq:m1 = 0 - 1:=by kernel_rfl
theorem turns_six (z:S12):turns 6 z = conj' z:=by
 show turn (turn (turn (turn (turn (turn z))))) = _
 rw [two_turn,two_turn,two_turn]
 have p:∀ a k:F2p,k * k * k = 1->a * k * k * k = a:=fun a k h=>by rw [cr_k3,h,Rg.mul_one]
 have q:∀ a k:F2p,k * k * k = m1->a * k * k * k = 0 - a:=fun a k h=>by rw [cr_k3,h,m1_eq];exact cr_k4 a
 exact S12.ext (S6.ext (p _ _ sk0) (p _ _ sk2) (p _ _ sk4)) (S6.ext (q _ _ sk1) (q _ _ sk3) (q _ _ sk5))
theorem conj_conj (z:S12):conj' (conj' z) = z:=S12.ext rfl (cr_16 z.q)
theorem turns_twelve (z:S12):turns 12 z = z:=by
 rw [<-turns_turns 6 z 6,turns_six,turns_six,conj_conj]
end S12
section
variable {α:Type} [CR α]
theorem cr_dbl {x i:α} (e:x + x = 0) (h:(1 + 1) * i = 1):x = 0:=by
 have h1:(x + x) * i = x * ((1 + 1) * i):=by clear e h;grind
 rw [h,e,Rg.zero_mul,Rg.mul_one] at h1
 exact h1.symm
end
theorem one_ne_0:(1:Fp) ≠ 0:=fun e=>absurd (congrArg Fin.val e) (by decide)
end Go.Rq
namespace Go.Proofs.YtnjocbcjejpklaaGreat
open Go.Rq Go
set_option maxRecDepth 100000
def FOk (n:Nat->Nat) (l:Nat) (s:Nat->Nat):Prop:=nv n = pN/\l % W = lowC/\nv s = R * R % pN
def f1 (F:Fp->Fp):List AV->Option (List Prop × AV)
 | [.v1 (.agg [.ws .u64 6 n,.one (.w .u64 l),.ws .u64 6 s]),.v1 (.agg [.ws .u64 6 a])]=>some ([FOk n l s,nv a < pN],nm (vF (F (gN a))))
 | _=>none
def fE2 (F:Fp->Fp->Fp):List AV->Option (List Prop × AV)
 | [.v1 (.agg [.ws .u64 6 n,.one (.w .u64 l),.ws .u64 6 s]),.v1 (.agg [.ws .u64 6 a]),.v1 (.agg [.ws .u64 6 b])]=>some ([FOk n l s,nv a < pN,nv b < pN],nm (vF (F (gN a) (gN b))))
 | _=>none
theorem f1_ok {F:Fp->Fp} {f:FuncId} {fn:Func} (hf:Tryz.prog.funcs[f]? = some fn) (hb:fn.body = some (bodyOf fn)) (hn:(fn.name == "runtime.NumGoroutine") = false)
  (h:∀ (n:Nat->Nat) (l:Nat) (s a:Nat->Nat),FOk n l s->nv a < pN->AWqS Tryz.prog (fun _=>False) (flatC (bodyOf fn)) (FEnd' tt fn (nm (vF (F (gN a))))) ⟨frame0 [fA n l s,nm a] fn.ntmps,[]⟩):(CallC.pure (f1 F)).Ok Tryz.prog f:=by
 intro args pre v e hp
 unfold f1 at e
 split at e
 ·rename_i n l s a
  cases e
  exact pWk tK hf hb hn (by rfl) (by rfl) (h n l s a (hp _ (by simp)) (hp _ (by simp)))
 ·cases e
theorem fE2_ok {F:Fp->Fp->Fp} {f:FuncId} {fn:Func} (hf:Tryz.prog.funcs[f]? = some fn) (hb:fn.body = some (bodyOf fn)) (hn:(fn.name == "runtime.NumGoroutine") = false)
  (h:∀ (n:Nat->Nat) (l:Nat) (s a b:Nat->Nat),FOk n l s->nv a < pN->nv b < pN->AWqS Tryz.prog (fun _=>False) (flatC (bodyOf fn)) (FEnd' tt fn (nm (vF (F (gN a) (gN b))))) ⟨frame0 [fA n l s,nm a,nm b] fn.ntmps,[]⟩):(CallC.pure (fE2 F)).Ok Tryz.prog f:=by
 intro args pre v e hp
 unfold fE2 at e
 split at e
 ·rename_i n l s a b
  cases e
  exact pWk tK hf hb hn (by rfl) (by rfl) (h n l s a b (hp _ (by simp)) (hp _ (by simp)) (hp _ (by simp)))
 ·cases e
theorem lV (z:Fp):nv (vF z) < pN:=by rw [nv_vF];exact z.isLt
theorem vF_gN {a:Nat->Nat} (h:nv a < pN):nv (vF (gN a)) = nv a:=by
 rw [nv_vF]
 unfold gN
 rw [ofN_val,Nat.mod_eq_of_lt h]
theorem endN_num {z:Fp} {x:Nat} (h:x % R = z.val):endN (numA x) (nm (vF z)):=endN_nm (by rw [nv_wd,h,nv_vF])
theorem val_R (z:Fp):z.val % R = z.val:=Nat.mod_eq_of_lt (Nat.lt_trans z.isLt pN_lt)
def cRed:List AV->Option (List Prop × AV)
 | [.v1 (.agg [.ws .u64 6 n]),.v1 (.agg [.ws .u64 6 a])]=>some ([nv n ≠ 0],numA (nv a % nv n))
 | _=>none
def GRd2:Ctx:=ctxL [(153,.pure cDiv2)]
theorem GRd2_ok:CtxOk Tryz.prog GRd2:=cxC (okDiv2_of okDiv') cxN
theorem okRedD:(CallC.pure cRed).Ok Tryz.prog 157:=by
 intro args pre v e hp
 unfold cRed at e
 split at e
 ·rename_i n a
  cases e
  have h0:nv n ≠ 0:=hp _ (by simp)
  refine pWk tK Tryz.func157 (by kernel_rfl) (by kernel_rfl) (by rfl) (by rfl) ?_
  refine eSq mxd tK GRd2_ok 60 [] ?_
  refine same (p:=endN (numA (dR (nv a) (nv n))) (numA (nv a % nv n))) ?_ (by kernel_rfl)
  have:dR (nv a) (nv n) = nv a % nv n:=by
   unfold dR
   have:Nat.beq (nv n) 0 = false:=by rw [<-Bool.not_eq_true,Nat.beq_eq];exact h0
   rw [this,cond_false]
  rw [this]
  exact ⟨_,rfl,fun _=>rfl⟩
 ·cases e
def cFOf:List AV->Option (List Prop × AV)
 | [.v1 (.agg [.ws .u64 6 n,.one (.w .u64 l),.ws .u64 6 s]),.v1 (.agg [.ws .u64 6 a])]=>some ([FOk n l s],nm (vF (gN a)))
 | _=>none
def GFo:Ctx:=ctxL [(135,.pure cCmp),(157,.pure cRed)]
theorem GFo_ok:CtxOk Tryz.prog GFo:=cxC okCmp' <| cxC okRedD cxN
theorem okFOf:(CallC.pure cFOf).Ok Tryz.prog 98:=by
 intro args pre v e hp
 unfold cFOf at e
 split at e
 ·rename_i n l s a
  cases e
  have hF:FOk n l s:=hp _ (by simp)
  refine pWk tK Tryz.func98 (by kernel_rfl) (by kernel_rfl) (by rfl) (by rfl) ?_
  cases hc:Nat.blt (nv a) pN
  ·refine eSq mxd tK GFo_ok 60 [⟨1,4,.lit (.bo false)⟩] ?_
   refine same (p:=ilt (cmpI (nv a) (nv n)) 0 = false/\nv n ≠ 0/\endN (numA (nv a % nv n)) (nm (vF (gN a)))) ?_ (by kernel_rfl)
   refine ⟨by rw [cmp_lt3,hF.1,hc],by rw [hF.1];exact Nat.ne_of_gt pN_pos,endN_num ?_⟩
   rw [hF.1]
   exact val_R (gN a)
  ·have hlt:nv a < pN:=by rw [<-Nat.blt_eq];exact hc
   refine eSq mxd tK GFo_ok 60 [⟨1,4,.lit (.bo true)⟩] ?_
   refine same (p:=ilt (cmpI (nv a) (nv n)) 0 = true/\endN (nm a) (nm (vF (gN a)))) ?_ (by kernel_rfl)
   exact ⟨by rw [cmp_lt3,hF.1,hc],endN_nm (vF_gN hlt).symm⟩
 ·cases e
def GFa:Ctx:=ctxL [(135,.pure cCmp),(178,.pure cAdd),(152,.pure cSub)]
theorem GFa_ok:CtxOk Tryz.prog GFa:=cxC okCmp' <| cxC okAdd' <| cxC okSub' cxN
theorem okFAdd:(CallC.pure (fE2 (· + ·))).Ok Tryz.prog 138:=by
 refine fE2_ok Tryz.func138 (by kernel_rfl) (by kernel_rfl) fun n l s a b hF ha hb=>?_
 have hs:=pN_small
 have hsum:nv (wd ((nv a + nv b) % R)) = nv a + nv b:=by rw [nv_wd,Nat.mod_mod,Nat.mod_eq_of_lt (by omega)]
 have hv:(gN a + gN b).val = (nv a + nv b) % pN:=by
  unfold gN;rw [<-ofN_add,ofN_val]
 cases hc:Nat.blt (nv a + nv b) pN
 ·have hge:pN <= nv a + nv b:=by
   have:¬ nv a + nv b < pN:=fun e=>by rw [<-Nat.blt_eq,hc] at e;cases e
   omega
  refine eSq mxd tK GFa_ok 60 [⟨2,4,.lit (.bo true)⟩] ?_
  refine same (p:=(!ilt (cmpI (nv (wd ((nv a + nv b) % R))) (nv n)) 0) = true/\endN (numA ((nv (wd ((nv a + nv b) % R)) + R - nv n) % R)) (nm (vF (gN a + gN b)))) ?_ (by kernel_rfl)
  refine ⟨by rw [cmp_lt3,hF.1,hsum,hc];rfl,endN_num ?_⟩
  rw [hsum,hF.1,hv,Nat.mod_mod,<-less_gen hge (by omega),Nat.mod_eq_sub_mod hge,Nat.mod_eq_of_lt (show nv a + nv b - pN < pN by omega)]
 ·have hlt:nv a + nv b < pN:=by rw [<-Nat.blt_eq];exact hc
  refine eSq mxd tK GFa_ok 60 [⟨2,4,.lit (.bo false)⟩] ?_
  refine same (p:=(!ilt (cmpI (nv (wd ((nv a + nv b) % R))) (nv n)) 0) = false/\endN (numA ((nv a + nv b) % R)) (nm (vF (gN a + gN b)))) ?_ (by kernel_rfl)
  refine ⟨by rw [cmp_lt3,hF.1,hsum,hc];rfl,endN_num ?_⟩
  rw [hv,Nat.mod_mod,Nat.mod_eq_of_lt (show nv a + nv b < R by omega),Nat.mod_eq_of_lt hlt]
theorem okFNeg:(CallC.pure (f1 (0 - ·))).Ok Tryz.prog 145:=by
 refine f1_ok Tryz.func145 (by kernel_rfl) (by kernel_rfl) fun n l s a hF ha=>?_
 have hs:=pN_small
 have hz:(eqN W 6 a (fun _=>0) && true) = Nat.beq (nv a) 0:=by
  have:(eqN W 6 a (fun _=>0) && true) = Nat.beq (nv a) (nv (fun _=>0)):=by
   rw [Bool.and_true]
   cases h:Nat.beq (nv a) (nv (fun _=>0))
   ·rw [<-Bool.not_eq_true,eqN_iff]
    intro e
    have:=nv_congr e
    rw [<-Nat.beq_eq,h] at this;cases this
   ·rw [eqN_iff]
    intro i hi
    rw [Nat.beq_eq] at h
    rw [<-wd_nv a i hi,h,wd_nv _ i hi]
  rw [this,zero_nv]
 cases hc:Nat.beq (nv a) 0
 ·have h0:nv a ≠ 0:=fun e=>by rw [<-Nat.beq_eq,hc] at e;cases e
  refine eSq mxd tK GFa_ok 60 [⟨1,2,.lit (.bo false)⟩] ?_
  refine same (p:=(eqN W 6 a (fun _=>0) && true) = false/\endN (numA ((nv n + R - nv a) % R)) (nm (vF (0 - gN a)))) ?_ (by kernel_rfl)
  refine ⟨by rw [hz,hc],endN_num ?_⟩
  have hv:0 - gN a = ofN (pN - nv a):=by
   unfold gN;rw [ofN_sub (Nat.le_of_lt ha)]
  rw [hF.1,Nat.mod_mod,<-less_gen (Nat.le_of_lt ha) (by omega),hv,ofN_val,Nat.mod_eq_of_lt (show pN - nv a < pN by omega)]
 ·have h0:nv a = 0:=Nat.beq_eq.mp hc
  refine eSq mxd tK GFa_ok 60 [⟨1,2,.lit (.bo true)⟩] ?_
  refine same (p:=(eqN W 6 a (fun _=>0) && true) = true/\endN (nm a) (nm (vF (0 - gN a)))) ?_ (by kernel_rfl)
  refine ⟨by rw [hz,hc],endN_nm ?_⟩
  have:gN a = 0:=by unfold gN;rw [h0,ofN_zero]
  rw [this,nv_vF,h0,show (0:Fp) - 0 = 0 from Rg.sub_self 0];rfl
def GFs:Ctx:=ctxL [(145,.pure (f1 (0 - ·))),(138,.pure (fE2 (· + ·)))]
theorem GFs_ok:CtxOk Tryz.prog GFs:=cxC okFNeg <| cxC okFAdd cxN
theorem cr_an {α:Type} [CR α] (a b:α):a + (0 - b) = a - b:=by grind
theorem okFSub:(CallC.pure (fE2 (· - ·))).Ok Tryz.prog 142:=by
 refine fE2_ok Tryz.func142 (by kernel_rfl) (by kernel_rfl) fun n l s a b hF ha hb=>?_
 refine eSq mxd tK GFs_ok 60 [] ?_
 refine same (p:=FOk n l s/\nv b < pN/\FOk n l s/\nv a < pN/\nv (vF (0 - gN b)) < pN/\endN (nm (vF (gN a + gN (vF (0 - gN b))))) (nm (vF (gN a - gN b)))) ?_ (by kernel_rfl)
 exact ⟨hF,hb,hF,ha,lV _,endN_nm (by rw [gN_vF,cr_an])⟩
def GFm:Ctx:=ctxL [(137,.pure cMo)]
theorem GFm_ok:CtxOk Tryz.prog GFm:=cxC okMo cxN
theorem okFMul:(CallC.pure (fE2 (· * ·))).Ok Tryz.prog 77:=by
 refine fE2_ok Tryz.func77 (by kernel_rfl) (by kernel_rfl) fun n l s a b hF ha hb=>?_
 have hm:∀ x y,nv (wd (montV pN x y)) = montV pN x y:=fun x y=>by rw [nv_wd,Nat.mod_eq_of_lt (Nat.lt_trans (montV_lt pN_pos) pN_lt)]
 refine eSq mxd tK GFm_ok 60 [] ?_
 refine same (p:=nv n = pN/\l % W = lowC/\nv b < pN/\nv n = pN/\l % W = lowC/\nv s < pN/\endN (numA (montV pN (nv (wd (montV pN (nv a) (nv b)))) (nv s))) (nm (vF (gN a * gN b)))) ?_ (by kernel_rfl)
 refine ⟨hF.1,hF.2.1,hb,hF.1,hF.2.1,by rw [hF.2.2];exact Nat.mod_lt _ pN_pos,endN_num ?_⟩
 rw [hm,hF.2.2,mont_in pN_odd,Nat.mod_eq_of_lt (Nat.lt_trans (Nat.mod_lt _ pN_pos) pN_lt)]
 unfold gN
 rw [<-ofN_mul,ofN_val]
 unfold montV
 rw [Nat.mod_mul_mod,Nat.mul_assoc,Nat.mul_comm (rinv pN),ri_one pN_odd]
def cFPow:List AV->Option (List Prop × AV)
 | [.v1 (.agg [.ws .u64 6 n,.one (.w .u64 l),.ws .u64 6 s]),.v1 (.agg [.ws .u64 6 a]),.v1 (.agg [.ws .u64 6 e])]=>some ([FOk n l s,nv a < pN],nm (vF (gN a ^ nv e)))
 | _=>none
theorem pw0 {α:Type} [CR α] {x o:α} {e k:Nat} (h:o = x ^ (e / 2 ^ (k + 1))) (h0:e / 2 ^ k % 2 = 0):o * o = x ^ (e / 2 ^ k):=by
 have hn:=div_next e k
 rw [h0,Nat.add_zero] at hn
 rw [h,hn,Nat.two_mul,Rg.pow_add]
theorem pw1 {α:Type} [CR α] {x o:α} {e k:Nat} (h:o = x ^ (e / 2 ^ (k + 1))) (h0:e / 2 ^ k % 2 = 1):o * o * x = x ^ (e / 2 ^ k):=by
 have hn:=div_next e k
 rw [h0] at hn
 rw [h,hn,Rg.pow_succ,Nat.two_mul,Rg.pow_add]
theorem pwS0 {α:Type} [CR α] {x:α} {e:Nat}:(1:α) = x ^ (e / 2 ^ blen e):=by
 rw [Nat.div_eq_of_lt (lt_blen e),Rg.pow_zero]
theorem blen_le (e:Nat->Nat):blen (nv e) <= 384:=by
 have:=nv_lt e;rw [R_pow] at this
 have:=blen_lt this;rw [E_eq] at this;exact this
theorem ilt_nn' (k:Nat):ilt (Int.ofNat k) 0 = false:=by rw [ilt_not (by simp)]
def GFp:Ctx:=ctxL [(77,.pure (fE2 (· * ·))),(141,.pure cLen),(182,.pure cBit)]
theorem GFp_ok:CtxOk Tryz.prog GFp:=cxC okFMul <| cxC okLen' <| cxC okBit' cxN
abbrev fB (n:Nat->Nat) (l:Nat) (s:Nat->Nat):Option Blk:=some ⟨118,[q6 n,.one (.w .u64 l),q6 s],0,0⟩
def VFp (k:Nat):List AV:=[pt 0 0,pt 1 0,pt 2 0,pt 3 0,pt 4 0,iv (predI k)]
def HFp (n:Nat->Nat) (l:Nat) (s a e o:Nat->Nat):Heap:=[fB n l s,nb a,nb e,nb fz,nb o]
def InvFp (z:Fp) (e:Nat) (x:Nat × (Nat->Nat)):Prop:=x.1 <= 384/\nv x.2 < pN/\gN x.2 = z ^ (e / 2 ^ x.1)
theorem nv_u1':nv (upd fz 0 1) = 1:=by kernel_rfl
theorem gN_u1:gN (upd fz 0 1) = 1:=by unfold gN;rw [nv_u1',ofN_one]
theorem okFPow:(CallC.pure cFPow).Ok Tryz.prog 156:=by
 intro args pre v hh hp
 unfold cFPow at hh
 split at hh
 ·rename_i n l s a e
  cases hh
  have hF:FOk n l s:=hp _ (by simp)
  have ha:nv a < pN:=hp _ (by simp)
  have hbl:=blen_le e
  refine pWk tK Tryz.func156 (by kernel_rfl) (by kernel_rfl) (by rfl) (by rfl) ?_
  refine loopF mxd tK GFp_ok (by kernel_rfl) (ι:={x // InvFp (gN a) (nv e) x}) [3,4,5,6,7,8] 30 5 (fun x=>VFp x.1.1) (fun x=>HFp n l s a e x.1.2) (fun x=>x.1.1) (fun x=>x.1.1 = 0)
   (fun _=>rfl) (fun _=>by kernel_rfl) (fun _ _ h=>h.elim) 60 [⟨2,2,.lit (.it (predI (blen (nv e))))⟩] ?_ ?_ ?_
  ·refine same (p:=wrapI (Int.ofNat (blen (nv e)) - 1) = predI (blen (nv e))/\true = true /\
    ∃ j:{x // InvFp (gN a) (nv e) x},VFp (blen (nv e)) = VFp j.1.1/\HFp n l s a e (upd fz 0 1) = HFp n l s a e j.1.2) ?_ (by kernel_rfl)
   exact ⟨predI_eq (by omega),rfl,⟨(blen (nv e),upd fz 0 1),hbl,by rw [nv_u1'];exact pN_pr.1,by rw [gN_u1];exact pwS0⟩,rfl,rfl⟩
  ·intro ⟨⟨k,o⟩,hk,hl,ho⟩ junk
   simp only at hk hl ho
   cases k with
   | zero =>
    refine rQ mxd tK GFp_ok 60 [] ?_
    refine same (p:=true = true/\∃ j:{x // InvFp (gN a) (nv e) x},j.1.1 = 0/\VFp 0 = VFp j.1.1/\HFp n l s a e o = HFp n l s a e j.1.2) ?_ (by kernel_rfl)
    exact ⟨rfl,⟨(0,o),hk,hl,ho⟩,rfl,rfl,rfl⟩
   | succ k =>
    have hge:(!ilt (Int.ofNat k) 0) = true:=by rw [ilt_nn'];rfl
    have hs:wrapI (Int.ofNat k - 1) = predI k:=predI_eq (by omega)
    have next:∀ z:Fp,z = gN a ^ (nv e / 2 ^ k)->∃ j:{x // InvFp (gN a) (nv e) x},j.1.1 < k + 1/\VFp k = VFp j.1.1/\HFp n l s a e (vF z) = HFp n l s a e j.1.2 :=
     fun z h'=>⟨⟨(k,vF z),by simp only;omega,lV z,by simp only;rw [gN_vF,h']⟩,by simp only;omega,rfl,rfl⟩
    have hbit:nv e / 2 ^ k % 2 = 0∨nv e / 2 ^ k % 2 = 1:=by omega
    rcases hbit with h0 | h0
    ·refine rQ mxd tK GFp_ok 60 [⟨3,1,.lit (.bo true)⟩,⟨6,3,.lit (.bo false)⟩,⟨4,1,.lit (.it (predI k))⟩] ?_
     refine same (p:=(!ilt (Int.ofNat k) 0) = true/\FOk n l s/\lp o/\lp o/\ieq (Int.ofNat (nv e / 2 ^ k % 2)) 1 = false/\wrapI (Int.ofNat k - 1) = predI k/\true = true /\
      ∃ j:{x // InvFp (gN a) (nv e) x},j.1.1 < k + 1/\VFp k = VFp j.1.1/\HFp n l s a e (vF (gN o * gN o)) = HFp n l s a e j.1.2) ?_ (by kernel_rfl)
     exact ⟨hge,hF,hl,hl,by rw [h0];rfl,hs,rfl,next _ (pw0 ho h0)⟩
    ·refine rQ mxd tK GFp_ok 60 [⟨3,1,.lit (.bo true)⟩,⟨6,3,.lit (.bo true)⟩,⟨4,1,.lit (.it (predI k))⟩] ?_
     refine same (p:=(!ilt (Int.ofNat k) 0) = true/\FOk n l s/\lp o/\lp o/\ieq (Int.ofNat (nv e / 2 ^ k % 2)) 1 = true/\FOk n l s/\lp (vF (gN o * gN o))/\lp a/\wrapI (Int.ofNat k - 1) = predI k/\true = true /\
      ∃ j:{x // InvFp (gN a) (nv e) x},j.1.1 < k + 1/\VFp k = VFp j.1.1/\HFp n l s a e (vF (gN (vF (gN o * gN o)) * gN a)) = HFp n l s a e j.1.2) ?_ (by kernel_rfl)
     exact ⟨hge,hF,hl,hl,by rw [h0];rfl,hF,lV _,ha,hs,rfl,next _ (by rw [gN_vF];exact pw1 ho h0)⟩
  ·intro ⟨⟨k,o⟩,hk,hl,ho⟩ junk h0
   simp only at hk hl ho h0
   subst h0
   refine same (p:=endN (nm o) (nm (vF (gN a ^ nv e)))) ?_ (by kernel_rfl)
   rw [Nat.pow_zero,Nat.div_one] at ho
   rw [<-ho]
   exact endN_nm (vF_gN hl).symm
 ·cases hh
def GFi:Ctx:=ctxL [(152,.pure cSub),(156,.pure cFPow)]
theorem GFi_ok:CtxOk Tryz.prog GFi:=cxC okSub' <| cxC okFPow cxN
theorem nv_u2:nv (upd fz 0 2) = 2:=by kernel_rfl
theorem okFInv:(CallC.pure (f1 fun x=>x ^ (pN - 2))).Ok Tryz.prog 97:=by
 refine f1_ok Tryz.func97 (by kernel_rfl) (by kernel_rfl) fun n l s a hF ha=>?_
 refine eSq mxd tK GFi_ok 60 [] ?_
 refine same (p:=FOk n l s/\lp a/\endN (nm (vF (gN a ^ nv (wd ((nv n + R - nv (upd fz 0 2)) % R))))) (nm (vF (gN a ^ (pN - 2))))) ?_ (by kernel_rfl)
 refine ⟨hF,ha,endN_nm ?_⟩
 have hs:=pN_small
 rw [nv_wd,Nat.mod_mod,nv_u2,hF.1,<-less_gen (N:=2) (a:=pN) (by decide) pN_lt]
theorem okBaseD:(CallC.pure (cK prF)).Ok Tryz.prog 136 :=
 cK_ok Tryz.func136 (by kernel_rfl) (by kernel_rfl) (same (p:=some (nm prF) = some (nm prF)) rfl (by kernel_rfl))
abbrev pF:AV:=fA prF 9940570264628428797 wideF
theorem pOk:FOk prF 9940570264628428797 wideF:=⟨nv_prime,by decide,nv_wide⟩
def cP:List AV->Option (List Prop × AV)
 | []=>some ([],pF)
 | _=>none
def GPp:Ctx:=ctxL [(136,.pure (cK prF))]
theorem GPp_ok:CtxOk Tryz.prog GPp:=cxC okBaseD cxN
theorem okP:(CallC.pure cP).Ok Tryz.prog 76:=by
 intro args pre v e _
 unfold cP at e
 split at e
 ·cases e
  refine pWk tK Tryz.func76 (by kernel_rfl) (by kernel_rfl) (by rfl) (by rfl) ?_
  refine eSq mxd tK GPp_ok 60 [] ?_
  exact same (p:=endN pF pF) ⟨_,rfl,fun _=>rfl⟩ (by kernel_rfl)
 ·cases e
end Go.Proofs.YtnjocbcjejpklaaGreat
namespace Go.Rq
open Go
def FEndR2 (T:TT) (fn:Func) (v:AV) (x y:Blk):Exit->AS->Prop
 | .normal,s | .ret,s=>hget s.h 0 = some x/\hget s.h 1 = some y/\∃ v',resA T s fn.results.toList = some v'/\vokB v' = true/\∀ ρ,v'.val ρ = v.val ρ
 | _,_=>False
theorem bkAVs_app (m:List Nat):∀ (l r:List AV),bkAVs m (l ++ r) = bkAVs m l ++ bkAVs m r
 | [],_=>rfl
 | v :: l,r=>congrArg (bkAV m v :: ·) (bkAVs_app m l r)
theorem rd_blk2 {P:Program} {T:TT} (hT:TTOk P T) {f:FuncId} {fn:Func} (hf:P.funcs[f]? = some fn) (hb:fn.body = some (bodyOf fn)) (hn:(fn.name == "runtime.NumGoroutine") = false)
  {b c:Nat} (hbc:Nat.beq b c = false) {x y:Blk} {pre:List AV} {v:AV} (hx:plainCs x.cells = true) (hy:plainCs y.cells = true) (lx:x.lo = 0) (ly:y.lo = 0) (hpre:pre.all vokB = true) (hv:vokB v = true) {h:Heap} (hgb:hget h b = some x) (hgc:hget h c = some y)
  (hwalk:AWqS P (Dm [some x,some y]) (flatC (bodyOf fn)) (FEndR2 T fn v x y) ⟨frame0 (pre ++ [.v1 (.sc (.pt 0 0)),.v1 (.sc (.pt 1 0))]) fn.ntmps,[some x,some y]⟩) :
  CallOk P f (pre ++ [.v1 (.sc (.pt b 0)),.v1 (.sc (.pt c 0))]) h v h:=by
 have hcb:Nat.beq c b = false:=by
  rw [<-Bool.not_eq_true,Nat.beq_eq]
  intro e
  rw [e,Nat.beq_refl] at hbc;cases hbc
 have hbb:bk [b,c] b = 0:=by simp [bk,idxN]
 have hcc:bk [b,c] c = 1:=by simp only [bk,idxN,hcb,Nat.beq_refl]
 have hbx:∀ m,bkBlk m x = x:=fun m=>by unfold bkBlk;rw [bkCells_plain hx]
 have hby:∀ m,bkBlk m y = y:=fun m=>by unfold bkBlk;rw [bkCells_plain hy]
 have hpk:pickH [b,c] h [b,c] = [some x,some y]:=by
  show [pickB [b,c] (hget h b),pickB [b,c] (hget h c)] = _
  rw [hgb,hgc]
  simp only [pickB,hbx,hby]
 have hLv:∀ i,i < 2->Lv [some x,some y] i:=fun i hi=>by
  rcases (show i = 0∨i = 1 by omega) with rfl | rfl
  ·exact ⟨x,rfl,by omega⟩
  ·exact ⟨y,rfl,by omega⟩
 have hheap:heapB [some x,some y] 0 [some x,some y] = true:=by
  simp only [heapB,Bool.and_eq_true]
  refine ⟨cellsB_plain hx,?_,cellsB_plain hy,?_,trivial⟩
  ·rw [lx];rfl
  ·rw [ly];rfl
 have hchk:∀ m n:Nat,Nat.beq m n = false->chkB [m,n] [some x,some y] = true:=fun m n hmn=>by
  unfold chkB nextB nextB
  rw [lx,ly]
  simp only [nodupB,notIn,hmn]
  rfl
 refine mem_walk hT hf hb hn [b,c] [] 0 [some x,some y] [some x,some y] (args':=pre ++ [.v1 (.sc (.pt 0 0)),.v1 (.sc (.pt 1 0))]) (vK:=v) (hchk b c hbc) hpk hheap ?_ ?_ hLv hheap (avB_plain hv) (fun i hi=>(hLv i (by simpa using hi)).dm) (hchk b c hbc) hpk (bkAV_plain hv) (fun t ht=>by simp at ht) (fun _ _ _=>rfl) ?_ (hnw:=by simp [noWinB,lx,ly])
 ·rw [bkAVs_app,bkAVs_plain hpre]
  show pre ++ [AV.v1 (.sc (.pt (bk [b,c] b) 0)),AV.v1 (.sc (.pt (bk [b,c] c) 0))] = _
  rw [hbb,hcc]
 ·rw [List.all_append,Bool.and_eq_true]
  refine ⟨List.all_eq_true.2 fun z hz=>avB_plain (List.all_eq_true.1 hpre z hz),?_⟩
  simp only [List.all_cons,List.all_nil,Bool.and_eq_true]
  exact ⟨rfl,rfl,trivial⟩
 ·refine hwalk.mono fun e s q=>?_
  have key:(hget s.h 0 = some x/\hget s.h 1 = some y/\∃ v',resA T s fn.results.toList = some v'/\vokB v' = true/\∀ ρ,v'.val ρ = v.val ρ)->chkB [0,1] (pickH [0,1] s.h [0,1]) = true/\heapB (pickH [0,1] s.h [0,1]) 0 (pickH [0,1] s.h [0,1]) = true/\SimH (pickH [0,1] s.h [0,1]) [some x,some y] /\
    ∃ v',resA T s fn.results.toList = some v'/\avB (pickH [0,1] s.h [0,1]) (bkAV [0,1] v') = true/\∀ ρ,(bkAV [0,1] v').val ρ = v.val ρ:=by
   intro ⟨q1,q1',v',q2,q3,q4⟩
   have e:pickH [0,1] s.h [0,1] = [some x,some y]:=by
    show [pickB [0,1] (hget s.h 0),pickB [0,1] (hget s.h 1)] = _
    rw [q1,q1']
    simp only [pickB,hbx,hby]
   rw [e]
   exact ⟨hchk 0 1 rfl,hheap,⟨⟨rfl,rfl,rfl,fun _=>rfl⟩,⟨rfl,rfl,rfl,fun _=>rfl⟩,trivial⟩,v',q2,by rw [bkAV_plain q3];exact avB_plain q3,fun ρ=>by rw [bkAV_plain q3];exact q4 ρ⟩
  cases e with
  | normal=>exact key q
  | ret=>exact key q
  | exit j=>exact q.elim
  | goto l=>exact q.elim
  | panic ch=>exact q.elim
  | outgrown=>exact q.elim
end Go.Rq
namespace Go.Proofs.YtnjocbcjejpklaaGreat
open Go.Rq Go
set_option maxRecDepth 100000
abbrev v6 (a b c d e f:Nat->Nat):V1:=.agg [q6 a,q6 b,q6 c,q6 d,q6 e,q6 f]
abbrev d6 (a b c d e f:Nat->Nat):S6:=⟨⟨dF a,dF b⟩,⟨dF c,dF d⟩,⟨dF e,dF f⟩⟩
abbrev e6 (s:S6):V1:=v6 (eF s.u.x) (eF s.u.y) (eF s.v.x) (eF s.v.y) (eF s.w.x) (eF s.w.y)
theorem ws_cell {f g:Nat->Nat} (ρ:Ren) (h:nv f = nv g):(Cell.ws .u64 6 f).vals ρ = (Cell.ws .u64 6 g).vals ρ:=by
 simp only [Cell.vals]
 refine List.map_congr_left fun j hj=>?_
 have hj':=List.mem_range.1 hj
 have e:f j % W = g j % W:=by rw [<-wd_nv f j hj',<-wd_nv g j hj',h]
 simp only [W] at e
 simp only [M,e]
theorem v6_val {a b c d e f a' b' c' d' e' f':Nat->Nat} (h0:nv a = nv a') (h1:nv b = nv b') (h2:nv c = nv c') (h3:nv d = nv d') (h4:nv e = nv e') (h5:nv f = nv f') (ρ:Ren):(v6 a b c d e f).val ρ = (v6 a' b' c' d' e' f').val ρ:=by
 show Value.agg (cvals ρ _).toArray = Value.agg (cvals ρ _).toArray
 simp only [cvals]
 rw [ws_cell ρ h0,ws_cell ρ h1,ws_cell ρ h2,ws_cell ρ h3,ws_cell ρ h4,ws_cell ρ h5]
theorem endN_6 {a b c d e f a' b' c' d' e' f':Nat->Nat} (h0:nv a = nv a') (h1:nv b = nv b') (h2:nv c = nv c') (h3:nv d = nv d') (h4:nv e = nv e') (h5:nv f = nv f'):endN (.v1 (v6 a b c d e f)) (.v1 (v6 a' b' c' d' e' f')):=⟨_,rfl,v6_val h0 h1 h2 h3 h4 h5⟩
def k61 (F:S6->S6):List AV->Option (List Prop × AV)
 | [.v1 (.agg [.ws .u64 6 a0,.ws .u64 6 a1,.ws .u64 6 a2,.ws .u64 6 a3,.ws .u64 6 a4,.ws .u64 6 a5])]=>some ([nv a0 < pN,nv a1 < pN,nv a2 < pN,nv a3 < pN,nv a4 < pN,nv a5 < pN],.v1 (e6 (F (d6 a0 a1 a2 a3 a4 a5))))
 | _=>none
def k62 (F:S6->S6->S6):List AV->Option (List Prop × AV)
 | [.v1 (.agg [.ws .u64 6 a0,.ws .u64 6 a1,.ws .u64 6 a2,.ws .u64 6 a3,.ws .u64 6 a4,.ws .u64 6 a5]),.v1 (.agg [.ws .u64 6 b0,.ws .u64 6 b1,.ws .u64 6 b2,.ws .u64 6 b3,.ws .u64 6 b4,.ws .u64 6 b5])]=>some ([nv a0 < pN,nv a1 < pN,nv a2 < pN,nv a3 < pN,nv a4 < pN,nv a5 < pN,nv b0 < pN,nv b1 < pN,nv b2 < pN,nv b3 < pN,nv b4 < pN,nv b5 < pN],.v1 (e6 (F (d6 a0 a1 a2 a3 a4 a5) (d6 b0 b1 b2 b3 b4 b5))))
 | _=>none
theorem k61_ok {F:S6->S6} {f:FuncId} {fn:Func} (hf:Tryz.prog.funcs[f]? = some fn) (hb:fn.body = some (bodyOf fn)) (hn:(fn.name == "runtime.NumGoroutine") = false)
  (h:∀ a0 a1 a2 a3 a4 a5:Nat->Nat,nv a0 < pN->nv a1 < pN->nv a2 < pN->nv a3 < pN->nv a4 < pN->nv a5 < pN->AWqS Tryz.prog (fun _=>False) (flatC (bodyOf fn)) (FEnd' tt fn (.v1 (e6 (F (d6 a0 a1 a2 a3 a4 a5))))) ⟨frame0 [.v1 (v6 a0 a1 a2 a3 a4 a5)] fn.ntmps,[]⟩):(CallC.pure (k61 F)).Ok Tryz.prog f:=by
 intro args pre v e hp
 unfold k61 at e
 split at e
 ·rename_i a0 a1 a2 a3 a4 a5
  cases e
  exact pWk tK hf hb hn (by rfl) (by rfl) (h a0 a1 a2 a3 a4 a5 (hp _ (by simp)) (hp _ (by simp)) (hp _ (by simp)) (hp _ (by simp)) (hp _ (by simp)) (hp _ (by simp)))
 ·cases e
theorem k62_ok {F:S6->S6->S6} {f:FuncId} {fn:Func} (hf:Tryz.prog.funcs[f]? = some fn) (hb:fn.body = some (bodyOf fn)) (hn:(fn.name == "runtime.NumGoroutine") = false)
  (h:∀ a0 a1 a2 a3 a4 a5 b0 b1 b2 b3 b4 b5:Nat->Nat,nv a0 < pN->nv a1 < pN->nv a2 < pN->nv a3 < pN->nv a4 < pN->nv a5 < pN->nv b0 < pN->nv b1 < pN->nv b2 < pN->nv b3 < pN->nv b4 < pN->nv b5 < pN->AWqS Tryz.prog (fun _=>False) (flatC (bodyOf fn)) (FEnd' tt fn (.v1 (e6 (F (d6 a0 a1 a2 a3 a4 a5) (d6 b0 b1 b2 b3 b4 b5))))) ⟨frame0 [.v1 (v6 a0 a1 a2 a3 a4 a5),.v1 (v6 b0 b1 b2 b3 b4 b5)] fn.ntmps,[]⟩):(CallC.pure (k62 F)).Ok Tryz.prog f:=by
 intro args pre v e hp
 unfold k62 at e
 split at e
 ·rename_i a0 a1 a2 a3 a4 a5 b0 b1 b2 b3 b4 b5
  cases e
  exact pWk tK hf hb hn (by rfl) (by rfl) (h a0 a1 a2 a3 a4 a5 b0 b1 b2 b3 b4 b5 (hp _ (by simp)) (hp _ (by simp)) (hp _ (by simp)) (hp _ (by simp)) (hp _ (by simp)) (hp _ (by simp)) (hp _ (by simp)) (hp _ (by simp)) (hp _ (by simp)) (hp _ (by simp)) (hp _ (by simp)) (hp _ (by simp)))
 ·cases e
def upx (a b:Fp):Fp:=a - b
def upy (a b:Fp):Fp:=a + b
theorem okUp:(CallC.pure (q1 upx upy)).Ok Tryz.prog 170:=by
 refine q1_ok Tryz.func170 (by kernel_rfl) (by kernel_rfl) fun a b ha hb=>eSq mxd tK GE_ok 100 [] ?_
 refine same (p:=nv a < pN/\lp b/\lp a/\lp b/\endN (f2 (eF (eSub (dF a) (dF b))) (eF (eAdd (dF a) (dF b)))) (f2 (eF (upx (dF a) (dF b))) (eF (upy (dF a) (dF b))))) ?_ (by kernel_rfl)
 exact ⟨ha,hb,ha,hb,endN_f2 rfl rfl⟩
def GSx:Ctx:=ctxL [(110,.pure (q2 add2x add2y)),(111,.pure (q2 sub2x sub2y)),(170,.pure (q1 upx upy))]
theorem GSx_ok:CtxOk Tryz.prog GSx:=cxC okAdd2 <| cxC okSub2 <| cxC okUp cxN
theorem okSadd:(CallC.pure (k62 S6.add)).Ok Tryz.prog 124:=by
 refine k62_ok Tryz.func124 (by kernel_rfl) (by kernel_rfl) fun a0 a1 a2 a3 a4 a5 b0 b1 b2 b3 b4 b5 ha0 ha1 ha2 ha3 ha4 ha5 hb0 hb1 hb2 hb3 hb4 hb5=>eSq mxd tK GSx_ok 100 [] ?_
 refine same (p:=nv a0 < pN/\lp a1/\lp b0/\lp b1/\lp a2/\lp a3/\lp b2/\lp b3/\lp a4/\lp a5/\lp b4/\lp b5/\endN (.v1 (v6 (eF (add2x (dF a0) (dF a1) (dF b0) (dF b1))) (eF (add2y (dF a0) (dF a1) (dF b0) (dF b1))) (eF (add2x (dF a2) (dF a3) (dF b2) (dF b3))) (eF (add2y (dF a2) (dF a3) (dF b2) (dF b3))) (eF (add2x (dF a4) (dF a5) (dF b4) (dF b5))) (eF (add2y (dF a4) (dF a5) (dF b4) (dF b5))))) (.v1 (e6 (S6.add (d6 a0 a1 a2 a3 a4 a5) (d6 b0 b1 b2 b3 b4 b5))))) ?_ (by kernel_rfl)
 exact ⟨ha0,ha1,hb0,hb1,ha2,ha3,hb2,hb3,ha4,ha5,hb4,hb5,endN_6 rfl rfl rfl rfl rfl rfl⟩
theorem okSsub:(CallC.pure (k62 S6.sub)).Ok Tryz.prog 127:=by
 refine k62_ok Tryz.func127 (by kernel_rfl) (by kernel_rfl) fun a0 a1 a2 a3 a4 a5 b0 b1 b2 b3 b4 b5 ha0 ha1 ha2 ha3 ha4 ha5 hb0 hb1 hb2 hb3 hb4 hb5=>eSq mxd tK GSx_ok 100 [] ?_
 refine same (p:=nv a0 < pN/\lp a1/\lp b0/\lp b1/\lp a2/\lp a3/\lp b2/\lp b3/\lp a4/\lp a5/\lp b4/\lp b5/\endN (.v1 (v6 (eF (sub2x (dF a0) (dF a1) (dF b0) (dF b1))) (eF (sub2y (dF a0) (dF a1) (dF b0) (dF b1))) (eF (sub2x (dF a2) (dF a3) (dF b2) (dF b3))) (eF (sub2y (dF a2) (dF a3) (dF b2) (dF b3))) (eF (sub2x (dF a4) (dF a5) (dF b4) (dF b5))) (eF (sub2y (dF a4) (dF a5) (dF b4) (dF b5))))) (.v1 (e6 (S6.sub (d6 a0 a1 a2 a3 a4 a5) (d6 b0 b1 b2 b3 b4 b5))))) ?_ (by kernel_rfl)
 exact ⟨ha0,ha1,hb0,hb1,ha2,ha3,hb2,hb3,ha4,ha5,hb4,hb5,endN_6 rfl rfl rfl rfl rfl rfl⟩
theorem okSnext:(CallC.pure (k61 S6.next)).Ok Tryz.prog 126:=by
 refine k61_ok Tryz.func126 (by kernel_rfl) (by kernel_rfl) fun a0 a1 a2 a3 a4 a5 ha0 ha1 ha2 ha3 ha4 ha5=>eSq mxd tK GSx_ok 100 [] ?_
 refine same (p:=nv a4 < pN/\lp a5/\endN (.v1 (v6 (eF (upx (dF a4) (dF a5))) (eF (upy (dF a4) (dF a5))) a0 a1 a2 a3)) (.v1 (e6 (S6.next (d6 a0 a1 a2 a3 a4 a5))))) ?_ (by kernel_rfl)
 exact ⟨ha4,ha5,endN_6 rfl rfl (eF_dF ha0).symm (eF_dF ha1).symm (eF_dF ha2).symm (eF_dF ha3).symm⟩
def crs (a b c d p q:F2p):F2p:=(a + b) * (c + d) - p - q
def cCross (args:List AV) (h:Heap):Option (List Prop × AV) :=
 match args with
 | [.v1 (.sc (.it (.ofNat i))),.v1 (.sc (.it (.ofNat k))),.v1 (.agg [.ws .u64 6 p0,.ws .u64 6 p1]),.v1 (.agg [.ws .u64 6 q0,.ws .u64 6 q1]),.v1 (.sc (.pt x 0)),.v1 (.sc (.pt y 0))]=>match Nat.beq x y with
  | true=>none
  | false=>match hget h x with
   | some ⟨_,[.ws .u64 6 a0,.ws .u64 6 a1,.ws .u64 6 a2,.ws .u64 6 a3,.ws .u64 6 a4,.ws .u64 6 a5],0,0⟩=>match hget h y with
    | some ⟨_,[.ws .u64 6 b0,.ws .u64 6 b1,.ws .u64 6 b2,.ws .u64 6 b3,.ws .u64 6 b4,.ws .u64 6 b5],0,0⟩=>match i,k with
     | 1,2=>some ([nv a2 < pN,nv a3 < pN,nv a4 < pN,nv a5 < pN,nv b2 < pN,nv b3 < pN,nv b4 < pN,nv b5 < pN,nv p0 < pN,nv p1 < pN,nv q0 < pN,nv q1 < pN],f2 (eF (crs ⟨dF a2,dF a3⟩ ⟨dF a4,dF a5⟩ ⟨dF b2,dF b3⟩ ⟨dF b4,dF b5⟩ ⟨dF p0,dF p1⟩ ⟨dF q0,dF q1⟩).x) (eF (crs ⟨dF a2,dF a3⟩ ⟨dF a4,dF a5⟩ ⟨dF b2,dF b3⟩ ⟨dF b4,dF b5⟩ ⟨dF p0,dF p1⟩ ⟨dF q0,dF q1⟩).y))
     | 0,1=>some ([nv a0 < pN,nv a1 < pN,nv a2 < pN,nv a3 < pN,nv b0 < pN,nv b1 < pN,nv b2 < pN,nv b3 < pN,nv p0 < pN,nv p1 < pN,nv q0 < pN,nv q1 < pN],f2 (eF (crs ⟨dF a0,dF a1⟩ ⟨dF a2,dF a3⟩ ⟨dF b0,dF b1⟩ ⟨dF b2,dF b3⟩ ⟨dF p0,dF p1⟩ ⟨dF q0,dF q1⟩).x) (eF (crs ⟨dF a0,dF a1⟩ ⟨dF a2,dF a3⟩ ⟨dF b0,dF b1⟩ ⟨dF b2,dF b3⟩ ⟨dF p0,dF p1⟩ ⟨dF q0,dF q1⟩).y))
     | 0,2=>some ([nv a0 < pN,nv a1 < pN,nv a4 < pN,nv a5 < pN,nv b0 < pN,nv b1 < pN,nv b4 < pN,nv b5 < pN,nv p0 < pN,nv p1 < pN,nv q0 < pN,nv q1 < pN],f2 (eF (crs ⟨dF a0,dF a1⟩ ⟨dF a4,dF a5⟩ ⟨dF b0,dF b1⟩ ⟨dF b4,dF b5⟩ ⟨dF p0,dF p1⟩ ⟨dF q0,dF q1⟩).x) (eF (crs ⟨dF a0,dF a1⟩ ⟨dF a4,dF a5⟩ ⟨dF b0,dF b1⟩ ⟨dF b4,dF b5⟩ ⟨dF p0,dF p1⟩ ⟨dF q0,dF q1⟩).y))
     | _,_=>none
    | _=>none
   | _=>none
 | _=>none
def GCr:Ctx:=ctxL [(110,.pure (q2 add2x add2y)),(111,.pure (q2 sub2x sub2y)),(112,.pure (q2 mul2x mul2y))]
theorem GCr_ok:CtxOk Tryz.prog GCr:=cxC okAdd2 <| cxC okSub2 <| cxC okMul2 cxN
theorem cross12 {b c:Nat} (hbc:Nat.beq b c = false) {a0 a1 a2 a3 a4 a5 b0 b1 b2 b3 b4 b5 p0 p1 q0 q1:Nat->Nat} {y1 y2:TypeId} {h:Heap} (g1:hget h b = some ⟨y1,[q6 a0,q6 a1,q6 a2,q6 a3,q6 a4,q6 a5],0,0⟩) (g2:hget h c = some ⟨y2,[q6 b0,q6 b1,q6 b2,q6 b3,q6 b4,q6 b5],0,0⟩)
  (ha2:nv a2 < pN) (ha3:nv a3 < pN) (ha4:nv a4 < pN) (ha5:nv a5 < pN) (hb2:nv b2 < pN) (hb3:nv b3 < pN) (hb4:nv b4 < pN) (hb5:nv b5 < pN) (hp0:nv p0 < pN) (hp1:nv p1 < pN) (hq0:nv q0 < pN) (hq1:nv q1 < pN) :
  CallOk Tryz.prog 169 ([.v1 (.sc (.it (.ofNat 1))),.v1 (.sc (.it (.ofNat 2))),f2 p0 p1,f2 q0 q1] ++ [.v1 (.sc (.pt b 0)),.v1 (.sc (.pt c 0))]) h (f2 (eF (crs ⟨dF a2,dF a3⟩ ⟨dF a4,dF a5⟩ ⟨dF b2,dF b3⟩ ⟨dF b4,dF b5⟩ ⟨dF p0,dF p1⟩ ⟨dF q0,dF q1⟩).x) (eF (crs ⟨dF a2,dF a3⟩ ⟨dF a4,dF a5⟩ ⟨dF b2,dF b3⟩ ⟨dF b4,dF b5⟩ ⟨dF p0,dF p1⟩ ⟨dF q0,dF q1⟩).y)) h:=by
 refine rd_blk2 tK Tryz.func169 (by kernel_rfl) (by kernel_rfl) hbc (x:=⟨y1,[q6 a0,q6 a1,q6 a2,q6 a3,q6 a4,q6 a5],0,0⟩) (y:=⟨y2,[q6 b0,q6 b1,q6 b2,q6 b3,q6 b4,q6 b5],0,0⟩) rfl rfl rfl rfl rfl rfl g1 g2 ?_
 refine eSq mxd tK GCr_ok 60 [] ?_
 refine same (p:=nv a2 < pN/\lp a3/\lp a4/\lp a5/\lp b2/\lp b3/\lp b4/\lp b5/\lp (eF (add2x (dF a2) (dF a3) (dF a4) (dF a5)))/\lp (eF (add2y (dF a2) (dF a3) (dF a4) (dF a5)))/\lp (eF (add2x (dF b2) (dF b3) (dF b4) (dF b5)))/\lp (eF (add2y (dF b2) (dF b3) (dF b4) (dF b5)))/\nv (eF (mul2x (dF (eF (add2x (dF a2) (dF a3) (dF a4) (dF a5)))) (dF (eF (add2y (dF a2) (dF a3) (dF a4) (dF a5)))) (dF (eF (add2x (dF b2) (dF b3) (dF b4) (dF b5)))) (dF (eF (add2y (dF b2) (dF b3) (dF b4) (dF b5)))))) < pN/\nv (eF (mul2y (dF (eF (add2x (dF a2) (dF a3) (dF a4) (dF a5)))) (dF (eF (add2y (dF a2) (dF a3) (dF a4) (dF a5)))) (dF (eF (add2x (dF b2) (dF b3) (dF b4) (dF b5)))) (dF (eF (add2y (dF b2) (dF b3) (dF b4) (dF b5)))))) < pN/\lp p0/\lp p1/\nv (eF (sub2x (dF (eF (mul2x (dF (eF (add2x (dF a2) (dF a3) (dF a4) (dF a5)))) (dF (eF (add2y (dF a2) (dF a3) (dF a4) (dF a5)))) (dF (eF (add2x (dF b2) (dF b3) (dF b4) (dF b5)))) (dF (eF (add2y (dF b2) (dF b3) (dF b4) (dF b5))))))) (dF (eF (mul2y (dF (eF (add2x (dF a2) (dF a3) (dF a4) (dF a5)))) (dF (eF (add2y (dF a2) (dF a3) (dF a4) (dF a5)))) (dF (eF (add2x (dF b2) (dF b3) (dF b4) (dF b5)))) (dF (eF (add2y (dF b2) (dF b3) (dF b4) (dF b5))))))) (dF p0) (dF p1))) < pN/\nv (eF (sub2y (dF (eF (mul2x (dF (eF (add2x (dF a2) (dF a3) (dF a4) (dF a5)))) (dF (eF (add2y (dF a2) (dF a3) (dF a4) (dF a5)))) (dF (eF (add2x (dF b2) (dF b3) (dF b4) (dF b5)))) (dF (eF (add2y (dF b2) (dF b3) (dF b4) (dF b5))))))) (dF (eF (mul2y (dF (eF (add2x (dF a2) (dF a3) (dF a4) (dF a5)))) (dF (eF (add2y (dF a2) (dF a3) (dF a4) (dF a5)))) (dF (eF (add2x (dF b2) (dF b3) (dF b4) (dF b5)))) (dF (eF (add2y (dF b2) (dF b3) (dF b4) (dF b5))))))) (dF p0) (dF p1))) < pN/\lp q0/\lp q1/\some (Blk.mk y1 [q6 a0,q6 a1,q6 a2,q6 a3,q6 a4,q6 a5] 0 0) = some (Blk.mk y1 [q6 a0,q6 a1,q6 a2,q6 a3,q6 a4,q6 a5] 0 0)/\some (Blk.mk y2 [q6 b0,q6 b1,q6 b2,q6 b3,q6 b4,q6 b5] 0 0) = some (Blk.mk y2 [q6 b0,q6 b1,q6 b2,q6 b3,q6 b4,q6 b5] 0 0) /\
  ∃ v',some (f2 (eF (sub2x (dF (eF (sub2x (dF (eF (mul2x (dF (eF (add2x (dF a2) (dF a3) (dF a4) (dF a5)))) (dF (eF (add2y (dF a2) (dF a3) (dF a4) (dF a5)))) (dF (eF (add2x (dF b2) (dF b3) (dF b4) (dF b5)))) (dF (eF (add2y (dF b2) (dF b3) (dF b4) (dF b5))))))) (dF (eF (mul2y (dF (eF (add2x (dF a2) (dF a3) (dF a4) (dF a5)))) (dF (eF (add2y (dF a2) (dF a3) (dF a4) (dF a5)))) (dF (eF (add2x (dF b2) (dF b3) (dF b4) (dF b5)))) (dF (eF (add2y (dF b2) (dF b3) (dF b4) (dF b5))))))) (dF p0) (dF p1)))) (dF (eF (sub2y (dF (eF (mul2x (dF (eF (add2x (dF a2) (dF a3) (dF a4) (dF a5)))) (dF (eF (add2y (dF a2) (dF a3) (dF a4) (dF a5)))) (dF (eF (add2x (dF b2) (dF b3) (dF b4) (dF b5)))) (dF (eF (add2y (dF b2) (dF b3) (dF b4) (dF b5))))))) (dF (eF (mul2y (dF (eF (add2x (dF a2) (dF a3) (dF a4) (dF a5)))) (dF (eF (add2y (dF a2) (dF a3) (dF a4) (dF a5)))) (dF (eF (add2x (dF b2) (dF b3) (dF b4) (dF b5)))) (dF (eF (add2y (dF b2) (dF b3) (dF b4) (dF b5))))))) (dF p0) (dF p1)))) (dF q0) (dF q1))) (eF (sub2y (dF (eF (sub2x (dF (eF (mul2x (dF (eF (add2x (dF a2) (dF a3) (dF a4) (dF a5)))) (dF (eF (add2y (dF a2) (dF a3) (dF a4) (dF a5)))) (dF (eF (add2x (dF b2) (dF b3) (dF b4) (dF b5)))) (dF (eF (add2y (dF b2) (dF b3) (dF b4) (dF b5))))))) (dF (eF (mul2y (dF (eF (add2x (dF a2) (dF a3) (dF a4) (dF a5)))) (dF (eF (add2y (dF a2) (dF a3) (dF a4) (dF a5)))) (dF (eF (add2x (dF b2) (dF b3) (dF b4) (dF b5)))) (dF (eF (add2y (dF b2) (dF b3) (dF b4) (dF b5))))))) (dF p0) (dF p1)))) (dF (eF (sub2y (dF (eF (mul2x (dF (eF (add2x (dF a2) (dF a3) (dF a4) (dF a5)))) (dF (eF (add2y (dF a2) (dF a3) (dF a4) (dF a5)))) (dF (eF (add2x (dF b2) (dF b3) (dF b4) (dF b5)))) (dF (eF (add2y (dF b2) (dF b3) (dF b4) (dF b5))))))) (dF (eF (mul2y (dF (eF (add2x (dF a2) (dF a3) (dF a4) (dF a5)))) (dF (eF (add2y (dF a2) (dF a3) (dF a4) (dF a5)))) (dF (eF (add2x (dF b2) (dF b3) (dF b4) (dF b5)))) (dF (eF (add2y (dF b2) (dF b3) (dF b4) (dF b5))))))) (dF p0) (dF p1)))) (dF q0) (dF q1)))) = some v'/\vokB v' = true/\∀ ρ,v'.val ρ = (f2 (eF (crs ⟨dF a2,dF a3⟩ ⟨dF a4,dF a5⟩ ⟨dF b2,dF b3⟩ ⟨dF b4,dF b5⟩ ⟨dF p0,dF p1⟩ ⟨dF q0,dF q1⟩).x) (eF (crs ⟨dF a2,dF a3⟩ ⟨dF a4,dF a5⟩ ⟨dF b2,dF b3⟩ ⟨dF b4,dF b5⟩ ⟨dF p0,dF p1⟩ ⟨dF q0,dF q1⟩).y)).val ρ) ?_ (by kernel_rfl)
 exact ⟨ha2,ha3,ha4,ha5,hb2,hb3,hb4,hb5,lE _,lE _,lE _,lE _,lE _,lE _,hp0,hp1,lE _,lE _,hq0,hq1,rfl,rfl,_,rfl,rfl,f2_val (nvE (by simp only [qE];simp only [S6.mul,crs,xi,F2p.add_x,F2p.add_y,F2p.mul_x,F2p.mul_y,F2p.sub_x,F2p.sub_y,add2x,add2y,sub2x,sub2y,mul2x,mul2y,upx,upy])) (nvE (by simp only [qE];simp only [S6.mul,crs,xi,F2p.add_x,F2p.add_y,F2p.mul_x,F2p.mul_y,F2p.sub_x,F2p.sub_y,add2x,add2y,sub2x,sub2y,mul2x,mul2y,upx,upy]))⟩
theorem cross01 {b c:Nat} (hbc:Nat.beq b c = false) {a0 a1 a2 a3 a4 a5 b0 b1 b2 b3 b4 b5 p0 p1 q0 q1:Nat->Nat} {y1 y2:TypeId} {h:Heap} (g1:hget h b = some ⟨y1,[q6 a0,q6 a1,q6 a2,q6 a3,q6 a4,q6 a5],0,0⟩) (g2:hget h c = some ⟨y2,[q6 b0,q6 b1,q6 b2,q6 b3,q6 b4,q6 b5],0,0⟩)
  (ha0:nv a0 < pN) (ha1:nv a1 < pN) (ha2:nv a2 < pN) (ha3:nv a3 < pN) (hb0:nv b0 < pN) (hb1:nv b1 < pN) (hb2:nv b2 < pN) (hb3:nv b3 < pN) (hp0:nv p0 < pN) (hp1:nv p1 < pN) (hq0:nv q0 < pN) (hq1:nv q1 < pN) :
  CallOk Tryz.prog 169 ([.v1 (.sc (.it (.ofNat 0))),.v1 (.sc (.it (.ofNat 1))),f2 p0 p1,f2 q0 q1] ++ [.v1 (.sc (.pt b 0)),.v1 (.sc (.pt c 0))]) h (f2 (eF (crs ⟨dF a0,dF a1⟩ ⟨dF a2,dF a3⟩ ⟨dF b0,dF b1⟩ ⟨dF b2,dF b3⟩ ⟨dF p0,dF p1⟩ ⟨dF q0,dF q1⟩).x) (eF (crs ⟨dF a0,dF a1⟩ ⟨dF a2,dF a3⟩ ⟨dF b0,dF b1⟩ ⟨dF b2,dF b3⟩ ⟨dF p0,dF p1⟩ ⟨dF q0,dF q1⟩).y)) h:=by
 refine rd_blk2 tK Tryz.func169 (by kernel_rfl) (by kernel_rfl) hbc (x:=⟨y1,[q6 a0,q6 a1,q6 a2,q6 a3,q6 a4,q6 a5],0,0⟩) (y:=⟨y2,[q6 b0,q6 b1,q6 b2,q6 b3,q6 b4,q6 b5],0,0⟩) rfl rfl rfl rfl rfl rfl g1 g2 ?_
 refine eSq mxd tK GCr_ok 60 [] ?_
 refine same (p:=nv a0 < pN/\lp a1/\lp a2/\lp a3/\lp b0/\lp b1/\lp b2/\lp b3/\lp (eF (add2x (dF a0) (dF a1) (dF a2) (dF a3)))/\lp (eF (add2y (dF a0) (dF a1) (dF a2) (dF a3)))/\lp (eF (add2x (dF b0) (dF b1) (dF b2) (dF b3)))/\lp (eF (add2y (dF b0) (dF b1) (dF b2) (dF b3)))/\nv (eF (mul2x (dF (eF (add2x (dF a0) (dF a1) (dF a2) (dF a3)))) (dF (eF (add2y (dF a0) (dF a1) (dF a2) (dF a3)))) (dF (eF (add2x (dF b0) (dF b1) (dF b2) (dF b3)))) (dF (eF (add2y (dF b0) (dF b1) (dF b2) (dF b3)))))) < pN/\nv (eF (mul2y (dF (eF (add2x (dF a0) (dF a1) (dF a2) (dF a3)))) (dF (eF (add2y (dF a0) (dF a1) (dF a2) (dF a3)))) (dF (eF (add2x (dF b0) (dF b1) (dF b2) (dF b3)))) (dF (eF (add2y (dF b0) (dF b1) (dF b2) (dF b3)))))) < pN/\lp p0/\lp p1/\nv (eF (sub2x (dF (eF (mul2x (dF (eF (add2x (dF a0) (dF a1) (dF a2) (dF a3)))) (dF (eF (add2y (dF a0) (dF a1) (dF a2) (dF a3)))) (dF (eF (add2x (dF b0) (dF b1) (dF b2) (dF b3)))) (dF (eF (add2y (dF b0) (dF b1) (dF b2) (dF b3))))))) (dF (eF (mul2y (dF (eF (add2x (dF a0) (dF a1) (dF a2) (dF a3)))) (dF (eF (add2y (dF a0) (dF a1) (dF a2) (dF a3)))) (dF (eF (add2x (dF b0) (dF b1) (dF b2) (dF b3)))) (dF (eF (add2y (dF b0) (dF b1) (dF b2) (dF b3))))))) (dF p0) (dF p1))) < pN/\nv (eF (sub2y (dF (eF (mul2x (dF (eF (add2x (dF a0) (dF a1) (dF a2) (dF a3)))) (dF (eF (add2y (dF a0) (dF a1) (dF a2) (dF a3)))) (dF (eF (add2x (dF b0) (dF b1) (dF b2) (dF b3)))) (dF (eF (add2y (dF b0) (dF b1) (dF b2) (dF b3))))))) (dF (eF (mul2y (dF (eF (add2x (dF a0) (dF a1) (dF a2) (dF a3)))) (dF (eF (add2y (dF a0) (dF a1) (dF a2) (dF a3)))) (dF (eF (add2x (dF b0) (dF b1) (dF b2) (dF b3)))) (dF (eF (add2y (dF b0) (dF b1) (dF b2) (dF b3))))))) (dF p0) (dF p1))) < pN/\lp q0/\lp q1/\some (Blk.mk y1 [q6 a0,q6 a1,q6 a2,q6 a3,q6 a4,q6 a5] 0 0) = some (Blk.mk y1 [q6 a0,q6 a1,q6 a2,q6 a3,q6 a4,q6 a5] 0 0)/\some (Blk.mk y2 [q6 b0,q6 b1,q6 b2,q6 b3,q6 b4,q6 b5] 0 0) = some (Blk.mk y2 [q6 b0,q6 b1,q6 b2,q6 b3,q6 b4,q6 b5] 0 0) /\
  ∃ v',some (f2 (eF (sub2x (dF (eF (sub2x (dF (eF (mul2x (dF (eF (add2x (dF a0) (dF a1) (dF a2) (dF a3)))) (dF (eF (add2y (dF a0) (dF a1) (dF a2) (dF a3)))) (dF (eF (add2x (dF b0) (dF b1) (dF b2) (dF b3)))) (dF (eF (add2y (dF b0) (dF b1) (dF b2) (dF b3))))))) (dF (eF (mul2y (dF (eF (add2x (dF a0) (dF a1) (dF a2) (dF a3)))) (dF (eF (add2y (dF a0) (dF a1) (dF a2) (dF a3)))) (dF (eF (add2x (dF b0) (dF b1) (dF b2) (dF b3)))) (dF (eF (add2y (dF b0) (dF b1) (dF b2) (dF b3))))))) (dF p0) (dF p1)))) (dF (eF (sub2y (dF (eF (mul2x (dF (eF (add2x (dF a0) (dF a1) (dF a2) (dF a3)))) (dF (eF (add2y (dF a0) (dF a1) (dF a2) (dF a3)))) (dF (eF (add2x (dF b0) (dF b1) (dF b2) (dF b3)))) (dF (eF (add2y (dF b0) (dF b1) (dF b2) (dF b3))))))) (dF (eF (mul2y (dF (eF (add2x (dF a0) (dF a1) (dF a2) (dF a3)))) (dF (eF (add2y (dF a0) (dF a1) (dF a2) (dF a3)))) (dF (eF (add2x (dF b0) (dF b1) (dF b2) (dF b3)))) (dF (eF (add2y (dF b0) (dF b1) (dF b2) (dF b3))))))) (dF p0) (dF p1)))) (dF q0) (dF q1))) (eF (sub2y (dF (eF (sub2x (dF (eF (mul2x (dF (eF (add2x (dF a0) (dF a1) (dF a2) (dF a3)))) (dF (eF (add2y (dF a0) (dF a1) (dF a2) (dF a3)))) (dF (eF (add2x (dF b0) (dF b1) (dF b2) (dF b3)))) (dF (eF (add2y (dF b0) (dF b1) (dF b2) (dF b3))))))) (dF (eF (mul2y (dF (eF (add2x (dF a0) (dF a1) (dF a2) (dF a3)))) (dF (eF (add2y (dF a0) (dF a1) (dF a2) (dF a3)))) (dF (eF (add2x (dF b0) (dF b1) (dF b2) (dF b3)))) (dF (eF (add2y (dF b0) (dF b1) (dF b2) (dF b3))))))) (dF p0) (dF p1)))) (dF (eF (sub2y (dF (eF (mul2x (dF (eF (add2x (dF a0) (dF a1) (dF a2) (dF a3)))) (dF (eF (add2y (dF a0) (dF a1) (dF a2) (dF a3)))) (dF (eF (add2x (dF b0) (dF b1) (dF b2) (dF b3)))) (dF (eF (add2y (dF b0) (dF b1) (dF b2) (dF b3))))))) (dF (eF (mul2y (dF (eF (add2x (dF a0) (dF a1) (dF a2) (dF a3)))) (dF (eF (add2y (dF a0) (dF a1) (dF a2) (dF a3)))) (dF (eF (add2x (dF b0) (dF b1) (dF b2) (dF b3)))) (dF (eF (add2y (dF b0) (dF b1) (dF b2) (dF b3))))))) (dF p0) (dF p1)))) (dF q0) (dF q1)))) = some v'/\vokB v' = true/\∀ ρ,v'.val ρ = (f2 (eF (crs ⟨dF a0,dF a1⟩ ⟨dF a2,dF a3⟩ ⟨dF b0,dF b1⟩ ⟨dF b2,dF b3⟩ ⟨dF p0,dF p1⟩ ⟨dF q0,dF q1⟩).x) (eF (crs ⟨dF a0,dF a1⟩ ⟨dF a2,dF a3⟩ ⟨dF b0,dF b1⟩ ⟨dF b2,dF b3⟩ ⟨dF p0,dF p1⟩ ⟨dF q0,dF q1⟩).y)).val ρ) ?_ (by kernel_rfl)
 exact ⟨ha0,ha1,ha2,ha3,hb0,hb1,hb2,hb3,lE _,lE _,lE _,lE _,lE _,lE _,hp0,hp1,lE _,lE _,hq0,hq1,rfl,rfl,_,rfl,rfl,f2_val (nvE (by simp only [qE];simp only [S6.mul,crs,xi,F2p.add_x,F2p.add_y,F2p.mul_x,F2p.mul_y,F2p.sub_x,F2p.sub_y,add2x,add2y,sub2x,sub2y,mul2x,mul2y,upx,upy])) (nvE (by simp only [qE];simp only [S6.mul,crs,xi,F2p.add_x,F2p.add_y,F2p.mul_x,F2p.mul_y,F2p.sub_x,F2p.sub_y,add2x,add2y,sub2x,sub2y,mul2x,mul2y,upx,upy]))⟩
theorem cross02 {b c:Nat} (hbc:Nat.beq b c = false) {a0 a1 a2 a3 a4 a5 b0 b1 b2 b3 b4 b5 p0 p1 q0 q1:Nat->Nat} {y1 y2:TypeId} {h:Heap} (g1:hget h b = some ⟨y1,[q6 a0,q6 a1,q6 a2,q6 a3,q6 a4,q6 a5],0,0⟩) (g2:hget h c = some ⟨y2,[q6 b0,q6 b1,q6 b2,q6 b3,q6 b4,q6 b5],0,0⟩)
  (ha0:nv a0 < pN) (ha1:nv a1 < pN) (ha4:nv a4 < pN) (ha5:nv a5 < pN) (hb0:nv b0 < pN) (hb1:nv b1 < pN) (hb4:nv b4 < pN) (hb5:nv b5 < pN) (hp0:nv p0 < pN) (hp1:nv p1 < pN) (hq0:nv q0 < pN) (hq1:nv q1 < pN) :
  CallOk Tryz.prog 169 ([.v1 (.sc (.it (.ofNat 0))),.v1 (.sc (.it (.ofNat 2))),f2 p0 p1,f2 q0 q1] ++ [.v1 (.sc (.pt b 0)),.v1 (.sc (.pt c 0))]) h (f2 (eF (crs ⟨dF a0,dF a1⟩ ⟨dF a4,dF a5⟩ ⟨dF b0,dF b1⟩ ⟨dF b4,dF b5⟩ ⟨dF p0,dF p1⟩ ⟨dF q0,dF q1⟩).x) (eF (crs ⟨dF a0,dF a1⟩ ⟨dF a4,dF a5⟩ ⟨dF b0,dF b1⟩ ⟨dF b4,dF b5⟩ ⟨dF p0,dF p1⟩ ⟨dF q0,dF q1⟩).y)) h:=by
 refine rd_blk2 tK Tryz.func169 (by kernel_rfl) (by kernel_rfl) hbc (x:=⟨y1,[q6 a0,q6 a1,q6 a2,q6 a3,q6 a4,q6 a5],0,0⟩) (y:=⟨y2,[q6 b0,q6 b1,q6 b2,q6 b3,q6 b4,q6 b5],0,0⟩) rfl rfl rfl rfl rfl rfl g1 g2 ?_
 refine eSq mxd tK GCr_ok 60 [] ?_
 refine same (p:=nv a0 < pN/\lp a1/\lp a4/\lp a5/\lp b0/\lp b1/\lp b4/\lp b5/\lp (eF (add2x (dF a0) (dF a1) (dF a4) (dF a5)))/\lp (eF (add2y (dF a0) (dF a1) (dF a4) (dF a5)))/\lp (eF (add2x (dF b0) (dF b1) (dF b4) (dF b5)))/\lp (eF (add2y (dF b0) (dF b1) (dF b4) (dF b5)))/\nv (eF (mul2x (dF (eF (add2x (dF a0) (dF a1) (dF a4) (dF a5)))) (dF (eF (add2y (dF a0) (dF a1) (dF a4) (dF a5)))) (dF (eF (add2x (dF b0) (dF b1) (dF b4) (dF b5)))) (dF (eF (add2y (dF b0) (dF b1) (dF b4) (dF b5)))))) < pN/\nv (eF (mul2y (dF (eF (add2x (dF a0) (dF a1) (dF a4) (dF a5)))) (dF (eF (add2y (dF a0) (dF a1) (dF a4) (dF a5)))) (dF (eF (add2x (dF b0) (dF b1) (dF b4) (dF b5)))) (dF (eF (add2y (dF b0) (dF b1) (dF b4) (dF b5)))))) < pN/\lp p0/\lp p1/\nv (eF (sub2x (dF (eF (mul2x (dF (eF (add2x (dF a0) (dF a1) (dF a4) (dF a5)))) (dF (eF (add2y (dF a0) (dF a1) (dF a4) (dF a5)))) (dF (eF (add2x (dF b0) (dF b1) (dF b4) (dF b5)))) (dF (eF (add2y (dF b0) (dF b1) (dF b4) (dF b5))))))) (dF (eF (mul2y (dF (eF (add2x (dF a0) (dF a1) (dF a4) (dF a5)))) (dF (eF (add2y (dF a0) (dF a1) (dF a4) (dF a5)))) (dF (eF (add2x (dF b0) (dF b1) (dF b4) (dF b5)))) (dF (eF (add2y (dF b0) (dF b1) (dF b4) (dF b5))))))) (dF p0) (dF p1))) < pN/\nv (eF (sub2y (dF (eF (mul2x (dF (eF (add2x (dF a0) (dF a1) (dF a4) (dF a5)))) (dF (eF (add2y (dF a0) (dF a1) (dF a4) (dF a5)))) (dF (eF (add2x (dF b0) (dF b1) (dF b4) (dF b5)))) (dF (eF (add2y (dF b0) (dF b1) (dF b4) (dF b5))))))) (dF (eF (mul2y (dF (eF (add2x (dF a0) (dF a1) (dF a4) (dF a5)))) (dF (eF (add2y (dF a0) (dF a1) (dF a4) (dF a5)))) (dF (eF (add2x (dF b0) (dF b1) (dF b4) (dF b5)))) (dF (eF (add2y (dF b0) (dF b1) (dF b4) (dF b5))))))) (dF p0) (dF p1))) < pN/\lp q0/\lp q1/\some (Blk.mk y1 [q6 a0,q6 a1,q6 a2,q6 a3,q6 a4,q6 a5] 0 0) = some (Blk.mk y1 [q6 a0,q6 a1,q6 a2,q6 a3,q6 a4,q6 a5] 0 0)/\some (Blk.mk y2 [q6 b0,q6 b1,q6 b2,q6 b3,q6 b4,q6 b5] 0 0) = some (Blk.mk y2 [q6 b0,q6 b1,q6 b2,q6 b3,q6 b4,q6 b5] 0 0) /\
  ∃ v',some (f2 (eF (sub2x (dF (eF (sub2x (dF (eF (mul2x (dF (eF (add2x (dF a0) (dF a1) (dF a4) (dF a5)))) (dF (eF (add2y (dF a0) (dF a1) (dF a4) (dF a5)))) (dF (eF (add2x (dF b0) (dF b1) (dF b4) (dF b5)))) (dF (eF (add2y (dF b0) (dF b1) (dF b4) (dF b5))))))) (dF (eF (mul2y (dF (eF (add2x (dF a0) (dF a1) (dF a4) (dF a5)))) (dF (eF (add2y (dF a0) (dF a1) (dF a4) (dF a5)))) (dF (eF (add2x (dF b0) (dF b1) (dF b4) (dF b5)))) (dF (eF (add2y (dF b0) (dF b1) (dF b4) (dF b5))))))) (dF p0) (dF p1)))) (dF (eF (sub2y (dF (eF (mul2x (dF (eF (add2x (dF a0) (dF a1) (dF a4) (dF a5)))) (dF (eF (add2y (dF a0) (dF a1) (dF a4) (dF a5)))) (dF (eF (add2x (dF b0) (dF b1) (dF b4) (dF b5)))) (dF (eF (add2y (dF b0) (dF b1) (dF b4) (dF b5))))))) (dF (eF (mul2y (dF (eF (add2x (dF a0) (dF a1) (dF a4) (dF a5)))) (dF (eF (add2y (dF a0) (dF a1) (dF a4) (dF a5)))) (dF (eF (add2x (dF b0) (dF b1) (dF b4) (dF b5)))) (dF (eF (add2y (dF b0) (dF b1) (dF b4) (dF b5))))))) (dF p0) (dF p1)))) (dF q0) (dF q1))) (eF (sub2y (dF (eF (sub2x (dF (eF (mul2x (dF (eF (add2x (dF a0) (dF a1) (dF a4) (dF a5)))) (dF (eF (add2y (dF a0) (dF a1) (dF a4) (dF a5)))) (dF (eF (add2x (dF b0) (dF b1) (dF b4) (dF b5)))) (dF (eF (add2y (dF b0) (dF b1) (dF b4) (dF b5))))))) (dF (eF (mul2y (dF (eF (add2x (dF a0) (dF a1) (dF a4) (dF a5)))) (dF (eF (add2y (dF a0) (dF a1) (dF a4) (dF a5)))) (dF (eF (add2x (dF b0) (dF b1) (dF b4) (dF b5)))) (dF (eF (add2y (dF b0) (dF b1) (dF b4) (dF b5))))))) (dF p0) (dF p1)))) (dF (eF (sub2y (dF (eF (mul2x (dF (eF (add2x (dF a0) (dF a1) (dF a4) (dF a5)))) (dF (eF (add2y (dF a0) (dF a1) (dF a4) (dF a5)))) (dF (eF (add2x (dF b0) (dF b1) (dF b4) (dF b5)))) (dF (eF (add2y (dF b0) (dF b1) (dF b4) (dF b5))))))) (dF (eF (mul2y (dF (eF (add2x (dF a0) (dF a1) (dF a4) (dF a5)))) (dF (eF (add2y (dF a0) (dF a1) (dF a4) (dF a5)))) (dF (eF (add2x (dF b0) (dF b1) (dF b4) (dF b5)))) (dF (eF (add2y (dF b0) (dF b1) (dF b4) (dF b5))))))) (dF p0) (dF p1)))) (dF q0) (dF q1)))) = some v'/\vokB v' = true/\∀ ρ,v'.val ρ = (f2 (eF (crs ⟨dF a0,dF a1⟩ ⟨dF a4,dF a5⟩ ⟨dF b0,dF b1⟩ ⟨dF b4,dF b5⟩ ⟨dF p0,dF p1⟩ ⟨dF q0,dF q1⟩).x) (eF (crs ⟨dF a0,dF a1⟩ ⟨dF a4,dF a5⟩ ⟨dF b0,dF b1⟩ ⟨dF b4,dF b5⟩ ⟨dF p0,dF p1⟩ ⟨dF q0,dF q1⟩).y)).val ρ) ?_ (by kernel_rfl)
 exact ⟨ha0,ha1,ha4,ha5,hb0,hb1,hb4,hb5,lE _,lE _,lE _,lE _,lE _,lE _,hp0,hp1,lE _,lE _,hq0,hq1,rfl,rfl,_,rfl,rfl,f2_val (nvE (by simp only [qE];simp only [S6.mul,crs,xi,F2p.add_x,F2p.add_y,F2p.mul_x,F2p.mul_y,F2p.sub_x,F2p.sub_y,add2x,add2y,sub2x,sub2y,mul2x,mul2y,upx,upy])) (nvE (by simp only [qE];simp only [S6.mul,crs,xi,F2p.add_x,F2p.add_y,F2p.mul_x,F2p.mul_y,F2p.sub_x,F2p.sub_y,add2x,add2y,sub2x,sub2y,mul2x,mul2y,upx,upy]))⟩
theorem okCross:(CallC.rd cCross).Ok Tryz.prog 169:=by
 refine ⟨fun args h pre v e hp=>?_,fun args h slot blk hs ha=>?_⟩
 ·unfold cCross at e
  split at e
  ·rename_i i k p0 p1 q0 q1 x y
   split at e
   ·cases e
   ·rename_i hxy
    split at e
    ·rename_i g1
     split at e
     ·rename_i g2
      split at e
      ·cases e
       exact cross12 hxy g1 g2 (hp _ (by simp)) (hp _ (by simp)) (hp _ (by simp)) (hp _ (by simp)) (hp _ (by simp)) (hp _ (by simp)) (hp _ (by simp)) (hp _ (by simp)) (hp _ (by simp)) (hp _ (by simp)) (hp _ (by simp)) (hp _ (by simp))
      ·cases e
       exact cross01 hxy g1 g2 (hp _ (by simp)) (hp _ (by simp)) (hp _ (by simp)) (hp _ (by simp)) (hp _ (by simp)) (hp _ (by simp)) (hp _ (by simp)) (hp _ (by simp)) (hp _ (by simp)) (hp _ (by simp)) (hp _ (by simp)) (hp _ (by simp))
      ·cases e
       exact cross02 hxy g1 g2 (hp _ (by simp)) (hp _ (by simp)) (hp _ (by simp)) (hp _ (by simp)) (hp _ (by simp)) (hp _ (by simp)) (hp _ (by simp)) (hp _ (by simp)) (hp _ (by simp)) (hp _ (by simp)) (hp _ (by simp)) (hp _ (by simp))
      ·cases e
     ·cases e
    ·cases e
  ·cases e
 ·unfold cCross
  split
  ·rename_i i k p0 p1 q0 q1 x y
   have ne:∀ b,Dm h b->b ≠ slot:=fun b hb e=>by
    obtain ⟨z,hz⟩:=hb
    rw [e,(isHole_lt hs).2] at hz;cases hz
   have hx:Dm h x:=ha (.v1 (.sc (.pt x 0))) (by simp)
   have hy:Dm h y:=ha (.v1 (.sc (.pt y 0))) (by simp)
   rw [hgN (ne x hx),hgN (ne y hy)]
  ·rfl
def GSm:Ctx:=ctxL [(110,.pure (q2 add2x add2y)),(112,.pure (q2 mul2x mul2y)),(170,.pure (q1 upx upy)),(169,.rd cCross)]
theorem GSm_ok:CtxOk Tryz.prog GSm:=cxC okAdd2 <| cxC okMul2 <| cxC okUp <| cxC okCross cxN
theorem okSmul:(CallC.pure (k62 S6.mul)).Ok Tryz.prog 123:=by
 refine k62_ok Tryz.func123 (by kernel_rfl) (by kernel_rfl) fun a0 a1 a2 a3 a4 a5 b0 b1 b2 b3 b4 b5 ha0 ha1 ha2 ha3 ha4 ha5 hb0 hb1 hb2 hb3 hb4 hb5=>eSq mxd tK GSm_ok 100 [] ?_
 refine same (p:=nv a0 < pN/\lp a1/\lp b0/\lp b1/\lp a2/\lp a3/\lp b2/\lp b3/\lp a4/\lp a5/\lp b4/\lp b5/\lp a2/\lp a3/\lp a4/\lp a5/\lp b2/\lp b3/\lp b4/\lp b5/\lp (eF (mul2x (dF a2) (dF a3) (dF b2) (dF b3)))/\lp (eF (mul2y (dF a2) (dF a3) (dF b2) (dF b3)))/\lp (eF (mul2x (dF a4) (dF a5) (dF b4) (dF b5)))/\lp (eF (mul2y (dF a4) (dF a5) (dF b4) (dF b5)))/\lp (eF (crs ⟨dF a2,dF a3⟩ ⟨dF a4,dF a5⟩ ⟨dF b2,dF b3⟩ ⟨dF b4,dF b5⟩ ⟨dF (eF (mul2x (dF a2) (dF a3) (dF b2) (dF b3))),dF (eF (mul2y (dF a2) (dF a3) (dF b2) (dF b3)))⟩ ⟨dF (eF (mul2x (dF a4) (dF a5) (dF b4) (dF b5))),dF (eF (mul2y (dF a4) (dF a5) (dF b4) (dF b5)))⟩).x)/\lp (eF (crs ⟨dF a2,dF a3⟩ ⟨dF a4,dF a5⟩ ⟨dF b2,dF b3⟩ ⟨dF b4,dF b5⟩ ⟨dF (eF (mul2x (dF a2) (dF a3) (dF b2) (dF b3))),dF (eF (mul2y (dF a2) (dF a3) (dF b2) (dF b3)))⟩ ⟨dF (eF (mul2x (dF a4) (dF a5) (dF b4) (dF b5))),dF (eF (mul2y (dF a4) (dF a5) (dF b4) (dF b5)))⟩).y)/\lp (eF (mul2x (dF a0) (dF a1) (dF b0) (dF b1)))/\lp (eF (mul2y (dF a0) (dF a1) (dF b0) (dF b1)))/\nv (eF (upx (dF (eF (crs ⟨dF a2,dF a3⟩ ⟨dF a4,dF a5⟩ ⟨dF b2,dF b3⟩ ⟨dF b4,dF b5⟩ ⟨dF (eF (mul2x (dF a2) (dF a3) (dF b2) (dF b3))),dF (eF (mul2y (dF a2) (dF a3) (dF b2) (dF b3)))⟩ ⟨dF (eF (mul2x (dF a4) (dF a5) (dF b4) (dF b5))),dF (eF (mul2y (dF a4) (dF a5) (dF b4) (dF b5)))⟩).x)) (dF (eF (crs ⟨dF a2,dF a3⟩ ⟨dF a4,dF a5⟩ ⟨dF b2,dF b3⟩ ⟨dF b4,dF b5⟩ ⟨dF (eF (mul2x (dF a2) (dF a3) (dF b2) (dF b3))),dF (eF (mul2y (dF a2) (dF a3) (dF b2) (dF b3)))⟩ ⟨dF (eF (mul2x (dF a4) (dF a5) (dF b4) (dF b5))),dF (eF (mul2y (dF a4) (dF a5) (dF b4) (dF b5)))⟩).y)))) < pN/\nv (eF (upy (dF (eF (crs ⟨dF a2,dF a3⟩ ⟨dF a4,dF a5⟩ ⟨dF b2,dF b3⟩ ⟨dF b4,dF b5⟩ ⟨dF (eF (mul2x (dF a2) (dF a3) (dF b2) (dF b3))),dF (eF (mul2y (dF a2) (dF a3) (dF b2) (dF b3)))⟩ ⟨dF (eF (mul2x (dF a4) (dF a5) (dF b4) (dF b5))),dF (eF (mul2y (dF a4) (dF a5) (dF b4) (dF b5)))⟩).x)) (dF (eF (crs ⟨dF a2,dF a3⟩ ⟨dF a4,dF a5⟩ ⟨dF b2,dF b3⟩ ⟨dF b4,dF b5⟩ ⟨dF (eF (mul2x (dF a2) (dF a3) (dF b2) (dF b3))),dF (eF (mul2y (dF a2) (dF a3) (dF b2) (dF b3)))⟩ ⟨dF (eF (mul2x (dF a4) (dF a5) (dF b4) (dF b5))),dF (eF (mul2y (dF a4) (dF a5) (dF b4) (dF b5)))⟩).y)))) < pN/\lp a0/\lp a1/\lp a2/\lp a3/\lp b0/\lp b1/\lp b2/\lp b3/\lp (eF (mul2x (dF a0) (dF a1) (dF b0) (dF b1)))/\lp (eF (mul2y (dF a0) (dF a1) (dF b0) (dF b1)))/\lp (eF (mul2x (dF a2) (dF a3) (dF b2) (dF b3)))/\lp (eF (mul2y (dF a2) (dF a3) (dF b2) (dF b3)))/\lp (eF (mul2x (dF a4) (dF a5) (dF b4) (dF b5)))/\lp (eF (mul2y (dF a4) (dF a5) (dF b4) (dF b5)))/\lp (eF (crs ⟨dF a0,dF a1⟩ ⟨dF a2,dF a3⟩ ⟨dF b0,dF b1⟩ ⟨dF b2,dF b3⟩ ⟨dF (eF (mul2x (dF a0) (dF a1) (dF b0) (dF b1))),dF (eF (mul2y (dF a0) (dF a1) (dF b0) (dF b1)))⟩ ⟨dF (eF (mul2x (dF a2) (dF a3) (dF b2) (dF b3))),dF (eF (mul2y (dF a2) (dF a3) (dF b2) (dF b3)))⟩).x)/\lp (eF (crs ⟨dF a0,dF a1⟩ ⟨dF a2,dF a3⟩ ⟨dF b0,dF b1⟩ ⟨dF b2,dF b3⟩ ⟨dF (eF (mul2x (dF a0) (dF a1) (dF b0) (dF b1))),dF (eF (mul2y (dF a0) (dF a1) (dF b0) (dF b1)))⟩ ⟨dF (eF (mul2x (dF a2) (dF a3) (dF b2) (dF b3))),dF (eF (mul2y (dF a2) (dF a3) (dF b2) (dF b3)))⟩).y)/\nv (eF (upx (dF (eF (mul2x (dF a4) (dF a5) (dF b4) (dF b5)))) (dF (eF (mul2y (dF a4) (dF a5) (dF b4) (dF b5)))))) < pN/\nv (eF (upy (dF (eF (mul2x (dF a4) (dF a5) (dF b4) (dF b5)))) (dF (eF (mul2y (dF a4) (dF a5) (dF b4) (dF b5)))))) < pN/\lp a0/\lp a1/\lp a4/\lp a5/\lp b0/\lp b1/\lp b4/\lp b5/\lp (eF (mul2x (dF a0) (dF a1) (dF b0) (dF b1)))/\lp (eF (mul2y (dF a0) (dF a1) (dF b0) (dF b1)))/\lp (eF (mul2x (dF a4) (dF a5) (dF b4) (dF b5)))/\lp (eF (mul2y (dF a4) (dF a5) (dF b4) (dF b5)))/\lp (eF (crs ⟨dF a0,dF a1⟩ ⟨dF a4,dF a5⟩ ⟨dF b0,dF b1⟩ ⟨dF b4,dF b5⟩ ⟨dF (eF (mul2x (dF a0) (dF a1) (dF b0) (dF b1))),dF (eF (mul2y (dF a0) (dF a1) (dF b0) (dF b1)))⟩ ⟨dF (eF (mul2x (dF a4) (dF a5) (dF b4) (dF b5))),dF (eF (mul2y (dF a4) (dF a5) (dF b4) (dF b5)))⟩).x)/\lp (eF (crs ⟨dF a0,dF a1⟩ ⟨dF a4,dF a5⟩ ⟨dF b0,dF b1⟩ ⟨dF b4,dF b5⟩ ⟨dF (eF (mul2x (dF a0) (dF a1) (dF b0) (dF b1))),dF (eF (mul2y (dF a0) (dF a1) (dF b0) (dF b1)))⟩ ⟨dF (eF (mul2x (dF a4) (dF a5) (dF b4) (dF b5))),dF (eF (mul2y (dF a4) (dF a5) (dF b4) (dF b5)))⟩).y)/\lp (eF (mul2x (dF a2) (dF a3) (dF b2) (dF b3)))/\lp (eF (mul2y (dF a2) (dF a3) (dF b2) (dF b3)))/\endN (.v1 (v6 (eF (add2x (dF (eF (mul2x (dF a0) (dF a1) (dF b0) (dF b1)))) (dF (eF (mul2y (dF a0) (dF a1) (dF b0) (dF b1)))) (dF (eF (upx (dF (eF (crs ⟨dF a2,dF a3⟩ ⟨dF a4,dF a5⟩ ⟨dF b2,dF b3⟩ ⟨dF b4,dF b5⟩ ⟨dF (eF (mul2x (dF a2) (dF a3) (dF b2) (dF b3))),dF (eF (mul2y (dF a2) (dF a3) (dF b2) (dF b3)))⟩ ⟨dF (eF (mul2x (dF a4) (dF a5) (dF b4) (dF b5))),dF (eF (mul2y (dF a4) (dF a5) (dF b4) (dF b5)))⟩).x)) (dF (eF (crs ⟨dF a2,dF a3⟩ ⟨dF a4,dF a5⟩ ⟨dF b2,dF b3⟩ ⟨dF b4,dF b5⟩ ⟨dF (eF (mul2x (dF a2) (dF a3) (dF b2) (dF b3))),dF (eF (mul2y (dF a2) (dF a3) (dF b2) (dF b3)))⟩ ⟨dF (eF (mul2x (dF a4) (dF a5) (dF b4) (dF b5))),dF (eF (mul2y (dF a4) (dF a5) (dF b4) (dF b5)))⟩).y))))) (dF (eF (upy (dF (eF (crs ⟨dF a2,dF a3⟩ ⟨dF a4,dF a5⟩ ⟨dF b2,dF b3⟩ ⟨dF b4,dF b5⟩ ⟨dF (eF (mul2x (dF a2) (dF a3) (dF b2) (dF b3))),dF (eF (mul2y (dF a2) (dF a3) (dF b2) (dF b3)))⟩ ⟨dF (eF (mul2x (dF a4) (dF a5) (dF b4) (dF b5))),dF (eF (mul2y (dF a4) (dF a5) (dF b4) (dF b5)))⟩).x)) (dF (eF (crs ⟨dF a2,dF a3⟩ ⟨dF a4,dF a5⟩ ⟨dF b2,dF b3⟩ ⟨dF b4,dF b5⟩ ⟨dF (eF (mul2x (dF a2) (dF a3) (dF b2) (dF b3))),dF (eF (mul2y (dF a2) (dF a3) (dF b2) (dF b3)))⟩ ⟨dF (eF (mul2x (dF a4) (dF a5) (dF b4) (dF b5))),dF (eF (mul2y (dF a4) (dF a5) (dF b4) (dF b5)))⟩).y))))))) (eF (add2y (dF (eF (mul2x (dF a0) (dF a1) (dF b0) (dF b1)))) (dF (eF (mul2y (dF a0) (dF a1) (dF b0) (dF b1)))) (dF (eF (upx (dF (eF (crs ⟨dF a2,dF a3⟩ ⟨dF a4,dF a5⟩ ⟨dF b2,dF b3⟩ ⟨dF b4,dF b5⟩ ⟨dF (eF (mul2x (dF a2) (dF a3) (dF b2) (dF b3))),dF (eF (mul2y (dF a2) (dF a3) (dF b2) (dF b3)))⟩ ⟨dF (eF (mul2x (dF a4) (dF a5) (dF b4) (dF b5))),dF (eF (mul2y (dF a4) (dF a5) (dF b4) (dF b5)))⟩).x)) (dF (eF (crs ⟨dF a2,dF a3⟩ ⟨dF a4,dF a5⟩ ⟨dF b2,dF b3⟩ ⟨dF b4,dF b5⟩ ⟨dF (eF (mul2x (dF a2) (dF a3) (dF b2) (dF b3))),dF (eF (mul2y (dF a2) (dF a3) (dF b2) (dF b3)))⟩ ⟨dF (eF (mul2x (dF a4) (dF a5) (dF b4) (dF b5))),dF (eF (mul2y (dF a4) (dF a5) (dF b4) (dF b5)))⟩).y))))) (dF (eF (upy (dF (eF (crs ⟨dF a2,dF a3⟩ ⟨dF a4,dF a5⟩ ⟨dF b2,dF b3⟩ ⟨dF b4,dF b5⟩ ⟨dF (eF (mul2x (dF a2) (dF a3) (dF b2) (dF b3))),dF (eF (mul2y (dF a2) (dF a3) (dF b2) (dF b3)))⟩ ⟨dF (eF (mul2x (dF a4) (dF a5) (dF b4) (dF b5))),dF (eF (mul2y (dF a4) (dF a5) (dF b4) (dF b5)))⟩).x)) (dF (eF (crs ⟨dF a2,dF a3⟩ ⟨dF a4,dF a5⟩ ⟨dF b2,dF b3⟩ ⟨dF b4,dF b5⟩ ⟨dF (eF (mul2x (dF a2) (dF a3) (dF b2) (dF b3))),dF (eF (mul2y (dF a2) (dF a3) (dF b2) (dF b3)))⟩ ⟨dF (eF (mul2x (dF a4) (dF a5) (dF b4) (dF b5))),dF (eF (mul2y (dF a4) (dF a5) (dF b4) (dF b5)))⟩).y))))))) (eF (add2x (dF (eF (crs ⟨dF a0,dF a1⟩ ⟨dF a2,dF a3⟩ ⟨dF b0,dF b1⟩ ⟨dF b2,dF b3⟩ ⟨dF (eF (mul2x (dF a0) (dF a1) (dF b0) (dF b1))),dF (eF (mul2y (dF a0) (dF a1) (dF b0) (dF b1)))⟩ ⟨dF (eF (mul2x (dF a2) (dF a3) (dF b2) (dF b3))),dF (eF (mul2y (dF a2) (dF a3) (dF b2) (dF b3)))⟩).x)) (dF (eF (crs ⟨dF a0,dF a1⟩ ⟨dF a2,dF a3⟩ ⟨dF b0,dF b1⟩ ⟨dF b2,dF b3⟩ ⟨dF (eF (mul2x (dF a0) (dF a1) (dF b0) (dF b1))),dF (eF (mul2y (dF a0) (dF a1) (dF b0) (dF b1)))⟩ ⟨dF (eF (mul2x (dF a2) (dF a3) (dF b2) (dF b3))),dF (eF (mul2y (dF a2) (dF a3) (dF b2) (dF b3)))⟩).y)) (dF (eF (upx (dF (eF (mul2x (dF a4) (dF a5) (dF b4) (dF b5)))) (dF (eF (mul2y (dF a4) (dF a5) (dF b4) (dF b5))))))) (dF (eF (upy (dF (eF (mul2x (dF a4) (dF a5) (dF b4) (dF b5)))) (dF (eF (mul2y (dF a4) (dF a5) (dF b4) (dF b5))))))))) (eF (add2y (dF (eF (crs ⟨dF a0,dF a1⟩ ⟨dF a2,dF a3⟩ ⟨dF b0,dF b1⟩ ⟨dF b2,dF b3⟩ ⟨dF (eF (mul2x (dF a0) (dF a1) (dF b0) (dF b1))),dF (eF (mul2y (dF a0) (dF a1) (dF b0) (dF b1)))⟩ ⟨dF (eF (mul2x (dF a2) (dF a3) (dF b2) (dF b3))),dF (eF (mul2y (dF a2) (dF a3) (dF b2) (dF b3)))⟩).x)) (dF (eF (crs ⟨dF a0,dF a1⟩ ⟨dF a2,dF a3⟩ ⟨dF b0,dF b1⟩ ⟨dF b2,dF b3⟩ ⟨dF (eF (mul2x (dF a0) (dF a1) (dF b0) (dF b1))),dF (eF (mul2y (dF a0) (dF a1) (dF b0) (dF b1)))⟩ ⟨dF (eF (mul2x (dF a2) (dF a3) (dF b2) (dF b3))),dF (eF (mul2y (dF a2) (dF a3) (dF b2) (dF b3)))⟩).y)) (dF (eF (upx (dF (eF (mul2x (dF a4) (dF a5) (dF b4) (dF b5)))) (dF (eF (mul2y (dF a4) (dF a5) (dF b4) (dF b5))))))) (dF (eF (upy (dF (eF (mul2x (dF a4) (dF a5) (dF b4) (dF b5)))) (dF (eF (mul2y (dF a4) (dF a5) (dF b4) (dF b5))))))))) (eF (add2x (dF (eF (crs ⟨dF a0,dF a1⟩ ⟨dF a4,dF a5⟩ ⟨dF b0,dF b1⟩ ⟨dF b4,dF b5⟩ ⟨dF (eF (mul2x (dF a0) (dF a1) (dF b0) (dF b1))),dF (eF (mul2y (dF a0) (dF a1) (dF b0) (dF b1)))⟩ ⟨dF (eF (mul2x (dF a4) (dF a5) (dF b4) (dF b5))),dF (eF (mul2y (dF a4) (dF a5) (dF b4) (dF b5)))⟩).x)) (dF (eF (crs ⟨dF a0,dF a1⟩ ⟨dF a4,dF a5⟩ ⟨dF b0,dF b1⟩ ⟨dF b4,dF b5⟩ ⟨dF (eF (mul2x (dF a0) (dF a1) (dF b0) (dF b1))),dF (eF (mul2y (dF a0) (dF a1) (dF b0) (dF b1)))⟩ ⟨dF (eF (mul2x (dF a4) (dF a5) (dF b4) (dF b5))),dF (eF (mul2y (dF a4) (dF a5) (dF b4) (dF b5)))⟩).y)) (dF (eF (mul2x (dF a2) (dF a3) (dF b2) (dF b3)))) (dF (eF (mul2y (dF a2) (dF a3) (dF b2) (dF b3)))))) (eF (add2y (dF (eF (crs ⟨dF a0,dF a1⟩ ⟨dF a4,dF a5⟩ ⟨dF b0,dF b1⟩ ⟨dF b4,dF b5⟩ ⟨dF (eF (mul2x (dF a0) (dF a1) (dF b0) (dF b1))),dF (eF (mul2y (dF a0) (dF a1) (dF b0) (dF b1)))⟩ ⟨dF (eF (mul2x (dF a4) (dF a5) (dF b4) (dF b5))),dF (eF (mul2y (dF a4) (dF a5) (dF b4) (dF b5)))⟩).x)) (dF (eF (crs ⟨dF a0,dF a1⟩ ⟨dF a4,dF a5⟩ ⟨dF b0,dF b1⟩ ⟨dF b4,dF b5⟩ ⟨dF (eF (mul2x (dF a0) (dF a1) (dF b0) (dF b1))),dF (eF (mul2y (dF a0) (dF a1) (dF b0) (dF b1)))⟩ ⟨dF (eF (mul2x (dF a4) (dF a5) (dF b4) (dF b5))),dF (eF (mul2y (dF a4) (dF a5) (dF b4) (dF b5)))⟩).y)) (dF (eF (mul2x (dF a2) (dF a3) (dF b2) (dF b3)))) (dF (eF (mul2y (dF a2) (dF a3) (dF b2) (dF b3)))))))) (.v1 (e6 (S6.mul (d6 a0 a1 a2 a3 a4 a5) (d6 b0 b1 b2 b3 b4 b5))))) ?_ (by kernel_rfl)
 exact ⟨ha0,ha1,hb0,hb1,ha2,ha3,hb2,hb3,ha4,ha5,hb4,hb5,ha2,ha3,ha4,ha5,hb2,hb3,hb4,hb5,lE _,lE _,lE _,lE _,lE _,lE _,lE _,lE _,lE _,lE _,ha0,ha1,ha2,ha3,hb0,hb1,hb2,hb3,lE _,lE _,lE _,lE _,lE _,lE _,lE _,lE _,lE _,lE _,ha0,ha1,ha4,ha5,hb0,hb1,hb4,hb5,lE _,lE _,lE _,lE _,lE _,lE _,lE _,lE _,endN_6 (nvE (by simp only [qE];simp only [S6.mul,crs,xi,F2p.add_x,F2p.add_y,F2p.mul_x,F2p.mul_y,F2p.sub_x,F2p.sub_y,add2x,add2y,sub2x,sub2y,mul2x,mul2y,upx,upy];grind)) (nvE (by simp only [qE];simp only [S6.mul,crs,xi,F2p.add_x,F2p.add_y,F2p.mul_x,F2p.mul_y,F2p.sub_x,F2p.sub_y,add2x,add2y,sub2x,sub2y,mul2x,mul2y,upx,upy];grind)) (nvE (by simp only [qE];simp only [S6.mul,crs,xi,F2p.add_x,F2p.add_y,F2p.mul_x,F2p.mul_y,F2p.sub_x,F2p.sub_y,add2x,add2y,sub2x,sub2y,mul2x,mul2y,upx,upy];grind)) (nvE (by simp only [qE];simp only [S6.mul,crs,xi,F2p.add_x,F2p.add_y,F2p.mul_x,F2p.mul_y,F2p.sub_x,F2p.sub_y,add2x,add2y,sub2x,sub2y,mul2x,mul2y,upx,upy];grind)) (nvE (by simp only [qE];simp only [S6.mul,crs,xi,F2p.add_x,F2p.add_y,F2p.mul_x,F2p.mul_y,F2p.sub_x,F2p.sub_y,add2x,add2y,sub2x,sub2y,mul2x,mul2y,upx,upy];grind)) (nvE (by simp only [qE];simp only [S6.mul,crs,xi,F2p.add_x,F2p.add_y,F2p.mul_x,F2p.mul_y,F2p.sub_x,F2p.sub_y,add2x,add2y,sub2x,sub2y,mul2x,mul2y,upx,upy];grind))⟩
abbrev v12 (a0 a1 a2 a3 a4 a5 a6 a7 a8 a9 a10 a11:Nat->Nat):V1:=.agg [q6 a0,q6 a1,q6 a2,q6 a3,q6 a4,q6 a5,q6 a6,q6 a7,q6 a8,q6 a9,q6 a10,q6 a11]
def cHal:List AV->Option (List Prop × AV)
 | [.v1 (.agg [.ws .u64 6 a0,.ws .u64 6 a1,.ws .u64 6 a2,.ws .u64 6 a3,.ws .u64 6 a4,.ws .u64 6 a5,.ws .u64 6 a6,.ws .u64 6 a7,.ws .u64 6 a8,.ws .u64 6 a9,.ws .u64 6 a10,.ws .u64 6 a11])]=>some ([],.tup [v6 a0 a1 a4 a5 a8 a9,v6 a2 a3 a6 a7 a10 a11])
 | _=>none
def cWho:List AV->Option (List Prop × AV)
 | [.v1 (.agg [.ws .u64 6 a0,.ws .u64 6 a1,.ws .u64 6 a2,.ws .u64 6 a3,.ws .u64 6 a4,.ws .u64 6 a5]),.v1 (.agg [.ws .u64 6 b0,.ws .u64 6 b1,.ws .u64 6 b2,.ws .u64 6 b3,.ws .u64 6 b4,.ws .u64 6 b5])]=>some ([],.v1 (v12 a0 a1 b0 b1 a2 a3 b2 b3 a4 a5 b4 b5))
 | _=>none
theorem okHal:(CallC.pure cHal).Ok Tryz.prog 122:=by
 intro args pre v e _
 unfold cHal at e
 split at e
 ·rename_i a0 a1 a2 a3 a4 a5 a6 a7 a8 a9 a10 a11
  cases e
  refine pWk tK Tryz.func122 (by kernel_rfl) (by kernel_rfl) (by rfl) (by rfl) ?_
  refine eSq mxd tK G0_ok 60 [] ?_
  exact same (p:=endN (.tup [v6 a0 a1 a4 a5 a8 a9,v6 a2 a3 a6 a7 a10 a11]) (.tup [v6 a0 a1 a4 a5 a8 a9,v6 a2 a3 a6 a7 a10 a11])) ⟨_,rfl,fun _=>rfl⟩ (by kernel_rfl)
 ·cases e
theorem okWho:(CallC.pure cWho).Ok Tryz.prog 125:=by
 intro args pre v e _
 unfold cWho at e
 split at e
 ·rename_i a0 a1 a2 a3 a4 a5 b0 b1 b2 b3 b4 b5
  cases e
  refine pWk tK Tryz.func125 (by kernel_rfl) (by kernel_rfl) (by rfl) (by rfl) ?_
  refine eSq mxd tK G0_ok 60 [] ?_
  exact same (p:=endN (.v1 (v12 a0 a1 b0 b1 a2 a3 b2 b3 a4 a5 b4 b5)) (.v1 (v12 a0 a1 b0 b1 a2 a3 b2 b3 a4 a5 b4 b5))) ⟨_,rfl,fun _=>rfl⟩ (by kernel_rfl)
 ·cases e
abbrev D6 (s:S6):S6:=d6 (eF s.u.x) (eF s.u.y) (eF s.v.x) (eF s.v.y) (eF s.w.x) (eF s.w.y)
theorem D6_eq (s:S6):D6 s = s:=by simp only [D6,d6,qE]
theorem S6.kar (p q r s:S6):S6.sub (S6.sub (S6.mul (S6.add p q) (S6.add r s)) (S6.mul p r)) (S6.mul q s) = S6.add (S6.mul p s) (S6.mul q r):=by
 unfold S6.sub S6.mul S6.add
 simp only [xi_mul,S6.mk.injEq]
 generalize kx = k
 refine ⟨?_,?_,?_⟩ <;> grind
abbrev d12 (a0 a1 a2 a3 a4 a5 a6 a7 a8 a9 a10 a11:Nat->Nat):S12:=⟨d6 a0 a1 a4 a5 a8 a9,d6 a2 a3 a6 a7 a10 a11⟩
abbrev e12 (s:S12):V1:=v12 (eF s.p.u.x) (eF s.p.u.y) (eF s.q.u.x) (eF s.q.u.y) (eF s.p.v.x) (eF s.p.v.y) (eF s.q.v.x) (eF s.q.v.y) (eF s.p.w.x) (eF s.p.w.y) (eF s.q.w.x) (eF s.q.w.y)
theorem v12_val {a0 a1 a2 a3 a4 a5 a6 a7 a8 a9 a10 a11 a0' a1' a2' a3' a4' a5' a6' a7' a8' a9' a10' a11':Nat->Nat} (h0:nv a0 = nv a0') (h1:nv a1 = nv a1') (h2:nv a2 = nv a2') (h3:nv a3 = nv a3') (h4:nv a4 = nv a4') (h5:nv a5 = nv a5') (h6:nv a6 = nv a6') (h7:nv a7 = nv a7') (h8:nv a8 = nv a8') (h9:nv a9 = nv a9') (h10:nv a10 = nv a10') (h11:nv a11 = nv a11') (ρ:Ren):(v12 a0 a1 a2 a3 a4 a5 a6 a7 a8 a9 a10 a11).val ρ = (v12 a0' a1' a2' a3' a4' a5' a6' a7' a8' a9' a10' a11').val ρ:=by
 show Value.agg (cvals ρ _).toArray = Value.agg (cvals ρ _).toArray
 simp only [cvals]
 rw [ws_cell ρ h0,ws_cell ρ h1,ws_cell ρ h2,ws_cell ρ h3,ws_cell ρ h4,ws_cell ρ h5,ws_cell ρ h6,ws_cell ρ h7,ws_cell ρ h8,ws_cell ρ h9,ws_cell ρ h10,ws_cell ρ h11]
def k122 (F:S12->S12->S12):List AV->Option (List Prop × AV)
 | [.v1 (.agg [.ws .u64 6 a0,.ws .u64 6 a1,.ws .u64 6 a2,.ws .u64 6 a3,.ws .u64 6 a4,.ws .u64 6 a5,.ws .u64 6 a6,.ws .u64 6 a7,.ws .u64 6 a8,.ws .u64 6 a9,.ws .u64 6 a10,.ws .u64 6 a11]),.v1 (.agg [.ws .u64 6 b0,.ws .u64 6 b1,.ws .u64 6 b2,.ws .u64 6 b3,.ws .u64 6 b4,.ws .u64 6 b5,.ws .u64 6 b6,.ws .u64 6 b7,.ws .u64 6 b8,.ws .u64 6 b9,.ws .u64 6 b10,.ws .u64 6 b11])]=>some ([nv a0 < pN,nv a1 < pN,nv a2 < pN,nv a3 < pN,nv a4 < pN,nv a5 < pN,nv a6 < pN,nv a7 < pN,nv a8 < pN,nv a9 < pN,nv a10 < pN,nv a11 < pN,nv b0 < pN,nv b1 < pN,nv b2 < pN,nv b3 < pN,nv b4 < pN,nv b5 < pN,nv b6 < pN,nv b7 < pN,nv b8 < pN,nv b9 < pN,nv b10 < pN,nv b11 < pN],.v1 (e12 (F (d12 a0 a1 a2 a3 a4 a5 a6 a7 a8 a9 a10 a11) (d12 b0 b1 b2 b3 b4 b5 b6 b7 b8 b9 b10 b11))))
 | _=>none
def GMl:Ctx:=ctxL [(122,.pure cHal),(125,.pure cWho),(123,.pure (k62 S6.mul)),(124,.pure (k62 S6.add)),(127,.pure (k62 S6.sub)),(126,.pure (k61 S6.next))]
theorem GMl_ok:CtxOk Tryz.prog GMl:=cxC okHal <| cxC okWho <| cxC okSmul <| cxC okSadd <| cxC okSsub <| cxC okSnext cxN
theorem okMul12:(CallC.pure (k122 S12.mul)).Ok Tryz.prog 60:=by
 intro args pre v e hp
 unfold k122 at e
 split at e
 ·rename_i a0 a1 a2 a3 a4 a5 a6 a7 a8 a9 a10 a11 b0 b1 b2 b3 b4 b5 b6 b7 b8 b9 b10 b11
  cases e
  have ha0:nv a0 < pN:=hp _ (by simp)
  have ha1:nv a1 < pN:=hp _ (by simp)
  have ha2:nv a2 < pN:=hp _ (by simp)
  have ha3:nv a3 < pN:=hp _ (by simp)
  have ha4:nv a4 < pN:=hp _ (by simp)
  have ha5:nv a5 < pN:=hp _ (by simp)
  have ha6:nv a6 < pN:=hp _ (by simp)
  have ha7:nv a7 < pN:=hp _ (by simp)
  have ha8:nv a8 < pN:=hp _ (by simp)
  have ha9:nv a9 < pN:=hp _ (by simp)
  have ha10:nv a10 < pN:=hp _ (by simp)
  have ha11:nv a11 < pN:=hp _ (by simp)
  have hb0:nv b0 < pN:=hp _ (by simp)
  have hb1:nv b1 < pN:=hp _ (by simp)
  have hb2:nv b2 < pN:=hp _ (by simp)
  have hb3:nv b3 < pN:=hp _ (by simp)
  have hb4:nv b4 < pN:=hp _ (by simp)
  have hb5:nv b5 < pN:=hp _ (by simp)
  have hb6:nv b6 < pN:=hp _ (by simp)
  have hb7:nv b7 < pN:=hp _ (by simp)
  have hb8:nv b8 < pN:=hp _ (by simp)
  have hb9:nv b9 < pN:=hp _ (by simp)
  have hb10:nv b10 < pN:=hp _ (by simp)
  have hb11:nv b11 < pN:=hp _ (by simp)
  have hlo:(S6.add (D6 (S6.mul (d6 a0 a1 a4 a5 a8 a9) (d6 b0 b1 b4 b5 b8 b9))) (D6 (S6.next (D6 (S6.mul (d6 a2 a3 a6 a7 a10 a11) (d6 b2 b3 b6 b7 b10 b11)))))) = (S12.mul (d12 a0 a1 a2 a3 a4 a5 a6 a7 a8 a9 a10 a11) (d12 b0 b1 b2 b3 b4 b5 b6 b7 b8 b9 b10 b11)).p:=by simp only [D6_eq];rfl
  have hhi:(S6.sub (D6 (S6.sub (D6 (S6.mul (D6 (S6.add (d6 a0 a1 a4 a5 a8 a9) (d6 a2 a3 a6 a7 a10 a11))) (D6 (S6.add (d6 b0 b1 b4 b5 b8 b9) (d6 b2 b3 b6 b7 b10 b11))))) (D6 (S6.mul (d6 a0 a1 a4 a5 a8 a9) (d6 b0 b1 b4 b5 b8 b9))))) (D6 (S6.mul (d6 a2 a3 a6 a7 a10 a11) (d6 b2 b3 b6 b7 b10 b11)))) = (S12.mul (d12 a0 a1 a2 a3 a4 a5 a6 a7 a8 a9 a10 a11) (d12 b0 b1 b2 b3 b4 b5 b6 b7 b8 b9 b10 b11)).q:=by simp only [D6_eq];exact S6.kar _ _ _ _
  refine pWk tK Tryz.func60 (by kernel_rfl) (by kernel_rfl) (by rfl) (by rfl) ?_
  refine eSq mxd tK GMl_ok 60 [] ?_
  refine same (p:=nv a0 < pN/\lp a1/\lp a4/\lp a5/\lp a8/\lp a9/\lp b0/\lp b1/\lp b4/\lp b5/\lp b8/\lp b9/\lp a2/\lp a3/\lp a6/\lp a7/\lp a10/\lp a11/\lp b2/\lp b3/\lp b6/\lp b7/\lp b10/\lp b11/\lp a0/\lp a1/\lp a4/\lp a5/\lp a8/\lp a9/\lp a2/\lp a3/\lp a6/\lp a7/\lp a10/\lp a11/\lp b0/\lp b1/\lp b4/\lp b5/\lp b8/\lp b9/\lp b2/\lp b3/\lp b6/\lp b7/\lp b10/\lp b11/\lp (eF (S6.add (d6 a0 a1 a4 a5 a8 a9) (d6 a2 a3 a6 a7 a10 a11)).u.x)/\lp (eF (S6.add (d6 a0 a1 a4 a5 a8 a9) (d6 a2 a3 a6 a7 a10 a11)).u.y)/\lp (eF (S6.add (d6 a0 a1 a4 a5 a8 a9) (d6 a2 a3 a6 a7 a10 a11)).v.x)/\lp (eF (S6.add (d6 a0 a1 a4 a5 a8 a9) (d6 a2 a3 a6 a7 a10 a11)).v.y)/\lp (eF (S6.add (d6 a0 a1 a4 a5 a8 a9) (d6 a2 a3 a6 a7 a10 a11)).w.x)/\lp (eF (S6.add (d6 a0 a1 a4 a5 a8 a9) (d6 a2 a3 a6 a7 a10 a11)).w.y)/\lp (eF (S6.add (d6 b0 b1 b4 b5 b8 b9) (d6 b2 b3 b6 b7 b10 b11)).u.x)/\lp (eF (S6.add (d6 b0 b1 b4 b5 b8 b9) (d6 b2 b3 b6 b7 b10 b11)).u.y)/\lp (eF (S6.add (d6 b0 b1 b4 b5 b8 b9) (d6 b2 b3 b6 b7 b10 b11)).v.x)/\lp (eF (S6.add (d6 b0 b1 b4 b5 b8 b9) (d6 b2 b3 b6 b7 b10 b11)).v.y)/\lp (eF (S6.add (d6 b0 b1 b4 b5 b8 b9) (d6 b2 b3 b6 b7 b10 b11)).w.x)/\lp (eF (S6.add (d6 b0 b1 b4 b5 b8 b9) (d6 b2 b3 b6 b7 b10 b11)).w.y)/\lp (eF (S6.mul (d6 a2 a3 a6 a7 a10 a11) (d6 b2 b3 b6 b7 b10 b11)).u.x)/\lp (eF (S6.mul (d6 a2 a3 a6 a7 a10 a11) (d6 b2 b3 b6 b7 b10 b11)).u.y)/\lp (eF (S6.mul (d6 a2 a3 a6 a7 a10 a11) (d6 b2 b3 b6 b7 b10 b11)).v.x)/\lp (eF (S6.mul (d6 a2 a3 a6 a7 a10 a11) (d6 b2 b3 b6 b7 b10 b11)).v.y)/\lp (eF (S6.mul (d6 a2 a3 a6 a7 a10 a11) (d6 b2 b3 b6 b7 b10 b11)).w.x)/\lp (eF (S6.mul (d6 a2 a3 a6 a7 a10 a11) (d6 b2 b3 b6 b7 b10 b11)).w.y)/\lp (eF (S6.mul (d6 a0 a1 a4 a5 a8 a9) (d6 b0 b1 b4 b5 b8 b9)).u.x)/\lp (eF (S6.mul (d6 a0 a1 a4 a5 a8 a9) (d6 b0 b1 b4 b5 b8 b9)).u.y)/\lp (eF (S6.mul (d6 a0 a1 a4 a5 a8 a9) (d6 b0 b1 b4 b5 b8 b9)).v.x)/\lp (eF (S6.mul (d6 a0 a1 a4 a5 a8 a9) (d6 b0 b1 b4 b5 b8 b9)).v.y)/\lp (eF (S6.mul (d6 a0 a1 a4 a5 a8 a9) (d6 b0 b1 b4 b5 b8 b9)).w.x)/\lp (eF (S6.mul (d6 a0 a1 a4 a5 a8 a9) (d6 b0 b1 b4 b5 b8 b9)).w.y)/\lp (eF (S6.next (D6 (S6.mul (d6 a2 a3 a6 a7 a10 a11) (d6 b2 b3 b6 b7 b10 b11)))).u.x)/\lp (eF (S6.next (D6 (S6.mul (d6 a2 a3 a6 a7 a10 a11) (d6 b2 b3 b6 b7 b10 b11)))).u.y)/\lp (eF (S6.next (D6 (S6.mul (d6 a2 a3 a6 a7 a10 a11) (d6 b2 b3 b6 b7 b10 b11)))).v.x)/\lp (eF (S6.next (D6 (S6.mul (d6 a2 a3 a6 a7 a10 a11) (d6 b2 b3 b6 b7 b10 b11)))).v.y)/\lp (eF (S6.next (D6 (S6.mul (d6 a2 a3 a6 a7 a10 a11) (d6 b2 b3 b6 b7 b10 b11)))).w.x)/\lp (eF (S6.next (D6 (S6.mul (d6 a2 a3 a6 a7 a10 a11) (d6 b2 b3 b6 b7 b10 b11)))).w.y)/\lp (eF (S6.mul (D6 (S6.add (d6 a0 a1 a4 a5 a8 a9) (d6 a2 a3 a6 a7 a10 a11))) (D6 (S6.add (d6 b0 b1 b4 b5 b8 b9) (d6 b2 b3 b6 b7 b10 b11)))).u.x)/\lp (eF (S6.mul (D6 (S6.add (d6 a0 a1 a4 a5 a8 a9) (d6 a2 a3 a6 a7 a10 a11))) (D6 (S6.add (d6 b0 b1 b4 b5 b8 b9) (d6 b2 b3 b6 b7 b10 b11)))).u.y)/\lp (eF (S6.mul (D6 (S6.add (d6 a0 a1 a4 a5 a8 a9) (d6 a2 a3 a6 a7 a10 a11))) (D6 (S6.add (d6 b0 b1 b4 b5 b8 b9) (d6 b2 b3 b6 b7 b10 b11)))).v.x)/\lp (eF (S6.mul (D6 (S6.add (d6 a0 a1 a4 a5 a8 a9) (d6 a2 a3 a6 a7 a10 a11))) (D6 (S6.add (d6 b0 b1 b4 b5 b8 b9) (d6 b2 b3 b6 b7 b10 b11)))).v.y)/\lp (eF (S6.mul (D6 (S6.add (d6 a0 a1 a4 a5 a8 a9) (d6 a2 a3 a6 a7 a10 a11))) (D6 (S6.add (d6 b0 b1 b4 b5 b8 b9) (d6 b2 b3 b6 b7 b10 b11)))).w.x)/\lp (eF (S6.mul (D6 (S6.add (d6 a0 a1 a4 a5 a8 a9) (d6 a2 a3 a6 a7 a10 a11))) (D6 (S6.add (d6 b0 b1 b4 b5 b8 b9) (d6 b2 b3 b6 b7 b10 b11)))).w.y)/\lp (eF (S6.mul (d6 a0 a1 a4 a5 a8 a9) (d6 b0 b1 b4 b5 b8 b9)).u.x)/\lp (eF (S6.mul (d6 a0 a1 a4 a5 a8 a9) (d6 b0 b1 b4 b5 b8 b9)).u.y)/\lp (eF (S6.mul (d6 a0 a1 a4 a5 a8 a9) (d6 b0 b1 b4 b5 b8 b9)).v.x)/\lp (eF (S6.mul (d6 a0 a1 a4 a5 a8 a9) (d6 b0 b1 b4 b5 b8 b9)).v.y)/\lp (eF (S6.mul (d6 a0 a1 a4 a5 a8 a9) (d6 b0 b1 b4 b5 b8 b9)).w.x)/\lp (eF (S6.mul (d6 a0 a1 a4 a5 a8 a9) (d6 b0 b1 b4 b5 b8 b9)).w.y)/\nv (eF (S6.sub (D6 (S6.mul (D6 (S6.add (d6 a0 a1 a4 a5 a8 a9) (d6 a2 a3 a6 a7 a10 a11))) (D6 (S6.add (d6 b0 b1 b4 b5 b8 b9) (d6 b2 b3 b6 b7 b10 b11))))) (D6 (S6.mul (d6 a0 a1 a4 a5 a8 a9) (d6 b0 b1 b4 b5 b8 b9)))).u.x) < pN/\nv (eF (S6.sub (D6 (S6.mul (D6 (S6.add (d6 a0 a1 a4 a5 a8 a9) (d6 a2 a3 a6 a7 a10 a11))) (D6 (S6.add (d6 b0 b1 b4 b5 b8 b9) (d6 b2 b3 b6 b7 b10 b11))))) (D6 (S6.mul (d6 a0 a1 a4 a5 a8 a9) (d6 b0 b1 b4 b5 b8 b9)))).u.y) < pN/\nv (eF (S6.sub (D6 (S6.mul (D6 (S6.add (d6 a0 a1 a4 a5 a8 a9) (d6 a2 a3 a6 a7 a10 a11))) (D6 (S6.add (d6 b0 b1 b4 b5 b8 b9) (d6 b2 b3 b6 b7 b10 b11))))) (D6 (S6.mul (d6 a0 a1 a4 a5 a8 a9) (d6 b0 b1 b4 b5 b8 b9)))).v.x) < pN/\nv (eF (S6.sub (D6 (S6.mul (D6 (S6.add (d6 a0 a1 a4 a5 a8 a9) (d6 a2 a3 a6 a7 a10 a11))) (D6 (S6.add (d6 b0 b1 b4 b5 b8 b9) (d6 b2 b3 b6 b7 b10 b11))))) (D6 (S6.mul (d6 a0 a1 a4 a5 a8 a9) (d6 b0 b1 b4 b5 b8 b9)))).v.y) < pN/\nv (eF (S6.sub (D6 (S6.mul (D6 (S6.add (d6 a0 a1 a4 a5 a8 a9) (d6 a2 a3 a6 a7 a10 a11))) (D6 (S6.add (d6 b0 b1 b4 b5 b8 b9) (d6 b2 b3 b6 b7 b10 b11))))) (D6 (S6.mul (d6 a0 a1 a4 a5 a8 a9) (d6 b0 b1 b4 b5 b8 b9)))).w.x) < pN/\nv (eF (S6.sub (D6 (S6.mul (D6 (S6.add (d6 a0 a1 a4 a5 a8 a9) (d6 a2 a3 a6 a7 a10 a11))) (D6 (S6.add (d6 b0 b1 b4 b5 b8 b9) (d6 b2 b3 b6 b7 b10 b11))))) (D6 (S6.mul (d6 a0 a1 a4 a5 a8 a9) (d6 b0 b1 b4 b5 b8 b9)))).w.y) < pN/\lp (eF (S6.mul (d6 a2 a3 a6 a7 a10 a11) (d6 b2 b3 b6 b7 b10 b11)).u.x)/\lp (eF (S6.mul (d6 a2 a3 a6 a7 a10 a11) (d6 b2 b3 b6 b7 b10 b11)).u.y)/\lp (eF (S6.mul (d6 a2 a3 a6 a7 a10 a11) (d6 b2 b3 b6 b7 b10 b11)).v.x)/\lp (eF (S6.mul (d6 a2 a3 a6 a7 a10 a11) (d6 b2 b3 b6 b7 b10 b11)).v.y)/\lp (eF (S6.mul (d6 a2 a3 a6 a7 a10 a11) (d6 b2 b3 b6 b7 b10 b11)).w.x)/\lp (eF (S6.mul (d6 a2 a3 a6 a7 a10 a11) (d6 b2 b3 b6 b7 b10 b11)).w.y)/\endN (.v1 (v12 (eF (S6.add (D6 (S6.mul (d6 a0 a1 a4 a5 a8 a9) (d6 b0 b1 b4 b5 b8 b9))) (D6 (S6.next (D6 (S6.mul (d6 a2 a3 a6 a7 a10 a11) (d6 b2 b3 b6 b7 b10 b11)))))).u.x) (eF (S6.add (D6 (S6.mul (d6 a0 a1 a4 a5 a8 a9) (d6 b0 b1 b4 b5 b8 b9))) (D6 (S6.next (D6 (S6.mul (d6 a2 a3 a6 a7 a10 a11) (d6 b2 b3 b6 b7 b10 b11)))))).u.y) (eF (S6.sub (D6 (S6.sub (D6 (S6.mul (D6 (S6.add (d6 a0 a1 a4 a5 a8 a9) (d6 a2 a3 a6 a7 a10 a11))) (D6 (S6.add (d6 b0 b1 b4 b5 b8 b9) (d6 b2 b3 b6 b7 b10 b11))))) (D6 (S6.mul (d6 a0 a1 a4 a5 a8 a9) (d6 b0 b1 b4 b5 b8 b9))))) (D6 (S6.mul (d6 a2 a3 a6 a7 a10 a11) (d6 b2 b3 b6 b7 b10 b11)))).u.x) (eF (S6.sub (D6 (S6.sub (D6 (S6.mul (D6 (S6.add (d6 a0 a1 a4 a5 a8 a9) (d6 a2 a3 a6 a7 a10 a11))) (D6 (S6.add (d6 b0 b1 b4 b5 b8 b9) (d6 b2 b3 b6 b7 b10 b11))))) (D6 (S6.mul (d6 a0 a1 a4 a5 a8 a9) (d6 b0 b1 b4 b5 b8 b9))))) (D6 (S6.mul (d6 a2 a3 a6 a7 a10 a11) (d6 b2 b3 b6 b7 b10 b11)))).u.y) (eF (S6.add (D6 (S6.mul (d6 a0 a1 a4 a5 a8 a9) (d6 b0 b1 b4 b5 b8 b9))) (D6 (S6.next (D6 (S6.mul (d6 a2 a3 a6 a7 a10 a11) (d6 b2 b3 b6 b7 b10 b11)))))).v.x) (eF (S6.add (D6 (S6.mul (d6 a0 a1 a4 a5 a8 a9) (d6 b0 b1 b4 b5 b8 b9))) (D6 (S6.next (D6 (S6.mul (d6 a2 a3 a6 a7 a10 a11) (d6 b2 b3 b6 b7 b10 b11)))))).v.y) (eF (S6.sub (D6 (S6.sub (D6 (S6.mul (D6 (S6.add (d6 a0 a1 a4 a5 a8 a9) (d6 a2 a3 a6 a7 a10 a11))) (D6 (S6.add (d6 b0 b1 b4 b5 b8 b9) (d6 b2 b3 b6 b7 b10 b11))))) (D6 (S6.mul (d6 a0 a1 a4 a5 a8 a9) (d6 b0 b1 b4 b5 b8 b9))))) (D6 (S6.mul (d6 a2 a3 a6 a7 a10 a11) (d6 b2 b3 b6 b7 b10 b11)))).v.x) (eF (S6.sub (D6 (S6.sub (D6 (S6.mul (D6 (S6.add (d6 a0 a1 a4 a5 a8 a9) (d6 a2 a3 a6 a7 a10 a11))) (D6 (S6.add (d6 b0 b1 b4 b5 b8 b9) (d6 b2 b3 b6 b7 b10 b11))))) (D6 (S6.mul (d6 a0 a1 a4 a5 a8 a9) (d6 b0 b1 b4 b5 b8 b9))))) (D6 (S6.mul (d6 a2 a3 a6 a7 a10 a11) (d6 b2 b3 b6 b7 b10 b11)))).v.y) (eF (S6.add (D6 (S6.mul (d6 a0 a1 a4 a5 a8 a9) (d6 b0 b1 b4 b5 b8 b9))) (D6 (S6.next (D6 (S6.mul (d6 a2 a3 a6 a7 a10 a11) (d6 b2 b3 b6 b7 b10 b11)))))).w.x) (eF (S6.add (D6 (S6.mul (d6 a0 a1 a4 a5 a8 a9) (d6 b0 b1 b4 b5 b8 b9))) (D6 (S6.next (D6 (S6.mul (d6 a2 a3 a6 a7 a10 a11) (d6 b2 b3 b6 b7 b10 b11)))))).w.y) (eF (S6.sub (D6 (S6.sub (D6 (S6.mul (D6 (S6.add (d6 a0 a1 a4 a5 a8 a9) (d6 a2 a3 a6 a7 a10 a11))) (D6 (S6.add (d6 b0 b1 b4 b5 b8 b9) (d6 b2 b3 b6 b7 b10 b11))))) (D6 (S6.mul (d6 a0 a1 a4 a5 a8 a9) (d6 b0 b1 b4 b5 b8 b9))))) (D6 (S6.mul (d6 a2 a3 a6 a7 a10 a11) (d6 b2 b3 b6 b7 b10 b11)))).w.x) (eF (S6.sub (D6 (S6.sub (D6 (S6.mul (D6 (S6.add (d6 a0 a1 a4 a5 a8 a9) (d6 a2 a3 a6 a7 a10 a11))) (D6 (S6.add (d6 b0 b1 b4 b5 b8 b9) (d6 b2 b3 b6 b7 b10 b11))))) (D6 (S6.mul (d6 a0 a1 a4 a5 a8 a9) (d6 b0 b1 b4 b5 b8 b9))))) (D6 (S6.mul (d6 a2 a3 a6 a7 a10 a11) (d6 b2 b3 b6 b7 b10 b11)))).w.y))) (.v1 (e12 (S12.mul (d12 a0 a1 a2 a3 a4 a5 a6 a7 a8 a9 a10 a11) (d12 b0 b1 b2 b3 b4 b5 b6 b7 b8 b9 b10 b11))))) ?_ (by kernel_rfl)
  exact ⟨ha0,ha1,ha4,ha5,ha8,ha9,hb0,hb1,hb4,hb5,hb8,hb9,ha2,ha3,ha6,ha7,ha10,ha11,hb2,hb3,hb6,hb7,hb10,hb11,ha0,ha1,ha4,ha5,ha8,ha9,ha2,ha3,ha6,ha7,ha10,ha11,hb0,hb1,hb4,hb5,hb8,hb9,hb2,hb3,hb6,hb7,hb10,hb11,lE _,lE _,lE _,lE _,lE _,lE _,lE _,lE _,lE _,lE _,lE _,lE _,lE _,lE _,lE _,lE _,lE _,lE _,lE _,lE _,lE _,lE _,lE _,lE _,lE _,lE _,lE _,lE _,lE _,lE _,lE _,lE _,lE _,lE _,lE _,lE _,lE _,lE _,lE _,lE _,lE _,lE _,lE _,lE _,lE _,lE _,lE _,lE _,lE _,lE _,lE _,lE _,lE _,lE _,_,rfl,v12_val (nvE (by rw [hlo])) (nvE (by rw [hlo])) (nvE (by rw [hhi])) (nvE (by rw [hhi])) (nvE (by rw [hlo])) (nvE (by rw [hlo])) (nvE (by rw [hhi])) (nvE (by rw [hhi])) (nvE (by rw [hlo])) (nvE (by rw [hlo])) (nvE (by rw [hhi])) (nvE (by rw [hhi]))⟩
 ·cases e
def cTo12:List AV->Option (List Prop × AV)
 | [.v1 (.agg [.ws .u64 6 a0,.ws .u64 6 a1,.ws .u64 6 a2,.ws .u64 6 a3,.ws .u64 6 a4,.ws .u64 6 a5,.ws .u64 6 a6,.ws .u64 6 a7,.ws .u64 6 a8,.ws .u64 6 a9,.ws .u64 6 a10,.ws .u64 6 a11])]=>some ([],.v1 (v12 (eF (gN a0)) (eF (gN a1)) (eF (gN a2)) (eF (gN a3)) (eF (gN a4)) (eF (gN a5)) (eF (gN a6)) (eF (gN a7)) (eF (gN a8)) (eF (gN a9)) (eF (gN a10)) (eF (gN a11))))
 | _=>none
def cFrom12:List AV->Option (List Prop × AV)
 | [.v1 (.agg [.ws .u64 6 a0,.ws .u64 6 a1,.ws .u64 6 a2,.ws .u64 6 a3,.ws .u64 6 a4,.ws .u64 6 a5,.ws .u64 6 a6,.ws .u64 6 a7,.ws .u64 6 a8,.ws .u64 6 a9,.ws .u64 6 a10,.ws .u64 6 a11])]=>some ([nv a0 < pN,nv a1 < pN,nv a2 < pN,nv a3 < pN,nv a4 < pN,nv a5 < pN,nv a6 < pN,nv a7 < pN,nv a8 < pN,nv a9 < pN,nv a10 < pN,nv a11 < pN],.v1 (v12 (vF (dF a0)) (vF (dF a1)) (vF (dF a2)) (vF (dF a3)) (vF (dF a4)) (vF (dF a5)) (vF (dF a6)) (vF (dF a7)) (vF (dF a8)) (vF (dF a9)) (vF (dF a10)) (vF (dF a11))))
 | _=>none
def GIo:Ctx:=ctxL [(87,.pure cTo2),(88,.pure cFrom2)]
theorem GIo_ok:CtxOk Tryz.prog GIo:=cxC okTo2 <| cxC okFrom2 cxN
theorem okTo12:(CallC.pure cTo12).Ok Tryz.prog 41:=by
 intro args pre v e _
 unfold cTo12 at e
 split at e
 ·rename_i a0 a1 a2 a3 a4 a5 a6 a7 a8 a9 a10 a11
  cases e
  refine pWk tK Tryz.func41 (by kernel_rfl) (by kernel_rfl) (by rfl) (by rfl) ?_
  refine eSq mxd tK GIo_ok 100 [] ?_
  exact same (p:=endN (.v1 (v12 (eF (gN a0)) (eF (gN a1)) (eF (gN a2)) (eF (gN a3)) (eF (gN a4)) (eF (gN a5)) (eF (gN a6)) (eF (gN a7)) (eF (gN a8)) (eF (gN a9)) (eF (gN a10)) (eF (gN a11)))) (.v1 (v12 (eF (gN a0)) (eF (gN a1)) (eF (gN a2)) (eF (gN a3)) (eF (gN a4)) (eF (gN a5)) (eF (gN a6)) (eF (gN a7)) (eF (gN a8)) (eF (gN a9)) (eF (gN a10)) (eF (gN a11))))) ⟨_,rfl,fun _=>rfl⟩ (by kernel_rfl)
 ·cases e
theorem okFrom12:(CallC.pure cFrom12).Ok Tryz.prog 42:=by
 intro args pre v e hp
 unfold cFrom12 at e
 split at e
 ·rename_i a0 a1 a2 a3 a4 a5 a6 a7 a8 a9 a10 a11
  cases e
  have ha0:nv a0 < pN:=hp _ (by simp)
  have ha1:nv a1 < pN:=hp _ (by simp)
  have ha2:nv a2 < pN:=hp _ (by simp)
  have ha3:nv a3 < pN:=hp _ (by simp)
  have ha4:nv a4 < pN:=hp _ (by simp)
  have ha5:nv a5 < pN:=hp _ (by simp)
  have ha6:nv a6 < pN:=hp _ (by simp)
  have ha7:nv a7 < pN:=hp _ (by simp)
  have ha8:nv a8 < pN:=hp _ (by simp)
  have ha9:nv a9 < pN:=hp _ (by simp)
  have ha10:nv a10 < pN:=hp _ (by simp)
  have ha11:nv a11 < pN:=hp _ (by simp)
  refine pWk tK Tryz.func42 (by kernel_rfl) (by kernel_rfl) (by rfl) (by rfl) ?_
  refine eSq mxd tK GIo_ok 100 [] ?_
  exact same (p:=nv a0 < pN/\nv a1 < pN/\nv a2 < pN/\nv a3 < pN/\nv a4 < pN/\nv a5 < pN/\nv a6 < pN/\nv a7 < pN/\nv a8 < pN/\nv a9 < pN/\nv a10 < pN/\nv a11 < pN/\endN (.v1 (v12 (vF (dF a0)) (vF (dF a1)) (vF (dF a2)) (vF (dF a3)) (vF (dF a4)) (vF (dF a5)) (vF (dF a6)) (vF (dF a7)) (vF (dF a8)) (vF (dF a9)) (vF (dF a10)) (vF (dF a11)))) (.v1 (v12 (vF (dF a0)) (vF (dF a1)) (vF (dF a2)) (vF (dF a3)) (vF (dF a4)) (vF (dF a5)) (vF (dF a6)) (vF (dF a7)) (vF (dF a8)) (vF (dF a9)) (vF (dF a10)) (vF (dF a11))))) ⟨ha0,ha1,ha2,ha3,ha4,ha5,ha6,ha7,ha8,ha9,ha10,ha11,_,rfl,fun _=>rfl⟩ (by kernel_rfl)
 ·cases e
abbrev g12 (a0 a1 a2 a3 a4 a5 a6 a7 a8 a9 a10 a11:Nat->Nat):S12:=⟨⟨⟨gN a0,gN a1⟩,⟨gN a4,gN a5⟩,⟨gN a8,gN a9⟩⟩,⟨⟨gN a2,gN a3⟩,⟨gN a6,gN a7⟩,⟨gN a10,gN a11⟩⟩⟩
abbrev n12 (s:S12):V1:=v12 (vF s.p.u.x) (vF s.p.u.y) (vF s.q.u.x) (vF s.q.u.y) (vF s.p.v.x) (vF s.p.v.y) (vF s.q.v.x) (vF s.q.v.y) (vF s.p.w.x) (vF s.p.w.y) (vF s.q.w.x) (vF s.q.w.y)
abbrev vC12 (s:S12):List Cell:=[.ws .u64 6 (vF s.p.u.x),.ws .u64 6 (vF s.p.u.y),.ws .u64 6 (vF s.q.u.x),.ws .u64 6 (vF s.q.u.y),.ws .u64 6 (vF s.p.v.x),.ws .u64 6 (vF s.p.v.y),.ws .u64 6 (vF s.q.v.x),.ws .u64 6 (vF s.q.v.y),.ws .u64 6 (vF s.p.w.x),.ws .u64 6 (vF s.p.w.y),.ws .u64 6 (vF s.q.w.x),.ws .u64 6 (vF s.q.w.y)]
abbrev eC12 (s:S12):List Cell:=[.ws .u64 6 (eF s.p.u.x),.ws .u64 6 (eF s.p.u.y),.ws .u64 6 (eF s.q.u.x),.ws .u64 6 (eF s.q.u.y),.ws .u64 6 (eF s.p.v.x),.ws .u64 6 (eF s.p.v.y),.ws .u64 6 (eF s.q.v.x),.ws .u64 6 (eF s.q.v.y),.ws .u64 6 (eF s.p.w.x),.ws .u64 6 (eF s.p.w.y),.ws .u64 6 (eF s.q.w.x),.ws .u64 6 (eF s.q.w.y)]
abbrev vL12 (s:S12) (r:Prop):Prop:=nv (vF s.p.u.x) < pN/\nv (vF s.p.u.y) < pN/\nv (vF s.q.u.x) < pN/\nv (vF s.q.u.y) < pN/\nv (vF s.p.v.x) < pN/\nv (vF s.p.v.y) < pN/\nv (vF s.q.v.x) < pN/\nv (vF s.q.v.y) < pN/\nv (vF s.p.w.x) < pN/\nv (vF s.p.w.y) < pN/\nv (vF s.q.w.x) < pN/\nv (vF s.q.w.y) < pN/\r
abbrev eL12 (s:S12) (r:Prop):Prop:=nv (eF s.p.u.x) < pN/\nv (eF s.p.u.y) < pN/\nv (eF s.q.u.x) < pN/\nv (eF s.q.u.y) < pN/\nv (eF s.p.v.x) < pN/\nv (eF s.p.v.y) < pN/\nv (eF s.q.v.x) < pN/\nv (eF s.q.v.y) < pN/\nv (eF s.p.w.x) < pN/\nv (eF s.p.w.y) < pN/\nv (eF s.q.w.x) < pN/\nv (eF s.q.w.y) < pN/\r
abbrev g12v (s:S12):S12:=g12 (vF s.p.u.x) (vF s.p.u.y) (vF s.q.u.x) (vF s.q.u.y) (vF s.p.v.x) (vF s.p.v.y) (vF s.q.v.x) (vF s.q.v.y) (vF s.p.w.x) (vF s.p.w.y) (vF s.q.w.x) (vF s.q.w.y)
abbrev d12e (s:S12):S12:=d12 (eF s.p.u.x) (eF s.p.u.y) (eF s.q.u.x) (eF s.q.u.y) (eF s.p.v.x) (eF s.p.v.y) (eF s.q.v.x) (eF s.q.v.y) (eF s.p.w.x) (eF s.p.w.y) (eF s.q.w.x) (eF s.q.w.y)
def F2p.inv (a:F2p):F2p:=⟨inv2x a.x a.y,inv2y a.x a.y⟩
theorem r_upx {a b:Nat->Nat} {X:F2p} (h0:dF a = X.x) (h1:dF b = X.y):dF (eF (upx (dF a) (dF b))) = (xi X).x:=by rw [qE,h0,h1];rfl
theorem r_upy {a b:Nat->Nat} {X:F2p} (h0:dF a = X.x) (h1:dF b = X.y):dF (eF (upy (dF a) (dF b))) = (xi X).y:=by rw [qE,h0,h1];rfl
theorem r_invx {a b:Nat->Nat} {X:F2p} (h0:dF a = X.x) (h1:dF b = X.y):dF (eF (inv2x (dF a) (dF b))) = (F2p.inv X).x:=by rw [qE,h0,h1];rfl
theorem r_invy {a b:Nat->Nat} {X:F2p} (h0:dF a = X.x) (h1:dF b = X.y):dF (eF (inv2y (dF a) (dF b))) = (F2p.inv X).y:=by rw [qE,h0,h1];rfl
theorem r_mulx {a b c d:Nat->Nat} {X Y:F2p} (h0:dF a = X.x) (h1:dF b = X.y) (h2:dF c = Y.x) (h3:dF d = Y.y):dF (eF (mul2x (dF a) (dF b) (dF c) (dF d))) = (X * Y).x:=by rw [qE,h0,h1,h2,h3];rfl
theorem r_muly {a b c d:Nat->Nat} {X Y:F2p} (h0:dF a = X.x) (h1:dF b = X.y) (h2:dF c = Y.x) (h3:dF d = Y.y):dF (eF (mul2y (dF a) (dF b) (dF c) (dF d))) = (X * Y).y:=by rw [qE,h0,h1,h2,h3];rfl
theorem r_addx {a b c d:Nat->Nat} {X Y:F2p} (h0:dF a = X.x) (_:dF b = X.y) (h2:dF c = Y.x) (_:dF d = Y.y):dF (eF (add2x (dF a) (dF b) (dF c) (dF d))) = (X + Y).x:=by rw [qE];unfold add2x;rw [h0,h2];rfl
theorem r_addy {a b c d:Nat->Nat} {X Y:F2p} (_:dF a = X.x) (h1:dF b = X.y) (_:dF c = Y.x) (h3:dF d = Y.y):dF (eF (add2y (dF a) (dF b) (dF c) (dF d))) = (X + Y).y:=by rw [qE];unfold add2y;rw [h1,h3];rfl
theorem r_subx {a b c d:Nat->Nat} {X Y:F2p} (h0:dF a = X.x) (_:dF b = X.y) (h2:dF c = Y.x) (_:dF d = Y.y):dF (eF (sub2x (dF a) (dF b) (dF c) (dF d))) = (X - Y).x:=by rw [qE];unfold sub2x;rw [h0,h2];rfl
theorem r_suby {a b c d:Nat->Nat} {X Y:F2p} (_:dF a = X.x) (h1:dF b = X.y) (_:dF c = Y.x) (h3:dF d = Y.y):dF (eF (sub2y (dF a) (dF b) (dF c) (dF d))) = (X - Y).y:=by rw [qE];unfold sub2y;rw [h1,h3];rfl
theorem nv_of {a:Nat->Nat} {x:Fp} (h:nv a < pN) (e:dF a = x):nv a = nv (eF x):=by rw [<-e,eF_dF h]
def iv1 (z:S6):F2p:=z.u * z.u
abbrev iv1x (a0 a1 a2 a3 a4 a5:Nat->Nat):Nat->Nat:=eF (mul2x (dF a0) (dF a1) (dF a0) (dF a1))
abbrev iv1y (a0 a1 a2 a3 a4 a5:Nat->Nat):Nat->Nat:=eF (mul2y (dF a0) (dF a1) (dF a0) (dF a1))
theorem iv1x_d (a0 a1 a2 a3 a4 a5:Nat->Nat):dF (iv1x a0 a1 a2 a3 a4 a5) = (iv1 (d6 a0 a1 a2 a3 a4 a5)).x:=r_mulx rfl rfl rfl rfl
theorem iv1y_d (a0 a1 a2 a3 a4 a5:Nat->Nat):dF (iv1y a0 a1 a2 a3 a4 a5) = (iv1 (d6 a0 a1 a2 a3 a4 a5)).y:=r_muly rfl rfl rfl rfl
def iv2 (z:S6):F2p:=z.v * z.w
abbrev iv2x (a0 a1 a2 a3 a4 a5:Nat->Nat):Nat->Nat:=eF (mul2x (dF a2) (dF a3) (dF a4) (dF a5))
abbrev iv2y (a0 a1 a2 a3 a4 a5:Nat->Nat):Nat->Nat:=eF (mul2y (dF a2) (dF a3) (dF a4) (dF a5))
theorem iv2x_d (a0 a1 a2 a3 a4 a5:Nat->Nat):dF (iv2x a0 a1 a2 a3 a4 a5) = (iv2 (d6 a0 a1 a2 a3 a4 a5)).x:=r_mulx rfl rfl rfl rfl
theorem iv2y_d (a0 a1 a2 a3 a4 a5:Nat->Nat):dF (iv2y a0 a1 a2 a3 a4 a5) = (iv2 (d6 a0 a1 a2 a3 a4 a5)).y:=r_muly rfl rfl rfl rfl
def iv3 (z:S6):F2p:=xi (iv2 z)
abbrev iv3x (a0 a1 a2 a3 a4 a5:Nat->Nat):Nat->Nat:=eF (upx (dF (iv2x a0 a1 a2 a3 a4 a5)) (dF (iv2y a0 a1 a2 a3 a4 a5)))
abbrev iv3y (a0 a1 a2 a3 a4 a5:Nat->Nat):Nat->Nat:=eF (upy (dF (iv2x a0 a1 a2 a3 a4 a5)) (dF (iv2y a0 a1 a2 a3 a4 a5)))
theorem iv3x_d (a0 a1 a2 a3 a4 a5:Nat->Nat):dF (iv3x a0 a1 a2 a3 a4 a5) = (iv3 (d6 a0 a1 a2 a3 a4 a5)).x:=r_upx (iv2x_d a0 a1 a2 a3 a4 a5) (iv2y_d a0 a1 a2 a3 a4 a5)
theorem iv3y_d (a0 a1 a2 a3 a4 a5:Nat->Nat):dF (iv3y a0 a1 a2 a3 a4 a5) = (iv3 (d6 a0 a1 a2 a3 a4 a5)).y:=r_upy (iv2x_d a0 a1 a2 a3 a4 a5) (iv2y_d a0 a1 a2 a3 a4 a5)
def iv4 (z:S6):F2p:=(iv1 z) - (iv3 z)
abbrev iv4x (a0 a1 a2 a3 a4 a5:Nat->Nat):Nat->Nat:=eF (sub2x (dF (iv1x a0 a1 a2 a3 a4 a5)) (dF (iv1y a0 a1 a2 a3 a4 a5)) (dF (iv3x a0 a1 a2 a3 a4 a5)) (dF (iv3y a0 a1 a2 a3 a4 a5)))
abbrev iv4y (a0 a1 a2 a3 a4 a5:Nat->Nat):Nat->Nat:=eF (sub2y (dF (iv1x a0 a1 a2 a3 a4 a5)) (dF (iv1y a0 a1 a2 a3 a4 a5)) (dF (iv3x a0 a1 a2 a3 a4 a5)) (dF (iv3y a0 a1 a2 a3 a4 a5)))
theorem iv4x_d (a0 a1 a2 a3 a4 a5:Nat->Nat):dF (iv4x a0 a1 a2 a3 a4 a5) = (iv4 (d6 a0 a1 a2 a3 a4 a5)).x:=r_subx (iv1x_d a0 a1 a2 a3 a4 a5) (iv1y_d a0 a1 a2 a3 a4 a5) (iv3x_d a0 a1 a2 a3 a4 a5) (iv3y_d a0 a1 a2 a3 a4 a5)
theorem iv4y_d (a0 a1 a2 a3 a4 a5:Nat->Nat):dF (iv4y a0 a1 a2 a3 a4 a5) = (iv4 (d6 a0 a1 a2 a3 a4 a5)).y:=r_suby (iv1x_d a0 a1 a2 a3 a4 a5) (iv1y_d a0 a1 a2 a3 a4 a5) (iv3x_d a0 a1 a2 a3 a4 a5) (iv3y_d a0 a1 a2 a3 a4 a5)
def iv5 (z:S6):F2p:=z.w * z.w
abbrev iv5x (a0 a1 a2 a3 a4 a5:Nat->Nat):Nat->Nat:=eF (mul2x (dF a4) (dF a5) (dF a4) (dF a5))
abbrev iv5y (a0 a1 a2 a3 a4 a5:Nat->Nat):Nat->Nat:=eF (mul2y (dF a4) (dF a5) (dF a4) (dF a5))
theorem iv5x_d (a0 a1 a2 a3 a4 a5:Nat->Nat):dF (iv5x a0 a1 a2 a3 a4 a5) = (iv5 (d6 a0 a1 a2 a3 a4 a5)).x:=r_mulx rfl rfl rfl rfl
theorem iv5y_d (a0 a1 a2 a3 a4 a5:Nat->Nat):dF (iv5y a0 a1 a2 a3 a4 a5) = (iv5 (d6 a0 a1 a2 a3 a4 a5)).y:=r_muly rfl rfl rfl rfl
def iv6 (z:S6):F2p:=xi (iv5 z)
abbrev iv6x (a0 a1 a2 a3 a4 a5:Nat->Nat):Nat->Nat:=eF (upx (dF (iv5x a0 a1 a2 a3 a4 a5)) (dF (iv5y a0 a1 a2 a3 a4 a5)))
abbrev iv6y (a0 a1 a2 a3 a4 a5:Nat->Nat):Nat->Nat:=eF (upy (dF (iv5x a0 a1 a2 a3 a4 a5)) (dF (iv5y a0 a1 a2 a3 a4 a5)))
theorem iv6x_d (a0 a1 a2 a3 a4 a5:Nat->Nat):dF (iv6x a0 a1 a2 a3 a4 a5) = (iv6 (d6 a0 a1 a2 a3 a4 a5)).x:=r_upx (iv5x_d a0 a1 a2 a3 a4 a5) (iv5y_d a0 a1 a2 a3 a4 a5)
theorem iv6y_d (a0 a1 a2 a3 a4 a5:Nat->Nat):dF (iv6y a0 a1 a2 a3 a4 a5) = (iv6 (d6 a0 a1 a2 a3 a4 a5)).y:=r_upy (iv5x_d a0 a1 a2 a3 a4 a5) (iv5y_d a0 a1 a2 a3 a4 a5)
def iv7 (z:S6):F2p:=z.u * z.v
abbrev iv7x (a0 a1 a2 a3 a4 a5:Nat->Nat):Nat->Nat:=eF (mul2x (dF a0) (dF a1) (dF a2) (dF a3))
abbrev iv7y (a0 a1 a2 a3 a4 a5:Nat->Nat):Nat->Nat:=eF (mul2y (dF a0) (dF a1) (dF a2) (dF a3))
theorem iv7x_d (a0 a1 a2 a3 a4 a5:Nat->Nat):dF (iv7x a0 a1 a2 a3 a4 a5) = (iv7 (d6 a0 a1 a2 a3 a4 a5)).x:=r_mulx rfl rfl rfl rfl
theorem iv7y_d (a0 a1 a2 a3 a4 a5:Nat->Nat):dF (iv7y a0 a1 a2 a3 a4 a5) = (iv7 (d6 a0 a1 a2 a3 a4 a5)).y:=r_muly rfl rfl rfl rfl
def iv8 (z:S6):F2p:=(iv6 z) - (iv7 z)
abbrev iv8x (a0 a1 a2 a3 a4 a5:Nat->Nat):Nat->Nat:=eF (sub2x (dF (iv6x a0 a1 a2 a3 a4 a5)) (dF (iv6y a0 a1 a2 a3 a4 a5)) (dF (iv7x a0 a1 a2 a3 a4 a5)) (dF (iv7y a0 a1 a2 a3 a4 a5)))
abbrev iv8y (a0 a1 a2 a3 a4 a5:Nat->Nat):Nat->Nat:=eF (sub2y (dF (iv6x a0 a1 a2 a3 a4 a5)) (dF (iv6y a0 a1 a2 a3 a4 a5)) (dF (iv7x a0 a1 a2 a3 a4 a5)) (dF (iv7y a0 a1 a2 a3 a4 a5)))
theorem iv8x_d (a0 a1 a2 a3 a4 a5:Nat->Nat):dF (iv8x a0 a1 a2 a3 a4 a5) = (iv8 (d6 a0 a1 a2 a3 a4 a5)).x:=r_subx (iv6x_d a0 a1 a2 a3 a4 a5) (iv6y_d a0 a1 a2 a3 a4 a5) (iv7x_d a0 a1 a2 a3 a4 a5) (iv7y_d a0 a1 a2 a3 a4 a5)
theorem iv8y_d (a0 a1 a2 a3 a4 a5:Nat->Nat):dF (iv8y a0 a1 a2 a3 a4 a5) = (iv8 (d6 a0 a1 a2 a3 a4 a5)).y:=r_suby (iv6x_d a0 a1 a2 a3 a4 a5) (iv6y_d a0 a1 a2 a3 a4 a5) (iv7x_d a0 a1 a2 a3 a4 a5) (iv7y_d a0 a1 a2 a3 a4 a5)
def iv9 (z:S6):F2p:=z.v * z.v
abbrev iv9x (a0 a1 a2 a3 a4 a5:Nat->Nat):Nat->Nat:=eF (mul2x (dF a2) (dF a3) (dF a2) (dF a3))
abbrev iv9y (a0 a1 a2 a3 a4 a5:Nat->Nat):Nat->Nat:=eF (mul2y (dF a2) (dF a3) (dF a2) (dF a3))
theorem iv9x_d (a0 a1 a2 a3 a4 a5:Nat->Nat):dF (iv9x a0 a1 a2 a3 a4 a5) = (iv9 (d6 a0 a1 a2 a3 a4 a5)).x:=r_mulx rfl rfl rfl rfl
theorem iv9y_d (a0 a1 a2 a3 a4 a5:Nat->Nat):dF (iv9y a0 a1 a2 a3 a4 a5) = (iv9 (d6 a0 a1 a2 a3 a4 a5)).y:=r_muly rfl rfl rfl rfl
def iv10 (z:S6):F2p:=z.u * z.w
abbrev iv10x (a0 a1 a2 a3 a4 a5:Nat->Nat):Nat->Nat:=eF (mul2x (dF a0) (dF a1) (dF a4) (dF a5))
abbrev iv10y (a0 a1 a2 a3 a4 a5:Nat->Nat):Nat->Nat:=eF (mul2y (dF a0) (dF a1) (dF a4) (dF a5))
theorem iv10x_d (a0 a1 a2 a3 a4 a5:Nat->Nat):dF (iv10x a0 a1 a2 a3 a4 a5) = (iv10 (d6 a0 a1 a2 a3 a4 a5)).x:=r_mulx rfl rfl rfl rfl
theorem iv10y_d (a0 a1 a2 a3 a4 a5:Nat->Nat):dF (iv10y a0 a1 a2 a3 a4 a5) = (iv10 (d6 a0 a1 a2 a3 a4 a5)).y:=r_muly rfl rfl rfl rfl
def iv11 (z:S6):F2p:=(iv9 z) - (iv10 z)
abbrev iv11x (a0 a1 a2 a3 a4 a5:Nat->Nat):Nat->Nat:=eF (sub2x (dF (iv9x a0 a1 a2 a3 a4 a5)) (dF (iv9y a0 a1 a2 a3 a4 a5)) (dF (iv10x a0 a1 a2 a3 a4 a5)) (dF (iv10y a0 a1 a2 a3 a4 a5)))
abbrev iv11y (a0 a1 a2 a3 a4 a5:Nat->Nat):Nat->Nat:=eF (sub2y (dF (iv9x a0 a1 a2 a3 a4 a5)) (dF (iv9y a0 a1 a2 a3 a4 a5)) (dF (iv10x a0 a1 a2 a3 a4 a5)) (dF (iv10y a0 a1 a2 a3 a4 a5)))
theorem iv11x_d (a0 a1 a2 a3 a4 a5:Nat->Nat):dF (iv11x a0 a1 a2 a3 a4 a5) = (iv11 (d6 a0 a1 a2 a3 a4 a5)).x:=r_subx (iv9x_d a0 a1 a2 a3 a4 a5) (iv9y_d a0 a1 a2 a3 a4 a5) (iv10x_d a0 a1 a2 a3 a4 a5) (iv10y_d a0 a1 a2 a3 a4 a5)
theorem iv11y_d (a0 a1 a2 a3 a4 a5:Nat->Nat):dF (iv11y a0 a1 a2 a3 a4 a5) = (iv11 (d6 a0 a1 a2 a3 a4 a5)).y:=r_suby (iv9x_d a0 a1 a2 a3 a4 a5) (iv9y_d a0 a1 a2 a3 a4 a5) (iv10x_d a0 a1 a2 a3 a4 a5) (iv10y_d a0 a1 a2 a3 a4 a5)
def iv12 (z:S6):F2p:=z.u * (iv4 z)
abbrev iv12x (a0 a1 a2 a3 a4 a5:Nat->Nat):Nat->Nat:=eF (mul2x (dF a0) (dF a1) (dF (iv4x a0 a1 a2 a3 a4 a5)) (dF (iv4y a0 a1 a2 a3 a4 a5)))
abbrev iv12y (a0 a1 a2 a3 a4 a5:Nat->Nat):Nat->Nat:=eF (mul2y (dF a0) (dF a1) (dF (iv4x a0 a1 a2 a3 a4 a5)) (dF (iv4y a0 a1 a2 a3 a4 a5)))
theorem iv12x_d (a0 a1 a2 a3 a4 a5:Nat->Nat):dF (iv12x a0 a1 a2 a3 a4 a5) = (iv12 (d6 a0 a1 a2 a3 a4 a5)).x:=r_mulx rfl rfl (iv4x_d a0 a1 a2 a3 a4 a5) (iv4y_d a0 a1 a2 a3 a4 a5)
theorem iv12y_d (a0 a1 a2 a3 a4 a5:Nat->Nat):dF (iv12y a0 a1 a2 a3 a4 a5) = (iv12 (d6 a0 a1 a2 a3 a4 a5)).y:=r_muly rfl rfl (iv4x_d a0 a1 a2 a3 a4 a5) (iv4y_d a0 a1 a2 a3 a4 a5)
def iv13 (z:S6):F2p:=z.w * (iv8 z)
abbrev iv13x (a0 a1 a2 a3 a4 a5:Nat->Nat):Nat->Nat:=eF (mul2x (dF a4) (dF a5) (dF (iv8x a0 a1 a2 a3 a4 a5)) (dF (iv8y a0 a1 a2 a3 a4 a5)))
abbrev iv13y (a0 a1 a2 a3 a4 a5:Nat->Nat):Nat->Nat:=eF (mul2y (dF a4) (dF a5) (dF (iv8x a0 a1 a2 a3 a4 a5)) (dF (iv8y a0 a1 a2 a3 a4 a5)))
theorem iv13x_d (a0 a1 a2 a3 a4 a5:Nat->Nat):dF (iv13x a0 a1 a2 a3 a4 a5) = (iv13 (d6 a0 a1 a2 a3 a4 a5)).x:=r_mulx rfl rfl (iv8x_d a0 a1 a2 a3 a4 a5) (iv8y_d a0 a1 a2 a3 a4 a5)
theorem iv13y_d (a0 a1 a2 a3 a4 a5:Nat->Nat):dF (iv13y a0 a1 a2 a3 a4 a5) = (iv13 (d6 a0 a1 a2 a3 a4 a5)).y:=r_muly rfl rfl (iv8x_d a0 a1 a2 a3 a4 a5) (iv8y_d a0 a1 a2 a3 a4 a5)
def iv14 (z:S6):F2p:=z.v * (iv11 z)
abbrev iv14x (a0 a1 a2 a3 a4 a5:Nat->Nat):Nat->Nat:=eF (mul2x (dF a2) (dF a3) (dF (iv11x a0 a1 a2 a3 a4 a5)) (dF (iv11y a0 a1 a2 a3 a4 a5)))
abbrev iv14y (a0 a1 a2 a3 a4 a5:Nat->Nat):Nat->Nat:=eF (mul2y (dF a2) (dF a3) (dF (iv11x a0 a1 a2 a3 a4 a5)) (dF (iv11y a0 a1 a2 a3 a4 a5)))
theorem iv14x_d (a0 a1 a2 a3 a4 a5:Nat->Nat):dF (iv14x a0 a1 a2 a3 a4 a5) = (iv14 (d6 a0 a1 a2 a3 a4 a5)).x:=r_mulx rfl rfl (iv11x_d a0 a1 a2 a3 a4 a5) (iv11y_d a0 a1 a2 a3 a4 a5)
theorem iv14y_d (a0 a1 a2 a3 a4 a5:Nat->Nat):dF (iv14y a0 a1 a2 a3 a4 a5) = (iv14 (d6 a0 a1 a2 a3 a4 a5)).y:=r_muly rfl rfl (iv11x_d a0 a1 a2 a3 a4 a5) (iv11y_d a0 a1 a2 a3 a4 a5)
def iv15 (z:S6):F2p:=(iv13 z) + (iv14 z)
abbrev iv15x (a0 a1 a2 a3 a4 a5:Nat->Nat):Nat->Nat:=eF (add2x (dF (iv13x a0 a1 a2 a3 a4 a5)) (dF (iv13y a0 a1 a2 a3 a4 a5)) (dF (iv14x a0 a1 a2 a3 a4 a5)) (dF (iv14y a0 a1 a2 a3 a4 a5)))
abbrev iv15y (a0 a1 a2 a3 a4 a5:Nat->Nat):Nat->Nat:=eF (add2y (dF (iv13x a0 a1 a2 a3 a4 a5)) (dF (iv13y a0 a1 a2 a3 a4 a5)) (dF (iv14x a0 a1 a2 a3 a4 a5)) (dF (iv14y a0 a1 a2 a3 a4 a5)))
theorem iv15x_d (a0 a1 a2 a3 a4 a5:Nat->Nat):dF (iv15x a0 a1 a2 a3 a4 a5) = (iv15 (d6 a0 a1 a2 a3 a4 a5)).x:=r_addx (iv13x_d a0 a1 a2 a3 a4 a5) (iv13y_d a0 a1 a2 a3 a4 a5) (iv14x_d a0 a1 a2 a3 a4 a5) (iv14y_d a0 a1 a2 a3 a4 a5)
theorem iv15y_d (a0 a1 a2 a3 a4 a5:Nat->Nat):dF (iv15y a0 a1 a2 a3 a4 a5) = (iv15 (d6 a0 a1 a2 a3 a4 a5)).y:=r_addy (iv13x_d a0 a1 a2 a3 a4 a5) (iv13y_d a0 a1 a2 a3 a4 a5) (iv14x_d a0 a1 a2 a3 a4 a5) (iv14y_d a0 a1 a2 a3 a4 a5)
def iv16 (z:S6):F2p:=xi (iv15 z)
abbrev iv16x (a0 a1 a2 a3 a4 a5:Nat->Nat):Nat->Nat:=eF (upx (dF (iv15x a0 a1 a2 a3 a4 a5)) (dF (iv15y a0 a1 a2 a3 a4 a5)))
abbrev iv16y (a0 a1 a2 a3 a4 a5:Nat->Nat):Nat->Nat:=eF (upy (dF (iv15x a0 a1 a2 a3 a4 a5)) (dF (iv15y a0 a1 a2 a3 a4 a5)))
theorem iv16x_d (a0 a1 a2 a3 a4 a5:Nat->Nat):dF (iv16x a0 a1 a2 a3 a4 a5) = (iv16 (d6 a0 a1 a2 a3 a4 a5)).x:=r_upx (iv15x_d a0 a1 a2 a3 a4 a5) (iv15y_d a0 a1 a2 a3 a4 a5)
theorem iv16y_d (a0 a1 a2 a3 a4 a5:Nat->Nat):dF (iv16y a0 a1 a2 a3 a4 a5) = (iv16 (d6 a0 a1 a2 a3 a4 a5)).y:=r_upy (iv15x_d a0 a1 a2 a3 a4 a5) (iv15y_d a0 a1 a2 a3 a4 a5)
def iv17 (z:S6):F2p:=(iv12 z) + (iv16 z)
abbrev iv17x (a0 a1 a2 a3 a4 a5:Nat->Nat):Nat->Nat:=eF (add2x (dF (iv12x a0 a1 a2 a3 a4 a5)) (dF (iv12y a0 a1 a2 a3 a4 a5)) (dF (iv16x a0 a1 a2 a3 a4 a5)) (dF (iv16y a0 a1 a2 a3 a4 a5)))
abbrev iv17y (a0 a1 a2 a3 a4 a5:Nat->Nat):Nat->Nat:=eF (add2y (dF (iv12x a0 a1 a2 a3 a4 a5)) (dF (iv12y a0 a1 a2 a3 a4 a5)) (dF (iv16x a0 a1 a2 a3 a4 a5)) (dF (iv16y a0 a1 a2 a3 a4 a5)))
theorem iv17x_d (a0 a1 a2 a3 a4 a5:Nat->Nat):dF (iv17x a0 a1 a2 a3 a4 a5) = (iv17 (d6 a0 a1 a2 a3 a4 a5)).x:=r_addx (iv12x_d a0 a1 a2 a3 a4 a5) (iv12y_d a0 a1 a2 a3 a4 a5) (iv16x_d a0 a1 a2 a3 a4 a5) (iv16y_d a0 a1 a2 a3 a4 a5)
theorem iv17y_d (a0 a1 a2 a3 a4 a5:Nat->Nat):dF (iv17y a0 a1 a2 a3 a4 a5) = (iv17 (d6 a0 a1 a2 a3 a4 a5)).y:=r_addy (iv12x_d a0 a1 a2 a3 a4 a5) (iv12y_d a0 a1 a2 a3 a4 a5) (iv16x_d a0 a1 a2 a3 a4 a5) (iv16y_d a0 a1 a2 a3 a4 a5)
def iv18 (z:S6):F2p:=F2p.inv (iv17 z)
abbrev iv18x (a0 a1 a2 a3 a4 a5:Nat->Nat):Nat->Nat:=eF (inv2x (dF (iv17x a0 a1 a2 a3 a4 a5)) (dF (iv17y a0 a1 a2 a3 a4 a5)))
abbrev iv18y (a0 a1 a2 a3 a4 a5:Nat->Nat):Nat->Nat:=eF (inv2y (dF (iv17x a0 a1 a2 a3 a4 a5)) (dF (iv17y a0 a1 a2 a3 a4 a5)))
theorem iv18x_d (a0 a1 a2 a3 a4 a5:Nat->Nat):dF (iv18x a0 a1 a2 a3 a4 a5) = (iv18 (d6 a0 a1 a2 a3 a4 a5)).x:=r_invx (iv17x_d a0 a1 a2 a3 a4 a5) (iv17y_d a0 a1 a2 a3 a4 a5)
theorem iv18y_d (a0 a1 a2 a3 a4 a5:Nat->Nat):dF (iv18y a0 a1 a2 a3 a4 a5) = (iv18 (d6 a0 a1 a2 a3 a4 a5)).y:=r_invy (iv17x_d a0 a1 a2 a3 a4 a5) (iv17y_d a0 a1 a2 a3 a4 a5)
def iv19 (z:S6):F2p:=(iv4 z) * (iv18 z)
abbrev iv19x (a0 a1 a2 a3 a4 a5:Nat->Nat):Nat->Nat:=eF (mul2x (dF (iv4x a0 a1 a2 a3 a4 a5)) (dF (iv4y a0 a1 a2 a3 a4 a5)) (dF (iv18x a0 a1 a2 a3 a4 a5)) (dF (iv18y a0 a1 a2 a3 a4 a5)))
abbrev iv19y (a0 a1 a2 a3 a4 a5:Nat->Nat):Nat->Nat:=eF (mul2y (dF (iv4x a0 a1 a2 a3 a4 a5)) (dF (iv4y a0 a1 a2 a3 a4 a5)) (dF (iv18x a0 a1 a2 a3 a4 a5)) (dF (iv18y a0 a1 a2 a3 a4 a5)))
theorem iv19x_d (a0 a1 a2 a3 a4 a5:Nat->Nat):dF (iv19x a0 a1 a2 a3 a4 a5) = (iv19 (d6 a0 a1 a2 a3 a4 a5)).x:=r_mulx (iv4x_d a0 a1 a2 a3 a4 a5) (iv4y_d a0 a1 a2 a3 a4 a5) (iv18x_d a0 a1 a2 a3 a4 a5) (iv18y_d a0 a1 a2 a3 a4 a5)
theorem iv19y_d (a0 a1 a2 a3 a4 a5:Nat->Nat):dF (iv19y a0 a1 a2 a3 a4 a5) = (iv19 (d6 a0 a1 a2 a3 a4 a5)).y:=r_muly (iv4x_d a0 a1 a2 a3 a4 a5) (iv4y_d a0 a1 a2 a3 a4 a5) (iv18x_d a0 a1 a2 a3 a4 a5) (iv18y_d a0 a1 a2 a3 a4 a5)
def iv20 (z:S6):F2p:=(iv8 z) * (iv18 z)
abbrev iv20x (a0 a1 a2 a3 a4 a5:Nat->Nat):Nat->Nat:=eF (mul2x (dF (iv8x a0 a1 a2 a3 a4 a5)) (dF (iv8y a0 a1 a2 a3 a4 a5)) (dF (iv18x a0 a1 a2 a3 a4 a5)) (dF (iv18y a0 a1 a2 a3 a4 a5)))
abbrev iv20y (a0 a1 a2 a3 a4 a5:Nat->Nat):Nat->Nat:=eF (mul2y (dF (iv8x a0 a1 a2 a3 a4 a5)) (dF (iv8y a0 a1 a2 a3 a4 a5)) (dF (iv18x a0 a1 a2 a3 a4 a5)) (dF (iv18y a0 a1 a2 a3 a4 a5)))
theorem iv20x_d (a0 a1 a2 a3 a4 a5:Nat->Nat):dF (iv20x a0 a1 a2 a3 a4 a5) = (iv20 (d6 a0 a1 a2 a3 a4 a5)).x:=r_mulx (iv8x_d a0 a1 a2 a3 a4 a5) (iv8y_d a0 a1 a2 a3 a4 a5) (iv18x_d a0 a1 a2 a3 a4 a5) (iv18y_d a0 a1 a2 a3 a4 a5)
theorem iv20y_d (a0 a1 a2 a3 a4 a5:Nat->Nat):dF (iv20y a0 a1 a2 a3 a4 a5) = (iv20 (d6 a0 a1 a2 a3 a4 a5)).y:=r_muly (iv8x_d a0 a1 a2 a3 a4 a5) (iv8y_d a0 a1 a2 a3 a4 a5) (iv18x_d a0 a1 a2 a3 a4 a5) (iv18y_d a0 a1 a2 a3 a4 a5)
def iv21 (z:S6):F2p:=(iv11 z) * (iv18 z)
abbrev iv21x (a0 a1 a2 a3 a4 a5:Nat->Nat):Nat->Nat:=eF (mul2x (dF (iv11x a0 a1 a2 a3 a4 a5)) (dF (iv11y a0 a1 a2 a3 a4 a5)) (dF (iv18x a0 a1 a2 a3 a4 a5)) (dF (iv18y a0 a1 a2 a3 a4 a5)))
abbrev iv21y (a0 a1 a2 a3 a4 a5:Nat->Nat):Nat->Nat:=eF (mul2y (dF (iv11x a0 a1 a2 a3 a4 a5)) (dF (iv11y a0 a1 a2 a3 a4 a5)) (dF (iv18x a0 a1 a2 a3 a4 a5)) (dF (iv18y a0 a1 a2 a3 a4 a5)))
theorem iv21x_d (a0 a1 a2 a3 a4 a5:Nat->Nat):dF (iv21x a0 a1 a2 a3 a4 a5) = (iv21 (d6 a0 a1 a2 a3 a4 a5)).x:=r_mulx (iv11x_d a0 a1 a2 a3 a4 a5) (iv11y_d a0 a1 a2 a3 a4 a5) (iv18x_d a0 a1 a2 a3 a4 a5) (iv18y_d a0 a1 a2 a3 a4 a5)
theorem iv21y_d (a0 a1 a2 a3 a4 a5:Nat->Nat):dF (iv21y a0 a1 a2 a3 a4 a5) = (iv21 (d6 a0 a1 a2 a3 a4 a5)).y:=r_muly (iv11x_d a0 a1 a2 a3 a4 a5) (iv11y_d a0 a1 a2 a3 a4 a5) (iv18x_d a0 a1 a2 a3 a4 a5) (iv18y_d a0 a1 a2 a3 a4 a5)
def S6.inv (z:S6):S6:=⟨(iv19 z),(iv20 z),(iv21 z)⟩
def GSi:Ctx:=ctxL [(110,.pure (q2 add2x add2y)),(111,.pure (q2 sub2x sub2y)),(112,.pure (q2 mul2x mul2y)),(170,.pure (q1 upx upy)),(113,.pure (q1 inv2x inv2y))]
theorem GSi_ok:CtxOk Tryz.prog GSi:=cxC okAdd2 <| cxC okSub2 <| cxC okMul2 <| cxC okUp <| cxC okMInv2 cxN
theorem okSinv:(CallC.pure (k61 S6.inv)).Ok Tryz.prog 149:=by
 refine k61_ok Tryz.func149 (by kernel_rfl) (by kernel_rfl) fun a0 a1 a2 a3 a4 a5 ha0 ha1 ha2 ha3 ha4 ha5=>eSq mxd tK GSi_ok 100 [] ?_
 refine same (p:=nv a0 < pN/\lp a1/\lp a0/\lp a1/\lp a2/\lp a3/\lp a4/\lp a5/\lp (iv2x a0 a1 a2 a3 a4 a5)/\lp (iv2y a0 a1 a2 a3 a4 a5)/\lp (iv1x a0 a1 a2 a3 a4 a5)/\lp (iv1y a0 a1 a2 a3 a4 a5)/\lp (iv3x a0 a1 a2 a3 a4 a5)/\lp (iv3y a0 a1 a2 a3 a4 a5)/\lp a4/\lp a5/\lp a4/\lp a5/\lp (iv5x a0 a1 a2 a3 a4 a5)/\lp (iv5y a0 a1 a2 a3 a4 a5)/\lp a0/\lp a1/\lp a2/\lp a3/\lp (iv6x a0 a1 a2 a3 a4 a5)/\lp (iv6y a0 a1 a2 a3 a4 a5)/\lp (iv7x a0 a1 a2 a3 a4 a5)/\lp (iv7y a0 a1 a2 a3 a4 a5)/\lp a2/\lp a3/\lp a2/\lp a3/\lp a0/\lp a1/\lp a4/\lp a5/\lp (iv9x a0 a1 a2 a3 a4 a5)/\lp (iv9y a0 a1 a2 a3 a4 a5)/\lp (iv10x a0 a1 a2 a3 a4 a5)/\lp (iv10y a0 a1 a2 a3 a4 a5)/\lp a0/\lp a1/\lp (iv4x a0 a1 a2 a3 a4 a5)/\lp (iv4y a0 a1 a2 a3 a4 a5)/\lp a4/\lp a5/\lp (iv8x a0 a1 a2 a3 a4 a5)/\lp (iv8y a0 a1 a2 a3 a4 a5)/\lp a2/\lp a3/\lp (iv11x a0 a1 a2 a3 a4 a5)/\lp (iv11y a0 a1 a2 a3 a4 a5)/\lp (iv13x a0 a1 a2 a3 a4 a5)/\lp (iv13y a0 a1 a2 a3 a4 a5)/\lp (iv14x a0 a1 a2 a3 a4 a5)/\lp (iv14y a0 a1 a2 a3 a4 a5)/\lp (iv15x a0 a1 a2 a3 a4 a5)/\lp (iv15y a0 a1 a2 a3 a4 a5)/\lp (iv12x a0 a1 a2 a3 a4 a5)/\lp (iv12y a0 a1 a2 a3 a4 a5)/\lp (iv16x a0 a1 a2 a3 a4 a5)/\lp (iv16y a0 a1 a2 a3 a4 a5)/\lp (iv17x a0 a1 a2 a3 a4 a5)/\lp (iv17y a0 a1 a2 a3 a4 a5)/\lp (iv4x a0 a1 a2 a3 a4 a5)/\lp (iv4y a0 a1 a2 a3 a4 a5)/\lp (iv18x a0 a1 a2 a3 a4 a5)/\lp (iv18y a0 a1 a2 a3 a4 a5)/\lp (iv8x a0 a1 a2 a3 a4 a5)/\lp (iv8y a0 a1 a2 a3 a4 a5)/\lp (iv18x a0 a1 a2 a3 a4 a5)/\lp (iv18y a0 a1 a2 a3 a4 a5)/\lp (iv11x a0 a1 a2 a3 a4 a5)/\lp (iv11y a0 a1 a2 a3 a4 a5)/\lp (iv18x a0 a1 a2 a3 a4 a5)/\lp (iv18y a0 a1 a2 a3 a4 a5)/\endN (.v1 (v6 (iv19x a0 a1 a2 a3 a4 a5) (iv19y a0 a1 a2 a3 a4 a5) (iv20x a0 a1 a2 a3 a4 a5) (iv20y a0 a1 a2 a3 a4 a5) (iv21x a0 a1 a2 a3 a4 a5) (iv21y a0 a1 a2 a3 a4 a5))) (.v1 (e6 (S6.inv (d6 a0 a1 a2 a3 a4 a5))))) ?_ (by kernel_rfl)
 exact ⟨ha0,ha1,ha0,ha1,ha2,ha3,ha4,ha5,lE _,lE _,lE _,lE _,lE _,lE _,ha4,ha5,ha4,ha5,lE _,lE _,ha0,ha1,ha2,ha3,lE _,lE _,lE _,lE _,ha2,ha3,ha2,ha3,ha0,ha1,ha4,ha5,lE _,lE _,lE _,lE _,ha0,ha1,lE _,lE _,ha4,ha5,lE _,lE _,ha2,ha3,lE _,lE _,lE _,lE _,lE _,lE _,lE _,lE _,lE _,lE _,lE _,lE _,lE _,lE _,lE _,lE _,lE _,lE _,lE _,lE _,lE _,lE _,lE _,lE _,lE _,lE _,endN_6 (nv_of (lE _) (iv19x_d a0 a1 a2 a3 a4 a5)) (nv_of (lE _) (iv19y_d a0 a1 a2 a3 a4 a5)) (nv_of (lE _) (iv20x_d a0 a1 a2 a3 a4 a5)) (nv_of (lE _) (iv20y_d a0 a1 a2 a3 a4 a5)) (nv_of (lE _) (iv21x_d a0 a1 a2 a3 a4 a5)) (nv_of (lE _) (iv21y_d a0 a1 a2 a3 a4 a5))⟩
theorem eqW_beq (f g:Nat->Nat):(eqN W 6 f g && true) = Nat.beq (nv f) (nv g):=by
 rw [Bool.and_true]
 cases h:Nat.beq (nv f) (nv g)
 ·rw [<-Bool.not_eq_true,eqN_iff]
  intro e
  have:=nv_congr e
  rw [<-Nat.beq_eq,h] at this;cases this
 ·rw [eqN_iff]
  intro i hi
  rw [Nat.beq_eq] at h
  rw [<-wd_nv f i hi,<-wd_nv g i hi,h]
def z2 (x y:Fp):Bool:=Nat.beq x.val 0 && Nat.beq y.val 0
theorem z2_iff (x y:Fp):z2 x y = true↔x = 0/\y = 0:=by
 unfold z2
 simp only [Bool.and_eq_true,Nat.beq_eq]
 constructor
 ·intro ⟨h1,h2⟩;exact ⟨Fin.ext h1,Fin.ext h2⟩
 ·intro ⟨h1,h2⟩;rw [h1,h2];exact ⟨rfl,rfl⟩
theorem enc_zero:enc 0 = 0:=by
 have:enc (dec 0) = 0:=enc_dec pN_pos
 rwa [dec_zero] at this
theorem enc_ne {x:Fp}:Nat.beq (enc x) 0 = Nat.beq x.val 0:=by
 rw [Bool.eq_iff_iff,Nat.beq_eq,Nat.beq_eq]
 constructor
 ·intro h
  have e:=dec_enc x
  rw [h,dec_zero] at e
  rw [<-e];rfl
 ·intro h
  have e:x = 0:=Fin.ext h
  rw [e,enc_zero]
theorem z0V:nv fz = nv (vF 0):=by rw [zero_nv,nv_vF];rfl
theorem okBase:(CallC.pure (cK prF)).Ok Tryz.prog 65 :=
 cK_ok Tryz.func65 (by kernel_rfl) (by kernel_rfl) (same (p:=some (nm prF) = some (nm prF)) rfl (by kernel_rfl))
def hf:Fp:=eInv (1 + 1)
theorem dF_one:dF oneF = 1:=by unfold dF;rw [one_enc,dec_enc]
theorem dF_zero:dF fz = 0:=by unfold dF;rw [zero_nv,dec_zero]
theorem zlt:nv fz < pN:=by rw [zero_nv];exact pN_pos
theorem d6_zero:d6 fz fz fz fz fz fz = 0:=by
 simp only [d6,dF_zero];rfl
def kOne (n:Nat):List AV->Option (List Prop × AV)
 | []=>some ([],.v1 (.agg (q6 oneF :: List.replicate n (q6 fun _=>0))))
 | _=>none
def GOn:Ctx:=ctxL [(104,.pure (cK oneF))]
theorem GOn_ok:CtxOk Tryz.prog GOn:=cxC okOne0 cxN
abbrev c2 (a b:Nat->Nat):List AV->Option (List Prop × AV)
 | []=>some ([],f2 a b)
 | _=>none
theorem okOne2:(CallC.pure (c2 oneF fz)).Ok Tryz.prog 114:=by
 intro args pre v e _
 unfold c2 at e
 split at e
 ·cases e
  refine pWk tK Tryz.func114 (by kernel_rfl) (by kernel_rfl) (by rfl) (by rfl) ?_
  refine eSq mxd tK GOn_ok 60 [] ?_
  exact same (p:=endN (f2 oneF fz) (f2 oneF fz)) ⟨_,rfl,fun _=>rfl⟩ (by kernel_rfl)
 ·cases e
def c12 (v:V1):List AV->Option (List Prop × AV)
 | []=>some ([],.v1 v)
 | _=>none
abbrev one12:V1:=v12 oneF fz fz fz fz fz fz fz fz fz fz fz
def GOt:Ctx:=ctxL [(114,.pure (c2 oneF fz))]
theorem GOt_ok:CtxOk Tryz.prog GOt:=cxC okOne2 cxN
theorem okOne12:(CallC.pure (c12 one12)).Ok Tryz.prog 67:=by
 intro args pre v e _
 unfold c12 at e
 split at e
 ·cases e
  refine pWk tK Tryz.func67 (by kernel_rfl) (by kernel_rfl) (by rfl) (by rfl) ?_
  refine eSq mxd tK GOt_ok 60 [] ?_
  exact same (p:=endN (.v1 one12) (.v1 one12)) ⟨_,rfl,fun _=>rfl⟩ (by kernel_rfl)
 ·cases e
def tuF0:Nat->Nat:=(upd (upd (upd (upd (upd (upd fz 0 8505329371266088957) 1 17002214543764226050) 2 6865905132761471162) 3 8632934651105793861) 4 6631298214892334189) 5 1582556514881692819)
def tuF1:Nat->Nat:=(upd (upd (upd (upd (upd (upd fz 0 0) 1 0) 2 0) 3 0) 4 0) 5 0)
def tuF2:Nat->Nat:=(upd (upd (upd (upd (upd (upd fz 0 506819140503852133) 1 14297063575771579155) 2 10946065744702939791) 3 11771194236670323182) 4 2081670087578406477) 5 644615147456521963)
def tuF3:Nat->Nat:=(upd (upd (upd (upd (upd (upd fz 0 12895611875574011462) 1 6359822009455181036) 2 14936352902570693524) 3 13914887797453940944) 4 3330433690892295817) 5 1229183470191017903)
def tuF4:Nat->Nat:=(upd (upd (upd (upd (upd (upd fz 0 0) 1 0) 2 0) 3 0) 4 0) 5 0)
def tuF5:Nat->Nat:=(upd (upd (upd (upd (upd (upd fz 0 14772873186050699377) 1 6749526151121446354) 2 6372666795664677781) 3 10283423008382700446) 4 286397964926079186) 5 1796971870900422465)
def tuF6:Nat->Nat:=(upd (upd (upd (upd (upd (upd fz 0 8921533702591418330) 1 15859389534032789116) 2 3389114680249073393) 3 15116930867080254631) 4 3288288975085550621) 5 1021049300055853010)
def tuF7:Nat->Nat:=(upd (upd (upd (upd (upd (upd fz 0 8921533702591418330) 1 15859389534032789116) 2 3389114680249073393) 3 15116930867080254631) 4 3288288975085550621) 5 1021049300055853010)
def tuF8:Nat->Nat:=(upd (upd (upd (upd (upd (upd fz 0 9875771541238924739) 1 3094855109658912213) 2 5802897354862067244) 3 11677019699073781796) 4 1505592401347711080) 5 1505729768134575418)
def tuF9:Nat->Nat:=(upd (upd (upd (upd (upd (upd fz 0 0) 1 0) 2 0) 3 0) 4 0) 5 0)
def tuF10:Nat->Nat:=(upd (upd (upd (upd (upd (upd fz 0 9428352843095270463) 1 11709709036094816655) 2 14335180424952013185) 3 8441381030041026197) 4 5369959062663957099) 5 1665664447512374973)
def tuF11:Nat->Nat:=(upd (upd (upd (upd (upd (upd fz 0 3974078172982593132) 1 8947176549131943536) 2 11547238222321620130) 3 17244701004083237929) 4 42144715806745195) 5 208134170135164893)
abbrev tu12:V1:=v12 tuF0 tuF1 tuF2 tuF3 tuF4 tuF5 tuF6 tuF7 tuF8 tuF9 tuF10 tuF11
theorem tu_nv0:nv tuF0 = 3380320199399472671518931668520476396067793891014375699959770179129436917079669831430077592723774664465579537268733:=by kernel_rfl
theorem tu_lt0:nv tuF0 < pN:=by rw [tu_nv0];decide
theorem tu_d0:dF tuF0 = ofN tuN0:=by
 unfold dF dec ofN ri tuN0
 rw [tu_nv0]
 exact Fin.ext (by kernel_rfl)
theorem tu_nv1:nv tuF1 = 0:=by kernel_rfl
theorem tu_lt1:nv tuF1 < pN:=by rw [tu_nv1];decide
theorem tu_d1:dF tuF1 = ofN tuN1:=by
 unfold dF dec ofN ri tuN1
 rw [tu_nv1]
 exact Fin.ext (by kernel_rfl)
theorem tu_nv2:nv tuF2 = 1376889598125376727959055341295674356654925039980005395128828212993454708588385020118431646457834669954221389501541:=by kernel_rfl
theorem tu_lt2:nv tuF2 < pN:=by rw [tu_nv2];decide
theorem tu_d2:dF tuF2 = ofN tuN2:=by
 unfold dF dec ofN ri tuN2
 rw [tu_nv2]
 exact Fin.ext (by kernel_rfl)
theorem tu_nv3:nv tuF3 = 2625519957096290665458734484440229799901957779959002490203229923130576941902452844324255982671180994083672883058246:=by kernel_rfl
theorem tu_lt3:nv tuF3 < pN:=by rw [tu_nv3];decide
theorem tu_d3:dF tuF3 = ofN tuN3:=by
 unfold dF dec ofN ri tuN3
 rw [tu_nv3]
 exact Fin.ext (by kernel_rfl)
theorem tu_nv4:nv tuF4 = 0:=by kernel_rfl
theorem tu_lt4:nv tuF4 < pN:=by rw [tu_nv4];decide
theorem tu_d4:dF tuF4 = ofN tuN4:=by
 unfold dF dec ofN ri tuN4
 rw [tu_nv4]
 exact Fin.ext (by kernel_rfl)
theorem tu_nv5:nv tuF5 = 3838308620157845674988348254171675463841990158783295489149568424364307477627266222040030802976299176456994858070129:=by kernel_rfl
theorem tu_lt5:nv tuF5 < pN:=by rw [tu_nv5];decide
theorem tu_d5:dF tuF5 = ofN tuN5:=by
 unfold dF dec ofN ri tuN5
 rw [tu_nv5]
 exact Fin.ext (by kernel_rfl)
theorem tu_nv6:nv tuF6 = 2180948067955421400650298037051525928469820541616793192330698326773792934210431556493050816229929877766056936935386:=by kernel_rfl
theorem tu_lt6:nv tuF6 < pN:=by rw [tu_nv6];decide
theorem tu_d6:dF tuF6 = ofN tuN6:=by
 unfold dF dec ofN ri tuN6
 rw [tu_nv6]
 exact Fin.ext (by kernel_rfl)
theorem tu_nv7:nv tuF7 = 2180948067955421400650298037051525928469820541616793192330698326773792934210431556493050816229929877766056936935386:=by kernel_rfl
theorem tu_lt7:nv tuF7 < pN:=by rw [tu_nv7];decide
theorem tu_d7:dF tuF7 = ofN tuN7:=by
 unfold dF dec ofN ri tuN7
 rw [tu_nv7]
 exact Fin.ext (by kernel_rfl)
theorem tu_nv8:nv tuF8 = 3216219264335650953089490096956247703352901229858663303777280467369712744216098189027420766571058176884680122779075:=by kernel_rfl
theorem tu_lt8:nv tuF8 < pN:=by rw [tu_nv8];decide
theorem tu_d8:dF tuF8 = ofN tuN8:=by
 unfold dF dec ofN ri tuN8
 rw [tu_nv8]
 exact Fin.ext (by kernel_rfl)
theorem tu_nv9:nv tuF9 = 0:=by kernel_rfl
theorem tu_lt9:nv tuF9 < pN:=by rw [tu_nv9];decide
theorem tu_d9:dF tuF9 = ofN tuN9:=by
 unfold dF dec ofN ri tuN9
 rw [tu_nv9]
 exact Fin.ext (by kernel_rfl)
theorem tu_nv10:nv tuF10 = 3557837666080798128609353378347200285124745581596798587459526539767247642798816576611482462687764547720278326436927:=by kernel_rfl
theorem tu_lt10:nv tuF10 < pN:=by rw [tu_nv10];decide
theorem tu_d10:dF tuF10 = ofN tuN10:=by
 unfold dF dec ofN ri tuN10
 rw [tu_nv10]
 exact Fin.ext (by kernel_rfl)
theorem tu_nv11:nv tuF11 = 444571889140869264808436447388703871432137238342209297872531596356784007692021287831205166441251116317615946122860:=by kernel_rfl
theorem tu_lt11:nv tuF11 < pN:=by rw [tu_nv11];decide
theorem tu_d11:dF tuF11 = ofN tuN11:=by
 unfold dF dec ofN ri tuN11
 rw [tu_nv11]
 exact Fin.ext (by kernel_rfl)
theorem okTurned:(CallC.pure (c12 tu12)).Ok Tryz.prog 150:=by
 intro args pre v e _
 unfold c12 at e
 split at e
 ·cases e
  refine pWk tK Tryz.func150 (by kernel_rfl) (by kernel_rfl) (by rfl) (by rfl) ?_
  refine eSq mxd tK G0_ok 200 [] ?_
  exact same (p:=endN (.v1 tu12) (.v1 tu12)) ⟨_,rfl,fun _=>rfl⟩ (by kernel_rfl)
 ·cases e
def k121 (F:S12->S12):List AV->Option (List Prop × AV)
 | [.v1 (.agg [.ws .u64 6 a0,.ws .u64 6 a1,.ws .u64 6 a2,.ws .u64 6 a3,.ws .u64 6 a4,.ws .u64 6 a5,.ws .u64 6 a6,.ws .u64 6 a7,.ws .u64 6 a8,.ws .u64 6 a9,.ws .u64 6 a10,.ws .u64 6 a11])]=>some ([nv a0 < pN,nv a1 < pN,nv a2 < pN,nv a3 < pN,nv a4 < pN,nv a5 < pN,nv a6 < pN,nv a7 < pN,nv a8 < pN,nv a9 < pN,nv a10 < pN,nv a11 < pN],.v1 (e12 (F (d12 a0 a1 a2 a3 a4 a5 a6 a7 a8 a9 a10 a11))))
 | _=>none
theorem k121_ok {F:S12->S12} {f:FuncId} {fn:Func} (hf:Tryz.prog.funcs[f]? = some fn) (hb:fn.body = some (bodyOf fn)) (hn:(fn.name == "runtime.NumGoroutine") = false)
  (h:∀ a0 a1 a2 a3 a4 a5 a6 a7 a8 a9 a10 a11:Nat->Nat,nv a0 < pN->nv a1 < pN->nv a2 < pN->nv a3 < pN->nv a4 < pN->nv a5 < pN->nv a6 < pN->nv a7 < pN->nv a8 < pN->nv a9 < pN->nv a10 < pN->nv a11 < pN->AWqS Tryz.prog (fun _=>False) (flatC (bodyOf fn)) (FEnd' tt fn (.v1 (e12 (F (d12 a0 a1 a2 a3 a4 a5 a6 a7 a8 a9 a10 a11))))) ⟨frame0 [.v1 (v12 a0 a1 a2 a3 a4 a5 a6 a7 a8 a9 a10 a11)] fn.ntmps,[]⟩):(CallC.pure (k121 F)).Ok Tryz.prog f:=by
 intro args pre v e hp
 unfold k121 at e
 split at e
 ·rename_i a0 a1 a2 a3 a4 a5 a6 a7 a8 a9 a10 a11
  cases e
  exact pWk tK hf hb hn (by rfl) (by rfl) (h a0 a1 a2 a3 a4 a5 a6 a7 a8 a9 a10 a11 (hp _ (by simp)) (hp _ (by simp)) (hp _ (by simp)) (hp _ (by simp)) (hp _ (by simp)) (hp _ (by simp)) (hp _ (by simp)) (hp _ (by simp)) (hp _ (by simp)) (hp _ (by simp)) (hp _ (by simp)) (hp _ (by simp)))
 ·cases e
def GIn:Ctx:=ctxL [(122,.pure cHal),(125,.pure cWho),(123,.pure (k62 S6.mul)),(127,.pure (k62 S6.sub)),(126,.pure (k61 S6.next)),(149,.pure (k61 S6.inv))]
theorem GIn_ok:CtxOk Tryz.prog GIn:=cxC okHal <| cxC okWho <| cxC okSmul <| cxC okSsub <| cxC okSnext <| cxC okSinv cxN
abbrev jv1 (a0 a1 a2 a3 a4 a5 a6 a7 a8 a9 a10 a11:Nat->Nat):S6:=S6.mul (d6 a0 a1 a4 a5 a8 a9) (d6 a0 a1 a4 a5 a8 a9)
def jv1d (z:S12):S6:=S6.mul z.p z.p
theorem jv1_d (a0 a1 a2 a3 a4 a5 a6 a7 a8 a9 a10 a11:Nat->Nat):jv1 a0 a1 a2 a3 a4 a5 a6 a7 a8 a9 a10 a11 = jv1d (d12 a0 a1 a2 a3 a4 a5 a6 a7 a8 a9 a10 a11):=by simp only [jv1,jv1d,D6_eq]
abbrev jv2 (a0 a1 a2 a3 a4 a5 a6 a7 a8 a9 a10 a11:Nat->Nat):S6:=S6.mul (d6 a2 a3 a6 a7 a10 a11) (d6 a2 a3 a6 a7 a10 a11)
def jv2d (z:S12):S6:=S6.mul z.q z.q
theorem jv2_d (a0 a1 a2 a3 a4 a5 a6 a7 a8 a9 a10 a11:Nat->Nat):jv2 a0 a1 a2 a3 a4 a5 a6 a7 a8 a9 a10 a11 = jv2d (d12 a0 a1 a2 a3 a4 a5 a6 a7 a8 a9 a10 a11):=by simp only [jv2,jv2d,D6_eq]
abbrev jv3 (a0 a1 a2 a3 a4 a5 a6 a7 a8 a9 a10 a11:Nat->Nat):S6:=S6.next (D6 (jv2 a0 a1 a2 a3 a4 a5 a6 a7 a8 a9 a10 a11))
def jv3d (z:S12):S6:=S6.next (jv2d z)
theorem jv3_d (a0 a1 a2 a3 a4 a5 a6 a7 a8 a9 a10 a11:Nat->Nat):jv3 a0 a1 a2 a3 a4 a5 a6 a7 a8 a9 a10 a11 = jv3d (d12 a0 a1 a2 a3 a4 a5 a6 a7 a8 a9 a10 a11):=by simp only [jv3,jv3d,D6_eq,jv2_d]
abbrev jv4 (a0 a1 a2 a3 a4 a5 a6 a7 a8 a9 a10 a11:Nat->Nat):S6:=S6.sub (D6 (jv1 a0 a1 a2 a3 a4 a5 a6 a7 a8 a9 a10 a11)) (D6 (jv3 a0 a1 a2 a3 a4 a5 a6 a7 a8 a9 a10 a11))
def jv4d (z:S12):S6:=S6.sub (jv1d z) (jv3d z)
theorem jv4_d (a0 a1 a2 a3 a4 a5 a6 a7 a8 a9 a10 a11:Nat->Nat):jv4 a0 a1 a2 a3 a4 a5 a6 a7 a8 a9 a10 a11 = jv4d (d12 a0 a1 a2 a3 a4 a5 a6 a7 a8 a9 a10 a11):=by simp only [jv4,jv4d,D6_eq,jv1_d,jv3_d]
abbrev jv5 (a0 a1 a2 a3 a4 a5 a6 a7 a8 a9 a10 a11:Nat->Nat):S6:=S6.inv (D6 (jv4 a0 a1 a2 a3 a4 a5 a6 a7 a8 a9 a10 a11))
def jv5d (z:S12):S6:=S6.inv (jv4d z)
theorem jv5_d (a0 a1 a2 a3 a4 a5 a6 a7 a8 a9 a10 a11:Nat->Nat):jv5 a0 a1 a2 a3 a4 a5 a6 a7 a8 a9 a10 a11 = jv5d (d12 a0 a1 a2 a3 a4 a5 a6 a7 a8 a9 a10 a11):=by simp only [jv5,jv5d,D6_eq,jv4_d]
abbrev jv6 (a0 a1 a2 a3 a4 a5 a6 a7 a8 a9 a10 a11:Nat->Nat):S6:=S6.mul (d6 a0 a1 a4 a5 a8 a9) (D6 (jv5 a0 a1 a2 a3 a4 a5 a6 a7 a8 a9 a10 a11))
def jv6d (z:S12):S6:=S6.mul z.p (jv5d z)
theorem jv6_d (a0 a1 a2 a3 a4 a5 a6 a7 a8 a9 a10 a11:Nat->Nat):jv6 a0 a1 a2 a3 a4 a5 a6 a7 a8 a9 a10 a11 = jv6d (d12 a0 a1 a2 a3 a4 a5 a6 a7 a8 a9 a10 a11):=by simp only [jv6,jv6d,D6_eq,jv5_d]
abbrev jv7 (a0 a1 a2 a3 a4 a5 a6 a7 a8 a9 a10 a11:Nat->Nat):S6:=S6.sub (d6 fz fz fz fz fz fz) (d6 a2 a3 a6 a7 a10 a11)
def jv7d (z:S12):S6:=S6.sub 0 z.q
theorem jv7_d (a0 a1 a2 a3 a4 a5 a6 a7 a8 a9 a10 a11:Nat->Nat):jv7 a0 a1 a2 a3 a4 a5 a6 a7 a8 a9 a10 a11 = jv7d (d12 a0 a1 a2 a3 a4 a5 a6 a7 a8 a9 a10 a11):=by simp only [jv7,jv7d,D6_eq,d6_zero]
abbrev jv8 (a0 a1 a2 a3 a4 a5 a6 a7 a8 a9 a10 a11:Nat->Nat):S6:=S6.mul (D6 (jv7 a0 a1 a2 a3 a4 a5 a6 a7 a8 a9 a10 a11)) (D6 (jv5 a0 a1 a2 a3 a4 a5 a6 a7 a8 a9 a10 a11))
def jv8d (z:S12):S6:=S6.mul (jv7d z) (jv5d z)
theorem jv8_d (a0 a1 a2 a3 a4 a5 a6 a7 a8 a9 a10 a11:Nat->Nat):jv8 a0 a1 a2 a3 a4 a5 a6 a7 a8 a9 a10 a11 = jv8d (d12 a0 a1 a2 a3 a4 a5 a6 a7 a8 a9 a10 a11):=by simp only [jv8,jv8d,D6_eq,jv7_d,jv5_d]
def S12.inv (z:S12):S12:=⟨(jv6d z),(jv8d z)⟩
theorem okInv12:(CallC.pure (k121 S12.inv)).Ok Tryz.prog 90:=by
 refine k121_ok Tryz.func90 (by kernel_rfl) (by kernel_rfl) fun a0 a1 a2 a3 a4 a5 a6 a7 a8 a9 a10 a11 ha0 ha1 ha2 ha3 ha4 ha5 ha6 ha7 ha8 ha9 ha10 ha11=>eSq mxd tK GIn_ok 100 [] ?_
 refine same (p:=nv a0 < pN/\lp a1/\lp a4/\lp a5/\lp a8/\lp a9/\lp a0/\lp a1/\lp a4/\lp a5/\lp a8/\lp a9/\lp a2/\lp a3/\lp a6/\lp a7/\lp a10/\lp a11/\lp a2/\lp a3/\lp a6/\lp a7/\lp a10/\lp a11/\lp (eF (jv2 a0 a1 a2 a3 a4 a5 a6 a7 a8 a9 a10 a11).u.x)/\lp (eF (jv2 a0 a1 a2 a3 a4 a5 a6 a7 a8 a9 a10 a11).u.y)/\lp (eF (jv2 a0 a1 a2 a3 a4 a5 a6 a7 a8 a9 a10 a11).v.x)/\lp (eF (jv2 a0 a1 a2 a3 a4 a5 a6 a7 a8 a9 a10 a11).v.y)/\lp (eF (jv2 a0 a1 a2 a3 a4 a5 a6 a7 a8 a9 a10 a11).w.x)/\lp (eF (jv2 a0 a1 a2 a3 a4 a5 a6 a7 a8 a9 a10 a11).w.y)/\lp (eF (jv1 a0 a1 a2 a3 a4 a5 a6 a7 a8 a9 a10 a11).u.x)/\lp (eF (jv1 a0 a1 a2 a3 a4 a5 a6 a7 a8 a9 a10 a11).u.y)/\lp (eF (jv1 a0 a1 a2 a3 a4 a5 a6 a7 a8 a9 a10 a11).v.x)/\lp (eF (jv1 a0 a1 a2 a3 a4 a5 a6 a7 a8 a9 a10 a11).v.y)/\lp (eF (jv1 a0 a1 a2 a3 a4 a5 a6 a7 a8 a9 a10 a11).w.x)/\lp (eF (jv1 a0 a1 a2 a3 a4 a5 a6 a7 a8 a9 a10 a11).w.y)/\lp (eF (jv3 a0 a1 a2 a3 a4 a5 a6 a7 a8 a9 a10 a11).u.x)/\lp (eF (jv3 a0 a1 a2 a3 a4 a5 a6 a7 a8 a9 a10 a11).u.y)/\lp (eF (jv3 a0 a1 a2 a3 a4 a5 a6 a7 a8 a9 a10 a11).v.x)/\lp (eF (jv3 a0 a1 a2 a3 a4 a5 a6 a7 a8 a9 a10 a11).v.y)/\lp (eF (jv3 a0 a1 a2 a3 a4 a5 a6 a7 a8 a9 a10 a11).w.x)/\lp (eF (jv3 a0 a1 a2 a3 a4 a5 a6 a7 a8 a9 a10 a11).w.y)/\lp (eF (jv4 a0 a1 a2 a3 a4 a5 a6 a7 a8 a9 a10 a11).u.x)/\lp (eF (jv4 a0 a1 a2 a3 a4 a5 a6 a7 a8 a9 a10 a11).u.y)/\lp (eF (jv4 a0 a1 a2 a3 a4 a5 a6 a7 a8 a9 a10 a11).v.x)/\lp (eF (jv4 a0 a1 a2 a3 a4 a5 a6 a7 a8 a9 a10 a11).v.y)/\lp (eF (jv4 a0 a1 a2 a3 a4 a5 a6 a7 a8 a9 a10 a11).w.x)/\lp (eF (jv4 a0 a1 a2 a3 a4 a5 a6 a7 a8 a9 a10 a11).w.y)/\lp a0/\lp a1/\lp a4/\lp a5/\lp a8/\lp a9/\lp (eF (jv5 a0 a1 a2 a3 a4 a5 a6 a7 a8 a9 a10 a11).u.x)/\lp (eF (jv5 a0 a1 a2 a3 a4 a5 a6 a7 a8 a9 a10 a11).u.y)/\lp (eF (jv5 a0 a1 a2 a3 a4 a5 a6 a7 a8 a9 a10 a11).v.x)/\lp (eF (jv5 a0 a1 a2 a3 a4 a5 a6 a7 a8 a9 a10 a11).v.y)/\lp (eF (jv5 a0 a1 a2 a3 a4 a5 a6 a7 a8 a9 a10 a11).w.x)/\lp (eF (jv5 a0 a1 a2 a3 a4 a5 a6 a7 a8 a9 a10 a11).w.y)/\lp fz/\lp fz/\lp fz/\lp fz/\lp fz/\lp fz/\lp a2/\lp a3/\lp a6/\lp a7/\lp a10/\lp a11/\lp (eF (jv7 a0 a1 a2 a3 a4 a5 a6 a7 a8 a9 a10 a11).u.x)/\lp (eF (jv7 a0 a1 a2 a3 a4 a5 a6 a7 a8 a9 a10 a11).u.y)/\lp (eF (jv7 a0 a1 a2 a3 a4 a5 a6 a7 a8 a9 a10 a11).v.x)/\lp (eF (jv7 a0 a1 a2 a3 a4 a5 a6 a7 a8 a9 a10 a11).v.y)/\lp (eF (jv7 a0 a1 a2 a3 a4 a5 a6 a7 a8 a9 a10 a11).w.x)/\lp (eF (jv7 a0 a1 a2 a3 a4 a5 a6 a7 a8 a9 a10 a11).w.y)/\lp (eF (jv5 a0 a1 a2 a3 a4 a5 a6 a7 a8 a9 a10 a11).u.x)/\lp (eF (jv5 a0 a1 a2 a3 a4 a5 a6 a7 a8 a9 a10 a11).u.y)/\lp (eF (jv5 a0 a1 a2 a3 a4 a5 a6 a7 a8 a9 a10 a11).v.x)/\lp (eF (jv5 a0 a1 a2 a3 a4 a5 a6 a7 a8 a9 a10 a11).v.y)/\lp (eF (jv5 a0 a1 a2 a3 a4 a5 a6 a7 a8 a9 a10 a11).w.x)/\lp (eF (jv5 a0 a1 a2 a3 a4 a5 a6 a7 a8 a9 a10 a11).w.y)/\endN (.v1 (v12 (eF (jv6 a0 a1 a2 a3 a4 a5 a6 a7 a8 a9 a10 a11).u.x) (eF (jv6 a0 a1 a2 a3 a4 a5 a6 a7 a8 a9 a10 a11).u.y) (eF (jv8 a0 a1 a2 a3 a4 a5 a6 a7 a8 a9 a10 a11).u.x) (eF (jv8 a0 a1 a2 a3 a4 a5 a6 a7 a8 a9 a10 a11).u.y) (eF (jv6 a0 a1 a2 a3 a4 a5 a6 a7 a8 a9 a10 a11).v.x) (eF (jv6 a0 a1 a2 a3 a4 a5 a6 a7 a8 a9 a10 a11).v.y) (eF (jv8 a0 a1 a2 a3 a4 a5 a6 a7 a8 a9 a10 a11).v.x) (eF (jv8 a0 a1 a2 a3 a4 a5 a6 a7 a8 a9 a10 a11).v.y) (eF (jv6 a0 a1 a2 a3 a4 a5 a6 a7 a8 a9 a10 a11).w.x) (eF (jv6 a0 a1 a2 a3 a4 a5 a6 a7 a8 a9 a10 a11).w.y) (eF (jv8 a0 a1 a2 a3 a4 a5 a6 a7 a8 a9 a10 a11).w.x) (eF (jv8 a0 a1 a2 a3 a4 a5 a6 a7 a8 a9 a10 a11).w.y))) (.v1 (e12 (S12.inv (d12 a0 a1 a2 a3 a4 a5 a6 a7 a8 a9 a10 a11))))) ?_ (by kernel_rfl)
 exact ⟨ha0,ha1,ha4,ha5,ha8,ha9,ha0,ha1,ha4,ha5,ha8,ha9,ha2,ha3,ha6,ha7,ha10,ha11,ha2,ha3,ha6,ha7,ha10,ha11,lE _,lE _,lE _,lE _,lE _,lE _,lE _,lE _,lE _,lE _,lE _,lE _,lE _,lE _,lE _,lE _,lE _,lE _,lE _,lE _,lE _,lE _,lE _,lE _,ha0,ha1,ha4,ha5,ha8,ha9,lE _,lE _,lE _,lE _,lE _,lE _,zlt,zlt,zlt,zlt,zlt,zlt,ha2,ha3,ha6,ha7,ha10,ha11,lE _,lE _,lE _,lE _,lE _,lE _,lE _,lE _,lE _,lE _,lE _,lE _,_,rfl,v12_val (nvE (by rw [jv6_d];rfl)) (nvE (by rw [jv6_d];rfl)) (nvE (by rw [jv8_d];rfl)) (nvE (by rw [jv8_d];rfl)) (nvE (by rw [jv6_d];rfl)) (nvE (by rw [jv6_d];rfl)) (nvE (by rw [jv8_d];rfl)) (nvE (by rw [jv8_d];rfl)) (nvE (by rw [jv6_d];rfl)) (nvE (by rw [jv6_d];rfl)) (nvE (by rw [jv8_d];rfl)) (nvE (by rw [jv8_d];rfl))⟩
abbrev cj1 (a0 a1 a2 a3 a4 a5 a6 a7 a8 a9 a10 a11:Nat->Nat):S6:=S6.sub (d6 fz fz fz fz fz fz) (d6 a2 a3 a6 a7 a10 a11)
def cj1d (z:S12):S6:=S6.sub 0 z.q
theorem cj1_d (a0 a1 a2 a3 a4 a5 a6 a7 a8 a9 a10 a11:Nat->Nat):cj1 a0 a1 a2 a3 a4 a5 a6 a7 a8 a9 a10 a11 = cj1d (d12 a0 a1 a2 a3 a4 a5 a6 a7 a8 a9 a10 a11):=by simp only [cj1,cj1d,D6_eq,d6_zero]
def S12.conj (z:S12):S12:=⟨z.p,(cj1d z)⟩
theorem okConj12:(CallC.pure (k121 S12.conj)).Ok Tryz.prog 89:=by
 refine k121_ok Tryz.func89 (by kernel_rfl) (by kernel_rfl) fun a0 a1 a2 a3 a4 a5 a6 a7 a8 a9 a10 a11 ha0 ha1 ha2 ha3 ha4 ha5 ha6 ha7 ha8 ha9 ha10 ha11=>eSq mxd tK GIn_ok 100 [] ?_
 refine same (p:=nv fz < pN/\lp fz/\lp fz/\lp fz/\lp fz/\lp fz/\lp a2/\lp a3/\lp a6/\lp a7/\lp a10/\lp a11/\endN (.v1 (v12 a0 a1 (eF (cj1 a0 a1 a2 a3 a4 a5 a6 a7 a8 a9 a10 a11).u.x) (eF (cj1 a0 a1 a2 a3 a4 a5 a6 a7 a8 a9 a10 a11).u.y) a4 a5 (eF (cj1 a0 a1 a2 a3 a4 a5 a6 a7 a8 a9 a10 a11).v.x) (eF (cj1 a0 a1 a2 a3 a4 a5 a6 a7 a8 a9 a10 a11).v.y) a8 a9 (eF (cj1 a0 a1 a2 a3 a4 a5 a6 a7 a8 a9 a10 a11).w.x) (eF (cj1 a0 a1 a2 a3 a4 a5 a6 a7 a8 a9 a10 a11).w.y))) (.v1 (e12 (S12.conj (d12 a0 a1 a2 a3 a4 a5 a6 a7 a8 a9 a10 a11))))) ?_ (by kernel_rfl)
 exact ⟨zlt,zlt,zlt,zlt,zlt,zlt,ha2,ha3,ha6,ha7,ha10,ha11,_,rfl,v12_val (nv_of ha0 rfl) (nv_of ha1 rfl) (nvE (by rw [cj1_d];rfl)) (nvE (by rw [cj1_d];rfl)) (nv_of ha4 rfl) (nv_of ha5 rfl) (nvE (by rw [cj1_d];rfl)) (nvE (by rw [cj1_d];rfl)) (nv_of ha8 rfl) (nv_of ha9 rfl) (nvE (by rw [cj1_d];rfl)) (nvE (by rw [cj1_d];rfl))⟩
end Go.Proofs.YtnjocbcjejpklaaGreat
