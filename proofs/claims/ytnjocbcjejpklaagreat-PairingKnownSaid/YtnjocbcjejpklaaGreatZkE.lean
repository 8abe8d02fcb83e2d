/- Texts of the proof, joined. -/
import Derived.Test.YtnjocbcjejpklaaGreatZkD
set_option linter.all false
namespace Go.Proofs.YtnjocbcjejpklaaGreat
open Go.Rq Go
set_option maxRecDepth 100000
set_option linter.unusedVariables false
set_option linter.unusedSimpArgs false
def asP (u cs:List Cell):Prop:=∀ ρ:Ren,(V1.agg u).val ρ = (V1.agg cs).val ρ
theorem cv_nil:∀ ρ:Ren,cvals ρ [] = cvals ρ []:=fun _=>rfl
theorem cv_cons {f g:Nat->Nat} {cs ds:List Cell} (h:nv f = nv g) (r:∀ ρ:Ren,cvals ρ cs = cvals ρ ds):∀ ρ:Ren,cvals ρ (.ws .u64 6 f :: cs) = cvals ρ (.ws .u64 6 g :: ds):=fun ρ=>by
 have e:=nm_val h ρ
 simp only [AV.val,V1.val,cvals,List.append_nil] at e
 simp only [cvals]
 rw [r ρ]
 congr 1
 exact congrArg Array.toList (Value.agg.inj e)
theorem cv_one {s:Sc} {cs ds:List Cell} (r:∀ ρ:Ren,cvals ρ cs = cvals ρ ds):∀ ρ:Ren,cvals ρ (.one s :: cs) = cvals ρ (.one s :: ds):=fun ρ=>by
 simp only [cvals];rw [r ρ]
theorem endC {cs ds:List Cell} (h:∀ ρ:Ren,cvals ρ cs = cvals ρ ds):endN (.v1 (.agg cs)) (.v1 (.agg ds)):=⟨_,rfl,fun ρ=>by simp only [AV.val,V1.val,h ρ]⟩
theorem lt_zero:nv (fun _=>0) < pN:=by rw [zero_nv];exact pN_pos
theorem enc_0:enc 0 = 0:=(enc_of pN_pos (by rw [ofN_zero];show (0:Fp) = 0 * rr;rw [Fin.mul_comm];exact (Rg.mul_zero rr).symm)).symm
theorem dF_0:dF (fun _=>0) = 0:=by
 unfold dF
 rw [zero_nv,<-enc_0,dec_enc]
theorem nv_eF0:nv (eF 0) = 0:=by rw [nv_eF,enc_0]
theorem nv_one1:nv oneF = nv (eF 1):=by rw [one_enc,nv_eF]
theorem lt_one:nv oneF < pN:=by rw [one_enc];exact enc_lt 1
theorem nv_d {a:Nat->Nat} (h:nv a < pN):nv a = nv (eF (dF a)):=(eF_dF h).symm
theorem dF_inj {a b:Nat->Nat} (ha:nv a < pN) (hb:nv b < pN) (e:dF a = dF b):nv a = nv b:=by rw [nv_d ha,nv_d hb,e]
theorem eqE {a b:Nat->Nat} (ha:nv a < pN) (hb:nv b < pN):(eqN W 6 a b && true) = decide (dF a = dF b):=by
 rw [eqW_beq,Bool.eq_iff_iff,Nat.beq_eq,decide_eq_true_eq]
 exact ⟨fun e=>by unfold dF;rw [e],dF_inj ha hb⟩
theorem eqE_t {a b:Nat->Nat} (ha:nv a < pN) (hb:nv b < pN) (e:dF a = dF b):(eqN W 6 a b && true) = true:=by rw [eqE ha hb,e];exact decide_eq_true rfl
theorem eqE_f {a b:Nat->Nat} (ha:nv a < pN) (hb:nv b < pN) (e:dF a ≠ dF b):(eqN W 6 a b && true) = false:=by rw [eqE ha hb];exact decide_eq_false e
theorem zE_t {a:Nat->Nat} (ha:nv a < pN) (e:dF a = 0):(eqN W 6 a (fun _=>0) && true) = true:=eqE_t ha lt_zero (by rw [e,dF_0])
theorem zE_f {a:Nat->Nat} (ha:nv a < pN) (e:dF a ≠ 0):(eqN W 6 a (fun _=>0) && true) = false:=eqE_f ha lt_zero (by rw [dF_0];exact e)
theorem eqQ {a b c d:Nat->Nat} (ha:nv a < pN) (hb:nv b < pN) (hc:nv c < pN) (hd:nv d < pN):(eqN W 6 a c && (eqN W 6 b d && true)) = decide ((⟨dF a,dF b⟩:F2p) = ⟨dF c,dF d⟩):=by
 rw [eqE hb hd]
 have:=eqE ha hc
 rw [Bool.and_true] at this
 rw [this,Bool.eq_iff_iff,Bool.and_eq_true,decide_eq_true_eq,decide_eq_true_eq,decide_eq_true_eq,F2p.mk.injEq]
theorem eqQ_t {a b c d:Nat->Nat} (ha:nv a < pN) (hb:nv b < pN) (hc:nv c < pN) (hd:nv d < pN) (e:(⟨dF a,dF b⟩:F2p) = ⟨dF c,dF d⟩):(eqN W 6 a c && (eqN W 6 b d && true)) = true:=by rw [eqQ ha hb hc hd];exact decide_eq_true e
theorem eqQ_f {a b c d:Nat->Nat} (ha:nv a < pN) (hb:nv b < pN) (hc:nv c < pN) (hd:nv d < pN) (e:(⟨dF a,dF b⟩:F2p) ≠ ⟨dF c,dF d⟩):(eqN W 6 a c && (eqN W 6 b d && true)) = false:=by rw [eqQ ha hb hc hd];exact decide_eq_false e
theorem zQ_t {a b:Nat->Nat} (ha:nv a < pN) (hb:nv b < pN) (e:(⟨dF a,dF b⟩:F2p) = 0):(eqN W 6 a (fun _=>0) && (eqN W 6 b (fun _=>0) && true)) = true:=eqQ_t ha hb lt_zero lt_zero (by rw [e,dF_0];rfl)
theorem zQ_f {a b:Nat->Nat} (ha:nv a < pN) (hb:nv b < pN) (e:(⟨dF a,dF b⟩:F2p) ≠ 0):(eqN W 6 a (fun _=>0) && (eqN W 6 b (fun _=>0) && true)) = false:=eqQ_f ha hb lt_zero lt_zero (by rw [dF_0];exact e)
def F2p.sc (a:F2p) (n:Fp):F2p:=⟨a.x * n,a.y * n⟩
def F2p.ng' (a:F2p):F2p:=⟨0 - a.x,0 - a.y⟩
abbrev cells12 (s:S12):List Cell:=[.ws .u64 6 (eF s.p.u.x),.ws .u64 6 (eF s.p.u.y),.ws .u64 6 (eF s.q.u.x),.ws .u64 6 (eF s.q.u.y),.ws .u64 6 (eF s.p.v.x),.ws .u64 6 (eF s.p.v.y),.ws .u64 6 (eF s.q.v.x),.ws .u64 6 (eF s.q.v.y),.ws .u64 6 (eF s.p.w.x),.ws .u64 6 (eF s.p.w.y),.ws .u64 6 (eF s.q.w.x),.ws .u64 6 (eF s.q.w.y)]
theorem d12_eF (s:S12):d12 (eF s.p.u.x) (eF s.p.u.y) (eF s.q.u.x) (eF s.q.u.y) (eF s.p.v.x) (eF s.p.v.y) (eF s.q.v.x) (eF s.q.v.y) (eF s.p.w.x) (eF s.p.w.y) (eF s.q.w.x) (eF s.q.w.y) = s:=by
 unfold d12 d6
 simp only [dF_eF]
theorem asE {f g:Nat->Nat} (h:f = g):asP [.ws .u64 6 f] [.ws .u64 6 g]:=fun ρ=>by rw [h]
theorem asQ {f g f' g':Nat->Nat} (h:f = g) (h':f' = g'):asP [.ws .u64 6 f,.ws .u64 6 f'] [.ws .u64 6 g,.ws .u64 6 g']:=fun ρ=>by rw [h,h']
section
variable {A B C D:Nat->Nat}
theorem as_mulE {s u t:Fp} (a:dF A = s) (b:dF B = u) (h:t = s * u):asP [.ws .u64 6 (eF (eMul (dF A) (dF B)))] [.ws .u64 6 (eF t)]:=asE (by rw [a,b,h];rfl)
theorem as_addE {s u t:Fp} (a:dF A = s) (b:dF B = u) (h:t = s + u):asP [.ws .u64 6 (eF (eAdd (dF A) (dF B)))] [.ws .u64 6 (eF t)]:=asE (by rw [a,b,h];rfl)
theorem as_subE {s u t:Fp} (a:dF A = s) (b:dF B = u) (h:t = s - u):asP [.ws .u64 6 (eF (eSub (dF A) (dF B)))] [.ws .u64 6 (eF t)]:=asE (by rw [a,b,h];rfl)
theorem as_invE {s t:Fp} (a:dF A = s) (h:t = eInv s):asP [.ws .u64 6 (eF (eInv (dF A)))] [.ws .u64 6 (eF t)]:=asE (by rw [a,h])
theorem as_mulQ {s u t:F2p} (a:dF A = s.x) (b:dF B = s.y) (c:dF C = u.x) (d:dF D = u.y) (h:t = s * u):asP [.ws .u64 6 (eF (mul2x (dF A) (dF B) (dF C) (dF D))),.ws .u64 6 (eF (mul2y (dF A) (dF B) (dF C) (dF D)))] [.ws .u64 6 (eF t.x),.ws .u64 6 (eF t.y)]:=asQ (by rw [a,b,c,d,h];rfl) (by rw [a,b,c,d,h];rfl)
theorem as_addQ {s u t:F2p} (a:dF A = s.x) (b:dF B = s.y) (c:dF C = u.x) (d:dF D = u.y) (h:t = s + u):asP [.ws .u64 6 (eF (add2x (dF A) (dF B) (dF C) (dF D))),.ws .u64 6 (eF (add2y (dF A) (dF B) (dF C) (dF D)))] [.ws .u64 6 (eF t.x),.ws .u64 6 (eF t.y)]:=asQ (by rw [a,b,c,d,h];rfl) (by rw [a,b,c,d,h];rfl)
theorem as_subQ {s u t:F2p} (a:dF A = s.x) (b:dF B = s.y) (c:dF C = u.x) (d:dF D = u.y) (h:t = s - u):asP [.ws .u64 6 (eF (sub2x (dF A) (dF B) (dF C) (dF D))),.ws .u64 6 (eF (sub2y (dF A) (dF B) (dF C) (dF D)))] [.ws .u64 6 (eF t.x),.ws .u64 6 (eF t.y)]:=asQ (by rw [a,b,c,d,h];rfl) (by rw [a,b,c,d,h];rfl)
theorem as_invQ {s t:F2p} (a:dF A = s.x) (b:dF B = s.y) (h:t = F2p.inv s):asP [.ws .u64 6 (eF (inv2x (dF A) (dF B))),.ws .u64 6 (eF (inv2y (dF A) (dF B)))] [.ws .u64 6 (eF t.x),.ws .u64 6 (eF t.y)]:=asQ (by rw [a,b,h];rfl) (by rw [a,b,h];rfl)
theorem as_negQ {s t:F2p} (a:dF A = s.x) (b:dF B = s.y) (h:t = F2p.ng' s):asP [.ws .u64 6 (eF (neg2x (dF A) (dF B))),.ws .u64 6 (eF (neg2y (dF A) (dF B)))] [.ws .u64 6 (eF t.x),.ws .u64 6 (eF t.y)]:=asQ (by rw [a,b,h];rfl) (by rw [a,b,h];rfl)
theorem as_scaleQ {s t:F2p} {n:Fp} (a:dF A = s.x) (b:dF B = s.y) (c:dF C = n) (h:t = F2p.sc s n):asP [.ws .u64 6 (eF (sc2x (dF A) (dF B) (dF C))),.ws .u64 6 (eF (sc2y (dF A) (dF B) (dF C)))] [.ws .u64 6 (eF t.x),.ws .u64 6 (eF t.y)]:=asQ (by rw [a,b,c,h];rfl) (by rw [a,b,c,h];rfl)
end
def of3 (a b c:Nat->Nat):Nat->Nat->Nat
 | 0=>a
 | 1=>b
 | _=>c
def of6 (a b c d e f:Nat->Nat):Nat->Nat->Nat
 | 0=>a
 | 1=>b
 | 2=>c
 | 3=>d
 | 4=>e
 | _=>f
abbrev csE (g:Nat->Nat->Nat):List Cell:=[.ws .u64 6 (g 0),.ws .u64 6 (g 1),.ws .u64 6 (g 2)]
abbrev csQ (g:Nat->Nat->Nat):List Cell:=[.ws .u64 6 (g 0),.ws .u64 6 (g 1),.ws .u64 6 (g 2),.ws .u64 6 (g 3),.ws .u64 6 (g 4),.ws .u64 6 (g 5)]
def JvE (g:Nat->Nat->Nat):J3 Fp:=⟨dF (g 0),dF (g 1),dF (g 2)⟩
def JvQ (g:Nat->Nat->Nat):J3 F2p:=⟨⟨dF (g 0),dF (g 1)⟩,⟨dF (g 2),dF (g 3)⟩,⟨dF (g 4),dF (g 5)⟩⟩
def selE (p:J3 Fp):Nat->Nat->Nat:=of3 (eF p.x) (eF p.y) (eF p.z)
def selQ (p:J3 F2p):Nat->Nat->Nat:=of6 (eF p.x.x) (eF p.x.y) (eF p.y.x) (eF p.y.y) (eF p.z.x) (eF p.z.y)
theorem JvE_sel (p:J3 Fp):JvE (selE p) = p:=by
 show (⟨dF (eF p.x),dF (eF p.y),dF (eF p.z)⟩:J3 Fp) = p
 rw [dF_eF,dF_eF,dF_eF]
theorem JvQ_sel (p:J3 F2p):JvQ (selQ p) = p:=by
 show (⟨⟨dF (eF p.x.x),dF (eF p.x.y)⟩,⟨dF (eF p.y.x),dF (eF p.y.y)⟩,⟨dF (eF p.z.x),dF (eF p.z.y)⟩⟩:J3 F2p) = p
 rw [dF_eF,dF_eF,dF_eF,dF_eF,dF_eF,dF_eF]
def LtE (g:Nat->Nat->Nat):Prop:=nv (g 0) < pN/\nv (g 1) < pN/\nv (g 2) < pN
def LtQ (g:Nat->Nat->Nat):Prop:=nv (g 0) < pN/\nv (g 1) < pN/\nv (g 2) < pN/\nv (g 3) < pN/\nv (g 4) < pN/\nv (g 5) < pN
theorem LtE_of {a b c:Nat->Nat} (ha:nv a < pN) (hb:nv b < pN) (hc:nv c < pN):LtE (of3 a b c):=⟨ha,hb,hc⟩
theorem LtQ_of {a b c d e f:Nat->Nat} (ha:nv a < pN) (hb:nv b < pN) (hc:nv c < pN) (hd:nv d < pN) (he:nv e < pN) (hf:nv f < pN):LtQ (of6 a b c d e f):=⟨ha,hb,hc,hd,he,hf⟩
theorem on_f {F:Type} [CR F] [DecidableEq F] (b x y:F):A2.on b ⟨x,y,false⟩ = decide (y * y = x * x * x + b):=rfl
theorem on_t {F:Type} [CR F] [DecidableEq F] (b x y:F):A2.on b ⟨x,y,true⟩ = (decide (x = 0) && decide (y = 0)):=rfl
theorem JvE_of {a b c:Nat->Nat}:JvE (of3 a b c) = ⟨dF a,dF b,dF c⟩:=rfl
theorem JvQ_of {a b c d e f:Nat->Nat}:JvQ (of6 a b c d e f) = ⟨⟨dF a,dF b⟩,⟨dF c,dF d⟩,⟨dF e,dF f⟩⟩:=rfl
theorem LtE_sel (p:J3 Fp):LtE (selE p):=⟨lt_eF _,lt_eF _,lt_eF _⟩
theorem LtQ_sel (p:J3 F2p):LtQ (selQ p):=⟨lt_eF _,lt_eF _,lt_eF _,lt_eF _,lt_eF _,lt_eF _⟩
theorem one_Q:(⟨dF oneF,dF (fun _=>0)⟩:F2p) = 1:=by rw [dF_one,dF_0];rfl
theorem zero_Q:(⟨dF (fun _=>0),dF (fun _=>0)⟩:F2p) = 0:=by rw [dF_0];rfl
theorem blen_le' (e:Nat->Nat):blen (nv e) <= 384:=by
 have:=nv_lt e;rw [R_pow] at this
 have:=blen_lt this;rw [E_eq] at this;exact this
theorem ilt_nn2 (k:Nat):(!ilt (Int.ofNat k) 0) = true:=by rw [ilt_not (by simp)];rfl
theorem endB {b c:Bool} (h:b = c):endN (.v1 (.sc (.bo b))) (.v1 (.sc (.bo c))):=⟨_,rfl,fun _=>by rw [h]⟩
theorem nilQ:(J3.nil:J3 F2p) = ⟨1,1,0⟩:=rfl
theorem nilE:(J3.nil:J3 Fp) = ⟨1,1,0⟩:=rfl
theorem q1x:nv oneF = nv (eF (1:F2p).x):=by rw [F2p.one_x];exact nv_one1
theorem q1y:nv (fun _=>0) = nv (eF (1:F2p).y):=by rw [F2p.one_y,nv_eF0,zero_nv]
theorem q0x:nv (fun _=>0) = nv (eF (0:F2p).x):=by rw [F2p.zero_x,nv_eF0,zero_nv]
theorem q0y:nv (fun _=>0) = nv (eF (0:F2p).y):=by rw [F2p.zero_y,nv_eF0,zero_nv]
theorem e0x:nv (fun _=>0) = nv (eF 0):=by rw [nv_eF0,zero_nv]
theorem nv_t {s t:Fp} (h:s = t):nv (eF s) = nv (eF t):=by rw [h]
theorem nv_tx {s t:F2p} (h:s = t):nv (eF s.x) = nv (eF t.x):=by rw [h]
theorem nv_ty {s t:F2p} (h:s = t):nv (eF s.y) = nv (eF t.y):=by rw [h]
end Go.Proofs.YtnjocbcjejpklaaGreat
namespace Go.Proofs.YtnjocbcjejpklaaGreat
open Go.Rq Go
set_option maxRecDepth 100000
set_option linter.unusedVariables false
set_option linter.unusedSimpArgs false
set_option maxHeartbeats 4000000
abbrev fdE:List Cell:=[.one (.fn 100 []),.one (.fn 101 []),.one (.fn 102 []),.one (.fn 103 []),.ws .u64 6 oneF,.ws .u64 6 (eF (ofN (nv (wd (4 % W)))))]
def jE1 (F:J3 Fp->J3 Fp):List AV->Option (List Prop × AV)
 | [.v1 (.agg cs),.v1 (.agg [.ws .u64 6 x,.ws .u64 6 y,.ws .u64 6 z])]=>some ([cs = fdE,nv x < pN,nv y < pN,nv z < pN],.v1 (.agg [.ws .u64 6 (eF (F (⟨(dF x),(dF y),(dF z)⟩:J3 Fp)).x),.ws .u64 6 (eF (F (⟨(dF x),(dF y),(dF z)⟩:J3 Fp)).y),.ws .u64 6 (eF (F (⟨(dF x),(dF y),(dF z)⟩:J3 Fp)).z)]))
 | _=>none
def jE2 (F:J3 Fp->J3 Fp->J3 Fp):List AV->Option (List Prop × AV)
 | [.v1 (.agg cs),.v1 (.agg [.ws .u64 6 x,.ws .u64 6 y,.ws .u64 6 z]),.v1 (.agg [.ws .u64 6 u,.ws .u64 6 v,.ws .u64 6 w])]=>some ([cs = fdE,nv x < pN,nv y < pN,nv z < pN,nv u < pN,nv v < pN,nv w < pN],.v1 (.agg [.ws .u64 6 (eF (F (⟨(dF x),(dF y),(dF z)⟩:J3 Fp) (⟨(dF u),(dF v),(dF w)⟩:J3 Fp)).x),.ws .u64 6 (eF (F (⟨(dF x),(dF y),(dF z)⟩:J3 Fp) (⟨(dF u),(dF v),(dF w)⟩:J3 Fp)).y),.ws .u64 6 (eF (F (⟨(dF x),(dF y),(dF z)⟩:J3 Fp) (⟨(dF u),(dF v),(dF w)⟩:J3 Fp)).z)]))
 | _=>none
def GCE:List (Nat × CallC):=[(100,.pure (el2 eAdd)),(101,.pure (el2 eSub)),(102,.pure (cEMul)),(103,.pure (el1 eInv))]
theorem GCE_ok:CtxOk Tryz.prog (ctxL GCE):=ctxL_cons okEAdd <| ctxL_cons okESub <| ctxL_cons okEMul <| ctxL_cons okEInv ctxL_nil
theorem okTwE:(CallC.pure (jE1 J3.dbl)).Ok Tryz.prog 163:=by
 intro args pre v e hp
 unfold jE1 at e
 split at e
 rotate_left
 ·cases e
 rename_i cs x y z
 cases e
 have hcs:cs = fdE:=hp _ (by simp)
 subst hcs
 have hx:nv x < pN:=hp (nv x < pN) (by simp)
 have hy:nv y < pN:=hp (nv y < pN) (by simp)
 have hz:nv z < pN:=hp (nv z < pN) (by simp)
 refine pure_walk' tt_ok Tryz.func163 (by kernel_rfl) (by kernel_rfl) (by rfl) (by rfl) ?_
 obtain ⟨t1,ht1⟩:∃ q_:Fp,q_ = (dF y) * (dF y):=⟨_,rfl⟩
 obtain ⟨t2,ht2⟩:∃ q_:Fp,q_ = (dF x) * t1:=⟨_,rfl⟩
 obtain ⟨t3,ht3⟩:∃ q_:Fp,q_ = t2 + t2:=⟨_,rfl⟩
 obtain ⟨t4,ht4⟩:∃ q_:Fp,q_ = t3 + t3:=⟨_,rfl⟩
 obtain ⟨t5,ht5⟩:∃ q_:Fp,q_ = (dF x) * (dF x):=⟨_,rfl⟩
 obtain ⟨t6,ht6⟩:∃ q_:Fp,q_ = t5 + t5:=⟨_,rfl⟩
 obtain ⟨t7,ht7⟩:∃ q_:Fp,q_ = t6 + t5:=⟨_,rfl⟩
 obtain ⟨t8,ht8⟩:∃ q_:Fp,q_ = t7 * t7:=⟨_,rfl⟩
 obtain ⟨t9,ht9⟩:∃ q_:Fp,q_ = t4 + t4:=⟨_,rfl⟩
 obtain ⟨t10,ht10⟩:∃ q_:Fp,q_ = t8 - t9:=⟨_,rfl⟩
 obtain ⟨t11,ht11⟩:∃ q_:Fp,q_ = t1 * t1:=⟨_,rfl⟩
 obtain ⟨t12,ht12⟩:∃ q_:Fp,q_ = t11 + t11:=⟨_,rfl⟩
 obtain ⟨t13,ht13⟩:∃ q_:Fp,q_ = t12 + t12:=⟨_,rfl⟩
 obtain ⟨t14,ht14⟩:∃ q_:Fp,q_ = t13 + t13:=⟨_,rfl⟩
 obtain ⟨t15,ht15⟩:∃ q_:Fp,q_ = (dF y) * (dF z):=⟨_,rfl⟩
 obtain ⟨t16,ht16⟩:∃ q_:Fp,q_ = t4 - t10:=⟨_,rfl⟩
 obtain ⟨t17,ht17⟩:∃ q_:Fp,q_ = t7 * t16:=⟨_,rfl⟩
 obtain ⟨t18,ht18⟩:∃ q_:Fp,q_ = t17 - t14:=⟨_,rfl⟩
 obtain ⟨t19,ht19⟩:∃ q_:Fp,q_ = t15 + t15:=⟨_,rfl⟩
 refine evS_q mixed tt_ok GCE_ok 200 [⟨1,6,.as [.ws .u64 6 (eF t1)]⟩,⟨2,5,.as [.ws .u64 6 (eF t2)]⟩,⟨3,4,.as [.ws .u64 6 (eF t3)]⟩,⟨4,4,.as [.ws .u64 6 (eF t4)]⟩,⟨5,6,.as [.ws .u64 6 (eF t5)]⟩,⟨6,6,.as [.ws .u64 6 (eF t6)]⟩,⟨6,8,.as [.ws .u64 6 (eF t7)]⟩,⟨7,6,.as [.ws .u64 6 (eF t8)]⟩,⟨7,11,.as [.ws .u64 6 (eF t9)]⟩,⟨7,12,.as [.ws .u64 6 (eF t10)]⟩,⟨8,4,.as [.ws .u64 6 (eF t11)]⟩,⟨9,4,.as [.ws .u64 6 (eF t12)]⟩,⟨10,4,.as [.ws .u64 6 (eF t13)]⟩,⟨11,4,.as [.ws .u64 6 (eF t14)]⟩,⟨12,6,.as [.ws .u64 6 (eF t15)]⟩,⟨13,10,.as [.ws .u64 6 (eF t16)]⟩,⟨13,11,.as [.ws .u64 6 (eF t17)]⟩,⟨13,13,.as [.ws .u64 6 (eF t18)]⟩,⟨13,18,.as [.ws .u64 6 (eF t19)]⟩] ?_
 refine same (p:=asP [.ws .u64 6 (eF (eMul (dF y) (dF y)))] [.ws .u64 6 (eF t1)]/\nv y < pN/\asP [.ws .u64 6 (eF (eMul (dF x) (dF (eF t1))))] [.ws .u64 6 (eF t2)]/\nv x < pN/\asP [.ws .u64 6 (eF (eAdd (dF (eF t2)) (dF (eF t2))))] [.ws .u64 6 (eF t3)]/\nv (eF t2) < pN/\nv (eF t2) < pN/\asP [.ws .u64 6 (eF (eAdd (dF (eF t3)) (dF (eF t3))))] [.ws .u64 6 (eF t4)]/\nv (eF t3) < pN/\nv (eF t3) < pN/\asP [.ws .u64 6 (eF (eMul (dF x) (dF x)))] [.ws .u64 6 (eF t5)]/\nv x < pN/\asP [.ws .u64 6 (eF (eAdd (dF (eF t5)) (dF (eF t5))))] [.ws .u64 6 (eF t6)]/\nv (eF t5) < pN/\nv (eF t5) < pN/\asP [.ws .u64 6 (eF (eAdd (dF (eF t6)) (dF (eF t5))))] [.ws .u64 6 (eF t7)]/\nv (eF t6) < pN/\nv (eF t5) < pN/\asP [.ws .u64 6 (eF (eMul (dF (eF t7)) (dF (eF t7))))] [.ws .u64 6 (eF t8)]/\nv (eF t7) < pN/\asP [.ws .u64 6 (eF (eAdd (dF (eF t4)) (dF (eF t4))))] [.ws .u64 6 (eF t9)]/\nv (eF t4) < pN/\nv (eF t4) < pN/\asP [.ws .u64 6 (eF (eSub (dF (eF t8)) (dF (eF t9))))] [.ws .u64 6 (eF t10)]/\nv (eF t8) < pN/\nv (eF t9) < pN/\asP [.ws .u64 6 (eF (eMul (dF (eF t1)) (dF (eF t1))))] [.ws .u64 6 (eF t11)]/\nv (eF t1) < pN/\asP [.ws .u64 6 (eF (eAdd (dF (eF t11)) (dF (eF t11))))] [.ws .u64 6 (eF t12)]/\nv (eF t11) < pN/\nv (eF t11) < pN/\asP [.ws .u64 6 (eF (eAdd (dF (eF t12)) (dF (eF t12))))] [.ws .u64 6 (eF t13)]/\nv (eF t12) < pN/\nv (eF t12) < pN/\asP [.ws .u64 6 (eF (eAdd (dF (eF t13)) (dF (eF t13))))] [.ws .u64 6 (eF t14)]/\nv (eF t13) < pN/\nv (eF t13) < pN/\asP [.ws .u64 6 (eF (eMul (dF y) (dF z)))] [.ws .u64 6 (eF t15)]/\nv y < pN/\asP [.ws .u64 6 (eF (eSub (dF (eF t4)) (dF (eF t10))))] [.ws .u64 6 (eF t16)]/\nv (eF t4) < pN/\nv (eF t10) < pN/\asP [.ws .u64 6 (eF (eMul (dF (eF t7)) (dF (eF t16))))] [.ws .u64 6 (eF t17)]/\nv (eF t7) < pN/\asP [.ws .u64 6 (eF (eSub (dF (eF t17)) (dF (eF t14))))] [.ws .u64 6 (eF t18)]/\nv (eF t17) < pN/\nv (eF t14) < pN/\asP [.ws .u64 6 (eF (eAdd (dF (eF t15)) (dF (eF t15))))] [.ws .u64 6 (eF t19)]/\nv (eF t15) < pN/\nv (eF t15) < pN/\endN (.v1 (.agg [.ws .u64 6 (eF t10),.ws .u64 6 (eF t18),.ws .u64 6 (eF t19)])) (.v1 (.agg [.ws .u64 6 (eF (J3.dbl (⟨(dF x),(dF y),(dF z)⟩:J3 Fp)).x),.ws .u64 6 (eF (J3.dbl (⟨(dF x),(dF y),(dF z)⟩:J3 Fp)).y),.ws .u64 6 (eF (J3.dbl (⟨(dF x),(dF y),(dF z)⟩:J3 Fp)).z)]))) ?_ (by kernel_rfl)
 exact ⟨as_mulE rfl rfl ht1,hy,as_mulE rfl (dF_eF _) ht2,hx,as_addE (dF_eF _) (dF_eF _) ht3,lt_eF _,lt_eF _,as_addE (dF_eF _) (dF_eF _) ht4,lt_eF _,lt_eF _,as_mulE rfl rfl ht5,hx,as_addE (dF_eF _) (dF_eF _) ht6,lt_eF _,lt_eF _,as_addE (dF_eF _) (dF_eF _) ht7,lt_eF _,lt_eF _,as_mulE (dF_eF _) (dF_eF _) ht8,lt_eF _,as_addE (dF_eF _) (dF_eF _) ht9,lt_eF _,lt_eF _,as_subE (dF_eF _) (dF_eF _) ht10,lt_eF _,lt_eF _,as_mulE (dF_eF _) (dF_eF _) ht11,lt_eF _,as_addE (dF_eF _) (dF_eF _) ht12,lt_eF _,lt_eF _,as_addE (dF_eF _) (dF_eF _) ht13,lt_eF _,lt_eF _,as_addE (dF_eF _) (dF_eF _) ht14,lt_eF _,lt_eF _,as_mulE rfl rfl ht15,hy,as_subE (dF_eF _) (dF_eF _) ht16,lt_eF _,lt_eF _,as_mulE (dF_eF _) (dF_eF _) ht17,lt_eF _,as_subE (dF_eF _) (dF_eF _) ht18,lt_eF _,lt_eF _,as_addE (dF_eF _) (dF_eF _) ht19,lt_eF _,lt_eF _,endC (cv_cons (nv_t (by subst ht19 ht18 ht17 ht16 ht15 ht14 ht13 ht12 ht11 ht10 ht9 ht8 ht7 ht6 ht5 ht4 ht3 ht2 ht1;rfl)) (cv_cons (nv_t (by subst ht19 ht18 ht17 ht16 ht15 ht14 ht13 ht12 ht11 ht10 ht9 ht8 ht7 ht6 ht5 ht4 ht3 ht2 ht1;rfl)) (cv_cons (nv_t (by subst ht19 ht18 ht17 ht16 ht15 ht14 ht13 ht12 ht11 ht10 ht9 ht8 ht7 ht6 ht5 ht4 ht3 ht2 ht1;rfl)) (cv_nil))))⟩
def GSE:List (Nat × CallC):=(163,.pure (jE1 J3.dbl)) :: GCE
theorem GSE_ok:CtxOk Tryz.prog (ctxL GSE):=ctxL_cons okTwE GCE_ok
theorem okSmE:(CallC.pure (jE2 J3.add)).Ok Tryz.prog 164:=by
 intro args pre v e hp
 unfold jE2 at e
 split at e
 rotate_left
 ·cases e
 rename_i cs x y z u v w
 cases e
 have hcs:cs = fdE:=hp _ (by simp)
 subst hcs
 have hx:nv x < pN:=hp (nv x < pN) (by simp)
 have hy:nv y < pN:=hp (nv y < pN) (by simp)
 have hz:nv z < pN:=hp (nv z < pN) (by simp)
 have hu:nv u < pN:=hp (nv u < pN) (by simp)
 have hv:nv v < pN:=hp (nv v < pN) (by simp)
 have hw:nv w < pN:=hp (nv w < pN) (by simp)
 refine pure_walk' tt_ok Tryz.func164 (by kernel_rfl) (by kernel_rfl) (by rfl) (by rfl) ?_
 by_cases hZZ:(dF z) = 0
 ·have hadd:J3.add (⟨(dF x),(dF y),(dF z)⟩:J3 Fp) (⟨(dF u),(dF v),(dF w)⟩:J3 Fp) = (⟨(dF u),(dF v),(dF w)⟩:J3 Fp):=if_pos hZZ
  rw [hadd]
  refine evS_q mixed tt_ok GSE_ok 100 [⟨2,3,.lit (.bo true)⟩] ?_
  refine same (p:=(eqN W 6 z (fun _=>0) && true) = true/\endN (.v1 (.agg [.ws .u64 6 u,.ws .u64 6 v,.ws .u64 6 w])) (.v1 (.agg [.ws .u64 6 (eF ((⟨(dF u),(dF v),(dF w)⟩:J3 Fp)).x),.ws .u64 6 (eF ((⟨(dF u),(dF v),(dF w)⟩:J3 Fp)).y),.ws .u64 6 (eF ((⟨(dF u),(dF v),(dF w)⟩:J3 Fp)).z)]))) ?_ (by kernel_rfl)
  exact ⟨zE_t hz hZZ,endC (cv_cons (nv_d hu) (cv_cons (nv_d hv) (cv_cons (nv_d hw) (cv_nil))))⟩
 ·by_cases hWW:(dF w) = 0
  ·have hadd:J3.add (⟨(dF x),(dF y),(dF z)⟩:J3 Fp) (⟨(dF u),(dF v),(dF w)⟩:J3 Fp) = (⟨(dF x),(dF y),(dF z)⟩:J3 Fp):=(if_neg hZZ).trans (if_pos hWW)
   rw [hadd]
   refine evS_q mixed tt_ok GSE_ok 100 [⟨2,3,.lit (.bo false)⟩,⟨4,3,.lit (.bo true)⟩] ?_
   refine same (p:=(eqN W 6 z (fun _=>0) && true) = false/\(eqN W 6 w (fun _=>0) && true) = true/\endN (.v1 (.agg [.ws .u64 6 x,.ws .u64 6 y,.ws .u64 6 z])) (.v1 (.agg [.ws .u64 6 (eF ((⟨(dF x),(dF y),(dF z)⟩:J3 Fp)).x),.ws .u64 6 (eF ((⟨(dF x),(dF y),(dF z)⟩:J3 Fp)).y),.ws .u64 6 (eF ((⟨(dF x),(dF y),(dF z)⟩:J3 Fp)).z)]))) ?_ (by kernel_rfl)
   exact ⟨zE_f hz hZZ,zE_t hw hWW,endC (cv_cons (nv_d hx) (cv_cons (nv_d hy) (cv_cons (nv_d hz) (cv_nil))))⟩
  ·have hadd0:J3.add (⟨(dF x),(dF y),(dF z)⟩:J3 Fp) (⟨(dF u),(dF v),(dF w)⟩:J3 Fp) = if J3.hh (⟨(dF x),(dF y),(dF z)⟩:J3 Fp) (⟨(dF u),(dF v),(dF w)⟩:J3 Fp) = 0 then (if J3.rr (⟨(dF x),(dF y),(dF z)⟩:J3 Fp) (⟨(dF u),(dF v),(dF w)⟩:J3 Fp) = 0 then J3.dbl (⟨(dF x),(dF y),(dF z)⟩:J3 Fp) else J3.nil) else J3.gen (⟨(dF x),(dF y),(dF z)⟩:J3 Fp) (⟨(dF u),(dF v),(dF w)⟩:J3 Fp):=(if_neg hZZ).trans (if_neg hWW)
   by_cases hh0:J3.hh (⟨(dF x),(dF y),(dF z)⟩:J3 Fp) (⟨(dF u),(dF v),(dF w)⟩:J3 Fp) = 0
   ·by_cases hr0:J3.rr (⟨(dF x),(dF y),(dF z)⟩:J3 Fp) (⟨(dF u),(dF v),(dF w)⟩:J3 Fp) = 0
    ·have hadd:J3.add (⟨(dF x),(dF y),(dF z)⟩:J3 Fp) (⟨(dF u),(dF v),(dF w)⟩:J3 Fp) = J3.dbl (⟨(dF x),(dF y),(dF z)⟩:J3 Fp):=hadd0.trans ((if_pos hh0).trans (if_pos hr0))
     rw [hadd]
     obtain ⟨t1,ht1⟩:∃ q_:Fp,q_ = (dF z) * (dF z):=⟨_,rfl⟩
     obtain ⟨t2,ht2⟩:∃ q_:Fp,q_ = (dF w) * (dF w):=⟨_,rfl⟩
     obtain ⟨t3,ht3⟩:∃ q_:Fp,q_ = (dF x) * t2:=⟨_,rfl⟩
     obtain ⟨t4,ht4⟩:∃ q_:Fp,q_ = (dF u) * t1:=⟨_,rfl⟩
     obtain ⟨t5,ht5⟩:∃ q_:Fp,q_ = t2 * (dF w):=⟨_,rfl⟩
     obtain ⟨t6,ht6⟩:∃ q_:Fp,q_ = (dF y) * t5:=⟨_,rfl⟩
     obtain ⟨t7,ht7⟩:∃ q_:Fp,q_ = t1 * (dF z):=⟨_,rfl⟩
     obtain ⟨t8,ht8⟩:∃ q_:Fp,q_ = (dF v) * t7:=⟨_,rfl⟩
     obtain ⟨t9,ht9⟩:∃ q_:Fp,q_ = t4 - t3:=⟨_,rfl⟩
     obtain ⟨t10,ht10⟩:∃ q_:Fp,q_ = t8 - t6:=⟨_,rfl⟩
     refine evS_q mixed tt_ok GSE_ok 200 [⟨2,3,.lit (.bo false)⟩,⟨4,3,.lit (.bo false)⟩,⟨6,6,.as [.ws .u64 6 (eF t1)]⟩,⟨6,13,.as [.ws .u64 6 (eF t2)]⟩,⟨7,5,.as [.ws .u64 6 (eF t3)]⟩,⟨7,11,.as [.ws .u64 6 (eF t4)]⟩,⟨8,9,.as [.ws .u64 6 (eF t5)]⟩,⟨8,10,.as [.ws .u64 6 (eF t6)]⟩,⟨8,20,.as [.ws .u64 6 (eF t7)]⟩,⟨8,21,.as [.ws .u64 6 (eF t8)]⟩,⟨9,4,.as [.ws .u64 6 (eF t9)]⟩,⟨9,9,.as [.ws .u64 6 (eF t10)]⟩,⟨10,2,.lit (.bo true)⟩,⟨11,2,.lit (.bo true)⟩] ?_
     refine same (p:=(eqN W 6 z (fun _=>0) && true) = false/\(eqN W 6 w (fun _=>0) && true) = false/\asP [.ws .u64 6 (eF (eMul (dF z) (dF z)))] [.ws .u64 6 (eF t1)]/\nv z < pN/\asP [.ws .u64 6 (eF (eMul (dF w) (dF w)))] [.ws .u64 6 (eF t2)]/\nv w < pN/\asP [.ws .u64 6 (eF (eMul (dF x) (dF (eF t2))))] [.ws .u64 6 (eF t3)]/\nv x < pN/\asP [.ws .u64 6 (eF (eMul (dF u) (dF (eF t1))))] [.ws .u64 6 (eF t4)]/\nv u < pN/\asP [.ws .u64 6 (eF (eMul (dF (eF t2)) (dF w)))] [.ws .u64 6 (eF t5)]/\nv (eF t2) < pN/\asP [.ws .u64 6 (eF (eMul (dF y) (dF (eF t5))))] [.ws .u64 6 (eF t6)]/\nv y < pN/\asP [.ws .u64 6 (eF (eMul (dF (eF t1)) (dF z)))] [.ws .u64 6 (eF t7)]/\nv (eF t1) < pN/\asP [.ws .u64 6 (eF (eMul (dF v) (dF (eF t7))))] [.ws .u64 6 (eF t8)]/\nv v < pN/\asP [.ws .u64 6 (eF (eSub (dF (eF t4)) (dF (eF t3))))] [.ws .u64 6 (eF t9)]/\nv (eF t4) < pN/\nv (eF t3) < pN/\asP [.ws .u64 6 (eF (eSub (dF (eF t8)) (dF (eF t6))))] [.ws .u64 6 (eF t10)]/\nv (eF t8) < pN/\nv (eF t6) < pN/\(eqN W 6 (eF t9) (fun _=>0) && true) = true/\(eqN W 6 (eF t10) (fun _=>0) && true) = true/\fdE = fdE/\nv x < pN/\nv y < pN/\nv z < pN/\endN (.v1 (.agg [.ws .u64 6 (eF (J3.dbl (⟨(dF x),(dF y),(dF z)⟩:J3 Fp)).x),.ws .u64 6 (eF (J3.dbl (⟨(dF x),(dF y),(dF z)⟩:J3 Fp)).y),.ws .u64 6 (eF (J3.dbl (⟨(dF x),(dF y),(dF z)⟩:J3 Fp)).z)])) (.v1 (.agg [.ws .u64 6 (eF (J3.dbl (⟨(dF x),(dF y),(dF z)⟩:J3 Fp)).x),.ws .u64 6 (eF (J3.dbl (⟨(dF x),(dF y),(dF z)⟩:J3 Fp)).y),.ws .u64 6 (eF (J3.dbl (⟨(dF x),(dF y),(dF z)⟩:J3 Fp)).z)]))) ?_ (by kernel_rfl)
     exact ⟨zE_f hz hZZ,zE_f hw hWW,as_mulE rfl rfl ht1,hz,as_mulE rfl rfl ht2,hw,as_mulE rfl (dF_eF _) ht3,hx,as_mulE rfl (dF_eF _) ht4,hu,as_mulE (dF_eF _) rfl ht5,lt_eF _,as_mulE rfl (dF_eF _) ht6,hy,as_mulE (dF_eF _) rfl ht7,lt_eF _,as_mulE rfl (dF_eF _) ht8,hv,as_subE (dF_eF _) (dF_eF _) ht9,lt_eF _,lt_eF _,as_subE (dF_eF _) (dF_eF _) ht10,lt_eF _,lt_eF _,zE_t (lt_eF _) (by rw [dF_eF];subst ht10 ht9 ht8 ht7 ht6 ht5 ht4 ht3 ht2 ht1;exact hh0),zE_t (lt_eF _) (by rw [dF_eF];subst ht10 ht9 ht8 ht7 ht6 ht5 ht4 ht3 ht2 ht1;exact hr0),rfl,hx,hy,hz,_,rfl,fun _=>rfl⟩
    ·have hadd:J3.add (⟨(dF x),(dF y),(dF z)⟩:J3 Fp) (⟨(dF u),(dF v),(dF w)⟩:J3 Fp) = J3.nil:=hadd0.trans ((if_pos hh0).trans (if_neg hr0))
     rw [hadd,nilE]
     obtain ⟨t1,ht1⟩:∃ q_:Fp,q_ = (dF z) * (dF z):=⟨_,rfl⟩
     obtain ⟨t2,ht2⟩:∃ q_:Fp,q_ = (dF w) * (dF w):=⟨_,rfl⟩
     obtain ⟨t3,ht3⟩:∃ q_:Fp,q_ = (dF x) * t2:=⟨_,rfl⟩
     obtain ⟨t4,ht4⟩:∃ q_:Fp,q_ = (dF u) * t1:=⟨_,rfl⟩
     obtain ⟨t5,ht5⟩:∃ q_:Fp,q_ = t2 * (dF w):=⟨_,rfl⟩
     obtain ⟨t6,ht6⟩:∃ q_:Fp,q_ = (dF y) * t5:=⟨_,rfl⟩
     obtain ⟨t7,ht7⟩:∃ q_:Fp,q_ = t1 * (dF z):=⟨_,rfl⟩
     obtain ⟨t8,ht8⟩:∃ q_:Fp,q_ = (dF v) * t7:=⟨_,rfl⟩
     obtain ⟨t9,ht9⟩:∃ q_:Fp,q_ = t4 - t3:=⟨_,rfl⟩
     obtain ⟨t10,ht10⟩:∃ q_:Fp,q_ = t8 - t6:=⟨_,rfl⟩
     refine evS_q mixed tt_ok GSE_ok 200 [⟨2,3,.lit (.bo false)⟩,⟨4,3,.lit (.bo false)⟩,⟨6,6,.as [.ws .u64 6 (eF t1)]⟩,⟨6,13,.as [.ws .u64 6 (eF t2)]⟩,⟨7,5,.as [.ws .u64 6 (eF t3)]⟩,⟨7,11,.as [.ws .u64 6 (eF t4)]⟩,⟨8,9,.as [.ws .u64 6 (eF t5)]⟩,⟨8,10,.as [.ws .u64 6 (eF t6)]⟩,⟨8,20,.as [.ws .u64 6 (eF t7)]⟩,⟨8,21,.as [.ws .u64 6 (eF t8)]⟩,⟨9,4,.as [.ws .u64 6 (eF t9)]⟩,⟨9,9,.as [.ws .u64 6 (eF t10)]⟩,⟨10,2,.lit (.bo true)⟩,⟨11,2,.lit (.bo false)⟩] ?_
     refine same (p:=(eqN W 6 z (fun _=>0) && true) = false/\(eqN W 6 w (fun _=>0) && true) = false/\asP [.ws .u64 6 (eF (eMul (dF z) (dF z)))] [.ws .u64 6 (eF t1)]/\nv z < pN/\asP [.ws .u64 6 (eF (eMul (dF w) (dF w)))] [.ws .u64 6 (eF t2)]/\nv w < pN/\asP [.ws .u64 6 (eF (eMul (dF x) (dF (eF t2))))] [.ws .u64 6 (eF t3)]/\nv x < pN/\asP [.ws .u64 6 (eF (eMul (dF u) (dF (eF t1))))] [.ws .u64 6 (eF t4)]/\nv u < pN/\asP [.ws .u64 6 (eF (eMul (dF (eF t2)) (dF w)))] [.ws .u64 6 (eF t5)]/\nv (eF t2) < pN/\asP [.ws .u64 6 (eF (eMul (dF y) (dF (eF t5))))] [.ws .u64 6 (eF t6)]/\nv y < pN/\asP [.ws .u64 6 (eF (eMul (dF (eF t1)) (dF z)))] [.ws .u64 6 (eF t7)]/\nv (eF t1) < pN/\asP [.ws .u64 6 (eF (eMul (dF v) (dF (eF t7))))] [.ws .u64 6 (eF t8)]/\nv v < pN/\asP [.ws .u64 6 (eF (eSub (dF (eF t4)) (dF (eF t3))))] [.ws .u64 6 (eF t9)]/\nv (eF t4) < pN/\nv (eF t3) < pN/\asP [.ws .u64 6 (eF (eSub (dF (eF t8)) (dF (eF t6))))] [.ws .u64 6 (eF t10)]/\nv (eF t8) < pN/\nv (eF t6) < pN/\(eqN W 6 (eF t9) (fun _=>0) && true) = true/\(eqN W 6 (eF t10) (fun _=>0) && true) = false/\endN (.v1 (.agg [.ws .u64 6 oneF,.ws .u64 6 oneF,.ws .u64 6 (fun _=>0)])) (.v1 (.agg [.ws .u64 6 (eF ((⟨1,1,0⟩:J3 Fp)).x),.ws .u64 6 (eF ((⟨1,1,0⟩:J3 Fp)).y),.ws .u64 6 (eF ((⟨1,1,0⟩:J3 Fp)).z)]))) ?_ (by kernel_rfl)
     exact ⟨zE_f hz hZZ,zE_f hw hWW,as_mulE rfl rfl ht1,hz,as_mulE rfl rfl ht2,hw,as_mulE rfl (dF_eF _) ht3,hx,as_mulE rfl (dF_eF _) ht4,hu,as_mulE (dF_eF _) rfl ht5,lt_eF _,as_mulE rfl (dF_eF _) ht6,hy,as_mulE (dF_eF _) rfl ht7,lt_eF _,as_mulE rfl (dF_eF _) ht8,hv,as_subE (dF_eF _) (dF_eF _) ht9,lt_eF _,lt_eF _,as_subE (dF_eF _) (dF_eF _) ht10,lt_eF _,lt_eF _,zE_t (lt_eF _) (by rw [dF_eF];subst ht10 ht9 ht8 ht7 ht6 ht5 ht4 ht3 ht2 ht1;exact hh0),zE_f (lt_eF _) (by rw [dF_eF];subst ht10 ht9 ht8 ht7 ht6 ht5 ht4 ht3 ht2 ht1;exact hr0),endC (cv_cons nv_one1 (cv_cons nv_one1 (cv_cons e0x (cv_nil))))⟩
   ·have hadd:J3.add (⟨(dF x),(dF y),(dF z)⟩:J3 Fp) (⟨(dF u),(dF v),(dF w)⟩:J3 Fp) = J3.gen (⟨(dF x),(dF y),(dF z)⟩:J3 Fp) (⟨(dF u),(dF v),(dF w)⟩:J3 Fp):=hadd0.trans (if_neg hh0)
    rw [hadd]
    obtain ⟨t1,ht1⟩:∃ q_:Fp,q_ = (dF z) * (dF z):=⟨_,rfl⟩
    obtain ⟨t2,ht2⟩:∃ q_:Fp,q_ = (dF w) * (dF w):=⟨_,rfl⟩
    obtain ⟨t3,ht3⟩:∃ q_:Fp,q_ = (dF x) * t2:=⟨_,rfl⟩
    obtain ⟨t4,ht4⟩:∃ q_:Fp,q_ = (dF u) * t1:=⟨_,rfl⟩
    obtain ⟨t5,ht5⟩:∃ q_:Fp,q_ = t2 * (dF w):=⟨_,rfl⟩
    obtain ⟨t6,ht6⟩:∃ q_:Fp,q_ = (dF y) * t5:=⟨_,rfl⟩
    obtain ⟨t7,ht7⟩:∃ q_:Fp,q_ = t1 * (dF z):=⟨_,rfl⟩
    obtain ⟨t8,ht8⟩:∃ q_:Fp,q_ = (dF v) * t7:=⟨_,rfl⟩
    obtain ⟨t9,ht9⟩:∃ q_:Fp,q_ = t4 - t3:=⟨_,rfl⟩
    obtain ⟨t10,ht10⟩:∃ q_:Fp,q_ = t8 - t6:=⟨_,rfl⟩
    obtain ⟨t11,ht11⟩:∃ q_:Fp,q_ = t9 * t9:=⟨_,rfl⟩
    obtain ⟨t12,ht12⟩:∃ q_:Fp,q_ = t11 * t9:=⟨_,rfl⟩
    obtain ⟨t13,ht13⟩:∃ q_:Fp,q_ = t3 * t11:=⟨_,rfl⟩
    obtain ⟨t14,ht14⟩:∃ q_:Fp,q_ = t10 * t10:=⟨_,rfl⟩
    obtain ⟨t15,ht15⟩:∃ q_:Fp,q_ = t14 - t12:=⟨_,rfl⟩
    obtain ⟨t16,ht16⟩:∃ q_:Fp,q_ = t13 + t13:=⟨_,rfl⟩
    obtain ⟨t17,ht17⟩:∃ q_:Fp,q_ = t15 - t16:=⟨_,rfl⟩
    obtain ⟨t18,ht18⟩:∃ q_:Fp,q_ = t13 - t17:=⟨_,rfl⟩
    obtain ⟨t19,ht19⟩:∃ q_:Fp,q_ = t10 * t18:=⟨_,rfl⟩
    obtain ⟨t20,ht20⟩:∃ q_:Fp,q_ = t6 * t12:=⟨_,rfl⟩
    obtain ⟨t21,ht21⟩:∃ q_:Fp,q_ = t19 - t20:=⟨_,rfl⟩
    obtain ⟨t22,ht22⟩:∃ q_:Fp,q_ = (dF z) * (dF w):=⟨_,rfl⟩
    obtain ⟨t23,ht23⟩:∃ q_:Fp,q_ = t9 * t22:=⟨_,rfl⟩
    refine evS_q mixed tt_ok GSE_ok 300 [⟨2,3,.lit (.bo false)⟩,⟨4,3,.lit (.bo false)⟩,⟨6,6,.as [.ws .u64 6 (eF t1)]⟩,⟨6,13,.as [.ws .u64 6 (eF t2)]⟩,⟨7,5,.as [.ws .u64 6 (eF t3)]⟩,⟨7,11,.as [.ws .u64 6 (eF t4)]⟩,⟨8,9,.as [.ws .u64 6 (eF t5)]⟩,⟨8,10,.as [.ws .u64 6 (eF t6)]⟩,⟨8,20,.as [.ws .u64 6 (eF t7)]⟩,⟨8,21,.as [.ws .u64 6 (eF t8)]⟩,⟨9,4,.as [.ws .u64 6 (eF t9)]⟩,⟨9,9,.as [.ws .u64 6 (eF t10)]⟩,⟨10,2,.lit (.bo false)⟩,⟨14,4,.as [.ws .u64 6 (eF t11)]⟩,⟨15,4,.as [.ws .u64 6 (eF t12)]⟩,⟨16,4,.as [.ws .u64 6 (eF t13)]⟩,⟨17,8,.as [.ws .u64 6 (eF t14)]⟩,⟨17,10,.as [.ws .u64 6 (eF t15)]⟩,⟨17,15,.as [.ws .u64 6 (eF t16)]⟩,⟨17,16,.as [.ws .u64 6 (eF t17)]⟩,⟨18,10,.as [.ws .u64 6 (eF t18)]⟩,⟨18,11,.as [.ws .u64 6 (eF t19)]⟩,⟨18,16,.as [.ws .u64 6 (eF t20)]⟩,⟨18,17,.as [.ws .u64 6 (eF t21)]⟩,⟨18,27,.as [.ws .u64 6 (eF t22)]⟩,⟨18,28,.as [.ws .u64 6 (eF t23)]⟩] ?_
    refine same (p:=(eqN W 6 z (fun _=>0) && true) = false/\(eqN W 6 w (fun _=>0) && true) = false/\asP [.ws .u64 6 (eF (eMul (dF z) (dF z)))] [.ws .u64 6 (eF t1)]/\nv z < pN/\asP [.ws .u64 6 (eF (eMul (dF w) (dF w)))] [.ws .u64 6 (eF t2)]/\nv w < pN/\asP [.ws .u64 6 (eF (eMul (dF x) (dF (eF t2))))] [.ws .u64 6 (eF t3)]/\nv x < pN/\asP [.ws .u64 6 (eF (eMul (dF u) (dF (eF t1))))] [.ws .u64 6 (eF t4)]/\nv u < pN/\asP [.ws .u64 6 (eF (eMul (dF (eF t2)) (dF w)))] [.ws .u64 6 (eF t5)]/\nv (eF t2) < pN/\asP [.ws .u64 6 (eF (eMul (dF y) (dF (eF t5))))] [.ws .u64 6 (eF t6)]/\nv y < pN/\asP [.ws .u64 6 (eF (eMul (dF (eF t1)) (dF z)))] [.ws .u64 6 (eF t7)]/\nv (eF t1) < pN/\asP [.ws .u64 6 (eF (eMul (dF v) (dF (eF t7))))] [.ws .u64 6 (eF t8)]/\nv v < pN/\asP [.ws .u64 6 (eF (eSub (dF (eF t4)) (dF (eF t3))))] [.ws .u64 6 (eF t9)]/\nv (eF t4) < pN/\nv (eF t3) < pN/\asP [.ws .u64 6 (eF (eSub (dF (eF t8)) (dF (eF t6))))] [.ws .u64 6 (eF t10)]/\nv (eF t8) < pN/\nv (eF t6) < pN/\(eqN W 6 (eF t9) (fun _=>0) && true) = false/\asP [.ws .u64 6 (eF (eMul (dF (eF t9)) (dF (eF t9))))] [.ws .u64 6 (eF t11)]/\nv (eF t9) < pN/\asP [.ws .u64 6 (eF (eMul (dF (eF t11)) (dF (eF t9))))] [.ws .u64 6 (eF t12)]/\nv (eF t11) < pN/\asP [.ws .u64 6 (eF (eMul (dF (eF t3)) (dF (eF t11))))] [.ws .u64 6 (eF t13)]/\nv (eF t3) < pN/\asP [.ws .u64 6 (eF (eMul (dF (eF t10)) (dF (eF t10))))] [.ws .u64 6 (eF t14)]/\nv (eF t10) < pN/\asP [.ws .u64 6 (eF (eSub (dF (eF t14)) (dF (eF t12))))] [.ws .u64 6 (eF t15)]/\nv (eF t14) < pN/\nv (eF t12) < pN/\asP [.ws .u64 6 (eF (eAdd (dF (eF t13)) (dF (eF t13))))] [.ws .u64 6 (eF t16)]/\nv (eF t13) < pN/\nv (eF t13) < pN/\asP [.ws .u64 6 (eF (eSub (dF (eF t15)) (dF (eF t16))))] [.ws .u64 6 (eF t17)]/\nv (eF t15) < pN/\nv (eF t16) < pN/\asP [.ws .u64 6 (eF (eSub (dF (eF t13)) (dF (eF t17))))] [.ws .u64 6 (eF t18)]/\nv (eF t13) < pN/\nv (eF t17) < pN/\asP [.ws .u64 6 (eF (eMul (dF (eF t10)) (dF (eF t18))))] [.ws .u64 6 (eF t19)]/\nv (eF t10) < pN/\asP [.ws .u64 6 (eF (eMul (dF (eF t6)) (dF (eF t12))))] [.ws .u64 6 (eF t20)]/\nv (eF t6) < pN/\asP [.ws .u64 6 (eF (eSub (dF (eF t19)) (dF (eF t20))))] [.ws .u64 6 (eF t21)]/\nv (eF t19) < pN/\nv (eF t20) < pN/\asP [.ws .u64 6 (eF (eMul (dF z) (dF w)))] [.ws .u64 6 (eF t22)]/\nv z < pN/\asP [.ws .u64 6 (eF (eMul (dF (eF t9)) (dF (eF t22))))] [.ws .u64 6 (eF t23)]/\nv (eF t9) < pN/\endN (.v1 (.agg [.ws .u64 6 (eF t17),.ws .u64 6 (eF t21),.ws .u64 6 (eF t23)])) (.v1 (.agg [.ws .u64 6 (eF (J3.gen (⟨(dF x),(dF y),(dF z)⟩:J3 Fp) (⟨(dF u),(dF v),(dF w)⟩:J3 Fp)).x),.ws .u64 6 (eF (J3.gen (⟨(dF x),(dF y),(dF z)⟩:J3 Fp) (⟨(dF u),(dF v),(dF w)⟩:J3 Fp)).y),.ws .u64 6 (eF (J3.gen (⟨(dF x),(dF y),(dF z)⟩:J3 Fp) (⟨(dF u),(dF v),(dF w)⟩:J3 Fp)).z)]))) ?_ (by kernel_rfl)
    exact ⟨zE_f hz hZZ,zE_f hw hWW,as_mulE rfl rfl ht1,hz,as_mulE rfl rfl ht2,hw,as_mulE rfl (dF_eF _) ht3,hx,as_mulE rfl (dF_eF _) ht4,hu,as_mulE (dF_eF _) rfl ht5,lt_eF _,as_mulE rfl (dF_eF _) ht6,hy,as_mulE (dF_eF _) rfl ht7,lt_eF _,as_mulE rfl (dF_eF _) ht8,hv,as_subE (dF_eF _) (dF_eF _) ht9,lt_eF _,lt_eF _,as_subE (dF_eF _) (dF_eF _) ht10,lt_eF _,lt_eF _,zE_f (lt_eF _) (by rw [dF_eF];subst ht10 ht9 ht8 ht7 ht6 ht5 ht4 ht3 ht2 ht1;exact hh0),as_mulE (dF_eF _) (dF_eF _) ht11,lt_eF _,as_mulE (dF_eF _) (dF_eF _) ht12,lt_eF _,as_mulE (dF_eF _) (dF_eF _) ht13,lt_eF _,as_mulE (dF_eF _) (dF_eF _) ht14,lt_eF _,as_subE (dF_eF _) (dF_eF _) ht15,lt_eF _,lt_eF _,as_addE (dF_eF _) (dF_eF _) ht16,lt_eF _,lt_eF _,as_subE (dF_eF _) (dF_eF _) ht17,lt_eF _,lt_eF _,as_subE (dF_eF _) (dF_eF _) ht18,lt_eF _,lt_eF _,as_mulE (dF_eF _) (dF_eF _) ht19,lt_eF _,as_mulE (dF_eF _) (dF_eF _) ht20,lt_eF _,as_subE (dF_eF _) (dF_eF _) ht21,lt_eF _,lt_eF _,as_mulE rfl rfl ht22,hz,as_mulE (dF_eF _) (dF_eF _) ht23,lt_eF _,endC (cv_cons (nv_t (by subst ht23 ht22 ht21 ht20 ht19 ht18 ht17 ht16 ht15 ht14 ht13 ht12 ht11 ht10 ht9 ht8 ht7 ht6 ht5 ht4 ht3 ht2 ht1;rfl)) (cv_cons (nv_t (by subst ht23 ht22 ht21 ht20 ht19 ht18 ht17 ht16 ht15 ht14 ht13 ht12 ht11 ht10 ht9 ht8 ht7 ht6 ht5 ht4 ht3 ht2 ht1;rfl)) (cv_cons (nv_t (by subst ht23 ht22 ht21 ht20 ht19 ht18 ht17 ht16 ht15 ht14 ht13 ht12 ht11 ht10 ht9 ht8 ht7 ht6 ht5 ht4 ht3 ht2 ht1;rfl)) (cv_nil))))⟩
end Go.Proofs.YtnjocbcjejpklaaGreat
namespace Go.Proofs.YtnjocbcjejpklaaGreat
open Go.Rq Go
set_option maxRecDepth 100000
set_option linter.unusedVariables false
set_option linter.unusedSimpArgs false
set_option maxHeartbeats 4000000
abbrev fdQ:List Cell:=[.one (.fn 110 []),.one (.fn 111 []),.one (.fn 112 []),.one (.fn 113 []),.ws .u64 6 oneF,.ws .u64 6 (fun _=>0),.ws .u64 6 (eF (ofN (nv (wd (4 % W))))),.ws .u64 6 (eF (ofN (nv (wd (4 % W)))))]
def jQ1 (F:J3 F2p->J3 F2p):List AV->Option (List Prop × AV)
 | [.v1 (.agg cs),.v1 (.agg [.ws .u64 6 x0,.ws .u64 6 x1,.ws .u64 6 y0,.ws .u64 6 y1,.ws .u64 6 z0,.ws .u64 6 z1])]=>some ([cs = fdQ,nv x0 < pN,nv x1 < pN,nv y0 < pN,nv y1 < pN,nv z0 < pN,nv z1 < pN],.v1 (.agg [.ws .u64 6 (eF (F (⟨(⟨dF x0,dF x1⟩:F2p),(⟨dF y0,dF y1⟩:F2p),(⟨dF z0,dF z1⟩:F2p)⟩:J3 F2p)).x.x),.ws .u64 6 (eF (F (⟨(⟨dF x0,dF x1⟩:F2p),(⟨dF y0,dF y1⟩:F2p),(⟨dF z0,dF z1⟩:F2p)⟩:J3 F2p)).x.y),.ws .u64 6 (eF (F (⟨(⟨dF x0,dF x1⟩:F2p),(⟨dF y0,dF y1⟩:F2p),(⟨dF z0,dF z1⟩:F2p)⟩:J3 F2p)).y.x),.ws .u64 6 (eF (F (⟨(⟨dF x0,dF x1⟩:F2p),(⟨dF y0,dF y1⟩:F2p),(⟨dF z0,dF z1⟩:F2p)⟩:J3 F2p)).y.y),.ws .u64 6 (eF (F (⟨(⟨dF x0,dF x1⟩:F2p),(⟨dF y0,dF y1⟩:F2p),(⟨dF z0,dF z1⟩:F2p)⟩:J3 F2p)).z.x),.ws .u64 6 (eF (F (⟨(⟨dF x0,dF x1⟩:F2p),(⟨dF y0,dF y1⟩:F2p),(⟨dF z0,dF z1⟩:F2p)⟩:J3 F2p)).z.y)]))
 | _=>none
def jQ2 (F:J3 F2p->J3 F2p->J3 F2p):List AV->Option (List Prop × AV)
 | [.v1 (.agg cs),.v1 (.agg [.ws .u64 6 x0,.ws .u64 6 x1,.ws .u64 6 y0,.ws .u64 6 y1,.ws .u64 6 z0,.ws .u64 6 z1]),.v1 (.agg [.ws .u64 6 u0,.ws .u64 6 u1,.ws .u64 6 v0,.ws .u64 6 v1,.ws .u64 6 w0,.ws .u64 6 w1])]=>some ([cs = fdQ,nv x0 < pN,nv x1 < pN,nv y0 < pN,nv y1 < pN,nv z0 < pN,nv z1 < pN,nv u0 < pN,nv u1 < pN,nv v0 < pN,nv v1 < pN,nv w0 < pN,nv w1 < pN],.v1 (.agg [.ws .u64 6 (eF (F (⟨(⟨dF x0,dF x1⟩:F2p),(⟨dF y0,dF y1⟩:F2p),(⟨dF z0,dF z1⟩:F2p)⟩:J3 F2p) (⟨(⟨dF u0,dF u1⟩:F2p),(⟨dF v0,dF v1⟩:F2p),(⟨dF w0,dF w1⟩:F2p)⟩:J3 F2p)).x.x),.ws .u64 6 (eF (F (⟨(⟨dF x0,dF x1⟩:F2p),(⟨dF y0,dF y1⟩:F2p),(⟨dF z0,dF z1⟩:F2p)⟩:J3 F2p) (⟨(⟨dF u0,dF u1⟩:F2p),(⟨dF v0,dF v1⟩:F2p),(⟨dF w0,dF w1⟩:F2p)⟩:J3 F2p)).x.y),.ws .u64 6 (eF (F (⟨(⟨dF x0,dF x1⟩:F2p),(⟨dF y0,dF y1⟩:F2p),(⟨dF z0,dF z1⟩:F2p)⟩:J3 F2p) (⟨(⟨dF u0,dF u1⟩:F2p),(⟨dF v0,dF v1⟩:F2p),(⟨dF w0,dF w1⟩:F2p)⟩:J3 F2p)).y.x),.ws .u64 6 (eF (F (⟨(⟨dF x0,dF x1⟩:F2p),(⟨dF y0,dF y1⟩:F2p),(⟨dF z0,dF z1⟩:F2p)⟩:J3 F2p) (⟨(⟨dF u0,dF u1⟩:F2p),(⟨dF v0,dF v1⟩:F2p),(⟨dF w0,dF w1⟩:F2p)⟩:J3 F2p)).y.y),.ws .u64 6 (eF (F (⟨(⟨dF x0,dF x1⟩:F2p),(⟨dF y0,dF y1⟩:F2p),(⟨dF z0,dF z1⟩:F2p)⟩:J3 F2p) (⟨(⟨dF u0,dF u1⟩:F2p),(⟨dF v0,dF v1⟩:F2p),(⟨dF w0,dF w1⟩:F2p)⟩:J3 F2p)).z.x),.ws .u64 6 (eF (F (⟨(⟨dF x0,dF x1⟩:F2p),(⟨dF y0,dF y1⟩:F2p),(⟨dF z0,dF z1⟩:F2p)⟩:J3 F2p) (⟨(⟨dF u0,dF u1⟩:F2p),(⟨dF v0,dF v1⟩:F2p),(⟨dF w0,dF w1⟩:F2p)⟩:J3 F2p)).z.y)]))
 | _=>none
def GCQ:List (Nat × CallC):=[(110,.pure (q2 add2x add2y)),(111,.pure (q2 sub2x sub2y)),(112,.pure (q2 mul2x mul2y)),(113,.pure (q1 inv2x inv2y))]
theorem GCQ_ok:CtxOk Tryz.prog (ctxL GCQ):=ctxL_cons okAdd2 <| ctxL_cons okSub2 <| ctxL_cons okMul2 <| ctxL_cons okMInv2 ctxL_nil
theorem okTwQ:(CallC.pure (jQ1 J3.dbl)).Ok Tryz.prog 167:=by
 intro args pre v e hp
 unfold jQ1 at e
 split at e
 rotate_left
 ·cases e
 rename_i cs x0 x1 y0 y1 z0 z1
 cases e
 have hcs:cs = fdQ:=hp _ (by simp)
 subst hcs
 have hx0:nv x0 < pN:=hp (nv x0 < pN) (by simp)
 have hx1:nv x1 < pN:=hp (nv x1 < pN) (by simp)
 have hy0:nv y0 < pN:=hp (nv y0 < pN) (by simp)
 have hy1:nv y1 < pN:=hp (nv y1 < pN) (by simp)
 have hz0:nv z0 < pN:=hp (nv z0 < pN) (by simp)
 have hz1:nv z1 < pN:=hp (nv z1 < pN) (by simp)
 refine pure_walk' tt_ok Tryz.func167 (by kernel_rfl) (by kernel_rfl) (by rfl) (by rfl) ?_
 obtain ⟨t1,ht1⟩:∃ q_:F2p,q_ = (⟨dF y0,dF y1⟩:F2p) * (⟨dF y0,dF y1⟩:F2p):=⟨_,rfl⟩
 obtain ⟨t2,ht2⟩:∃ q_:F2p,q_ = (⟨dF x0,dF x1⟩:F2p) * t1:=⟨_,rfl⟩
 obtain ⟨t3,ht3⟩:∃ q_:F2p,q_ = t2 + t2:=⟨_,rfl⟩
 obtain ⟨t4,ht4⟩:∃ q_:F2p,q_ = t3 + t3:=⟨_,rfl⟩
 obtain ⟨t5,ht5⟩:∃ q_:F2p,q_ = (⟨dF x0,dF x1⟩:F2p) * (⟨dF x0,dF x1⟩:F2p):=⟨_,rfl⟩
 obtain ⟨t6,ht6⟩:∃ q_:F2p,q_ = t5 + t5:=⟨_,rfl⟩
 obtain ⟨t7,ht7⟩:∃ q_:F2p,q_ = t6 + t5:=⟨_,rfl⟩
 obtain ⟨t8,ht8⟩:∃ q_:F2p,q_ = t7 * t7:=⟨_,rfl⟩
 obtain ⟨t9,ht9⟩:∃ q_:F2p,q_ = t4 + t4:=⟨_,rfl⟩
 obtain ⟨t10,ht10⟩:∃ q_:F2p,q_ = t8 - t9:=⟨_,rfl⟩
 obtain ⟨t11,ht11⟩:∃ q_:F2p,q_ = t1 * t1:=⟨_,rfl⟩
 obtain ⟨t12,ht12⟩:∃ q_:F2p,q_ = t11 + t11:=⟨_,rfl⟩
 obtain ⟨t13,ht13⟩:∃ q_:F2p,q_ = t12 + t12:=⟨_,rfl⟩
 obtain ⟨t14,ht14⟩:∃ q_:F2p,q_ = t13 + t13:=⟨_,rfl⟩
 obtain ⟨t15,ht15⟩:∃ q_:F2p,q_ = (⟨dF y0,dF y1⟩:F2p) * (⟨dF z0,dF z1⟩:F2p):=⟨_,rfl⟩
 obtain ⟨t16,ht16⟩:∃ q_:F2p,q_ = t4 - t10:=⟨_,rfl⟩
 obtain ⟨t17,ht17⟩:∃ q_:F2p,q_ = t7 * t16:=⟨_,rfl⟩
 obtain ⟨t18,ht18⟩:∃ q_:F2p,q_ = t17 - t14:=⟨_,rfl⟩
 obtain ⟨t19,ht19⟩:∃ q_:F2p,q_ = t15 + t15:=⟨_,rfl⟩
 refine evS_q mixed tt_ok GCQ_ok 200 [⟨1,6,.as [.ws .u64 6 (eF t1.x),.ws .u64 6 (eF t1.y)]⟩,⟨2,5,.as [.ws .u64 6 (eF t2.x),.ws .u64 6 (eF t2.y)]⟩,⟨3,4,.as [.ws .u64 6 (eF t3.x),.ws .u64 6 (eF t3.y)]⟩,⟨4,4,.as [.ws .u64 6 (eF t4.x),.ws .u64 6 (eF t4.y)]⟩,⟨5,6,.as [.ws .u64 6 (eF t5.x),.ws .u64 6 (eF t5.y)]⟩,⟨6,6,.as [.ws .u64 6 (eF t6.x),.ws .u64 6 (eF t6.y)]⟩,⟨6,8,.as [.ws .u64 6 (eF t7.x),.ws .u64 6 (eF t7.y)]⟩,⟨7,6,.as [.ws .u64 6 (eF t8.x),.ws .u64 6 (eF t8.y)]⟩,⟨7,11,.as [.ws .u64 6 (eF t9.x),.ws .u64 6 (eF t9.y)]⟩,⟨7,12,.as [.ws .u64 6 (eF t10.x),.ws .u64 6 (eF t10.y)]⟩,⟨8,4,.as [.ws .u64 6 (eF t11.x),.ws .u64 6 (eF t11.y)]⟩,⟨9,4,.as [.ws .u64 6 (eF t12.x),.ws .u64 6 (eF t12.y)]⟩,⟨10,4,.as [.ws .u64 6 (eF t13.x),.ws .u64 6 (eF t13.y)]⟩,⟨11,4,.as [.ws .u64 6 (eF t14.x),.ws .u64 6 (eF t14.y)]⟩,⟨12,6,.as [.ws .u64 6 (eF t15.x),.ws .u64 6 (eF t15.y)]⟩,⟨13,10,.as [.ws .u64 6 (eF t16.x),.ws .u64 6 (eF t16.y)]⟩,⟨13,11,.as [.ws .u64 6 (eF t17.x),.ws .u64 6 (eF t17.y)]⟩,⟨13,13,.as [.ws .u64 6 (eF t18.x),.ws .u64 6 (eF t18.y)]⟩,⟨13,18,.as [.ws .u64 6 (eF t19.x),.ws .u64 6 (eF t19.y)]⟩] ?_
 refine same (p:=asP [.ws .u64 6 (eF (mul2x (dF y0) (dF y1) (dF y0) (dF y1))),.ws .u64 6 (eF (mul2y (dF y0) (dF y1) (dF y0) (dF y1)))] [.ws .u64 6 (eF t1.x),.ws .u64 6 (eF t1.y)]/\nv y0 < pN/\nv y1 < pN/\nv y0 < pN/\nv y1 < pN/\asP [.ws .u64 6 (eF (mul2x (dF x0) (dF x1) (dF (eF t1.x)) (dF (eF t1.y)))),.ws .u64 6 (eF (mul2y (dF x0) (dF x1) (dF (eF t1.x)) (dF (eF t1.y))))] [.ws .u64 6 (eF t2.x),.ws .u64 6 (eF t2.y)]/\nv x0 < pN/\nv x1 < pN/\nv (eF t1.x) < pN/\nv (eF t1.y) < pN/\asP [.ws .u64 6 (eF (add2x (dF (eF t2.x)) (dF (eF t2.y)) (dF (eF t2.x)) (dF (eF t2.y)))),.ws .u64 6 (eF (add2y (dF (eF t2.x)) (dF (eF t2.y)) (dF (eF t2.x)) (dF (eF t2.y))))] [.ws .u64 6 (eF t3.x),.ws .u64 6 (eF t3.y)]/\nv (eF t2.x) < pN/\nv (eF t2.y) < pN/\nv (eF t2.x) < pN/\nv (eF t2.y) < pN/\asP [.ws .u64 6 (eF (add2x (dF (eF t3.x)) (dF (eF t3.y)) (dF (eF t3.x)) (dF (eF t3.y)))),.ws .u64 6 (eF (add2y (dF (eF t3.x)) (dF (eF t3.y)) (dF (eF t3.x)) (dF (eF t3.y))))] [.ws .u64 6 (eF t4.x),.ws .u64 6 (eF t4.y)]/\nv (eF t3.x) < pN/\nv (eF t3.y) < pN/\nv (eF t3.x) < pN/\nv (eF t3.y) < pN/\asP [.ws .u64 6 (eF (mul2x (dF x0) (dF x1) (dF x0) (dF x1))),.ws .u64 6 (eF (mul2y (dF x0) (dF x1) (dF x0) (dF x1)))] [.ws .u64 6 (eF t5.x),.ws .u64 6 (eF t5.y)]/\nv x0 < pN/\nv x1 < pN/\nv x0 < pN/\nv x1 < pN/\asP [.ws .u64 6 (eF (add2x (dF (eF t5.x)) (dF (eF t5.y)) (dF (eF t5.x)) (dF (eF t5.y)))),.ws .u64 6 (eF (add2y (dF (eF t5.x)) (dF (eF t5.y)) (dF (eF t5.x)) (dF (eF t5.y))))] [.ws .u64 6 (eF t6.x),.ws .u64 6 (eF t6.y)]/\nv (eF t5.x) < pN/\nv (eF t5.y) < pN/\nv (eF t5.x) < pN/\nv (eF t5.y) < pN/\asP [.ws .u64 6 (eF (add2x (dF (eF t6.x)) (dF (eF t6.y)) (dF (eF t5.x)) (dF (eF t5.y)))),.ws .u64 6 (eF (add2y (dF (eF t6.x)) (dF (eF t6.y)) (dF (eF t5.x)) (dF (eF t5.y))))] [.ws .u64 6 (eF t7.x),.ws .u64 6 (eF t7.y)]/\nv (eF t6.x) < pN/\nv (eF t6.y) < pN/\nv (eF t5.x) < pN/\nv (eF t5.y) < pN/\asP [.ws .u64 6 (eF (mul2x (dF (eF t7.x)) (dF (eF t7.y)) (dF (eF t7.x)) (dF (eF t7.y)))),.ws .u64 6 (eF (mul2y (dF (eF t7.x)) (dF (eF t7.y)) (dF (eF t7.x)) (dF (eF t7.y))))] [.ws .u64 6 (eF t8.x),.ws .u64 6 (eF t8.y)]/\nv (eF t7.x) < pN/\nv (eF t7.y) < pN/\nv (eF t7.x) < pN/\nv (eF t7.y) < pN/\asP [.ws .u64 6 (eF (add2x (dF (eF t4.x)) (dF (eF t4.y)) (dF (eF t4.x)) (dF (eF t4.y)))),.ws .u64 6 (eF (add2y (dF (eF t4.x)) (dF (eF t4.y)) (dF (eF t4.x)) (dF (eF t4.y))))] [.ws .u64 6 (eF t9.x),.ws .u64 6 (eF t9.y)]/\nv (eF t4.x) < pN/\nv (eF t4.y) < pN/\nv (eF t4.x) < pN/\nv (eF t4.y) < pN/\asP [.ws .u64 6 (eF (sub2x (dF (eF t8.x)) (dF (eF t8.y)) (dF (eF t9.x)) (dF (eF t9.y)))),.ws .u64 6 (eF (sub2y (dF (eF t8.x)) (dF (eF t8.y)) (dF (eF t9.x)) (dF (eF t9.y))))] [.ws .u64 6 (eF t10.x),.ws .u64 6 (eF t10.y)]/\nv (eF t8.x) < pN/\nv (eF t8.y) < pN/\nv (eF t9.x) < pN/\nv (eF t9.y) < pN/\asP [.ws .u64 6 (eF (mul2x (dF (eF t1.x)) (dF (eF t1.y)) (dF (eF t1.x)) (dF (eF t1.y)))),.ws .u64 6 (eF (mul2y (dF (eF t1.x)) (dF (eF t1.y)) (dF (eF t1.x)) (dF (eF t1.y))))] [.ws .u64 6 (eF t11.x),.ws .u64 6 (eF t11.y)]/\nv (eF t1.x) < pN/\nv (eF t1.y) < pN/\nv (eF t1.x) < pN/\nv (eF t1.y) < pN/\asP [.ws .u64 6 (eF (add2x (dF (eF t11.x)) (dF (eF t11.y)) (dF (eF t11.x)) (dF (eF t11.y)))),.ws .u64 6 (eF (add2y (dF (eF t11.x)) (dF (eF t11.y)) (dF (eF t11.x)) (dF (eF t11.y))))] [.ws .u64 6 (eF t12.x),.ws .u64 6 (eF t12.y)]/\nv (eF t11.x) < pN/\nv (eF t11.y) < pN/\nv (eF t11.x) < pN/\nv (eF t11.y) < pN/\asP [.ws .u64 6 (eF (add2x (dF (eF t12.x)) (dF (eF t12.y)) (dF (eF t12.x)) (dF (eF t12.y)))),.ws .u64 6 (eF (add2y (dF (eF t12.x)) (dF (eF t12.y)) (dF (eF t12.x)) (dF (eF t12.y))))] [.ws .u64 6 (eF t13.x),.ws .u64 6 (eF t13.y)]/\nv (eF t12.x) < pN/\nv (eF t12.y) < pN/\nv (eF t12.x) < pN/\nv (eF t12.y) < pN/\asP [.ws .u64 6 (eF (add2x (dF (eF t13.x)) (dF (eF t13.y)) (dF (eF t13.x)) (dF (eF t13.y)))),.ws .u64 6 (eF (add2y (dF (eF t13.x)) (dF (eF t13.y)) (dF (eF t13.x)) (dF (eF t13.y))))] [.ws .u64 6 (eF t14.x),.ws .u64 6 (eF t14.y)]/\nv (eF t13.x) < pN/\nv (eF t13.y) < pN/\nv (eF t13.x) < pN/\nv (eF t13.y) < pN/\asP [.ws .u64 6 (eF (mul2x (dF y0) (dF y1) (dF z0) (dF z1))),.ws .u64 6 (eF (mul2y (dF y0) (dF y1) (dF z0) (dF z1)))] [.ws .u64 6 (eF t15.x),.ws .u64 6 (eF t15.y)]/\nv y0 < pN/\nv y1 < pN/\nv z0 < pN/\nv z1 < pN/\asP [.ws .u64 6 (eF (sub2x (dF (eF t4.x)) (dF (eF t4.y)) (dF (eF t10.x)) (dF (eF t10.y)))),.ws .u64 6 (eF (sub2y (dF (eF t4.x)) (dF (eF t4.y)) (dF (eF t10.x)) (dF (eF t10.y))))] [.ws .u64 6 (eF t16.x),.ws .u64 6 (eF t16.y)]/\nv (eF t4.x) < pN/\nv (eF t4.y) < pN/\nv (eF t10.x) < pN/\nv (eF t10.y) < pN/\asP [.ws .u64 6 (eF (mul2x (dF (eF t7.x)) (dF (eF t7.y)) (dF (eF t16.x)) (dF (eF t16.y)))),.ws .u64 6 (eF (mul2y (dF (eF t7.x)) (dF (eF t7.y)) (dF (eF t16.x)) (dF (eF t16.y))))] [.ws .u64 6 (eF t17.x),.ws .u64 6 (eF t17.y)]/\nv (eF t7.x) < pN/\nv (eF t7.y) < pN/\nv (eF t16.x) < pN/\nv (eF t16.y) < pN/\asP [.ws .u64 6 (eF (sub2x (dF (eF t17.x)) (dF (eF t17.y)) (dF (eF t14.x)) (dF (eF t14.y)))),.ws .u64 6 (eF (sub2y (dF (eF t17.x)) (dF (eF t17.y)) (dF (eF t14.x)) (dF (eF t14.y))))] [.ws .u64 6 (eF t18.x),.ws .u64 6 (eF t18.y)]/\nv (eF t17.x) < pN/\nv (eF t17.y) < pN/\nv (eF t14.x) < pN/\nv (eF t14.y) < pN/\asP [.ws .u64 6 (eF (add2x (dF (eF t15.x)) (dF (eF t15.y)) (dF (eF t15.x)) (dF (eF t15.y)))),.ws .u64 6 (eF (add2y (dF (eF t15.x)) (dF (eF t15.y)) (dF (eF t15.x)) (dF (eF t15.y))))] [.ws .u64 6 (eF t19.x),.ws .u64 6 (eF t19.y)]/\nv (eF t15.x) < pN/\nv (eF t15.y) < pN/\nv (eF t15.x) < pN/\nv (eF t15.y) < pN/\endN (.v1 (.agg [.ws .u64 6 (eF t10.x),.ws .u64 6 (eF t10.y),.ws .u64 6 (eF t18.x),.ws .u64 6 (eF t18.y),.ws .u64 6 (eF t19.x),.ws .u64 6 (eF t19.y)])) (.v1 (.agg [.ws .u64 6 (eF (J3.dbl (⟨(⟨dF x0,dF x1⟩:F2p),(⟨dF y0,dF y1⟩:F2p),(⟨dF z0,dF z1⟩:F2p)⟩:J3 F2p)).x.x),.ws .u64 6 (eF (J3.dbl (⟨(⟨dF x0,dF x1⟩:F2p),(⟨dF y0,dF y1⟩:F2p),(⟨dF z0,dF z1⟩:F2p)⟩:J3 F2p)).x.y),.ws .u64 6 (eF (J3.dbl (⟨(⟨dF x0,dF x1⟩:F2p),(⟨dF y0,dF y1⟩:F2p),(⟨dF z0,dF z1⟩:F2p)⟩:J3 F2p)).y.x),.ws .u64 6 (eF (J3.dbl (⟨(⟨dF x0,dF x1⟩:F2p),(⟨dF y0,dF y1⟩:F2p),(⟨dF z0,dF z1⟩:F2p)⟩:J3 F2p)).y.y),.ws .u64 6 (eF (J3.dbl (⟨(⟨dF x0,dF x1⟩:F2p),(⟨dF y0,dF y1⟩:F2p),(⟨dF z0,dF z1⟩:F2p)⟩:J3 F2p)).z.x),.ws .u64 6 (eF (J3.dbl (⟨(⟨dF x0,dF x1⟩:F2p),(⟨dF y0,dF y1⟩:F2p),(⟨dF z0,dF z1⟩:F2p)⟩:J3 F2p)).z.y)]))) ?_ (by kernel_rfl)
 exact ⟨as_mulQ rfl rfl rfl rfl ht1,hy0,hy1,hy0,hy1,as_mulQ rfl rfl (dF_eF _) (dF_eF _) ht2,hx0,hx1,lt_eF _,lt_eF _,as_addQ (dF_eF _) (dF_eF _) (dF_eF _) (dF_eF _) ht3,lt_eF _,lt_eF _,lt_eF _,lt_eF _,as_addQ (dF_eF _) (dF_eF _) (dF_eF _) (dF_eF _) ht4,lt_eF _,lt_eF _,lt_eF _,lt_eF _,as_mulQ rfl rfl rfl rfl ht5,hx0,hx1,hx0,hx1,as_addQ (dF_eF _) (dF_eF _) (dF_eF _) (dF_eF _) ht6,lt_eF _,lt_eF _,lt_eF _,lt_eF _,as_addQ (dF_eF _) (dF_eF _) (dF_eF _) (dF_eF _) ht7,lt_eF _,lt_eF _,lt_eF _,lt_eF _,as_mulQ (dF_eF _) (dF_eF _) (dF_eF _) (dF_eF _) ht8,lt_eF _,lt_eF _,lt_eF _,lt_eF _,as_addQ (dF_eF _) (dF_eF _) (dF_eF _) (dF_eF _) ht9,lt_eF _,lt_eF _,lt_eF _,lt_eF _,as_subQ (dF_eF _) (dF_eF _) (dF_eF _) (dF_eF _) ht10,lt_eF _,lt_eF _,lt_eF _,lt_eF _,as_mulQ (dF_eF _) (dF_eF _) (dF_eF _) (dF_eF _) ht11,lt_eF _,lt_eF _,lt_eF _,lt_eF _,as_addQ (dF_eF _) (dF_eF _) (dF_eF _) (dF_eF _) ht12,lt_eF _,lt_eF _,lt_eF _,lt_eF _,as_addQ (dF_eF _) (dF_eF _) (dF_eF _) (dF_eF _) ht13,lt_eF _,lt_eF _,lt_eF _,lt_eF _,as_addQ (dF_eF _) (dF_eF _) (dF_eF _) (dF_eF _) ht14,lt_eF _,lt_eF _,lt_eF _,lt_eF _,as_mulQ rfl rfl rfl rfl ht15,hy0,hy1,hz0,hz1,as_subQ (dF_eF _) (dF_eF _) (dF_eF _) (dF_eF _) ht16,lt_eF _,lt_eF _,lt_eF _,lt_eF _,as_mulQ (dF_eF _) (dF_eF _) (dF_eF _) (dF_eF _) ht17,lt_eF _,lt_eF _,lt_eF _,lt_eF _,as_subQ (dF_eF _) (dF_eF _) (dF_eF _) (dF_eF _) ht18,lt_eF _,lt_eF _,lt_eF _,lt_eF _,as_addQ (dF_eF _) (dF_eF _) (dF_eF _) (dF_eF _) ht19,lt_eF _,lt_eF _,lt_eF _,lt_eF _,endC (cv_cons (nv_tx (by subst ht19 ht18 ht17 ht16 ht15 ht14 ht13 ht12 ht11 ht10 ht9 ht8 ht7 ht6 ht5 ht4 ht3 ht2 ht1;rfl)) (cv_cons (nv_ty (by subst ht19 ht18 ht17 ht16 ht15 ht14 ht13 ht12 ht11 ht10 ht9 ht8 ht7 ht6 ht5 ht4 ht3 ht2 ht1;rfl)) (cv_cons (nv_tx (by subst ht19 ht18 ht17 ht16 ht15 ht14 ht13 ht12 ht11 ht10 ht9 ht8 ht7 ht6 ht5 ht4 ht3 ht2 ht1;rfl)) (cv_cons (nv_ty (by subst ht19 ht18 ht17 ht16 ht15 ht14 ht13 ht12 ht11 ht10 ht9 ht8 ht7 ht6 ht5 ht4 ht3 ht2 ht1;rfl)) (cv_cons (nv_tx (by subst ht19 ht18 ht17 ht16 ht15 ht14 ht13 ht12 ht11 ht10 ht9 ht8 ht7 ht6 ht5 ht4 ht3 ht2 ht1;rfl)) (cv_cons (nv_ty (by subst ht19 ht18 ht17 ht16 ht15 ht14 ht13 ht12 ht11 ht10 ht9 ht8 ht7 ht6 ht5 ht4 ht3 ht2 ht1;rfl)) (cv_nil)))))))⟩
def GSQ:List (Nat × CallC):=(167,.pure (jQ1 J3.dbl)) :: GCQ
theorem GSQ_ok:CtxOk Tryz.prog (ctxL GSQ):=ctxL_cons okTwQ GCQ_ok
theorem okSmQ:(CallC.pure (jQ2 J3.add)).Ok Tryz.prog 168:=by
 intro args pre v e hp
 unfold jQ2 at e
 split at e
 rotate_left
 ·cases e
 rename_i cs x0 x1 y0 y1 z0 z1 u0 u1 v0 v1 w0 w1
 cases e
 have hcs:cs = fdQ:=hp _ (by simp)
 subst hcs
 have hx0:nv x0 < pN:=hp (nv x0 < pN) (by simp)
 have hx1:nv x1 < pN:=hp (nv x1 < pN) (by simp)
 have hy0:nv y0 < pN:=hp (nv y0 < pN) (by simp)
 have hy1:nv y1 < pN:=hp (nv y1 < pN) (by simp)
 have hz0:nv z0 < pN:=hp (nv z0 < pN) (by simp)
 have hz1:nv z1 < pN:=hp (nv z1 < pN) (by simp)
 have hu0:nv u0 < pN:=hp (nv u0 < pN) (by simp)
 have hu1:nv u1 < pN:=hp (nv u1 < pN) (by simp)
 have hv0:nv v0 < pN:=hp (nv v0 < pN) (by simp)
 have hv1:nv v1 < pN:=hp (nv v1 < pN) (by simp)
 have hw0:nv w0 < pN:=hp (nv w0 < pN) (by simp)
 have hw1:nv w1 < pN:=hp (nv w1 < pN) (by simp)
 refine pure_walk' tt_ok Tryz.func168 (by kernel_rfl) (by kernel_rfl) (by rfl) (by rfl) ?_
 by_cases hZZ:(⟨dF z0,dF z1⟩:F2p) = 0
 ·have hadd:J3.add (⟨(⟨dF x0,dF x1⟩:F2p),(⟨dF y0,dF y1⟩:F2p),(⟨dF z0,dF z1⟩:F2p)⟩:J3 F2p) (⟨(⟨dF u0,dF u1⟩:F2p),(⟨dF v0,dF v1⟩:F2p),(⟨dF w0,dF w1⟩:F2p)⟩:J3 F2p) = (⟨(⟨dF u0,dF u1⟩:F2p),(⟨dF v0,dF v1⟩:F2p),(⟨dF w0,dF w1⟩:F2p)⟩:J3 F2p):=if_pos hZZ
  rw [hadd]
  refine evS_q mixed tt_ok GSQ_ok 100 [⟨2,3,.lit (.bo true)⟩] ?_
  refine same (p:=(eqN W 6 z0 (fun _=>0) && (eqN W 6 z1 (fun _=>0) && true)) = true/\endN (.v1 (.agg [.ws .u64 6 u0,.ws .u64 6 u1,.ws .u64 6 v0,.ws .u64 6 v1,.ws .u64 6 w0,.ws .u64 6 w1])) (.v1 (.agg [.ws .u64 6 (eF ((⟨(⟨dF u0,dF u1⟩:F2p),(⟨dF v0,dF v1⟩:F2p),(⟨dF w0,dF w1⟩:F2p)⟩:J3 F2p)).x.x),.ws .u64 6 (eF ((⟨(⟨dF u0,dF u1⟩:F2p),(⟨dF v0,dF v1⟩:F2p),(⟨dF w0,dF w1⟩:F2p)⟩:J3 F2p)).x.y),.ws .u64 6 (eF ((⟨(⟨dF u0,dF u1⟩:F2p),(⟨dF v0,dF v1⟩:F2p),(⟨dF w0,dF w1⟩:F2p)⟩:J3 F2p)).y.x),.ws .u64 6 (eF ((⟨(⟨dF u0,dF u1⟩:F2p),(⟨dF v0,dF v1⟩:F2p),(⟨dF w0,dF w1⟩:F2p)⟩:J3 F2p)).y.y),.ws .u64 6 (eF ((⟨(⟨dF u0,dF u1⟩:F2p),(⟨dF v0,dF v1⟩:F2p),(⟨dF w0,dF w1⟩:F2p)⟩:J3 F2p)).z.x),.ws .u64 6 (eF ((⟨(⟨dF u0,dF u1⟩:F2p),(⟨dF v0,dF v1⟩:F2p),(⟨dF w0,dF w1⟩:F2p)⟩:J3 F2p)).z.y)]))) ?_ (by kernel_rfl)
  exact ⟨zQ_t hz0 hz1 hZZ,endC (cv_cons (nv_d hu0) (cv_cons (nv_d hu1) (cv_cons (nv_d hv0) (cv_cons (nv_d hv1) (cv_cons (nv_d hw0) (cv_cons (nv_d hw1) (cv_nil)))))))⟩
 ·by_cases hWW:(⟨dF w0,dF w1⟩:F2p) = 0
  ·have hadd:J3.add (⟨(⟨dF x0,dF x1⟩:F2p),(⟨dF y0,dF y1⟩:F2p),(⟨dF z0,dF z1⟩:F2p)⟩:J3 F2p) (⟨(⟨dF u0,dF u1⟩:F2p),(⟨dF v0,dF v1⟩:F2p),(⟨dF w0,dF w1⟩:F2p)⟩:J3 F2p) = (⟨(⟨dF x0,dF x1⟩:F2p),(⟨dF y0,dF y1⟩:F2p),(⟨dF z0,dF z1⟩:F2p)⟩:J3 F2p):=(if_neg hZZ).trans (if_pos hWW)
   rw [hadd]
   refine evS_q mixed tt_ok GSQ_ok 100 [⟨2,3,.lit (.bo false)⟩,⟨4,3,.lit (.bo true)⟩] ?_
   refine same (p:=(eqN W 6 z0 (fun _=>0) && (eqN W 6 z1 (fun _=>0) && true)) = false/\(eqN W 6 w0 (fun _=>0) && (eqN W 6 w1 (fun _=>0) && true)) = true/\endN (.v1 (.agg [.ws .u64 6 x0,.ws .u64 6 x1,.ws .u64 6 y0,.ws .u64 6 y1,.ws .u64 6 z0,.ws .u64 6 z1])) (.v1 (.agg [.ws .u64 6 (eF ((⟨(⟨dF x0,dF x1⟩:F2p),(⟨dF y0,dF y1⟩:F2p),(⟨dF z0,dF z1⟩:F2p)⟩:J3 F2p)).x.x),.ws .u64 6 (eF ((⟨(⟨dF x0,dF x1⟩:F2p),(⟨dF y0,dF y1⟩:F2p),(⟨dF z0,dF z1⟩:F2p)⟩:J3 F2p)).x.y),.ws .u64 6 (eF ((⟨(⟨dF x0,dF x1⟩:F2p),(⟨dF y0,dF y1⟩:F2p),(⟨dF z0,dF z1⟩:F2p)⟩:J3 F2p)).y.x),.ws .u64 6 (eF ((⟨(⟨dF x0,dF x1⟩:F2p),(⟨dF y0,dF y1⟩:F2p),(⟨dF z0,dF z1⟩:F2p)⟩:J3 F2p)).y.y),.ws .u64 6 (eF ((⟨(⟨dF x0,dF x1⟩:F2p),(⟨dF y0,dF y1⟩:F2p),(⟨dF z0,dF z1⟩:F2p)⟩:J3 F2p)).z.x),.ws .u64 6 (eF ((⟨(⟨dF x0,dF x1⟩:F2p),(⟨dF y0,dF y1⟩:F2p),(⟨dF z0,dF z1⟩:F2p)⟩:J3 F2p)).z.y)]))) ?_ (by kernel_rfl)
   exact ⟨zQ_f hz0 hz1 hZZ,zQ_t hw0 hw1 hWW,endC (cv_cons (nv_d hx0) (cv_cons (nv_d hx1) (cv_cons (nv_d hy0) (cv_cons (nv_d hy1) (cv_cons (nv_d hz0) (cv_cons (nv_d hz1) (cv_nil)))))))⟩
  ·have hadd0:J3.add (⟨(⟨dF x0,dF x1⟩:F2p),(⟨dF y0,dF y1⟩:F2p),(⟨dF z0,dF z1⟩:F2p)⟩:J3 F2p) (⟨(⟨dF u0,dF u1⟩:F2p),(⟨dF v0,dF v1⟩:F2p),(⟨dF w0,dF w1⟩:F2p)⟩:J3 F2p) = if J3.hh (⟨(⟨dF x0,dF x1⟩:F2p),(⟨dF y0,dF y1⟩:F2p),(⟨dF z0,dF z1⟩:F2p)⟩:J3 F2p) (⟨(⟨dF u0,dF u1⟩:F2p),(⟨dF v0,dF v1⟩:F2p),(⟨dF w0,dF w1⟩:F2p)⟩:J3 F2p) = 0 then (if J3.rr (⟨(⟨dF x0,dF x1⟩:F2p),(⟨dF y0,dF y1⟩:F2p),(⟨dF z0,dF z1⟩:F2p)⟩:J3 F2p) (⟨(⟨dF u0,dF u1⟩:F2p),(⟨dF v0,dF v1⟩:F2p),(⟨dF w0,dF w1⟩:F2p)⟩:J3 F2p) = 0 then J3.dbl (⟨(⟨dF x0,dF x1⟩:F2p),(⟨dF y0,dF y1⟩:F2p),(⟨dF z0,dF z1⟩:F2p)⟩:J3 F2p) else J3.nil) else J3.gen (⟨(⟨dF x0,dF x1⟩:F2p),(⟨dF y0,dF y1⟩:F2p),(⟨dF z0,dF z1⟩:F2p)⟩:J3 F2p) (⟨(⟨dF u0,dF u1⟩:F2p),(⟨dF v0,dF v1⟩:F2p),(⟨dF w0,dF w1⟩:F2p)⟩:J3 F2p):=(if_neg hZZ).trans (if_neg hWW)
   by_cases hh0:J3.hh (⟨(⟨dF x0,dF x1⟩:F2p),(⟨dF y0,dF y1⟩:F2p),(⟨dF z0,dF z1⟩:F2p)⟩:J3 F2p) (⟨(⟨dF u0,dF u1⟩:F2p),(⟨dF v0,dF v1⟩:F2p),(⟨dF w0,dF w1⟩:F2p)⟩:J3 F2p) = 0
   ·by_cases hr0:J3.rr (⟨(⟨dF x0,dF x1⟩:F2p),(⟨dF y0,dF y1⟩:F2p),(⟨dF z0,dF z1⟩:F2p)⟩:J3 F2p) (⟨(⟨dF u0,dF u1⟩:F2p),(⟨dF v0,dF v1⟩:F2p),(⟨dF w0,dF w1⟩:F2p)⟩:J3 F2p) = 0
    ·have hadd:J3.add (⟨(⟨dF x0,dF x1⟩:F2p),(⟨dF y0,dF y1⟩:F2p),(⟨dF z0,dF z1⟩:F2p)⟩:J3 F2p) (⟨(⟨dF u0,dF u1⟩:F2p),(⟨dF v0,dF v1⟩:F2p),(⟨dF w0,dF w1⟩:F2p)⟩:J3 F2p) = J3.dbl (⟨(⟨dF x0,dF x1⟩:F2p),(⟨dF y0,dF y1⟩:F2p),(⟨dF z0,dF z1⟩:F2p)⟩:J3 F2p):=hadd0.trans ((if_pos hh0).trans (if_pos hr0))
     rw [hadd]
     obtain ⟨t1,ht1⟩:∃ q_:F2p,q_ = (⟨dF z0,dF z1⟩:F2p) * (⟨dF z0,dF z1⟩:F2p):=⟨_,rfl⟩
     obtain ⟨t2,ht2⟩:∃ q_:F2p,q_ = (⟨dF w0,dF w1⟩:F2p) * (⟨dF w0,dF w1⟩:F2p):=⟨_,rfl⟩
     obtain ⟨t3,ht3⟩:∃ q_:F2p,q_ = (⟨dF x0,dF x1⟩:F2p) * t2:=⟨_,rfl⟩
     obtain ⟨t4,ht4⟩:∃ q_:F2p,q_ = (⟨dF u0,dF u1⟩:F2p) * t1:=⟨_,rfl⟩
     obtain ⟨t5,ht5⟩:∃ q_:F2p,q_ = t2 * (⟨dF w0,dF w1⟩:F2p):=⟨_,rfl⟩
     obtain ⟨t6,ht6⟩:∃ q_:F2p,q_ = (⟨dF y0,dF y1⟩:F2p) * t5:=⟨_,rfl⟩
     obtain ⟨t7,ht7⟩:∃ q_:F2p,q_ = t1 * (⟨dF z0,dF z1⟩:F2p):=⟨_,rfl⟩
     obtain ⟨t8,ht8⟩:∃ q_:F2p,q_ = (⟨dF v0,dF v1⟩:F2p) * t7:=⟨_,rfl⟩
     obtain ⟨t9,ht9⟩:∃ q_:F2p,q_ = t4 - t3:=⟨_,rfl⟩
     obtain ⟨t10,ht10⟩:∃ q_:F2p,q_ = t8 - t6:=⟨_,rfl⟩
     refine evS_q mixed tt_ok GSQ_ok 200 [⟨2,3,.lit (.bo false)⟩,⟨4,3,.lit (.bo false)⟩,⟨6,6,.as [.ws .u64 6 (eF t1.x),.ws .u64 6 (eF t1.y)]⟩,⟨6,13,.as [.ws .u64 6 (eF t2.x),.ws .u64 6 (eF t2.y)]⟩,⟨7,5,.as [.ws .u64 6 (eF t3.x),.ws .u64 6 (eF t3.y)]⟩,⟨7,11,.as [.ws .u64 6 (eF t4.x),.ws .u64 6 (eF t4.y)]⟩,⟨8,9,.as [.ws .u64 6 (eF t5.x),.ws .u64 6 (eF t5.y)]⟩,⟨8,10,.as [.ws .u64 6 (eF t6.x),.ws .u64 6 (eF t6.y)]⟩,⟨8,20,.as [.ws .u64 6 (eF t7.x),.ws .u64 6 (eF t7.y)]⟩,⟨8,21,.as [.ws .u64 6 (eF t8.x),.ws .u64 6 (eF t8.y)]⟩,⟨9,4,.as [.ws .u64 6 (eF t9.x),.ws .u64 6 (eF t9.y)]⟩,⟨9,9,.as [.ws .u64 6 (eF t10.x),.ws .u64 6 (eF t10.y)]⟩,⟨10,2,.lit (.bo true)⟩,⟨11,2,.lit (.bo true)⟩] ?_
     refine same (p:=(eqN W 6 z0 (fun _=>0) && (eqN W 6 z1 (fun _=>0) && true)) = false/\(eqN W 6 w0 (fun _=>0) && (eqN W 6 w1 (fun _=>0) && true)) = false/\asP [.ws .u64 6 (eF (mul2x (dF z0) (dF z1) (dF z0) (dF z1))),.ws .u64 6 (eF (mul2y (dF z0) (dF z1) (dF z0) (dF z1)))] [.ws .u64 6 (eF t1.x),.ws .u64 6 (eF t1.y)]/\nv z0 < pN/\nv z1 < pN/\nv z0 < pN/\nv z1 < pN/\asP [.ws .u64 6 (eF (mul2x (dF w0) (dF w1) (dF w0) (dF w1))),.ws .u64 6 (eF (mul2y (dF w0) (dF w1) (dF w0) (dF w1)))] [.ws .u64 6 (eF t2.x),.ws .u64 6 (eF t2.y)]/\nv w0 < pN/\nv w1 < pN/\nv w0 < pN/\nv w1 < pN/\asP [.ws .u64 6 (eF (mul2x (dF x0) (dF x1) (dF (eF t2.x)) (dF (eF t2.y)))),.ws .u64 6 (eF (mul2y (dF x0) (dF x1) (dF (eF t2.x)) (dF (eF t2.y))))] [.ws .u64 6 (eF t3.x),.ws .u64 6 (eF t3.y)]/\nv x0 < pN/\nv x1 < pN/\nv (eF t2.x) < pN/\nv (eF t2.y) < pN/\asP [.ws .u64 6 (eF (mul2x (dF u0) (dF u1) (dF (eF t1.x)) (dF (eF t1.y)))),.ws .u64 6 (eF (mul2y (dF u0) (dF u1) (dF (eF t1.x)) (dF (eF t1.y))))] [.ws .u64 6 (eF t4.x),.ws .u64 6 (eF t4.y)]/\nv u0 < pN/\nv u1 < pN/\nv (eF t1.x) < pN/\nv (eF t1.y) < pN/\asP [.ws .u64 6 (eF (mul2x (dF (eF t2.x)) (dF (eF t2.y)) (dF w0) (dF w1))),.ws .u64 6 (eF (mul2y (dF (eF t2.x)) (dF (eF t2.y)) (dF w0) (dF w1)))] [.ws .u64 6 (eF t5.x),.ws .u64 6 (eF t5.y)]/\nv (eF t2.x) < pN/\nv (eF t2.y) < pN/\nv w0 < pN/\nv w1 < pN/\asP [.ws .u64 6 (eF (mul2x (dF y0) (dF y1) (dF (eF t5.x)) (dF (eF t5.y)))),.ws .u64 6 (eF (mul2y (dF y0) (dF y1) (dF (eF t5.x)) (dF (eF t5.y))))] [.ws .u64 6 (eF t6.x),.ws .u64 6 (eF t6.y)]/\nv y0 < pN/\nv y1 < pN/\nv (eF t5.x) < pN/\nv (eF t5.y) < pN/\asP [.ws .u64 6 (eF (mul2x (dF (eF t1.x)) (dF (eF t1.y)) (dF z0) (dF z1))),.ws .u64 6 (eF (mul2y (dF (eF t1.x)) (dF (eF t1.y)) (dF z0) (dF z1)))] [.ws .u64 6 (eF t7.x),.ws .u64 6 (eF t7.y)]/\nv (eF t1.x) < pN/\nv (eF t1.y) < pN/\nv z0 < pN/\nv z1 < pN/\asP [.ws .u64 6 (eF (mul2x (dF v0) (dF v1) (dF (eF t7.x)) (dF (eF t7.y)))),.ws .u64 6 (eF (mul2y (dF v0) (dF v1) (dF (eF t7.x)) (dF (eF t7.y))))] [.ws .u64 6 (eF t8.x),.ws .u64 6 (eF t8.y)]/\nv v0 < pN/\nv v1 < pN/\nv (eF t7.x) < pN/\nv (eF t7.y) < pN/\asP [.ws .u64 6 (eF (sub2x (dF (eF t4.x)) (dF (eF t4.y)) (dF (eF t3.x)) (dF (eF t3.y)))),.ws .u64 6 (eF (sub2y (dF (eF t4.x)) (dF (eF t4.y)) (dF (eF t3.x)) (dF (eF t3.y))))] [.ws .u64 6 (eF t9.x),.ws .u64 6 (eF t9.y)]/\nv (eF t4.x) < pN/\nv (eF t4.y) < pN/\nv (eF t3.x) < pN/\nv (eF t3.y) < pN/\asP [.ws .u64 6 (eF (sub2x (dF (eF t8.x)) (dF (eF t8.y)) (dF (eF t6.x)) (dF (eF t6.y)))),.ws .u64 6 (eF (sub2y (dF (eF t8.x)) (dF (eF t8.y)) (dF (eF t6.x)) (dF (eF t6.y))))] [.ws .u64 6 (eF t10.x),.ws .u64 6 (eF t10.y)]/\nv (eF t8.x) < pN/\nv (eF t8.y) < pN/\nv (eF t6.x) < pN/\nv (eF t6.y) < pN/\(eqN W 6 (eF t9.x) (fun _=>0) && (eqN W 6 (eF t9.y) (fun _=>0) && true)) = true/\(eqN W 6 (eF t10.x) (fun _=>0) && (eqN W 6 (eF t10.y) (fun _=>0) && true)) = true/\fdQ = fdQ/\nv x0 < pN/\nv x1 < pN/\nv y0 < pN/\nv y1 < pN/\nv z0 < pN/\nv z1 < pN/\endN (.v1 (.agg [.ws .u64 6 (eF (J3.dbl (⟨(⟨dF x0,dF x1⟩:F2p),(⟨dF y0,dF y1⟩:F2p),(⟨dF z0,dF z1⟩:F2p)⟩:J3 F2p)).x.x),.ws .u64 6 (eF (J3.dbl (⟨(⟨dF x0,dF x1⟩:F2p),(⟨dF y0,dF y1⟩:F2p),(⟨dF z0,dF z1⟩:F2p)⟩:J3 F2p)).x.y),.ws .u64 6 (eF (J3.dbl (⟨(⟨dF x0,dF x1⟩:F2p),(⟨dF y0,dF y1⟩:F2p),(⟨dF z0,dF z1⟩:F2p)⟩:J3 F2p)).y.x),.ws .u64 6 (eF (J3.dbl (⟨(⟨dF x0,dF x1⟩:F2p),(⟨dF y0,dF y1⟩:F2p),(⟨dF z0,dF z1⟩:F2p)⟩:J3 F2p)).y.y),.ws .u64 6 (eF (J3.dbl (⟨(⟨dF x0,dF x1⟩:F2p),(⟨dF y0,dF y1⟩:F2p),(⟨dF z0,dF z1⟩:F2p)⟩:J3 F2p)).z.x),.ws .u64 6 (eF (J3.dbl (⟨(⟨dF x0,dF x1⟩:F2p),(⟨dF y0,dF y1⟩:F2p),(⟨dF z0,dF z1⟩:F2p)⟩:J3 F2p)).z.y)])) (.v1 (.agg [.ws .u64 6 (eF (J3.dbl (⟨(⟨dF x0,dF x1⟩:F2p),(⟨dF y0,dF y1⟩:F2p),(⟨dF z0,dF z1⟩:F2p)⟩:J3 F2p)).x.x),.ws .u64 6 (eF (J3.dbl (⟨(⟨dF x0,dF x1⟩:F2p),(⟨dF y0,dF y1⟩:F2p),(⟨dF z0,dF z1⟩:F2p)⟩:J3 F2p)).x.y),.ws .u64 6 (eF (J3.dbl (⟨(⟨dF x0,dF x1⟩:F2p),(⟨dF y0,dF y1⟩:F2p),(⟨dF z0,dF z1⟩:F2p)⟩:J3 F2p)).y.x),.ws .u64 6 (eF (J3.dbl (⟨(⟨dF x0,dF x1⟩:F2p),(⟨dF y0,dF y1⟩:F2p),(⟨dF z0,dF z1⟩:F2p)⟩:J3 F2p)).y.y),.ws .u64 6 (eF (J3.dbl (⟨(⟨dF x0,dF x1⟩:F2p),(⟨dF y0,dF y1⟩:F2p),(⟨dF z0,dF z1⟩:F2p)⟩:J3 F2p)).z.x),.ws .u64 6 (eF (J3.dbl (⟨(⟨dF x0,dF x1⟩:F2p),(⟨dF y0,dF y1⟩:F2p),(⟨dF z0,dF z1⟩:F2p)⟩:J3 F2p)).z.y)]))) ?_ (by kernel_rfl)
     exact ⟨zQ_f hz0 hz1 hZZ,zQ_f hw0 hw1 hWW,as_mulQ rfl rfl rfl rfl ht1,hz0,hz1,hz0,hz1,as_mulQ rfl rfl rfl rfl ht2,hw0,hw1,hw0,hw1,as_mulQ rfl rfl (dF_eF _) (dF_eF _) ht3,hx0,hx1,lt_eF _,lt_eF _,as_mulQ rfl rfl (dF_eF _) (dF_eF _) ht4,hu0,hu1,lt_eF _,lt_eF _,as_mulQ (dF_eF _) (dF_eF _) rfl rfl ht5,lt_eF _,lt_eF _,hw0,hw1,as_mulQ rfl rfl (dF_eF _) (dF_eF _) ht6,hy0,hy1,lt_eF _,lt_eF _,as_mulQ (dF_eF _) (dF_eF _) rfl rfl ht7,lt_eF _,lt_eF _,hz0,hz1,as_mulQ rfl rfl (dF_eF _) (dF_eF _) ht8,hv0,hv1,lt_eF _,lt_eF _,as_subQ (dF_eF _) (dF_eF _) (dF_eF _) (dF_eF _) ht9,lt_eF _,lt_eF _,lt_eF _,lt_eF _,as_subQ (dF_eF _) (dF_eF _) (dF_eF _) (dF_eF _) ht10,lt_eF _,lt_eF _,lt_eF _,lt_eF _,zQ_t (lt_eF _) (lt_eF _) (by rw [dF_eF,dF_eF];subst ht10 ht9 ht8 ht7 ht6 ht5 ht4 ht3 ht2 ht1;exact hh0),zQ_t (lt_eF _) (lt_eF _) (by rw [dF_eF,dF_eF];subst ht10 ht9 ht8 ht7 ht6 ht5 ht4 ht3 ht2 ht1;exact hr0),rfl,hx0,hx1,hy0,hy1,hz0,hz1,_,rfl,fun _=>rfl⟩
    ·have hadd:J3.add (⟨(⟨dF x0,dF x1⟩:F2p),(⟨dF y0,dF y1⟩:F2p),(⟨dF z0,dF z1⟩:F2p)⟩:J3 F2p) (⟨(⟨dF u0,dF u1⟩:F2p),(⟨dF v0,dF v1⟩:F2p),(⟨dF w0,dF w1⟩:F2p)⟩:J3 F2p) = J3.nil:=hadd0.trans ((if_pos hh0).trans (if_neg hr0))
     rw [hadd,nilQ]
     obtain ⟨t1,ht1⟩:∃ q_:F2p,q_ = (⟨dF z0,dF z1⟩:F2p) * (⟨dF z0,dF z1⟩:F2p):=⟨_,rfl⟩
     obtain ⟨t2,ht2⟩:∃ q_:F2p,q_ = (⟨dF w0,dF w1⟩:F2p) * (⟨dF w0,dF w1⟩:F2p):=⟨_,rfl⟩
     obtain ⟨t3,ht3⟩:∃ q_:F2p,q_ = (⟨dF x0,dF x1⟩:F2p) * t2:=⟨_,rfl⟩
     obtain ⟨t4,ht4⟩:∃ q_:F2p,q_ = (⟨dF u0,dF u1⟩:F2p) * t1:=⟨_,rfl⟩
     obtain ⟨t5,ht5⟩:∃ q_:F2p,q_ = t2 * (⟨dF w0,dF w1⟩:F2p):=⟨_,rfl⟩
     obtain ⟨t6,ht6⟩:∃ q_:F2p,q_ = (⟨dF y0,dF y1⟩:F2p) * t5:=⟨_,rfl⟩
     obtain ⟨t7,ht7⟩:∃ q_:F2p,q_ = t1 * (⟨dF z0,dF z1⟩:F2p):=⟨_,rfl⟩
     obtain ⟨t8,ht8⟩:∃ q_:F2p,q_ = (⟨dF v0,dF v1⟩:F2p) * t7:=⟨_,rfl⟩
     obtain ⟨t9,ht9⟩:∃ q_:F2p,q_ = t4 - t3:=⟨_,rfl⟩
     obtain ⟨t10,ht10⟩:∃ q_:F2p,q_ = t8 - t6:=⟨_,rfl⟩
     refine evS_q mixed tt_ok GSQ_ok 200 [⟨2,3,.lit (.bo false)⟩,⟨4,3,.lit (.bo false)⟩,⟨6,6,.as [.ws .u64 6 (eF t1.x),.ws .u64 6 (eF t1.y)]⟩,⟨6,13,.as [.ws .u64 6 (eF t2.x),.ws .u64 6 (eF t2.y)]⟩,⟨7,5,.as [.ws .u64 6 (eF t3.x),.ws .u64 6 (eF t3.y)]⟩,⟨7,11,.as [.ws .u64 6 (eF t4.x),.ws .u64 6 (eF t4.y)]⟩,⟨8,9,.as [.ws .u64 6 (eF t5.x),.ws .u64 6 (eF t5.y)]⟩,⟨8,10,.as [.ws .u64 6 (eF t6.x),.ws .u64 6 (eF t6.y)]⟩,⟨8,20,.as [.ws .u64 6 (eF t7.x),.ws .u64 6 (eF t7.y)]⟩,⟨8,21,.as [.ws .u64 6 (eF t8.x),.ws .u64 6 (eF t8.y)]⟩,⟨9,4,.as [.ws .u64 6 (eF t9.x),.ws .u64 6 (eF t9.y)]⟩,⟨9,9,.as [.ws .u64 6 (eF t10.x),.ws .u64 6 (eF t10.y)]⟩,⟨10,2,.lit (.bo true)⟩,⟨11,2,.lit (.bo false)⟩] ?_
     refine same (p:=(eqN W 6 z0 (fun _=>0) && (eqN W 6 z1 (fun _=>0) && true)) = false/\(eqN W 6 w0 (fun _=>0) && (eqN W 6 w1 (fun _=>0) && true)) = false/\asP [.ws .u64 6 (eF (mul2x (dF z0) (dF z1) (dF z0) (dF z1))),.ws .u64 6 (eF (mul2y (dF z0) (dF z1) (dF z0) (dF z1)))] [.ws .u64 6 (eF t1.x),.ws .u64 6 (eF t1.y)]/\nv z0 < pN/\nv z1 < pN/\nv z0 < pN/\nv z1 < pN/\asP [.ws .u64 6 (eF (mul2x (dF w0) (dF w1) (dF w0) (dF w1))),.ws .u64 6 (eF (mul2y (dF w0) (dF w1) (dF w0) (dF w1)))] [.ws .u64 6 (eF t2.x),.ws .u64 6 (eF t2.y)]/\nv w0 < pN/\nv w1 < pN/\nv w0 < pN/\nv w1 < pN/\asP [.ws .u64 6 (eF (mul2x (dF x0) (dF x1) (dF (eF t2.x)) (dF (eF t2.y)))),.ws .u64 6 (eF (mul2y (dF x0) (dF x1) (dF (eF t2.x)) (dF (eF t2.y))))] [.ws .u64 6 (eF t3.x),.ws .u64 6 (eF t3.y)]/\nv x0 < pN/\nv x1 < pN/\nv (eF t2.x) < pN/\nv (eF t2.y) < pN/\asP [.ws .u64 6 (eF (mul2x (dF u0) (dF u1) (dF (eF t1.x)) (dF (eF t1.y)))),.ws .u64 6 (eF (mul2y (dF u0) (dF u1) (dF (eF t1.x)) (dF (eF t1.y))))] [.ws .u64 6 (eF t4.x),.ws .u64 6 (eF t4.y)]/\nv u0 < pN/\nv u1 < pN/\nv (eF t1.x) < pN/\nv (eF t1.y) < pN/\asP [.ws .u64 6 (eF (mul2x (dF (eF t2.x)) (dF (eF t2.y)) (dF w0) (dF w1))),.ws .u64 6 (eF (mul2y (dF (eF t2.x)) (dF (eF t2.y)) (dF w0) (dF w1)))] [.ws .u64 6 (eF t5.x),.ws .u64 6 (eF t5.y)]/\nv (eF t2.x) < pN/\nv (eF t2.y) < pN/\nv w0 < pN/\nv w1 < pN/\asP [.ws .u64 6 (eF (mul2x (dF y0) (dF y1) (dF (eF t5.x)) (dF (eF t5.y)))),.ws .u64 6 (eF (mul2y (dF y0) (dF y1) (dF (eF t5.x)) (dF (eF t5.y))))] [.ws .u64 6 (eF t6.x),.ws .u64 6 (eF t6.y)]/\nv y0 < pN/\nv y1 < pN/\nv (eF t5.x) < pN/\nv (eF t5.y) < pN/\asP [.ws .u64 6 (eF (mul2x (dF (eF t1.x)) (dF (eF t1.y)) (dF z0) (dF z1))),.ws .u64 6 (eF (mul2y (dF (eF t1.x)) (dF (eF t1.y)) (dF z0) (dF z1)))] [.ws .u64 6 (eF t7.x),.ws .u64 6 (eF t7.y)]/\nv (eF t1.x) < pN/\nv (eF t1.y) < pN/\nv z0 < pN/\nv z1 < pN/\asP [.ws .u64 6 (eF (mul2x (dF v0) (dF v1) (dF (eF t7.x)) (dF (eF t7.y)))),.ws .u64 6 (eF (mul2y (dF v0) (dF v1) (dF (eF t7.x)) (dF (eF t7.y))))] [.ws .u64 6 (eF t8.x),.ws .u64 6 (eF t8.y)]/\nv v0 < pN/\nv v1 < pN/\nv (eF t7.x) < pN/\nv (eF t7.y) < pN/\asP [.ws .u64 6 (eF (sub2x (dF (eF t4.x)) (dF (eF t4.y)) (dF (eF t3.x)) (dF (eF t3.y)))),.ws .u64 6 (eF (sub2y (dF (eF t4.x)) (dF (eF t4.y)) (dF (eF t3.x)) (dF (eF t3.y))))] [.ws .u64 6 (eF t9.x),.ws .u64 6 (eF t9.y)]/\nv (eF t4.x) < pN/\nv (eF t4.y) < pN/\nv (eF t3.x) < pN/\nv (eF t3.y) < pN/\asP [.ws .u64 6 (eF (sub2x (dF (eF t8.x)) (dF (eF t8.y)) (dF (eF t6.x)) (dF (eF t6.y)))),.ws .u64 6 (eF (sub2y (dF (eF t8.x)) (dF (eF t8.y)) (dF (eF t6.x)) (dF (eF t6.y))))] [.ws .u64 6 (eF t10.x),.ws .u64 6 (eF t10.y)]/\nv (eF t8.x) < pN/\nv (eF t8.y) < pN/\nv (eF t6.x) < pN/\nv (eF t6.y) < pN/\(eqN W 6 (eF t9.x) (fun _=>0) && (eqN W 6 (eF t9.y) (fun _=>0) && true)) = true/\(eqN W 6 (eF t10.x) (fun _=>0) && (eqN W 6 (eF t10.y) (fun _=>0) && true)) = false/\endN (.v1 (.agg [.ws .u64 6 oneF,.ws .u64 6 (fun _=>0),.ws .u64 6 oneF,.ws .u64 6 (fun _=>0),.ws .u64 6 (fun _=>0),.ws .u64 6 (fun _=>0)])) (.v1 (.agg [.ws .u64 6 (eF ((⟨1,1,0⟩:J3 F2p)).x.x),.ws .u64 6 (eF ((⟨1,1,0⟩:J3 F2p)).x.y),.ws .u64 6 (eF ((⟨1,1,0⟩:J3 F2p)).y.x),.ws .u64 6 (eF ((⟨1,1,0⟩:J3 F2p)).y.y),.ws .u64 6 (eF ((⟨1,1,0⟩:J3 F2p)).z.x),.ws .u64 6 (eF ((⟨1,1,0⟩:J3 F2p)).z.y)]))) ?_ (by kernel_rfl)
     exact ⟨zQ_f hz0 hz1 hZZ,zQ_f hw0 hw1 hWW,as_mulQ rfl rfl rfl rfl ht1,hz0,hz1,hz0,hz1,as_mulQ rfl rfl rfl rfl ht2,hw0,hw1,hw0,hw1,as_mulQ rfl rfl (dF_eF _) (dF_eF _) ht3,hx0,hx1,lt_eF _,lt_eF _,as_mulQ rfl rfl (dF_eF _) (dF_eF _) ht4,hu0,hu1,lt_eF _,lt_eF _,as_mulQ (dF_eF _) (dF_eF _) rfl rfl ht5,lt_eF _,lt_eF _,hw0,hw1,as_mulQ rfl rfl (dF_eF _) (dF_eF _) ht6,hy0,hy1,lt_eF _,lt_eF _,as_mulQ (dF_eF _) (dF_eF _) rfl rfl ht7,lt_eF _,lt_eF _,hz0,hz1,as_mulQ rfl rfl (dF_eF _) (dF_eF _) ht8,hv0,hv1,lt_eF _,lt_eF _,as_subQ (dF_eF _) (dF_eF _) (dF_eF _) (dF_eF _) ht9,lt_eF _,lt_eF _,lt_eF _,lt_eF _,as_subQ (dF_eF _) (dF_eF _) (dF_eF _) (dF_eF _) ht10,lt_eF _,lt_eF _,lt_eF _,lt_eF _,zQ_t (lt_eF _) (lt_eF _) (by rw [dF_eF,dF_eF];subst ht10 ht9 ht8 ht7 ht6 ht5 ht4 ht3 ht2 ht1;exact hh0),zQ_f (lt_eF _) (lt_eF _) (by rw [dF_eF,dF_eF];subst ht10 ht9 ht8 ht7 ht6 ht5 ht4 ht3 ht2 ht1;exact hr0),endC (cv_cons q1x (cv_cons q1y (cv_cons q1x (cv_cons q1y (cv_cons q0x (cv_cons q0y (cv_nil)))))))⟩
   ·have hadd:J3.add (⟨(⟨dF x0,dF x1⟩:F2p),(⟨dF y0,dF y1⟩:F2p),(⟨dF z0,dF z1⟩:F2p)⟩:J3 F2p) (⟨(⟨dF u0,dF u1⟩:F2p),(⟨dF v0,dF v1⟩:F2p),(⟨dF w0,dF w1⟩:F2p)⟩:J3 F2p) = J3.gen (⟨(⟨dF x0,dF x1⟩:F2p),(⟨dF y0,dF y1⟩:F2p),(⟨dF z0,dF z1⟩:F2p)⟩:J3 F2p) (⟨(⟨dF u0,dF u1⟩:F2p),(⟨dF v0,dF v1⟩:F2p),(⟨dF w0,dF w1⟩:F2p)⟩:J3 F2p):=hadd0.trans (if_neg hh0)
    rw [hadd]
    obtain ⟨t1,ht1⟩:∃ q_:F2p,q_ = (⟨dF z0,dF z1⟩:F2p) * (⟨dF z0,dF z1⟩:F2p):=⟨_,rfl⟩
    obtain ⟨t2,ht2⟩:∃ q_:F2p,q_ = (⟨dF w0,dF w1⟩:F2p) * (⟨dF w0,dF w1⟩:F2p):=⟨_,rfl⟩
    obtain ⟨t3,ht3⟩:∃ q_:F2p,q_ = (⟨dF x0,dF x1⟩:F2p) * t2:=⟨_,rfl⟩
    obtain ⟨t4,ht4⟩:∃ q_:F2p,q_ = (⟨dF u0,dF u1⟩:F2p) * t1:=⟨_,rfl⟩
    obtain ⟨t5,ht5⟩:∃ q_:F2p,q_ = t2 * (⟨dF w0,dF w1⟩:F2p):=⟨_,rfl⟩
    obtain ⟨t6,ht6⟩:∃ q_:F2p,q_ = (⟨dF y0,dF y1⟩:F2p) * t5:=⟨_,rfl⟩
    obtain ⟨t7,ht7⟩:∃ q_:F2p,q_ = t1 * (⟨dF z0,dF z1⟩:F2p):=⟨_,rfl⟩
    obtain ⟨t8,ht8⟩:∃ q_:F2p,q_ = (⟨dF v0,dF v1⟩:F2p) * t7:=⟨_,rfl⟩
    obtain ⟨t9,ht9⟩:∃ q_:F2p,q_ = t4 - t3:=⟨_,rfl⟩
    obtain ⟨t10,ht10⟩:∃ q_:F2p,q_ = t8 - t6:=⟨_,rfl⟩
    obtain ⟨t11,ht11⟩:∃ q_:F2p,q_ = t9 * t9:=⟨_,rfl⟩
    obtain ⟨t12,ht12⟩:∃ q_:F2p,q_ = t11 * t9:=⟨_,rfl⟩
    obtain ⟨t13,ht13⟩:∃ q_:F2p,q_ = t3 * t11:=⟨_,rfl⟩
    obtain ⟨t14,ht14⟩:∃ q_:F2p,q_ = t10 * t10:=⟨_,rfl⟩
    obtain ⟨t15,ht15⟩:∃ q_:F2p,q_ = t14 - t12:=⟨_,rfl⟩
    obtain ⟨t16,ht16⟩:∃ q_:F2p,q_ = t13 + t13:=⟨_,rfl⟩
    obtain ⟨t17,ht17⟩:∃ q_:F2p,q_ = t15 - t16:=⟨_,rfl⟩
    obtain ⟨t18,ht18⟩:∃ q_:F2p,q_ = t13 - t17:=⟨_,rfl⟩
    obtain ⟨t19,ht19⟩:∃ q_:F2p,q_ = t10 * t18:=⟨_,rfl⟩
    obtain ⟨t20,ht20⟩:∃ q_:F2p,q_ = t6 * t12:=⟨_,rfl⟩
    obtain ⟨t21,ht21⟩:∃ q_:F2p,q_ = t19 - t20:=⟨_,rfl⟩
    obtain ⟨t22,ht22⟩:∃ q_:F2p,q_ = (⟨dF z0,dF z1⟩:F2p) * (⟨dF w0,dF w1⟩:F2p):=⟨_,rfl⟩
    obtain ⟨t23,ht23⟩:∃ q_:F2p,q_ = t9 * t22:=⟨_,rfl⟩
    refine evS_q mixed tt_ok GSQ_ok 300 [⟨2,3,.lit (.bo false)⟩,⟨4,3,.lit (.bo false)⟩,⟨6,6,.as [.ws .u64 6 (eF t1.x),.ws .u64 6 (eF t1.y)]⟩,⟨6,13,.as [.ws .u64 6 (eF t2.x),.ws .u64 6 (eF t2.y)]⟩,⟨7,5,.as [.ws .u64 6 (eF t3.x),.ws .u64 6 (eF t3.y)]⟩,⟨7,11,.as [.ws .u64 6 (eF t4.x),.ws .u64 6 (eF t4.y)]⟩,⟨8,9,.as [.ws .u64 6 (eF t5.x),.ws .u64 6 (eF t5.y)]⟩,⟨8,10,.as [.ws .u64 6 (eF t6.x),.ws .u64 6 (eF t6.y)]⟩,⟨8,20,.as [.ws .u64 6 (eF t7.x),.ws .u64 6 (eF t7.y)]⟩,⟨8,21,.as [.ws .u64 6 (eF t8.x),.ws .u64 6 (eF t8.y)]⟩,⟨9,4,.as [.ws .u64 6 (eF t9.x),.ws .u64 6 (eF t9.y)]⟩,⟨9,9,.as [.ws .u64 6 (eF t10.x),.ws .u64 6 (eF t10.y)]⟩,⟨10,2,.lit (.bo false)⟩,⟨14,4,.as [.ws .u64 6 (eF t11.x),.ws .u64 6 (eF t11.y)]⟩,⟨15,4,.as [.ws .u64 6 (eF t12.x),.ws .u64 6 (eF t12.y)]⟩,⟨16,4,.as [.ws .u64 6 (eF t13.x),.ws .u64 6 (eF t13.y)]⟩,⟨17,8,.as [.ws .u64 6 (eF t14.x),.ws .u64 6 (eF t14.y)]⟩,⟨17,10,.as [.ws .u64 6 (eF t15.x),.ws .u64 6 (eF t15.y)]⟩,⟨17,15,.as [.ws .u64 6 (eF t16.x),.ws .u64 6 (eF t16.y)]⟩,⟨17,16,.as [.ws .u64 6 (eF t17.x),.ws .u64 6 (eF t17.y)]⟩,⟨18,10,.as [.ws .u64 6 (eF t18.x),.ws .u64 6 (eF t18.y)]⟩,⟨18,11,.as [.ws .u64 6 (eF t19.x),.ws .u64 6 (eF t19.y)]⟩,⟨18,16,.as [.ws .u64 6 (eF t20.x),.ws .u64 6 (eF t20.y)]⟩,⟨18,17,.as [.ws .u64 6 (eF t21.x),.ws .u64 6 (eF t21.y)]⟩,⟨18,27,.as [.ws .u64 6 (eF t22.x),.ws .u64 6 (eF t22.y)]⟩,⟨18,28,.as [.ws .u64 6 (eF t23.x),.ws .u64 6 (eF t23.y)]⟩] ?_
    refine same (p:=(eqN W 6 z0 (fun _=>0) && (eqN W 6 z1 (fun _=>0) && true)) = false/\(eqN W 6 w0 (fun _=>0) && (eqN W 6 w1 (fun _=>0) && true)) = false/\asP [.ws .u64 6 (eF (mul2x (dF z0) (dF z1) (dF z0) (dF z1))),.ws .u64 6 (eF (mul2y (dF z0) (dF z1) (dF z0) (dF z1)))] [.ws .u64 6 (eF t1.x),.ws .u64 6 (eF t1.y)]/\nv z0 < pN/\nv z1 < pN/\nv z0 < pN/\nv z1 < pN/\asP [.ws .u64 6 (eF (mul2x (dF w0) (dF w1) (dF w0) (dF w1))),.ws .u64 6 (eF (mul2y (dF w0) (dF w1) (dF w0) (dF w1)))] [.ws .u64 6 (eF t2.x),.ws .u64 6 (eF t2.y)]/\nv w0 < pN/\nv w1 < pN/\nv w0 < pN/\nv w1 < pN/\asP [.ws .u64 6 (eF (mul2x (dF x0) (dF x1) (dF (eF t2.x)) (dF (eF t2.y)))),.ws .u64 6 (eF (mul2y (dF x0) (dF x1) (dF (eF t2.x)) (dF (eF t2.y))))] [.ws .u64 6 (eF t3.x),.ws .u64 6 (eF t3.y)]/\nv x0 < pN/\nv x1 < pN/\nv (eF t2.x) < pN/\nv (eF t2.y) < pN/\asP [.ws .u64 6 (eF (mul2x (dF u0) (dF u1) (dF (eF t1.x)) (dF (eF t1.y)))),.ws .u64 6 (eF (mul2y (dF u0) (dF u1) (dF (eF t1.x)) (dF (eF t1.y))))] [.ws .u64 6 (eF t4.x),.ws .u64 6 (eF t4.y)]/\nv u0 < pN/\nv u1 < pN/\nv (eF t1.x) < pN/\nv (eF t1.y) < pN/\asP [.ws .u64 6 (eF (mul2x (dF (eF t2.x)) (dF (eF t2.y)) (dF w0) (dF w1))),.ws .u64 6 (eF (mul2y (dF (eF t2.x)) (dF (eF t2.y)) (dF w0) (dF w1)))] [.ws .u64 6 (eF t5.x),.ws .u64 6 (eF t5.y)]/\nv (eF t2.x) < pN/\nv (eF t2.y) < pN/\nv w0 < pN/\nv w1 < pN/\asP [.ws .u64 6 (eF (mul2x (dF y0) (dF y1) (dF (eF t5.x)) (dF (eF t5.y)))),.ws .u64 6 (eF (mul2y (dF y0) (dF y1) (dF (eF t5.x)) (dF (eF t5.y))))] [.ws .u64 6 (eF t6.x),.ws .u64 6 (eF t6.y)]/\nv y0 < pN/\nv y1 < pN/\nv (eF t5.x) < pN/\nv (eF t5.y) < pN/\asP [.ws .u64 6 (eF (mul2x (dF (eF t1.x)) (dF (eF t1.y)) (dF z0) (dF z1))),.ws .u64 6 (eF (mul2y (dF (eF t1.x)) (dF (eF t1.y)) (dF z0) (dF z1)))] [.ws .u64 6 (eF t7.x),.ws .u64 6 (eF t7.y)]/\nv (eF t1.x) < pN/\nv (eF t1.y) < pN/\nv z0 < pN/\nv z1 < pN/\asP [.ws .u64 6 (eF (mul2x (dF v0) (dF v1) (dF (eF t7.x)) (dF (eF t7.y)))),.ws .u64 6 (eF (mul2y (dF v0) (dF v1) (dF (eF t7.x)) (dF (eF t7.y))))] [.ws .u64 6 (eF t8.x),.ws .u64 6 (eF t8.y)]/\nv v0 < pN/\nv v1 < pN/\nv (eF t7.x) < pN/\nv (eF t7.y) < pN/\asP [.ws .u64 6 (eF (sub2x (dF (eF t4.x)) (dF (eF t4.y)) (dF (eF t3.x)) (dF (eF t3.y)))),.ws .u64 6 (eF (sub2y (dF (eF t4.x)) (dF (eF t4.y)) (dF (eF t3.x)) (dF (eF t3.y))))] [.ws .u64 6 (eF t9.x),.ws .u64 6 (eF t9.y)]/\nv (eF t4.x) < pN/\nv (eF t4.y) < pN/\nv (eF t3.x) < pN/\nv (eF t3.y) < pN/\asP [.ws .u64 6 (eF (sub2x (dF (eF t8.x)) (dF (eF t8.y)) (dF (eF t6.x)) (dF (eF t6.y)))),.ws .u64 6 (eF (sub2y (dF (eF t8.x)) (dF (eF t8.y)) (dF (eF t6.x)) (dF (eF t6.y))))] [.ws .u64 6 (eF t10.x),.ws .u64 6 (eF t10.y)]/\nv (eF t8.x) < pN/\nv (eF t8.y) < pN/\nv (eF t6.x) < pN/\nv (eF t6.y) < pN/\(eqN W 6 (eF t9.x) (fun _=>0) && (eqN W 6 (eF t9.y) (fun _=>0) && true)) = false/\asP [.ws .u64 6 (eF (mul2x (dF (eF t9.x)) (dF (eF t9.y)) (dF (eF t9.x)) (dF (eF t9.y)))),.ws .u64 6 (eF (mul2y (dF (eF t9.x)) (dF (eF t9.y)) (dF (eF t9.x)) (dF (eF t9.y))))] [.ws .u64 6 (eF t11.x),.ws .u64 6 (eF t11.y)]/\nv (eF t9.x) < pN/\nv (eF t9.y) < pN/\nv (eF t9.x) < pN/\nv (eF t9.y) < pN/\asP [.ws .u64 6 (eF (mul2x (dF (eF t11.x)) (dF (eF t11.y)) (dF (eF t9.x)) (dF (eF t9.y)))),.ws .u64 6 (eF (mul2y (dF (eF t11.x)) (dF (eF t11.y)) (dF (eF t9.x)) (dF (eF t9.y))))] [.ws .u64 6 (eF t12.x),.ws .u64 6 (eF t12.y)]/\nv (eF t11.x) < pN/\nv (eF t11.y) < pN/\nv (eF t9.x) < pN/\nv (eF t9.y) < pN/\asP [.ws .u64 6 (eF (mul2x (dF (eF t3.x)) (dF (eF t3.y)) (dF (eF t11.x)) (dF (eF t11.y)))),.ws .u64 6 (eF (mul2y (dF (eF t3.x)) (dF (eF t3.y)) (dF (eF t11.x)) (dF (eF t11.y))))] [.ws .u64 6 (eF t13.x),.ws .u64 6 (eF t13.y)]/\nv (eF t3.x) < pN/\nv (eF t3.y) < pN/\nv (eF t11.x) < pN/\nv (eF t11.y) < pN/\asP [.ws .u64 6 (eF (mul2x (dF (eF t10.x)) (dF (eF t10.y)) (dF (eF t10.x)) (dF (eF t10.y)))),.ws .u64 6 (eF (mul2y (dF (eF t10.x)) (dF (eF t10.y)) (dF (eF t10.x)) (dF (eF t10.y))))] [.ws .u64 6 (eF t14.x),.ws .u64 6 (eF t14.y)]/\nv (eF t10.x) < pN/\nv (eF t10.y) < pN/\nv (eF t10.x) < pN/\nv (eF t10.y) < pN/\asP [.ws .u64 6 (eF (sub2x (dF (eF t14.x)) (dF (eF t14.y)) (dF (eF t12.x)) (dF (eF t12.y)))),.ws .u64 6 (eF (sub2y (dF (eF t14.x)) (dF (eF t14.y)) (dF (eF t12.x)) (dF (eF t12.y))))] [.ws .u64 6 (eF t15.x),.ws .u64 6 (eF t15.y)]/\nv (eF t14.x) < pN/\nv (eF t14.y) < pN/\nv (eF t12.x) < pN/\nv (eF t12.y) < pN/\asP [.ws .u64 6 (eF (add2x (dF (eF t13.x)) (dF (eF t13.y)) (dF (eF t13.x)) (dF (eF t13.y)))),.ws .u64 6 (eF (add2y (dF (eF t13.x)) (dF (eF t13.y)) (dF (eF t13.x)) (dF (eF t13.y))))] [.ws .u64 6 (eF t16.x),.ws .u64 6 (eF t16.y)]/\nv (eF t13.x) < pN/\nv (eF t13.y) < pN/\nv (eF t13.x) < pN/\nv (eF t13.y) < pN/\asP [.ws .u64 6 (eF (sub2x (dF (eF t15.x)) (dF (eF t15.y)) (dF (eF t16.x)) (dF (eF t16.y)))),.ws .u64 6 (eF (sub2y (dF (eF t15.x)) (dF (eF t15.y)) (dF (eF t16.x)) (dF (eF t16.y))))] [.ws .u64 6 (eF t17.x),.ws .u64 6 (eF t17.y)]/\nv (eF t15.x) < pN/\nv (eF t15.y) < pN/\nv (eF t16.x) < pN/\nv (eF t16.y) < pN/\asP [.ws .u64 6 (eF (sub2x (dF (eF t13.x)) (dF (eF t13.y)) (dF (eF t17.x)) (dF (eF t17.y)))),.ws .u64 6 (eF (sub2y (dF (eF t13.x)) (dF (eF t13.y)) (dF (eF t17.x)) (dF (eF t17.y))))] [.ws .u64 6 (eF t18.x),.ws .u64 6 (eF t18.y)]/\nv (eF t13.x) < pN/\nv (eF t13.y) < pN/\nv (eF t17.x) < pN/\nv (eF t17.y) < pN/\asP [.ws .u64 6 (eF (mul2x (dF (eF t10.x)) (dF (eF t10.y)) (dF (eF t18.x)) (dF (eF t18.y)))),.ws .u64 6 (eF (mul2y (dF (eF t10.x)) (dF (eF t10.y)) (dF (eF t18.x)) (dF (eF t18.y))))] [.ws .u64 6 (eF t19.x),.ws .u64 6 (eF t19.y)]/\nv (eF t10.x) < pN/\nv (eF t10.y) < pN/\nv (eF t18.x) < pN/\nv (eF t18.y) < pN/\asP [.ws .u64 6 (eF (mul2x (dF (eF t6.x)) (dF (eF t6.y)) (dF (eF t12.x)) (dF (eF t12.y)))),.ws .u64 6 (eF (mul2y (dF (eF t6.x)) (dF (eF t6.y)) (dF (eF t12.x)) (dF (eF t12.y))))] [.ws .u64 6 (eF t20.x),.ws .u64 6 (eF t20.y)]/\nv (eF t6.x) < pN/\nv (eF t6.y) < pN/\nv (eF t12.x) < pN/\nv (eF t12.y) < pN/\asP [.ws .u64 6 (eF (sub2x (dF (eF t19.x)) (dF (eF t19.y)) (dF (eF t20.x)) (dF (eF t20.y)))),.ws .u64 6 (eF (sub2y (dF (eF t19.x)) (dF (eF t19.y)) (dF (eF t20.x)) (dF (eF t20.y))))] [.ws .u64 6 (eF t21.x),.ws .u64 6 (eF t21.y)]/\nv (eF t19.x) < pN/\nv (eF t19.y) < pN/\nv (eF t20.x) < pN/\nv (eF t20.y) < pN/\asP [.ws .u64 6 (eF (mul2x (dF z0) (dF z1) (dF w0) (dF w1))),.ws .u64 6 (eF (mul2y (dF z0) (dF z1) (dF w0) (dF w1)))] [.ws .u64 6 (eF t22.x),.ws .u64 6 (eF t22.y)]/\nv z0 < pN/\nv z1 < pN/\nv w0 < pN/\nv w1 < pN/\asP [.ws .u64 6 (eF (mul2x (dF (eF t9.x)) (dF (eF t9.y)) (dF (eF t22.x)) (dF (eF t22.y)))),.ws .u64 6 (eF (mul2y (dF (eF t9.x)) (dF (eF t9.y)) (dF (eF t22.x)) (dF (eF t22.y))))] [.ws .u64 6 (eF t23.x),.ws .u64 6 (eF t23.y)]/\nv (eF t9.x) < pN/\nv (eF t9.y) < pN/\nv (eF t22.x) < pN/\nv (eF t22.y) < pN/\endN (.v1 (.agg [.ws .u64 6 (eF t17.x),.ws .u64 6 (eF t17.y),.ws .u64 6 (eF t21.x),.ws .u64 6 (eF t21.y),.ws .u64 6 (eF t23.x),.ws .u64 6 (eF t23.y)])) (.v1 (.agg [.ws .u64 6 (eF (J3.gen (⟨(⟨dF x0,dF x1⟩:F2p),(⟨dF y0,dF y1⟩:F2p),(⟨dF z0,dF z1⟩:F2p)⟩:J3 F2p) (⟨(⟨dF u0,dF u1⟩:F2p),(⟨dF v0,dF v1⟩:F2p),(⟨dF w0,dF w1⟩:F2p)⟩:J3 F2p)).x.x),.ws .u64 6 (eF (J3.gen (⟨(⟨dF x0,dF x1⟩:F2p),(⟨dF y0,dF y1⟩:F2p),(⟨dF z0,dF z1⟩:F2p)⟩:J3 F2p) (⟨(⟨dF u0,dF u1⟩:F2p),(⟨dF v0,dF v1⟩:F2p),(⟨dF w0,dF w1⟩:F2p)⟩:J3 F2p)).x.y),.ws .u64 6 (eF (J3.gen (⟨(⟨dF x0,dF x1⟩:F2p),(⟨dF y0,dF y1⟩:F2p),(⟨dF z0,dF z1⟩:F2p)⟩:J3 F2p) (⟨(⟨dF u0,dF u1⟩:F2p),(⟨dF v0,dF v1⟩:F2p),(⟨dF w0,dF w1⟩:F2p)⟩:J3 F2p)).y.x),.ws .u64 6 (eF (J3.gen (⟨(⟨dF x0,dF x1⟩:F2p),(⟨dF y0,dF y1⟩:F2p),(⟨dF z0,dF z1⟩:F2p)⟩:J3 F2p) (⟨(⟨dF u0,dF u1⟩:F2p),(⟨dF v0,dF v1⟩:F2p),(⟨dF w0,dF w1⟩:F2p)⟩:J3 F2p)).y.y),.ws .u64 6 (eF (J3.gen (⟨(⟨dF x0,dF x1⟩:F2p),(⟨dF y0,dF y1⟩:F2p),(⟨dF z0,dF z1⟩:F2p)⟩:J3 F2p) (⟨(⟨dF u0,dF u1⟩:F2p),(⟨dF v0,dF v1⟩:F2p),(⟨dF w0,dF w1⟩:F2p)⟩:J3 F2p)).z.x),.ws .u64 6 (eF (J3.gen (⟨(⟨dF x0,dF x1⟩:F2p),(⟨dF y0,dF y1⟩:F2p),(⟨dF z0,dF z1⟩:F2p)⟩:J3 F2p) (⟨(⟨dF u0,dF u1⟩:F2p),(⟨dF v0,dF v1⟩:F2p),(⟨dF w0,dF w1⟩:F2p)⟩:J3 F2p)).z.y)]))) ?_ (by kernel_rfl)
    exact ⟨zQ_f hz0 hz1 hZZ,zQ_f hw0 hw1 hWW,as_mulQ rfl rfl rfl rfl ht1,hz0,hz1,hz0,hz1,as_mulQ rfl rfl rfl rfl ht2,hw0,hw1,hw0,hw1,as_mulQ rfl rfl (dF_eF _) (dF_eF _) ht3,hx0,hx1,lt_eF _,lt_eF _,as_mulQ rfl rfl (dF_eF _) (dF_eF _) ht4,hu0,hu1,lt_eF _,lt_eF _,as_mulQ (dF_eF _) (dF_eF _) rfl rfl ht5,lt_eF _,lt_eF _,hw0,hw1,as_mulQ rfl rfl (dF_eF _) (dF_eF _) ht6,hy0,hy1,lt_eF _,lt_eF _,as_mulQ (dF_eF _) (dF_eF _) rfl rfl ht7,lt_eF _,lt_eF _,hz0,hz1,as_mulQ rfl rfl (dF_eF _) (dF_eF _) ht8,hv0,hv1,lt_eF _,lt_eF _,as_subQ (dF_eF _) (dF_eF _) (dF_eF _) (dF_eF _) ht9,lt_eF _,lt_eF _,lt_eF _,lt_eF _,as_subQ (dF_eF _) (dF_eF _) (dF_eF _) (dF_eF _) ht10,lt_eF _,lt_eF _,lt_eF _,lt_eF _,zQ_f (lt_eF _) (lt_eF _) (by rw [dF_eF,dF_eF];subst ht10 ht9 ht8 ht7 ht6 ht5 ht4 ht3 ht2 ht1;exact hh0),as_mulQ (dF_eF _) (dF_eF _) (dF_eF _) (dF_eF _) ht11,lt_eF _,lt_eF _,lt_eF _,lt_eF _,as_mulQ (dF_eF _) (dF_eF _) (dF_eF _) (dF_eF _) ht12,lt_eF _,lt_eF _,lt_eF _,lt_eF _,as_mulQ (dF_eF _) (dF_eF _) (dF_eF _) (dF_eF _) ht13,lt_eF _,lt_eF _,lt_eF _,lt_eF _,as_mulQ (dF_eF _) (dF_eF _) (dF_eF _) (dF_eF _) ht14,lt_eF _,lt_eF _,lt_eF _,lt_eF _,as_subQ (dF_eF _) (dF_eF _) (dF_eF _) (dF_eF _) ht15,lt_eF _,lt_eF _,lt_eF _,lt_eF _,as_addQ (dF_eF _) (dF_eF _) (dF_eF _) (dF_eF _) ht16,lt_eF _,lt_eF _,lt_eF _,lt_eF _,as_subQ (dF_eF _) (dF_eF _) (dF_eF _) (dF_eF _) ht17,lt_eF _,lt_eF _,lt_eF _,lt_eF _,as_subQ (dF_eF _) (dF_eF _) (dF_eF _) (dF_eF _) ht18,lt_eF _,lt_eF _,lt_eF _,lt_eF _,as_mulQ (dF_eF _) (dF_eF _) (dF_eF _) (dF_eF _) ht19,lt_eF _,lt_eF _,lt_eF _,lt_eF _,as_mulQ (dF_eF _) (dF_eF _) (dF_eF _) (dF_eF _) ht20,lt_eF _,lt_eF _,lt_eF _,lt_eF _,as_subQ (dF_eF _) (dF_eF _) (dF_eF _) (dF_eF _) ht21,lt_eF _,lt_eF _,lt_eF _,lt_eF _,as_mulQ rfl rfl rfl rfl ht22,hz0,hz1,hw0,hw1,as_mulQ (dF_eF _) (dF_eF _) (dF_eF _) (dF_eF _) ht23,lt_eF _,lt_eF _,lt_eF _,lt_eF _,endC (cv_cons (nv_tx (by subst ht23 ht22 ht21 ht20 ht19 ht18 ht17 ht16 ht15 ht14 ht13 ht12 ht11 ht10 ht9 ht8 ht7 ht6 ht5 ht4 ht3 ht2 ht1;rfl)) (cv_cons (nv_ty (by subst ht23 ht22 ht21 ht20 ht19 ht18 ht17 ht16 ht15 ht14 ht13 ht12 ht11 ht10 ht9 ht8 ht7 ht6 ht5 ht4 ht3 ht2 ht1;rfl)) (cv_cons (nv_tx (by subst ht23 ht22 ht21 ht20 ht19 ht18 ht17 ht16 ht15 ht14 ht13 ht12 ht11 ht10 ht9 ht8 ht7 ht6 ht5 ht4 ht3 ht2 ht1;rfl)) (cv_cons (nv_ty (by subst ht23 ht22 ht21 ht20 ht19 ht18 ht17 ht16 ht15 ht14 ht13 ht12 ht11 ht10 ht9 ht8 ht7 ht6 ht5 ht4 ht3 ht2 ht1;rfl)) (cv_cons (nv_tx (by subst ht23 ht22 ht21 ht20 ht19 ht18 ht17 ht16 ht15 ht14 ht13 ht12 ht11 ht10 ht9 ht8 ht7 ht6 ht5 ht4 ht3 ht2 ht1;rfl)) (cv_cons (nv_ty (by subst ht23 ht22 ht21 ht20 ht19 ht18 ht17 ht16 ht15 ht14 ht13 ht12 ht11 ht10 ht9 ht8 ht7 ht6 ht5 ht4 ht3 ht2 ht1;rfl)) (cv_nil)))))))⟩
end Go.Proofs.YtnjocbcjejpklaaGreat
namespace Go.Proofs.YtnjocbcjejpklaaGreat
open Go.Rq Go
set_option maxRecDepth 100000
set_option linter.unusedVariables false
set_option linter.unusedSimpArgs false
set_option maxHeartbeats 4000000
abbrev fourE:Fp:=(ofN (nv (wd (4 % W))))
def onCE:List AV->Option (List Prop × AV)
 | [.v1 (.agg cs),.v1 (.agg [.ws .u64 6 x,.ws .u64 6 y,.one (.bo z)])]=>some ([cs = fdE,nv x < pN,nv y < pN],.v1 (.sc (.bo (A2.on fourE (⟨(dF x),(dF y),z⟩:A2 Fp)))))
 | _=>none
def raCE:List AV->Option (List Prop × AV)
 | [.v1 (.agg cs),.v1 (.agg [.ws .u64 6 x,.ws .u64 6 y,.one (.bo z)])]=>some ([cs = fdE,nv x < pN,nv y < pN],.v1 (.agg [.ws .u64 6 (eF (A2.raise (⟨(dF x),(dF y),z⟩:A2 Fp)).x),.ws .u64 6 (eF (A2.raise (⟨(dF x),(dF y),z⟩:A2 Fp)).y),.ws .u64 6 (eF (A2.raise (⟨(dF x),(dF y),z⟩:A2 Fp)).z)]))
 | _=>none
def loCE:List AV->Option (List Prop × AV)
 | [.v1 (.agg cs),.v1 (.agg [.ws .u64 6 x,.ws .u64 6 y,.ws .u64 6 z])]=>some ([cs = fdE,nv x < pN,nv y < pN,nv z < pN],.v1 (.agg [.ws .u64 6 (eF (A2.lower eInv (⟨(dF x),(dF y),(dF z)⟩:J3 Fp)).x),.ws .u64 6 (eF (A2.lower eInv (⟨(dF x),(dF y),(dF z)⟩:J3 Fp)).y),.one (.bo (A2.lower eInv (⟨(dF x),(dF y),(dF z)⟩:J3 Fp)).z)]))
 | _=>none
def tiCE:List AV->Option (List Prop × AV)
 | [.v1 (.agg cs),.v1 (.agg [.ws .u64 6 x,.ws .u64 6 y,.ws .u64 6 z]),.v1 (.agg [.ws .u64 6 n])]=>some ([cs = fdE,nv x < pN,nv y < pN,nv z < pN],.v1 (.agg [.ws .u64 6 (eF (J3.times (⟨(dF x),(dF y),(dF z)⟩:J3 Fp) (blen (nv n)) (nv n)).x),.ws .u64 6 (eF (J3.times (⟨(dF x),(dF y),(dF z)⟩:J3 Fp) (blen (nv n)) (nv n)).y),.ws .u64 6 (eF (J3.times (⟨(dF x),(dF y),(dF z)⟩:J3 Fp) (blen (nv n)) (nv n)).z)]))
 | _=>none
def inCE (r:Nat):List AV->Option (List Prop × AV)
 | [.v1 (.agg cs),.v1 (.agg [.ws .u64 6 x,.ws .u64 6 y,.one (.bo z)])]=>some ([cs = fdE,nv x < pN,nv y < pN],.v1 (.sc (.bo (A2.isIn fourE r (⟨(dF x),(dF y),z⟩:A2 Fp)))))
 | _=>none
theorem okOnE:(CallC.pure onCE).Ok Tryz.prog 106:=by
 intro args pre v e hp
 unfold onCE at e
 split at e
 rotate_left
 ·cases e
 rename_i cs x y z
 cases e
 have hcs:cs = fdE:=hp _ (by simp)
 subst hcs
 have hx:nv x < pN:=hp (nv x < pN) (by simp)
 have hy:nv y < pN:=hp (nv y < pN) (by simp)
 refine pure_walk' tt_ok Tryz.func106 (by kernel_rfl) (by kernel_rfl) (by rfl) (by rfl) ?_
 cases z
 ·skip
  obtain ⟨t1,ht1⟩:∃ q_:Fp,q_ = (dF y) * (dF y):=⟨_,rfl⟩
  obtain ⟨t2,ht2⟩:∃ q_:Fp,q_ = (dF x) * (dF x):=⟨_,rfl⟩
  obtain ⟨t3,ht3⟩:∃ q_:Fp,q_ = t2 * (dF x):=⟨_,rfl⟩
  obtain ⟨t4,ht4⟩:∃ q_:Fp,q_ = t3 + fourE:=⟨_,rfl⟩
  refine evS_q mixed tt_ok GCE_ok 100 [⟨4,6,.as [.ws .u64 6 (eF t1)]⟩,⟨4,17,.as [.ws .u64 6 (eF t2)]⟩,⟨4,20,.as [.ws .u64 6 (eF t3)]⟩,⟨4,23,.as [.ws .u64 6 (eF t4)]⟩] ?_
  refine same (p:=asP [.ws .u64 6 (eF (eMul (dF y) (dF y)))] [.ws .u64 6 (eF t1)]/\nv y < pN/\asP [.ws .u64 6 (eF (eMul (dF x) (dF x)))] [.ws .u64 6 (eF t2)]/\nv x < pN/\asP [.ws .u64 6 (eF (eMul (dF (eF t2)) (dF x)))] [.ws .u64 6 (eF t3)]/\nv (eF t2) < pN/\asP [.ws .u64 6 (eF (eAdd (dF (eF t3)) (dF (eF (ofN (nv (wd (4 % W))))))))] [.ws .u64 6 (eF t4)]/\nv (eF t3) < pN/\nv (eF (ofN (nv (wd (4 % W))))) < pN/\endN (.v1 (.sc (.bo (eqN W 6 (eF t1) (eF t4) && true)))) (.v1 (.sc (.bo (A2.on fourE (⟨(dF x),(dF y),false⟩:A2 Fp)))))) ?_ (by kernel_rfl)
  exact ⟨as_mulE rfl rfl ht1,hy,as_mulE rfl rfl ht2,hx,as_mulE (dF_eF _) rfl ht3,lt_eF _,as_addE (dF_eF _) (dF_eF _) ht4,lt_eF _,(lt_eF _),endB (by rw [eqE (lt_eF _) (lt_eF _),dF_eF,dF_eF,on_f];exact decide_eq_decide.2 (by rw [ht4,ht3,ht2,ht1]))⟩
 ·by_cases hXX:(dF x) = 0
  ·by_cases hYY:(dF y) = 0
   ·skip
    refine evS_q mixed tt_ok GCE_ok 100 [⟨3,3,.lit (.bo true)⟩,⟨3,8,.lit (.bo true)⟩] ?_
    refine same (p:=(eqN W 6 x (fun _=>0) && true) = true/\(eqN W 6 y (fun _=>0) && true) = true/\endN (.v1 (.sc (.bo true))) (.v1 (.sc (.bo (A2.on fourE (⟨(dF x),(dF y),true⟩:A2 Fp)))))) ?_ (by kernel_rfl)
    exact ⟨zE_t hx hXX,zE_t hy hYY,endB (by rw [on_t,decide_eq_true hXX,decide_eq_true hYY];rfl)⟩
   ·skip
    refine evS_q mixed tt_ok GCE_ok 100 [⟨3,3,.lit (.bo true)⟩,⟨3,8,.lit (.bo false)⟩] ?_
    refine same (p:=(eqN W 6 x (fun _=>0) && true) = true/\(eqN W 6 y (fun _=>0) && true) = false/\endN (.v1 (.sc (.bo false))) (.v1 (.sc (.bo (A2.on fourE (⟨(dF x),(dF y),true⟩:A2 Fp)))))) ?_ (by kernel_rfl)
    exact ⟨zE_t hx hXX,zE_f hy hYY,endB (by rw [on_t,decide_eq_true hXX,decide_eq_false hYY];rfl)⟩
  ·skip
   refine evS_q mixed tt_ok GCE_ok 100 [⟨3,3,.lit (.bo false)⟩] ?_
   refine same (p:=(eqN W 6 x (fun _=>0) && true) = false/\endN (.v1 (.sc (.bo false))) (.v1 (.sc (.bo (A2.on fourE (⟨(dF x),(dF y),true⟩:A2 Fp)))))) ?_ (by kernel_rfl)
   exact ⟨zE_f hx hXX,endB (by rw [on_t,decide_eq_false hXX];rfl)⟩
theorem okRaE:(CallC.pure raCE).Ok Tryz.prog 109:=by
 intro args pre v e hp
 unfold raCE at e
 split at e
 rotate_left
 ·cases e
 rename_i cs x y z
 cases e
 have hcs:cs = fdE:=hp _ (by simp)
 subst hcs
 have hx:nv x < pN:=hp (nv x < pN) (by simp)
 have hy:nv y < pN:=hp (nv y < pN) (by simp)
 refine pure_walk' tt_ok Tryz.func109 (by kernel_rfl) (by kernel_rfl) (by rfl) (by rfl) ?_
 cases z
 ·rw [show A2.raise (⟨(dF x),(dF y),false⟩:A2 Fp) = (⟨(dF x),(dF y),1⟩:J3 Fp) from rfl]
  refine evS_q mixed tt_ok GCE_ok 100 [] ?_
  refine same (p:=endN (.v1 (.agg [.ws .u64 6 x,.ws .u64 6 y,.ws .u64 6 oneF])) (.v1 (.agg [.ws .u64 6 (eF ((⟨(dF x),(dF y),1⟩:J3 Fp)).x),.ws .u64 6 (eF ((⟨(dF x),(dF y),1⟩:J3 Fp)).y),.ws .u64 6 (eF ((⟨(dF x),(dF y),1⟩:J3 Fp)).z)]))) ?_ (by kernel_rfl)
  exact endC (cv_cons (nv_d hx) (cv_cons (nv_d hy) (cv_cons nv_one1 (cv_nil))))
 ·rw [show A2.raise (⟨(dF x),(dF y),true⟩:A2 Fp) = (⟨1,1,0⟩:J3 Fp) from rfl]
  refine evS_q mixed tt_ok GCE_ok 100 [] ?_
  refine same (p:=endN (.v1 (.agg [.ws .u64 6 oneF,.ws .u64 6 oneF,.ws .u64 6 (fun _=>0)])) (.v1 (.agg [.ws .u64 6 (eF ((⟨1,1,0⟩:J3 Fp)).x),.ws .u64 6 (eF ((⟨1,1,0⟩:J3 Fp)).y),.ws .u64 6 (eF ((⟨1,1,0⟩:J3 Fp)).z)]))) ?_ (by kernel_rfl)
  exact endC (cv_cons nv_one1 (cv_cons nv_one1 (cv_cons e0x (cv_nil))))
theorem okLoE:(CallC.pure loCE).Ok Tryz.prog 107:=by
 intro args pre v e hp
 unfold loCE at e
 split at e
 rotate_left
 ·cases e
 rename_i cs x y z
 cases e
 have hcs:cs = fdE:=hp _ (by simp)
 subst hcs
 have hx:nv x < pN:=hp (nv x < pN) (by simp)
 have hy:nv y < pN:=hp (nv y < pN) (by simp)
 have hz:nv z < pN:=hp (nv z < pN) (by simp)
 refine pure_walk' tt_ok Tryz.func107 (by kernel_rfl) (by kernel_rfl) (by rfl) (by rfl) ?_
 by_cases hZZ:(dF z) = 0
 ·have hlo:A2.lower eInv (⟨(dF x),(dF y),(dF z)⟩:J3 Fp) = ⟨0,0,true⟩:=if_pos hZZ
  rw [hlo]
  refine evS_q mixed tt_ok GCE_ok 100 [⟨2,3,.lit (.bo true)⟩] ?_
  refine same (p:=(eqN W 6 z (fun _=>0) && true) = true/\endN (.v1 (.agg [.ws .u64 6 (fun _=>0),.ws .u64 6 (fun _=>0),.one (.bo true)])) (.v1 (.agg [.ws .u64 6 (eF ((⟨0,0,true⟩:A2 Fp)).x),.ws .u64 6 (eF ((⟨0,0,true⟩:A2 Fp)).y),.one (.bo ((⟨0,0,true⟩:A2 Fp)).z)]))) ?_ (by kernel_rfl)
  exact ⟨zE_t hz hZZ,endC (cv_cons e0x (cv_cons e0x (cv_one cv_nil)))⟩
 ·have hlo:A2.lower eInv (⟨(dF x),(dF y),(dF z)⟩:J3 Fp) = (⟨(dF x) * (eInv (dF z) * eInv (dF z)),(dF y) * ((eInv (dF z) * eInv (dF z)) * eInv (dF z)),false⟩:A2 Fp):=if_neg hZZ
  rw [hlo]
  obtain ⟨t1,ht1⟩:∃ q_:Fp,q_ = eInv (dF z):=⟨_,rfl⟩
  obtain ⟨t2,ht2⟩:∃ q_:Fp,q_ = t1 * t1:=⟨_,rfl⟩
  obtain ⟨t3,ht3⟩:∃ q_:Fp,q_ = (dF x) * t2:=⟨_,rfl⟩
  obtain ⟨t4,ht4⟩:∃ q_:Fp,q_ = t2 * t1:=⟨_,rfl⟩
  obtain ⟨t5,ht5⟩:∃ q_:Fp,q_ = (dF y) * t4:=⟨_,rfl⟩
  refine evS_q mixed tt_ok GCE_ok 100 [⟨2,3,.lit (.bo false)⟩,⟨4,4,.as [.ws .u64 6 (eF t1)]⟩,⟨5,4,.as [.ws .u64 6 (eF t2)]⟩,⟨6,5,.as [.ws .u64 6 (eF t3)]⟩,⟨6,14,.as [.ws .u64 6 (eF t4)]⟩,⟨6,15,.as [.ws .u64 6 (eF t5)]⟩] ?_
  refine same (p:=(eqN W 6 z (fun _=>0) && true) = false/\asP [.ws .u64 6 (eF (eInv (dF z)))] [.ws .u64 6 (eF t1)]/\nv z < pN/\asP [.ws .u64 6 (eF (eMul (dF (eF t1)) (dF (eF t1))))] [.ws .u64 6 (eF t2)]/\nv (eF t1) < pN/\asP [.ws .u64 6 (eF (eMul (dF x) (dF (eF t2))))] [.ws .u64 6 (eF t3)]/\nv x < pN/\asP [.ws .u64 6 (eF (eMul (dF (eF t2)) (dF (eF t1))))] [.ws .u64 6 (eF t4)]/\nv (eF t2) < pN/\asP [.ws .u64 6 (eF (eMul (dF y) (dF (eF t4))))] [.ws .u64 6 (eF t5)]/\nv y < pN/\endN (.v1 (.agg [.ws .u64 6 (eF t3),.ws .u64 6 (eF t5),.one (.bo false)])) (.v1 (.agg [.ws .u64 6 (eF ((dF x) * (eInv (dF z) * eInv (dF z)))),.ws .u64 6 (eF ((dF y) * ((eInv (dF z) * eInv (dF z)) * eInv (dF z)))),.one (.bo false)]))) ?_ (by kernel_rfl)
  exact ⟨zE_f hz hZZ,as_invE rfl ht1,hz,as_mulE (dF_eF _) (dF_eF _) ht2,lt_eF _,as_mulE rfl (dF_eF _) ht3,hx,as_mulE (dF_eF _) (dF_eF _) ht4,lt_eF _,as_mulE rfl (dF_eF _) ht5,hy,endC (cv_cons (nv_t (by rw [ht3,ht2,ht1])) (cv_cons (nv_t (by rw [ht5,ht4,ht2,ht1])) (cv_one cv_nil)))⟩
def GtiE:Ctx:=ctxL [(163,.pure (jE1 J3.dbl)),(164,.pure (jE2 J3.add)),(129,.pure cLen),(131,.pure cBit)]
theorem GtiE_ok:CtxOk Tryz.prog GtiE:=ctxL_cons okTwE <| ctxL_cons okSmE <| ctxL_cons okLen <| ctxL_cons okBit ctxL_nil
abbrev VtiE (k:Nat):List AV:=[pt 0 0,pt 1 0,pt 2 0,pt 3 0,pt 4 0,iv (predI k)]
abbrev HtiE (x y z n:Nat->Nat) (g:Nat->Nat->Nat):Heap:=[some ⟨82,fdE,0,0⟩,some ⟨139,[.ws .u64 6 x,.ws .u64 6 y,.ws .u64 6 z],0,0⟩,nb n,some ⟨139,csE (fun _ _=>0),0,0⟩,some ⟨139,csE g,0,0⟩,none]
def IntiE (P:J3 Fp) (n:Nat) (x:Nat × (Nat->Nat->Nat)):Prop:=x.1 <= blen n/\LtE x.2/\JvE x.2 = J3.times P (blen n - x.1) (n / 2 ^ x.1)
theorem nilvE:JvE (of3 oneF oneF (fun _=>0)) = J3.nil:=by
 rw [JvE_of,dF_one,dF_0];exact nilE.symm
theorem okTiE:(CallC.pure tiCE).Ok Tryz.prog 108:=by
 intro args pre v e hp
 unfold tiCE at e
 split at e
 rotate_left
 ·cases e
 rename_i cs x y z n
 cases e
 have hcs:cs = fdE:=hp _ (by simp)
 subst hcs
 have hx:nv x < pN:=hp (nv x < pN) (by simp)
 have hy:nv y < pN:=hp (nv y < pN) (by simp)
 have hz:nv z < pN:=hp (nv z < pN) (by simp)
 refine pure_walk' tt_ok Tryz.func108 (by kernel_rfl) (by kernel_rfl) (by rfl) (by rfl) ?_
 have hbl:=blen_le' n
 refine loopF mixed tt_ok GtiE_ok (by kernel_rfl) (ι:={x_ // IntiE (⟨(dF x),(dF y),(dF z)⟩:J3 Fp) (nv n) x_}) [3,4,5,6,7,8] 33 6 (fun x_=>VtiE x_.1.1) (fun x_=>HtiE x y z n x_.1.2) (fun x_=>x_.1.1) (fun x_=>x_.1.1 = 0)
  (fun _=>rfl) (fun _=>by kernel_rfl) (fun _ _ h=>h.elim) 60 [⟨2,2,.lit (.it (predI (blen (nv n))))⟩] ?_ ?_ ?_
 ·refine same (p:=wrapI (Int.ofNat (blen (nv n)) - 1) = predI (blen (nv n))/\true = true/\∃ j:{x_ // IntiE (⟨(dF x),(dF y),(dF z)⟩:J3 Fp) (nv n) x_},VtiE (blen (nv n)) = VtiE j.1.1/\HtiE x y z n (of3 oneF oneF (fun _=>0)) = HtiE x y z n j.1.2) ?_ (by kernel_rfl)
  refine ⟨predI_eq (by omega),rfl,⟨(blen (nv n),(of3 oneF oneF (fun _=>0))),Nat.le_refl _,LtE_of lt_one lt_one lt_zero,?_⟩,rfl,rfl⟩
  simp only
  rw [nilvE,Nat.sub_self];rfl
 ·intro ⟨⟨k,g⟩,hk,hg,hv⟩ junk
  simp only at hk hv
  have hg:LtE g:=hg
  cases k with
  | zero =>
   refine roundF mixed tt_ok GtiE_ok 60 [] ?_
   refine same (p:=true = true/\∃ j:{x_ // IntiE (⟨(dF x),(dF y),(dF z)⟩:J3 Fp) (nv n) x_},j.1.1 = 0/\VtiE 0 = VtiE j.1.1/\HtiE x y z n g = HtiE x y z n j.1.2) ?_ (by kernel_rfl)
   exact ⟨rfl,⟨(0,g),hk,hg,hv⟩,rfl,rfl,rfl⟩
  | succ k =>
   have hs:wrapI (Int.ofNat k - 1) = predI k:=predI_eq (by omega)
   have hhalf:nv n / 2 ^ k / 2 = nv n / 2 ^ (k + 1):=by rw [Nat.div_div_eq_div_mul,Nat.pow_succ]
   have hnext:blen (nv n) - k = (blen (nv n) - (k + 1)) + 1:=by omega
   have next:∀ J:J3 Fp,J = J3.times (⟨(dF x),(dF y),(dF z)⟩:J3 Fp) (blen (nv n) - k) (nv n / 2 ^ k)->∃ j:{x_ // IntiE (⟨(dF x),(dF y),(dF z)⟩:J3 Fp) (nv n) x_},j.1.1 < k + 1/\VtiE k = VtiE j.1.1/\HtiE x y z n (selE J) = HtiE x y z n j.1.2 :=
    fun J h'=>⟨⟨(k,selE J),by simp only;omega,LtE_sel J,by simp only;rw [JvE_sel,h']⟩,by simp only;omega,rfl,rfl⟩
   have hbit:nv n / 2 ^ k % 2 = 0∨nv n / 2 ^ k % 2 = 1:=by omega
   rcases hbit with h0 | h0
   ·refine roundF mixed tt_ok GtiE_ok 60 [⟨3,1,.lit (.bo true)⟩,⟨6,3,.lit (.bo false)⟩,⟨4,1,.lit (.it (predI k))⟩] ?_
    refine same (p:=(!ilt (Int.ofNat k) 0) = true/\fdE = fdE/\nv (g 0) < pN/\nv (g 1) < pN/\nv (g 2) < pN/\ieq (Int.ofNat (nv n / 2 ^ k % 2)) 1 = false/\wrapI (Int.ofNat k - 1) = predI k/\true = true /\
     ∃ j:{x_ // IntiE (⟨(dF x),(dF y),(dF z)⟩:J3 Fp) (nv n) x_},j.1.1 < k + 1/\VtiE k = VtiE j.1.1/\HtiE x y z n (selE (J3.dbl (JvE g))) = HtiE x y z n j.1.2) ?_ (by kernel_rfl)
    refine ⟨ilt_nn2 k,rfl,hg.1,hg.2.1,hg.2.2,by rw [h0];rfl,hs,rfl,next _ ?_⟩
    rw [hnext,J3.times,if_neg (by omega),hhalf,hv]
   ·refine roundF mixed tt_ok GtiE_ok 60 [⟨3,1,.lit (.bo true)⟩,⟨6,3,.lit (.bo true)⟩,⟨4,1,.lit (.it (predI k))⟩] ?_
    refine same (p:=(!ilt (Int.ofNat k) 0) = true/\fdE = fdE/\nv (g 0) < pN/\nv (g 1) < pN/\nv (g 2) < pN/\ieq (Int.ofNat (nv n / 2 ^ k % 2)) 1 = true/\fdE = fdE/\nv ((selE (J3.dbl (JvE g))) 0) < pN/\nv ((selE (J3.dbl (JvE g))) 1) < pN/\nv ((selE (J3.dbl (JvE g))) 2) < pN/\nv x < pN/\nv y < pN/\nv z < pN/\wrapI (Int.ofNat k - 1) = predI k/\true = true /\
     ∃ j:{x_ // IntiE (⟨(dF x),(dF y),(dF z)⟩:J3 Fp) (nv n) x_},j.1.1 < k + 1/\VtiE k = VtiE j.1.1/\HtiE x y z n (selE (J3.add (JvE (selE (J3.dbl (JvE g)))) (⟨(dF x),(dF y),(dF z)⟩:J3 Fp))) = HtiE x y z n j.1.2) ?_ (by kernel_rfl)
    refine ⟨ilt_nn2 k,rfl,hg.1,hg.2.1,hg.2.2,by rw [h0];rfl,rfl,lt_eF _,lt_eF _,lt_eF _,hx,hy,hz,hs,rfl,next _ ?_⟩
    rw [JvE_sel,hnext,J3.times,if_pos h0,hhalf,hv]
 ·intro ⟨⟨k,g⟩,hk,hg,hv⟩ junk h0
  simp only at hk hv h0
  have hg:LtE g:=hg
  subst h0
  rw [Nat.sub_zero,Nat.pow_zero,Nat.div_one] at hv
  refine same (p:=endN (.v1 (.agg (csE g))) (.v1 (.agg [.ws .u64 6 (eF (J3.times (⟨(dF x),(dF y),(dF z)⟩:J3 Fp) (blen (nv n)) (nv n)).x),.ws .u64 6 (eF (J3.times (⟨(dF x),(dF y),(dF z)⟩:J3 Fp) (blen (nv n)) (nv n)).y),.ws .u64 6 (eF (J3.times (⟨(dF x),(dF y),(dF z)⟩:J3 Fp) (blen (nv n)) (nv n)).z)]))) ?_ (by kernel_rfl)
  rw [<-hv]
  exact endC (cv_cons (nv_d hg.1) (cv_cons (nv_d hg.2.1) (cv_cons (nv_d hg.2.2) cv_nil)))
def orderF:Nat->Nat:=upd (upd (upd (upd (fun _=>0) 0 18446744069414584321) 1 6034159408538082302) 2 3691218898639771653) 3 8353516859464449352
def rNm:Nat:=52435875175126190479447740508185965837690552500527637822603658699938581184513
theorem nv_order:nv orderF = rNm:=by kernel_rfl
theorem okOrderF:(CallC.pure (cK orderF)).Ok Tryz.prog 33 :=
 cK_ok Tryz.func33 (by kernel_rfl) (by kernel_rfl) (same (p:=some (nm orderF) = some (nm orderF)) rfl (by kernel_rfl))
theorem lower_z {F:Type} [CR F] [DecidableEq F] (inv:F->F) (p:J3 F):(A2.lower inv p).z = decide (p.z = 0):=by
 unfold A2.lower
 by_cases h:p.z = 0
 ·rw [if_pos h,decide_eq_true h]
 ·rw [if_neg h,decide_eq_false h]
def GinE:List (Nat × CallC):=[(106,.pure onCE),(109,.pure raCE),(108,.pure tiCE),(107,.pure loCE),(33,.pure (cK orderF))]
theorem GinE_ok:CtxOk Tryz.prog (ctxL GinE):=ctxL_cons okOnE <| ctxL_cons okRaE <| ctxL_cons okTiE <| ctxL_cons okLoE <| ctxL_cons okOrderF ctxL_nil
theorem okInE:(CallC.pure (inCE rNm)).Ok Tryz.prog 52:=by
 intro args pre v e hp
 unfold inCE at e
 split at e
 rotate_left
 ·cases e
 rename_i cs x y z
 cases e
 have hcs:cs = fdE:=hp _ (by simp)
 subst hcs
 have hx:nv x < pN:=hp (nv x < pN) (by simp)
 have hy:nv y < pN:=hp (nv y < pN) (by simp)
 refine pure_walk' tt_ok Tryz.func52 (by kernel_rfl) (by kernel_rfl) (by rfl) (by rfl) ?_
 cases ho:A2.on fourE (⟨(dF x),(dF y),z⟩:A2 Fp)
 ·refine evS_q mixed tt_ok GinE_ok 60 [⟨1,2,.lit (.bo false)⟩] (same (p:=A2.on fourE (⟨(dF x),(dF y),z⟩:A2 Fp) = false/\fdE = fdE/\nv x < pN/\nv y < pN/\endN (.v1 (.sc (.bo false))) (.v1 (.sc (.bo (A2.isIn fourE rNm (⟨(dF x),(dF y),z⟩:A2 Fp)))))) ?_ (by kernel_rfl))
  exact ⟨ho,rfl,hx,hy,endB (by unfold A2.isIn;rw [ho];rfl)⟩
 ·refine evS_q mixed tt_ok GinE_ok 60 [⟨1,2,.lit (.bo true)⟩] (same (p:=A2.on fourE (⟨(dF x),(dF y),z⟩:A2 Fp) = true/\fdE = fdE/\nv x < pN/\nv y < pN/\fdE = fdE/\nv x < pN/\nv y < pN/\fdE = fdE/\nv ((selE (A2.raise (⟨(dF x),(dF y),z⟩:A2 Fp))) 0) < pN/\nv ((selE (A2.raise (⟨(dF x),(dF y),z⟩:A2 Fp))) 1) < pN/\nv ((selE (A2.raise (⟨(dF x),(dF y),z⟩:A2 Fp))) 2) < pN/\fdE = fdE/\nv ((selE (J3.times (JvE (selE (A2.raise (⟨(dF x),(dF y),z⟩:A2 Fp)))) (blen (nv orderF)) (nv orderF))) 0) < pN/\nv ((selE (J3.times (JvE (selE (A2.raise (⟨(dF x),(dF y),z⟩:A2 Fp)))) (blen (nv orderF)) (nv orderF))) 1) < pN/\nv ((selE (J3.times (JvE (selE (A2.raise (⟨(dF x),(dF y),z⟩:A2 Fp)))) (blen (nv orderF)) (nv orderF))) 2) < pN/\endN (.v1 (.sc (.bo (A2.lower eInv (JvE (selE (J3.times (JvE (selE (A2.raise (⟨(dF x),(dF y),z⟩:A2 Fp)))) (blen (nv orderF)) (nv orderF))))).z))) (.v1 (.sc (.bo (A2.isIn fourE rNm (⟨(dF x),(dF y),z⟩:A2 Fp)))))) ?_ (by kernel_rfl))
  refine ⟨ho,rfl,hx,hy,rfl,hx,hy,rfl,lt_eF _,lt_eF _,lt_eF _,rfl,lt_eF _,lt_eF _,lt_eF _,endB ?_⟩
  have e0:JvE (selE (A2.raise (⟨(dF x),(dF y),z⟩:A2 Fp))) = A2.raise (⟨(dF x),(dF y),z⟩:A2 Fp):=JvE_sel _
  have e1:J3.times (JvE (selE (A2.raise (⟨(dF x),(dF y),z⟩:A2 Fp)))) (blen (nv orderF)) (nv orderF) = J3.times (A2.raise (⟨(dF x),(dF y),z⟩:A2 Fp)) (blen (nv orderF)) (nv orderF):=congrArg (fun q=>J3.times q (blen (nv orderF)) (nv orderF)) e0
  have e2:JvE (selE (J3.times (JvE (selE (A2.raise (⟨(dF x),(dF y),z⟩:A2 Fp)))) (blen (nv orderF)) (nv orderF))) = J3.times (JvE (selE (A2.raise (⟨(dF x),(dF y),z⟩:A2 Fp)))) (blen (nv orderF)) (nv orderF):=JvE_sel _
  have e4:J3.times (A2.raise (⟨(dF x),(dF y),z⟩:A2 Fp)) (blen (nv orderF)) (nv orderF) = J3.times (A2.raise (⟨(dF x),(dF y),z⟩:A2 Fp)) (blen rNm) rNm:=by rw [nv_order]
  have e3:(A2.lower eInv (JvE (selE (J3.times (JvE (selE (A2.raise (⟨(dF x),(dF y),z⟩:A2 Fp)))) (blen (nv orderF)) (nv orderF))))).z = decide ((J3.times (A2.raise (⟨(dF x),(dF y),z⟩:A2 Fp)) (blen rNm) rNm).z = 0):=(lower_z eInv _).trans (congrArg (fun q:J3 Fp=>decide (q.z = 0)) (e2.trans (e1.trans e4)))
  refine e3.trans ?_
  unfold A2.isIn A2.mulJ
  rw [ho,Bool.true_and]
end Go.Proofs.YtnjocbcjejpklaaGreat
namespace Go.Proofs.YtnjocbcjejpklaaGreat
open Go.Rq Go
set_option maxRecDepth 100000
set_option linter.unusedVariables false
set_option linter.unusedSimpArgs false
set_option maxHeartbeats 4000000
abbrev fourQ:F2p:=(⟨ofN (nv (wd (4 % W))),ofN (nv (wd (4 % W)))⟩:F2p)
def onCQ:List AV->Option (List Prop × AV)
 | [.v1 (.agg cs),.v1 (.agg [.ws .u64 6 x0,.ws .u64 6 x1,.ws .u64 6 y0,.ws .u64 6 y1,.one (.bo z)])]=>some ([cs = fdQ,nv x0 < pN,nv x1 < pN,nv y0 < pN,nv y1 < pN],.v1 (.sc (.bo (A2.on fourQ (⟨(⟨dF x0,dF x1⟩:F2p),(⟨dF y0,dF y1⟩:F2p),z⟩:A2 F2p)))))
 | _=>none
def raCQ:List AV->Option (List Prop × AV)
 | [.v1 (.agg cs),.v1 (.agg [.ws .u64 6 x0,.ws .u64 6 x1,.ws .u64 6 y0,.ws .u64 6 y1,.one (.bo z)])]=>some ([cs = fdQ,nv x0 < pN,nv x1 < pN,nv y0 < pN,nv y1 < pN],.v1 (.agg [.ws .u64 6 (eF (A2.raise (⟨(⟨dF x0,dF x1⟩:F2p),(⟨dF y0,dF y1⟩:F2p),z⟩:A2 F2p)).x.x),.ws .u64 6 (eF (A2.raise (⟨(⟨dF x0,dF x1⟩:F2p),(⟨dF y0,dF y1⟩:F2p),z⟩:A2 F2p)).x.y),.ws .u64 6 (eF (A2.raise (⟨(⟨dF x0,dF x1⟩:F2p),(⟨dF y0,dF y1⟩:F2p),z⟩:A2 F2p)).y.x),.ws .u64 6 (eF (A2.raise (⟨(⟨dF x0,dF x1⟩:F2p),(⟨dF y0,dF y1⟩:F2p),z⟩:A2 F2p)).y.y),.ws .u64 6 (eF (A2.raise (⟨(⟨dF x0,dF x1⟩:F2p),(⟨dF y0,dF y1⟩:F2p),z⟩:A2 F2p)).z.x),.ws .u64 6 (eF (A2.raise (⟨(⟨dF x0,dF x1⟩:F2p),(⟨dF y0,dF y1⟩:F2p),z⟩:A2 F2p)).z.y)]))
 | _=>none
def loCQ:List AV->Option (List Prop × AV)
 | [.v1 (.agg cs),.v1 (.agg [.ws .u64 6 x0,.ws .u64 6 x1,.ws .u64 6 y0,.ws .u64 6 y1,.ws .u64 6 z0,.ws .u64 6 z1])]=>some ([cs = fdQ,nv x0 < pN,nv x1 < pN,nv y0 < pN,nv y1 < pN,nv z0 < pN,nv z1 < pN],.v1 (.agg [.ws .u64 6 (eF (A2.lower F2p.inv (⟨(⟨dF x0,dF x1⟩:F2p),(⟨dF y0,dF y1⟩:F2p),(⟨dF z0,dF z1⟩:F2p)⟩:J3 F2p)).x.x),.ws .u64 6 (eF (A2.lower F2p.inv (⟨(⟨dF x0,dF x1⟩:F2p),(⟨dF y0,dF y1⟩:F2p),(⟨dF z0,dF z1⟩:F2p)⟩:J3 F2p)).x.y),.ws .u64 6 (eF (A2.lower F2p.inv (⟨(⟨dF x0,dF x1⟩:F2p),(⟨dF y0,dF y1⟩:F2p),(⟨dF z0,dF z1⟩:F2p)⟩:J3 F2p)).y.x),.ws .u64 6 (eF (A2.lower F2p.inv (⟨(⟨dF x0,dF x1⟩:F2p),(⟨dF y0,dF y1⟩:F2p),(⟨dF z0,dF z1⟩:F2p)⟩:J3 F2p)).y.y),.one (.bo (A2.lower F2p.inv (⟨(⟨dF x0,dF x1⟩:F2p),(⟨dF y0,dF y1⟩:F2p),(⟨dF z0,dF z1⟩:F2p)⟩:J3 F2p)).z)]))
 | _=>none
def tiCQ:List AV->Option (List Prop × AV)
 | [.v1 (.agg cs),.v1 (.agg [.ws .u64 6 x0,.ws .u64 6 x1,.ws .u64 6 y0,.ws .u64 6 y1,.ws .u64 6 z0,.ws .u64 6 z1]),.v1 (.agg [.ws .u64 6 n])]=>some ([cs = fdQ,nv x0 < pN,nv x1 < pN,nv y0 < pN,nv y1 < pN,nv z0 < pN,nv z1 < pN],.v1 (.agg [.ws .u64 6 (eF (J3.times (⟨(⟨dF x0,dF x1⟩:F2p),(⟨dF y0,dF y1⟩:F2p),(⟨dF z0,dF z1⟩:F2p)⟩:J3 F2p) (blen (nv n)) (nv n)).x.x),.ws .u64 6 (eF (J3.times (⟨(⟨dF x0,dF x1⟩:F2p),(⟨dF y0,dF y1⟩:F2p),(⟨dF z0,dF z1⟩:F2p)⟩:J3 F2p) (blen (nv n)) (nv n)).x.y),.ws .u64 6 (eF (J3.times (⟨(⟨dF x0,dF x1⟩:F2p),(⟨dF y0,dF y1⟩:F2p),(⟨dF z0,dF z1⟩:F2p)⟩:J3 F2p) (blen (nv n)) (nv n)).y.x),.ws .u64 6 (eF (J3.times (⟨(⟨dF x0,dF x1⟩:F2p),(⟨dF y0,dF y1⟩:F2p),(⟨dF z0,dF z1⟩:F2p)⟩:J3 F2p) (blen (nv n)) (nv n)).y.y),.ws .u64 6 (eF (J3.times (⟨(⟨dF x0,dF x1⟩:F2p),(⟨dF y0,dF y1⟩:F2p),(⟨dF z0,dF z1⟩:F2p)⟩:J3 F2p) (blen (nv n)) (nv n)).z.x),.ws .u64 6 (eF (J3.times (⟨(⟨dF x0,dF x1⟩:F2p),(⟨dF y0,dF y1⟩:F2p),(⟨dF z0,dF z1⟩:F2p)⟩:J3 F2p) (blen (nv n)) (nv n)).z.y)]))
 | _=>none
def inCQ (r:Nat):List AV->Option (List Prop × AV)
 | [.v1 (.agg cs),.v1 (.agg [.ws .u64 6 x0,.ws .u64 6 x1,.ws .u64 6 y0,.ws .u64 6 y1,.one (.bo z)])]=>some ([cs = fdQ,nv x0 < pN,nv x1 < pN,nv y0 < pN,nv y1 < pN],.v1 (.sc (.bo (A2.isIn fourQ r (⟨(⟨dF x0,dF x1⟩:F2p),(⟨dF y0,dF y1⟩:F2p),z⟩:A2 F2p)))))
 | _=>none
theorem okOnQ:(CallC.pure onCQ).Ok Tryz.prog 115:=by
 intro args pre v e hp
 unfold onCQ at e
 split at e
 rotate_left
 ·cases e
 rename_i cs x0 x1 y0 y1 z
 cases e
 have hcs:cs = fdQ:=hp _ (by simp)
 subst hcs
 have hx0:nv x0 < pN:=hp (nv x0 < pN) (by simp)
 have hx1:nv x1 < pN:=hp (nv x1 < pN) (by simp)
 have hy0:nv y0 < pN:=hp (nv y0 < pN) (by simp)
 have hy1:nv y1 < pN:=hp (nv y1 < pN) (by simp)
 refine pure_walk' tt_ok Tryz.func115 (by kernel_rfl) (by kernel_rfl) (by rfl) (by rfl) ?_
 cases z
 ·skip
  obtain ⟨t1,ht1⟩:∃ q_:F2p,q_ = (⟨dF y0,dF y1⟩:F2p) * (⟨dF y0,dF y1⟩:F2p):=⟨_,rfl⟩
  obtain ⟨t2,ht2⟩:∃ q_:F2p,q_ = (⟨dF x0,dF x1⟩:F2p) * (⟨dF x0,dF x1⟩:F2p):=⟨_,rfl⟩
  obtain ⟨t3,ht3⟩:∃ q_:F2p,q_ = t2 * (⟨dF x0,dF x1⟩:F2p):=⟨_,rfl⟩
  obtain ⟨t4,ht4⟩:∃ q_:F2p,q_ = t3 + fourQ:=⟨_,rfl⟩
  refine evS_q mixed tt_ok GCQ_ok 100 [⟨4,6,.as [.ws .u64 6 (eF t1.x),.ws .u64 6 (eF t1.y)]⟩,⟨4,17,.as [.ws .u64 6 (eF t2.x),.ws .u64 6 (eF t2.y)]⟩,⟨4,20,.as [.ws .u64 6 (eF t3.x),.ws .u64 6 (eF t3.y)]⟩,⟨4,23,.as [.ws .u64 6 (eF t4.x),.ws .u64 6 (eF t4.y)]⟩] ?_
  refine same (p:=asP [.ws .u64 6 (eF (mul2x (dF y0) (dF y1) (dF y0) (dF y1))),.ws .u64 6 (eF (mul2y (dF y0) (dF y1) (dF y0) (dF y1)))] [.ws .u64 6 (eF t1.x),.ws .u64 6 (eF t1.y)]/\nv y0 < pN/\nv y1 < pN/\nv y0 < pN/\nv y1 < pN/\asP [.ws .u64 6 (eF (mul2x (dF x0) (dF x1) (dF x0) (dF x1))),.ws .u64 6 (eF (mul2y (dF x0) (dF x1) (dF x0) (dF x1)))] [.ws .u64 6 (eF t2.x),.ws .u64 6 (eF t2.y)]/\nv x0 < pN/\nv x1 < pN/\nv x0 < pN/\nv x1 < pN/\asP [.ws .u64 6 (eF (mul2x (dF (eF t2.x)) (dF (eF t2.y)) (dF x0) (dF x1))),.ws .u64 6 (eF (mul2y (dF (eF t2.x)) (dF (eF t2.y)) (dF x0) (dF x1)))] [.ws .u64 6 (eF t3.x),.ws .u64 6 (eF t3.y)]/\nv (eF t2.x) < pN/\nv (eF t2.y) < pN/\nv x0 < pN/\nv x1 < pN/\asP [.ws .u64 6 (eF (add2x (dF (eF t3.x)) (dF (eF t3.y)) (dF (eF (ofN (nv (wd (4 % W)))))) (dF (eF (ofN (nv (wd (4 % W)))))))),.ws .u64 6 (eF (add2y (dF (eF t3.x)) (dF (eF t3.y)) (dF (eF (ofN (nv (wd (4 % W)))))) (dF (eF (ofN (nv (wd (4 % W))))))))] [.ws .u64 6 (eF t4.x),.ws .u64 6 (eF t4.y)]/\nv (eF t3.x) < pN/\nv (eF t3.y) < pN/\nv (eF (ofN (nv (wd (4 % W))))) < pN/\nv (eF (ofN (nv (wd (4 % W))))) < pN/\endN (.v1 (.sc (.bo (eqN W 6 (eF t1.x) (eF t4.x) && (eqN W 6 (eF t1.y) (eF t4.y) && true))))) (.v1 (.sc (.bo (A2.on fourQ (⟨(⟨dF x0,dF x1⟩:F2p),(⟨dF y0,dF y1⟩:F2p),false⟩:A2 F2p)))))) ?_ (by kernel_rfl)
  exact ⟨as_mulQ rfl rfl rfl rfl ht1,hy0,hy1,hy0,hy1,as_mulQ rfl rfl rfl rfl ht2,hx0,hx1,hx0,hx1,as_mulQ (dF_eF _) (dF_eF _) rfl rfl ht3,lt_eF _,lt_eF _,hx0,hx1,as_addQ (dF_eF _) (dF_eF _) (dF_eF _) (dF_eF _) ht4,lt_eF _,lt_eF _,(lt_eF _),(lt_eF _),endB (by rw [eqQ (lt_eF _) (lt_eF _) (lt_eF _) (lt_eF _),dF_eF,dF_eF,dF_eF,dF_eF,on_f];exact decide_eq_decide.2 (by rw [ht4,ht3,ht2,ht1]))⟩
 ·by_cases hXX:(⟨dF x0,dF x1⟩:F2p) = 0
  ·by_cases hYY:(⟨dF y0,dF y1⟩:F2p) = 0
   ·skip
    refine evS_q mixed tt_ok GCQ_ok 100 [⟨3,3,.lit (.bo true)⟩,⟨3,8,.lit (.bo true)⟩] ?_
    refine same (p:=(eqN W 6 x0 (fun _=>0) && (eqN W 6 x1 (fun _=>0) && true)) = true/\(eqN W 6 y0 (fun _=>0) && (eqN W 6 y1 (fun _=>0) && true)) = true/\endN (.v1 (.sc (.bo true))) (.v1 (.sc (.bo (A2.on fourQ (⟨(⟨dF x0,dF x1⟩:F2p),(⟨dF y0,dF y1⟩:F2p),true⟩:A2 F2p)))))) ?_ (by kernel_rfl)
    exact ⟨zQ_t hx0 hx1 hXX,zQ_t hy0 hy1 hYY,endB (by rw [on_t,decide_eq_true hXX,decide_eq_true hYY];rfl)⟩
   ·skip
    refine evS_q mixed tt_ok GCQ_ok 100 [⟨3,3,.lit (.bo true)⟩,⟨3,8,.lit (.bo false)⟩] ?_
    refine same (p:=(eqN W 6 x0 (fun _=>0) && (eqN W 6 x1 (fun _=>0) && true)) = true/\(eqN W 6 y0 (fun _=>0) && (eqN W 6 y1 (fun _=>0) && true)) = false/\endN (.v1 (.sc (.bo false))) (.v1 (.sc (.bo (A2.on fourQ (⟨(⟨dF x0,dF x1⟩:F2p),(⟨dF y0,dF y1⟩:F2p),true⟩:A2 F2p)))))) ?_ (by kernel_rfl)
    exact ⟨zQ_t hx0 hx1 hXX,zQ_f hy0 hy1 hYY,endB (by rw [on_t,decide_eq_true hXX,decide_eq_false hYY];rfl)⟩
  ·skip
   refine evS_q mixed tt_ok GCQ_ok 100 [⟨3,3,.lit (.bo false)⟩] ?_
   refine same (p:=(eqN W 6 x0 (fun _=>0) && (eqN W 6 x1 (fun _=>0) && true)) = false/\endN (.v1 (.sc (.bo false))) (.v1 (.sc (.bo (A2.on fourQ (⟨(⟨dF x0,dF x1⟩:F2p),(⟨dF y0,dF y1⟩:F2p),true⟩:A2 F2p)))))) ?_ (by kernel_rfl)
   exact ⟨zQ_f hx0 hx1 hXX,endB (by rw [on_t,decide_eq_false hXX];rfl)⟩
theorem okRaQ:(CallC.pure raCQ).Ok Tryz.prog 118:=by
 intro args pre v e hp
 unfold raCQ at e
 split at e
 rotate_left
 ·cases e
 rename_i cs x0 x1 y0 y1 z
 cases e
 have hcs:cs = fdQ:=hp _ (by simp)
 subst hcs
 have hx0:nv x0 < pN:=hp (nv x0 < pN) (by simp)
 have hx1:nv x1 < pN:=hp (nv x1 < pN) (by simp)
 have hy0:nv y0 < pN:=hp (nv y0 < pN) (by simp)
 have hy1:nv y1 < pN:=hp (nv y1 < pN) (by simp)
 refine pure_walk' tt_ok Tryz.func118 (by kernel_rfl) (by kernel_rfl) (by rfl) (by rfl) ?_
 cases z
 ·rw [show A2.raise (⟨(⟨dF x0,dF x1⟩:F2p),(⟨dF y0,dF y1⟩:F2p),false⟩:A2 F2p) = (⟨(⟨dF x0,dF x1⟩:F2p),(⟨dF y0,dF y1⟩:F2p),1⟩:J3 F2p) from rfl]
  refine evS_q mixed tt_ok GCQ_ok 100 [] ?_
  refine same (p:=endN (.v1 (.agg [.ws .u64 6 x0,.ws .u64 6 x1,.ws .u64 6 y0,.ws .u64 6 y1,.ws .u64 6 oneF,.ws .u64 6 (fun _=>0)])) (.v1 (.agg [.ws .u64 6 (eF ((⟨(⟨dF x0,dF x1⟩:F2p),(⟨dF y0,dF y1⟩:F2p),1⟩:J3 F2p)).x.x),.ws .u64 6 (eF ((⟨(⟨dF x0,dF x1⟩:F2p),(⟨dF y0,dF y1⟩:F2p),1⟩:J3 F2p)).x.y),.ws .u64 6 (eF ((⟨(⟨dF x0,dF x1⟩:F2p),(⟨dF y0,dF y1⟩:F2p),1⟩:J3 F2p)).y.x),.ws .u64 6 (eF ((⟨(⟨dF x0,dF x1⟩:F2p),(⟨dF y0,dF y1⟩:F2p),1⟩:J3 F2p)).y.y),.ws .u64 6 (eF ((⟨(⟨dF x0,dF x1⟩:F2p),(⟨dF y0,dF y1⟩:F2p),1⟩:J3 F2p)).z.x),.ws .u64 6 (eF ((⟨(⟨dF x0,dF x1⟩:F2p),(⟨dF y0,dF y1⟩:F2p),1⟩:J3 F2p)).z.y)]))) ?_ (by kernel_rfl)
  exact endC (cv_cons (nv_d hx0) (cv_cons (nv_d hx1) (cv_cons (nv_d hy0) (cv_cons (nv_d hy1) (cv_cons q1x (cv_cons q1y (cv_nil)))))))
 ·rw [show A2.raise (⟨(⟨dF x0,dF x1⟩:F2p),(⟨dF y0,dF y1⟩:F2p),true⟩:A2 F2p) = (⟨1,1,0⟩:J3 F2p) from rfl]
  refine evS_q mixed tt_ok GCQ_ok 100 [] ?_
  refine same (p:=endN (.v1 (.agg [.ws .u64 6 oneF,.ws .u64 6 (fun _=>0),.ws .u64 6 oneF,.ws .u64 6 (fun _=>0),.ws .u64 6 (fun _=>0),.ws .u64 6 (fun _=>0)])) (.v1 (.agg [.ws .u64 6 (eF ((⟨1,1,0⟩:J3 F2p)).x.x),.ws .u64 6 (eF ((⟨1,1,0⟩:J3 F2p)).x.y),.ws .u64 6 (eF ((⟨1,1,0⟩:J3 F2p)).y.x),.ws .u64 6 (eF ((⟨1,1,0⟩:J3 F2p)).y.y),.ws .u64 6 (eF ((⟨1,1,0⟩:J3 F2p)).z.x),.ws .u64 6 (eF ((⟨1,1,0⟩:J3 F2p)).z.y)]))) ?_ (by kernel_rfl)
  exact endC (cv_cons q1x (cv_cons q1y (cv_cons q1x (cv_cons q1y (cv_cons q0x (cv_cons q0y (cv_nil)))))))
theorem okLoQ:(CallC.pure loCQ).Ok Tryz.prog 116:=by
 intro args pre v e hp
 unfold loCQ at e
 split at e
 rotate_left
 ·cases e
 rename_i cs x0 x1 y0 y1 z0 z1
 cases e
 have hcs:cs = fdQ:=hp _ (by simp)
 subst hcs
 have hx0:nv x0 < pN:=hp (nv x0 < pN) (by simp)
 have hx1:nv x1 < pN:=hp (nv x1 < pN) (by simp)
 have hy0:nv y0 < pN:=hp (nv y0 < pN) (by simp)
 have hy1:nv y1 < pN:=hp (nv y1 < pN) (by simp)
 have hz0:nv z0 < pN:=hp (nv z0 < pN) (by simp)
 have hz1:nv z1 < pN:=hp (nv z1 < pN) (by simp)
 refine pure_walk' tt_ok Tryz.func116 (by kernel_rfl) (by kernel_rfl) (by rfl) (by rfl) ?_
 by_cases hZZ:(⟨dF z0,dF z1⟩:F2p) = 0
 ·have hlo:A2.lower F2p.inv (⟨(⟨dF x0,dF x1⟩:F2p),(⟨dF y0,dF y1⟩:F2p),(⟨dF z0,dF z1⟩:F2p)⟩:J3 F2p) = ⟨0,0,true⟩:=if_pos hZZ
  rw [hlo]
  refine evS_q mixed tt_ok GCQ_ok 100 [⟨2,3,.lit (.bo true)⟩] ?_
  refine same (p:=(eqN W 6 z0 (fun _=>0) && (eqN W 6 z1 (fun _=>0) && true)) = true/\endN (.v1 (.agg [.ws .u64 6 (fun _=>0),.ws .u64 6 (fun _=>0),.ws .u64 6 (fun _=>0),.ws .u64 6 (fun _=>0),.one (.bo true)])) (.v1 (.agg [.ws .u64 6 (eF ((⟨0,0,true⟩:A2 F2p)).x.x),.ws .u64 6 (eF ((⟨0,0,true⟩:A2 F2p)).x.y),.ws .u64 6 (eF ((⟨0,0,true⟩:A2 F2p)).y.x),.ws .u64 6 (eF ((⟨0,0,true⟩:A2 F2p)).y.y),.one (.bo ((⟨0,0,true⟩:A2 F2p)).z)]))) ?_ (by kernel_rfl)
  exact ⟨zQ_t hz0 hz1 hZZ,endC (cv_cons q0x (cv_cons q0y (cv_cons q0x (cv_cons q0y (cv_one cv_nil)))))⟩
 ·have hlo:A2.lower F2p.inv (⟨(⟨dF x0,dF x1⟩:F2p),(⟨dF y0,dF y1⟩:F2p),(⟨dF z0,dF z1⟩:F2p)⟩:J3 F2p) = (⟨(⟨dF x0,dF x1⟩:F2p) * (F2p.inv (⟨dF z0,dF z1⟩:F2p) * F2p.inv (⟨dF z0,dF z1⟩:F2p)),(⟨dF y0,dF y1⟩:F2p) * ((F2p.inv (⟨dF z0,dF z1⟩:F2p) * F2p.inv (⟨dF z0,dF z1⟩:F2p)) * F2p.inv (⟨dF z0,dF z1⟩:F2p)),false⟩:A2 F2p):=if_neg hZZ
  rw [hlo]
  obtain ⟨t1,ht1⟩:∃ q_:F2p,q_ = F2p.inv (⟨dF z0,dF z1⟩:F2p):=⟨_,rfl⟩
  obtain ⟨t2,ht2⟩:∃ q_:F2p,q_ = t1 * t1:=⟨_,rfl⟩
  obtain ⟨t3,ht3⟩:∃ q_:F2p,q_ = (⟨dF x0,dF x1⟩:F2p) * t2:=⟨_,rfl⟩
  obtain ⟨t4,ht4⟩:∃ q_:F2p,q_ = t2 * t1:=⟨_,rfl⟩
  obtain ⟨t5,ht5⟩:∃ q_:F2p,q_ = (⟨dF y0,dF y1⟩:F2p) * t4:=⟨_,rfl⟩
  refine evS_q mixed tt_ok GCQ_ok 100 [⟨2,3,.lit (.bo false)⟩,⟨4,4,.as [.ws .u64 6 (eF t1.x),.ws .u64 6 (eF t1.y)]⟩,⟨5,4,.as [.ws .u64 6 (eF t2.x),.ws .u64 6 (eF t2.y)]⟩,⟨6,5,.as [.ws .u64 6 (eF t3.x),.ws .u64 6 (eF t3.y)]⟩,⟨6,14,.as [.ws .u64 6 (eF t4.x),.ws .u64 6 (eF t4.y)]⟩,⟨6,15,.as [.ws .u64 6 (eF t5.x),.ws .u64 6 (eF t5.y)]⟩] ?_
  refine same (p:=(eqN W 6 z0 (fun _=>0) && (eqN W 6 z1 (fun _=>0) && true)) = false/\asP [.ws .u64 6 (eF (inv2x (dF z0) (dF z1))),.ws .u64 6 (eF (inv2y (dF z0) (dF z1)))] [.ws .u64 6 (eF t1.x),.ws .u64 6 (eF t1.y)]/\nv z0 < pN/\nv z1 < pN/\asP [.ws .u64 6 (eF (mul2x (dF (eF t1.x)) (dF (eF t1.y)) (dF (eF t1.x)) (dF (eF t1.y)))),.ws .u64 6 (eF (mul2y (dF (eF t1.x)) (dF (eF t1.y)) (dF (eF t1.x)) (dF (eF t1.y))))] [.ws .u64 6 (eF t2.x),.ws .u64 6 (eF t2.y)]/\nv (eF t1.x) < pN/\nv (eF t1.y) < pN/\nv (eF t1.x) < pN/\nv (eF t1.y) < pN/\asP [.ws .u64 6 (eF (mul2x (dF x0) (dF x1) (dF (eF t2.x)) (dF (eF t2.y)))),.ws .u64 6 (eF (mul2y (dF x0) (dF x1) (dF (eF t2.x)) (dF (eF t2.y))))] [.ws .u64 6 (eF t3.x),.ws .u64 6 (eF t3.y)]/\nv x0 < pN/\nv x1 < pN/\nv (eF t2.x) < pN/\nv (eF t2.y) < pN/\asP [.ws .u64 6 (eF (mul2x (dF (eF t2.x)) (dF (eF t2.y)) (dF (eF t1.x)) (dF (eF t1.y)))),.ws .u64 6 (eF (mul2y (dF (eF t2.x)) (dF (eF t2.y)) (dF (eF t1.x)) (dF (eF t1.y))))] [.ws .u64 6 (eF t4.x),.ws .u64 6 (eF t4.y)]/\nv (eF t2.x) < pN/\nv (eF t2.y) < pN/\nv (eF t1.x) < pN/\nv (eF t1.y) < pN/\asP [.ws .u64 6 (eF (mul2x (dF y0) (dF y1) (dF (eF t4.x)) (dF (eF t4.y)))),.ws .u64 6 (eF (mul2y (dF y0) (dF y1) (dF (eF t4.x)) (dF (eF t4.y))))] [.ws .u64 6 (eF t5.x),.ws .u64 6 (eF t5.y)]/\nv y0 < pN/\nv y1 < pN/\nv (eF t4.x) < pN/\nv (eF t4.y) < pN/\endN (.v1 (.agg [.ws .u64 6 (eF t3.x),.ws .u64 6 (eF t3.y),.ws .u64 6 (eF t5.x),.ws .u64 6 (eF t5.y),.one (.bo false)])) (.v1 (.agg [.ws .u64 6 (eF ((⟨dF x0,dF x1⟩:F2p) * (F2p.inv (⟨dF z0,dF z1⟩:F2p) * F2p.inv (⟨dF z0,dF z1⟩:F2p))).x),.ws .u64 6 (eF ((⟨dF x0,dF x1⟩:F2p) * (F2p.inv (⟨dF z0,dF z1⟩:F2p) * F2p.inv (⟨dF z0,dF z1⟩:F2p))).y),.ws .u64 6 (eF ((⟨dF y0,dF y1⟩:F2p) * ((F2p.inv (⟨dF z0,dF z1⟩:F2p) * F2p.inv (⟨dF z0,dF z1⟩:F2p)) * F2p.inv (⟨dF z0,dF z1⟩:F2p))).x),.ws .u64 6 (eF ((⟨dF y0,dF y1⟩:F2p) * ((F2p.inv (⟨dF z0,dF z1⟩:F2p) * F2p.inv (⟨dF z0,dF z1⟩:F2p)) * F2p.inv (⟨dF z0,dF z1⟩:F2p))).y),.one (.bo false)]))) ?_ (by kernel_rfl)
  exact ⟨zQ_f hz0 hz1 hZZ,as_invQ rfl rfl ht1,hz0,hz1,as_mulQ (dF_eF _) (dF_eF _) (dF_eF _) (dF_eF _) ht2,lt_eF _,lt_eF _,lt_eF _,lt_eF _,as_mulQ rfl rfl (dF_eF _) (dF_eF _) ht3,hx0,hx1,lt_eF _,lt_eF _,as_mulQ (dF_eF _) (dF_eF _) (dF_eF _) (dF_eF _) ht4,lt_eF _,lt_eF _,lt_eF _,lt_eF _,as_mulQ rfl rfl (dF_eF _) (dF_eF _) ht5,hy0,hy1,lt_eF _,lt_eF _,endC (cv_cons (nv_tx (by rw [ht3,ht2,ht1])) (cv_cons (nv_ty (by rw [ht3,ht2,ht1])) (cv_cons (nv_tx (by rw [ht5,ht4,ht2,ht1])) (cv_cons (nv_ty (by rw [ht5,ht4,ht2,ht1])) (cv_one cv_nil)))))⟩
def GtiQ:Ctx:=ctxL [(167,.pure (jQ1 J3.dbl)),(168,.pure (jQ2 J3.add)),(129,.pure cLen),(131,.pure cBit)]
theorem GtiQ_ok:CtxOk Tryz.prog GtiQ:=ctxL_cons okTwQ <| ctxL_cons okSmQ <| ctxL_cons okLen <| ctxL_cons okBit ctxL_nil
abbrev VtiQ (k:Nat):List AV:=[pt 0 0,pt 1 0,pt 2 0,pt 3 0,pt 4 0,iv (predI k)]
abbrev HtiQ (x0 x1 y0 y1 z0 z1 n:Nat->Nat) (g:Nat->Nat->Nat):Heap:=[some ⟨91,fdQ,0,0⟩,some ⟨145,[.ws .u64 6 x0,.ws .u64 6 x1,.ws .u64 6 y0,.ws .u64 6 y1,.ws .u64 6 z0,.ws .u64 6 z1],0,0⟩,nb n,some ⟨145,csQ (fun _ _=>0),0,0⟩,some ⟨145,csQ g,0,0⟩,none]
def IntiQ (P:J3 F2p) (n:Nat) (x:Nat × (Nat->Nat->Nat)):Prop:=x.1 <= blen n/\LtQ x.2/\JvQ x.2 = J3.times P (blen n - x.1) (n / 2 ^ x.1)
theorem nilvQ:JvQ (of6 oneF (fun _=>0) oneF (fun _=>0) (fun _=>0) (fun _=>0)) = J3.nil:=by
 rw [JvQ_of,one_Q,zero_Q];exact nilQ.symm
theorem okTiQ:(CallC.pure tiCQ).Ok Tryz.prog 117:=by
 intro args pre v e hp
 unfold tiCQ at e
 split at e
 rotate_left
 ·cases e
 rename_i cs x0 x1 y0 y1 z0 z1 n
 cases e
 have hcs:cs = fdQ:=hp _ (by simp)
 subst hcs
 have hx0:nv x0 < pN:=hp (nv x0 < pN) (by simp)
 have hx1:nv x1 < pN:=hp (nv x1 < pN) (by simp)
 have hy0:nv y0 < pN:=hp (nv y0 < pN) (by simp)
 have hy1:nv y1 < pN:=hp (nv y1 < pN) (by simp)
 have hz0:nv z0 < pN:=hp (nv z0 < pN) (by simp)
 have hz1:nv z1 < pN:=hp (nv z1 < pN) (by simp)
 refine pure_walk' tt_ok Tryz.func117 (by kernel_rfl) (by kernel_rfl) (by rfl) (by rfl) ?_
 have hbl:=blen_le' n
 refine loopF mixed tt_ok GtiQ_ok (by kernel_rfl) (ι:={x_ // IntiQ (⟨(⟨dF x0,dF x1⟩:F2p),(⟨dF y0,dF y1⟩:F2p),(⟨dF z0,dF z1⟩:F2p)⟩:J3 F2p) (nv n) x_}) [3,4,5,6,7,8] 33 6 (fun x_=>VtiQ x_.1.1) (fun x_=>HtiQ x0 x1 y0 y1 z0 z1 n x_.1.2) (fun x_=>x_.1.1) (fun x_=>x_.1.1 = 0)
  (fun _=>rfl) (fun _=>by kernel_rfl) (fun _ _ h=>h.elim) 60 [⟨2,2,.lit (.it (predI (blen (nv n))))⟩] ?_ ?_ ?_
 ·refine same (p:=wrapI (Int.ofNat (blen (nv n)) - 1) = predI (blen (nv n))/\true = true/\∃ j:{x_ // IntiQ (⟨(⟨dF x0,dF x1⟩:F2p),(⟨dF y0,dF y1⟩:F2p),(⟨dF z0,dF z1⟩:F2p)⟩:J3 F2p) (nv n) x_},VtiQ (blen (nv n)) = VtiQ j.1.1/\HtiQ x0 x1 y0 y1 z0 z1 n (of6 oneF (fun _=>0) oneF (fun _=>0) (fun _=>0) (fun _=>0)) = HtiQ x0 x1 y0 y1 z0 z1 n j.1.2) ?_ (by kernel_rfl)
  refine ⟨predI_eq (by omega),rfl,⟨(blen (nv n),(of6 oneF (fun _=>0) oneF (fun _=>0) (fun _=>0) (fun _=>0))),Nat.le_refl _,LtQ_of lt_one lt_zero lt_one lt_zero lt_zero lt_zero,?_⟩,rfl,rfl⟩
  simp only
  rw [nilvQ,Nat.sub_self];rfl
 ·intro ⟨⟨k,g⟩,hk,hg,hv⟩ junk
  simp only at hk hv
  have hg:LtQ g:=hg
  cases k with
  | zero =>
   refine roundF mixed tt_ok GtiQ_ok 60 [] ?_
   refine same (p:=true = true/\∃ j:{x_ // IntiQ (⟨(⟨dF x0,dF x1⟩:F2p),(⟨dF y0,dF y1⟩:F2p),(⟨dF z0,dF z1⟩:F2p)⟩:J3 F2p) (nv n) x_},j.1.1 = 0/\VtiQ 0 = VtiQ j.1.1/\HtiQ x0 x1 y0 y1 z0 z1 n g = HtiQ x0 x1 y0 y1 z0 z1 n j.1.2) ?_ (by kernel_rfl)
   exact ⟨rfl,⟨(0,g),hk,hg,hv⟩,rfl,rfl,rfl⟩
  | succ k =>
   have hs:wrapI (Int.ofNat k - 1) = predI k:=predI_eq (by omega)
   have hhalf:nv n / 2 ^ k / 2 = nv n / 2 ^ (k + 1):=by rw [Nat.div_div_eq_div_mul,Nat.pow_succ]
   have hnext:blen (nv n) - k = (blen (nv n) - (k + 1)) + 1:=by omega
   have next:∀ J:J3 F2p,J = J3.times (⟨(⟨dF x0,dF x1⟩:F2p),(⟨dF y0,dF y1⟩:F2p),(⟨dF z0,dF z1⟩:F2p)⟩:J3 F2p) (blen (nv n) - k) (nv n / 2 ^ k)->∃ j:{x_ // IntiQ (⟨(⟨dF x0,dF x1⟩:F2p),(⟨dF y0,dF y1⟩:F2p),(⟨dF z0,dF z1⟩:F2p)⟩:J3 F2p) (nv n) x_},j.1.1 < k + 1/\VtiQ k = VtiQ j.1.1/\HtiQ x0 x1 y0 y1 z0 z1 n (selQ J) = HtiQ x0 x1 y0 y1 z0 z1 n j.1.2 :=
    fun J h'=>⟨⟨(k,selQ J),by simp only;omega,LtQ_sel J,by simp only;rw [JvQ_sel,h']⟩,by simp only;omega,rfl,rfl⟩
   have hbit:nv n / 2 ^ k % 2 = 0∨nv n / 2 ^ k % 2 = 1:=by omega
   rcases hbit with h0 | h0
   ·refine roundF mixed tt_ok GtiQ_ok 60 [⟨3,1,.lit (.bo true)⟩,⟨6,3,.lit (.bo false)⟩,⟨4,1,.lit (.it (predI k))⟩] ?_
    refine same (p:=(!ilt (Int.ofNat k) 0) = true/\fdQ = fdQ/\nv (g 0) < pN/\nv (g 1) < pN/\nv (g 2) < pN/\nv (g 3) < pN/\nv (g 4) < pN/\nv (g 5) < pN/\ieq (Int.ofNat (nv n / 2 ^ k % 2)) 1 = false/\wrapI (Int.ofNat k - 1) = predI k/\true = true /\
     ∃ j:{x_ // IntiQ (⟨(⟨dF x0,dF x1⟩:F2p),(⟨dF y0,dF y1⟩:F2p),(⟨dF z0,dF z1⟩:F2p)⟩:J3 F2p) (nv n) x_},j.1.1 < k + 1/\VtiQ k = VtiQ j.1.1/\HtiQ x0 x1 y0 y1 z0 z1 n (selQ (J3.dbl (JvQ g))) = HtiQ x0 x1 y0 y1 z0 z1 n j.1.2) ?_ (by kernel_rfl)
    refine ⟨ilt_nn2 k,rfl,hg.1,hg.2.1,hg.2.2.1,hg.2.2.2.1,hg.2.2.2.2.1,hg.2.2.2.2.2,by rw [h0];rfl,hs,rfl,next _ ?_⟩
    rw [hnext,J3.times,if_neg (by omega),hhalf,hv]
   ·refine roundF mixed tt_ok GtiQ_ok 60 [⟨3,1,.lit (.bo true)⟩,⟨6,3,.lit (.bo true)⟩,⟨4,1,.lit (.it (predI k))⟩] ?_
    refine same (p:=(!ilt (Int.ofNat k) 0) = true/\fdQ = fdQ/\nv (g 0) < pN/\nv (g 1) < pN/\nv (g 2) < pN/\nv (g 3) < pN/\nv (g 4) < pN/\nv (g 5) < pN/\ieq (Int.ofNat (nv n / 2 ^ k % 2)) 1 = true/\fdQ = fdQ/\nv ((selQ (J3.dbl (JvQ g))) 0) < pN/\nv ((selQ (J3.dbl (JvQ g))) 1) < pN/\nv ((selQ (J3.dbl (JvQ g))) 2) < pN/\nv ((selQ (J3.dbl (JvQ g))) 3) < pN/\nv ((selQ (J3.dbl (JvQ g))) 4) < pN/\nv ((selQ (J3.dbl (JvQ g))) 5) < pN/\nv x0 < pN/\nv x1 < pN/\nv y0 < pN/\nv y1 < pN/\nv z0 < pN/\nv z1 < pN/\wrapI (Int.ofNat k - 1) = predI k/\true = true /\
     ∃ j:{x_ // IntiQ (⟨(⟨dF x0,dF x1⟩:F2p),(⟨dF y0,dF y1⟩:F2p),(⟨dF z0,dF z1⟩:F2p)⟩:J3 F2p) (nv n) x_},j.1.1 < k + 1/\VtiQ k = VtiQ j.1.1/\HtiQ x0 x1 y0 y1 z0 z1 n (selQ (J3.add (JvQ (selQ (J3.dbl (JvQ g)))) (⟨(⟨dF x0,dF x1⟩:F2p),(⟨dF y0,dF y1⟩:F2p),(⟨dF z0,dF z1⟩:F2p)⟩:J3 F2p))) = HtiQ x0 x1 y0 y1 z0 z1 n j.1.2) ?_ (by kernel_rfl)
    refine ⟨ilt_nn2 k,rfl,hg.1,hg.2.1,hg.2.2.1,hg.2.2.2.1,hg.2.2.2.2.1,hg.2.2.2.2.2,by rw [h0];rfl,rfl,lt_eF _,lt_eF _,lt_eF _,lt_eF _,lt_eF _,lt_eF _,hx0,hx1,hy0,hy1,hz0,hz1,hs,rfl,next _ ?_⟩
    rw [JvQ_sel,hnext,J3.times,if_pos h0,hhalf,hv]
 ·intro ⟨⟨k,g⟩,hk,hg,hv⟩ junk h0
  simp only at hk hv h0
  have hg:LtQ g:=hg
  subst h0
  rw [Nat.sub_zero,Nat.pow_zero,Nat.div_one] at hv
  refine same (p:=endN (.v1 (.agg (csQ g))) (.v1 (.agg [.ws .u64 6 (eF (J3.times (⟨(⟨dF x0,dF x1⟩:F2p),(⟨dF y0,dF y1⟩:F2p),(⟨dF z0,dF z1⟩:F2p)⟩:J3 F2p) (blen (nv n)) (nv n)).x.x),.ws .u64 6 (eF (J3.times (⟨(⟨dF x0,dF x1⟩:F2p),(⟨dF y0,dF y1⟩:F2p),(⟨dF z0,dF z1⟩:F2p)⟩:J3 F2p) (blen (nv n)) (nv n)).x.y),.ws .u64 6 (eF (J3.times (⟨(⟨dF x0,dF x1⟩:F2p),(⟨dF y0,dF y1⟩:F2p),(⟨dF z0,dF z1⟩:F2p)⟩:J3 F2p) (blen (nv n)) (nv n)).y.x),.ws .u64 6 (eF (J3.times (⟨(⟨dF x0,dF x1⟩:F2p),(⟨dF y0,dF y1⟩:F2p),(⟨dF z0,dF z1⟩:F2p)⟩:J3 F2p) (blen (nv n)) (nv n)).y.y),.ws .u64 6 (eF (J3.times (⟨(⟨dF x0,dF x1⟩:F2p),(⟨dF y0,dF y1⟩:F2p),(⟨dF z0,dF z1⟩:F2p)⟩:J3 F2p) (blen (nv n)) (nv n)).z.x),.ws .u64 6 (eF (J3.times (⟨(⟨dF x0,dF x1⟩:F2p),(⟨dF y0,dF y1⟩:F2p),(⟨dF z0,dF z1⟩:F2p)⟩:J3 F2p) (blen (nv n)) (nv n)).z.y)]))) ?_ (by kernel_rfl)
  rw [<-hv]
  exact endC (cv_cons (nv_d hg.1) (cv_cons (nv_d hg.2.1) (cv_cons (nv_d hg.2.2.1) (cv_cons (nv_d hg.2.2.2.1) (cv_cons (nv_d hg.2.2.2.2.1) (cv_cons (nv_d hg.2.2.2.2.2) cv_nil))))))
def GinQ:List (Nat × CallC):=[(115,.pure onCQ),(118,.pure raCQ),(117,.pure tiCQ),(116,.pure loCQ),(33,.pure (cK orderF))]
theorem GinQ_ok:CtxOk Tryz.prog (ctxL GinQ):=ctxL_cons okOnQ <| ctxL_cons okRaQ <| ctxL_cons okTiQ <| ctxL_cons okLoQ <| ctxL_cons okOrderF ctxL_nil
theorem okInQ:(CallC.pure (inCQ rNm)).Ok Tryz.prog 56:=by
 intro args pre v e hp
 unfold inCQ at e
 split at e
 rotate_left
 ·cases e
 rename_i cs x0 x1 y0 y1 z
 cases e
 have hcs:cs = fdQ:=hp _ (by simp)
 subst hcs
 have hx0:nv x0 < pN:=hp (nv x0 < pN) (by simp)
 have hx1:nv x1 < pN:=hp (nv x1 < pN) (by simp)
 have hy0:nv y0 < pN:=hp (nv y0 < pN) (by simp)
 have hy1:nv y1 < pN:=hp (nv y1 < pN) (by simp)
 refine pure_walk' tt_ok Tryz.func56 (by kernel_rfl) (by kernel_rfl) (by rfl) (by rfl) ?_
 cases ho:A2.on fourQ (⟨(⟨dF x0,dF x1⟩:F2p),(⟨dF y0,dF y1⟩:F2p),z⟩:A2 F2p)
 ·refine evS_q mixed tt_ok GinQ_ok 60 [⟨1,2,.lit (.bo false)⟩] (same (p:=A2.on fourQ (⟨(⟨dF x0,dF x1⟩:F2p),(⟨dF y0,dF y1⟩:F2p),z⟩:A2 F2p) = false/\fdQ = fdQ/\nv x0 < pN/\nv x1 < pN/\nv y0 < pN/\nv y1 < pN/\endN (.v1 (.sc (.bo false))) (.v1 (.sc (.bo (A2.isIn fourQ rNm (⟨(⟨dF x0,dF x1⟩:F2p),(⟨dF y0,dF y1⟩:F2p),z⟩:A2 F2p)))))) ?_ (by kernel_rfl))
  exact ⟨ho,rfl,hx0,hx1,hy0,hy1,endB (by unfold A2.isIn;rw [ho];rfl)⟩
 ·refine evS_q mixed tt_ok GinQ_ok 60 [⟨1,2,.lit (.bo true)⟩] (same (p:=A2.on fourQ (⟨(⟨dF x0,dF x1⟩:F2p),(⟨dF y0,dF y1⟩:F2p),z⟩:A2 F2p) = true/\fdQ = fdQ/\nv x0 < pN/\nv x1 < pN/\nv y0 < pN/\nv y1 < pN/\fdQ = fdQ/\nv x0 < pN/\nv x1 < pN/\nv y0 < pN/\nv y1 < pN/\fdQ = fdQ/\nv ((selQ (A2.raise (⟨(⟨dF x0,dF x1⟩:F2p),(⟨dF y0,dF y1⟩:F2p),z⟩:A2 F2p))) 0) < pN/\nv ((selQ (A2.raise (⟨(⟨dF x0,dF x1⟩:F2p),(⟨dF y0,dF y1⟩:F2p),z⟩:A2 F2p))) 1) < pN/\nv ((selQ (A2.raise (⟨(⟨dF x0,dF x1⟩:F2p),(⟨dF y0,dF y1⟩:F2p),z⟩:A2 F2p))) 2) < pN/\nv ((selQ (A2.raise (⟨(⟨dF x0,dF x1⟩:F2p),(⟨dF y0,dF y1⟩:F2p),z⟩:A2 F2p))) 3) < pN/\nv ((selQ (A2.raise (⟨(⟨dF x0,dF x1⟩:F2p),(⟨dF y0,dF y1⟩:F2p),z⟩:A2 F2p))) 4) < pN/\nv ((selQ (A2.raise (⟨(⟨dF x0,dF x1⟩:F2p),(⟨dF y0,dF y1⟩:F2p),z⟩:A2 F2p))) 5) < pN/\fdQ = fdQ/\nv ((selQ (J3.times (JvQ (selQ (A2.raise (⟨(⟨dF x0,dF x1⟩:F2p),(⟨dF y0,dF y1⟩:F2p),z⟩:A2 F2p)))) (blen (nv orderF)) (nv orderF))) 0) < pN/\nv ((selQ (J3.times (JvQ (selQ (A2.raise (⟨(⟨dF x0,dF x1⟩:F2p),(⟨dF y0,dF y1⟩:F2p),z⟩:A2 F2p)))) (blen (nv orderF)) (nv orderF))) 1) < pN/\nv ((selQ (J3.times (JvQ (selQ (A2.raise (⟨(⟨dF x0,dF x1⟩:F2p),(⟨dF y0,dF y1⟩:F2p),z⟩:A2 F2p)))) (blen (nv orderF)) (nv orderF))) 2) < pN/\nv ((selQ (J3.times (JvQ (selQ (A2.raise (⟨(⟨dF x0,dF x1⟩:F2p),(⟨dF y0,dF y1⟩:F2p),z⟩:A2 F2p)))) (blen (nv orderF)) (nv orderF))) 3) < pN/\nv ((selQ (J3.times (JvQ (selQ (A2.raise (⟨(⟨dF x0,dF x1⟩:F2p),(⟨dF y0,dF y1⟩:F2p),z⟩:A2 F2p)))) (blen (nv orderF)) (nv orderF))) 4) < pN/\nv ((selQ (J3.times (JvQ (selQ (A2.raise (⟨(⟨dF x0,dF x1⟩:F2p),(⟨dF y0,dF y1⟩:F2p),z⟩:A2 F2p)))) (blen (nv orderF)) (nv orderF))) 5) < pN/\endN (.v1 (.sc (.bo (A2.lower F2p.inv (JvQ (selQ (J3.times (JvQ (selQ (A2.raise (⟨(⟨dF x0,dF x1⟩:F2p),(⟨dF y0,dF y1⟩:F2p),z⟩:A2 F2p)))) (blen (nv orderF)) (nv orderF))))).z))) (.v1 (.sc (.bo (A2.isIn fourQ rNm (⟨(⟨dF x0,dF x1⟩:F2p),(⟨dF y0,dF y1⟩:F2p),z⟩:A2 F2p)))))) ?_ (by kernel_rfl))
  refine ⟨ho,rfl,hx0,hx1,hy0,hy1,rfl,hx0,hx1,hy0,hy1,rfl,lt_eF _,lt_eF _,lt_eF _,lt_eF _,lt_eF _,lt_eF _,rfl,lt_eF _,lt_eF _,lt_eF _,lt_eF _,lt_eF _,lt_eF _,endB ?_⟩
  have e0:JvQ (selQ (A2.raise (⟨(⟨dF x0,dF x1⟩:F2p),(⟨dF y0,dF y1⟩:F2p),z⟩:A2 F2p))) = A2.raise (⟨(⟨dF x0,dF x1⟩:F2p),(⟨dF y0,dF y1⟩:F2p),z⟩:A2 F2p):=JvQ_sel _
  have e1:J3.times (JvQ (selQ (A2.raise (⟨(⟨dF x0,dF x1⟩:F2p),(⟨dF y0,dF y1⟩:F2p),z⟩:A2 F2p)))) (blen (nv orderF)) (nv orderF) = J3.times (A2.raise (⟨(⟨dF x0,dF x1⟩:F2p),(⟨dF y0,dF y1⟩:F2p),z⟩:A2 F2p)) (blen (nv orderF)) (nv orderF):=congrArg (fun q=>J3.times q (blen (nv orderF)) (nv orderF)) e0
  have e2:JvQ (selQ (J3.times (JvQ (selQ (A2.raise (⟨(⟨dF x0,dF x1⟩:F2p),(⟨dF y0,dF y1⟩:F2p),z⟩:A2 F2p)))) (blen (nv orderF)) (nv orderF))) = J3.times (JvQ (selQ (A2.raise (⟨(⟨dF x0,dF x1⟩:F2p),(⟨dF y0,dF y1⟩:F2p),z⟩:A2 F2p)))) (blen (nv orderF)) (nv orderF):=JvQ_sel _
  have e4:J3.times (A2.raise (⟨(⟨dF x0,dF x1⟩:F2p),(⟨dF y0,dF y1⟩:F2p),z⟩:A2 F2p)) (blen (nv orderF)) (nv orderF) = J3.times (A2.raise (⟨(⟨dF x0,dF x1⟩:F2p),(⟨dF y0,dF y1⟩:F2p),z⟩:A2 F2p)) (blen rNm) rNm:=by rw [nv_order]
  have e3:(A2.lower F2p.inv (JvQ (selQ (J3.times (JvQ (selQ (A2.raise (⟨(⟨dF x0,dF x1⟩:F2p),(⟨dF y0,dF y1⟩:F2p),z⟩:A2 F2p)))) (blen (nv orderF)) (nv orderF))))).z = decide ((J3.times (A2.raise (⟨(⟨dF x0,dF x1⟩:F2p),(⟨dF y0,dF y1⟩:F2p),z⟩:A2 F2p)) (blen rNm) rNm).z = 0):=(lower_z F2p.inv _).trans (congrArg (fun q:J3 F2p=>decide (q.z = 0)) (e2.trans (e1.trans e4)))
  refine e3.trans ?_
  unfold A2.isIn A2.mulJ
  rw [ho,Bool.true_and]
end Go.Proofs.YtnjocbcjejpklaaGreat
namespace Go.Proofs.YtnjocbcjejpklaaGreat
open Go.Rq Go
set_option maxRecDepth 100000
set_option linter.unusedVariables false
set_option linter.unusedSimpArgs false
set_option maxHeartbeats 4000000
def blB (a:Nat->Nat):Bool:=Nat.blt (nv a) pN
def cBl:List AV->Option (List Prop × AV)
 | [.v1 (.agg [.ws .u64 6 a])]=>some ([],.v1 (.sc (.bo (blB a))))
 | _=>none
def GBl:Ctx:=ctxL [(65,.pure (cK primeF)),(64,.pure cCmp)]
theorem GBl_ok:CtxOk Tryz.prog GBl:=ctxL_cons okBase <| ctxL_cons okCmp ctxL_nil
theorem cmp_bl (a:Nat->Nat):ilt (cmpI (nv a) (nv primeF)) 0 = blB a:=by
 unfold blB cmpI
 rw [nv_prime]
 cases Nat.blt (nv a) pN
 ·cases Nat.blt pN (nv a) <;> rfl
 ·rfl
theorem okBl:(CallC.pure cBl).Ok Tryz.prog 99:=by
 intro args pre v e hp
 unfold cBl at e
 split at e
 rotate_left
 ·cases e
 rename_i a
 cases e
 refine pure_walk' tt_ok Tryz.func99 (by kernel_rfl) (by kernel_rfl) (by rfl) (by rfl) ?_
 refine evS_q mixed tt_ok GBl_ok 60 [] (same (p:=endN (.v1 (.sc (.bo (ilt (cmpI (nv a) (nv primeF)) 0)))) (.v1 (.sc (.bo (blB a))))) ?_ (by kernel_rfl))
 exact endB (cmp_bl a)
def GB1:Ctx:=ctxL [(99,.pure cBl)]
theorem GB1_ok:CtxOk Tryz.prog GB1:=ctxL_cons okBl ctxL_nil
def cB1:List AV->Option (List Prop × AV)
 | [.v1 (.agg [.ws .u64 6 x,.ws .u64 6 y,.one (.bo z)])]=>some ([],.v1 (.sc (.bo (blB x && blB y))))
 | _=>none
theorem okB1:(CallC.pure cB1).Ok Tryz.prog 50:=by
 intro args pre v e hp
 unfold cB1 at e
 split at e
 rotate_left
 ·cases e
 rename_i x y z
 cases e
 refine pure_walk' tt_ok Tryz.func50 (by kernel_rfl) (by kernel_rfl) (by rfl) (by rfl) ?_
 cases h:blB x
 ·refine evS_q mixed tt_ok GB1_ok 60 [⟨1,2,.lit (.bo false)⟩] (same (p:=blB x = false/\endN (.v1 (.sc (.bo false))) (.v1 (.sc (.bo (false && blB y))))) ?_ (by kernel_rfl))
  exact ⟨h,endB rfl⟩
 ·refine evS_q mixed tt_ok GB1_ok 60 [⟨1,2,.lit (.bo true)⟩] (same (p:=blB x = true/\endN (.v1 (.sc (.bo (blB y)))) (.v1 (.sc (.bo (true && blB y))))) ?_ (by kernel_rfl))
  exact ⟨h,endB rfl⟩
def cB2:List AV->Option (List Prop × AV)
 | [.v1 (.agg [.ws .u64 6 x0,.ws .u64 6 x1,.ws .u64 6 y0,.ws .u64 6 y1,.one (.bo z)])]=>some ([],.v1 (.sc (.bo (blB x0 && (blB x1 && (blB y0 && blB y1))))))
 | _=>none
theorem okB2:(CallC.pure cB2).Ok Tryz.prog 54:=by
 intro args pre v e hp
 unfold cB2 at e
 split at e
 rotate_left
 ·cases e
 rename_i x0 x1 y0 y1 z
 cases e
 refine pure_walk' tt_ok Tryz.func54 (by kernel_rfl) (by kernel_rfl) (by rfl) (by rfl) ?_
 cases h:blB x0
 ·refine evS_q mixed tt_ok GB1_ok 60 [⟨1,3,.lit (.bo false)⟩] (same (p:=blB x0 = false/\endN (.v1 (.sc (.bo false))) (.v1 (.sc (.bo (false && (blB x1 && (blB y0 && blB y1))))))) ?_ (by kernel_rfl))
  exact ⟨h,endB rfl⟩
 ·cases h2:blB x1
  ·refine evS_q mixed tt_ok GB1_ok 60 [⟨1,3,.lit (.bo true)⟩,⟨1,8,.lit (.bo false)⟩] (same (p:=blB x0 = true/\blB x1 = false/\endN (.v1 (.sc (.bo false))) (.v1 (.sc (.bo (true && (false && (blB y0 && blB y1))))))) ?_ (by kernel_rfl))
   exact ⟨h,h2,endB rfl⟩
  ·cases h3:blB y0
   ·refine evS_q mixed tt_ok GB1_ok 60 [⟨1,3,.lit (.bo true)⟩,⟨1,8,.lit (.bo true)⟩,⟨1,14,.lit (.bo false)⟩] (same (p:=blB x0 = true/\blB x1 = true/\blB y0 = false/\endN (.v1 (.sc (.bo false))) (.v1 (.sc (.bo (true && (true && (false && blB y1))))))) ?_ (by kernel_rfl))
    exact ⟨h,h2,h3,endB rfl⟩
   ·refine evS_q mixed tt_ok GB1_ok 60 [⟨1,3,.lit (.bo true)⟩,⟨1,8,.lit (.bo true)⟩,⟨1,14,.lit (.bo true)⟩] (same (p:=blB x0 = true/\blB x1 = true/\blB y0 = true/\endN (.v1 (.sc (.bo (blB y1)))) (.v1 (.sc (.bo (true && (true && (true && blB y1))))))) ?_ (by kernel_rfl))
    exact ⟨h,h2,h3,endB rfl⟩
def cFld (cs:List Cell):List AV->Option (List Prop × AV)
 | []=>some ([],.v1 (.agg cs))
 | _=>none
def GF1:Ctx:=ctxL [(104,.pure (cK oneF)),(22,.pure cOf),(105,.pure cTo),(114,.pure (c2 oneF (fun _=>0)))]
theorem GF1_ok:CtxOk Tryz.prog GF1:=ctxL_cons okOne0 <| ctxL_cons okOf <| ctxL_cons okTo <| ctxL_cons okOne2 ctxL_nil
theorem okFirst:(CallC.pure (cFld fdE)).Ok Tryz.prog 51:=by
 intro args pre v e hp
 unfold cFld at e
 split at e
 rotate_left
 ·cases e
 cases e
 have hno:∀ h,CallOk Tryz.prog 51 [] h (.v1 (.agg fdE)) h:=by
  refine pure_walk' tt_ok Tryz.func51 (by kernel_rfl) (by kernel_rfl) (by rfl) (by kernel_rfl) ?_
  refine evS_q mixed tt_ok GF1_ok 60 [] (same (p:=endN (.v1 (.agg fdE)) (.v1 (.agg fdE))) ⟨_,rfl,fun _=>rfl⟩ (by kernel_rfl))
 exact hno
end Go.Proofs.YtnjocbcjejpklaaGreat
namespace Go.Proofs.YtnjocbcjejpklaaGreat
open Go.Rq Go
set_option maxRecDepth 100000
set_option linter.unusedVariables false
set_option linter.unusedSimpArgs false
set_option maxHeartbeats 4000000
theorem okSecond:(CallC.pure (cFld fdQ)).Ok Tryz.prog 55:=by
 intro args pre v e hp
 unfold cFld at e
 split at e
 rotate_left
 ·cases e
 cases e
 have hno:∀ h,CallOk Tryz.prog 55 [] h (.v1 (.agg fdQ)) h:=by
  refine pure_walk' tt_ok Tryz.func55 (by kernel_rfl) (by kernel_rfl) (by rfl) (by kernel_rfl) ?_
  refine evS_q mixed tt_ok GF1_ok 60 [] (same (p:=endN (.v1 (.agg fdQ)) (.v1 (.agg fdQ))) ⟨_,rfl,fun _=>rfl⟩ (by kernel_rfl))
 exact hno
def cI1:List AV->Option (List Prop × AV)
 | [.v1 (.agg [.ws .u64 6 x,.ws .u64 6 y,.one (.bo z)])]=>some ([],.v1 (.agg [.ws .u64 6 (eF (gN x)),.ws .u64 6 (eF (gN y)),.one (.bo z)]))
 | _=>none
def cI2:List AV->Option (List Prop × AV)
 | [.v1 (.agg [.ws .u64 6 x0,.ws .u64 6 x1,.ws .u64 6 y0,.ws .u64 6 y1,.one (.bo z)])]=>some ([],.v1 (.agg [.ws .u64 6 (eF (gN x0)),.ws .u64 6 (eF (gN x1)),.ws .u64 6 (eF (gN y0)),.ws .u64 6 (eF (gN y1)),.one (.bo z)]))
 | _=>none
def GI1:Ctx:=ctxL [(105,.pure cTo),(87,.pure cTo2)]
theorem GI1_ok:CtxOk Tryz.prog GI1:=ctxL_cons okTo <| ctxL_cons okTo2 ctxL_nil
theorem okI1:(CallC.pure cI1).Ok Tryz.prog 53:=by
 intro args pre v e hp
 unfold cI1 at e
 split at e
 rotate_left
 ·cases e
 rename_i x y z
 cases e
 refine pure_walk' tt_ok Tryz.func53 (by kernel_rfl) (by kernel_rfl) (by rfl) (by rfl) ?_
 refine evS_q mixed tt_ok GI1_ok 60 [] (same (p:=endN (.v1 (.agg [.ws .u64 6 (eF (gN x)),.ws .u64 6 (eF (gN y)),.one (.bo z)])) (.v1 (.agg [.ws .u64 6 (eF (gN x)),.ws .u64 6 (eF (gN y)),.one (.bo z)]))) ⟨_,rfl,fun _=>rfl⟩ (by kernel_rfl))
theorem okI2:(CallC.pure cI2).Ok Tryz.prog 57:=by
 intro args pre v e hp
 unfold cI2 at e
 split at e
 rotate_left
 ·cases e
 rename_i x0 x1 y0 y1 z
 cases e
 refine pure_walk' tt_ok Tryz.func57 (by kernel_rfl) (by kernel_rfl) (by rfl) (by rfl) ?_
 refine evS_q mixed tt_ok GI1_ok 60 [] (same (p:=endN (.v1 (.agg [.ws .u64 6 (eF (gN x0)),.ws .u64 6 (eF (gN x1)),.ws .u64 6 (eF (gN y0)),.ws .u64 6 (eF (gN y1)),.one (.bo z)])) (.v1 (.agg [.ws .u64 6 (eF (gN x0)),.ws .u64 6 (eF (gN x1)),.ws .u64 6 (eF (gN y0)),.ws .u64 6 (eF (gN y1)),.one (.bo z)]))) ⟨_,rfl,fun _=>rfl⟩ (by kernel_rfl))
def isE (x y:Nat->Nat) (z:Bool):Bool:=A2.isIn fourE rNm ⟨gN x,gN y,z⟩
def isQ (x0 x1 y0 y1:Nat->Nat) (z:Bool):Bool:=A2.isIn fourQ rNm ⟨⟨gN x0,gN x1⟩,⟨gN y0,gN y1⟩,z⟩
def lo1 (x y:Nat->Nat):Bool:=blB x && blB y
def lo2 (x0 x1 y0 y1:Nat->Nat):Bool:=blB x0 && (blB x1 && (blB y0 && blB y1))
def cLo1:List AV->Option (List Prop × AV)
 | [.v1 (.agg [.ws .u64 6 x,.ws .u64 6 y,.one (.bo z)])]=>some ([],.v1 (.sc (.bo (lo1 x y))))
 | _=>none
def cLo2:List AV->Option (List Prop × AV)
 | [.v1 (.agg [.ws .u64 6 x0,.ws .u64 6 x1,.ws .u64 6 y0,.ws .u64 6 y1,.one (.bo z)])]=>some ([],.v1 (.sc (.bo (lo2 x0 x1 y0 y1))))
 | _=>none
theorem okLo1:(CallC.pure cLo1).Ok Tryz.prog 50:=okB1
theorem okLo2:(CallC.pure cLo2).Ok Tryz.prog 54:=okB2
def cIn1:List AV->Option (List Prop × AV)
 | [.v1 (.agg [.ws .u64 6 x,.ws .u64 6 y,.one (.bo z)])]=>some ([],.v1 (.sc (.bo (lo1 x y && isE x y z))))
 | _=>none
def cIn2:List AV->Option (List Prop × AV)
 | [.v1 (.agg [.ws .u64 6 x0,.ws .u64 6 x1,.ws .u64 6 y0,.ws .u64 6 y1,.one (.bo z)])]=>some ([],.v1 (.sc (.bo (lo2 x0 x1 y0 y1 && isQ x0 x1 y0 y1 z))))
 | _=>none
def GIn1:Ctx:=ctxL [(50,.pure cLo1),(51,.pure (cFld fdE)),(53,.pure cI1),(52,.pure (inCE rNm))]
theorem GIn1_ok:CtxOk Tryz.prog GIn1:=ctxL_cons okLo1 <| ctxL_cons okFirst <| ctxL_cons okI1 <| ctxL_cons okInE ctxL_nil
def GIn2:Ctx:=ctxL [(54,.pure cLo2),(55,.pure (cFld fdQ)),(57,.pure cI2),(56,.pure (inCQ rNm))]
theorem GIn2_ok:CtxOk Tryz.prog GIn2:=ctxL_cons okLo2 <| ctxL_cons okSecond <| ctxL_cons okI2 <| ctxL_cons okInQ ctxL_nil
theorem isE_eq (x y:Nat->Nat) (z:Bool):A2.isIn fourE rNm ⟨dF (eF (gN x)),dF (eF (gN y)),z⟩ = isE x y z:=by rw [dF_eF,dF_eF];rfl
theorem isQ_eq (x0 x1 y0 y1:Nat->Nat) (z:Bool):A2.isIn fourQ rNm ⟨⟨dF (eF (gN x0)),dF (eF (gN x1))⟩,⟨dF (eF (gN y0)),dF (eF (gN y1))⟩,z⟩ = isQ x0 x1 y0 y1 z:=by rw [dF_eF,dF_eF,dF_eF,dF_eF];rfl
theorem okIn1:(CallC.pure cIn1).Ok Tryz.prog 16:=by
 intro args pre v e hp
 unfold cIn1 at e
 split at e
 rotate_left
 ·cases e
 rename_i x y z
 cases e
 refine pure_walk' tt_ok Tryz.func16 (by kernel_rfl) (by kernel_rfl) (by rfl) (by rfl) ?_
 cases h:lo1 x y
 ·refine evS_q mixed tt_ok GIn1_ok 60 [⟨1,2,.lit (.bo false)⟩] (same (p:=lo1 x y = false/\endN (.v1 (.sc (.bo false))) (.v1 (.sc (.bo (false && isE x y z))))) ?_ (by kernel_rfl))
  exact ⟨h,endB rfl⟩
 ·refine evS_q mixed tt_ok GIn1_ok 60 [⟨1,2,.lit (.bo true)⟩] (same (p:=lo1 x y = true/\fdE = fdE/\nv (eF (gN x)) < pN/\nv (eF (gN y)) < pN/\endN (.v1 (.sc (.bo (A2.isIn fourE rNm ⟨dF (eF (gN x)),dF (eF (gN y)),z⟩)))) (.v1 (.sc (.bo (true && isE x y z))))) ?_ (by kernel_rfl))
  exact ⟨h,rfl,lt_eF _,lt_eF _,endB (by rw [isE_eq,Bool.true_and])⟩
theorem okIn2:(CallC.pure cIn2).Ok Tryz.prog 17:=by
 intro args pre v e hp
 unfold cIn2 at e
 split at e
 rotate_left
 ·cases e
 rename_i x0 x1 y0 y1 z
 cases e
 refine pure_walk' tt_ok Tryz.func17 (by kernel_rfl) (by kernel_rfl) (by rfl) (by rfl) ?_
 cases h:lo2 x0 x1 y0 y1
 ·refine evS_q mixed tt_ok GIn2_ok 60 [⟨1,2,.lit (.bo false)⟩] (same (p:=lo2 x0 x1 y0 y1 = false/\endN (.v1 (.sc (.bo false))) (.v1 (.sc (.bo (false && isQ x0 x1 y0 y1 z))))) ?_ (by kernel_rfl))
  exact ⟨h,endB rfl⟩
 ·refine evS_q mixed tt_ok GIn2_ok 60 [⟨1,2,.lit (.bo true)⟩] (same (p:=lo2 x0 x1 y0 y1 = true/\fdQ = fdQ/\nv (eF (gN x0)) < pN/\nv (eF (gN x1)) < pN/\nv (eF (gN y0)) < pN/\nv (eF (gN y1)) < pN/\endN (.v1 (.sc (.bo (A2.isIn fourQ rNm ⟨⟨dF (eF (gN x0)),dF (eF (gN x1))⟩,⟨dF (eF (gN y0)),dF (eF (gN y1))⟩,z⟩)))) (.v1 (.sc (.bo (true && isQ x0 x1 y0 y1 z))))) ?_ (by kernel_rfl))
  exact ⟨h,rfl,lt_eF _,lt_eF _,lt_eF _,lt_eF _,endB (by rw [isQ_eq,Bool.true_and])⟩
end Go.Proofs.YtnjocbcjejpklaaGreat
namespace Go.Proofs.YtnjocbcjejpklaaGreat
open Go.Rq Go
set_option maxRecDepth 100000
set_option linter.unusedVariables false
set_option linter.unusedSimpArgs false
theorem dG12 (a0 a1 a2 a3 a4 a5 a6 a7 a8 a9 a10 a11:Nat->Nat):d12 (eF (gN a0)) (eF (gN a1)) (eF (gN a2)) (eF (gN a3)) (eF (gN a4)) (eF (gN a5)) (eF (gN a6)) (eF (gN a7)) (eF (gN a8)) (eF (gN a9)) (eF (gN a10)) (eF (gN a11)) = g12 a0 a1 a2 a3 a4 a5 a6 a7 a8 a9 a10 a11:=by simp only [d12,d6,dF_eF]
theorem nv_vF1:nv (wd (1 % W)) = nv (vF 1):=by rw [nv_vF];exact nv_one
def GTo1:Ctx:=ctxL [(22,.pure cOf)]
theorem GTo1_ok:CtxOk Tryz.prog GTo1:=ctxL_cons okOf ctxL_nil
theorem okTOne:(CallC.pure (c12 (n12 1))).Ok Tryz.prog 32:=by
 intro args pre v e _
 unfold c12 at e
 split at e
 ·cases e
  refine pure_walk' tt_ok Tryz.func32 (by kernel_rfl) (by kernel_rfl) (by rfl) (by rfl) ?_
  refine evS_q mixed tt_ok GTo1_ok 60 [] ?_
  refine same (p:=endN (.v1 (v12 (wd (1 % W)) (fun _=>0) (fun _=>0) (fun _=>0) (fun _=>0) (fun _=>0) (fun _=>0) (fun _=>0) (fun _=>0) (fun _=>0) (fun _=>0) (fun _=>0))) (.v1 (n12 1))) ?_ (by kernel_rfl)
  exact ⟨_,rfl,v12_val nv_vF1 zero_vF zero_vF zero_vF zero_vF zero_vF zero_vF zero_vF zero_vF zero_vF zero_vF zero_vF⟩
 ·cases e
def z12 (s:S12):Bool:=Nat.beq s.p.u.x.val 0 && (Nat.beq s.p.u.y.val 0 && (Nat.beq s.q.u.x.val 0 && (Nat.beq s.q.u.y.val 0 && (Nat.beq s.p.v.x.val 0 && (Nat.beq s.p.v.y.val 0 && (Nat.beq s.q.v.x.val 0 && (Nat.beq s.q.v.y.val 0 && (Nat.beq s.p.w.x.val 0 && (Nat.beq s.p.w.y.val 0 && (Nat.beq s.q.w.x.val 0 && (Nat.beq s.q.w.y.val 0)))))))))))
theorem z12_iff (s:S12):z12 s = true↔s = 0:=by
 unfold z12
 simp only [Bool.and_eq_true,Nat.beq_eq]
 constructor
 ·intro ⟨h0,h1,h2,h3,h4,h5,h6,h7,h8,h9,h10,h11⟩
  exact S12.ext (S6.ext (F2p.ext (Fin.ext h0) (Fin.ext h1)) (F2p.ext (Fin.ext h4) (Fin.ext h5)) (F2p.ext (Fin.ext h8) (Fin.ext h9))) (S6.ext (F2p.ext (Fin.ext h2) (Fin.ext h3)) (F2p.ext (Fin.ext h6) (Fin.ext h7)) (F2p.ext (Fin.ext h10) (Fin.ext h11)))
 ·intro h
  subst h
  exact ⟨rfl,rfl,rfl,rfl,rfl,rfl,rfl,rfl,rfl,rfl,rfl,rfl⟩
def invE (s:S12):Int:=bif z12 s then 6 else 0
theorem eqz (x:Fp):eqN W 6 (eF x) (fun _=>0) = Nat.beq x.val 0:=by
 have h:=eqW_beq (eF x) (fun _=>0)
 rw [Bool.and_true,zero_nv,nv_eF,enc_ne] at h
 exact h
theorem endPI {s t:S12} {c:V1} {i j:Int} (h:t = s) (e:c = v12 (vF (dF (eF t.p.u.x))) (vF (dF (eF t.p.u.y))) (vF (dF (eF t.q.u.x))) (vF (dF (eF t.q.u.y))) (vF (dF (eF t.p.v.x))) (vF (dF (eF t.p.v.y))) (vF (dF (eF t.q.v.x))) (vF (dF (eF t.q.v.y))) (vF (dF (eF t.p.w.x))) (vF (dF (eF t.p.w.y))) (vF (dF (eF t.q.w.x))) (vF (dF (eF t.q.w.y)))) (k:i = j):endN (.tup [c,.sc (.it i)]) (.tup [n12 s,.sc (.it j)]):=by
 subst h;subst e;subst k
 refine ⟨_,rfl,fun ρ=>?_⟩
 have:=v12_val (nvV (dF_eF t.p.u.x)) (nvV (dF_eF t.p.u.y)) (nvV (dF_eF t.q.u.x)) (nvV (dF_eF t.q.u.y)) (nvV (dF_eF t.p.v.x)) (nvV (dF_eF t.p.v.y)) (nvV (dF_eF t.q.v.x)) (nvV (dF_eF t.q.v.y)) (nvV (dF_eF t.p.w.x)) (nvV (dF_eF t.p.w.y)) (nvV (dF_eF t.q.w.x)) (nvV (dF_eF t.q.w.y)) ρ
 simp only [AV.val,List.map_cons,List.map_nil,this]
end Go.Proofs.YtnjocbcjejpklaaGreat
namespace Go.Proofs.YtnjocbcjejpklaaGreat
open Go.Rq Go
set_option maxRecDepth 100000
set_option linter.unusedVariables false
set_option linter.unusedSimpArgs false
set_option maxHeartbeats 4000000
theorem as_T1 (F:S12->S12) {A s t:S12} (a:A = s) (h:t = F s):asP (cells12 (F A)) (cells12 t):=fun ρ=>by rw [h,a]
theorem as_T2 {A B s u t:S12} (a:A = s) (b:B = u) (h:t = s * u):asP (cells12 (S12.mul A B)) (cells12 t):=fun ρ=>by rw [h,a,b];rfl
theorem end_T {s t:S12} (h:s = t):endN (.v1 (.agg (cells12 s))) (.v1 (e12 t)):=⟨_,rfl,fun ρ=>by rw [h]⟩
abbrev wU:Nat->Nat:=wd (15132376222941642752 % W)
abbrev wA:Nat->Nat:=wd (5044125407647214251 % W)
abbrev wB:Nat->Nat:=wd (15132376222941642753 % W)
def nU:Nat:=nv wU
def nA:Nat:=nv wA
def nB:Nat:=nv wB
def smS (a:S12):S12:=S12.conj (a ^ nU)
def laE (a:S12):S12:=S12.conj a * S12.inv a
def laF (a:S12):S12:=S12.turns 2 (laE a) * laE a
def laX (f:S12):S12:=(f ^ nA) ^ nB
def laZ (x:S12):S12:=smS (smS x) * S12.conj x
def laO (f x:S12):S12:=((smS (laZ x) * f) * S12.turns 1 (laZ x)) * S12.turns 2 (smS x) * S12.turns 3 x
def lastS (a:S12):S12:=laO (laF a) (laX (laF a))
def GSmS:Ctx:=ctxL [(22,.pure cOf),(63,.pure cPw),(89,.pure (k121 S12.conj))]
theorem GSmS_ok:CtxOk Tryz.prog GSmS:=ctxL_cons okOf <| ctxL_cons okPow12 <| ctxL_cons okConj12 ctxL_nil
theorem okSmS:(CallC.pure (k121 smS)).Ok Tryz.prog 92:=by
 refine k121_ok Tryz.func92 (by kernel_rfl) (by kernel_rfl) fun a0 a1 a2 a3 a4 a5 a6 a7 a8 a9 a10 a11 ha0 ha1 ha2 ha3 ha4 ha5 ha6 ha7 ha8 ha9 ha10 ha11=>?_
 obtain ⟨t1,ht1⟩:∃ q_:S12,q_ = (d12 a0 a1 a2 a3 a4 a5 a6 a7 a8 a9 a10 a11) ^ nU:=⟨_,rfl⟩
 obtain ⟨t2,ht2⟩:∃ q_:S12,q_ = S12.conj t1:=⟨_,rfl⟩
 refine evS_q mixed tt_ok GSmS_ok 100 [⟨1,2,.as [.ws .u64 6 (eF t1.p.u.x),.ws .u64 6 (eF t1.p.u.y),.ws .u64 6 (eF t1.q.u.x),.ws .u64 6 (eF t1.q.u.y),.ws .u64 6 (eF t1.p.v.x),.ws .u64 6 (eF t1.p.v.y),.ws .u64 6 (eF t1.q.v.x),.ws .u64 6 (eF t1.q.v.y),.ws .u64 6 (eF t1.p.w.x),.ws .u64 6 (eF t1.p.w.y),.ws .u64 6 (eF t1.q.w.x),.ws .u64 6 (eF t1.q.w.y)]⟩,⟨1,3,.as [.ws .u64 6 (eF t2.p.u.x),.ws .u64 6 (eF t2.p.u.y),.ws .u64 6 (eF t2.q.u.x),.ws .u64 6 (eF t2.q.u.y),.ws .u64 6 (eF t2.p.v.x),.ws .u64 6 (eF t2.p.v.y),.ws .u64 6 (eF t2.q.v.x),.ws .u64 6 (eF t2.q.v.y),.ws .u64 6 (eF t2.p.w.x),.ws .u64 6 (eF t2.p.w.y),.ws .u64 6 (eF t2.q.w.x),.ws .u64 6 (eF t2.q.w.y)]⟩] ?_
 refine same (p:=asP (cells12 ((d12 a0 a1 a2 a3 a4 a5 a6 a7 a8 a9 a10 a11) ^ nv wU)) [.ws .u64 6 (eF t1.p.u.x),.ws .u64 6 (eF t1.p.u.y),.ws .u64 6 (eF t1.q.u.x),.ws .u64 6 (eF t1.q.u.y),.ws .u64 6 (eF t1.p.v.x),.ws .u64 6 (eF t1.p.v.y),.ws .u64 6 (eF t1.q.v.x),.ws .u64 6 (eF t1.q.v.y),.ws .u64 6 (eF t1.p.w.x),.ws .u64 6 (eF t1.p.w.y),.ws .u64 6 (eF t1.q.w.x),.ws .u64 6 (eF t1.q.w.y)]/\nv a0 < pN/\nv a1 < pN/\nv a2 < pN/\nv a3 < pN/\nv a4 < pN/\nv a5 < pN/\nv a6 < pN/\nv a7 < pN/\nv a8 < pN/\nv a9 < pN/\nv a10 < pN/\nv a11 < pN/\asP (cells12 (S12.conj (d12 (eF t1.p.u.x) (eF t1.p.u.y) (eF t1.q.u.x) (eF t1.q.u.y) (eF t1.p.v.x) (eF t1.p.v.y) (eF t1.q.v.x) (eF t1.q.v.y) (eF t1.p.w.x) (eF t1.p.w.y) (eF t1.q.w.x) (eF t1.q.w.y)))) [.ws .u64 6 (eF t2.p.u.x),.ws .u64 6 (eF t2.p.u.y),.ws .u64 6 (eF t2.q.u.x),.ws .u64 6 (eF t2.q.u.y),.ws .u64 6 (eF t2.p.v.x),.ws .u64 6 (eF t2.p.v.y),.ws .u64 6 (eF t2.q.v.x),.ws .u64 6 (eF t2.q.v.y),.ws .u64 6 (eF t2.p.w.x),.ws .u64 6 (eF t2.p.w.y),.ws .u64 6 (eF t2.q.w.x),.ws .u64 6 (eF t2.q.w.y)]/\nv (eF t1.p.u.x) < pN/\nv (eF t1.p.u.y) < pN/\nv (eF t1.q.u.x) < pN/\nv (eF t1.q.u.y) < pN/\nv (eF t1.p.v.x) < pN/\nv (eF t1.p.v.y) < pN/\nv (eF t1.q.v.x) < pN/\nv (eF t1.q.v.y) < pN/\nv (eF t1.p.w.x) < pN/\nv (eF t1.p.w.y) < pN/\nv (eF t1.q.w.x) < pN/\nv (eF t1.q.w.y) < pN/\endN (.v1 (.agg [.ws .u64 6 (eF t2.p.u.x),.ws .u64 6 (eF t2.p.u.y),.ws .u64 6 (eF t2.q.u.x),.ws .u64 6 (eF t2.q.u.y),.ws .u64 6 (eF t2.p.v.x),.ws .u64 6 (eF t2.p.v.y),.ws .u64 6 (eF t2.q.v.x),.ws .u64 6 (eF t2.q.v.y),.ws .u64 6 (eF t2.p.w.x),.ws .u64 6 (eF t2.p.w.y),.ws .u64 6 (eF t2.q.w.x),.ws .u64 6 (eF t2.q.w.y)])) (.v1 (e12 (smS (d12 a0 a1 a2 a3 a4 a5 a6 a7 a8 a9 a10 a11))))) ?_ (by kernel_rfl)
 exact ⟨as_T1 (fun q=>q ^ nU) rfl ht1,ha0,ha1,ha2,ha3,ha4,ha5,ha6,ha7,ha8,ha9,ha10,ha11,as_T1 S12.conj (d12_eF _) ht2,lt_eF _,lt_eF _,lt_eF _,lt_eF _,lt_eF _,lt_eF _,lt_eF _,lt_eF _,lt_eF _,lt_eF _,lt_eF _,lt_eF _,end_T (by subst ht2 ht1;rfl)⟩
def GLa:Ctx:=ctxL [(22,.pure cOf),(63,.pure cPw),(89,.pure (k121 S12.conj)),(90,.pure (k121 S12.inv)),(60,.pure (k122 S12.mul)),(91,.pure cFr),(92,.pure (k121 smS))]
theorem GLa_ok:CtxOk Tryz.prog GLa:=ctxL_cons okOf <| ctxL_cons okPow12 <| ctxL_cons okConj12 <| ctxL_cons okInv12 <| ctxL_cons okMul12 <| ctxL_cons okFrob <| ctxL_cons okSmS ctxL_nil
theorem okLast:(CallC.pure (k121 lastS)).Ok Tryz.prog 43:=by
 refine k121_ok Tryz.func43 (by kernel_rfl) (by kernel_rfl) fun a0 a1 a2 a3 a4 a5 a6 a7 a8 a9 a10 a11 ha0 ha1 ha2 ha3 ha4 ha5 ha6 ha7 ha8 ha9 ha10 ha11=>?_
 obtain ⟨t1,ht1⟩:∃ q_:S12,q_ = S12.conj (d12 a0 a1 a2 a3 a4 a5 a6 a7 a8 a9 a10 a11):=⟨_,rfl⟩
 obtain ⟨t2,ht2⟩:∃ q_:S12,q_ = S12.inv (d12 a0 a1 a2 a3 a4 a5 a6 a7 a8 a9 a10 a11):=⟨_,rfl⟩
 obtain ⟨t3,ht3⟩:∃ q_:S12,q_ = t1 * t2:=⟨_,rfl⟩
 obtain ⟨t4,ht4⟩:∃ q_:S12,q_ = S12.turns 2 t3:=⟨_,rfl⟩
 obtain ⟨t5,ht5⟩:∃ q_:S12,q_ = t4 * t3:=⟨_,rfl⟩
 obtain ⟨t6,ht6⟩:∃ q_:S12,q_ = t5 ^ nA:=⟨_,rfl⟩
 obtain ⟨t7,ht7⟩:∃ q_:S12,q_ = t6 ^ nB:=⟨_,rfl⟩
 obtain ⟨t8,ht8⟩:∃ q_:S12,q_ = smS t7:=⟨_,rfl⟩
 obtain ⟨t9,ht9⟩:∃ q_:S12,q_ = smS t8:=⟨_,rfl⟩
 obtain ⟨t10,ht10⟩:∃ q_:S12,q_ = S12.conj t7:=⟨_,rfl⟩
 obtain ⟨t11,ht11⟩:∃ q_:S12,q_ = t9 * t10:=⟨_,rfl⟩
 obtain ⟨t12,ht12⟩:∃ q_:S12,q_ = smS t11:=⟨_,rfl⟩
 obtain ⟨t13,ht13⟩:∃ q_:S12,q_ = t12 * t5:=⟨_,rfl⟩
 obtain ⟨t14,ht14⟩:∃ q_:S12,q_ = S12.turns 1 t11:=⟨_,rfl⟩
 obtain ⟨t15,ht15⟩:∃ q_:S12,q_ = t13 * t14:=⟨_,rfl⟩
 obtain ⟨t16,ht16⟩:∃ q_:S12,q_ = S12.turns 2 t8:=⟨_,rfl⟩
 obtain ⟨t17,ht17⟩:∃ q_:S12,q_ = t15 * t16:=⟨_,rfl⟩
 obtain ⟨t18,ht18⟩:∃ q_:S12,q_ = S12.turns 3 t7:=⟨_,rfl⟩
 obtain ⟨t19,ht19⟩:∃ q_:S12,q_ = t17 * t18:=⟨_,rfl⟩
 refine evS_q mixed tt_ok GLa_ok 300 [⟨1,1,.as [.ws .u64 6 (eF t1.p.u.x),.ws .u64 6 (eF t1.p.u.y),.ws .u64 6 (eF t1.q.u.x),.ws .u64 6 (eF t1.q.u.y),.ws .u64 6 (eF t1.p.v.x),.ws .u64 6 (eF t1.p.v.y),.ws .u64 6 (eF t1.q.v.x),.ws .u64 6 (eF t1.q.v.y),.ws .u64 6 (eF t1.p.w.x),.ws .u64 6 (eF t1.p.w.y),.ws .u64 6 (eF t1.q.w.x),.ws .u64 6 (eF t1.q.w.y)]⟩,⟨1,3,.as [.ws .u64 6 (eF t2.p.u.x),.ws .u64 6 (eF t2.p.u.y),.ws .u64 6 (eF t2.q.u.x),.ws .u64 6 (eF t2.q.u.y),.ws .u64 6 (eF t2.p.v.x),.ws .u64 6 (eF t2.p.v.y),.ws .u64 6 (eF t2.q.v.x),.ws .u64 6 (eF t2.q.v.y),.ws .u64 6 (eF t2.p.w.x),.ws .u64 6 (eF t2.p.w.y),.ws .u64 6 (eF t2.q.w.x),.ws .u64 6 (eF t2.q.w.y)]⟩,⟨1,4,.as [.ws .u64 6 (eF t3.p.u.x),.ws .u64 6 (eF t3.p.u.y),.ws .u64 6 (eF t3.q.u.x),.ws .u64 6 (eF t3.q.u.y),.ws .u64 6 (eF t3.p.v.x),.ws .u64 6 (eF t3.p.v.y),.ws .u64 6 (eF t3.q.v.x),.ws .u64 6 (eF t3.q.v.y),.ws .u64 6 (eF t3.p.w.x),.ws .u64 6 (eF t3.p.w.y),.ws .u64 6 (eF t3.q.w.x),.ws .u64 6 (eF t3.q.w.y)]⟩,⟨2,1,.as [.ws .u64 6 (eF t4.p.u.x),.ws .u64 6 (eF t4.p.u.y),.ws .u64 6 (eF t4.q.u.x),.ws .u64 6 (eF t4.q.u.y),.ws .u64 6 (eF t4.p.v.x),.ws .u64 6 (eF t4.p.v.y),.ws .u64 6 (eF t4.q.v.x),.ws .u64 6 (eF t4.q.v.y),.ws .u64 6 (eF t4.p.w.x),.ws .u64 6 (eF t4.p.w.y),.ws .u64 6 (eF t4.q.w.x),.ws .u64 6 (eF t4.q.w.y)]⟩,⟨2,3,.as [.ws .u64 6 (eF t5.p.u.x),.ws .u64 6 (eF t5.p.u.y),.ws .u64 6 (eF t5.q.u.x),.ws .u64 6 (eF t5.q.u.y),.ws .u64 6 (eF t5.p.v.x),.ws .u64 6 (eF t5.p.v.y),.ws .u64 6 (eF t5.q.v.x),.ws .u64 6 (eF t5.q.v.y),.ws .u64 6 (eF t5.p.w.x),.ws .u64 6 (eF t5.p.w.y),.ws .u64 6 (eF t5.q.w.x),.ws .u64 6 (eF t5.q.w.y)]⟩,⟨3,2,.as [.ws .u64 6 (eF t6.p.u.x),.ws .u64 6 (eF t6.p.u.y),.ws .u64 6 (eF t6.q.u.x),.ws .u64 6 (eF t6.q.u.y),.ws .u64 6 (eF t6.p.v.x),.ws .u64 6 (eF t6.p.v.y),.ws .u64 6 (eF t6.q.v.x),.ws .u64 6 (eF t6.q.v.y),.ws .u64 6 (eF t6.p.w.x),.ws .u64 6 (eF t6.p.w.y),.ws .u64 6 (eF t6.q.w.x),.ws .u64 6 (eF t6.q.w.y)]⟩,⟨3,4,.as [.ws .u64 6 (eF t7.p.u.x),.ws .u64 6 (eF t7.p.u.y),.ws .u64 6 (eF t7.q.u.x),.ws .u64 6 (eF t7.q.u.y),.ws .u64 6 (eF t7.p.v.x),.ws .u64 6 (eF t7.p.v.y),.ws .u64 6 (eF t7.q.v.x),.ws .u64 6 (eF t7.q.v.y),.ws .u64 6 (eF t7.p.w.x),.ws .u64 6 (eF t7.p.w.y),.ws .u64 6 (eF t7.q.w.x),.ws .u64 6 (eF t7.q.w.y)]⟩,⟨4,1,.as [.ws .u64 6 (eF t8.p.u.x),.ws .u64 6 (eF t8.p.u.y),.ws .u64 6 (eF t8.q.u.x),.ws .u64 6 (eF t8.q.u.y),.ws .u64 6 (eF t8.p.v.x),.ws .u64 6 (eF t8.p.v.y),.ws .u64 6 (eF t8.q.v.x),.ws .u64 6 (eF t8.q.v.y),.ws .u64 6 (eF t8.p.w.x),.ws .u64 6 (eF t8.p.w.y),.ws .u64 6 (eF t8.q.w.x),.ws .u64 6 (eF t8.q.w.y)]⟩,⟨5,1,.as [.ws .u64 6 (eF t9.p.u.x),.ws .u64 6 (eF t9.p.u.y),.ws .u64 6 (eF t9.q.u.x),.ws .u64 6 (eF t9.q.u.y),.ws .u64 6 (eF t9.p.v.x),.ws .u64 6 (eF t9.p.v.y),.ws .u64 6 (eF t9.q.v.x),.ws .u64 6 (eF t9.q.v.y),.ws .u64 6 (eF t9.p.w.x),.ws .u64 6 (eF t9.p.w.y),.ws .u64 6 (eF t9.q.w.x),.ws .u64 6 (eF t9.q.w.y)]⟩,⟨5,3,.as [.ws .u64 6 (eF t10.p.u.x),.ws .u64 6 (eF t10.p.u.y),.ws .u64 6 (eF t10.q.u.x),.ws .u64 6 (eF t10.q.u.y),.ws .u64 6 (eF t10.p.v.x),.ws .u64 6 (eF t10.p.v.y),.ws .u64 6 (eF t10.q.v.x),.ws .u64 6 (eF t10.q.v.y),.ws .u64 6 (eF t10.p.w.x),.ws .u64 6 (eF t10.p.w.y),.ws .u64 6 (eF t10.q.w.x),.ws .u64 6 (eF t10.q.w.y)]⟩,⟨5,4,.as [.ws .u64 6 (eF t11.p.u.x),.ws .u64 6 (eF t11.p.u.y),.ws .u64 6 (eF t11.q.u.x),.ws .u64 6 (eF t11.q.u.y),.ws .u64 6 (eF t11.p.v.x),.ws .u64 6 (eF t11.p.v.y),.ws .u64 6 (eF t11.q.v.x),.ws .u64 6 (eF t11.q.v.y),.ws .u64 6 (eF t11.p.w.x),.ws .u64 6 (eF t11.p.w.y),.ws .u64 6 (eF t11.q.w.x),.ws .u64 6 (eF t11.q.w.y)]⟩,⟨6,1,.as [.ws .u64 6 (eF t12.p.u.x),.ws .u64 6 (eF t12.p.u.y),.ws .u64 6 (eF t12.q.u.x),.ws .u64 6 (eF t12.q.u.y),.ws .u64 6 (eF t12.p.v.x),.ws .u64 6 (eF t12.p.v.y),.ws .u64 6 (eF t12.q.v.x),.ws .u64 6 (eF t12.q.v.y),.ws .u64 6 (eF t12.p.w.x),.ws .u64 6 (eF t12.p.w.y),.ws .u64 6 (eF t12.q.w.x),.ws .u64 6 (eF t12.q.w.y)]⟩,⟨6,3,.as [.ws .u64 6 (eF t13.p.u.x),.ws .u64 6 (eF t13.p.u.y),.ws .u64 6 (eF t13.q.u.x),.ws .u64 6 (eF t13.q.u.y),.ws .u64 6 (eF t13.p.v.x),.ws .u64 6 (eF t13.p.v.y),.ws .u64 6 (eF t13.q.v.x),.ws .u64 6 (eF t13.q.v.y),.ws .u64 6 (eF t13.p.w.x),.ws .u64 6 (eF t13.p.w.y),.ws .u64 6 (eF t13.q.w.x),.ws .u64 6 (eF t13.q.w.y)]⟩,⟨10,4,.as [.ws .u64 6 (eF t14.p.u.x),.ws .u64 6 (eF t14.p.u.y),.ws .u64 6 (eF t14.q.u.x),.ws .u64 6 (eF t14.q.u.y),.ws .u64 6 (eF t14.p.v.x),.ws .u64 6 (eF t14.p.v.y),.ws .u64 6 (eF t14.q.v.x),.ws .u64 6 (eF t14.q.v.y),.ws .u64 6 (eF t14.p.w.x),.ws .u64 6 (eF t14.p.w.y),.ws .u64 6 (eF t14.q.w.x),.ws .u64 6 (eF t14.q.w.y)]⟩,⟨10,5,.as [.ws .u64 6 (eF t15.p.u.x),.ws .u64 6 (eF t15.p.u.y),.ws .u64 6 (eF t15.q.u.x),.ws .u64 6 (eF t15.q.u.y),.ws .u64 6 (eF t15.p.v.x),.ws .u64 6 (eF t15.p.v.y),.ws .u64 6 (eF t15.q.v.x),.ws .u64 6 (eF t15.q.v.y),.ws .u64 6 (eF t15.p.w.x),.ws .u64 6 (eF t15.p.w.y),.ws .u64 6 (eF t15.q.w.x),.ws .u64 6 (eF t15.q.w.y)]⟩,⟨10,4,.as [.ws .u64 6 (eF t16.p.u.x),.ws .u64 6 (eF t16.p.u.y),.ws .u64 6 (eF t16.q.u.x),.ws .u64 6 (eF t16.q.u.y),.ws .u64 6 (eF t16.p.v.x),.ws .u64 6 (eF t16.p.v.y),.ws .u64 6 (eF t16.q.v.x),.ws .u64 6 (eF t16.q.v.y),.ws .u64 6 (eF t16.p.w.x),.ws .u64 6 (eF t16.p.w.y),.ws .u64 6 (eF t16.q.w.x),.ws .u64 6 (eF t16.q.w.y)]⟩,⟨10,5,.as [.ws .u64 6 (eF t17.p.u.x),.ws .u64 6 (eF t17.p.u.y),.ws .u64 6 (eF t17.q.u.x),.ws .u64 6 (eF t17.q.u.y),.ws .u64 6 (eF t17.p.v.x),.ws .u64 6 (eF t17.p.v.y),.ws .u64 6 (eF t17.q.v.x),.ws .u64 6 (eF t17.q.v.y),.ws .u64 6 (eF t17.p.w.x),.ws .u64 6 (eF t17.p.w.y),.ws .u64 6 (eF t17.q.w.x),.ws .u64 6 (eF t17.q.w.y)]⟩,⟨10,4,.as [.ws .u64 6 (eF t18.p.u.x),.ws .u64 6 (eF t18.p.u.y),.ws .u64 6 (eF t18.q.u.x),.ws .u64 6 (eF t18.q.u.y),.ws .u64 6 (eF t18.p.v.x),.ws .u64 6 (eF t18.p.v.y),.ws .u64 6 (eF t18.q.v.x),.ws .u64 6 (eF t18.q.v.y),.ws .u64 6 (eF t18.p.w.x),.ws .u64 6 (eF t18.p.w.y),.ws .u64 6 (eF t18.q.w.x),.ws .u64 6 (eF t18.q.w.y)]⟩,⟨10,5,.as [.ws .u64 6 (eF t19.p.u.x),.ws .u64 6 (eF t19.p.u.y),.ws .u64 6 (eF t19.q.u.x),.ws .u64 6 (eF t19.q.u.y),.ws .u64 6 (eF t19.p.v.x),.ws .u64 6 (eF t19.p.v.y),.ws .u64 6 (eF t19.q.v.x),.ws .u64 6 (eF t19.q.v.y),.ws .u64 6 (eF t19.p.w.x),.ws .u64 6 (eF t19.p.w.y),.ws .u64 6 (eF t19.q.w.x),.ws .u64 6 (eF t19.q.w.y)]⟩] ?_
 refine same (p:=asP (cells12 (S12.conj (d12 a0 a1 a2 a3 a4 a5 a6 a7 a8 a9 a10 a11))) [.ws .u64 6 (eF t1.p.u.x),.ws .u64 6 (eF t1.p.u.y),.ws .u64 6 (eF t1.q.u.x),.ws .u64 6 (eF t1.q.u.y),.ws .u64 6 (eF t1.p.v.x),.ws .u64 6 (eF t1.p.v.y),.ws .u64 6 (eF t1.q.v.x),.ws .u64 6 (eF t1.q.v.y),.ws .u64 6 (eF t1.p.w.x),.ws .u64 6 (eF t1.p.w.y),.ws .u64 6 (eF t1.q.w.x),.ws .u64 6 (eF t1.q.w.y)]/\nv a0 < pN/\nv a1 < pN/\nv a2 < pN/\nv a3 < pN/\nv a4 < pN/\nv a5 < pN/\nv a6 < pN/\nv a7 < pN/\nv a8 < pN/\nv a9 < pN/\nv a10 < pN/\nv a11 < pN/\asP (cells12 (S12.inv (d12 a0 a1 a2 a3 a4 a5 a6 a7 a8 a9 a10 a11))) [.ws .u64 6 (eF t2.p.u.x),.ws .u64 6 (eF t2.p.u.y),.ws .u64 6 (eF t2.q.u.x),.ws .u64 6 (eF t2.q.u.y),.ws .u64 6 (eF t2.p.v.x),.ws .u64 6 (eF t2.p.v.y),.ws .u64 6 (eF t2.q.v.x),.ws .u64 6 (eF t2.q.v.y),.ws .u64 6 (eF t2.p.w.x),.ws .u64 6 (eF t2.p.w.y),.ws .u64 6 (eF t2.q.w.x),.ws .u64 6 (eF t2.q.w.y)]/\nv a0 < pN/\nv a1 < pN/\nv a2 < pN/\nv a3 < pN/\nv a4 < pN/\nv a5 < pN/\nv a6 < pN/\nv a7 < pN/\nv a8 < pN/\nv a9 < pN/\nv a10 < pN/\nv a11 < pN/\asP (cells12 (S12.mul (d12 (eF t1.p.u.x) (eF t1.p.u.y) (eF t1.q.u.x) (eF t1.q.u.y) (eF t1.p.v.x) (eF t1.p.v.y) (eF t1.q.v.x) (eF t1.q.v.y) (eF t1.p.w.x) (eF t1.p.w.y) (eF t1.q.w.x) (eF t1.q.w.y)) (d12 (eF t2.p.u.x) (eF t2.p.u.y) (eF t2.q.u.x) (eF t2.q.u.y) (eF t2.p.v.x) (eF t2.p.v.y) (eF t2.q.v.x) (eF t2.q.v.y) (eF t2.p.w.x) (eF t2.p.w.y) (eF t2.q.w.x) (eF t2.q.w.y)))) [.ws .u64 6 (eF t3.p.u.x),.ws .u64 6 (eF t3.p.u.y),.ws .u64 6 (eF t3.q.u.x),.ws .u64 6 (eF t3.q.u.y),.ws .u64 6 (eF t3.p.v.x),.ws .u64 6 (eF t3.p.v.y),.ws .u64 6 (eF t3.q.v.x),.ws .u64 6 (eF t3.q.v.y),.ws .u64 6 (eF t3.p.w.x),.ws .u64 6 (eF t3.p.w.y),.ws .u64 6 (eF t3.q.w.x),.ws .u64 6 (eF t3.q.w.y)]/\nv (eF t1.p.u.x) < pN/\nv (eF t1.p.u.y) < pN/\nv (eF t1.q.u.x) < pN/\nv (eF t1.q.u.y) < pN/\nv (eF t1.p.v.x) < pN/\nv (eF t1.p.v.y) < pN/\nv (eF t1.q.v.x) < pN/\nv (eF t1.q.v.y) < pN/\nv (eF t1.p.w.x) < pN/\nv (eF t1.p.w.y) < pN/\nv (eF t1.q.w.x) < pN/\nv (eF t1.q.w.y) < pN/\nv (eF t2.p.u.x) < pN/\nv (eF t2.p.u.y) < pN/\nv (eF t2.q.u.x) < pN/\nv (eF t2.q.u.y) < pN/\nv (eF t2.p.v.x) < pN/\nv (eF t2.p.v.y) < pN/\nv (eF t2.q.v.x) < pN/\nv (eF t2.q.v.y) < pN/\nv (eF t2.p.w.x) < pN/\nv (eF t2.p.w.y) < pN/\nv (eF t2.q.w.x) < pN/\nv (eF t2.q.w.y) < pN/\asP (cells12 (S12.turns 2 (d12 (eF t3.p.u.x) (eF t3.p.u.y) (eF t3.q.u.x) (eF t3.q.u.y) (eF t3.p.v.x) (eF t3.p.v.y) (eF t3.q.v.x) (eF t3.q.v.y) (eF t3.p.w.x) (eF t3.p.w.y) (eF t3.q.w.x) (eF t3.q.w.y)))) [.ws .u64 6 (eF t4.p.u.x),.ws .u64 6 (eF t4.p.u.y),.ws .u64 6 (eF t4.q.u.x),.ws .u64 6 (eF t4.q.u.y),.ws .u64 6 (eF t4.p.v.x),.ws .u64 6 (eF t4.p.v.y),.ws .u64 6 (eF t4.q.v.x),.ws .u64 6 (eF t4.q.v.y),.ws .u64 6 (eF t4.p.w.x),.ws .u64 6 (eF t4.p.w.y),.ws .u64 6 (eF t4.q.w.x),.ws .u64 6 (eF t4.q.w.y)]/\2 <= 12/\nv (eF t3.p.u.x) < pN/\nv (eF t3.p.u.y) < pN/\nv (eF t3.q.u.x) < pN/\nv (eF t3.q.u.y) < pN/\nv (eF t3.p.v.x) < pN/\nv (eF t3.p.v.y) < pN/\nv (eF t3.q.v.x) < pN/\nv (eF t3.q.v.y) < pN/\nv (eF t3.p.w.x) < pN/\nv (eF t3.p.w.y) < pN/\nv (eF t3.q.w.x) < pN/\nv (eF t3.q.w.y) < pN/\asP (cells12 (S12.mul (d12 (eF t4.p.u.x) (eF t4.p.u.y) (eF t4.q.u.x) (eF t4.q.u.y) (eF t4.p.v.x) (eF t4.p.v.y) (eF t4.q.v.x) (eF t4.q.v.y) (eF t4.p.w.x) (eF t4.p.w.y) (eF t4.q.w.x) (eF t4.q.w.y)) (d12 (eF t3.p.u.x) (eF t3.p.u.y) (eF t3.q.u.x) (eF t3.q.u.y) (eF t3.p.v.x) (eF t3.p.v.y) (eF t3.q.v.x) (eF t3.q.v.y) (eF t3.p.w.x) (eF t3.p.w.y) (eF t3.q.w.x) (eF t3.q.w.y)))) [.ws .u64 6 (eF t5.p.u.x),.ws .u64 6 (eF t5.p.u.y),.ws .u64 6 (eF t5.q.u.x),.ws .u64 6 (eF t5.q.u.y),.ws .u64 6 (eF t5.p.v.x),.ws .u64 6 (eF t5.p.v.y),.ws .u64 6 (eF t5.q.v.x),.ws .u64 6 (eF t5.q.v.y),.ws .u64 6 (eF t5.p.w.x),.ws .u64 6 (eF t5.p.w.y),.ws .u64 6 (eF t5.q.w.x),.ws .u64 6 (eF t5.q.w.y)]/\nv (eF t4.p.u.x) < pN/\nv (eF t4.p.u.y) < pN/\nv (eF t4.q.u.x) < pN/\nv (eF t4.q.u.y) < pN/\nv (eF t4.p.v.x) < pN/\nv (eF t4.p.v.y) < pN/\nv (eF t4.q.v.x) < pN/\nv (eF t4.q.v.y) < pN/\nv (eF t4.p.w.x) < pN/\nv (eF t4.p.w.y) < pN/\nv (eF t4.q.w.x) < pN/\nv (eF t4.q.w.y) < pN/\nv (eF t3.p.u.x) < pN/\nv (eF t3.p.u.y) < pN/\nv (eF t3.q.u.x) < pN/\nv (eF t3.q.u.y) < pN/\nv (eF t3.p.v.x) < pN/\nv (eF t3.p.v.y) < pN/\nv (eF t3.q.v.x) < pN/\nv (eF t3.q.v.y) < pN/\nv (eF t3.p.w.x) < pN/\nv (eF t3.p.w.y) < pN/\nv (eF t3.q.w.x) < pN/\nv (eF t3.q.w.y) < pN/\asP (cells12 ((d12 (eF t5.p.u.x) (eF t5.p.u.y) (eF t5.q.u.x) (eF t5.q.u.y) (eF t5.p.v.x) (eF t5.p.v.y) (eF t5.q.v.x) (eF t5.q.v.y) (eF t5.p.w.x) (eF t5.p.w.y) (eF t5.q.w.x) (eF t5.q.w.y)) ^ nv wA)) [.ws .u64 6 (eF t6.p.u.x),.ws .u64 6 (eF t6.p.u.y),.ws .u64 6 (eF t6.q.u.x),.ws .u64 6 (eF t6.q.u.y),.ws .u64 6 (eF t6.p.v.x),.ws .u64 6 (eF t6.p.v.y),.ws .u64 6 (eF t6.q.v.x),.ws .u64 6 (eF t6.q.v.y),.ws .u64 6 (eF t6.p.w.x),.ws .u64 6 (eF t6.p.w.y),.ws .u64 6 (eF t6.q.w.x),.ws .u64 6 (eF t6.q.w.y)]/\nv (eF t5.p.u.x) < pN/\nv (eF t5.p.u.y) < pN/\nv (eF t5.q.u.x) < pN/\nv (eF t5.q.u.y) < pN/\nv (eF t5.p.v.x) < pN/\nv (eF t5.p.v.y) < pN/\nv (eF t5.q.v.x) < pN/\nv (eF t5.q.v.y) < pN/\nv (eF t5.p.w.x) < pN/\nv (eF t5.p.w.y) < pN/\nv (eF t5.q.w.x) < pN/\nv (eF t5.q.w.y) < pN/\asP (cells12 ((d12 (eF t6.p.u.x) (eF t6.p.u.y) (eF t6.q.u.x) (eF t6.q.u.y) (eF t6.p.v.x) (eF t6.p.v.y) (eF t6.q.v.x) (eF t6.q.v.y) (eF t6.p.w.x) (eF t6.p.w.y) (eF t6.q.w.x) (eF t6.q.w.y)) ^ nv wB)) [.ws .u64 6 (eF t7.p.u.x),.ws .u64 6 (eF t7.p.u.y),.ws .u64 6 (eF t7.q.u.x),.ws .u64 6 (eF t7.q.u.y),.ws .u64 6 (eF t7.p.v.x),.ws .u64 6 (eF t7.p.v.y),.ws .u64 6 (eF t7.q.v.x),.ws .u64 6 (eF t7.q.v.y),.ws .u64 6 (eF t7.p.w.x),.ws .u64 6 (eF t7.p.w.y),.ws .u64 6 (eF t7.q.w.x),.ws .u64 6 (eF t7.q.w.y)]/\nv (eF t6.p.u.x) < pN/\nv (eF t6.p.u.y) < pN/\nv (eF t6.q.u.x) < pN/\nv (eF t6.q.u.y) < pN/\nv (eF t6.p.v.x) < pN/\nv (eF t6.p.v.y) < pN/\nv (eF t6.q.v.x) < pN/\nv (eF t6.q.v.y) < pN/\nv (eF t6.p.w.x) < pN/\nv (eF t6.p.w.y) < pN/\nv (eF t6.q.w.x) < pN/\nv (eF t6.q.w.y) < pN/\asP (cells12 (smS (d12 (eF t7.p.u.x) (eF t7.p.u.y) (eF t7.q.u.x) (eF t7.q.u.y) (eF t7.p.v.x) (eF t7.p.v.y) (eF t7.q.v.x) (eF t7.q.v.y) (eF t7.p.w.x) (eF t7.p.w.y) (eF t7.q.w.x) (eF t7.q.w.y)))) [.ws .u64 6 (eF t8.p.u.x),.ws .u64 6 (eF t8.p.u.y),.ws .u64 6 (eF t8.q.u.x),.ws .u64 6 (eF t8.q.u.y),.ws .u64 6 (eF t8.p.v.x),.ws .u64 6 (eF t8.p.v.y),.ws .u64 6 (eF t8.q.v.x),.ws .u64 6 (eF t8.q.v.y),.ws .u64 6 (eF t8.p.w.x),.ws .u64 6 (eF t8.p.w.y),.ws .u64 6 (eF t8.q.w.x),.ws .u64 6 (eF t8.q.w.y)]/\nv (eF t7.p.u.x) < pN/\nv (eF t7.p.u.y) < pN/\nv (eF t7.q.u.x) < pN/\nv (eF t7.q.u.y) < pN/\nv (eF t7.p.v.x) < pN/\nv (eF t7.p.v.y) < pN/\nv (eF t7.q.v.x) < pN/\nv (eF t7.q.v.y) < pN/\nv (eF t7.p.w.x) < pN/\nv (eF t7.p.w.y) < pN/\nv (eF t7.q.w.x) < pN/\nv (eF t7.q.w.y) < pN/\asP (cells12 (smS (d12 (eF t8.p.u.x) (eF t8.p.u.y) (eF t8.q.u.x) (eF t8.q.u.y) (eF t8.p.v.x) (eF t8.p.v.y) (eF t8.q.v.x) (eF t8.q.v.y) (eF t8.p.w.x) (eF t8.p.w.y) (eF t8.q.w.x) (eF t8.q.w.y)))) [.ws .u64 6 (eF t9.p.u.x),.ws .u64 6 (eF t9.p.u.y),.ws .u64 6 (eF t9.q.u.x),.ws .u64 6 (eF t9.q.u.y),.ws .u64 6 (eF t9.p.v.x),.ws .u64 6 (eF t9.p.v.y),.ws .u64 6 (eF t9.q.v.x),.ws .u64 6 (eF t9.q.v.y),.ws .u64 6 (eF t9.p.w.x),.ws .u64 6 (eF t9.p.w.y),.ws .u64 6 (eF t9.q.w.x),.ws .u64 6 (eF t9.q.w.y)]/\nv (eF t8.p.u.x) < pN/\nv (eF t8.p.u.y) < pN/\nv (eF t8.q.u.x) < pN/\nv (eF t8.q.u.y) < pN/\nv (eF t8.p.v.x) < pN/\nv (eF t8.p.v.y) < pN/\nv (eF t8.q.v.x) < pN/\nv (eF t8.q.v.y) < pN/\nv (eF t8.p.w.x) < pN/\nv (eF t8.p.w.y) < pN/\nv (eF t8.q.w.x) < pN/\nv (eF t8.q.w.y) < pN/\asP (cells12 (S12.conj (d12 (eF t7.p.u.x) (eF t7.p.u.y) (eF t7.q.u.x) (eF t7.q.u.y) (eF t7.p.v.x) (eF t7.p.v.y) (eF t7.q.v.x) (eF t7.q.v.y) (eF t7.p.w.x) (eF t7.p.w.y) (eF t7.q.w.x) (eF t7.q.w.y)))) [.ws .u64 6 (eF t10.p.u.x),.ws .u64 6 (eF t10.p.u.y),.ws .u64 6 (eF t10.q.u.x),.ws .u64 6 (eF t10.q.u.y),.ws .u64 6 (eF t10.p.v.x),.ws .u64 6 (eF t10.p.v.y),.ws .u64 6 (eF t10.q.v.x),.ws .u64 6 (eF t10.q.v.y),.ws .u64 6 (eF t10.p.w.x),.ws .u64 6 (eF t10.p.w.y),.ws .u64 6 (eF t10.q.w.x),.ws .u64 6 (eF t10.q.w.y)]/\nv (eF t7.p.u.x) < pN/\nv (eF t7.p.u.y) < pN/\nv (eF t7.q.u.x) < pN/\nv (eF t7.q.u.y) < pN/\nv (eF t7.p.v.x) < pN/\nv (eF t7.p.v.y) < pN/\nv (eF t7.q.v.x) < pN/\nv (eF t7.q.v.y) < pN/\nv (eF t7.p.w.x) < pN/\nv (eF t7.p.w.y) < pN/\nv (eF t7.q.w.x) < pN/\nv (eF t7.q.w.y) < pN/\asP (cells12 (S12.mul (d12 (eF t9.p.u.x) (eF t9.p.u.y) (eF t9.q.u.x) (eF t9.q.u.y) (eF t9.p.v.x) (eF t9.p.v.y) (eF t9.q.v.x) (eF t9.q.v.y) (eF t9.p.w.x) (eF t9.p.w.y) (eF t9.q.w.x) (eF t9.q.w.y)) (d12 (eF t10.p.u.x) (eF t10.p.u.y) (eF t10.q.u.x) (eF t10.q.u.y) (eF t10.p.v.x) (eF t10.p.v.y) (eF t10.q.v.x) (eF t10.q.v.y) (eF t10.p.w.x) (eF t10.p.w.y) (eF t10.q.w.x) (eF t10.q.w.y)))) [.ws .u64 6 (eF t11.p.u.x),.ws .u64 6 (eF t11.p.u.y),.ws .u64 6 (eF t11.q.u.x),.ws .u64 6 (eF t11.q.u.y),.ws .u64 6 (eF t11.p.v.x),.ws .u64 6 (eF t11.p.v.y),.ws .u64 6 (eF t11.q.v.x),.ws .u64 6 (eF t11.q.v.y),.ws .u64 6 (eF t11.p.w.x),.ws .u64 6 (eF t11.p.w.y),.ws .u64 6 (eF t11.q.w.x),.ws .u64 6 (eF t11.q.w.y)]/\nv (eF t9.p.u.x) < pN/\nv (eF t9.p.u.y) < pN/\nv (eF t9.q.u.x) < pN/\nv (eF t9.q.u.y) < pN/\nv (eF t9.p.v.x) < pN/\nv (eF t9.p.v.y) < pN/\nv (eF t9.q.v.x) < pN/\nv (eF t9.q.v.y) < pN/\nv (eF t9.p.w.x) < pN/\nv (eF t9.p.w.y) < pN/\nv (eF t9.q.w.x) < pN/\nv (eF t9.q.w.y) < pN/\nv (eF t10.p.u.x) < pN/\nv (eF t10.p.u.y) < pN/\nv (eF t10.q.u.x) < pN/\nv (eF t10.q.u.y) < pN/\nv (eF t10.p.v.x) < pN/\nv (eF t10.p.v.y) < pN/\nv (eF t10.q.v.x) < pN/\nv (eF t10.q.v.y) < pN/\nv (eF t10.p.w.x) < pN/\nv (eF t10.p.w.y) < pN/\nv (eF t10.q.w.x) < pN/\nv (eF t10.q.w.y) < pN/\asP (cells12 (smS (d12 (eF t11.p.u.x) (eF t11.p.u.y) (eF t11.q.u.x) (eF t11.q.u.y) (eF t11.p.v.x) (eF t11.p.v.y) (eF t11.q.v.x) (eF t11.q.v.y) (eF t11.p.w.x) (eF t11.p.w.y) (eF t11.q.w.x) (eF t11.q.w.y)))) [.ws .u64 6 (eF t12.p.u.x),.ws .u64 6 (eF t12.p.u.y),.ws .u64 6 (eF t12.q.u.x),.ws .u64 6 (eF t12.q.u.y),.ws .u64 6 (eF t12.p.v.x),.ws .u64 6 (eF t12.p.v.y),.ws .u64 6 (eF t12.q.v.x),.ws .u64 6 (eF t12.q.v.y),.ws .u64 6 (eF t12.p.w.x),.ws .u64 6 (eF t12.p.w.y),.ws .u64 6 (eF t12.q.w.x),.ws .u64 6 (eF t12.q.w.y)]/\nv (eF t11.p.u.x) < pN/\nv (eF t11.p.u.y) < pN/\nv (eF t11.q.u.x) < pN/\nv (eF t11.q.u.y) < pN/\nv (eF t11.p.v.x) < pN/\nv (eF t11.p.v.y) < pN/\nv (eF t11.q.v.x) < pN/\nv (eF t11.q.v.y) < pN/\nv (eF t11.p.w.x) < pN/\nv (eF t11.p.w.y) < pN/\nv (eF t11.q.w.x) < pN/\nv (eF t11.q.w.y) < pN/\asP (cells12 (S12.mul (d12 (eF t12.p.u.x) (eF t12.p.u.y) (eF t12.q.u.x) (eF t12.q.u.y) (eF t12.p.v.x) (eF t12.p.v.y) (eF t12.q.v.x) (eF t12.q.v.y) (eF t12.p.w.x) (eF t12.p.w.y) (eF t12.q.w.x) (eF t12.q.w.y)) (d12 (eF t5.p.u.x) (eF t5.p.u.y) (eF t5.q.u.x) (eF t5.q.u.y) (eF t5.p.v.x) (eF t5.p.v.y) (eF t5.q.v.x) (eF t5.q.v.y) (eF t5.p.w.x) (eF t5.p.w.y) (eF t5.q.w.x) (eF t5.q.w.y)))) [.ws .u64 6 (eF t13.p.u.x),.ws .u64 6 (eF t13.p.u.y),.ws .u64 6 (eF t13.q.u.x),.ws .u64 6 (eF t13.q.u.y),.ws .u64 6 (eF t13.p.v.x),.ws .u64 6 (eF t13.p.v.y),.ws .u64 6 (eF t13.q.v.x),.ws .u64 6 (eF t13.q.v.y),.ws .u64 6 (eF t13.p.w.x),.ws .u64 6 (eF t13.p.w.y),.ws .u64 6 (eF t13.q.w.x),.ws .u64 6 (eF t13.q.w.y)]/\nv (eF t12.p.u.x) < pN/\nv (eF t12.p.u.y) < pN/\nv (eF t12.q.u.x) < pN/\nv (eF t12.q.u.y) < pN/\nv (eF t12.p.v.x) < pN/\nv (eF t12.p.v.y) < pN/\nv (eF t12.q.v.x) < pN/\nv (eF t12.q.v.y) < pN/\nv (eF t12.p.w.x) < pN/\nv (eF t12.p.w.y) < pN/\nv (eF t12.q.w.x) < pN/\nv (eF t12.q.w.y) < pN/\nv (eF t5.p.u.x) < pN/\nv (eF t5.p.u.y) < pN/\nv (eF t5.q.u.x) < pN/\nv (eF t5.q.u.y) < pN/\nv (eF t5.p.v.x) < pN/\nv (eF t5.p.v.y) < pN/\nv (eF t5.q.v.x) < pN/\nv (eF t5.q.v.y) < pN/\nv (eF t5.p.w.x) < pN/\nv (eF t5.p.w.y) < pN/\nv (eF t5.q.w.x) < pN/\nv (eF t5.q.w.y) < pN/\asP (cells12 (S12.turns 1 (d12 (eF t11.p.u.x) (eF t11.p.u.y) (eF t11.q.u.x) (eF t11.q.u.y) (eF t11.p.v.x) (eF t11.p.v.y) (eF t11.q.v.x) (eF t11.q.v.y) (eF t11.p.w.x) (eF t11.p.w.y) (eF t11.q.w.x) (eF t11.q.w.y)))) [.ws .u64 6 (eF t14.p.u.x),.ws .u64 6 (eF t14.p.u.y),.ws .u64 6 (eF t14.q.u.x),.ws .u64 6 (eF t14.q.u.y),.ws .u64 6 (eF t14.p.v.x),.ws .u64 6 (eF t14.p.v.y),.ws .u64 6 (eF t14.q.v.x),.ws .u64 6 (eF t14.q.v.y),.ws .u64 6 (eF t14.p.w.x),.ws .u64 6 (eF t14.p.w.y),.ws .u64 6 (eF t14.q.w.x),.ws .u64 6 (eF t14.q.w.y)]/\1 <= 12/\nv (eF t11.p.u.x) < pN/\nv (eF t11.p.u.y) < pN/\nv (eF t11.q.u.x) < pN/\nv (eF t11.q.u.y) < pN/\nv (eF t11.p.v.x) < pN/\nv (eF t11.p.v.y) < pN/\nv (eF t11.q.v.x) < pN/\nv (eF t11.q.v.y) < pN/\nv (eF t11.p.w.x) < pN/\nv (eF t11.p.w.y) < pN/\nv (eF t11.q.w.x) < pN/\nv (eF t11.q.w.y) < pN/\asP (cells12 (S12.mul (d12 (eF t13.p.u.x) (eF t13.p.u.y) (eF t13.q.u.x) (eF t13.q.u.y) (eF t13.p.v.x) (eF t13.p.v.y) (eF t13.q.v.x) (eF t13.q.v.y) (eF t13.p.w.x) (eF t13.p.w.y) (eF t13.q.w.x) (eF t13.q.w.y)) (d12 (eF t14.p.u.x) (eF t14.p.u.y) (eF t14.q.u.x) (eF t14.q.u.y) (eF t14.p.v.x) (eF t14.p.v.y) (eF t14.q.v.x) (eF t14.q.v.y) (eF t14.p.w.x) (eF t14.p.w.y) (eF t14.q.w.x) (eF t14.q.w.y)))) [.ws .u64 6 (eF t15.p.u.x),.ws .u64 6 (eF t15.p.u.y),.ws .u64 6 (eF t15.q.u.x),.ws .u64 6 (eF t15.q.u.y),.ws .u64 6 (eF t15.p.v.x),.ws .u64 6 (eF t15.p.v.y),.ws .u64 6 (eF t15.q.v.x),.ws .u64 6 (eF t15.q.v.y),.ws .u64 6 (eF t15.p.w.x),.ws .u64 6 (eF t15.p.w.y),.ws .u64 6 (eF t15.q.w.x),.ws .u64 6 (eF t15.q.w.y)]/\nv (eF t13.p.u.x) < pN/\nv (eF t13.p.u.y) < pN/\nv (eF t13.q.u.x) < pN/\nv (eF t13.q.u.y) < pN/\nv (eF t13.p.v.x) < pN/\nv (eF t13.p.v.y) < pN/\nv (eF t13.q.v.x) < pN/\nv (eF t13.q.v.y) < pN/\nv (eF t13.p.w.x) < pN/\nv (eF t13.p.w.y) < pN/\nv (eF t13.q.w.x) < pN/\nv (eF t13.q.w.y) < pN/\nv (eF t14.p.u.x) < pN/\nv (eF t14.p.u.y) < pN/\nv (eF t14.q.u.x) < pN/\nv (eF t14.q.u.y) < pN/\nv (eF t14.p.v.x) < pN/\nv (eF t14.p.v.y) < pN/\nv (eF t14.q.v.x) < pN/\nv (eF t14.q.v.y) < pN/\nv (eF t14.p.w.x) < pN/\nv (eF t14.p.w.y) < pN/\nv (eF t14.q.w.x) < pN/\nv (eF t14.q.w.y) < pN/\asP (cells12 (S12.turns 2 (d12 (eF t8.p.u.x) (eF t8.p.u.y) (eF t8.q.u.x) (eF t8.q.u.y) (eF t8.p.v.x) (eF t8.p.v.y) (eF t8.q.v.x) (eF t8.q.v.y) (eF t8.p.w.x) (eF t8.p.w.y) (eF t8.q.w.x) (eF t8.q.w.y)))) [.ws .u64 6 (eF t16.p.u.x),.ws .u64 6 (eF t16.p.u.y),.ws .u64 6 (eF t16.q.u.x),.ws .u64 6 (eF t16.q.u.y),.ws .u64 6 (eF t16.p.v.x),.ws .u64 6 (eF t16.p.v.y),.ws .u64 6 (eF t16.q.v.x),.ws .u64 6 (eF t16.q.v.y),.ws .u64 6 (eF t16.p.w.x),.ws .u64 6 (eF t16.p.w.y),.ws .u64 6 (eF t16.q.w.x),.ws .u64 6 (eF t16.q.w.y)]/\2 <= 12/\nv (eF t8.p.u.x) < pN/\nv (eF t8.p.u.y) < pN/\nv (eF t8.q.u.x) < pN/\nv (eF t8.q.u.y) < pN/\nv (eF t8.p.v.x) < pN/\nv (eF t8.p.v.y) < pN/\nv (eF t8.q.v.x) < pN/\nv (eF t8.q.v.y) < pN/\nv (eF t8.p.w.x) < pN/\nv (eF t8.p.w.y) < pN/\nv (eF t8.q.w.x) < pN/\nv (eF t8.q.w.y) < pN/\asP (cells12 (S12.mul (d12 (eF t15.p.u.x) (eF t15.p.u.y) (eF t15.q.u.x) (eF t15.q.u.y) (eF t15.p.v.x) (eF t15.p.v.y) (eF t15.q.v.x) (eF t15.q.v.y) (eF t15.p.w.x) (eF t15.p.w.y) (eF t15.q.w.x) (eF t15.q.w.y)) (d12 (eF t16.p.u.x) (eF t16.p.u.y) (eF t16.q.u.x) (eF t16.q.u.y) (eF t16.p.v.x) (eF t16.p.v.y) (eF t16.q.v.x) (eF t16.q.v.y) (eF t16.p.w.x) (eF t16.p.w.y) (eF t16.q.w.x) (eF t16.q.w.y)))) [.ws .u64 6 (eF t17.p.u.x),.ws .u64 6 (eF t17.p.u.y),.ws .u64 6 (eF t17.q.u.x),.ws .u64 6 (eF t17.q.u.y),.ws .u64 6 (eF t17.p.v.x),.ws .u64 6 (eF t17.p.v.y),.ws .u64 6 (eF t17.q.v.x),.ws .u64 6 (eF t17.q.v.y),.ws .u64 6 (eF t17.p.w.x),.ws .u64 6 (eF t17.p.w.y),.ws .u64 6 (eF t17.q.w.x),.ws .u64 6 (eF t17.q.w.y)]/\nv (eF t15.p.u.x) < pN/\nv (eF t15.p.u.y) < pN/\nv (eF t15.q.u.x) < pN/\nv (eF t15.q.u.y) < pN/\nv (eF t15.p.v.x) < pN/\nv (eF t15.p.v.y) < pN/\nv (eF t15.q.v.x) < pN/\nv (eF t15.q.v.y) < pN/\nv (eF t15.p.w.x) < pN/\nv (eF t15.p.w.y) < pN/\nv (eF t15.q.w.x) < pN/\nv (eF t15.q.w.y) < pN/\nv (eF t16.p.u.x) < pN/\nv (eF t16.p.u.y) < pN/\nv (eF t16.q.u.x) < pN/\nv (eF t16.q.u.y) < pN/\nv (eF t16.p.v.x) < pN/\nv (eF t16.p.v.y) < pN/\nv (eF t16.q.v.x) < pN/\nv (eF t16.q.v.y) < pN/\nv (eF t16.p.w.x) < pN/\nv (eF t16.p.w.y) < pN/\nv (eF t16.q.w.x) < pN/\nv (eF t16.q.w.y) < pN/\asP (cells12 (S12.turns 3 (d12 (eF t7.p.u.x) (eF t7.p.u.y) (eF t7.q.u.x) (eF t7.q.u.y) (eF t7.p.v.x) (eF t7.p.v.y) (eF t7.q.v.x) (eF t7.q.v.y) (eF t7.p.w.x) (eF t7.p.w.y) (eF t7.q.w.x) (eF t7.q.w.y)))) [.ws .u64 6 (eF t18.p.u.x),.ws .u64 6 (eF t18.p.u.y),.ws .u64 6 (eF t18.q.u.x),.ws .u64 6 (eF t18.q.u.y),.ws .u64 6 (eF t18.p.v.x),.ws .u64 6 (eF t18.p.v.y),.ws .u64 6 (eF t18.q.v.x),.ws .u64 6 (eF t18.q.v.y),.ws .u64 6 (eF t18.p.w.x),.ws .u64 6 (eF t18.p.w.y),.ws .u64 6 (eF t18.q.w.x),.ws .u64 6 (eF t18.q.w.y)]/\3 <= 12/\nv (eF t7.p.u.x) < pN/\nv (eF t7.p.u.y) < pN/\nv (eF t7.q.u.x) < pN/\nv (eF t7.q.u.y) < pN/\nv (eF t7.p.v.x) < pN/\nv (eF t7.p.v.y) < pN/\nv (eF t7.q.v.x) < pN/\nv (eF t7.q.v.y) < pN/\nv (eF t7.p.w.x) < pN/\nv (eF t7.p.w.y) < pN/\nv (eF t7.q.w.x) < pN/\nv (eF t7.q.w.y) < pN/\asP (cells12 (S12.mul (d12 (eF t17.p.u.x) (eF t17.p.u.y) (eF t17.q.u.x) (eF t17.q.u.y) (eF t17.p.v.x) (eF t17.p.v.y) (eF t17.q.v.x) (eF t17.q.v.y) (eF t17.p.w.x) (eF t17.p.w.y) (eF t17.q.w.x) (eF t17.q.w.y)) (d12 (eF t18.p.u.x) (eF t18.p.u.y) (eF t18.q.u.x) (eF t18.q.u.y) (eF t18.p.v.x) (eF t18.p.v.y) (eF t18.q.v.x) (eF t18.q.v.y) (eF t18.p.w.x) (eF t18.p.w.y) (eF t18.q.w.x) (eF t18.q.w.y)))) [.ws .u64 6 (eF t19.p.u.x),.ws .u64 6 (eF t19.p.u.y),.ws .u64 6 (eF t19.q.u.x),.ws .u64 6 (eF t19.q.u.y),.ws .u64 6 (eF t19.p.v.x),.ws .u64 6 (eF t19.p.v.y),.ws .u64 6 (eF t19.q.v.x),.ws .u64 6 (eF t19.q.v.y),.ws .u64 6 (eF t19.p.w.x),.ws .u64 6 (eF t19.p.w.y),.ws .u64 6 (eF t19.q.w.x),.ws .u64 6 (eF t19.q.w.y)]/\nv (eF t17.p.u.x) < pN/\nv (eF t17.p.u.y) < pN/\nv (eF t17.q.u.x) < pN/\nv (eF t17.q.u.y) < pN/\nv (eF t17.p.v.x) < pN/\nv (eF t17.p.v.y) < pN/\nv (eF t17.q.v.x) < pN/\nv (eF t17.q.v.y) < pN/\nv (eF t17.p.w.x) < pN/\nv (eF t17.p.w.y) < pN/\nv (eF t17.q.w.x) < pN/\nv (eF t17.q.w.y) < pN/\nv (eF t18.p.u.x) < pN/\nv (eF t18.p.u.y) < pN/\nv (eF t18.q.u.x) < pN/\nv (eF t18.q.u.y) < pN/\nv (eF t18.p.v.x) < pN/\nv (eF t18.p.v.y) < pN/\nv (eF t18.q.v.x) < pN/\nv (eF t18.q.v.y) < pN/\nv (eF t18.p.w.x) < pN/\nv (eF t18.p.w.y) < pN/\nv (eF t18.q.w.x) < pN/\nv (eF t18.q.w.y) < pN/\endN (.v1 (.agg [.ws .u64 6 (eF t19.p.u.x),.ws .u64 6 (eF t19.p.u.y),.ws .u64 6 (eF t19.q.u.x),.ws .u64 6 (eF t19.q.u.y),.ws .u64 6 (eF t19.p.v.x),.ws .u64 6 (eF t19.p.v.y),.ws .u64 6 (eF t19.q.v.x),.ws .u64 6 (eF t19.q.v.y),.ws .u64 6 (eF t19.p.w.x),.ws .u64 6 (eF t19.p.w.y),.ws .u64 6 (eF t19.q.w.x),.ws .u64 6 (eF t19.q.w.y)])) (.v1 (e12 (lastS (d12 a0 a1 a2 a3 a4 a5 a6 a7 a8 a9 a10 a11))))) ?_ (by kernel_rfl)
 exact ⟨as_T1 S12.conj rfl ht1,ha0,ha1,ha2,ha3,ha4,ha5,ha6,ha7,ha8,ha9,ha10,ha11,as_T1 S12.inv rfl ht2,ha0,ha1,ha2,ha3,ha4,ha5,ha6,ha7,ha8,ha9,ha10,ha11,as_T2 (d12_eF _) (d12_eF _) ht3,lt_eF _,lt_eF _,lt_eF _,lt_eF _,lt_eF _,lt_eF _,lt_eF _,lt_eF _,lt_eF _,lt_eF _,lt_eF _,lt_eF _,lt_eF _,lt_eF _,lt_eF _,lt_eF _,lt_eF _,lt_eF _,lt_eF _,lt_eF _,lt_eF _,lt_eF _,lt_eF _,lt_eF _,as_T1 (S12.turns 2) (d12_eF _) ht4,by decide,lt_eF _,lt_eF _,lt_eF _,lt_eF _,lt_eF _,lt_eF _,lt_eF _,lt_eF _,lt_eF _,lt_eF _,lt_eF _,lt_eF _,as_T2 (d12_eF _) (d12_eF _) ht5,lt_eF _,lt_eF _,lt_eF _,lt_eF _,lt_eF _,lt_eF _,lt_eF _,lt_eF _,lt_eF _,lt_eF _,lt_eF _,lt_eF _,lt_eF _,lt_eF _,lt_eF _,lt_eF _,lt_eF _,lt_eF _,lt_eF _,lt_eF _,lt_eF _,lt_eF _,lt_eF _,lt_eF _,as_T1 (fun q=>q ^ nA) (d12_eF _) ht6,lt_eF _,lt_eF _,lt_eF _,lt_eF _,lt_eF _,lt_eF _,lt_eF _,lt_eF _,lt_eF _,lt_eF _,lt_eF _,lt_eF _,as_T1 (fun q=>q ^ nB) (d12_eF _) ht7,lt_eF _,lt_eF _,lt_eF _,lt_eF _,lt_eF _,lt_eF _,lt_eF _,lt_eF _,lt_eF _,lt_eF _,lt_eF _,lt_eF _,as_T1 smS (d12_eF _) ht8,lt_eF _,lt_eF _,lt_eF _,lt_eF _,lt_eF _,lt_eF _,lt_eF _,lt_eF _,lt_eF _,lt_eF _,lt_eF _,lt_eF _,as_T1 smS (d12_eF _) ht9,lt_eF _,lt_eF _,lt_eF _,lt_eF _,lt_eF _,lt_eF _,lt_eF _,lt_eF _,lt_eF _,lt_eF _,lt_eF _,lt_eF _,as_T1 S12.conj (d12_eF _) ht10,lt_eF _,lt_eF _,lt_eF _,lt_eF _,lt_eF _,lt_eF _,lt_eF _,lt_eF _,lt_eF _,lt_eF _,lt_eF _,lt_eF _,as_T2 (d12_eF _) (d12_eF _) ht11,lt_eF _,lt_eF _,lt_eF _,lt_eF _,lt_eF _,lt_eF _,lt_eF _,lt_eF _,lt_eF _,lt_eF _,lt_eF _,lt_eF _,lt_eF _,lt_eF _,lt_eF _,lt_eF _,lt_eF _,lt_eF _,lt_eF _,lt_eF _,lt_eF _,lt_eF _,lt_eF _,lt_eF _,as_T1 smS (d12_eF _) ht12,lt_eF _,lt_eF _,lt_eF _,lt_eF _,lt_eF _,lt_eF _,lt_eF _,lt_eF _,lt_eF _,lt_eF _,lt_eF _,lt_eF _,as_T2 (d12_eF _) (d12_eF _) ht13,lt_eF _,lt_eF _,lt_eF _,lt_eF _,lt_eF _,lt_eF _,lt_eF _,lt_eF _,lt_eF _,lt_eF _,lt_eF _,lt_eF _,lt_eF _,lt_eF _,lt_eF _,lt_eF _,lt_eF _,lt_eF _,lt_eF _,lt_eF _,lt_eF _,lt_eF _,lt_eF _,lt_eF _,as_T1 (S12.turns 1) (d12_eF _) ht14,by decide,lt_eF _,lt_eF _,lt_eF _,lt_eF _,lt_eF _,lt_eF _,lt_eF _,lt_eF _,lt_eF _,lt_eF _,lt_eF _,lt_eF _,as_T2 (d12_eF _) (d12_eF _) ht15,lt_eF _,lt_eF _,lt_eF _,lt_eF _,lt_eF _,lt_eF _,lt_eF _,lt_eF _,lt_eF _,lt_eF _,lt_eF _,lt_eF _,lt_eF _,lt_eF _,lt_eF _,lt_eF _,lt_eF _,lt_eF _,lt_eF _,lt_eF _,lt_eF _,lt_eF _,lt_eF _,lt_eF _,as_T1 (S12.turns 2) (d12_eF _) ht16,by decide,lt_eF _,lt_eF _,lt_eF _,lt_eF _,lt_eF _,lt_eF _,lt_eF _,lt_eF _,lt_eF _,lt_eF _,lt_eF _,lt_eF _,as_T2 (d12_eF _) (d12_eF _) ht17,lt_eF _,lt_eF _,lt_eF _,lt_eF _,lt_eF _,lt_eF _,lt_eF _,lt_eF _,lt_eF _,lt_eF _,lt_eF _,lt_eF _,lt_eF _,lt_eF _,lt_eF _,lt_eF _,lt_eF _,lt_eF _,lt_eF _,lt_eF _,lt_eF _,lt_eF _,lt_eF _,lt_eF _,as_T1 (S12.turns 3) (d12_eF _) ht18,by decide,lt_eF _,lt_eF _,lt_eF _,lt_eF _,lt_eF _,lt_eF _,lt_eF _,lt_eF _,lt_eF _,lt_eF _,lt_eF _,lt_eF _,as_T2 (d12_eF _) (d12_eF _) ht19,lt_eF _,lt_eF _,lt_eF _,lt_eF _,lt_eF _,lt_eF _,lt_eF _,lt_eF _,lt_eF _,lt_eF _,lt_eF _,lt_eF _,lt_eF _,lt_eF _,lt_eF _,lt_eF _,lt_eF _,lt_eF _,lt_eF _,lt_eF _,lt_eF _,lt_eF _,lt_eF _,lt_eF _,end_T (by subst ht19 ht18 ht17 ht16 ht15 ht14 ht13 ht12 ht11 ht10 ht9 ht8 ht7 ht6 ht5 ht4 ht3 ht2 ht1;rfl)⟩
end Go.Proofs.YtnjocbcjejpklaaGreat
namespace Go.Rq
open Go
set_option linter.unusedVariables false
section
variable {α:Type} [CR α]
theorem cr_9 (x y:α):x * y = x * y - 0 * 0:=by grind
theorem cr_10 (x y:α):(0:α) = x * 0 + 0 * y:=by grind
theorem cr_11 (x y:α):x = x + (y * 0 - 0 * 1):=by grind
theorem cr_12 (y:α):y = 0 + (y * 1 + 0 * 0):=by grind
theorem cr_13 (y:α):y * (0 - 1) = 0 - y:=by grind
theorem cr_14 (a b c d:α):a * c - b * d = a * c - (0 - b) * (0 - d):=by grind
theorem cr_15 (a b c d:α):0 - (a * d + b * c) = a * (0 - d) + (0 - b) * c:=by grind
theorem cr_16 (a:α):0 - (0 - a) = a:=by grind
theorem cr_18 {a b:α} (h:a + b = 0):a = 0 - b:=by grind
theorem cr_19 (a b:α):a + (0 - b) = a - b:=by grind
theorem cr_z (a:α):a * 0 = 0:=by grind
theorem cr_s1 (a u v w x y z k l:α):a * u + (0 * w + 0 * v) * k + ((0 * x + (0 * z + 0 * y) * k) * 0 + ((0 * y + 0 * x + 0 * z * k) * 0 + (0 * z + 0 * x + 0 * y) * 1) * l) = a * u:=by grind
theorem cr_s2 (a u v w x y z k l:α):a * v + 0 * u + 0 * w * k + ((0 * x + (0 * z + 0 * y) * k) * 1 + (0 * y + 0 * x + 0 * z * k) * 0 + (0 * z + 0 * x + 0 * y) * 0 * l) = a * v:=by grind
theorem cr_s3 (a u v w x y z k l:α):a * w + 0 * u + 0 * v + ((0 * x + (0 * z + 0 * y) * k) * 0 + (0 * z + 0 * x + 0 * y) * 0 + (0 * y + 0 * x + 0 * z * k) * 1) = a * w:=by grind
theorem cr_e1 (a b c d e f:α):a = a + b * 0 + c * 0 + d * 0 + e * 0 + f * 0:=by grind
theorem cr_e2 (a b c d e f:α):b = 0 + b * 1 + c * 0 + d * 0 + e * 0 + f * 0:=by grind
theorem cr_e3 (a b c d e f:α):c = 0 + b * 0 + c * 1 + d * 0 + e * 0 + f * 0:=by grind
theorem cr_e4 (a b c d e f:α):d = 0 + b * 0 + c * 0 + d * 1 + e * 0 + f * 0:=by grind
theorem cr_e5 (a b c d e f:α):e = 0 + b * 0 + c * 0 + d * 0 + e * 1 + f * 0:=by grind
theorem cr_e6 (a b c d e f:α):f = 0 + b * 0 + c * 0 + d * 0 + e * 0 + f * 1:=by grind
theorem cr_w (a b c d:α):a * b * (c * d) = a * c * (b * d):=by grind
theorem cr_k3 (a k:α):a * k * k * k = a * (k * k * k):=by grind
theorem cr_k4 (a:α):a * (0 - 1) = 0 - a:=by grind
end
namespace F2p
def c (x:Fp):F2p:=⟨x,0⟩
def i2:F2p:=⟨0,1⟩
theorem nc_eq (n:Nat):Rg.nc (R:=F2p) n = c (Rg.nc n):=rfl
theorem char:Rg.nc (R:=F2p) pN = 0:=by rw [nc_eq,fp_char];rfl
theorem c_mul (x y:Fp):c (x * y) = c x * c y:=F2p.ext (cr_9 x y) (cr_10 x y)
theorem c_pow (x:Fp):∀ n:Nat,c x ^ n = c (x ^ n)
 | 0=>by rw [Rg.pow_zero,Rg.pow_zero];rfl
 | n + 1=>by rw [Rg.pow_succ,Rg.pow_succ,c_pow x n,c_mul]
theorem split (a:F2p):a = c a.x + c a.y * i2:=F2p.ext (cr_11 a.x a.y) (cr_12 a.y)
theorem i2_2:i2 * i2 = c (ofN (pN - 1)):=by
 refine F2p.ext (Fin.ext (by kernel_rfl)) (Fin.ext (by kernel_rfl))
theorem i2_pow:i2 ^ pN = c (ofN (pN - 1)) * i2:=by
 have e:pN = 2 * (2 * ((pN - 3) / 4) + 1) + 1:=by decide
 have h:i2 ^ (2 * (2 * ((pN - 3) / 4) + 1) + 1) = c (ofN (pN - 1)) * i2:=by
  rw [Rg.pow_succ,pow_mul',Rg.pow_two,i2_2,Rg.pow_succ,pow_mul',Rg.pow_two]
  have h1:c (ofN (pN - 1)) * c (ofN (pN - 1)) = 1:=F2p.ext (Fin.ext (by kernel_rfl)) (Fin.ext (by kernel_rfl))
  rw [h1,Rg.one_pow,Rg.one_mul]
 exact (congrArg (fun n:Nat=>i2 ^ n) e).trans h
theorem neg1 (y:Fp):y * ofN (pN - 1) = 0 - y:=by
 have h:ofN (pN - 1) = 0 - 1:=Fin.ext (by kernel_rfl)
 rw [h];exact cr_13 y
theorem frob (a:F2p):a ^ pN = a.cj:=by
 have h:=split a
 have e:a ^ pN = (c a.x + c a.y * i2) ^ pN:=congrArg (fun z:F2p=>z ^ pN) h
 rw [e,frobR pN_pr char,mul_pow',c_pow,c_pow,fp_fermat,fp_fermat,i2_pow,<-Rg.mul_assoc,<-c_mul,neg1]
 exact (split a.cj).symm
theorem cj_mul (a b:F2p):cj (a * b) = cj a * cj b:=F2p.ext (cr_14 _ _ _ _) (cr_15 _ _ _ _)
theorem cj_cj (a:F2p):cj (cj a) = a:=F2p.ext rfl (cr_16 _)
end F2p
def qm (x y:Nat × Nat):Nat × Nat:=((x.1 * y.1 + (pN - x.2 * y.2 % pN)) % pN,(x.1 * y.2 + x.2 * y.1) % pN)
def qS (a:Nat × Nat) (b:Bool) (r:Nat × Nat):Nat × Nat:=bif b then qm (qm r r) a else qm r r
def qw (a:Nat × Nat):Nat->Nat->Nat × Nat
 | 0,_=>(1,0)
 | k + 1,e=>qS a (Nat.beq (e % 2) 1) (qw a k (e / 2))
def toQ (x:Nat × Nat):F2p:=⟨ofN x.1,ofN x.2⟩
theorem ofN_sub {a:Nat} (h:a <= pN):ofN (pN - a) = 0 - ofN a:=by
 have:ofN (pN - a) + ofN a = 0:=by rw [<-ofN_add,Nat.sub_add_cancel h,ofN_p]
 exact cr_18 this
theorem qm_eq (x y:Nat × Nat):toQ (qm x y) = toQ x * toQ y:=by
 refine F2p.ext ?_ ?_
 ·show ofN ((x.1 * y.1 + (pN - x.2 * y.2 % pN)) % pN) = ofN x.1 * ofN y.1 - ofN x.2 * ofN y.2
  rw [ofN_mod,ofN_add,ofN_sub (Nat.le_of_lt (Nat.mod_lt _ pN_pos)),ofN_mod,ofN_mul,ofN_mul]
  exact cr_19 _ _
 ·show ofN ((x.1 * y.2 + x.2 * y.1) % pN) = ofN x.1 * ofN y.2 + ofN x.2 * ofN y.1
  rw [ofN_mod,ofN_add,ofN_mul,ofN_mul]
theorem qw_eq (a:Nat × Nat):∀ k e,e < 2 ^ k->toQ (qw a k e) = toQ a ^ e
 | 0,e,h=>by
  have:e = 0:=by simpa using h
  subst this
  rw [Rg.pow_zero]
  exact F2p.ext ofN_one ofN_zero
 | k + 1,e,h=>by
  have ih:=qw_eq a k (e / 2) (by rw [Nat.pow_succ] at h;omega)
  rw [pow_half]
  show toQ (qS a (Nat.beq (e % 2) 1) (qw a k (e / 2))) = _
  unfold qS
  cases Nat.beq (e % 2) 1
  ·rw [cond_false,cond_false,qm_eq,ih]
  ·rw [cond_true,cond_true,qm_eq,qm_eq,ih]
theorem kx_Q:kx = toQ (1,1):=F2p.ext ofN_one.symm ofN_one.symm
theorem kx_pow:kx ^ ((pN - 1) / 6) = tuK1:=by
 rw [kx_Q,<-qw_eq (1,1) E _ (by rw [<-R_pow];decide)]
 exact F2p.ext (congrArg ofN (by kernel_rfl)) (congrArg ofN (by kernel_rfl))
namespace S12
def c (a:F2p):S12:=⟨⟨a,0,0⟩,⟨0,0,0⟩⟩
def w1:S12:=⟨⟨0,0,0⟩,⟨1,0,0⟩⟩
def w2:S12:=⟨⟨0,1,0⟩,⟨0,0,0⟩⟩
def w3:S12:=⟨⟨0,0,0⟩,⟨0,1,0⟩⟩
def w4:S12:=⟨⟨0,0,1⟩,⟨0,0,0⟩⟩
def w5:S12:=⟨⟨0,0,0⟩,⟨0,0,1⟩⟩
def scal (a:F2p) (z:S12):S12:=⟨⟨a * z.p.u,a * z.p.v,a * z.p.w⟩,⟨a * z.q.u,a * z.q.v,a * z.q.w⟩⟩
theorem nc_eq (n:Nat):Rg.nc (R:=S12) n = c (Rg.nc n):=rfl
theorem char:Rg.nc (R:=S12) pN = 0:=by rw [nc_eq,F2p.char];rfl
theorem c_scal (a:F2p) (z:S12):c a * z = scal a z:=by
 refine S12.ext (S6.ext ?_ ?_ ?_) (S6.ext ?_ ?_ ?_)
 ·rw [mul_p,S6.add_u,S6.mul_u,S6.mul_u,S6.mul_u,S6.mul_v,S6.mul_w]
  show a * z.p.u + (0 * z.p.w + 0 * z.p.v) * kx + _ = a * z.p.u
  exact cr_s1 _ _ _ _ _ _ _ _ _
 ·rw [mul_p,S6.add_v,S6.mul_v,S6.mul_v,S6.mul_u,S6.mul_v,S6.mul_w]
  show a * z.p.v + 0 * z.p.u + 0 * z.p.w * kx + _ = a * z.p.v
  exact cr_s2 _ _ _ _ _ _ _ _ _
 ·rw [mul_p,S6.add_w,S6.mul_w,S6.mul_w,S6.mul_u,S6.mul_v,S6.mul_w]
  show a * z.p.w + 0 * z.p.u + 0 * z.p.v + _ = a * z.p.w
  exact cr_s3 _ _ _ _ _ _ _ kx kx
 ·rw [mul_q,S6.add_u,S6.mul_u,S6.mul_u]
  show a * z.q.u + (0 * z.q.w + 0 * z.q.v) * kx + (0 * z.p.u + (0 * z.p.w + 0 * z.p.v) * kx) = a * z.q.u
  generalize kx = k
  grind
 ·rw [mul_q,S6.add_v,S6.mul_v,S6.mul_v]
  show a * z.q.v + 0 * z.q.u + 0 * z.q.w * kx + (0 * z.p.v + 0 * z.p.u + 0 * z.p.w * kx) = a * z.q.v
  generalize kx = k
  grind
 ·rw [mul_q,S6.add_w,S6.mul_w,S6.mul_w]
  show a * z.q.w + 0 * z.q.u + 0 * z.q.v + (0 * z.p.w + 0 * z.p.u + 0 * z.p.v) = a * z.q.w
  grind
theorem c_mul (a b:F2p):c (a * b) = c a * c b:=by
 rw [c_scal]
 exact S12.ext (S6.ext rfl (cr_z a).symm (cr_z a).symm) (S6.ext (cr_z a).symm (cr_z a).symm (cr_z a).symm)
theorem c_pow (a:F2p):∀ n:Nat,c a ^ n = c (a ^ n)
 | 0=>by rw [Rg.pow_zero,Rg.pow_zero];rfl
 | n + 1=>by rw [Rg.pow_succ,Rg.pow_succ,c_pow a n,c_mul]
theorem split (z:S12):z = c z.p.u + c z.q.u * w1 + c z.p.v * w2 + c z.q.v * w3 + c z.p.w * w4 + c z.q.w * w5:=by
 simp only [c_scal]
 exact S12.ext (S6.ext (cr_e1 _ _ _ _ _ _) (cr_e3 0 _ _ _ _ _) (cr_e5 0 _ _ _ _ _)) (S6.ext (cr_e2 0 _ _ _ _ _) (cr_e4 0 _ _ _ _ _) (cr_e6 0 _ _ _ _ _))
theorem w_2:w1 * w1 = w2:=by kernel_rfl
theorem w_3:w1 * w2 = w3:=by kernel_rfl
theorem w_4:w1 * w3 = w4:=by kernel_rfl
theorem w_5:w1 * w4 = w5:=by kernel_rfl
theorem w_6:w1 * w5 = c kx:=by kernel_rfl
theorem tu_2:tuK1 * tuK1 = tuK2:=by kernel_rfl
theorem tu_3:tuK1 * tuK2 = tuK3:=by kernel_rfl
theorem tu_4:tuK1 * tuK3 = tuK4:=by kernel_rfl
theorem tu_5:tuK1 * tuK4 = tuK5:=by kernel_rfl
theorem tu_0:tuK0 = 1:=by kernel_rfl
theorem w1_pow:w1 ^ pN = c tuK1 * w1:=by
 have e:pN = 6 * ((pN - 1) / 6) + 1:=by decide
 have h6:w1 ^ 6 = c kx:=by
  rw [Rg.pow_succ,Rg.pow_succ,Rg.pow_succ,Rg.pow_succ,Rg.pow_two,w_2,Rg.mul_comm w2,w_3,Rg.mul_comm w3,w_4,Rg.mul_comm w4,w_5,Rg.mul_comm w5,w_6]
 have h:w1 ^ (6 * ((pN - 1) / 6) + 1) = c tuK1 * w1:=by
  rw [Rg.pow_succ,pow_mul',h6,c_pow,kx_pow]
 exact (congrArg (fun n:Nat=>w1 ^ n) e).trans h
theorem wstep {a b d:S12} {s t r:F2p} (ha:a ^ pN = c s * a) (hb:b ^ pN = c t * b) (hd:a * b = d) (hr:s * t = r):d ^ pN = c r * d:=by
 rw [<-hd,mul_pow',ha,hb,<-hr,c_mul]
 exact cr_w _ _ _ _
theorem w2_pow:w2 ^ pN = c tuK2 * w2:=wstep w1_pow w1_pow w_2 tu_2
theorem w3_pow:w3 ^ pN = c tuK3 * w3:=wstep w1_pow w2_pow w_3 tu_3
theorem w4_pow:w4 ^ pN = c tuK4 * w4:=wstep w1_pow w3_pow w_4 tu_4
theorem w5_pow:w5 ^ pN = c tuK5 * w5:=wstep w1_pow w4_pow w_5 tu_5
theorem frob (z:S12):z ^ pN = turn z:=by
 have e:z ^ pN = (c z.p.u + c z.q.u * w1 + c z.p.v * w2 + c z.q.v * w3 + c z.p.w * w4 + c z.q.w * w5) ^ pN:=congrArg (fun z:S12=>z ^ pN) (split z)
 rw [e,frobR pN_pr char,frobR pN_pr char,frobR pN_pr char,frobR pN_pr char,frobR pN_pr char]
 simp only [mul_pow',c_pow,F2p.frob,w1_pow,w2_pow,w3_pow,w4_pow,w5_pow]
 rw [split (turn z)]
 show _ = c (z.p.u.cj * tuK0) + c (z.q.u.cj * tuK1) * w1 + c (z.p.v.cj * tuK2) * w2 + c (z.q.v.cj * tuK3) * w3 + c (z.p.w.cj * tuK4) * w4 + c (z.q.w.cj * tuK5) * w5
 rw [tu_0,Rg.mul_one]
 simp only [c_mul,Rg.mul_assoc]
theorem turn_mul (a b:S12):turn (a * b) = turn a * turn b:=by rw [<-frob,<-frob,<-frob,mul_pow']
theorem turn_add (a b:S12):turn (a + b) = turn a + turn b:=by rw [<-frob,<-frob,<-frob,frobR pN_pr char]
theorem turns_mul (a b:S12):∀ n:Nat,turns n (a * b) = turns n a * turns n b
 | 0=>rfl
 | n + 1=>by show turn (turns n (a * b)) = turn (turns n a) * turn (turns n b);rw [turns_mul a b n,turn_mul]
theorem turns_turns (m:Nat) (z:S12):∀ n:Nat,turns n (turns m z) = turns (n + m) z
 | 0=>by rw [Nat.zero_add];rfl
 | n + 1=>by
  rw [Nat.add_right_comm]
  show turn (turns n (turns m z)) = turn (turns (n + m) z)
  rw [turns_turns m z n]
theorem turns_pow (z:S12):∀ n:Nat,turns n z = z ^ (pN ^ n)
 | 0=>by rw [Nat.pow_zero,Rg.pow_one];rfl
 | n + 1=>by
  show turn (turns n z) = _
  rw [turns_pow z n,<-frob,Nat.pow_succ,pow_mul']
def conj' (z:S12):S12:=⟨z.p,0 - z.q⟩
def sk (k:F2p):F2p:=k.cj * k
def tw2 (z:S12):S12:=⟨⟨z.p.u * sk tuK0,z.p.v * sk tuK2,z.p.w * sk tuK4⟩,⟨z.q.u * sk tuK1,z.q.v * sk tuK3,z.q.w * sk tuK5⟩⟩
theorem two_turn (z:S12):turn (turn z) = tw2 z:=by
 have key:∀ a k:F2p,(a.cj * k).cj * k = a * sk k:=fun a k=>by rw [F2p.cj_mul,F2p.cj_cj,Rg.mul_assoc];rfl
 exact S12.ext (S6.ext (key _ _) (key _ _) (key _ _)) (S6.ext (key _ _) (key _ _) (key _ _))
def m1:F2p:=⟨ofN (pN - 1),0⟩
theorem sk0:sk tuK0 * sk tuK0 * sk tuK0 = 1:=by kernel_rfl
theorem sk1:sk tuK1 * sk tuK1 * sk tuK1 = m1:=by kernel_rfl
theorem sk2:sk tuK2 * sk tuK2 * sk tuK2 = 1:=by kernel_rfl
theorem sk3:sk tuK3 * sk tuK3 * sk tuK3 = m1:=by kernel_rfl
theorem sk4:sk tuK4 * sk tuK4 * sk tuK4 = 1:=by kernel_rfl
theorem sk5:sk tuK5 * sk tuK5 * sk tuK5 = m1:=by kernel_rfl
theorem m1_eq:m1 = 0 - 1:=by kernel_rfl
theorem turns_six (z:S12):turns 6 z = conj' z:=by
 show turn (turn (turn (turn (turn (turn z))))) = _
 rw [two_turn,two_turn,two_turn]
 have p:∀ a k:F2p,k * k * k = 1->a * k * k * k = a:=fun a k h=>by rw [cr_k3,h,Rg.mul_one]
 have q:∀ a k:F2p,k * k * k = m1->a * k * k * k = 0 - a:=fun a k h=>by rw [cr_k3,h,m1_eq];exact cr_k4 a
 exact S12.ext (S6.ext (p _ _ sk0) (p _ _ sk2) (p _ _ sk4)) (S6.ext (q _ _ sk1) (q _ _ sk3) (q _ _ sk5))
theorem conj_conj (z:S12):conj' (conj' z) = z:=S12.ext rfl (cr_16 z.q)
theorem turns_twelve (z:S12):turns 12 z = z:=by
 rw [<-turns_turns 6 z 6,turns_six,turns_six,conj_conj]
end S12
end Go.Rq
namespace Go.Proofs.YtnjocbcjejpklaaGreat
open Go.Rq Go
set_option maxRecDepth 100000
set_option linter.unusedVariables false
set_option linter.unusedSimpArgs false
abbrev g2 (a b:Nat->Nat):F2p:=⟨gN a,gN b⟩
abbrev n2 (s:F2p):V1:=.agg [.ws .u64 6 (vF s.x),.ws .u64 6 (vF s.y)]
def u1 (F:F2p->F2p):List AV->Option (List Prop × AV)
 | [.v1 (.agg [.ws .u64 6 a,.ws .u64 6 b])]=>some ([],.v1 (n2 (F (g2 a b))))
 | _=>none
def u2 (F:F2p->F2p->F2p):List AV->Option (List Prop × AV)
 | [.v1 (.agg [.ws .u64 6 a,.ws .u64 6 b]),.v1 (.agg [.ws .u64 6 c,.ws .u64 6 d])]=>some ([],.v1 (n2 (F (g2 a b) (g2 c d))))
 | _=>none
def F2p.invE (a:F2p):Int:=iE a.x a.y
def qL:List (Nat->Nat)->List (Nat->Nat)->Bool
 | a :: r,b :: s=>eqN W 6 a b && qL r s
 | _,_=>true
abbrev nL (s:S12):List (Nat->Nat):=[vF s.p.u.x,vF s.p.u.y,vF s.q.u.x,vF s.q.u.y,vF s.p.v.x,vF s.p.v.y,vF s.q.v.x,vF s.q.v.y,vF s.p.w.x,vF s.p.w.y,vF s.q.w.x,vF s.q.w.y]
theorem eqN_vF (x y:Fp):eqN W 6 (vF x) (vF y) = true↔x = y:=by
 have:=eqW_beq (vF x) (vF y)
 rw [Bool.and_true] at this
 rw [this,Nat.beq_eq,nv_vF,nv_vF]
 exact ⟨fun h=>Fin.ext h,fun h=>by rw [h]⟩
theorem qn_of {s t:S12} (h:s = t):qL (nL s) (nL t) = true:=by
 subst h
 simp only [qL,(eqN_vF _ _).2 rfl,Bool.and_true]
theorem ePow_eq (x:Fp):∀ n,ePow x n = x ^ n
 | 0=>(Rg.pow_zero x).symm
 | n + 1=>by rw [Rg.pow_succ,<-ePow_eq x n];rfl
abbrev endT:Prop:=∃ v',some (AV.v1 (.sc (.bo true))) = some v'/\∀ ρ,v'.val ρ = (AV.v1 (.sc (.bo true))).val ρ
theorem endT_ok:endT:=⟨_,rfl,fun _=>rfl⟩
theorem gN_z:gN (fun _=>0) = 0:=by unfold gN;rw [zero_nv];rfl
end Go.Proofs.YtnjocbcjejpklaaGreat
namespace Go.Proofs.YtnjocbcjejpklaaGreat
open Go.Rq Go
set_option maxRecDepth 100000
set_option linter.unusedVariables false
set_option linter.unusedSimpArgs false
set_option maxHeartbeats 4000000
def lastz (s:S12):S12:=bif z12 s then 0 else lastS s
def cLast (args:List AV):Option (List Prop × AV) :=
 match args with
 | [.v1 (.agg [.ws .u64 6 a0,.ws .u64 6 a1,.ws .u64 6 a2,.ws .u64 6 a3,.ws .u64 6 a4,.ws .u64 6 a5,.ws .u64 6 a6,.ws .u64 6 a7,.ws .u64 6 a8,.ws .u64 6 a9,.ws .u64 6 a10,.ws .u64 6 a11])]=>some ([],.tup [n12 (lastz (g12 a0 a1 a2 a3 a4 a5 a6 a7 a8 a9 a10 a11)),.sc (.it (invE (g12 a0 a1 a2 a3 a4 a5 a6 a7 a8 a9 a10 a11)))])
 | _=>none
def GLsP:Ctx:=ctxL [(41,.pure cTo12),(42,.pure cFrom12),(43,.pure (k121 lastS))]
theorem GLsP_ok:CtxOk Tryz.prog GLsP:=ctxL_cons okTo12 <| ctxL_cons okFrom12 <| ctxL_cons okLast ctxL_nil
theorem okLastP:(CallC.pure cLast).Ok Tryz.prog 11:=by
 intro args pre v e _
 unfold cLast at e
 split at e
 ·rename_i a0 a1 a2 a3 a4 a5 a6 a7 a8 a9 a10 a11
  cases e
  refine pure_walk' tt_ok Tryz.func11 (by kernel_rfl) (by kernel_rfl) (by rfl) (by rfl) ?_
  have hz:(eqN W 6 (eF (gN a0)) (fun _=>0) && (eqN W 6 (eF (gN a1)) (fun _=>0) && (eqN W 6 (eF (gN a2)) (fun _=>0) && (eqN W 6 (eF (gN a3)) (fun _=>0) && (eqN W 6 (eF (gN a4)) (fun _=>0) && (eqN W 6 (eF (gN a5)) (fun _=>0) && (eqN W 6 (eF (gN a6)) (fun _=>0) && (eqN W 6 (eF (gN a7)) (fun _=>0) && (eqN W 6 (eF (gN a8)) (fun _=>0) && (eqN W 6 (eF (gN a9)) (fun _=>0) && (eqN W 6 (eF (gN a10)) (fun _=>0) && (eqN W 6 (eF (gN a11)) (fun _=>0) && true)))))))))))) = z12 (g12 a0 a1 a2 a3 a4 a5 a6 a7 a8 a9 a10 a11):=by
   simp only [eqz,Bool.and_true];rfl
  cases hb:z12 (g12 a0 a1 a2 a3 a4 a5 a6 a7 a8 a9 a10 a11)
  ·refine evS_q mixed tt_ok GLsP_ok 100 [⟨2,2,.lit (.bo false)⟩] ?_
   refine same (p:=(eqN W 6 (eF (gN a0)) (fun _=>0) && (eqN W 6 (eF (gN a1)) (fun _=>0) && (eqN W 6 (eF (gN a2)) (fun _=>0) && (eqN W 6 (eF (gN a3)) (fun _=>0) && (eqN W 6 (eF (gN a4)) (fun _=>0) && (eqN W 6 (eF (gN a5)) (fun _=>0) && (eqN W 6 (eF (gN a6)) (fun _=>0) && (eqN W 6 (eF (gN a7)) (fun _=>0) && (eqN W 6 (eF (gN a8)) (fun _=>0) && (eqN W 6 (eF (gN a9)) (fun _=>0) && (eqN W 6 (eF (gN a10)) (fun _=>0) && (eqN W 6 (eF (gN a11)) (fun _=>0) && true)))))))))))) = false/\nv (eF (gN a0)) < pN/\nv (eF (gN a1)) < pN/\nv (eF (gN a2)) < pN/\nv (eF (gN a3)) < pN/\nv (eF (gN a4)) < pN/\nv (eF (gN a5)) < pN/\nv (eF (gN a6)) < pN/\nv (eF (gN a7)) < pN/\nv (eF (gN a8)) < pN/\nv (eF (gN a9)) < pN/\nv (eF (gN a10)) < pN/\nv (eF (gN a11)) < pN/\nv (eF (lastS (d12 (eF (gN a0)) (eF (gN a1)) (eF (gN a2)) (eF (gN a3)) (eF (gN a4)) (eF (gN a5)) (eF (gN a6)) (eF (gN a7)) (eF (gN a8)) (eF (gN a9)) (eF (gN a10)) (eF (gN a11)))).p.u.x) < pN/\nv (eF (lastS (d12 (eF (gN a0)) (eF (gN a1)) (eF (gN a2)) (eF (gN a3)) (eF (gN a4)) (eF (gN a5)) (eF (gN a6)) (eF (gN a7)) (eF (gN a8)) (eF (gN a9)) (eF (gN a10)) (eF (gN a11)))).p.u.y) < pN/\nv (eF (lastS (d12 (eF (gN a0)) (eF (gN a1)) (eF (gN a2)) (eF (gN a3)) (eF (gN a4)) (eF (gN a5)) (eF (gN a6)) (eF (gN a7)) (eF (gN a8)) (eF (gN a9)) (eF (gN a10)) (eF (gN a11)))).q.u.x) < pN/\nv (eF (lastS (d12 (eF (gN a0)) (eF (gN a1)) (eF (gN a2)) (eF (gN a3)) (eF (gN a4)) (eF (gN a5)) (eF (gN a6)) (eF (gN a7)) (eF (gN a8)) (eF (gN a9)) (eF (gN a10)) (eF (gN a11)))).q.u.y) < pN/\nv (eF (lastS (d12 (eF (gN a0)) (eF (gN a1)) (eF (gN a2)) (eF (gN a3)) (eF (gN a4)) (eF (gN a5)) (eF (gN a6)) (eF (gN a7)) (eF (gN a8)) (eF (gN a9)) (eF (gN a10)) (eF (gN a11)))).p.v.x) < pN/\nv (eF (lastS (d12 (eF (gN a0)) (eF (gN a1)) (eF (gN a2)) (eF (gN a3)) (eF (gN a4)) (eF (gN a5)) (eF (gN a6)) (eF (gN a7)) (eF (gN a8)) (eF (gN a9)) (eF (gN a10)) (eF (gN a11)))).p.v.y) < pN/\nv (eF (lastS (d12 (eF (gN a0)) (eF (gN a1)) (eF (gN a2)) (eF (gN a3)) (eF (gN a4)) (eF (gN a5)) (eF (gN a6)) (eF (gN a7)) (eF (gN a8)) (eF (gN a9)) (eF (gN a10)) (eF (gN a11)))).q.v.x) < pN/\nv (eF (lastS (d12 (eF (gN a0)) (eF (gN a1)) (eF (gN a2)) (eF (gN a3)) (eF (gN a4)) (eF (gN a5)) (eF (gN a6)) (eF (gN a7)) (eF (gN a8)) (eF (gN a9)) (eF (gN a10)) (eF (gN a11)))).q.v.y) < pN/\nv (eF (lastS (d12 (eF (gN a0)) (eF (gN a1)) (eF (gN a2)) (eF (gN a3)) (eF (gN a4)) (eF (gN a5)) (eF (gN a6)) (eF (gN a7)) (eF (gN a8)) (eF (gN a9)) (eF (gN a10)) (eF (gN a11)))).p.w.x) < pN/\nv (eF (lastS (d12 (eF (gN a0)) (eF (gN a1)) (eF (gN a2)) (eF (gN a3)) (eF (gN a4)) (eF (gN a5)) (eF (gN a6)) (eF (gN a7)) (eF (gN a8)) (eF (gN a9)) (eF (gN a10)) (eF (gN a11)))).p.w.y) < pN/\nv (eF (lastS (d12 (eF (gN a0)) (eF (gN a1)) (eF (gN a2)) (eF (gN a3)) (eF (gN a4)) (eF (gN a5)) (eF (gN a6)) (eF (gN a7)) (eF (gN a8)) (eF (gN a9)) (eF (gN a10)) (eF (gN a11)))).q.w.x) < pN/\nv (eF (lastS (d12 (eF (gN a0)) (eF (gN a1)) (eF (gN a2)) (eF (gN a3)) (eF (gN a4)) (eF (gN a5)) (eF (gN a6)) (eF (gN a7)) (eF (gN a8)) (eF (gN a9)) (eF (gN a10)) (eF (gN a11)))).q.w.y) < pN/\endN (.tup [v12 (vF (dF (eF (lastS (d12 (eF (gN a0)) (eF (gN a1)) (eF (gN a2)) (eF (gN a3)) (eF (gN a4)) (eF (gN a5)) (eF (gN a6)) (eF (gN a7)) (eF (gN a8)) (eF (gN a9)) (eF (gN a10)) (eF (gN a11)))).p.u.x))) (vF (dF (eF (lastS (d12 (eF (gN a0)) (eF (gN a1)) (eF (gN a2)) (eF (gN a3)) (eF (gN a4)) (eF (gN a5)) (eF (gN a6)) (eF (gN a7)) (eF (gN a8)) (eF (gN a9)) (eF (gN a10)) (eF (gN a11)))).p.u.y))) (vF (dF (eF (lastS (d12 (eF (gN a0)) (eF (gN a1)) (eF (gN a2)) (eF (gN a3)) (eF (gN a4)) (eF (gN a5)) (eF (gN a6)) (eF (gN a7)) (eF (gN a8)) (eF (gN a9)) (eF (gN a10)) (eF (gN a11)))).q.u.x))) (vF (dF (eF (lastS (d12 (eF (gN a0)) (eF (gN a1)) (eF (gN a2)) (eF (gN a3)) (eF (gN a4)) (eF (gN a5)) (eF (gN a6)) (eF (gN a7)) (eF (gN a8)) (eF (gN a9)) (eF (gN a10)) (eF (gN a11)))).q.u.y))) (vF (dF (eF (lastS (d12 (eF (gN a0)) (eF (gN a1)) (eF (gN a2)) (eF (gN a3)) (eF (gN a4)) (eF (gN a5)) (eF (gN a6)) (eF (gN a7)) (eF (gN a8)) (eF (gN a9)) (eF (gN a10)) (eF (gN a11)))).p.v.x))) (vF (dF (eF (lastS (d12 (eF (gN a0)) (eF (gN a1)) (eF (gN a2)) (eF (gN a3)) (eF (gN a4)) (eF (gN a5)) (eF (gN a6)) (eF (gN a7)) (eF (gN a8)) (eF (gN a9)) (eF (gN a10)) (eF (gN a11)))).p.v.y))) (vF (dF (eF (lastS (d12 (eF (gN a0)) (eF (gN a1)) (eF (gN a2)) (eF (gN a3)) (eF (gN a4)) (eF (gN a5)) (eF (gN a6)) (eF (gN a7)) (eF (gN a8)) (eF (gN a9)) (eF (gN a10)) (eF (gN a11)))).q.v.x))) (vF (dF (eF (lastS (d12 (eF (gN a0)) (eF (gN a1)) (eF (gN a2)) (eF (gN a3)) (eF (gN a4)) (eF (gN a5)) (eF (gN a6)) (eF (gN a7)) (eF (gN a8)) (eF (gN a9)) (eF (gN a10)) (eF (gN a11)))).q.v.y))) (vF (dF (eF (lastS (d12 (eF (gN a0)) (eF (gN a1)) (eF (gN a2)) (eF (gN a3)) (eF (gN a4)) (eF (gN a5)) (eF (gN a6)) (eF (gN a7)) (eF (gN a8)) (eF (gN a9)) (eF (gN a10)) (eF (gN a11)))).p.w.x))) (vF (dF (eF (lastS (d12 (eF (gN a0)) (eF (gN a1)) (eF (gN a2)) (eF (gN a3)) (eF (gN a4)) (eF (gN a5)) (eF (gN a6)) (eF (gN a7)) (eF (gN a8)) (eF (gN a9)) (eF (gN a10)) (eF (gN a11)))).p.w.y))) (vF (dF (eF (lastS (d12 (eF (gN a0)) (eF (gN a1)) (eF (gN a2)) (eF (gN a3)) (eF (gN a4)) (eF (gN a5)) (eF (gN a6)) (eF (gN a7)) (eF (gN a8)) (eF (gN a9)) (eF (gN a10)) (eF (gN a11)))).q.w.x))) (vF (dF (eF (lastS (d12 (eF (gN a0)) (eF (gN a1)) (eF (gN a2)) (eF (gN a3)) (eF (gN a4)) (eF (gN a5)) (eF (gN a6)) (eF (gN a7)) (eF (gN a8)) (eF (gN a9)) (eF (gN a10)) (eF (gN a11)))).q.w.y))),.sc (.it 0)]) (.tup [n12 (lastz (g12 a0 a1 a2 a3 a4 a5 a6 a7 a8 a9 a10 a11)),.sc (.it (invE (g12 a0 a1 a2 a3 a4 a5 a6 a7 a8 a9 a10 a11)))])) ?_ (by kernel_rfl)
   exact ⟨by rw [hz,hb],lt_eF _,lt_eF _,lt_eF _,lt_eF _,lt_eF _,lt_eF _,lt_eF _,lt_eF _,lt_eF _,lt_eF _,lt_eF _,lt_eF _,lt_eF _,lt_eF _,lt_eF _,lt_eF _,lt_eF _,lt_eF _,lt_eF _,lt_eF _,lt_eF _,lt_eF _,lt_eF _,lt_eF _,endPI (by rw [dG12];unfold lastz;rw [hb,cond_false]) rfl (by unfold invE;rw [hb,cond_false])⟩
  ·refine evS_q mixed tt_ok GLsP_ok 100 [⟨2,2,.lit (.bo true)⟩] ?_
   refine same (p:=(eqN W 6 (eF (gN a0)) (fun _=>0) && (eqN W 6 (eF (gN a1)) (fun _=>0) && (eqN W 6 (eF (gN a2)) (fun _=>0) && (eqN W 6 (eF (gN a3)) (fun _=>0) && (eqN W 6 (eF (gN a4)) (fun _=>0) && (eqN W 6 (eF (gN a5)) (fun _=>0) && (eqN W 6 (eF (gN a6)) (fun _=>0) && (eqN W 6 (eF (gN a7)) (fun _=>0) && (eqN W 6 (eF (gN a8)) (fun _=>0) && (eqN W 6 (eF (gN a9)) (fun _=>0) && (eqN W 6 (eF (gN a10)) (fun _=>0) && (eqN W 6 (eF (gN a11)) (fun _=>0) && true)))))))))))) = true/\endN (.tup [v12 (fun _=>0) (fun _=>0) (fun _=>0) (fun _=>0) (fun _=>0) (fun _=>0) (fun _=>0) (fun _=>0) (fun _=>0) (fun _=>0) (fun _=>0) (fun _=>0),.sc (.it 6)]) (.tup [n12 (lastz (g12 a0 a1 a2 a3 a4 a5 a6 a7 a8 a9 a10 a11)),.sc (.it (invE (g12 a0 a1 a2 a3 a4 a5 a6 a7 a8 a9 a10 a11)))])) ?_ (by kernel_rfl)
   have h1:lastz (g12 a0 a1 a2 a3 a4 a5 a6 a7 a8 a9 a10 a11) = 0:=by unfold lastz;rw [hb,cond_true]
   have h2:invE (g12 a0 a1 a2 a3 a4 a5 a6 a7 a8 a9 a10 a11) = 6:=by unfold invE;rw [hb,cond_true]
   rw [h1,h2]
   refine ⟨by rw [hz,hb],_,rfl,fun ρ=>?_⟩
   have h3:(v12 (fun _=>0) (fun _=>0) (fun _=>0) (fun _=>0) (fun _=>0) (fun _=>0) (fun _=>0) (fun _=>0) (fun _=>0) (fun _=>0) (fun _=>0) (fun _=>0)).val ρ = (n12 0).val ρ:=v12_val zero_vF zero_vF zero_vF zero_vF zero_vF zero_vF zero_vF zero_vF zero_vF zero_vF zero_vF zero_vF ρ
   simp only [AV.val,List.map_cons,List.map_nil,h3]
 ·cases e
end Go.Proofs.YtnjocbcjejpklaaGreat
namespace Go.Proofs.YtnjocbcjejpklaaGreat
open Go.Rq Go
set_option maxRecDepth 100000
set_option linter.unusedVariables false
set_option linter.unusedSimpArgs false
theorem ep (x:F2p):F2p.inv x = F2p.inv' x:=by
 unfold F2p.inv F2p.inv' inv2x inv2y eInv nor2 F2p.nrm
 rw [ePow_eq]
theorem ep6 (x:S6):S6.inv x = S6.inv' x:=by
 have h1:S6.ax x = iv4 x:=by unfold S6.ax iv4 iv1 iv3 iv2;rw [xi_mul,Rg.mul_comm kx]
 have h2:S6.ay x = iv8 x:=by unfold S6.ay iv8 iv6 iv5 iv7;rw [xi_mul,Rg.mul_comm kx]
 have h3:S6.az x = iv11 x:=rfl
 have h4:S6.nr x = iv17 x:=by
  unfold S6.nr iv17 iv12 iv16 iv15 iv13 iv14
  rw [h1,h2,h3,xi_mul,Rg.mul_comm kx]
 unfold S6.inv S6.inv' iv19 iv20 iv21 iv18
 rw [h1,h2,h3,h4,ep]
theorem ep12 (x:S12):S12.inv x = S12.inv' x:=by
 have hn:jv4d x = S12.nr x:=by
  unfold jv4d jv1d jv3d jv2d S12.nr
  rw [S6.next_mul];rfl
 unfold S12.inv S12.inv' jv6d jv8d jv7d jv5d
 rw [hn,ep6]
 rfl
theorem conj_t6 (s:S12):S12.conj s = S12.turns 6 s:=by rw [S12.turns_six];rfl
theorem conj_mul (a b:S12):S12.conj (a * b) = S12.conj a * S12.conj b:=by rw [conj_t6,conj_t6,conj_t6,S12.turns_mul]
theorem inv_of {s:S12} (h:s ≠ 0):s * S12.inv s = 1:=by rw [ep12];exact S12.mul_inv h
theorem cr_e1 {R:Type} [CR R] (a b x y z:R):(a * x) * (b * y) * z = (x * y) * ((a * b) * z):=by grind
theorem cr_e2 {R:Type} [CR R] (a b x y:R):(a * b) * (x * y) = (a * x) * (b * y):=by grind
theorem cr_e5 {R:Type} [CR R] (s r f g t q u p v o:R):(s * r) * (f * g) * (t * q) * (u * p) * (v * o) = (s * f * t * u * v) * (r * g * q * p * o):=by grind
theorem ne_mul {a b:S12} (ha:a ≠ 0) (hb:b ≠ 0):a * b ≠ 0:=fun e=>hb (by
 have h1:S12.inv a * (a * b) = b:=by rw [<-Rg.mul_assoc,Rg.mul_comm (S12.inv a) a,inv_of ha,Rg.one_mul]
 rw [e,Rg.mul_zero] at h1;exact h1.symm)
theorem inv_mul2 {a b:S12} (ha:a ≠ 0) (hb:b ≠ 0):S12.inv (a * b) = S12.inv a * S12.inv b:=by
 have h:=inv_of (ne_mul ha hb)
 have e:=cr_e1 a b (S12.inv a) (S12.inv b) (S12.inv (a * b))
 rw [inv_of ha,inv_of hb,h,Rg.one_mul,Rg.one_mul,Rg.mul_one] at e
 exact e
theorem laE_mul {a b:S12} (ha:a ≠ 0) (hb:b ≠ 0):laE (a * b) = laE a * laE b:=by
 unfold laE
 rw [conj_mul,inv_mul2 ha hb,cr_e2]
theorem laF_mul {a b:S12} (ha:a ≠ 0) (hb:b ≠ 0):laF (a * b) = laF a * laF b:=by
 unfold laF
 rw [laE_mul ha hb,S12.turns_mul,cr_e2]
theorem smS_mul (a b:S12):smS (a * b) = smS a * smS b:=by
 unfold smS
 rw [mul_pow',conj_mul]
theorem laX_mul (a b:S12):laX (a * b) = laX a * laX b:=by
 unfold laX
 rw [mul_pow',mul_pow']
theorem laZ_mul (a b:S12):laZ (a * b) = laZ a * laZ b:=by
 unfold laZ
 rw [smS_mul,smS_mul,conj_mul,cr_e2]
theorem laO_mul (f g x y:S12):laO (f * g) (x * y) = laO f x * laO g y:=by
 unfold laO
 rw [laZ_mul,smS_mul,smS_mul,S12.turns_mul,S12.turns_mul,S12.turns_mul,cr_e5]
theorem last_mul {a b:S12} (ha:a ≠ 0) (hb:b ≠ 0):lastS (a * b) = lastS a * lastS b:=by
 unfold lastS
 rw [laF_mul ha hb,laX_mul,laO_mul]
theorem turns_1 (n:Nat):S12.turns n 1 = 1:=by rw [S12.turns_pow,Rg.one_pow]
theorem conj_1:S12.conj 1 = 1:=by rw [conj_t6,turns_1]
theorem smS_1:smS 1 = 1:=by unfold smS;rw [Rg.one_pow,conj_1]
theorem laX_1:laX 1 = 1:=by unfold laX;rw [Rg.one_pow,Rg.one_pow]
theorem laZ_1:laZ 1 = 1:=by unfold laZ;rw [smS_1,smS_1,conj_1,Rg.one_mul]
theorem laO_1:laO 1 1 = 1:=by unfold laO;rw [laZ_1,smS_1,turns_1,turns_1,turns_1,Rg.one_mul,Rg.one_mul,Rg.one_mul,Rg.one_mul]
theorem last_of {a:S12} (h:laE a = 1):lastS a = 1:=by
 have hF:laF a = 1:=by unfold laF;rw [h,turns_1,Rg.one_mul]
 unfold lastS
 rw [hF,laX_1,laO_1]
theorem last_conj {a:S12} (h:a ≠ 0) (hc:S12.conj a = a):lastS a = 1:=last_of (by unfold laE;rw [hc,inv_of h])
theorem one_ne:(1:S12) ≠ 0:=fun h=>by
 have:=congrArg (fun s:S12=>s.p.u.x) h
 exact absurd this (by decide)
theorem last_1:lastS 1 = 1:=last_conj one_ne conj_1
end Go.Proofs.YtnjocbcjejpklaaGreat
namespace Go.Proofs.YtnjocbcjejpklaaGreat
open Go.Rq Go
set_option maxRecDepth 100000
set_option linter.unusedVariables false
set_option linter.unusedSimpArgs false
set_option maxHeartbeats 4000000
def cPairs0:List AV->Option (List Prop × AV)
 | [.v1 (.sc (.rw (.slice none 0 0))),.v1 (.sc (.rw (.slice none 0 0)))]=>some ([],.tup [n12 (lastS 1),.sc (.it 0)])
 | _=>none
def GP0:Ctx:=ctxL [(67,.pure (c12 one12)),(43,.pure (k121 lastS)),(42,.pure cFrom12)]
theorem GP0_ok:CtxOk Tryz.prog GP0:=ctxL_cons okOne12 <| ctxL_cons okLast <| ctxL_cons okFrom12 ctxL_nil
theorem okPairs0:(CallC.pure cPairs0).Ok Tryz.prog 28:=by
 intro args pre v e hp
 unfold cPairs0 at e
 split at e
 rotate_left
 ·cases e
 cases e
 refine pure_walk' tt_ok Tryz.func28 (by kernel_rfl) (by kernel_rfl) (by rfl) (by rfl) ?_
 have h1:(d12 oneF (fun _=>0) (fun _=>0) (fun _=>0) (fun _=>0) (fun _=>0) (fun _=>0) (fun _=>0) (fun _=>0) (fun _=>0) (fun _=>0) (fun _=>0)) = 1:=S12.one_d
 refine evS_q mixed tt_ok GP0_ok 200 [] ?_
 refine same (p:=nv oneF < pN/\nv (fun _=>0) < pN/\nv (fun _=>0) < pN/\nv (fun _=>0) < pN/\nv (fun _=>0) < pN/\nv (fun _=>0) < pN/\nv (fun _=>0) < pN/\nv (fun _=>0) < pN/\nv (fun _=>0) < pN/\nv (fun _=>0) < pN/\nv (fun _=>0) < pN/\nv (fun _=>0) < pN/\nv (eF (lastS (d12 oneF (fun _=>0) (fun _=>0) (fun _=>0) (fun _=>0) (fun _=>0) (fun _=>0) (fun _=>0) (fun _=>0) (fun _=>0) (fun _=>0) (fun _=>0))).p.u.x) < pN/\nv (eF (lastS (d12 oneF (fun _=>0) (fun _=>0) (fun _=>0) (fun _=>0) (fun _=>0) (fun _=>0) (fun _=>0) (fun _=>0) (fun _=>0) (fun _=>0) (fun _=>0))).p.u.y) < pN/\nv (eF (lastS (d12 oneF (fun _=>0) (fun _=>0) (fun _=>0) (fun _=>0) (fun _=>0) (fun _=>0) (fun _=>0) (fun _=>0) (fun _=>0) (fun _=>0) (fun _=>0))).q.u.x) < pN/\nv (eF (lastS (d12 oneF (fun _=>0) (fun _=>0) (fun _=>0) (fun _=>0) (fun _=>0) (fun _=>0) (fun _=>0) (fun _=>0) (fun _=>0) (fun _=>0) (fun _=>0))).q.u.y) < pN/\nv (eF (lastS (d12 oneF (fun _=>0) (fun _=>0) (fun _=>0) (fun _=>0) (fun _=>0) (fun _=>0) (fun _=>0) (fun _=>0) (fun _=>0) (fun _=>0) (fun _=>0))).p.v.x) < pN/\nv (eF (lastS (d12 oneF (fun _=>0) (fun _=>0) (fun _=>0) (fun _=>0) (fun _=>0) (fun _=>0) (fun _=>0) (fun _=>0) (fun _=>0) (fun _=>0) (fun _=>0))).p.v.y) < pN/\nv (eF (lastS (d12 oneF (fun _=>0) (fun _=>0) (fun _=>0) (fun _=>0) (fun _=>0) (fun _=>0) (fun _=>0) (fun _=>0) (fun _=>0) (fun _=>0) (fun _=>0))).q.v.x) < pN/\nv (eF (lastS (d12 oneF (fun _=>0) (fun _=>0) (fun _=>0) (fun _=>0) (fun _=>0) (fun _=>0) (fun _=>0) (fun _=>0) (fun _=>0) (fun _=>0) (fun _=>0))).q.v.y) < pN/\nv (eF (lastS (d12 oneF (fun _=>0) (fun _=>0) (fun _=>0) (fun _=>0) (fun _=>0) (fun _=>0) (fun _=>0) (fun _=>0) (fun _=>0) (fun _=>0) (fun _=>0))).p.w.x) < pN/\nv (eF (lastS (d12 oneF (fun _=>0) (fun _=>0) (fun _=>0) (fun _=>0) (fun _=>0) (fun _=>0) (fun _=>0) (fun _=>0) (fun _=>0) (fun _=>0) (fun _=>0))).p.w.y) < pN/\nv (eF (lastS (d12 oneF (fun _=>0) (fun _=>0) (fun _=>0) (fun _=>0) (fun _=>0) (fun _=>0) (fun _=>0) (fun _=>0) (fun _=>0) (fun _=>0) (fun _=>0))).q.w.x) < pN/\nv (eF (lastS (d12 oneF (fun _=>0) (fun _=>0) (fun _=>0) (fun _=>0) (fun _=>0) (fun _=>0) (fun _=>0) (fun _=>0) (fun _=>0) (fun _=>0) (fun _=>0))).q.w.y) < pN/\endN (.tup [v12 (vF (dF (eF (lastS (d12 oneF (fun _=>0) (fun _=>0) (fun _=>0) (fun _=>0) (fun _=>0) (fun _=>0) (fun _=>0) (fun _=>0) (fun _=>0) (fun _=>0) (fun _=>0))).p.u.x))) (vF (dF (eF (lastS (d12 oneF (fun _=>0) (fun _=>0) (fun _=>0) (fun _=>0) (fun _=>0) (fun _=>0) (fun _=>0) (fun _=>0) (fun _=>0) (fun _=>0) (fun _=>0))).p.u.y))) (vF (dF (eF (lastS (d12 oneF (fun _=>0) (fun _=>0) (fun _=>0) (fun _=>0) (fun _=>0) (fun _=>0) (fun _=>0) (fun _=>0) (fun _=>0) (fun _=>0) (fun _=>0))).q.u.x))) (vF (dF (eF (lastS (d12 oneF (fun _=>0) (fun _=>0) (fun _=>0) (fun _=>0) (fun _=>0) (fun _=>0) (fun _=>0) (fun _=>0) (fun _=>0) (fun _=>0) (fun _=>0))).q.u.y))) (vF (dF (eF (lastS (d12 oneF (fun _=>0) (fun _=>0) (fun _=>0) (fun _=>0) (fun _=>0) (fun _=>0) (fun _=>0) (fun _=>0) (fun _=>0) (fun _=>0) (fun _=>0))).p.v.x))) (vF (dF (eF (lastS (d12 oneF (fun _=>0) (fun _=>0) (fun _=>0) (fun _=>0) (fun _=>0) (fun _=>0) (fun _=>0) (fun _=>0) (fun _=>0) (fun _=>0) (fun _=>0))).p.v.y))) (vF (dF (eF (lastS (d12 oneF (fun _=>0) (fun _=>0) (fun _=>0) (fun _=>0) (fun _=>0) (fun _=>0) (fun _=>0) (fun _=>0) (fun _=>0) (fun _=>0) (fun _=>0))).q.v.x))) (vF (dF (eF (lastS (d12 oneF (fun _=>0) (fun _=>0) (fun _=>0) (fun _=>0) (fun _=>0) (fun _=>0) (fun _=>0) (fun _=>0) (fun _=>0) (fun _=>0) (fun _=>0))).q.v.y))) (vF (dF (eF (lastS (d12 oneF (fun _=>0) (fun _=>0) (fun _=>0) (fun _=>0) (fun _=>0) (fun _=>0) (fun _=>0) (fun _=>0) (fun _=>0) (fun _=>0) (fun _=>0))).p.w.x))) (vF (dF (eF (lastS (d12 oneF (fun _=>0) (fun _=>0) (fun _=>0) (fun _=>0) (fun _=>0) (fun _=>0) (fun _=>0) (fun _=>0) (fun _=>0) (fun _=>0) (fun _=>0))).p.w.y))) (vF (dF (eF (lastS (d12 oneF (fun _=>0) (fun _=>0) (fun _=>0) (fun _=>0) (fun _=>0) (fun _=>0) (fun _=>0) (fun _=>0) (fun _=>0) (fun _=>0) (fun _=>0))).q.w.x))) (vF (dF (eF (lastS (d12 oneF (fun _=>0) (fun _=>0) (fun _=>0) (fun _=>0) (fun _=>0) (fun _=>0) (fun _=>0) (fun _=>0) (fun _=>0) (fun _=>0) (fun _=>0))).q.w.y))),.sc (.it 0)]) (.tup [n12 (lastS 1),.sc (.it 0)])) ?_ (by kernel_rfl)
 exact ⟨lt_one,lt_zero,lt_zero,lt_zero,lt_zero,lt_zero,lt_zero,lt_zero,lt_zero,lt_zero,lt_zero,lt_zero,lt_eF _,lt_eF _,lt_eF _,lt_eF _,lt_eF _,lt_eF _,lt_eF _,lt_eF _,lt_eF _,lt_eF _,lt_eF _,lt_eF _,endPI (t:=(lastS (d12 oneF (fun _=>0) (fun _=>0) (fun _=>0) (fun _=>0) (fun _=>0) (fun _=>0) (fun _=>0) (fun _=>0) (fun _=>0) (fun _=>0) (fun _=>0)))) (by rw [h1]) rfl rfl⟩
def cAwake6:List AV->Option (List Prop × AV)
 | []=>some ([],.v1 (.sc (.bo true)))
 | _=>none
def GA6:Ctx:=ctxL [(28,.pure cPairs0),(11,.pure cLast),(32,.pure (c12 (n12 1)))]
theorem GA6_ok:CtxOk Tryz.prog GA6:=ctxL_cons okPairs0 <| ctxL_cons okLastP <| ctxL_cons okTOne ctxL_nil
abbrev zg12:S12:=g12 (fun _=>0) (fun _=>0) (fun _=>0) (fun _=>0) (fun _=>0) (fun _=>0) (fun _=>0) (fun _=>0) (fun _=>0) (fun _=>0) (fun _=>0) (fun _=>0)
theorem zg12_z:z12 zg12 = true:=by kernel_rfl
theorem invE_0:invE zg12 = 6:=by unfold invE;rw [zg12_z,cond_true]
theorem okAwake6:(CallC.pure cAwake6).Ok Tryz.prog 15:=by
 intro args pre v e hp
 unfold cAwake6 at e
 split at e
 rotate_left
 ·cases e
 cases e
 refine pure_walk' tt_ok Tryz.func15 (by kernel_rfl) (by kernel_rfl) (by rfl) (by rfl) ?_
 refine evS_q mixed tt_ok GA6_ok 200 [⟨3,2,.lit (.bo true)⟩,⟨3,9,.lit (.bo true)⟩] ?_
 refine same (p:=qL (nL (lastS 1)) (nL 1) = true/\ieq (invE zg12) 6 = true/\endT) ?_ (by kernel_rfl)
 exact ⟨qn_of last_1,by rw [invE_0];rfl,endT_ok⟩
end Go.Proofs.YtnjocbcjejpklaaGreat
namespace Go.Rq
open Go
structure EC (F:Type) [CR F] where
 a:F
 b:F
 inv:F->F
 inv_ok:∀ x:F,x ≠ 0->x * inv x = 1
 two:(1 + 1:F) ≠ 0
 ns:∀ x:F,x * x * x + a * x + b = 0->x * x + x * x + x * x + a ≠ 0
set_option linter.unusedSectionVars false
set_option linter.unusedSimpArgs false
namespace EC
variable {F:Type} [i:CR F] (C:EC F)
theorem mv {x y z:F} (h:x - y = z):x = y + z:=by grind
theorem mv2 {x y z u:F} (h:x - y = z * u):y = x - z * u:=by grind
theorem mv3 {x y z:F} (h:x + y = z):y = z - x:=by grind
theorem mv4 {m u z:F}:m * (u - z) = -(m * (z - u)):=by grind
theorem mv5 {x y z:F} (h:x - y = -z):y = x + z:=by grind
theorem mv6 {x y z u:F} (h:x = y + z + u):u = x - y - z:=by grind
include C in
theorem cancel {x u v:F} (h:x ≠ 0) (e:x * u = x * v):u = v:=by
 have h1:=C.inv_ok x h
 have h2:C.inv x * (x * u) = C.inv x * (x * v):=by rw [e]
 grind
include C in
theorem dom {x y:F} (h:x * y = 0):x = 0∨y = 0:=by
 by_cases hx:x = 0
 ·exact .inl hx
 ·exact .inr (C.cancel hx (by rw [h];grind))
theorem sub_ne {x y:F} (h:x ≠ y):x - y ≠ 0:=fun e=>h (by grind)
def on:Option (F × F)->Prop
 | none=>True
 | some p=>p.2 * p.2 = p.1 * p.1 * p.1 + C.a * p.1 + C.b
def neg:Option (F × F)->Option (F × F)
 | none=>none
 | some p=>some (p.1,0 - p.2)
variable [DecidableEq F]
def slope (p q:F × F):F :=
 if p.1 = q.1 then (p.1 * p.1 + p.1 * p.1 + p.1 * p.1 + C.a) * C.inv (p.2 + p.2) else (q.2 - p.2) * C.inv (q.1 - p.1)
def by' (l:F) (p q:F × F):F × F:=(l * l - p.1 - q.1,l * (p.1 - (l * l - p.1 - q.1)) - p.2)
def Sl (p q:F × F) (l:F):Prop:=p.2 - q.2 = l * (p.1 - q.1)/\p.1 * p.1 + p.1 * q.1 + q.1 * q.1 + C.a = l * (p.2 + q.2)
def Opp (p q:F × F):Prop:=p.1 = q.1/\p.2 + q.2 = 0
instance [DecidableEq F] (p q:F × F):Decidable (Opp p q):=by unfold Opp;infer_instance
def add:Option (F × F)->Option (F × F)->Option (F × F)
 | none,q=>q
 | some p,none=>some p
 | some p,some q=>if Opp p q then none else some (by' (C.slope p q) p q)
theorem Sl.symm {p q:F × F} {l:F} (h:C.Sl p q l):C.Sl q p l:=by
 obtain ⟨h1,h2⟩:=h
 exact ⟨by grind,by grind⟩
theorem slope_ok {p q:F × F} (hp:C.on (some p)) (hq:C.on (some q)) (h:¬ Opp p q):C.Sl p q (C.slope p q):=by
 obtain ⟨x,y⟩:=p
 obtain ⟨u,v⟩:=q
 simp only [on,Sl,slope,Opp] at *
 by_cases hx:x = u
 ·subst hx
  rw [if_pos rfl]
  have h0:y + v ≠ 0:=fun e=>h ⟨rfl,e⟩
  have h1:(y + v) * (y - v) = 0:=by grind
  rcases C.dom h1 with h2 | h2
  ·exact absurd h2 h0
  ·have:y = v:=by grind
   subst this
   have:=C.inv_ok _ h0
   constructor <;> grind
 ·rw [if_neg hx]
  have h0:u - x ≠ 0:=sub_ne (Ne.symm hx)
  have h1:=C.inv_ok _ h0
  have h2:y - v = (v - y) * C.inv (u - x) * (x - u):=by grind
  refine ⟨h2,C.cancel h0 ?_⟩
  generalize C.inv (u - x) = w at *
  grind
theorem sl_unique {p q:F × F} {l m:F} (h:¬ Opp p q) (h1:C.Sl p q l) (h2:C.Sl p q m):l = m:=by
 obtain ⟨a1,a2⟩:=h1
 obtain ⟨b1,b2⟩:=h2
 by_cases e:l - m = 0
 ·grind
 ·refine absurd ⟨?_,?_⟩ h
  ·have:(l - m) * (p.1 - q.1) = (l - m) * 0:=by grind
   have:=C.cancel e this
   grind
  ·have:(l - m) * (p.2 + q.2) = (l - m) * 0:=by grind
   exact C.cancel e this
theorem add_sl {p q:F × F} {l:F} (hp:C.on (some p)) (hq:C.on (some q)) (h:¬ Opp p q) (hl:C.Sl p q l):C.add (some p) (some q) = some (by' l p q):=by
 have:=C.sl_unique h (C.slope_ok hp hq h) hl
 show (if Opp p q then none else some (by' (C.slope p q) p q)) = _
 rw [if_neg h,this]
theorem add_opp {p q:F × F} (h:Opp p q):C.add (some p) (some q) = none:=by
 show (if Opp p q then none else some (by' (C.slope p q) p q)) = _
 rw [if_pos h]
theorem add_cases {p q:F × F} (hp:C.on (some p)) (hq:C.on (some q)):(Opp p q/\C.add (some p) (some q) = none)∨(¬ Opp p q/\∃ l,C.Sl p q l/\C.add (some p) (some q) = some (by' l p q)):=by
 by_cases h:Opp p q
 ·exact .inl ⟨h,C.add_opp h⟩
 ·exact .inr ⟨h,_,C.slope_ok hp hq h,C.add_sl hp hq h (C.slope_ok hp hq h)⟩
omit [DecidableEq F] in
theorem on_by {p q:F × F} {l:F} (hp:C.on (some p)) (h:C.Sl p q l):C.on (some (by' l p q)):=by
 obtain ⟨x,y⟩:=p
 obtain ⟨u,v⟩:=q
 simp only [on,Sl,by'] at *
 obtain ⟨h1,h2⟩:=h
 have e1:v = y - l * (x - u):=mv2 h1
 have e2:C.a = l * (y + v) - (x * x + x * u + u * u):=mv3 h2
 have e3:C.b = y * y - x * x * x - C.a * x:=mv6 hp
 rw [e3,e2,e1]
 clear e1 e2 e3 h1 h2 hp
 grind
theorem on_add {p q:Option (F × F)} (hp:C.on p) (hq:C.on q):C.on (C.add p q):=by
 match p,q with
 | none,q=>exact hq
 | some p,none=>exact hp
 | some p,some q =>
  rcases C.add_cases hp hq with ⟨_,e⟩ | ⟨_,l,hl,e⟩
  ·rw [e];trivial
  ·rw [e];exact C.on_by hp hl
omit [DecidableEq F] in
theorem on_neg {p:Option (F × F)} (hp:C.on p):C.on (neg p):=by
 match p with
 | none=>trivial
 | some (x,y) =>
  simp only [on,neg] at *
  grind
omit [DecidableEq F] in
theorem by_symm {p q:F × F} {l:F} (h:C.Sl p q l):by' l p q = by' l q p:=by
 obtain ⟨x,y⟩:=p
 obtain ⟨u,v⟩:=q
 simp only [Sl,by'] at *
 obtain ⟨h1,h2⟩:=h
 rw [Prod.mk.injEq]
 constructor <;> grind
omit [DecidableEq F] i in
theorem Opp.symm [CR F] {p q:F × F} (h:Opp p q):Opp q p:=⟨h.1.symm,by have:=h.2;grind⟩
theorem add_comm {p q:Option (F × F)} (hp:C.on p) (hq:C.on q):C.add p q = C.add q p:=by
 match p,q with
 | none,none=>rfl
 | none,some q=>rfl
 | some p,none=>rfl
 | some p,some q =>
  rcases C.add_cases hp hq with ⟨h,e⟩ | ⟨h,l,hl,e⟩
  ·rw [e,C.add_opp h.symm]
  ·rw [e,C.add_sl hq hp (fun h'=>h h'.symm) (hl.symm C),C.by_symm hl]
theorem add_zero (p:Option (F × F)):C.add p none = p:=by cases p <;> rfl
theorem zero_add (p:Option (F × F)):C.add none p = p:=rfl
theorem add_neg (p:Option (F × F)):C.add p (neg p) = none:=by
 match p with
 | none=>rfl
 | some p=>exact C.add_opp ⟨rfl,by show p.2 + (0 - p.2) = 0;grind⟩
omit [DecidableEq F] in
theorem neg_neg (p:Option (F × F)):neg (neg p) = p:=by
 match p with
 | none=>rfl
 | some (x,y)=>simp only [neg];rw [show (0 - (0 - y):F) = y by grind]
theorem neg_add {p q:Option (F × F)} (hp:C.on p) (hq:C.on q):neg (C.add p q) = C.add (neg p) (neg q):=by
 match p,q with
 | none,q=>rfl
 | some p,none=>rfl
 | some p,some q =>
  have hp':C.on (some (p.1,0 - p.2)):=C.on_neg hp
  have hq':C.on (some (q.1,0 - q.2)):=C.on_neg hq
  show neg (C.add (some p) (some q)) = C.add (some (p.1,0 - p.2)) (some (q.1,0 - q.2))
  rcases C.add_cases hp hq with ⟨h,e⟩ | ⟨h,l,hl,e⟩
  ·rw [e]
   have ho:Opp (p.1,0 - p.2) (q.1,0 - q.2):=⟨h.1,by have:=h.2;show (0 - p.2) + (0 - q.2) = 0;grind⟩
   exact (C.add_opp ho).symm
  ·rw [e,C.add_sl (l:=0 - l) hp' hq' (fun h'=>h ⟨h'.1,by have:(0 - p.2) + (0 - q.2) = 0:=h'.2;grind⟩) ⟨by have:=hl.1;show (0 - p.2) - (0 - q.2) = _;grind,by have:=hl.2;show _ = (0 - l) * ((0 - p.2) + (0 - q.2));grind⟩]
   show some (_,_) = some (_,_)
   simp only [by']
   rw [Option.some.injEq,Prod.mk.injEq]
   constructor <;> grind
theorem back {p q:Option (F × F)} (hp:C.on p) (hq:C.on q):C.add (neg p) (C.add p q) = q:=by
 match p,q with
 | none,q=>rfl
 | some p,none =>
  have h:=C.add_neg (neg (some p))
  rw [neg_neg] at h
  exact h
 | some (x,y),some (u,v) =>
  have hp':C.on (some (x,0 - y)):=C.on_neg hp
  rcases C.add_cases hp hq with ⟨h,e⟩ | ⟨h,l,hl,e⟩
  ·rw [e,C.add_zero]
   obtain ⟨h1,h2⟩:=h
   simp only [neg,Opp] at *
   rw [Option.some.injEq,Prod.mk.injEq]
   exact ⟨h1,by grind⟩
  ·rw [e]
   have ha:=C.on_by hp hl
   obtain ⟨h1,h2⟩:=hl
   have e1:v = y - l * (x - u):=mv2 h1
   have e2:C.a = l * (y + v) - (x * x + x * u + u * u):=mv3 h2
   have hs:C.Sl (x,0 - y) (by' l (x,y) (u,v)) (0 - l):=by
    refine ⟨?_,?_⟩
    ·simp only [by'];clear e1 e2 h1 h2 ha hp' hp hq;grind
    ·simp only [by'];rw [e2,e1];clear e1 e2 h1 h2 ha hp' hp hq;grind
   have e4:by' (0 - l) (x,0 - y) (by' l (x,y) (u,v)) = (u,v):=by
    simp only [by']
    rw [Prod.mk.injEq]
    exact ⟨by clear e1 e2 h1 h2 ha hp' hp hq;grind,by rw [e1];clear e1 e2 h1 h2 ha hp' hp hq;grind⟩
   by_cases ho:Opp (x,0 - y) (by' l (x,y) (u,v))
   ·exfalso
    obtain ⟨o1,o2⟩:=ho
    simp only [by'] at o1 o2
    have y0:(1 + 1) * y = (1 + 1) * 0:=by rw [<-o1] at o2;clear e1 e2 h1 h2 ha hp' hp hq;grind
    have y0:=C.cancel C.two y0
    simp only [on] at hp
    refine C.ns x (by rw [<-hp,y0];grind) ?_
    rw [e2,e1,y0]
    have:u = l * l - x - x:=by clear e1 e2 h1 h2 ha hp' hp hq;grind
    rw [this]
    grind
   ·have h9:=C.add_sl (p:=(x,0 - y)) hp' ha ho hs
    rw [e4] at h9
    exact h9
theorem third {p q s:F × F} {l m k:F} (h1:C.Sl p q l) (h2:C.Sl q s m) (hk:k * (l - m) = p.1 - s.1) (hd:l - m ≠ 0):C.Sl (by' l p q) s (k - l):=by
 obtain ⟨x,y⟩:=p
 obtain ⟨u,v⟩:=q
 obtain ⟨z,w⟩:=s
 obtain ⟨a1,a2⟩:=h1
 obtain ⟨b1,b2⟩:=h2
 simp only at *
 have e1:y = v + l * (x - u):=mv a1
 have e2:w = v + m * (z - u):=mv5 (by rw [b1,mv4])
 have e3:C.a = l * (y + v) - (x * x + x * u + u * u):=mv3 a2
 have e4:u * u + u * z + z * z + (l * (y + v) - (x * x + x * u + u * u)) = m * (v + w):=by rw [<-e3];exact b2
 have e6:∀ t,(l - m) * ((k - l) * t) = (x - z - l * (l - m)) * t:=by intro t;rw [<-hk];clear e4 e3 e2 e1 hk a1 a2 b1 b2 hd;grind
 refine ⟨C.cancel hd ?_,C.cancel hd ?_⟩
 ·simp only [by']
  rw [e6]
  rw [e1,e2] at e4
  rw [e1,e2]
  clear e6 e3 hk a1 a2 b1 b2 e1 e2 hd
  grind
 ·simp only [by']
  rw [e6]
  rw [e3]
  rw [e1,e2] at e4
  rw [e1,e2]
  clear e6 e3 hk a1 a2 b1 b2 e1 e2 hd
  grind
theorem onLine {p q s:F × F} {l:F} (h1:C.Sl p q l) (h2:C.Sl q s l):p = s∨Opp (by' l p q) s:=by
 obtain ⟨x,y⟩:=p
 obtain ⟨u,v⟩:=q
 obtain ⟨z,w⟩:=s
 obtain ⟨a1,a2⟩:=h1
 obtain ⟨b1,b2⟩:=h2
 simp only at *
 have e1:y = v + l * (x - u):=mv a1
 have e2:w = v + l * (z - u):=mv5 (by rw [b1,mv4])
 have e3:C.a = l * (y + v) - (x * x + x * u + u * u):=mv3 a2
 have e4:u * u + u * z + z * z + (l * (y + v) - (x * x + x * u + u * u)) = l * (v + w):=by rw [<-e3];exact b2
 rw [e1,e2] at e4
 have e5:(x - z) * (l * l - x - u - z) = 0:=by clear e1 e2 e3 a1 a2 b1 b2;grind
 rcases C.dom e5 with h | h
 ·refine .inl ?_
  have hx:x = z:=by clear e1 e2 e3 e4 e5 a1 a2 b1 b2;grind
  rw [Prod.mk.injEq]
  exact ⟨hx,by rw [e1,e2,hx]⟩
 ·refine .inr ⟨?_,?_⟩
  ·simp only [by'];clear e1 e2 e3 e4 e5 a1 a2 b1 b2;grind
  ·simp only [by']
   have hx:l * l - x - u = z:=by clear e1 e2 e3 e4 e5 a1 a2 b1 b2;grind
   rw [hx,e1,e2]
   clear e1 e2 e3 e4 e5 a1 a2 b1 b2 h hx;grind
theorem assoc_gen {p q s:F × F} {l m:F} (hp:C.on (some p)) (hq:C.on (some q)) (hs:C.on (some s)) (h1:C.Sl p q l) (h2:C.Sl q s m)
  (n3:¬ Opp (by' l p q) s) (n4:¬ Opp p (by' m q s)):C.add (some (by' l p q)) (some s) = C.add (some p) (some (by' m q s)):=by
 have ha:=C.on_by hp h1
 have hb:=C.on_by hq h2
 by_cases hd:l - m = 0
 ·have hlm:l = m:=by grind
  subst hlm
  rcases C.onLine h1 h2 with e | e
  ·subst e
   rw [C.add_comm ha hs,C.by_symm h1]
  ·exact absurd e n3
 ·have hk:∃ k,k * (l - m) = p.1 - s.1:=⟨(p.1 - s.1) * C.inv (l - m),by have:=C.inv_ok _ hd;generalize C.inv (l - m) = t at *;generalize l - m = d at *;grind⟩
  obtain ⟨k,hk⟩:=hk
  have t1:=C.third h1 h2 hk hd
  have t2:=C.third (k:=k) (h2.symm C) (h1.symm C) (by clear n3 n4 ha hb hp hq hs h1 h2 t1;grind) (by clear n3 n4 ha hb hp hq hs h1 h2 t1;intro e;exact hd (by grind))
  rw [<-C.by_symm h2] at t2
  rw [C.add_sl ha hs n3 t1,C.add_sl hp hb n4 (t2.symm C),C.by_symm t1]
  obtain ⟨x,y⟩:=p
  obtain ⟨u,v⟩:=q
  obtain ⟨z,w⟩:=s
  have e1:=mv h1.1
  have e2:w = v + m * (z - u):=mv5 (by have:=h2.1;simp only at this;rw [this,mv4])
  simp only at e1 hk
  simp only [by']
  clear n3 n4 ha hb hp hq hs h1 h2 t1 t2 hd
  have e3:x = z + k * (l - m):=by clear e1 e2;grind
  rw [Option.some.injEq,Prod.mk.injEq,e1,e2,e3]
  clear e1 e2 e3 hk
  constructor <;> grind
theorem assoc {p q s:Option (F × F)} (hp:C.on p) (hq:C.on q) (hs:C.on s):C.add (C.add p q) s = C.add p (C.add q s):=by
 match p,q,s with
 | none,q,s=>rfl
 | some p,none,s=>rfl
 | some p,some q,none=>rw [C.add_zero,C.add_zero]
 | some p,some q,some s =>
  rcases C.add_cases hp hq with ⟨h1,e1⟩ | ⟨h1,l,hl,e1⟩
  ·
   have hpq:neg (some q) = some p:=by
    obtain ⟨x,y⟩:=p
    obtain ⟨u,v⟩:=q
    obtain ⟨o1,o2⟩:=h1
    simp only at o1 o2
    show some (u,0 - v) = _
    rw [o1,Option.some.injEq,Prod.mk.injEq]
    exact ⟨rfl,by clear hp hq hs e1 o1;grind⟩
   rw [e1,<-hpq,C.back hq hs,C.zero_add]
  ·rcases C.add_cases hq hs with ⟨h2,e2⟩ | ⟨h2,m,hm,e2⟩
   ·have hqs:neg (some q) = some s:=by
     obtain ⟨x,y⟩:=q
     obtain ⟨u,v⟩:=s
     obtain ⟨o1,o2⟩:=h2
     simp only at o1 o2
     show some (x,0 - y) = _
     rw [o1,Option.some.injEq,Prod.mk.injEq]
     exact ⟨rfl,by clear hp hq hs e1 e2 o1 hl h1;grind⟩
    rw [e2,C.add_zero,C.add_comm hp hq,<-hqs,C.add_comm (C.on_add hq hp) (C.on_neg hq),C.back hq hp]
   ·have ha:=C.on_by hp hl
    have hb:=C.on_by hq hm
    by_cases h3:Opp (by' l p q) s
    ·
     have hn:neg (C.add (some p) (some q)) = some s:=by
      rw [e1]
      obtain ⟨u,v⟩:=s
      obtain ⟨o1,o2⟩:=h3
      simp only at o1 o2
      show some (_,_) = _
      rw [<-o1,Option.some.injEq,Prod.mk.injEq]
      exact ⟨rfl,by generalize (by' l p q).2 = t at *;clear hp hq hs e1 e2 o1 hl h1 ha hb hm h2;grind⟩
     have hpq:=C.on_add hp hq
     rw [<-hn,C.add_neg,C.neg_add hp hq,C.add_comm (C.on_neg hp) (C.on_neg hq)]
     have:=C.back (C.on_neg hq) (C.on_neg hp)
     rw [neg_neg] at this
     rw [this,C.add_neg]
    ·by_cases h4:Opp p (by' m q s)
     ·have hn:neg (C.add (some q) (some s)) = some p:=by
       rw [e2]
       obtain ⟨u,v⟩:=p
       obtain ⟨o1,o2⟩:=h4
       simp only at o1 o2
       show some (_,_) = _
       rw [o1,Option.some.injEq,Prod.mk.injEq]
       exact ⟨rfl,by generalize (by' m q s).2 = t at *;clear hp hq hs e1 e2 o1 hl h1 ha hb hm h2 h3;grind⟩
      have hqs:=C.on_add hq hs
      rw [<-hn,C.add_comm (C.on_neg hqs) hqs,C.add_neg,C.neg_add hq hs,C.add_comm (C.on_neg hq) (C.on_neg hs)]
      rw [C.add_comm (C.on_add (C.on_neg hs) (C.on_neg hq)) hq,C.add_comm (C.on_neg hs) (C.on_neg hq)]
      have:=C.back (C.on_neg hq) (C.on_neg hs)
      rw [neg_neg] at this
      rw [this,C.add_comm (C.on_neg hs) hs,C.add_neg]
     ·rw [e1,e2]
      exact C.assoc_gen hp hq hs hl hm h3 h4
def mul:Nat->Option (F × F)->Option (F × F)
 | 0,_=>none
 | n + 1,p=>C.add (mul n p) p
theorem on_mul {p:Option (F × F)} (hp:C.on p):∀ n,C.on (C.mul n p)
 | 0=>trivial
 | n + 1=>C.on_add (on_mul hp n) hp
theorem mul_one (p:Option (F × F)):C.mul 1 p = p:=by cases p <;> rfl
theorem mul_add {p:Option (F × F)} (hp:C.on p) (m:Nat):∀ n,C.mul (m + n) p = C.add (C.mul m p) (C.mul n p)
 | 0=>(C.add_zero _).symm
 | n + 1=>by
  show C.add (C.mul (m + n) p) p = C.add _ (C.add (C.mul n p) p)
  rw [mul_add hp m n,C.assoc (C.on_mul hp m) (C.on_mul hp n) hp]
theorem mul_mul {p:Option (F × F)} (hp:C.on p) (m:Nat):∀ n,C.mul n (C.mul m p) = C.mul (m * n) p
 | 0=>rfl
 | n + 1=>by
  show C.add (C.mul n (C.mul m p)) (C.mul m p) = C.mul (m * n + m) p
  rw [C.mul_add hp,mul_mul hp m n]
theorem mul_zero:∀ n,C.mul n none = none
 | 0=>rfl
 | n + 1=>by show C.add (C.mul n none) none = none;rw [mul_zero n];rfl
theorem mul_dist {p q:Option (F × F)} (hp:C.on p) (hq:C.on q):∀ n,C.mul n (C.add p q) = C.add (C.mul n p) (C.mul n q)
 | 0=>rfl
 | n + 1=>by
  show C.add (C.mul n (C.add p q)) (C.add p q) = C.add (C.add (C.mul n p) p) (C.add (C.mul n q) q)
  have h1:=C.on_mul hp n
  have h2:=C.on_mul hq n
  rw [mul_dist hp hq n,C.assoc h1 h2 (C.on_add hp hq),C.assoc h1 hp (C.on_add h2 hq),<-C.assoc h2 hp hq,C.add_comm h2 hp,C.assoc hp h2 hq]
end EC
end Go.Rq
namespace Go.Rq
open Go
namespace Po
variable {F:Type} [i:CR F]
def ev:List F->F->F
 | [],_=>0
 | a :: r,x=>a + x * ev r x
def ad:List F->List F->List F
 | [],b=>b
 | a,[]=>a
 | a :: r,b :: s=>(a + b) :: ad r s
def sc (k:F):List F->List F
 | []=>[]
 | a :: r=>(k * a) :: sc k r
def mu:List F->List F->List F
 | [],_=>[]
 | a :: r,b=>ad (sc a b) (0 :: mu r b)
theorem ev_ad:∀ (a b:List F) (x:F),ev (ad a b) x = ev a x + ev b x
 | [],b,x=>by show ev b x = 0 + ev b x;grind
 | a :: r,[],x=>by show ev (a :: r) x = ev (a :: r) x + 0;grind
 | a :: r,b :: s,x=>by
  show a + b + x * ev (ad r s) x = (a + x * ev r x) + (b + x * ev s x)
  rw [ev_ad r s x];grind
theorem ev_sc (k:F):∀ (a:List F) (x:F),ev (sc k a) x = k * ev a x
 | [],x=>by show (0:F) = k * 0;grind
 | a :: r,x=>by
  show k * a + x * ev (sc k r) x = k * (a + x * ev r x)
  rw [ev_sc k r x];grind
theorem ev_mu:∀ (a b:List F) (x:F),ev (mu a b) x = ev a x * ev b x
 | [],b,x=>by show (0:F) = 0 * ev b x;grind
 | a :: r,b,x=>by
  show ev (ad (sc a b) (0 :: mu r b)) x = (a + x * ev r x) * ev b x
  rw [ev_ad,ev_sc]
  show a * ev b x + (0 + x * ev (mu r b) x) = _
  rw [ev_mu r b x];grind
theorem len_ad:∀ (a b:List F) (n:Nat),a.length <= n->b.length <= n->(ad a b).length <= n
 | [],b,n,_,h=>h
 | a :: r,[],n,h,_=>h
 | a :: r,b :: s,n,h,k=>by
  show (ad r s).length + 1 <= n
  simp only [List.length_cons] at h k
  have:=len_ad r s (n - 1) (by omega) (by omega)
  omega
theorem len_sc (k:F):∀ a:List F,(sc k a).length = a.length
 | []=>rfl
 | a :: r=>by show (sc k r).length + 1 = r.length + 1;rw [len_sc k r]
theorem len_mu:∀ (a b:List F) (n m:Nat),a.length <= n + 1->b.length <= m + 1->(mu a b).length <= n + m + 1
 | [],b,n,m,_,_=>Nat.zero_le _
 | [a],b,n,m,_,k=>by
  show (ad (sc a b) (0 :: mu [] b)).length <= _
  refine len_ad _ _ _ (by rw [len_sc];omega) ?_
  show 0 + 1 <= n + m + 1
  omega
 | a :: c :: r,b,n,m,h,k=>by
  show (ad (sc a b) (0 :: mu (c :: r) b)).length <= _
  simp only [List.length_cons] at h
  refine len_ad _ _ _ (by rw [len_sc];omega) ?_
  have:=len_mu (c :: r) b (n - 1) m (by simp only [List.length_cons];omega) k
  show (mu (c :: r) b).length + 1 <= _
  omega
def Pd (d:Nat) (f:F->F):Prop:=∃ c:List F,c.length <= d + 1/\∀ x,f x = ev c x
theorem Pd.mono {d e:Nat} {f:F->F} (h:Pd d f) (k:d <= e):Pd e f:=let ⟨c,h1,h2⟩:=h;⟨c,by omega,h2⟩
theorem pd_const (a:F):Pd 0 (fun _=>a):=⟨[a],by simp,fun x=>by show a = a + x * 0;grind⟩
theorem pd_id:Pd 1 (fun x:F=>x):=⟨[0,1],by simp,fun x=>by show x = 0 + x * (1 + x * 0);grind⟩
theorem Pd.add {d:Nat} {f g:F->F} (h:Pd d f) (k:Pd d g):Pd d (fun x=>f x + g x):=by
 obtain ⟨a,a1,a2⟩:=h
 obtain ⟨b,b1,b2⟩:=k
 exact ⟨ad a b,len_ad _ _ _ a1 b1,fun x=>by show f x + g x = _;rw [ev_ad,a2,b2]⟩
theorem Pd.mul {d e:Nat} {f g:F->F} (h:Pd d f) (k:Pd e g):Pd (d + e) (fun x=>f x * g x):=by
 obtain ⟨a,a1,a2⟩:=h
 obtain ⟨b,b1,b2⟩:=k
 exact ⟨mu a b,len_mu _ _ _ _ a1 b1,fun x=>by show f x * g x = _;rw [ev_mu,a2,b2]⟩
theorem Pd.scale {d:Nat} {f:F->F} (k:F) (h:Pd d f):Pd d (fun x=>k * f x):=by
 obtain ⟨a,a1,a2⟩:=h
 exact ⟨sc k a,by rw [len_sc];exact a1,fun x=>by show k * f x = _;rw [ev_sc,a2]⟩
theorem Pd.sub {d:Nat} {f g:F->F} (h:Pd d f) (k:Pd d g):Pd d (fun x=>f x - g x):=by
 obtain ⟨c,c1,c2⟩:=h.add (k.scale (0 - 1))
 exact ⟨c,c1,fun x=>by rw [<-c2];grind⟩
def dv (a:F):List F->List F
 | []=>[]
 | _ :: r=>ad r (sc a (dv a r))
theorem len_dv (a:F):∀ c:List F,(dv a c).length <= c.length - 1
 | []=>Nat.zero_le _
 | _ :: r=>by
  show (ad r (sc a (dv a r))).length <= r.length + 1 - 1
  refine len_ad _ _ _ (by omega) ?_
  rw [len_sc]
  have:=len_dv a r
  omega
theorem ev_dv (a:F):∀ (c:List F) (x:F),ev c x = ev c a + (x - a) * ev (dv a c) x
 | [],x=>by show (0:F) = 0 + (x - a) * 0;grind
 | b :: r,x=>by
  show b + x * ev r x = b + a * ev r a + (x - a) * ev (ad r (sc a (dv a r))) x
  rw [ev_ad,ev_sc]
  have:=ev_dv a r x
  grind
theorem roots (dom:∀ a b:F,a * b = 0->a = 0∨b = 0):∀ (n:Nat) (c:List F) (l:List F),c.length <= n->l.Nodup->n <= l.length->(∀ x ∈ l,ev c x = 0)->∀ x,ev c x = 0
 | 0,c,l,hc,_,_,_,x=>by
  have:c = []:=List.eq_nil_of_length_eq_zero (by omega)
  subst this;rfl
 | n + 1,c,[],_,_,hl,_,_=>by simp at hl
 | n + 1,c,a :: l,hc,hn,hl,hr,x=>by
  have ha:=hr a (List.mem_cons_self ..)
  have hn':=List.nodup_cons.1 hn
  have:=roots dom n (dv a c) l (by have:=len_dv a c;omega) hn'.2 (by simp at hl;omega) (fun y hy=>by
   have h1:=hr y (List.mem_cons_of_mem _ hy)
   have h2:=ev_dv a c y
   rw [h1,ha] at h2
   have h3:(y - a) * ev (dv a c) y = 0:=by grind
   rcases dom _ _ h3 with h4 | h4
   ·have:y = a:=by grind
    subst this
    exact absurd hy hn'.1
   ·exact h4) x
  rw [ev_dv a c x,ha,this];grind
theorem Pd.few {d:Nat} {f:F->F} (h:Pd d f) (dom:∀ a b:F,a * b = 0->a = 0∨b = 0) {l:List F} (hn:l.Nodup) (hl:∀ x ∈ l,f x = 0) {x:F} (hx:f x ≠ 0):l.length <= d:=by
 obtain ⟨c,c1,c2⟩:=h
 refine Nat.le_of_not_lt fun hlt=>hx ?_
 rw [c2]
 exact roots dom (d + 1) c l c1 hn hlt (fun y hy=>by rw [<-c2];exact hl y hy) x
end Po
end Go.Rq
namespace Go.Rq
open Go
namespace EC
variable {F:Type} [i:CR F] (C:EC F)
set_option linter.unusedSectionVars false
def Rep (X Z:F):Option (F × F)->Prop
 | none=>Z = 0
 | some p=>X = p.1 * Z
def dbX (b X Z:F):F:=X * X * (X * X) - (b + b + b + b + (b + b + b + b)) * (X * Z * (Z * Z))
def dbZ (b X Z:F):F:=(Z + Z + (Z + Z)) * (X * X * X + b * (Z * Z * Z))
def daZ (X Z U V:F):F:=(X * V - U * Z) * (X * V - U * Z)
def daX (b x X Z U V:F):F:=((X * V + U * Z) * (X * U) + (b + b) * (Z * V * (Z * V))) + ((X * V + U * Z) * (X * U) + (b + b) * (Z * V * (Z * V))) - x * daZ X Z U V
variable [DecidableEq F]
theorem dbl_rep (ha:C.a = 0) {P:Option (F × F)} (hP:C.on P) {X Z:F} (h:Rep X Z P):Rep (dbX C.b X Z) (dbZ C.b X Z) (C.add P P):=by
 cases P with
 | none =>
  have h:Z = 0:=h
  subst h
  show dbZ C.b X 0 = 0
  unfold dbZ;grind
 | some p =>
  have h:X = p.1 * Z:=h
  have hp:p.2 * p.2 = p.1 * p.1 * p.1 + C.a * p.1 + C.b:=hP
  rcases C.add_cases hP hP with ⟨ho,e⟩ | ⟨ho,l,hl,e⟩
  ·rw [e]
   show dbZ C.b X Z = 0
   obtain ⟨_,h2⟩:=ho
   have h3:p.2 = 0:=by
    have:(1 + 1) * p.2 = 0:=by grind
    rcases C.dom this with h | h
    ·exact absurd h C.two
    ·exact h
   unfold dbZ
   subst h
   grind
  ·rw [e]
   show dbX C.b X Z = (l * l - p.1 - p.1) * dbZ C.b X Z
   obtain ⟨_,h2⟩:=hl
   unfold dbX dbZ
   subst h
   have h3:p.1 * p.1 * p.1 = p.2 * p.2 - C.b:=by grind
   have h4:l * (p.2 + p.2) = p.1 * p.1 + p.1 * p.1 + p.1 * p.1:=by grind
   have h5:(l * (p.2 + p.2)) * (l * (p.2 + p.2)) = (p.1 * p.1 + p.1 * p.1 + p.1 * p.1) * (p.1 * p.1 + p.1 * p.1 + p.1 * p.1):=by rw [h4]
   grind
theorem dad_rep (ha:C.a = 0) {P:Option (F × F)} {s:F × F} (hP:C.on P) (hs:C.on (some s)) {X Z U V:F} (h:Rep X Z P) (k:Rep U V (C.add P (some s))) :
  Rep (daX C.b s.1 X Z U V) (daZ X Z U V) (C.add P (C.add P (some s))):=by
 cases P with
 | none =>
  have h:Z = 0:=h
  have k:U = s.1 * V:=k
  subst h;subst k
  show daX C.b s.1 X 0 (s.1 * V) V = s.1 * daZ X 0 (s.1 * V) V
  unfold daX daZ;grind
 | some p =>
  have h:X = p.1 * Z:=h
  have hb:=C.back hP hs
  have hq:=C.on_add hP hs
  generalize hQ:C.add (some p) (some s) = Q at k hb hq
  cases Q with
  | none =>
   have k:V = 0:=k
   have he:neg (some p) = some s:=by
    rw [C.add_zero] at hb;exact hb
   have hx:p.1 = s.1:=by
    have:=Option.some.inj he
    rw [<-this]
   subst k;subst h
   show daX C.b s.1 (p.1 * Z) Z U 0 = p.1 * daZ (p.1 * Z) Z U 0
   unfold daX daZ
   rw [hx];grind
  | some q =>
   have k:U = q.1 * V:=k
   have hp2:p.2 * p.2 = p.1 * p.1 * p.1 + C.a * p.1 + C.b:=hP
   have hq2:q.2 * q.2 = q.1 * q.1 * q.1 + C.a * q.1 + C.b:=hq
   rcases C.add_cases hP hq with ⟨ho,e⟩ | ⟨ho,l,hl,e⟩
   ·rw [e]
    show daZ X Z U V = 0
    obtain ⟨h1,_⟩:=ho
    unfold daZ
    subst h;subst k
    rw [h1];grind
   ·rw [e]
    show daX C.b s.1 X Z U V = (l * l - p.1 - q.1) * daZ X Z U V
    by_cases hx:p.1 = q.1
    ·
     exfalso
     have hy:p.2 = q.2:=by
      have h3:(p.2 - q.2) * (p.2 + q.2) = 0:=by rw [hx] at hp2;grind
      rcases C.dom h3 with h4 | h4
      ·grind
      ·exact absurd ⟨hx,h4⟩ ho
     have hpq:p = q:=Prod.ext hx hy
     subst hpq
     have hn:C.add (neg (some p)) (some p) = none:=by
      have:=C.add_comm (C.on_neg hP) hP
      rw [this,C.add_neg]
     rw [hn] at hb
     cases hb
    ·rcases C.add_cases (C.on_neg hP) hq with ⟨ho2,_⟩ | ⟨ho2,m,hm,e2⟩
     ·exact absurd ho2.1 hx
     ·have e3:some (by' m (p.1,0 - p.2) q) = some s:=by rw [<-e2];exact hb
      have hs1:s.1 = m * m - p.1 - q.1:=by rw [<-Option.some.inj e3];rfl
      obtain ⟨l1,_⟩:=hl
      obtain ⟨m1,_⟩:=hm
      have m1:0 - p.2 - q.2 = m * (p.1 - q.1):=m1
      have l2:(l * (p.1 - q.1)) * (l * (p.1 - q.1)) = (p.2 - q.2) * (p.2 - q.2):=by rw [l1]
      have m2:(m * (p.1 - q.1)) * (m * (p.1 - q.1)) = (p.2 + q.2) * (p.2 + q.2):=by rw [<-m1];grind
      unfold daX daZ
      subst h;subst k
      rw [hs1]
      have key:(p.1 + q.1) * (p.1 * q.1) + (C.b + C.b) + ((p.1 + q.1) * (p.1 * q.1) + (C.b + C.b)) = (l * l - p.1 - q.1) * ((p.1 - q.1) * (p.1 - q.1)) + (m * m - p.1 - q.1) * ((p.1 - q.1) * (p.1 - q.1)):=by grind
      grind
def lad (b x:F):List Bool->F × F × F × F
 | []=>(1,0,x,1)
 | false :: r=>let s:=lad b x r;(dbX b s.1 s.2.1,dbZ b s.1 s.2.1,daX b x s.1 s.2.1 s.2.2.1 s.2.2.2,daZ s.1 s.2.1 s.2.2.1 s.2.2.2)
 | true :: r=>let s:=lad b x r;(daX b x s.1 s.2.1 s.2.2.1 s.2.2.2,daZ s.1 s.2.1 s.2.2.1 s.2.2.2,dbX b s.2.2.1 s.2.2.2,dbZ b s.2.2.1 s.2.2.2)
def bval:List Bool->Nat
 | []=>0
 | false :: r=>2 * bval r
 | true :: r=>2 * bval r + 1
theorem lad_rep (ha:C.a = 0) {s:F × F} (hs:C.on (some s)):∀ l:List Bool,Rep (lad C.b s.1 l).1 (lad C.b s.1 l).2.1 (C.mul (bval l) (some s))/\Rep (lad C.b s.1 l).2.2.1 (lad C.b s.1 l).2.2.2 (C.mul (bval l + 1) (some s))
 | []=>⟨rfl,by rw [show bval [] + 1 = 1 from rfl,C.mul_one];show s.1 = s.1 * 1;grind⟩
 | d :: r=>by
  obtain ⟨h1,h2⟩:=lad_rep ha hs r
  have o1:=C.on_mul hs (bval r)
  have o2:=C.on_mul hs (bval r + 1)
  have e1:C.mul (bval r + 1) (some s) = C.add (C.mul (bval r) (some s)) (some s):=by rw [C.mul_add hs,C.mul_one]
  have hd:=C.dbl_rep ha o1 h1
  have hd2:=C.dbl_rep ha o2 h2
  have ha2:=C.dad_rep ha o1 hs h1 (by rw [<-e1];exact h2)
  rw [<-e1,<-C.mul_add hs] at ha2
  rw [<-C.mul_add hs] at hd hd2
  cases d with
  | false =>
   refine ⟨?_,?_⟩
   ·rw [show bval (false :: r) = bval r + bval r by show 2 * bval r = _;omega];exact hd
   ·rw [show bval (false :: r) + 1 = bval r + (bval r + 1) by show 2 * bval r + 1 = _;omega];exact ha2
  | true =>
   refine ⟨?_,?_⟩
   ·rw [show bval (true :: r) = bval r + (bval r + 1) by show 2 * bval r + 1 = _;omega];exact ha2
   ·rw [show bval (true :: r) + 1 = bval r + 1 + (bval r + 1) by show 2 * bval r + 1 + 1 = _;omega];exact hd2
def dgr:Nat->Nat
 | 0=>1
 | n + 1=>4 * dgr n + 1
open Po in
theorem lad_pd (b:F):∀ l:List Bool,Pd (dgr l.length) (fun x=>(lad b x l).1)/\Pd (dgr l.length) (fun x=>(lad b x l).2.1)/\Pd (dgr l.length) (fun x=>(lad b x l).2.2.1)/\Pd (dgr l.length) (fun x=>(lad b x l).2.2.2)
 | []=>⟨(pd_const 1).mono (by decide),(pd_const 0).mono (by decide),pd_id,(pd_const 1).mono (by decide)⟩
 | d :: r=>by
  obtain ⟨h1,h2,h3,h4⟩:=lad_pd b r
  generalize hD:dgr r.length = D at h1 h2 h3 h4
  have hD':dgr (d :: r).length = 4 * D + 1:=by show 4 * dgr r.length + 1 = _;rw [hD]
  rw [hD']
  have two:∀ {f g:F->F},Pd D f->Pd D g->Pd (2 * D) (fun x=>f x * g x):=fun hf hg=>(hf.mul hg).mono (by omega)
  have four:∀ {f g:F->F},Pd (2 * D) f->Pd (2 * D) g->Pd (4 * D) (fun x=>f x * g x):=fun hf hg=>(hf.mul hg).mono (by omega)
  have dx:∀ {f g:F->F},Pd D f->Pd D g->Pd (4 * D + 1) (fun x=>dbX b (f x) (g x)):=fun {f g} hf hg =>
   ((four (two hf hf) (two hf hf)).sub ((four (two hf hg) (two hg hg)).scale (b + b + b + b + (b + b + b + b)))).mono (by omega)
  have dz:∀ {f g:F->F},Pd D f->Pd D g->Pd (4 * D + 1) (fun x=>dbZ b (f x) (g x)):=fun {f g} hf hg =>
   ((((hg.add hg).add (hg.add hg)).mul ((((two hf hf).mul hf).mono (show 2 * D + D <= 3 * D by omega)).add ((((two hg hg).mul hg).mono (show 2 * D + D <= 3 * D by omega)).scale b))).mono (by omega))
  have az:∀ {f g u v:F->F},Pd D f->Pd D g->Pd D u->Pd D v->Pd (4 * D) (fun x=>daZ (f x) (g x) (u x) (v x)):=fun hf hg hu hv =>
   four ((two hf hv).sub (two hu hg)) ((two hf hv).sub (two hu hg))
  have ax:∀ {f g u v:F->F},Pd D f->Pd D g->Pd D u->Pd D v->Pd (4 * D + 1) (fun x=>daX b x (f x) (g x) (u x) (v x)):=fun {f g u v} hf hg hu hv=>by
   have one:Pd (4 * D) (fun x=>(f x * v x + u x * g x) * (f x * u x) + (b + b) * (g x * v x * (g x * v x))):=(four ((two hf hv).add (two hu hg)) (two hf hu)).add ((four (two hg hv) (two hg hv)).scale (b + b))
   exact ((one.add one).mono (by omega)).sub ((pd_id.mul (az hf hg hu hv)).mono (by omega))
  cases d with
  | false=>exact ⟨dx h1 h2,dz h1 h2,ax h1 h2 h3 h4,(az h1 h2 h3 h4).mono (by omega)⟩
  | true=>exact ⟨ax h1 h2 h3 h4,(az h1 h2 h3 h4).mono (by omega),dx h3 h4,dz h3 h4⟩
theorem two_y {x:F}:∀ {l:List (F × F)},l.Nodup->(∀ p ∈ l,C.on (some p)/\p.1 = x)->l.length <= 2
 | [],_,_=>by simp
 | [_],_,_=>by simp
 | [_,_],_,_=>by simp
 | p :: q :: s :: r,hn,h=>by
  exfalso
  have hp:=h p (by simp)
  have hq:=h q (by simp)
  have hs:=h s (by simp)
  have opp:∀ {u v:F × F},C.on (some u)/\u.1 = x->C.on (some v)/\v.1 = x->u ≠ v->u.2 + v.2 = 0:=fun {u v} hu hv hne=>by
   have h1:u.2 * u.2 = u.1 * u.1 * u.1 + C.a * u.1 + C.b:=hu.1
   have h2:v.2 * v.2 = v.1 * v.1 * v.1 + C.a * v.1 + C.b:=hv.1
   rw [hu.2] at h1
   rw [hv.2] at h2
   have h3:(u.2 - v.2) * (u.2 + v.2) = 0:=by grind
   rcases C.dom h3 with h4 | h4
   ·exact absurd (Prod.ext (hu.2.trans hv.2.symm) (by grind)) hne
   ·exact h4
  simp only [List.nodup_cons,List.mem_cons,not_or] at hn
  have e1:=opp hp hq hn.1.1
  have e2:=opp hp hs hn.1.2.1
  exact hn.2.1.1 (Prod.ext (hq.2.trans hs.2.symm) (by grind))
theorem xs_of:∀ (n:Nat) (l:List (F × F)),l.length <= n->l.Nodup->(∀ p ∈ l,C.on (some p))->∃ xs:List F,xs.Nodup/\(∀ x ∈ xs,∃ p ∈ l,p.1 = x)/\l.length <= 2 * xs.length
 | _,[],_,_,_=>⟨[],List.nodup_nil,fun x hx=>(by cases hx),by simp⟩
 | 0,p :: r,hl,_,_=>by simp at hl
 | n + 1,p :: r,hl,hn,ho=>by
  have hlen:∀ l:List (F × F),l.length = (l.filter (fun q=>q.1 = p.1)).length + (l.filter (fun q=>¬ q.1 = p.1)).length:=fun l=>by
   induction l with
   | nil=>rfl
   | cons a r ih =>
    by_cases h:a.1 = p.1
    ·simp [h,ih];omega
    ·simp [h,ih];omega
  have hsub:∀ q ∈ (p :: r).filter (fun q=>¬ q.1 = p.1),q ∈ p :: r/\q.1 ≠ p.1:=fun q hq=>by
   have:=List.mem_filter.1 hq
   exact ⟨this.1,by simpa using this.2⟩
  have h2:((p :: r).filter (fun q=>q.1 = p.1)).length <= 2:=C.two_y (x:=p.1) (hn.filter _) fun q hq=>by
   have:=List.mem_filter.1 hq
   exact ⟨ho q this.1,by simpa using this.2⟩
  have h1:1 <= ((p :: r).filter (fun q=>q.1 = p.1)).length:=by simp
  have h3:=hlen (p :: r)
  obtain ⟨xs,k1,k2,k3⟩:=xs_of n ((p :: r).filter (fun q=>¬ q.1 = p.1)) (by omega) (hn.filter _) fun q hq=>ho q (hsub q hq).1
  refine ⟨p.1 :: xs,List.nodup_cons.2 ⟨fun hx=>?_,k1⟩,fun x hx=>?_,by simp only [List.length_cons] at *;omega⟩
  ·obtain ⟨q,hq,e⟩:=k2 _ hx
   exact (hsub q hq).2 e
  ·rcases List.mem_cons.1 hx with rfl | hx
   ·exact ⟨p,by simp,rfl⟩
   ·obtain ⟨q,hq,e⟩:=k2 x hx
    exact ⟨q,(hsub q hq).1,e⟩
theorem tors_few (ha:C.a = 0) (bits:List Bool) {x:F} (hx:(lad C.b x bits).2.1 ≠ 0) {l:List (F × F)} (hn:l.Nodup) (hl:∀ p ∈ l,C.on (some p)/\C.mul (bval bits) (some p) = none) :
  l.length <= 2 * dgr bits.length:=by
 obtain ⟨xs,k1,k2,k3⟩:=C.xs_of l.length l (Nat.le_refl _) hn fun p hp=>(hl p hp).1
 have:=(lad_pd C.b bits).2.1.few (fun a b h=>C.dom h) k1 (fun y hy=>by
  obtain ⟨p,hp,e⟩:=k2 y hy
  subst e
  have h1:=(C.lad_rep ha (hl p hp).1 bits).1
  rw [(hl p hp).2] at h1
  exact h1) hx
 omega
end EC
end Go.Rq
namespace Go.Rq
open Go
structure Gr (G:Type) where
 add:G->G->G
 o:G
 neg:G->G
 comm:∀ a b,add a b = add b a
 assoc:∀ a b c,add (add a b) c = add a (add b c)
 zero:∀ a,add o a = a
 opp:∀ a,add a (neg a) = o
namespace Gr
variable {G:Type} (g:Gr G)
def nm:Nat->G->G
 | 0,_=>g.o
 | n + 1,a=>g.add (nm n a) a
theorem add_o (a:G):g.add a g.o = a:=by rw [g.comm,g.zero]
theorem four (a b c d:G):g.add (g.add a b) (g.add c d) = g.add (g.add a c) (g.add b d):=by
 rw [g.assoc,g.assoc,<-g.assoc b c d,g.comm b c,g.assoc c b d]
theorem cancel {a b c:G} (h:g.add a b = g.add a c):b = c:=by
 have h1:g.add (g.neg a) (g.add a b) = g.add (g.neg a) (g.add a c):=by rw [h]
 rw [<-g.assoc,<-g.assoc,g.comm (g.neg a) a,g.opp,g.zero,g.zero] at h1
 exact h1
theorem nm_one (a:G):g.nm 1 a = a:=g.zero a
theorem nm_add (a:G) (m:Nat):∀ n,g.nm (m + n) a = g.add (g.nm m a) (g.nm n a)
 | 0=>(g.add_o _).symm
 | n + 1=>by
  show g.add (g.nm (m + n) a) a = g.add (g.nm m a) (g.add (g.nm n a) a)
  rw [nm_add a m n,g.assoc]
theorem nm_o:∀ n,g.nm n g.o = g.o
 | 0=>rfl
 | n + 1=>by
  show g.add (g.nm n g.o) g.o = g.o
  rw [nm_o n,g.zero]
theorem nm_dist (a b:G):∀ n,g.nm n (g.add a b) = g.add (g.nm n a) (g.nm n b)
 | 0=>(g.zero _).symm
 | n + 1=>by
  show g.add (g.nm n (g.add a b)) (g.add a b) = g.add (g.add (g.nm n a) a) (g.add (g.nm n b) b)
  rw [nm_dist a b n,g.four]
theorem nm_mul (a:G) (m:Nat):∀ n,g.nm n (g.nm m a) = g.nm (n * m) a
 | 0=>by rw [Nat.zero_mul];rfl
 | n + 1=>by
  show g.add (g.nm n (g.nm m a)) (g.nm m a) = _
  rw [nm_mul a m n,Nat.succ_mul,g.nm_add]
theorem nm_mod {r:Nat} {a:G} (h:g.nm r a = g.o) (n:Nat):g.nm (n % r) a = g.nm n a:=by
 have e:g.nm n a = g.nm (n / r * r + n % r) a:=by rw [Nat.mul_comm,Nat.div_add_mod]
 rw [e,g.nm_add,<-g.nm_mul,h,g.nm_o,g.zero]
theorem nm_eq {r:Nat} {a:G} (h:g.nm r a = g.o) {m n:Nat} (e:m % r = n % r):g.nm m a = g.nm n a:=by
 rw [<-g.nm_mod h m,<-g.nm_mod h n,e]
theorem prime_dvd {r:Nat} (inv:∀ n,¬ r ∣ n->∃ m,n * m % r = 1 % r) {a:G} (h:g.nm r a = g.o) (ha:a ≠ g.o) {n:Nat} (hn:g.nm n a = g.o):r ∣ n:=by
 by_cases hd:r ∣ n
 ·exact hd
 ·obtain ⟨m,hm⟩:=inv n hd
  exfalso
  apply ha
  have h1:g.nm (m * n) a = g.o:=by rw [<-g.nm_mul,hn,g.nm_o]
  rw [Nat.mul_comm,g.nm_eq h hm,g.nm_one] at h1
  exact h1
end Gr
structure Hm {G:Type} (g:Gr G) where
 f:G->G
 add:∀ a b,f (g.add a b) = g.add (f a) (f b)
namespace Hm
variable {G:Type} {g:Gr G} (u:Hm g)
theorem zero:u.f g.o = g.o:=by
 have h:=u.add g.o g.o
 rw [g.zero] at h
 have h2:g.add (u.f g.o) g.o = g.add (u.f g.o) (u.f g.o):=by rw [g.add_o];exact h
 exact (g.cancel h2).symm
theorem nm (n:Nat) (a:G):u.f (g.nm n a) = g.nm n (u.f a):=by
 induction n with
 | zero=>exact u.zero
 | succ n ih =>
  show u.f (g.add (g.nm n a) a) = g.add (g.nm n (u.f a)) (u.f a)
  rw [u.add,ih]
def sh (m:Nat) (a:G):G:=g.add (u.f a) (g.nm m a)
def vl (a:G):List Nat->G
 | []=>g.o
 | c :: r=>g.add (g.nm c a) (u.f (vl a r))
def mulC (m:Nat):Nat->List Nat->List Nat
 | k,[]=>[k]
 | k,c :: r=>(k + m * c) :: mulC m c r
theorem vl_mulC (a:G) (m:Nat):∀ (l:List Nat) (k:Nat),u.vl a (mulC m k l) = g.add (g.nm k a) (g.add (u.f (u.vl a l)) (g.nm m (u.vl a l)))
 | [],k=>by
  show g.add (g.nm k a) (u.f g.o) = g.add (g.nm k a) (g.add (u.f g.o) (g.nm m g.o))
  rw [g.nm_o,g.add_o]
 | c :: r,k=>by
  show g.add (g.nm (k + m * c) a) (u.f (u.vl a (mulC m c r))) = g.add (g.nm k a) (g.add (u.f (g.add (g.nm c a) (u.f (u.vl a r)))) (g.nm m (g.add (g.nm c a) (u.f (u.vl a r)))))
  rw [vl_mulC a m r c,g.nm_add,g.assoc,g.nm_dist,g.nm_mul]
  congr 1
  simp only [u.add,u.nm]
  rw [g.comm (g.add (g.nm c (u.f a)) (u.f (u.f (u.vl a r)))) _,g.assoc]
  congr 1
  rw [<-g.assoc,g.comm (g.nm m (u.f (u.vl a r))) _]
theorem sh_vl (a:G) (m:Nat) (l:List Nat):u.sh m (u.vl a l) = u.vl a (mulC m 0 l):=by
 rw [u.vl_mulC]
 show _ = g.add g.o _
 rw [g.zero];rfl
theorem vl_one (a:G):u.vl a [1] = a:=by
 show g.add (g.nm 1 a) (u.f g.o) = a
 rw [u.zero,g.add_o,g.nm_one]
theorem vl_eq {r:Nat} {a:G} (h:g.nm r a = g.o):∀ {l k:List Nat},l.map (· % r) = k.map (· % r)->u.vl a l = u.vl a k
 | [],[],_=>rfl
 | [],_ :: _,e=>by simp at e
 | _ :: _,[],e=>by simp at e
 | c :: l,d :: k,e=>by
  simp only [List.map_cons,List.cons.injEq] at e
  show g.add (g.nm c a) (u.f (u.vl a l)) = g.add (g.nm d a) (u.f (u.vl a k))
  rw [g.nm_eq h e.1,vl_eq h e.2]
theorem nm_vl {r:Nat} {a:G} (h:g.nm r a = g.o):∀ l:List Nat,g.nm r (u.vl a l) = g.o
 | []=>g.nm_o r
 | c :: l=>by
  show g.nm r (g.add (g.nm c a) (u.f (u.vl a l))) = g.o
  rw [g.nm_dist,g.nm_mul,Nat.mul_comm,<-g.nm_mul,h,g.nm_o,<-u.nm,nm_vl h l,u.zero,g.zero]
theorem split {r:Nat} {a:G} (h:g.nm r a = g.o) (hphi:g.add (u.f (u.f (u.f (u.f a)))) a = u.f (u.f a)) {m1 m2 m3 m4:Nat}
  (hm:(mulC m4 0 (mulC m3 0 (mulC m2 0 (mulC m1 0 [1])))).map (· % r) = [1 % r,0 % r,(r - 1) % r,0 % r,1 % r]) (hr:0 < r) :
  u.sh m1 a = g.o∨∃ c m,(m = m2∨m = m3∨m = m4)/\g.nm r c = g.o/\c ≠ g.o/\u.sh m c = g.o/\∃ l,c = u.vl a l:=by
 have e1:u.sh m1 a = u.vl a (mulC m1 0 [1]):=by rw [<-u.sh_vl,u.vl_one]
 have e2:=u.sh_vl a m2 (mulC m1 0 [1])
 have e3:=u.sh_vl a m3 (mulC m2 0 (mulC m1 0 [1]))
 have e4:=u.sh_vl a m4 (mulC m3 0 (mulC m2 0 (mulC m1 0 [1])))
 have hz:u.vl a (mulC m4 0 (mulC m3 0 (mulC m2 0 (mulC m1 0 [1])))) = g.o:=by
  rw [u.vl_eq h (l:=mulC m4 0 (mulC m3 0 (mulC m2 0 (mulC m1 0 [1])))) (k:=[1,0,r - 1,0,1]) hm]
  show g.add (g.nm 1 a) (u.f (g.add (g.nm 0 a) (u.f (g.add (g.nm (r - 1) a) (u.f (g.add (g.nm 0 a) (u.f (u.vl a [1])))))))) = g.o
  rw [u.vl_one]
  have z0:g.nm 0 a = g.o:=rfl
  rw [z0,g.zero,g.zero,g.nm_one,u.add,u.add,u.nm,u.nm,g.comm (g.nm (r - 1) (u.f (u.f a))) _,<-g.assoc,g.comm a,hphi,g.comm,]
  have:g.add (g.nm (r - 1) (u.f (u.f a))) (u.f (u.f a)) = g.nm (r - 1 + 1) (u.f (u.f a)):=rfl
  rw [this,Nat.sub_add_cancel hr,<-u.nm,<-u.nm,h,u.zero,u.zero]
 by_cases h1:u.vl a (mulC m1 0 [1]) = g.o
 ·exact .inl (e1.trans h1)
 ·refine .inr ?_
  by_cases h2:u.vl a (mulC m2 0 (mulC m1 0 [1])) = g.o
  ·exact ⟨_,m2,.inl rfl,u.nm_vl h _,h1,e2.trans h2,_,rfl⟩
  ·by_cases h3:u.vl a (mulC m3 0 (mulC m2 0 (mulC m1 0 [1]))) = g.o
   ·exact ⟨_,m3,.inr (.inl rfl),u.nm_vl h _,h2,e3.trans h3,_,rfl⟩
   ·exact ⟨_,m4,.inr (.inr rfl),u.nm_vl h _,h3,e4.trans hz,_,rfl⟩
theorem sh_add (m:Nat) (a b:G):u.sh m (g.add a b) = g.add (u.sh m a) (u.sh m b):=by
 unfold sh
 rw [u.add,g.nm_dist,g.four]
theorem sh_eig {l:Nat} {a:G} (h:u.f a = g.nm l a) (m n:Nat):u.sh m (g.nm n a) = g.nm (n * (l + m)) a:=by
 unfold sh
 rw [u.nm,h,g.nm_mul,g.nm_mul,<-g.nm_add,Nat.mul_add,Nat.mul_comm m n]
theorem eig_of {r l m:Nat} {a:G} (h:g.nm r a = g.o) (hs:u.sh m a = g.o) (hlm:(l + m) % r = 0):u.f a = g.nm l a:=by
 have h1:g.add (g.nm m a) (u.f a) = g.add (g.nm m a) (g.nm l a):=by
  rw [g.comm]
  have:g.add (u.f a) (g.nm m a) = g.o:=hs
  rw [this,<-g.nm_add,<-g.nm_mod h,Nat.add_comm,hlm];rfl
 exact g.cancel h1
theorem apart3 {r:Nat} (hr:∀ a b,r ∣ a * b->r ∣ a∨r ∣ b) (inv:∀ n,¬ r ∣ n->∃ m,n * m % r = 1 % r) {x y z:G} (hx:g.nm r x = g.o) (hy:g.nm r y = g.o) (hz:g.nm r z = g.o)
  (nx:x ≠ g.o) (ny:y ≠ g.o) (nz:z ≠ g.o) {l1 l2 l3 m1 m2:Nat} (ex:u.f x = g.nm l1 x) (ey:u.f y = g.nm l2 y) (ez:u.f z = g.nm l3 z)
  (h1:r ∣ l1 + m1) (h2:r ∣ l2 + m2) (d1:¬ r ∣ l2 + m1) (d2:¬ r ∣ l3 + m1) (d3:¬ r ∣ l3 + m2) {a b c:Nat} (h:g.add (g.nm a x) (g.add (g.nm b y) (g.nm c z)) = g.o):r ∣ a/\r ∣ b/\r ∣ c:=by
 have o0:∀ m,u.sh m g.o = g.o:=fun m=>by unfold sh;rw [u.zero,g.zero,g.nm_o]
 have kill:∀ {w:G} {k:Nat},g.nm r w = g.o->r ∣ k->g.nm k w = g.o:=fun {w k} hw hk=>by
  obtain ⟨q,rfl⟩:=hk
  rw [Nat.mul_comm,<-g.nm_mul,hw,g.nm_o]
 have s1:=congrArg (u.sh m1) h
 rw [u.sh_add,u.sh_add,u.sh_eig ex,u.sh_eig ey,u.sh_eig ez,o0,kill hx (Nat.dvd_trans h1 (Nat.dvd_mul_left _ _)),g.zero] at s1
 have s2:=congrArg (u.sh m2) s1
 rw [u.sh_add,u.sh_eig ey,u.sh_eig ez,o0,kill hy (Nat.dvd_trans h2 (Nat.dvd_mul_left _ _)),g.zero] at s2
 have hc:r ∣ c:=by
  rcases hr _ _ (Gr.prime_dvd g inv hz nz s2) with h3 | h3
  ·rcases hr _ _ h3 with h4 | h4
   ·exact h4
   ·exact absurd h4 d2
  ·exact absurd h3 d3
 rw [kill hz (Nat.dvd_trans hc (Nat.dvd_mul_right _ _)),g.add_o] at s1
 have hb:r ∣ b:=by
  rcases hr _ _ (Gr.prime_dvd g inv hy ny s1) with h4 | h4
  ·exact h4
  ·exact absurd h4 d1
 rw [kill hz hc,kill hy hb,g.add_o,g.add_o] at h
 exact ⟨Gr.prime_dvd g inv hx nx h,hb,hc⟩
def comb (g:Gr G) (x y z:G) (r n:Nat):G:=g.add (g.nm (n % r) x) (g.add (g.nm (n / r % r) y) (g.nm (n / (r * r)) z))
theorem comb_inj {r:Nat} (hr0:0 < r) {x y z:G} (hx:g.nm r x = g.o) (hy:g.nm r y = g.o) (hz:g.nm r z = g.o)
  (ind:∀ a b c,g.add (g.nm a x) (g.add (g.nm b y) (g.nm c z)) = g.o->r ∣ a/\r ∣ b/\r ∣ c) {n k:Nat} (hn:n < r * r * r) (hk:k < r * r * r) (e:comb g x y z r n = comb g x y z r k):n = k:=by
 have neg:∀ {w:G} (j:Nat),g.nm r w = g.o->g.add (g.nm j w) (g.nm ((r - 1) * j) w) = g.o:=fun {w} j hw=>by
  rw [<-g.nm_add,show j + (r - 1) * j = j * r by rw [Nat.sub_mul,Nat.one_mul,Nat.mul_comm j r,Nat.add_comm,Nat.sub_add_cancel (Nat.le_mul_of_pos_left j hr0)],<-g.nm_mul,hw,g.nm_o]
 have h:g.add (g.nm (n % r + (r - 1) * (k % r)) x) (g.add (g.nm (n / r % r + (r - 1) * (k / r % r)) y) (g.nm (n / (r * r) + (r - 1) * (k / (r * r))) z)) = g.o:=by
  rw [g.nm_add,g.nm_add,g.nm_add,g.four (g.nm (n / r % r) y),g.four (g.nm (n % r) x)]
  show g.add (comb g x y z r n) _ = _
  rw [e]
  unfold comb
  rw [g.four,g.four (g.nm (k / r % r) y),neg _ hx,neg _ hy,neg _ hz,g.zero,g.zero]
 obtain ⟨h1,h2,h3⟩:=ind _ _ _ h
 have same:∀ {i j:Nat},i < r->j < r->r ∣ i + (r - 1) * j->i = j:=fun {i j} hi hj hd=>by
  have e1:i + (r - 1) * j + j = i + r * j:=by
   rw [Nat.sub_mul,Nat.one_mul,Nat.add_assoc,Nat.sub_add_cancel (Nat.le_mul_of_pos_left j hr0)]
  obtain ⟨q,hq⟩:=hd
  rw [hq] at e1
  have e2:(r * q + j) % r = (i + r * j) % r:=by rw [e1]
  rw [Nat.mul_add_mod,Nat.add_mul_mod_self_left,Nat.mod_eq_of_lt hi,Nat.mod_eq_of_lt hj] at e2
  exact e2.symm
 have lt3:∀ {n},n < r * r * r->n / (r * r) < r:=fun {n} h=>(Nat.div_lt_iff_lt_mul (Nat.mul_pos hr0 hr0)).2 (by rw [Nat.mul_comm r (r * r)];exact h)
 have q1:=same (Nat.mod_lt _ hr0) (Nat.mod_lt _ hr0) h1
 have q2:=same (Nat.mod_lt _ hr0) (Nat.mod_lt _ hr0) h2
 have q3:=same (lt3 hn) (lt3 hk) h3
 have f1:=Nat.div_add_mod n r
 have f2:=Nat.div_add_mod k r
 have g1:=Nat.div_add_mod (n / r) r
 have g2:=Nat.div_add_mod (k / r) r
 rw [Nat.div_div_eq_div_mul] at g1 g2
 rw [<-f1,<-f2,<-g1,<-g2,q1,q2,q3]
end Hm
end Go.Rq
