/- Texts of the proof, joined. -/
import Derived.Test.YtnjocbcjejpklaaZrD
import Derived.Carry
import Derived.ProofKit
import Derived.ChangeSlices
import Derived.Deep.Slices
import Derived.ChangeSame
set_option linter.all false
namespace Go.Proofs.Ytnjocbcjejpklaa
open Go.Rq Go
set_option maxRecDepth 100000
set_option maxHeartbeats 4000000
theorem okSecond:(CallC.pure (cFld fdQ)).Ok Try.prog 38:=by
 intro args pre v e hp
 unfold cFld at e
 split at e
 rotate_left
 ·cases e
 cases e
 have hno:∀ h,CallOk Try.prog 38 [] h (.v1 (.agg fdQ)) h:=by
  refine pure_walk' tt_ok Try.func38 (by kernel_rfl) (by kernel_rfl) (by rfl) (by kernel_rfl) ?_
  refine evS_q mixed tt_ok GF1_ok 60 [] (same (p:=endN (.v1 (.agg fdQ)) (.v1 (.agg fdQ))) ⟨_,rfl,fun _=>rfl⟩ (by kernel_rfl))
 exact hno
def cI1:List AV->Option (List Prop × AV)
 | [.v1 (.agg [.ws .u64 6 x,.ws .u64 6 y,.one (.bo z)])]=>some ([],.v1 (.agg [q6 (eF (gN x)),q6 (eF (gN y)),.one (.bo z)]))
 | _=>none
def cI2:List AV->Option (List Prop × AV)
 | [.v1 (.agg [.ws .u64 6 x0,.ws .u64 6 x1,.ws .u64 6 y0,.ws .u64 6 y1,.one (.bo z)])]=>some ([],.v1 (.agg [q6 (eF (gN x0)),q6 (eF (gN x1)),q6 (eF (gN y0)),q6 (eF (gN y1)),.one (.bo z)]))
 | _=>none
def GI1:Ctx:=ctxL [(42,.pure cTo),(20,.pure cTo2)]
theorem GI1_ok:CtxOk Try.prog GI1:=ctxL_cons okTo <| ctxL_cons okTo2 ctxL_nil
theorem okI1:(CallC.pure cI1).Ok Try.prog 36:=by
 intro args pre v e hp
 unfold cI1 at e
 split at e
 rotate_left
 ·cases e
 rename_i x y z
 cases e
 refine pure_walk' tt_ok Try.func36 (by kernel_rfl) (by kernel_rfl) (by rfl) (by rfl) ?_
 refine evS_q mixed tt_ok GI1_ok 60 [] (same (p:=endN (.v1 (.agg [q6 (eF (gN x)),q6 (eF (gN y)),.one (.bo z)])) (.v1 (.agg [q6 (eF (gN x)),q6 (eF (gN y)),.one (.bo z)]))) ⟨_,rfl,fun _=>rfl⟩ (by kernel_rfl))
theorem okI2:(CallC.pure cI2).Ok Try.prog 40:=by
 intro args pre v e hp
 unfold cI2 at e
 split at e
 rotate_left
 ·cases e
 rename_i x0 x1 y0 y1 z
 cases e
 refine pure_walk' tt_ok Try.func40 (by kernel_rfl) (by kernel_rfl) (by rfl) (by rfl) ?_
 refine evS_q mixed tt_ok GI1_ok 60 [] (same (p:=endN (.v1 (.agg [q6 (eF (gN x0)),q6 (eF (gN x1)),q6 (eF (gN y0)),q6 (eF (gN y1)),.one (.bo z)])) (.v1 (.agg [q6 (eF (gN x0)),q6 (eF (gN x1)),q6 (eF (gN y0)),q6 (eF (gN y1)),.one (.bo z)]))) ⟨_,rfl,fun _=>rfl⟩ (by kernel_rfl))
def isE (x y:Nat->Nat) (z:Bool):Bool:=A2.isIn fourE rNm ⟨gN x,gN y,z⟩
def isQ (x0 x1 y0 y1:Nat->Nat) (z:Bool):Bool:=A2.isIn fourQ rNm ⟨⟨gN x0,gN x1⟩,⟨gN y0,gN y1⟩,z⟩
def lo1 (x y:Nat->Nat):Bool:=blB x && blB y
def lo2 (x0 x1 y0 y1:Nat->Nat):Bool:=blB x0 && (blB x1 && (blB y0 && blB y1))
def cLo1:List AV->Option (List Prop × AV)
 | [.v1 (.agg [.ws .u64 6 x,.ws .u64 6 y,.one (.bo z)])]=>some ([],.v1 (.sc (.bo (lo1 x y))))
 | _=>none
def cLo2:List AV->Option (List Prop × AV)
 | [.v1 (.agg [.ws .u64 6 x0,.ws .u64 6 x1,.ws .u64 6 y0,.ws .u64 6 y1,.one (.bo z)])]=>some ([],.v1 (.sc (.bo (lo2 x0 x1 y0 y1))))
 | _=>none
theorem okLo1:(CallC.pure cLo1).Ok Try.prog 33:=okB1
theorem okLo2:(CallC.pure cLo2).Ok Try.prog 37:=okB2
def cIn1:List AV->Option (List Prop × AV)
 | [.v1 (.agg [.ws .u64 6 x,.ws .u64 6 y,.one (.bo z)])]=>some ([],.v1 (.sc (.bo (lo1 x y && isE x y z))))
 | _=>none
def cIn2:List AV->Option (List Prop × AV)
 | [.v1 (.agg [.ws .u64 6 x0,.ws .u64 6 x1,.ws .u64 6 y0,.ws .u64 6 y1,.one (.bo z)])]=>some ([],.v1 (.sc (.bo (lo2 x0 x1 y0 y1 && isQ x0 x1 y0 y1 z))))
 | _=>none
def GIn1:Ctx:=ctxL [(33,.pure cLo1),(34,.pure (cFld fdE)),(36,.pure cI1),(35,.pure (inCE rNm))]
theorem GIn1_ok:CtxOk Try.prog GIn1:=ctxL_cons okLo1 <| ctxL_cons okFirst <| ctxL_cons okI1 <| ctxL_cons okInE ctxL_nil
def GIn2:Ctx:=ctxL [(37,.pure cLo2),(38,.pure (cFld fdQ)),(40,.pure cI2),(39,.pure (inCQ rNm))]
theorem GIn2_ok:CtxOk Try.prog GIn2:=ctxL_cons okLo2 <| ctxL_cons okSecond <| ctxL_cons okI2 <| ctxL_cons okInQ ctxL_nil
theorem isE_eq (x y:Nat->Nat) (z:Bool):A2.isIn fourE rNm ⟨dF (eF (gN x)),dF (eF (gN y)),z⟩ = isE x y z:=by rw [dF_eF,dF_eF];rfl
theorem isQ_eq (x0 x1 y0 y1:Nat->Nat) (z:Bool):A2.isIn fourQ rNm ⟨⟨dF (eF (gN x0)),dF (eF (gN x1))⟩,⟨dF (eF (gN y0)),dF (eF (gN y1))⟩,z⟩ = isQ x0 x1 y0 y1 z:=by rw [dF_eF,dF_eF,dF_eF,dF_eF];rfl
theorem okIn1:(CallC.pure cIn1).Ok Try.prog 16:=by
 intro args pre v e hp
 unfold cIn1 at e
 split at e
 rotate_left
 ·cases e
 rename_i x y z
 cases e
 refine pure_walk' tt_ok Try.func16 (by kernel_rfl) (by kernel_rfl) (by rfl) (by rfl) ?_
 cases h:lo1 x y
 ·refine evS_q mixed tt_ok GIn1_ok 60 [⟨1,2,.lit (.bo false)⟩] (same (p:=lo1 x y = false/\endN (.v1 (.sc (.bo false))) (.v1 (.sc (.bo (false && isE x y z))))) ?_ (by kernel_rfl))
  exact ⟨h,endB rfl⟩
 ·refine evS_q mixed tt_ok GIn1_ok 60 [⟨1,2,.lit (.bo true)⟩] (same (p:=lo1 x y = true/\fdE = fdE/\lp (eF (gN x))/\lp (eF (gN y))/\endN (.v1 (.sc (.bo (A2.isIn fourE rNm ⟨dF (eF (gN x)),dF (eF (gN y)),z⟩)))) (.v1 (.sc (.bo (true && isE x y z))))) ?_ (by kernel_rfl))
  exact ⟨h,rfl,lt_eF _,lt_eF _,endB (by rw [isE_eq,Bool.true_and])⟩
theorem okIn2:(CallC.pure cIn2).Ok Try.prog 17:=by
 intro args pre v e hp
 unfold cIn2 at e
 split at e
 rotate_left
 ·cases e
 rename_i x0 x1 y0 y1 z
 cases e
 refine pure_walk' tt_ok Try.func17 (by kernel_rfl) (by kernel_rfl) (by rfl) (by rfl) ?_
 cases h:lo2 x0 x1 y0 y1
 ·refine evS_q mixed tt_ok GIn2_ok 60 [⟨1,2,.lit (.bo false)⟩] (same (p:=lo2 x0 x1 y0 y1 = false/\endN (.v1 (.sc (.bo false))) (.v1 (.sc (.bo (false && isQ x0 x1 y0 y1 z))))) ?_ (by kernel_rfl))
  exact ⟨h,endB rfl⟩
 ·refine evS_q mixed tt_ok GIn2_ok 60 [⟨1,2,.lit (.bo true)⟩] (same (p:=lo2 x0 x1 y0 y1 = true/\fdQ = fdQ/\lp (eF (gN x0))/\lp (eF (gN x1))/\lp (eF (gN y0))/\lp (eF (gN y1))/\endN (.v1 (.sc (.bo (A2.isIn fourQ rNm ⟨⟨dF (eF (gN x0)),dF (eF (gN x1))⟩,⟨dF (eF (gN y0)),dF (eF (gN y1))⟩,z⟩)))) (.v1 (.sc (.bo (true && isQ x0 x1 y0 y1 z))))) ?_ (by kernel_rfl))
  exact ⟨h,rfl,lt_eF _,lt_eF _,lt_eF _,lt_eF _,endB (by rw [isQ_eq,Bool.true_and])⟩
end Go.Proofs.Ytnjocbcjejpklaa
namespace Go.Proofs.Ytnjocbcjejpklaa
open Go.Rq Go
set_option maxRecDepth 100000
theorem dG12 (a0 a1 a2 a3 a4 a5 a6 a7 a8 a9 a10 a11:Nat->Nat):d12 (eF (gN a0)) (eF (gN a1)) (eF (gN a2)) (eF (gN a3)) (eF (gN a4)) (eF (gN a5)) (eF (gN a6)) (eF (gN a7)) (eF (gN a8)) (eF (gN a9)) (eF (gN a10)) (eF (gN a11)) = g12 a0 a1 a2 a3 a4 a5 a6 a7 a8 a9 a10 a11:=by simp only [d12,d6,dF_eF]
theorem nv_vF1:nv (wd (1 % W)) = nv (vF 1):=by rw [nv_vF];exact nv_one
def GTo1:Ctx:=ctxL [(15,.pure cOf)]
theorem GTo1_ok:CtxOk Try.prog GTo1:=ctxL_cons okOf ctxL_nil
theorem okTOne:(CallC.pure (c12 (n12 1))).Ok Try.prog 8:=by
 intro args pre v e _
 unfold c12 at e
 split at e
 ·cases e
  refine pure_walk' tt_ok Try.func8 (by kernel_rfl) (by kernel_rfl) (by rfl) (by rfl) ?_
  refine evS_q mixed tt_ok GTo1_ok 60 [] ?_
  refine same (p:=endN (.v1 (v12 (wd (1 % W)) fz fz fz fz fz fz fz fz fz fz fz)) (.v1 (n12 1))) ?_ (by kernel_rfl)
  exact ⟨_,rfl,v12_val nv_vF1 zero_vF zero_vF zero_vF zero_vF zero_vF zero_vF zero_vF zero_vF zero_vF zero_vF zero_vF⟩
 ·cases e
def z12 (s:S12):Bool:=Nat.beq s.p.u.x.val 0 && (Nat.beq s.p.u.y.val 0 && (Nat.beq s.q.u.x.val 0 && (Nat.beq s.q.u.y.val 0 && (Nat.beq s.p.v.x.val 0 && (Nat.beq s.p.v.y.val 0 && (Nat.beq s.q.v.x.val 0 && (Nat.beq s.q.v.y.val 0 && (Nat.beq s.p.w.x.val 0 && (Nat.beq s.p.w.y.val 0 && (Nat.beq s.q.w.x.val 0 && (Nat.beq s.q.w.y.val 0)))))))))))
theorem z12_iff (s:S12):z12 s = true↔s = 0:=by
 unfold z12
 simp only [Bool.and_eq_true,Nat.beq_eq]
 constructor
 ·intro ⟨h0,h1,h2,h3,h4,h5,h6,h7,h8,h9,h10,h11⟩
  exact S12.ext (S6.ext (F2p.ext (Fin.ext h0) (Fin.ext h1)) (F2p.ext (Fin.ext h4) (Fin.ext h5)) (F2p.ext (Fin.ext h8) (Fin.ext h9))) (S6.ext (F2p.ext (Fin.ext h2) (Fin.ext h3)) (F2p.ext (Fin.ext h6) (Fin.ext h7)) (F2p.ext (Fin.ext h10) (Fin.ext h11)))
 ·intro h
  subst h
  exact ⟨rfl,rfl,rfl,rfl,rfl,rfl,rfl,rfl,rfl,rfl,rfl,rfl⟩
def invE (s:S12):Int:=bif z12 s then 6 else 0
theorem eqz (x:Fp):eqN W 6 (eF x) fz = Nat.beq x.val 0:=by
 have h:=eqW_beq (eF x) fz
 rw [Bool.and_true,zero_nv,nv_eF,enc_ne] at h
 exact h
theorem endPI {s t:S12} {c:V1} {i j:Int} (h:t = s) (e:c = v12 (vF (dF (eF t.p.u.x))) (vF (dF (eF t.p.u.y))) (vF (dF (eF t.q.u.x))) (vF (dF (eF t.q.u.y))) (vF (dF (eF t.p.v.x))) (vF (dF (eF t.p.v.y))) (vF (dF (eF t.q.v.x))) (vF (dF (eF t.q.v.y))) (vF (dF (eF t.p.w.x))) (vF (dF (eF t.p.w.y))) (vF (dF (eF t.q.w.x))) (vF (dF (eF t.q.w.y)))) (k:i = j):endN (.tup [c,.sc (.it i)]) (.tup [n12 s,.sc (.it j)]):=by
 subst h;subst e;subst k
 refine ⟨_,rfl,fun ρ=>?_⟩
 have:=v12_val (nvV (dF_eF t.p.u.x)) (nvV (dF_eF t.p.u.y)) (nvV (dF_eF t.q.u.x)) (nvV (dF_eF t.q.u.y)) (nvV (dF_eF t.p.v.x)) (nvV (dF_eF t.p.v.y)) (nvV (dF_eF t.q.v.x)) (nvV (dF_eF t.q.v.y)) (nvV (dF_eF t.p.w.x)) (nvV (dF_eF t.p.w.y)) (nvV (dF_eF t.q.w.x)) (nvV (dF_eF t.q.w.y)) ρ
 simp only [AV.val,List.map_cons,List.map_nil,this]
end Go.Proofs.Ytnjocbcjejpklaa
namespace Go.Proofs.Ytnjocbcjejpklaa
open Go.Rq Go
set_option maxRecDepth 100000
set_option maxHeartbeats 4000000
theorem as_T1 (F:S12->S12) {A s t:S12} (a:A = s) (h:t = F s):asP (cells12 (F A)) (cells12 t):=fun ρ=>by rw [h,a]
theorem as_T2 {A B s u t:S12} (a:A = s) (b:B = u) (h:t = s * u):asP (cells12 (S12.mul A B)) (cells12 t):=fun ρ=>by rw [h,a,b];rfl
theorem end_T {s t:S12} (h:s = t):endN (.v1 (.agg (cells12 s))) (.v1 (e12 t)):=⟨_,rfl,fun ρ=>by rw [h]⟩
abbrev wU:Nat->Nat:=wd (15132376222941642752 % W)
abbrev wA:Nat->Nat:=wd (5044125407647214251 % W)
abbrev wB:Nat->Nat:=wd (15132376222941642753 % W)
def nU:Nat:=nv wU
def nA:Nat:=nv wA
def nB:Nat:=nv wB
def smS (a:S12):S12:=S12.conj (a ^ nU)
def laE (a:S12):S12:=S12.conj a * S12.inv a
def laF (a:S12):S12:=S12.turns 2 (laE a) * laE a
def laX (f:S12):S12:=(f ^ nA) ^ nB
def laZ (x:S12):S12:=smS (smS x) * S12.conj x
def laO (f x:S12):S12:=((smS (laZ x) * f) * S12.turns 1 (laZ x)) * S12.turns 2 (smS x) * S12.turns 3 x
def lastS (a:S12):S12:=laO (laF a) (laX (laF a))
def GSmS:Ctx:=ctxL [(15,.pure cOf),(25,.pure cPw),(22,.pure (k121 S12.conj))]
theorem GSmS_ok:CtxOk Try.prog GSmS:=ctxL_cons okOf <| ctxL_cons okPow12 <| ctxL_cons okConj12 ctxL_nil
theorem okSmS:(CallC.pure (k121 smS)).Ok Try.prog 26:=by
 refine k121_ok Try.func26 (by kernel_rfl) (by kernel_rfl) fun a0 a1 a2 a3 a4 a5 a6 a7 a8 a9 a10 a11 ha0 ha1 ha2 ha3 ha4 ha5 ha6 ha7 ha8 ha9 ha10 ha11=>?_
 obtain ⟨t1,ht1⟩:∃ q_:S12,q_ = (d12 a0 a1 a2 a3 a4 a5 a6 a7 a8 a9 a10 a11) ^ nU:=⟨_,rfl⟩
 obtain ⟨t2,ht2⟩:∃ q_:S12,q_ = S12.conj t1:=⟨_,rfl⟩
 refine evS_q mixed tt_ok GSmS_ok 100 [⟨1,2,.as (eC12 t1)⟩,⟨1,3,.as (eC12 t2)⟩] ?_
 refine same (p:=asP (cells12 ((d12 a0 a1 a2 a3 a4 a5 a6 a7 a8 a9 a10 a11) ^ nv wU)) (eC12 t1)/\lp a0/\lp a1/\lp a2/\lp a3/\lp a4/\lp a5/\lp a6/\lp a7/\lp a8/\lp a9/\lp a10/\lp a11/\asP (cells12 (S12.conj (d12e t1))) (eC12 t2)/\eL12 t1 (endN (.v1 (.agg (eC12 t2))) (.v1 (e12 (smS (d12 a0 a1 a2 a3 a4 a5 a6 a7 a8 a9 a10 a11)))))) ?_ (by kernel_rfl)
 exact ⟨as_T1 (fun q=>q ^ nU) rfl ht1,ha0,ha1,ha2,ha3,ha4,ha5,ha6,ha7,ha8,ha9,ha10,ha11,as_T1 S12.conj (d12_eF _) ht2,lt_eF _,lt_eF _,lt_eF _,lt_eF _,lt_eF _,lt_eF _,lt_eF _,lt_eF _,lt_eF _,lt_eF _,lt_eF _,lt_eF _,end_T (by subst ht2 ht1;rfl)⟩
def GLa:Ctx:=ctxL [(15,.pure cOf),(25,.pure cPw),(22,.pure (k121 S12.conj)),(23,.pure (k121 S12.inv)),(14,.pure (k122 S12.mul)),(24,.pure cFr),(26,.pure (k121 smS))]
theorem GLa_ok:CtxOk Try.prog GLa:=ctxL_cons okOf <| ctxL_cons okPow12 <| ctxL_cons okConj12 <| ctxL_cons okInv12 <| ctxL_cons okMul12 <| ctxL_cons okFrob <| ctxL_cons okSmS ctxL_nil
theorem okLast:(CallC.pure (k121 lastS)).Ok Try.prog 13:=by
 refine k121_ok Try.func13 (by kernel_rfl) (by kernel_rfl) fun a0 a1 a2 a3 a4 a5 a6 a7 a8 a9 a10 a11 ha0 ha1 ha2 ha3 ha4 ha5 ha6 ha7 ha8 ha9 ha10 ha11=>?_
 obtain ⟨t1,ht1⟩:∃ q_:S12,q_ = S12.conj (d12 a0 a1 a2 a3 a4 a5 a6 a7 a8 a9 a10 a11):=⟨_,rfl⟩
 obtain ⟨t2,ht2⟩:∃ q_:S12,q_ = S12.inv (d12 a0 a1 a2 a3 a4 a5 a6 a7 a8 a9 a10 a11):=⟨_,rfl⟩
 obtain ⟨t3,ht3⟩:∃ q_:S12,q_ = t1 * t2:=⟨_,rfl⟩
 obtain ⟨t4,ht4⟩:∃ q_:S12,q_ = S12.turns 2 t3:=⟨_,rfl⟩
 obtain ⟨t5,ht5⟩:∃ q_:S12,q_ = t4 * t3:=⟨_,rfl⟩
 obtain ⟨t6,ht6⟩:∃ q_:S12,q_ = t5 ^ nA:=⟨_,rfl⟩
 obtain ⟨t7,ht7⟩:∃ q_:S12,q_ = t6 ^ nB:=⟨_,rfl⟩
 obtain ⟨t8,ht8⟩:∃ q_:S12,q_ = smS t7:=⟨_,rfl⟩
 obtain ⟨t9,ht9⟩:∃ q_:S12,q_ = smS t8:=⟨_,rfl⟩
 obtain ⟨t10,ht10⟩:∃ q_:S12,q_ = S12.conj t7:=⟨_,rfl⟩
 obtain ⟨t11,ht11⟩:∃ q_:S12,q_ = t9 * t10:=⟨_,rfl⟩
 obtain ⟨t12,ht12⟩:∃ q_:S12,q_ = smS t11:=⟨_,rfl⟩
 obtain ⟨t13,ht13⟩:∃ q_:S12,q_ = t12 * t5:=⟨_,rfl⟩
 obtain ⟨t14,ht14⟩:∃ q_:S12,q_ = S12.turns 1 t11:=⟨_,rfl⟩
 obtain ⟨t15,ht15⟩:∃ q_:S12,q_ = t13 * t14:=⟨_,rfl⟩
 obtain ⟨t16,ht16⟩:∃ q_:S12,q_ = S12.turns 2 t8:=⟨_,rfl⟩
 obtain ⟨t17,ht17⟩:∃ q_:S12,q_ = t15 * t16:=⟨_,rfl⟩
 obtain ⟨t18,ht18⟩:∃ q_:S12,q_ = S12.turns 3 t7:=⟨_,rfl⟩
 obtain ⟨t19,ht19⟩:∃ q_:S12,q_ = t17 * t18:=⟨_,rfl⟩
 refine evS_q mixed tt_ok GLa_ok 300 [⟨1,1,.as (eC12 t1)⟩,⟨1,3,.as (eC12 t2)⟩,⟨1,4,.as (eC12 t3)⟩,⟨2,1,.as (eC12 t4)⟩,⟨2,3,.as (eC12 t5)⟩,⟨3,2,.as (eC12 t6)⟩,⟨3,4,.as (eC12 t7)⟩,⟨4,1,.as (eC12 t8)⟩,⟨5,1,.as (eC12 t9)⟩,⟨5,3,.as (eC12 t10)⟩,⟨5,4,.as (eC12 t11)⟩,⟨6,1,.as (eC12 t12)⟩,⟨6,3,.as (eC12 t13)⟩,⟨10,4,.as (eC12 t14)⟩,⟨10,5,.as (eC12 t15)⟩,⟨10,4,.as (eC12 t16)⟩,⟨10,5,.as (eC12 t17)⟩,⟨10,4,.as (eC12 t18)⟩,⟨10,5,.as (eC12 t19)⟩] ?_
 refine same (p:=asP (cells12 (S12.conj (d12 a0 a1 a2 a3 a4 a5 a6 a7 a8 a9 a10 a11))) (eC12 t1)/\lp a0/\lp a1/\lp a2/\lp a3/\lp a4/\lp a5/\lp a6/\lp a7/\lp a8/\lp a9/\lp a10/\lp a11/\asP (cells12 (S12.inv (d12 a0 a1 a2 a3 a4 a5 a6 a7 a8 a9 a10 a11))) (eC12 t2)/\lp a0/\lp a1/\lp a2/\lp a3/\lp a4/\lp a5/\lp a6/\lp a7/\lp a8/\lp a9/\lp a10/\lp a11/\asP (cells12 (S12.mul (d12e t1) (d12e t2))) (eC12 t3)/\eL12 t1 (eL12 t2 (asP (cells12 (S12.turns 2 (d12e t3))) (eC12 t4)/\2 <= 12/\eL12 t3 (asP (cells12 (S12.mul (d12e t4) (d12e t3))) (eC12 t5)/\eL12 t4 (eL12 t3 (asP (cells12 ((d12e t5) ^ nv wA)) (eC12 t6)/\eL12 t5 (asP (cells12 ((d12e t6) ^ nv wB)) (eC12 t7)/\eL12 t6 (asP (cells12 (smS (d12e t7))) (eC12 t8)/\eL12 t7 (asP (cells12 (smS (d12e t8))) (eC12 t9)/\eL12 t8 (asP (cells12 (S12.conj (d12e t7))) (eC12 t10)/\eL12 t7 (asP (cells12 (S12.mul (d12e t9) (d12e t10))) (eC12 t11)/\eL12 t9 (eL12 t10 (asP (cells12 (smS (d12e t11))) (eC12 t12)/\eL12 t11 (asP (cells12 (S12.mul (d12e t12) (d12e t5))) (eC12 t13)/\eL12 t12 (eL12 t5 (asP (cells12 (S12.turns 1 (d12e t11))) (eC12 t14)/\1 <= 12/\eL12 t11 (asP (cells12 (S12.mul (d12e t13) (d12e t14))) (eC12 t15)/\eL12 t13 (eL12 t14 (asP (cells12 (S12.turns 2 (d12e t8))) (eC12 t16)/\2 <= 12/\eL12 t8 (asP (cells12 (S12.mul (d12e t15) (d12e t16))) (eC12 t17)/\eL12 t15 (eL12 t16 (asP (cells12 (S12.turns 3 (d12e t7))) (eC12 t18)/\3 <= 12/\eL12 t7 (asP (cells12 (S12.mul (d12e t17) (d12e t18))) (eC12 t19)/\eL12 t17 (eL12 t18 (endN (.v1 (.agg (eC12 t19))) (.v1 (e12 (lastS (d12 a0 a1 a2 a3 a4 a5 a6 a7 a8 a9 a10 a11))))))))))))))))))))))))))))) ?_ (by kernel_rfl)
 exact ⟨as_T1 S12.conj rfl ht1,ha0,ha1,ha2,ha3,ha4,ha5,ha6,ha7,ha8,ha9,ha10,ha11,as_T1 S12.inv rfl ht2,ha0,ha1,ha2,ha3,ha4,ha5,ha6,ha7,ha8,ha9,ha10,ha11,as_T2 (d12_eF _) (d12_eF _) ht3,lt_eF _,lt_eF _,lt_eF _,lt_eF _,lt_eF _,lt_eF _,lt_eF _,lt_eF _,lt_eF _,lt_eF _,lt_eF _,lt_eF _,lt_eF _,lt_eF _,lt_eF _,lt_eF _,lt_eF _,lt_eF _,lt_eF _,lt_eF _,lt_eF _,lt_eF _,lt_eF _,lt_eF _,as_T1 (S12.turns 2) (d12_eF _) ht4,by decide,lt_eF _,lt_eF _,lt_eF _,lt_eF _,lt_eF _,lt_eF _,lt_eF _,lt_eF _,lt_eF _,lt_eF _,lt_eF _,lt_eF _,as_T2 (d12_eF _) (d12_eF _) ht5,lt_eF _,lt_eF _,lt_eF _,lt_eF _,lt_eF _,lt_eF _,lt_eF _,lt_eF _,lt_eF _,lt_eF _,lt_eF _,lt_eF _,lt_eF _,lt_eF _,lt_eF _,lt_eF _,lt_eF _,lt_eF _,lt_eF _,lt_eF _,lt_eF _,lt_eF _,lt_eF _,lt_eF _,as_T1 (fun q=>q ^ nA) (d12_eF _) ht6,lt_eF _,lt_eF _,lt_eF _,lt_eF _,lt_eF _,lt_eF _,lt_eF _,lt_eF _,lt_eF _,lt_eF _,lt_eF _,lt_eF _,as_T1 (fun q=>q ^ nB) (d12_eF _) ht7,lt_eF _,lt_eF _,lt_eF _,lt_eF _,lt_eF _,lt_eF _,lt_eF _,lt_eF _,lt_eF _,lt_eF _,lt_eF _,lt_eF _,as_T1 smS (d12_eF _) ht8,lt_eF _,lt_eF _,lt_eF _,lt_eF _,lt_eF _,lt_eF _,lt_eF _,lt_eF _,lt_eF _,lt_eF _,lt_eF _,lt_eF _,as_T1 smS (d12_eF _) ht9,lt_eF _,lt_eF _,lt_eF _,lt_eF _,lt_eF _,lt_eF _,lt_eF _,lt_eF _,lt_eF _,lt_eF _,lt_eF _,lt_eF _,as_T1 S12.conj (d12_eF _) ht10,lt_eF _,lt_eF _,lt_eF _,lt_eF _,lt_eF _,lt_eF _,lt_eF _,lt_eF _,lt_eF _,lt_eF _,lt_eF _,lt_eF _,as_T2 (d12_eF _) (d12_eF _) ht11,lt_eF _,lt_eF _,lt_eF _,lt_eF _,lt_eF _,lt_eF _,lt_eF _,lt_eF _,lt_eF _,lt_eF _,lt_eF _,lt_eF _,lt_eF _,lt_eF _,lt_eF _,lt_eF _,lt_eF _,lt_eF _,lt_eF _,lt_eF _,lt_eF _,lt_eF _,lt_eF _,lt_eF _,as_T1 smS (d12_eF _) ht12,lt_eF _,lt_eF _,lt_eF _,lt_eF _,lt_eF _,lt_eF _,lt_eF _,lt_eF _,lt_eF _,lt_eF _,lt_eF _,lt_eF _,as_T2 (d12_eF _) (d12_eF _) ht13,lt_eF _,lt_eF _,lt_eF _,lt_eF _,lt_eF _,lt_eF _,lt_eF _,lt_eF _,lt_eF _,lt_eF _,lt_eF _,lt_eF _,lt_eF _,lt_eF _,lt_eF _,lt_eF _,lt_eF _,lt_eF _,lt_eF _,lt_eF _,lt_eF _,lt_eF _,lt_eF _,lt_eF _,as_T1 (S12.turns 1) (d12_eF _) ht14,by decide,lt_eF _,lt_eF _,lt_eF _,lt_eF _,lt_eF _,lt_eF _,lt_eF _,lt_eF _,lt_eF _,lt_eF _,lt_eF _,lt_eF _,as_T2 (d12_eF _) (d12_eF _) ht15,lt_eF _,lt_eF _,lt_eF _,lt_eF _,lt_eF _,lt_eF _,lt_eF _,lt_eF _,lt_eF _,lt_eF _,lt_eF _,lt_eF _,lt_eF _,lt_eF _,lt_eF _,lt_eF _,lt_eF _,lt_eF _,lt_eF _,lt_eF _,lt_eF _,lt_eF _,lt_eF _,lt_eF _,as_T1 (S12.turns 2) (d12_eF _) ht16,by decide,lt_eF _,lt_eF _,lt_eF _,lt_eF _,lt_eF _,lt_eF _,lt_eF _,lt_eF _,lt_eF _,lt_eF _,lt_eF _,lt_eF _,as_T2 (d12_eF _) (d12_eF _) ht17,lt_eF _,lt_eF _,lt_eF _,lt_eF _,lt_eF _,lt_eF _,lt_eF _,lt_eF _,lt_eF _,lt_eF _,lt_eF _,lt_eF _,lt_eF _,lt_eF _,lt_eF _,lt_eF _,lt_eF _,lt_eF _,lt_eF _,lt_eF _,lt_eF _,lt_eF _,lt_eF _,lt_eF _,as_T1 (S12.turns 3) (d12_eF _) ht18,by decide,lt_eF _,lt_eF _,lt_eF _,lt_eF _,lt_eF _,lt_eF _,lt_eF _,lt_eF _,lt_eF _,lt_eF _,lt_eF _,lt_eF _,as_T2 (d12_eF _) (d12_eF _) ht19,lt_eF _,lt_eF _,lt_eF _,lt_eF _,lt_eF _,lt_eF _,lt_eF _,lt_eF _,lt_eF _,lt_eF _,lt_eF _,lt_eF _,lt_eF _,lt_eF _,lt_eF _,lt_eF _,lt_eF _,lt_eF _,lt_eF _,lt_eF _,lt_eF _,lt_eF _,lt_eF _,lt_eF _,end_T (by subst ht19 ht18 ht17 ht16 ht15 ht14 ht13 ht12 ht11 ht10 ht9 ht8 ht7 ht6 ht5 ht4 ht3 ht2 ht1;rfl)⟩
end Go.Proofs.Ytnjocbcjejpklaa
namespace Go.Rq
open Go
section
variable {α:Type} [CR α]
theorem cr_9 (x y:α):x * y = x * y - 0 * 0:=by grind
theorem cr_10 (x y:α):(0:α) = x * 0 + 0 * y:=by grind
theorem cr_11 (x y:α):x = x + (y * 0 - 0 * 1):=by grind
theorem cr_12 (y:α):y = 0 + (y * 1 + 0 * 0):=by grind
theorem cr_13 (y:α):y * (0 - 1) = 0 - y:=by grind
theorem cr_14 (a b c d:α):a * c - b * d = a * c - (0 - b) * (0 - d):=by grind
theorem cr_15 (a b c d:α):0 - (a * d + b * c) = a * (0 - d) + (0 - b) * c:=by grind
theorem cr_16 (a:α):0 - (0 - a) = a:=by grind
theorem cr_18 {a b:α} (h:a + b = 0):a = 0 - b:=by grind
theorem cr_19 (a b:α):a + (0 - b) = a - b:=by grind
theorem cr_z (a:α):a * 0 = 0:=by grind
theorem cr_s1 (a u v w x y z k l:α):a * u + (0 * w + 0 * v) * k + ((0 * x + (0 * z + 0 * y) * k) * 0 + ((0 * y + 0 * x + 0 * z * k) * 0 + (0 * z + 0 * x + 0 * y) * 1) * l) = a * u:=by grind
theorem cr_s2 (a u v w x y z k l:α):a * v + 0 * u + 0 * w * k + ((0 * x + (0 * z + 0 * y) * k) * 1 + (0 * y + 0 * x + 0 * z * k) * 0 + (0 * z + 0 * x + 0 * y) * 0 * l) = a * v:=by grind
theorem cr_s3 (a u v w x y z k l:α):a * w + 0 * u + 0 * v + ((0 * x + (0 * z + 0 * y) * k) * 0 + (0 * z + 0 * x + 0 * y) * 0 + (0 * y + 0 * x + 0 * z * k) * 1) = a * w:=by grind
theorem cr_e1 (a b c d e f:α):a = a + b * 0 + c * 0 + d * 0 + e * 0 + f * 0:=by grind
theorem cr_e2 (a b c d e f:α):b = 0 + b * 1 + c * 0 + d * 0 + e * 0 + f * 0:=by grind
theorem cr_e3 (a b c d e f:α):c = 0 + b * 0 + c * 1 + d * 0 + e * 0 + f * 0:=by grind
theorem cr_e4 (a b c d e f:α):d = 0 + b * 0 + c * 0 + d * 1 + e * 0 + f * 0:=by grind
theorem cr_e5 (a b c d e f:α):e = 0 + b * 0 + c * 0 + d * 0 + e * 1 + f * 0:=by grind
theorem cr_e6 (a b c d e f:α):f = 0 + b * 0 + c * 0 + d * 0 + e * 0 + f * 1:=by grind
theorem cr_w (a b c d:α):a * b * (c * d) = a * c * (b * d):=by grind
theorem cr_k3 (a k:α):a * k * k * k = a * (k * k * k):=by grind
theorem cr_k4 (a:α):a * (0 - 1) = 0 - a:=by grind
end
namespace F2p
def c (x:Fp):F2p:=⟨x,0⟩
def i2:F2p:=⟨0,1⟩
theorem nc_eq (n:Nat):Rg.nc (R:=F2p) n = c (Rg.nc n):=rfl
theorem char:Rg.nc (R:=F2p) pN = 0:=by rw [nc_eq,fp_char];rfl
theorem c_mul (x y:Fp):c (x * y) = c x * c y:=F2p.ext (cr_9 x y) (cr_10 x y)
theorem c_pow (x:Fp):∀ n:Nat,c x ^ n = c (x ^ n)
 | 0=>by rw [Rg.pow_zero,Rg.pow_zero];rfl
 | n + 1=>by rw [Rg.pow_succ,Rg.pow_succ,c_pow x n,c_mul]
theorem split (a:F2p):a = c a.x + c a.y * i2:=F2p.ext (cr_11 a.x a.y) (cr_12 a.y)
theorem i2_2:i2 * i2 = c (ofN (pN - 1)):=by
 refine F2p.ext (Fin.ext (by kernel_rfl)) (Fin.ext (by kernel_rfl))
theorem i2_pow:i2 ^ pN = c (ofN (pN - 1)) * i2:=by
 have e:pN = 2 * (2 * ((pN - 3) / 4) + 1) + 1:=by decide
 have h:i2 ^ (2 * (2 * ((pN - 3) / 4) + 1) + 1) = c (ofN (pN - 1)) * i2:=by
  rw [Rg.pow_succ,pow_mul',Rg.pow_two,i2_2,Rg.pow_succ,pow_mul',Rg.pow_two]
  have h1:c (ofN (pN - 1)) * c (ofN (pN - 1)) = 1:=F2p.ext (Fin.ext (by kernel_rfl)) (Fin.ext (by kernel_rfl))
  rw [h1,Rg.one_pow,Rg.one_mul]
 exact (congrArg (fun n:Nat=>i2 ^ n) e).trans h
theorem neg1 (y:Fp):y * ofN (pN - 1) = 0 - y:=by
 have h:ofN (pN - 1) = 0 - 1:=Fin.ext (by kernel_rfl)
 rw [h];exact cr_13 y
theorem frob (a:F2p):a ^ pN = a.cj:=by
 have h:=split a
 have e:a ^ pN = (c a.x + c a.y * i2) ^ pN:=congrArg (fun z:F2p=>z ^ pN) h
 rw [e,frobR pN_pr char,mul_pow',c_pow,c_pow,fp_fermat,fp_fermat,i2_pow,<-Rg.mul_assoc,<-c_mul,neg1]
 exact (split a.cj).symm
theorem cj_mul (a b:F2p):cj (a * b) = cj a * cj b:=F2p.ext (cr_14 _ _ _ _) (cr_15 _ _ _ _)
theorem cj_cj (a:F2p):cj (cj a) = a:=F2p.ext rfl (cr_16 _)
end F2p
def qm (x y:Nat × Nat):Nat × Nat:=((x.1 * y.1 + (pN - x.2 * y.2 % pN)) % pN,(x.1 * y.2 + x.2 * y.1) % pN)
def qS (a:Nat × Nat) (b:Bool) (r:Nat × Nat):Nat × Nat:=bif b then qm (qm r r) a else qm r r
def qw (a:Nat × Nat):Nat->Nat->Nat × Nat
 | 0,_=>(1,0)
 | k + 1,e=>qS a (Nat.beq (e % 2) 1) (qw a k (e / 2))
def toQ (x:Nat × Nat):F2p:=⟨ofN x.1,ofN x.2⟩
theorem ofN_sub {a:Nat} (h:a <= pN):ofN (pN - a) = 0 - ofN a:=by
 have:ofN (pN - a) + ofN a = 0:=by rw [<-ofN_add,Nat.sub_add_cancel h,ofN_p]
 exact cr_18 this
theorem qm_eq (x y:Nat × Nat):toQ (qm x y) = toQ x * toQ y:=by
 refine F2p.ext ?_ ?_
 ·show ofN ((x.1 * y.1 + (pN - x.2 * y.2 % pN)) % pN) = ofN x.1 * ofN y.1 - ofN x.2 * ofN y.2
  rw [ofN_mod,ofN_add,ofN_sub (Nat.le_of_lt (Nat.mod_lt _ pN_pos)),ofN_mod,ofN_mul,ofN_mul]
  exact cr_19 _ _
 ·show ofN ((x.1 * y.2 + x.2 * y.1) % pN) = ofN x.1 * ofN y.2 + ofN x.2 * ofN y.1
  rw [ofN_mod,ofN_add,ofN_mul,ofN_mul]
theorem qw_eq (a:Nat × Nat):∀ k e,e < 2 ^ k->toQ (qw a k e) = toQ a ^ e
 | 0,e,h=>by
  have:e = 0:=by simpa using h
  subst this
  rw [Rg.pow_zero]
  exact F2p.ext ofN_one ofN_zero
 | k + 1,e,h=>by
  have ih:=qw_eq a k (e / 2) (by rw [Nat.pow_succ] at h;omega)
  rw [pow_half]
  show toQ (qS a (Nat.beq (e % 2) 1) (qw a k (e / 2))) = _
  unfold qS
  cases Nat.beq (e % 2) 1
  ·rw [cond_false,cond_false,qm_eq,ih]
  ·rw [cond_true,cond_true,qm_eq,qm_eq,ih]
theorem kx_Q:kx = toQ (1,1):=F2p.ext ofN_one.symm ofN_one.symm
theorem kx_pow:kx ^ ((pN - 1) / 6) = tuK1:=by
 rw [kx_Q,<-qw_eq (1,1) E _ (by rw [<-R_pow];decide)]
 exact F2p.ext (congrArg ofN (by kernel_rfl)) (congrArg ofN (by kernel_rfl))
namespace S12
def c (a:F2p):S12:=⟨⟨a,0,0⟩,⟨0,0,0⟩⟩
def w1:S12:=⟨⟨0,0,0⟩,⟨1,0,0⟩⟩
def w2:S12:=⟨⟨0,1,0⟩,⟨0,0,0⟩⟩
def w3:S12:=⟨⟨0,0,0⟩,⟨0,1,0⟩⟩
def w4:S12:=⟨⟨0,0,1⟩,⟨0,0,0⟩⟩
def w5:S12:=⟨⟨0,0,0⟩,⟨0,0,1⟩⟩
def scal (a:F2p) (z:S12):S12:=⟨⟨a * z.p.u,a * z.p.v,a * z.p.w⟩,⟨a * z.q.u,a * z.q.v,a * z.q.w⟩⟩
theorem nc_eq (n:Nat):Rg.nc (R:=S12) n = c (Rg.nc n):=rfl
theorem char:Rg.nc (R:=S12) pN = 0:=by rw [nc_eq,F2p.char];rfl
theorem c_scal (a:F2p) (z:S12):c a * z = scal a z:=by
 refine S12.ext (S6.ext ?_ ?_ ?_) (S6.ext ?_ ?_ ?_)
 ·rw [mul_p,S6.add_u,S6.mul_u,S6.mul_u,S6.mul_u,S6.mul_v,S6.mul_w]
  show a * z.p.u + (0 * z.p.w + 0 * z.p.v) * kx + _ = a * z.p.u
  exact cr_s1 _ _ _ _ _ _ _ _ _
 ·rw [mul_p,S6.add_v,S6.mul_v,S6.mul_v,S6.mul_u,S6.mul_v,S6.mul_w]
  show a * z.p.v + 0 * z.p.u + 0 * z.p.w * kx + _ = a * z.p.v
  exact cr_s2 _ _ _ _ _ _ _ _ _
 ·rw [mul_p,S6.add_w,S6.mul_w,S6.mul_w,S6.mul_u,S6.mul_v,S6.mul_w]
  show a * z.p.w + 0 * z.p.u + 0 * z.p.v + _ = a * z.p.w
  exact cr_s3 _ _ _ _ _ _ _ kx kx
 ·rw [mul_q,S6.add_u,S6.mul_u,S6.mul_u]
  show a * z.q.u + (0 * z.q.w + 0 * z.q.v) * kx + (0 * z.p.u + (0 * z.p.w + 0 * z.p.v) * kx) = a * z.q.u
  generalize kx = k
  grind
 ·rw [mul_q,S6.add_v,S6.mul_v,S6.mul_v]
  show a * z.q.v + 0 * z.q.u + 0 * z.q.w * kx + (0 * z.p.v + 0 * z.p.u + 0 * z.p.w * kx) = a * z.q.v
  generalize kx = k
  grind
 ·rw [mul_q,S6.add_w,S6.mul_w,S6.mul_w]
  show a * z.q.w + 0 * z.q.u + 0 * z.q.v + (0 * z.p.w + 0 * z.p.u + 0 * z.p.v) = a * z.q.w
  grind
theorem c_mul (a b:F2p):c (a * b) = c a * c b:=by
 rw [c_scal]
 exact S12.ext (S6.ext rfl (cr_z a).symm (cr_z a).symm) (S6.ext (cr_z a).symm (cr_z a).symm (cr_z a).symm)
theorem c_pow (a:F2p):∀ n:Nat,c a ^ n = c (a ^ n)
 | 0=>by rw [Rg.pow_zero,Rg.pow_zero];rfl
 | n + 1=>by rw [Rg.pow_succ,Rg.pow_succ,c_pow a n,c_mul]
theorem split (z:S12):z = c z.p.u + c z.q.u * w1 + c z.p.v * w2 + c z.q.v * w3 + c z.p.w * w4 + c z.q.w * w5:=by
 simp only [c_scal]
 exact S12.ext (S6.ext (cr_e1 _ _ _ _ _ _) (cr_e3 0 _ _ _ _ _) (cr_e5 0 _ _ _ _ _)) (S6.ext (cr_e2 0 _ _ _ _ _) (cr_e4 0 _ _ _ _ _) (cr_e6 0 _ _ _ _ _))
theorem w_2:w1 * w1 = w2:=by kernel_rfl
theorem w_3:w1 * w2 = w3:=by kernel_rfl
theorem w_4:w1 * w3 = w4:=by kernel_rfl
theorem w_5:w1 * w4 = w5:=by kernel_rfl
theorem w_6:w1 * w5 = c kx:=by kernel_rfl
theorem tu_2:tuK1 * tuK1 = tuK2:=by kernel_rfl
theorem tu_3:tuK1 * tuK2 = tuK3:=by kernel_rfl
theorem tu_4:tuK1 * tuK3 = tuK4:=by kernel_rfl
theorem tu_5:tuK1 * tuK4 = tuK5:=by kernel_rfl
theorem tu_0:tuK0 = 1:=by kernel_rfl
theorem w1_pow:w1 ^ pN = c tuK1 * w1:=by
 have e:pN = 6 * ((pN - 1) / 6) + 1:=by decide
 have h6:w1 ^ 6 = c kx:=by
  rw [Rg.pow_succ,Rg.pow_succ,Rg.pow_succ,Rg.pow_succ,Rg.pow_two,w_2,Rg.mul_comm w2,w_3,Rg.mul_comm w3,w_4,Rg.mul_comm w4,w_5,Rg.mul_comm w5,w_6]
 have h:w1 ^ (6 * ((pN - 1) / 6) + 1) = c tuK1 * w1:=by
  rw [Rg.pow_succ,pow_mul',h6,c_pow,kx_pow]
 exact (congrArg (fun n:Nat=>w1 ^ n) e).trans h
theorem wstep {a b d:S12} {s t r:F2p} (ha:a ^ pN = c s * a) (hb:b ^ pN = c t * b) (hd:a * b = d) (hr:s * t = r):d ^ pN = c r * d:=by
 rw [<-hd,mul_pow',ha,hb,<-hr,c_mul]
 exact cr_w _ _ _ _
theorem w2_pow:w2 ^ pN = c tuK2 * w2:=wstep w1_pow w1_pow w_2 tu_2
theorem w3_pow:w3 ^ pN = c tuK3 * w3:=wstep w1_pow w2_pow w_3 tu_3
theorem w4_pow:w4 ^ pN = c tuK4 * w4:=wstep w1_pow w3_pow w_4 tu_4
theorem w5_pow:w5 ^ pN = c tuK5 * w5:=wstep w1_pow w4_pow w_5 tu_5
theorem frob (z:S12):z ^ pN = turn z:=by
 have e:z ^ pN = (c z.p.u + c z.q.u * w1 + c z.p.v * w2 + c z.q.v * w3 + c z.p.w * w4 + c z.q.w * w5) ^ pN:=congrArg (fun z:S12=>z ^ pN) (split z)
 rw [e,frobR pN_pr char,frobR pN_pr char,frobR pN_pr char,frobR pN_pr char,frobR pN_pr char]
 simp only [mul_pow',c_pow,F2p.frob,w1_pow,w2_pow,w3_pow,w4_pow,w5_pow]
 rw [split (turn z)]
 show _ = c (z.p.u.cj * tuK0) + c (z.q.u.cj * tuK1) * w1 + c (z.p.v.cj * tuK2) * w2 + c (z.q.v.cj * tuK3) * w3 + c (z.p.w.cj * tuK4) * w4 + c (z.q.w.cj * tuK5) * w5
 rw [tu_0,Rg.mul_one]
 simp only [c_mul,Rg.mul_assoc]
theorem turn_mul (a b:S12):turn (a * b) = turn a * turn b:=by rw [<-frob,<-frob,<-frob,mul_pow']
theorem turns_mul (a b:S12):∀ n:Nat,turns n (a * b) = turns n a * turns n b
 | 0=>rfl
 | n + 1=>by show turn (turns n (a * b)) = turn (turns n a) * turn (turns n b);rw [turns_mul a b n,turn_mul]
theorem turns_pow (z:S12):∀ n:Nat,turns n z = z ^ (pN ^ n)
 | 0=>by rw [Nat.pow_zero,Rg.pow_one];rfl
 | n + 1=>by
  show turn (turns n z) = _
  rw [turns_pow z n,<-frob,Nat.pow_succ,pow_mul']
def conj' (z:S12):S12:=⟨z.p,0 - z.q⟩
def sk (k:F2p):F2p:=k.cj * k
def tw2 (z:S12):S12:=⟨⟨z.p.u * sk tuK0,z.p.v * sk tuK2,z.p.w * sk tuK4⟩,⟨z.q.u * sk tuK1,z.q.v * sk tuK3,z.q.w * sk tuK5⟩⟩
theorem two_turn (z:S12):turn (turn z) = tw2 z:=by
 have key:∀ a k:F2p,(a.cj * k).cj * k = a * sk k:=fun a k=>by rw [F2p.cj_mul,F2p.cj_cj,Rg.mul_assoc];rfl
 exact S12.ext (S6.ext (key _ _) (key _ _) (key _ _)) (S6.ext (key _ _) (key _ _) (key _ _))
def m1:F2p:=⟨ofN (pN - 1),0⟩
theorem sk0:sk tuK0 * sk tuK0 * sk tuK0 = 1:=by kernel_rfl
theorem sk1:sk tuK1 * sk tuK1 * sk tuK1 = m1:=by kernel_rfl
theorem sk2:sk tuK2 * sk tuK2 * sk tuK2 = 1:=by kernel_rfl
theorem sk3:sk tuK3 * sk tuK3 * sk tuK3 = m1:=by kernel_rfl
theorem sk4:sk tuK4 * sk tuK4 * sk tuK4 = 1:=by kernel_rfl
theorem sk5:sk tuK5 * sk tuK5 * sk tuK5 = m1:=by kernel_rfl
theorem m1_eq:m1 = 0 - 1:=by kernel_rfl
theorem turns_six (z:S12):turns 6 z = conj' z:=by
 show turn (turn (turn (turn (turn (turn z))))) = _
 rw [two_turn,two_turn,two_turn]
 have p:∀ a k:F2p,k * k * k = 1->a * k * k * k = a:=fun a k h=>by rw [cr_k3,h,Rg.mul_one]
 have q:∀ a k:F2p,k * k * k = m1->a * k * k * k = 0 - a:=fun a k h=>by rw [cr_k3,h,m1_eq];exact cr_k4 a
 exact S12.ext (S6.ext (p _ _ sk0) (p _ _ sk2) (p _ _ sk4)) (S6.ext (q _ _ sk1) (q _ _ sk3) (q _ _ sk5))
end S12
end Go.Rq
namespace Go.Proofs.Ytnjocbcjejpklaa
open Go.Rq Go
set_option maxRecDepth 100000
abbrev g2 (a b:Nat->Nat):F2p:=⟨gN a,gN b⟩
abbrev n2 (s:F2p):V1:=.agg (vC2 s)
abbrev G12 (s:S12):S12:=g12 (vF s.p.u.x) (vF s.p.u.y) (vF s.q.u.x) (vF s.q.u.y) (vF s.p.v.x) (vF s.p.v.y) (vF s.q.v.x) (vF s.q.v.y) (vF s.p.w.x) (vF s.p.w.y) (vF s.q.w.x) (vF s.q.w.y)
theorem G12_eq (s:S12):G12 s = s:=by simp only [G12,g12,gN_vF]
def u1 (F:F2p->F2p):List AV->Option (List Prop × AV)
 | [.v1 (.agg [.ws .u64 6 a,.ws .u64 6 b])]=>some ([],.v1 (n2 (F (g2 a b))))
 | _=>none
def qL:List (Nat->Nat)->List (Nat->Nat)->Bool
 | a :: r,b :: s=>eqN W 6 a b && qL r s
 | _,_=>true
abbrev nL (s:S12):List (Nat->Nat):=[vF s.p.u.x,vF s.p.u.y,vF s.q.u.x,vF s.q.u.y,vF s.p.v.x,vF s.p.v.y,vF s.q.v.x,vF s.q.v.y,vF s.p.w.x,vF s.p.w.y,vF s.q.w.x,vF s.q.w.y]
theorem eqN_vF (x y:Fp):eqN W 6 (vF x) (vF y) = true↔x = y:=by
 have:=eqW_beq (vF x) (vF y)
 rw [Bool.and_true] at this
 rw [this,Nat.beq_eq,nv_vF,nv_vF]
 exact ⟨fun h=>Fin.ext h,fun h=>by rw [h]⟩
theorem eqN_vFz (x:Fp):eqN W 6 (vF x) fz = Nat.beq x.val 0:=by
 have:=eqW_beq (vF x) fz
 rw [Bool.and_true] at this
 rw [this,nv_vF,zero_nv]
theorem qn_of {s t:S12} (h:s = t):qL (nL s) (nL t) = true:=by
 subst h
 simp only [qL,(eqN_vF _ _).2 rfl,Bool.and_true]
abbrev zL12:List (Nat->Nat):=[fz,fz,fz,fz,fz,fz,fz,fz,fz,fz,fz,fz]
theorem qn_z (s:S12):qL (nL s) zL12 = z12 s:=by
 simp only [qL,Bool.and_true,eqN_vFz];rfl
theorem ePow_eq (x:Fp):∀ n,ePow x n = x ^ n
 | 0=>(Rg.pow_zero x).symm
 | n + 1=>by rw [Rg.pow_succ,<-ePow_eq x n];rfl
abbrev endT:Prop:=∃ v',some (AV.v1 (.sc (.bo true))) = some v'/\∀ ρ,v'.val ρ = (AV.v1 (.sc (.bo true))).val ρ
theorem endT_ok:endT:=⟨_,rfl,fun _=>rfl⟩
end Go.Proofs.Ytnjocbcjejpklaa
namespace Go.Proofs.Ytnjocbcjejpklaa
open Go.Rq Go
set_option maxRecDepth 100000
set_option maxHeartbeats 4000000
def lastz (s:S12):S12:=bif z12 s then 0 else lastS s
def cLast (args:List AV):Option (List Prop × AV) :=
 match args with
 | [.v1 (.agg [.ws .u64 6 a0,.ws .u64 6 a1,.ws .u64 6 a2,.ws .u64 6 a3,.ws .u64 6 a4,.ws .u64 6 a5,.ws .u64 6 a6,.ws .u64 6 a7,.ws .u64 6 a8,.ws .u64 6 a9,.ws .u64 6 a10,.ws .u64 6 a11])]=>some ([],.tup [n12 (lastz (g12 a0 a1 a2 a3 a4 a5 a6 a7 a8 a9 a10 a11)),.sc (.it (invE (g12 a0 a1 a2 a3 a4 a5 a6 a7 a8 a9 a10 a11)))])
 | _=>none
def GLsP:Ctx:=ctxL [(11,.pure cTo12),(12,.pure cFrom12),(13,.pure (k121 lastS))]
theorem GLsP_ok:CtxOk Try.prog GLsP:=ctxL_cons okTo12 <| ctxL_cons okFrom12 <| ctxL_cons okLast ctxL_nil
theorem okLastP:(CallC.pure cLast).Ok Try.prog 6:=by
 intro args pre v e _
 unfold cLast at e
 split at e
 ·rename_i a0 a1 a2 a3 a4 a5 a6 a7 a8 a9 a10 a11
  cases e
  refine pure_walk' tt_ok Try.func6 (by kernel_rfl) (by kernel_rfl) (by rfl) (by rfl) ?_
  have hz:(eqN W 6 (eF (gN a0)) fz && (eqN W 6 (eF (gN a1)) fz && (eqN W 6 (eF (gN a2)) fz && (eqN W 6 (eF (gN a3)) fz && (eqN W 6 (eF (gN a4)) fz && (eqN W 6 (eF (gN a5)) fz && (eqN W 6 (eF (gN a6)) fz && (eqN W 6 (eF (gN a7)) fz && (eqN W 6 (eF (gN a8)) fz && (eqN W 6 (eF (gN a9)) fz && (eqN W 6 (eF (gN a10)) fz && (eqN W 6 (eF (gN a11)) fz && true)))))))))))) = z12 (g12 a0 a1 a2 a3 a4 a5 a6 a7 a8 a9 a10 a11):=by
   simp only [eqz,Bool.and_true];rfl
  cases hb:z12 (g12 a0 a1 a2 a3 a4 a5 a6 a7 a8 a9 a10 a11)
  ·refine evS_q mixed tt_ok GLsP_ok 100 [⟨2,2,.lit (.bo false)⟩] ?_
   refine same (p:=(eqN W 6 (eF (gN a0)) fz && (eqN W 6 (eF (gN a1)) fz && (eqN W 6 (eF (gN a2)) fz && (eqN W 6 (eF (gN a3)) fz && (eqN W 6 (eF (gN a4)) fz && (eqN W 6 (eF (gN a5)) fz && (eqN W 6 (eF (gN a6)) fz && (eqN W 6 (eF (gN a7)) fz && (eqN W 6 (eF (gN a8)) fz && (eqN W 6 (eF (gN a9)) fz && (eqN W 6 (eF (gN a10)) fz && (eqN W 6 (eF (gN a11)) fz && true)))))))))))) = false/\lp (eF (gN a0))/\lp (eF (gN a1))/\lp (eF (gN a2))/\lp (eF (gN a3))/\lp (eF (gN a4))/\lp (eF (gN a5))/\lp (eF (gN a6))/\lp (eF (gN a7))/\lp (eF (gN a8))/\lp (eF (gN a9))/\lp (eF (gN a10))/\lp (eF (gN a11))/\eL12 (lastS (d12 (eF (gN a0)) (eF (gN a1)) (eF (gN a2)) (eF (gN a3)) (eF (gN a4)) (eF (gN a5)) (eF (gN a6)) (eF (gN a7)) (eF (gN a8)) (eF (gN a9)) (eF (gN a10)) (eF (gN a11)))) (endN (.tup [v12 (vF (dF (eF (lastS (d12 (eF (gN a0)) (eF (gN a1)) (eF (gN a2)) (eF (gN a3)) (eF (gN a4)) (eF (gN a5)) (eF (gN a6)) (eF (gN a7)) (eF (gN a8)) (eF (gN a9)) (eF (gN a10)) (eF (gN a11)))).p.u.x))) (vF (dF (eF (lastS (d12 (eF (gN a0)) (eF (gN a1)) (eF (gN a2)) (eF (gN a3)) (eF (gN a4)) (eF (gN a5)) (eF (gN a6)) (eF (gN a7)) (eF (gN a8)) (eF (gN a9)) (eF (gN a10)) (eF (gN a11)))).p.u.y))) (vF (dF (eF (lastS (d12 (eF (gN a0)) (eF (gN a1)) (eF (gN a2)) (eF (gN a3)) (eF (gN a4)) (eF (gN a5)) (eF (gN a6)) (eF (gN a7)) (eF (gN a8)) (eF (gN a9)) (eF (gN a10)) (eF (gN a11)))).q.u.x))) (vF (dF (eF (lastS (d12 (eF (gN a0)) (eF (gN a1)) (eF (gN a2)) (eF (gN a3)) (eF (gN a4)) (eF (gN a5)) (eF (gN a6)) (eF (gN a7)) (eF (gN a8)) (eF (gN a9)) (eF (gN a10)) (eF (gN a11)))).q.u.y))) (vF (dF (eF (lastS (d12 (eF (gN a0)) (eF (gN a1)) (eF (gN a2)) (eF (gN a3)) (eF (gN a4)) (eF (gN a5)) (eF (gN a6)) (eF (gN a7)) (eF (gN a8)) (eF (gN a9)) (eF (gN a10)) (eF (gN a11)))).p.v.x))) (vF (dF (eF (lastS (d12 (eF (gN a0)) (eF (gN a1)) (eF (gN a2)) (eF (gN a3)) (eF (gN a4)) (eF (gN a5)) (eF (gN a6)) (eF (gN a7)) (eF (gN a8)) (eF (gN a9)) (eF (gN a10)) (eF (gN a11)))).p.v.y))) (vF (dF (eF (lastS (d12 (eF (gN a0)) (eF (gN a1)) (eF (gN a2)) (eF (gN a3)) (eF (gN a4)) (eF (gN a5)) (eF (gN a6)) (eF (gN a7)) (eF (gN a8)) (eF (gN a9)) (eF (gN a10)) (eF (gN a11)))).q.v.x))) (vF (dF (eF (lastS (d12 (eF (gN a0)) (eF (gN a1)) (eF (gN a2)) (eF (gN a3)) (eF (gN a4)) (eF (gN a5)) (eF (gN a6)) (eF (gN a7)) (eF (gN a8)) (eF (gN a9)) (eF (gN a10)) (eF (gN a11)))).q.v.y))) (vF (dF (eF (lastS (d12 (eF (gN a0)) (eF (gN a1)) (eF (gN a2)) (eF (gN a3)) (eF (gN a4)) (eF (gN a5)) (eF (gN a6)) (eF (gN a7)) (eF (gN a8)) (eF (gN a9)) (eF (gN a10)) (eF (gN a11)))).p.w.x))) (vF (dF (eF (lastS (d12 (eF (gN a0)) (eF (gN a1)) (eF (gN a2)) (eF (gN a3)) (eF (gN a4)) (eF (gN a5)) (eF (gN a6)) (eF (gN a7)) (eF (gN a8)) (eF (gN a9)) (eF (gN a10)) (eF (gN a11)))).p.w.y))) (vF (dF (eF (lastS (d12 (eF (gN a0)) (eF (gN a1)) (eF (gN a2)) (eF (gN a3)) (eF (gN a4)) (eF (gN a5)) (eF (gN a6)) (eF (gN a7)) (eF (gN a8)) (eF (gN a9)) (eF (gN a10)) (eF (gN a11)))).q.w.x))) (vF (dF (eF (lastS (d12 (eF (gN a0)) (eF (gN a1)) (eF (gN a2)) (eF (gN a3)) (eF (gN a4)) (eF (gN a5)) (eF (gN a6)) (eF (gN a7)) (eF (gN a8)) (eF (gN a9)) (eF (gN a10)) (eF (gN a11)))).q.w.y))),.sc (.it 0)]) (.tup [n12 (lastz (g12 a0 a1 a2 a3 a4 a5 a6 a7 a8 a9 a10 a11)),.sc (.it (invE (g12 a0 a1 a2 a3 a4 a5 a6 a7 a8 a9 a10 a11)))]))) ?_ (by kernel_rfl)
   exact ⟨by rw [hz,hb],lt_eF _,lt_eF _,lt_eF _,lt_eF _,lt_eF _,lt_eF _,lt_eF _,lt_eF _,lt_eF _,lt_eF _,lt_eF _,lt_eF _,lt_eF _,lt_eF _,lt_eF _,lt_eF _,lt_eF _,lt_eF _,lt_eF _,lt_eF _,lt_eF _,lt_eF _,lt_eF _,lt_eF _,endPI (by rw [dG12];unfold lastz;rw [hb,cond_false]) rfl (by unfold invE;rw [hb,cond_false])⟩
  ·refine evS_q mixed tt_ok GLsP_ok 100 [⟨2,2,.lit (.bo true)⟩] ?_
   refine same (p:=(eqN W 6 (eF (gN a0)) fz && (eqN W 6 (eF (gN a1)) fz && (eqN W 6 (eF (gN a2)) fz && (eqN W 6 (eF (gN a3)) fz && (eqN W 6 (eF (gN a4)) fz && (eqN W 6 (eF (gN a5)) fz && (eqN W 6 (eF (gN a6)) fz && (eqN W 6 (eF (gN a7)) fz && (eqN W 6 (eF (gN a8)) fz && (eqN W 6 (eF (gN a9)) fz && (eqN W 6 (eF (gN a10)) fz && (eqN W 6 (eF (gN a11)) fz && true)))))))))))) = true/\endN (.tup [v12 fz fz fz fz fz fz fz fz fz fz fz fz,.sc (.it 6)]) (.tup [n12 (lastz (g12 a0 a1 a2 a3 a4 a5 a6 a7 a8 a9 a10 a11)),.sc (.it (invE (g12 a0 a1 a2 a3 a4 a5 a6 a7 a8 a9 a10 a11)))])) ?_ (by kernel_rfl)
   have h1:lastz (g12 a0 a1 a2 a3 a4 a5 a6 a7 a8 a9 a10 a11) = 0:=by unfold lastz;rw [hb,cond_true]
   have h2:invE (g12 a0 a1 a2 a3 a4 a5 a6 a7 a8 a9 a10 a11) = 6:=by unfold invE;rw [hb,cond_true]
   rw [h1,h2]
   refine ⟨by rw [hz,hb],_,rfl,fun ρ=>?_⟩
   have h3:(v12 fz fz fz fz fz fz fz fz fz fz fz fz).val ρ = (n12 0).val ρ:=v12_val zero_vF zero_vF zero_vF zero_vF zero_vF zero_vF zero_vF zero_vF zero_vF zero_vF zero_vF zero_vF ρ
   simp only [AV.val,List.map_cons,List.map_nil,h3]
 ·cases e
end Go.Proofs.Ytnjocbcjejpklaa
namespace Go.Proofs.Ytnjocbcjejpklaa
open Go.Rq Go
set_option maxRecDepth 100000
theorem ep (x:F2p):F2p.inv x = F2p.inv' x:=by
 unfold F2p.inv F2p.inv' inv2x inv2y eInv nor2 F2p.nrm
 rw [ePow_eq]
theorem ep6 (x:S6):S6.inv x = S6.inv' x:=by
 have h1:S6.ax x = iv4 x:=by unfold S6.ax iv4 iv1 iv3 iv2;rw [xi_mul,Rg.mul_comm kx]
 have h2:S6.ay x = iv8 x:=by unfold S6.ay iv8 iv6 iv5 iv7;rw [xi_mul,Rg.mul_comm kx]
 have h3:S6.az x = iv11 x:=rfl
 have h4:S6.nr x = iv17 x:=by
  unfold S6.nr iv17 iv12 iv16 iv15 iv13 iv14
  rw [h1,h2,h3,xi_mul,Rg.mul_comm kx]
 unfold S6.inv S6.inv' iv19 iv20 iv21 iv18
 rw [h1,h2,h3,h4,ep]
theorem ep12 (x:S12):S12.inv x = S12.inv' x:=by
 have hn:jv4d x = S12.nr x:=by
  unfold jv4d jv1d jv3d jv2d S12.nr
  rw [S6.next_mul];rfl
 unfold S12.inv S12.inv' jv6d jv8d jv7d jv5d
 rw [hn,ep6]
 rfl
theorem conj_t6 (s:S12):S12.conj s = S12.turns 6 s:=by rw [S12.turns_six];rfl
theorem conj_mul (a b:S12):S12.conj (a * b) = S12.conj a * S12.conj b:=by rw [conj_t6,conj_t6,conj_t6,S12.turns_mul]
theorem inv_of {s:S12} (h:s ≠ 0):s * S12.inv s = 1:=by rw [ep12];exact S12.mul_inv h
theorem cr_e1 {R:Type} [CR R] (a b x y z:R):(a * x) * (b * y) * z = (x * y) * ((a * b) * z):=by grind
theorem cr_e2 {R:Type} [CR R] (a b x y:R):(a * b) * (x * y) = (a * x) * (b * y):=by grind
theorem cr_e5 {R:Type} [CR R] (s r f g t q u p v o:R):(s * r) * (f * g) * (t * q) * (u * p) * (v * o) = (s * f * t * u * v) * (r * g * q * p * o):=by grind
theorem ne_mul {a b:S12} (ha:a ≠ 0) (hb:b ≠ 0):a * b ≠ 0:=fun e=>hb (by
 have h1:S12.inv a * (a * b) = b:=by rw [<-Rg.mul_assoc,Rg.mul_comm (S12.inv a) a,inv_of ha,Rg.one_mul]
 rw [e,Rg.mul_zero] at h1;exact h1.symm)
theorem inv_mul2 {a b:S12} (ha:a ≠ 0) (hb:b ≠ 0):S12.inv (a * b) = S12.inv a * S12.inv b:=by
 have h:=inv_of (ne_mul ha hb)
 have e:=cr_e1 a b (S12.inv a) (S12.inv b) (S12.inv (a * b))
 rw [inv_of ha,inv_of hb,h,Rg.one_mul,Rg.one_mul,Rg.mul_one] at e
 exact e
theorem laE_mul {a b:S12} (ha:a ≠ 0) (hb:b ≠ 0):laE (a * b) = laE a * laE b:=by
 unfold laE
 rw [conj_mul,inv_mul2 ha hb,cr_e2]
theorem laF_mul {a b:S12} (ha:a ≠ 0) (hb:b ≠ 0):laF (a * b) = laF a * laF b:=by
 unfold laF
 rw [laE_mul ha hb,S12.turns_mul,cr_e2]
theorem smS_mul (a b:S12):smS (a * b) = smS a * smS b:=by
 unfold smS
 rw [mul_pow',conj_mul]
theorem laX_mul (a b:S12):laX (a * b) = laX a * laX b:=by
 unfold laX
 rw [mul_pow',mul_pow']
theorem laZ_mul (a b:S12):laZ (a * b) = laZ a * laZ b:=by
 unfold laZ
 rw [smS_mul,smS_mul,conj_mul,cr_e2]
theorem laO_mul (f g x y:S12):laO (f * g) (x * y) = laO f x * laO g y:=by
 unfold laO
 rw [laZ_mul,smS_mul,smS_mul,S12.turns_mul,S12.turns_mul,S12.turns_mul,cr_e5]
theorem last_mul {a b:S12} (ha:a ≠ 0) (hb:b ≠ 0):lastS (a * b) = lastS a * lastS b:=by
 unfold lastS
 rw [laF_mul ha hb,laX_mul,laO_mul]
theorem turns_1 (n:Nat):S12.turns n 1 = 1:=by rw [S12.turns_pow,Rg.one_pow]
theorem conj_1:S12.conj 1 = 1:=by rw [conj_t6,turns_1]
theorem smS_1:smS 1 = 1:=by unfold smS;rw [Rg.one_pow,conj_1]
theorem laX_1:laX 1 = 1:=by unfold laX;rw [Rg.one_pow,Rg.one_pow]
theorem laZ_1:laZ 1 = 1:=by unfold laZ;rw [smS_1,smS_1,conj_1,Rg.one_mul]
theorem laO_1:laO 1 1 = 1:=by unfold laO;rw [laZ_1,smS_1,turns_1,turns_1,turns_1,Rg.one_mul,Rg.one_mul,Rg.one_mul,Rg.one_mul]
theorem last_of {a:S12} (h:laE a = 1):lastS a = 1:=by
 have hF:laF a = 1:=by unfold laF;rw [h,turns_1,Rg.one_mul]
 unfold lastS
 rw [hF,laX_1,laO_1]
theorem last_conj {a:S12} (h:a ≠ 0) (hc:S12.conj a = a):lastS a = 1:=last_of (by unfold laE;rw [hc,inv_of h])
theorem one_ne:(1:S12) ≠ 0:=fun h=>by
 have:=congrArg (fun s:S12=>s.p.u.x) h
 exact absurd this (by decide)
theorem last_1:lastS 1 = 1:=last_conj one_ne conj_1
end Go.Proofs.Ytnjocbcjejpklaa
namespace Go.Proofs.Ytnjocbcjejpklaa
open Go.Rq Go
set_option maxRecDepth 100000
set_option maxHeartbeats 4000000
def cPairs0:List AV->Option (List Prop × AV)
 | [.v1 (.sc (.rw (.slice none 0 0))),.v1 (.sc (.rw (.slice none 0 0)))]=>some ([],.tup [n12 (lastS 1),.sc (.it 0)])
 | _=>none
def GP0:Ctx:=ctxL [(18,.pure (c12 one12)),(13,.pure (k121 lastS)),(12,.pure cFrom12)]
theorem GP0_ok:CtxOk Try.prog GP0:=ctxL_cons okOne12 <| ctxL_cons okLast <| ctxL_cons okFrom12 ctxL_nil
theorem okPairs0:(CallC.pure cPairs0).Ok Try.prog 9:=by
 intro args pre v e hp
 unfold cPairs0 at e
 split at e
 rotate_left
 ·cases e
 cases e
 refine pure_walk' tt_ok Try.func9 (by kernel_rfl) (by kernel_rfl) (by rfl) (by rfl) ?_
 have h1:(d12 oneF fz fz fz fz fz fz fz fz fz fz fz) = 1:=S12.one_d
 refine evS_q mixed tt_ok GP0_ok 200 [] ?_
 refine same (p:=nv oneF < pN/\lp fz/\lp fz/\lp fz/\lp fz/\lp fz/\lp fz/\lp fz/\lp fz/\lp fz/\lp fz/\lp fz/\eL12 (lastS (d12 oneF fz fz fz fz fz fz fz fz fz fz fz)) (endN (.tup [v12 (vF (dF (eF (lastS (d12 oneF fz fz fz fz fz fz fz fz fz fz fz)).p.u.x))) (vF (dF (eF (lastS (d12 oneF fz fz fz fz fz fz fz fz fz fz fz)).p.u.y))) (vF (dF (eF (lastS (d12 oneF fz fz fz fz fz fz fz fz fz fz fz)).q.u.x))) (vF (dF (eF (lastS (d12 oneF fz fz fz fz fz fz fz fz fz fz fz)).q.u.y))) (vF (dF (eF (lastS (d12 oneF fz fz fz fz fz fz fz fz fz fz fz)).p.v.x))) (vF (dF (eF (lastS (d12 oneF fz fz fz fz fz fz fz fz fz fz fz)).p.v.y))) (vF (dF (eF (lastS (d12 oneF fz fz fz fz fz fz fz fz fz fz fz)).q.v.x))) (vF (dF (eF (lastS (d12 oneF fz fz fz fz fz fz fz fz fz fz fz)).q.v.y))) (vF (dF (eF (lastS (d12 oneF fz fz fz fz fz fz fz fz fz fz fz)).p.w.x))) (vF (dF (eF (lastS (d12 oneF fz fz fz fz fz fz fz fz fz fz fz)).p.w.y))) (vF (dF (eF (lastS (d12 oneF fz fz fz fz fz fz fz fz fz fz fz)).q.w.x))) (vF (dF (eF (lastS (d12 oneF fz fz fz fz fz fz fz fz fz fz fz)).q.w.y))),.sc (.it 0)]) (.tup [n12 (lastS 1),.sc (.it 0)]))) ?_ (by kernel_rfl)
 exact ⟨lt_one,lt_zero,lt_zero,lt_zero,lt_zero,lt_zero,lt_zero,lt_zero,lt_zero,lt_zero,lt_zero,lt_zero,lt_eF _,lt_eF _,lt_eF _,lt_eF _,lt_eF _,lt_eF _,lt_eF _,lt_eF _,lt_eF _,lt_eF _,lt_eF _,lt_eF _,endPI (t:=(lastS (d12 oneF fz fz fz fz fz fz fz fz fz fz fz))) (by rw [h1]) rfl rfl⟩
def cAwake6:List AV->Option (List Prop × AV)
 | []=>some ([],.v1 (.sc (.bo true)))
 | _=>none
def GA6:Ctx:=ctxL [(9,.pure cPairs0),(6,.pure cLast),(8,.pure (c12 (n12 1)))]
theorem GA6_ok:CtxOk Try.prog GA6:=ctxL_cons okPairs0 <| ctxL_cons okLastP <| ctxL_cons okTOne ctxL_nil
abbrev zg12:S12:=g12 fz fz fz fz fz fz fz fz fz fz fz fz
theorem zg12_z:z12 zg12 = true:=by kernel_rfl
theorem invE_0:invE zg12 = 6:=by unfold invE;rw [zg12_z,cond_true]
theorem okAwake6:(CallC.pure cAwake6).Ok Try.prog 5:=by
 intro args pre v e hp
 unfold cAwake6 at e
 split at e
 rotate_left
 ·cases e
 cases e
 refine pure_walk' tt_ok Try.func5 (by kernel_rfl) (by kernel_rfl) (by rfl) (by rfl) ?_
 refine evS_q mixed tt_ok GA6_ok 200 [⟨3,2,.lit (.bo true)⟩,⟨3,9,.lit (.bo true)⟩] ?_
 refine same (p:=qL (nL (lastS 1)) (nL 1) = true/\ieq (invE zg12) 6 = true/\endT) ?_ (by kernel_rfl)
 exact ⟨qn_of last_1,by rw [invE_0];rfl,endT_ok⟩
end Go.Proofs.Ytnjocbcjejpklaa
namespace Go.Rq
open Go
set_option maxRecDepth 100000
instance:DecidableEq S6:=fun a b=>if h:a.u = b.u/\a.v = b.v/\a.w = b.w then isTrue (S6.ext h.1 h.2.1 h.2.2) else isFalse fun e=>h (by rw [e];exact ⟨rfl,rfl,rfl⟩)
instance:DecidableEq S12:=fun a b=>if h:a.p = b.p/\a.q = b.q then isTrue (S12.ext h.1 h.2) else isFalse fun e=>h (by rw [e];exact ⟨rfl,rfl⟩)
end Go.Rq
namespace Go.Proofs.Ytnjocbcjejpklaa
open Go.Rq Go
set_option maxRecDepth 100000
set_option maxHeartbeats 4000000
set_option maxRecDepth 100000
def unF0:Nat->Nat:=(upd (upd (upd (upd (upd (upd fz 0 1730508156817200468) 1 9606178027640717313) 2 7150789853162776431) 3 7936136305760253186) 4 15245073033536294050) 5 1728177566264616342)
def unF1:Nat->Nat:=(upd (upd (upd (upd (upd (upd fz 0 11671922859260663127) 1 11050707557586042878) 2 284884720401305268) 3 17749945728364010941) 4 8613774818643959860) 5 145621051382923523)
theorem un_lt0:nv unF0 < pN:=by rw [<-Nat.blt_eq];kernel_rfl
theorem un_lt1:nv unF1 < pN:=by rw [<-Nat.blt_eq];kernel_rfl
abbrev unS:F2p:=⟨dF unF0,dF unF1⟩
theorem okUnder:(CallC.pure (c2 unF0 unF1)).Ok Try.prog 93:=by
 intro args pre v e _
 unfold c2 at e
 split at e
 ·cases e
  refine pure_walk' tt_ok Try.func93 (by kernel_rfl) (by kernel_rfl) (by rfl) (by rfl) ?_
  refine evS_q mixed tt_ok G0_ok 60 [] ?_
  exact same (p:=endN (f2 unF0 unF1) (f2 unF0 unF1)) ⟨_,rfl,fun _=>rfl⟩ (by kernel_rfl)
 ·cases e
def slS (u d:F2p):F2p:=u * F2p.inv d
def lnT (py:Fp) (l3 l5:F2p):S12:=⟨⟨⟨py,0⟩,0,0⟩,⟨0,l3,l5⟩⟩
def lnS (px py:Fp) (tx ty m:F2p):S12:=lnT py ((m * tx - ty) * unS) (F2p.ng' (F2p.sc m px) * unS)
def stX (tx m o:F2p):F2p:=(m * m - tx) - o
def stY (tx ty m o:F2p):F2p:=m * (tx - stX tx m o) - ty
structure WS where
 tx:F2p
 ty:F2p
 f:S12
def twW (px py:Fp) (s:WS):WS :=
 ⟨stX s.tx (slS ((s.tx * s.tx + s.tx * s.tx) + s.tx * s.tx) (s.ty + s.ty)) s.tx,stY s.tx s.ty (slS ((s.tx * s.tx + s.tx * s.tx) + s.tx * s.tx) (s.ty + s.ty)) s.tx,(s.f * s.f) * lnS px py s.tx s.ty (slS ((s.tx * s.tx + s.tx * s.tx) + s.tx * s.tx) (s.ty + s.ty))⟩
def adW (px py:Fp) (qx qy:F2p) (s:WS):WS :=
 ⟨stX s.tx (slS (qy - s.ty) (qx - s.tx)) qx,stY s.tx s.ty (slS (qy - s.ty) (qx - s.tx)) qx,s.f * lnS px py s.tx s.ty (slS (qy - s.ty) (qx - s.tx))⟩
theorem as_slQ {A B C D:Nat->Nat} {s u t:F2p} (a:dF A = s.x) (b:dF B = s.y) (c:dF C = u.x) (d:dF D = u.y) (h:t = slS s u):asP (eC2 (slS (⟨dF A,dF B⟩:F2p) (⟨dF C,dF D⟩:F2p))) (eC2 t):=asQ (by rw [a,b,c,d,h]) (by rw [a,b,c,d,h])
theorem ln_d {py:Nat->Nat} {l3 l5:F2p}:d12 py fz fz fz fz fz (eF l3.x) (eF l3.y) fz fz (eF l5.x) (eF l5.y) = lnT (dF py) l3 l5:=by
 unfold d12 d6 lnT
 simp only [dF_eF,dF_0]
 rfl
def csl:List AV->Option (List Prop × AV)
 | [.v1 (.agg [.ws .u64 6 a,.ws .u64 6 b]),.v1 (.agg [.ws .u64 6 c,.ws .u64 6 d])]=>some ([nv a < pN,nv b < pN,nv c < pN,nv d < pN],.v1 (.agg (eC2 (slS ⟨dF a,dF b⟩ ⟨dF c,dF d⟩))))
 | _=>none
def GSlp:Ctx:=ctxL [(50,.pure (q2 mul2x mul2y)),(67,.pure (q1 inv2x inv2y))]
theorem GSlp_ok:CtxOk Try.prog GSlp:=ctxL_cons okMul2 <| ctxL_cons okMInv2 ctxL_nil
theorem okSlope:(CallC.pure csl).Ok Try.prog 74:=by
 intro args pre v e hp
 unfold csl at e
 split at e
 rotate_left
 ·cases e
 rename_i a b c d
 cases e
 have ha:nv a < pN:=hp (nv a < pN) (by simp)
 have hb:nv b < pN:=hp (nv b < pN) (by simp)
 have hc:nv c < pN:=hp (nv c < pN) (by simp)
 have hd:nv d < pN:=hp (nv d < pN) (by simp)
 refine pure_walk' tt_ok Try.func74 (by kernel_rfl) (by kernel_rfl) (by rfl) (by rfl) ?_
 obtain ⟨t1,ht1⟩:∃ q_:F2p,q_ = F2p.inv (⟨dF c,dF d⟩:F2p):=⟨_,rfl⟩
 obtain ⟨t2,ht2⟩:∃ q_:F2p,q_ = (⟨dF a,dF b⟩:F2p) * t1:=⟨_,rfl⟩
 refine evS_q mixed tt_ok GSlp_ok 100 [⟨1,2,.as (eC2 t1)⟩,⟨1,3,.as (eC2 t2)⟩] ?_
 refine same (p:=asP [q6 (eF (inv2x (dF c) (dF d))),q6 (eF (inv2y (dF c) (dF d)))] (eC2 t1)/\lp c/\lp d/\asP (eD4 mul2x mul2y (dF a) (dF b) (dF (eF t1.x)) (dF (eF t1.y))) (eC2 t2)/\lp a/\lp b/\lp (eF t1.x)/\lp (eF t1.y)/\endN (.v1 (.agg (eC2 t2))) (.v1 (.agg (eC2 (slS (⟨dF a,dF b⟩:F2p) (⟨dF c,dF d⟩:F2p)))))) ?_ (by kernel_rfl)
 exact ⟨as_invQ rfl rfl ht1,hc,hd,as_mulQ rfl rfl (dF_eF _) (dF_eF _) ht2,ha,hb,lt_eF _,lt_eF _,endC (cv_cons (nv_tx (by subst ht2 ht1;rfl)) (cv_cons (nv_ty (by subst ht2 ht1;rfl)) cv_nil))⟩
def endW (t:Nat) (cs ds:List Cell):Prop:=true = true/\true = true/\SimH [some ⟨t,cs,0,0⟩] [some ⟨t,ds,0,0⟩]/\∃ v',some (AV.tup []) = some v'/\avB [some ⟨t,cs,0,0⟩] (bkAV [0] v') = true/\∀ ρ,(bkAV [0] v').val ρ = (AV.tup []).val ρ
theorem endW_of {t:Nat} {cs ds:List Cell} (h:∀ ρ:Ren,cvals ρ cs = cvals ρ ds):endW t cs ds:=⟨rfl,rfl,⟨⟨rfl,rfl,rfl,h⟩,trivial⟩,_,rfl,rfl,fun _=>rfl⟩
theorem bk_one (b:Nat):bk [b] b = 0:=by simp [bk,idxN]
def cLineW (args:List AV) (h:Heap) (slot:Nat):Option (List Prop × AV × Heap) :=
 match args with
 | [.v1 (.sc (.pt b 0)),.v1 (.agg [.ws .u64 6 m0,.ws .u64 6 m1])]=>match hget h b with
  | some ⟨t0,[.ws .u64 6 px,.ws .u64 6 py,.ws .u64 6 qx0,.ws .u64 6 qx1,.ws .u64 6 qy0,.ws .u64 6 qy1,.ws .u64 6 tx0,.ws .u64 6 tx1,.ws .u64 6 ty0,.ws .u64 6 ty1,.ws .u64 6 f0,.ws .u64 6 f1,.ws .u64 6 f2,.ws .u64 6 f3,.ws .u64 6 f4,.ws .u64 6 f5,.ws .u64 6 f6,.ws .u64 6 f7,.ws .u64 6 f8,.ws .u64 6 f9,.ws .u64 6 f10,.ws .u64 6 f11],0,0⟩=>match Nat.beq t0 93 with
   | true=>some ([nv px < pN,nv py < pN,nv tx0 < pN,nv tx1 < pN,nv ty0 < pN,nv ty1 < pN,nv f0 < pN,nv f1 < pN,nv f2 < pN,nv f3 < pN,nv f4 < pN,nv f5 < pN,nv f6 < pN,nv f7 < pN,nv f8 < pN,nv f9 < pN,nv f10 < pN,nv f11 < pN,nv m0 < pN,nv m1 < pN],.tup [],hset h b ⟨93,[q6 px,q6 py,q6 qx0,q6 qx1,q6 qy0,q6 qy1,q6 tx0,q6 tx1,q6 ty0,q6 ty1,q6 (eF (((d12 f0 f1 f2 f3 f4 f5 f6 f7 f8 f9 f10 f11) * lnS (dF px) (dF py) (⟨dF tx0,dF tx1⟩:F2p) (⟨dF ty0,dF ty1⟩:F2p) (⟨dF m0,dF m1⟩:F2p))).p.u.x),q6 (eF (((d12 f0 f1 f2 f3 f4 f5 f6 f7 f8 f9 f10 f11) * lnS (dF px) (dF py) (⟨dF tx0,dF tx1⟩:F2p) (⟨dF ty0,dF ty1⟩:F2p) (⟨dF m0,dF m1⟩:F2p))).p.u.y),q6 (eF (((d12 f0 f1 f2 f3 f4 f5 f6 f7 f8 f9 f10 f11) * lnS (dF px) (dF py) (⟨dF tx0,dF tx1⟩:F2p) (⟨dF ty0,dF ty1⟩:F2p) (⟨dF m0,dF m1⟩:F2p))).q.u.x),q6 (eF (((d12 f0 f1 f2 f3 f4 f5 f6 f7 f8 f9 f10 f11) * lnS (dF px) (dF py) (⟨dF tx0,dF tx1⟩:F2p) (⟨dF ty0,dF ty1⟩:F2p) (⟨dF m0,dF m1⟩:F2p))).q.u.y),q6 (eF (((d12 f0 f1 f2 f3 f4 f5 f6 f7 f8 f9 f10 f11) * lnS (dF px) (dF py) (⟨dF tx0,dF tx1⟩:F2p) (⟨dF ty0,dF ty1⟩:F2p) (⟨dF m0,dF m1⟩:F2p))).p.v.x),q6 (eF (((d12 f0 f1 f2 f3 f4 f5 f6 f7 f8 f9 f10 f11) * lnS (dF px) (dF py) (⟨dF tx0,dF tx1⟩:F2p) (⟨dF ty0,dF ty1⟩:F2p) (⟨dF m0,dF m1⟩:F2p))).p.v.y),q6 (eF (((d12 f0 f1 f2 f3 f4 f5 f6 f7 f8 f9 f10 f11) * lnS (dF px) (dF py) (⟨dF tx0,dF tx1⟩:F2p) (⟨dF ty0,dF ty1⟩:F2p) (⟨dF m0,dF m1⟩:F2p))).q.v.x),q6 (eF (((d12 f0 f1 f2 f3 f4 f5 f6 f7 f8 f9 f10 f11) * lnS (dF px) (dF py) (⟨dF tx0,dF tx1⟩:F2p) (⟨dF ty0,dF ty1⟩:F2p) (⟨dF m0,dF m1⟩:F2p))).q.v.y),q6 (eF (((d12 f0 f1 f2 f3 f4 f5 f6 f7 f8 f9 f10 f11) * lnS (dF px) (dF py) (⟨dF tx0,dF tx1⟩:F2p) (⟨dF ty0,dF ty1⟩:F2p) (⟨dF m0,dF m1⟩:F2p))).p.w.x),q6 (eF (((d12 f0 f1 f2 f3 f4 f5 f6 f7 f8 f9 f10 f11) * lnS (dF px) (dF py) (⟨dF tx0,dF tx1⟩:F2p) (⟨dF ty0,dF ty1⟩:F2p) (⟨dF m0,dF m1⟩:F2p))).p.w.y),q6 (eF (((d12 f0 f1 f2 f3 f4 f5 f6 f7 f8 f9 f10 f11) * lnS (dF px) (dF py) (⟨dF tx0,dF tx1⟩:F2p) (⟨dF ty0,dF ty1⟩:F2p) (⟨dF m0,dF m1⟩:F2p))).q.w.x),q6 (eF (((d12 f0 f1 f2 f3 f4 f5 f6 f7 f8 f9 f10 f11) * lnS (dF px) (dF py) (⟨dF tx0,dF tx1⟩:F2p) (⟨dF ty0,dF ty1⟩:F2p) (⟨dF m0,dF m1⟩:F2p))).q.w.y)],0,0⟩)
   | false=>none
  | _=>none
 | _=>none
def GLw:Ctx:=ctxL [(88,.pure (qs sc2x sc2y)),(92,.pure (q1 neg2x neg2y)),(93,.pure (c2 unF0 unF1)),(50,.pure (q2 mul2x mul2y)),(53,.pure (q2 sub2x sub2y)),(14,.pure (k122 S12.mul))]
theorem GLw_ok:CtxOk Try.prog GLw:=ctxL_cons okScale <| ctxL_cons okNeg2 <| ctxL_cons okUnder <| ctxL_cons okMul2 <| ctxL_cons okSub2 <| ctxL_cons okMul12 ctxL_nil
theorem okLineW:(CallC.mem cLineW).Ok Try.prog 75:=by
 intro args h slot pre v h' e hp
 unfold cLineW at e
 split at e
 rotate_left
 ·cases e
 rename_i b m0 m1
 split at e
 rotate_left
 ·cases e
 rename_i t0 px py qx0 qx1 qy0 qy1 tx0 tx1 ty0 ty1 f0 f1 f2 f3 f4 f5 f6 f7 f8 f9 f10 f11 hb0
 split at e
 rotate_left
 ·cases e
 rename_i hty
 cases e
 simp only [Nat.beq_eq] at hty
 subst hty
 have hpx:nv px < pN:=hp (nv px < pN) (by simp)
 have hpy:nv py < pN:=hp (nv py < pN) (by simp)
 have htx0:nv tx0 < pN:=hp (nv tx0 < pN) (by simp)
 have htx1:nv tx1 < pN:=hp (nv tx1 < pN) (by simp)
 have hty0:nv ty0 < pN:=hp (nv ty0 < pN) (by simp)
 have hty1:nv ty1 < pN:=hp (nv ty1 < pN) (by simp)
 have hf0:nv f0 < pN:=hp (nv f0 < pN) (by simp)
 have hf1:nv f1 < pN:=hp (nv f1 < pN) (by simp)
 have hf2:nv f2 < pN:=hp (nv f2 < pN) (by simp)
 have hf3:nv f3 < pN:=hp (nv f3 < pN) (by simp)
 have hf4:nv f4 < pN:=hp (nv f4 < pN) (by simp)
 have hf5:nv f5 < pN:=hp (nv f5 < pN) (by simp)
 have hf6:nv f6 < pN:=hp (nv f6 < pN) (by simp)
 have hf7:nv f7 < pN:=hp (nv f7 < pN) (by simp)
 have hf8:nv f8 < pN:=hp (nv f8 < pN) (by simp)
 have hf9:nv f9 < pN:=hp (nv f9 < pN) (by simp)
 have hf10:nv f10 < pN:=hp (nv f10 < pN) (by simp)
 have hf11:nv f11 < pN:=hp (nv f11 < pN) (by simp)
 have hm0:nv m0 < pN:=hp (nv m0 < pN) (by simp)
 have hm1:nv m1 < pN:=hp (nv m1 < pN) (by simp)
 have hl:=hget_lt hb0
 refine mem_walk tt_ok Try.func75 (by kernel_rfl) (by kernel_rfl) [b] [] slot [some ⟨93,[q6 px,q6 py,q6 qx0,q6 qx1,q6 qy0,q6 qy1,q6 tx0,q6 tx1,q6 ty0,q6 ty1,q6 f0,q6 f1,q6 f2,q6 f3,q6 f4,q6 f5,q6 f6,q6 f7,q6 f8,q6 f9,q6 f10,q6 f11],0,0⟩] [some ⟨93,[q6 px,q6 py,q6 qx0,q6 qx1,q6 qy0,q6 qy1,q6 tx0,q6 tx1,q6 ty0,q6 ty1,q6 (eF (((d12 f0 f1 f2 f3 f4 f5 f6 f7 f8 f9 f10 f11) * lnS (dF px) (dF py) (⟨dF tx0,dF tx1⟩:F2p) (⟨dF ty0,dF ty1⟩:F2p) (⟨dF m0,dF m1⟩:F2p))).p.u.x),q6 (eF (((d12 f0 f1 f2 f3 f4 f5 f6 f7 f8 f9 f10 f11) * lnS (dF px) (dF py) (⟨dF tx0,dF tx1⟩:F2p) (⟨dF ty0,dF ty1⟩:F2p) (⟨dF m0,dF m1⟩:F2p))).p.u.y),q6 (eF (((d12 f0 f1 f2 f3 f4 f5 f6 f7 f8 f9 f10 f11) * lnS (dF px) (dF py) (⟨dF tx0,dF tx1⟩:F2p) (⟨dF ty0,dF ty1⟩:F2p) (⟨dF m0,dF m1⟩:F2p))).q.u.x),q6 (eF (((d12 f0 f1 f2 f3 f4 f5 f6 f7 f8 f9 f10 f11) * lnS (dF px) (dF py) (⟨dF tx0,dF tx1⟩:F2p) (⟨dF ty0,dF ty1⟩:F2p) (⟨dF m0,dF m1⟩:F2p))).q.u.y),q6 (eF (((d12 f0 f1 f2 f3 f4 f5 f6 f7 f8 f9 f10 f11) * lnS (dF px) (dF py) (⟨dF tx0,dF tx1⟩:F2p) (⟨dF ty0,dF ty1⟩:F2p) (⟨dF m0,dF m1⟩:F2p))).p.v.x),q6 (eF (((d12 f0 f1 f2 f3 f4 f5 f6 f7 f8 f9 f10 f11) * lnS (dF px) (dF py) (⟨dF tx0,dF tx1⟩:F2p) (⟨dF ty0,dF ty1⟩:F2p) (⟨dF m0,dF m1⟩:F2p))).p.v.y),q6 (eF (((d12 f0 f1 f2 f3 f4 f5 f6 f7 f8 f9 f10 f11) * lnS (dF px) (dF py) (⟨dF tx0,dF tx1⟩:F2p) (⟨dF ty0,dF ty1⟩:F2p) (⟨dF m0,dF m1⟩:F2p))).q.v.x),q6 (eF (((d12 f0 f1 f2 f3 f4 f5 f6 f7 f8 f9 f10 f11) * lnS (dF px) (dF py) (⟨dF tx0,dF tx1⟩:F2p) (⟨dF ty0,dF ty1⟩:F2p) (⟨dF m0,dF m1⟩:F2p))).q.v.y),q6 (eF (((d12 f0 f1 f2 f3 f4 f5 f6 f7 f8 f9 f10 f11) * lnS (dF px) (dF py) (⟨dF tx0,dF tx1⟩:F2p) (⟨dF ty0,dF ty1⟩:F2p) (⟨dF m0,dF m1⟩:F2p))).p.w.x),q6 (eF (((d12 f0 f1 f2 f3 f4 f5 f6 f7 f8 f9 f10 f11) * lnS (dF px) (dF py) (⟨dF tx0,dF tx1⟩:F2p) (⟨dF ty0,dF ty1⟩:F2p) (⟨dF m0,dF m1⟩:F2p))).p.w.y),q6 (eF (((d12 f0 f1 f2 f3 f4 f5 f6 f7 f8 f9 f10 f11) * lnS (dF px) (dF py) (⟨dF tx0,dF tx1⟩:F2p) (⟨dF ty0,dF ty1⟩:F2p) (⟨dF m0,dF m1⟩:F2p))).q.w.x),q6 (eF (((d12 f0 f1 f2 f3 f4 f5 f6 f7 f8 f9 f10 f11) * lnS (dF px) (dF py) (⟨dF tx0,dF tx1⟩:F2p) (⟨dF ty0,dF ty1⟩:F2p) (⟨dF m0,dF m1⟩:F2p))).q.w.y)],0,0⟩] (args':=[pt 0 0,.v1 (.agg [q6 m0,q6 m1])]) (vK:=.tup [])
  (by kernel_rfl) ?_ (by kernel_rfl) ?_ (by kernel_rfl) (fun i hi=>?_) (by kernel_rfl) (by kernel_rfl) (fun i hi=>?_) (by kernel_rfl) ?_ rfl (fun t ht=>by simp at ht) (fun i hi _=>?_) ?_
 ·show [pickB _ (hget h b)] = _
  rw [hb0];rfl
 ·show [AV.v1 (.sc (.pt (bk [b] b) 0)),.v1 (.agg [q6 m0,q6 m1])] = _
  rw [bk_one]
 ·have:i = 0:=by simpa using hi
  subst this;exact ⟨_,rfl,by simp⟩
 ·have:i = 0:=by simpa using hi
  subst this;exact ⟨_,rfl⟩
 ·show [pickB _ (hget (hset h b _) b)] = _
  rw [hget_hset_same hl];rfl
 ·exact hget_hset_ne fun e=>hi 0 (by simp) e.symm
 ·skip
  obtain ⟨t1,ht1⟩:∃ q_:F2p,q_ = F2p.sc (⟨dF m0,dF m1⟩:F2p) (dF px):=⟨_,rfl⟩
  obtain ⟨t2,ht2⟩:∃ q_:F2p,q_ = F2p.ng' t1:=⟨_,rfl⟩
  obtain ⟨t3,ht3⟩:∃ q_:F2p,q_ = t2 * unS:=⟨_,rfl⟩
  obtain ⟨t4,ht4⟩:∃ q_:F2p,q_ = (⟨dF m0,dF m1⟩:F2p) * (⟨dF tx0,dF tx1⟩:F2p):=⟨_,rfl⟩
  obtain ⟨t5,ht5⟩:∃ q_:F2p,q_ = t4 - (⟨dF ty0,dF ty1⟩:F2p):=⟨_,rfl⟩
  obtain ⟨t6,ht6⟩:∃ q_:F2p,q_ = t5 * unS:=⟨_,rfl⟩
  obtain ⟨t7,ht7⟩:∃ q_:S12,q_ = (d12 f0 f1 f2 f3 f4 f5 f6 f7 f8 f9 f10 f11) * (lnT (dF py) t6 t3):=⟨_,rfl⟩
  have hE:t7 = ((d12 f0 f1 f2 f3 f4 f5 f6 f7 f8 f9 f10 f11) * lnS (dF px) (dF py) (⟨dF tx0,dF tx1⟩:F2p) (⟨dF ty0,dF ty1⟩:F2p) (⟨dF m0,dF m1⟩:F2p)):=by subst ht7 ht6 ht5 ht4 ht3 ht2 ht1;rfl
  refine evS_q mixed tt_ok GLw_ok 200 [⟨3,5,.as (eC2 t1)⟩,⟨3,6,.as (eC2 t2)⟩,⟨3,8,.as (eC2 t3)⟩,⟨4,5,.as (eC2 t4)⟩,⟨4,10,.as (eC2 t5)⟩,⟨4,12,.as (eC2 t6)⟩,⟨5,6,.as (eC12 t7)⟩] ?_
  refine same (p:=asP [q6 (eF (sc2x (dF m0) (dF m1) (dF px))),q6 (eF (sc2y (dF m0) (dF m1) (dF px)))] (eC2 t1)/\lp m0/\lp m1/\lp px/\asP [q6 (eF (neg2x (dF (eF t1.x)) (dF (eF t1.y)))),q6 (eF (neg2y (dF (eF t1.x)) (dF (eF t1.y))))] (eC2 t2)/\lp (eF t1.x)/\lp (eF t1.y)/\asP (eD4 mul2x mul2y (dF (eF t2.x)) (dF (eF t2.y)) (dF unF0) (dF unF1)) (eC2 t3)/\lp (eF t2.x)/\lp (eF t2.y)/\lp unF0/\lp unF1/\asP (eD4 mul2x mul2y (dF m0) (dF m1) (dF tx0) (dF tx1)) (eC2 t4)/\lp m0/\lp m1/\lp tx0/\lp tx1/\asP (eD4 sub2x sub2y (dF (eF t4.x)) (dF (eF t4.y)) (dF ty0) (dF ty1)) (eC2 t5)/\lp (eF t4.x)/\lp (eF t4.y)/\lp ty0/\lp ty1/\asP (eD4 mul2x mul2y (dF (eF t5.x)) (dF (eF t5.y)) (dF unF0) (dF unF1)) (eC2 t6)/\lp (eF t5.x)/\lp (eF t5.y)/\lp unF0/\lp unF1/\asP (cells12 (S12.mul (d12 f0 f1 f2 f3 f4 f5 f6 f7 f8 f9 f10 f11) (d12 py fz fz fz fz fz (eF t6.x) (eF t6.y) fz fz (eF t3.x) (eF t3.y)))) (eC12 t7)/\lp f0/\lp f1/\lp f2/\lp f3/\lp f4/\lp f5/\lp f6/\lp f7/\lp f8/\lp f9/\lp f10/\lp f11/\lp py/\lp fz/\lp fz/\lp fz/\lp fz/\lp fz/\lp (eF t6.x)/\lp (eF t6.y)/\lp fz/\lp fz/\lp (eF t3.x)/\lp (eF t3.y)/\endW 93 [q6 px,q6 py,q6 qx0,q6 qx1,q6 qy0,q6 qy1,q6 tx0,q6 tx1,q6 ty0,q6 ty1,q6 (eF t7.p.u.x),q6 (eF t7.p.u.y),q6 (eF t7.q.u.x),q6 (eF t7.q.u.y),q6 (eF t7.p.v.x),q6 (eF t7.p.v.y),q6 (eF t7.q.v.x),q6 (eF t7.q.v.y),q6 (eF t7.p.w.x),q6 (eF t7.p.w.y),q6 (eF t7.q.w.x),q6 (eF t7.q.w.y)] [q6 px,q6 py,q6 qx0,q6 qx1,q6 qy0,q6 qy1,q6 tx0,q6 tx1,q6 ty0,q6 ty1,q6 (eF (((d12 f0 f1 f2 f3 f4 f5 f6 f7 f8 f9 f10 f11) * lnS (dF px) (dF py) (⟨dF tx0,dF tx1⟩:F2p) (⟨dF ty0,dF ty1⟩:F2p) (⟨dF m0,dF m1⟩:F2p))).p.u.x),q6 (eF (((d12 f0 f1 f2 f3 f4 f5 f6 f7 f8 f9 f10 f11) * lnS (dF px) (dF py) (⟨dF tx0,dF tx1⟩:F2p) (⟨dF ty0,dF ty1⟩:F2p) (⟨dF m0,dF m1⟩:F2p))).p.u.y),q6 (eF (((d12 f0 f1 f2 f3 f4 f5 f6 f7 f8 f9 f10 f11) * lnS (dF px) (dF py) (⟨dF tx0,dF tx1⟩:F2p) (⟨dF ty0,dF ty1⟩:F2p) (⟨dF m0,dF m1⟩:F2p))).q.u.x),q6 (eF (((d12 f0 f1 f2 f3 f4 f5 f6 f7 f8 f9 f10 f11) * lnS (dF px) (dF py) (⟨dF tx0,dF tx1⟩:F2p) (⟨dF ty0,dF ty1⟩:F2p) (⟨dF m0,dF m1⟩:F2p))).q.u.y),q6 (eF (((d12 f0 f1 f2 f3 f4 f5 f6 f7 f8 f9 f10 f11) * lnS (dF px) (dF py) (⟨dF tx0,dF tx1⟩:F2p) (⟨dF ty0,dF ty1⟩:F2p) (⟨dF m0,dF m1⟩:F2p))).p.v.x),q6 (eF (((d12 f0 f1 f2 f3 f4 f5 f6 f7 f8 f9 f10 f11) * lnS (dF px) (dF py) (⟨dF tx0,dF tx1⟩:F2p) (⟨dF ty0,dF ty1⟩:F2p) (⟨dF m0,dF m1⟩:F2p))).p.v.y),q6 (eF (((d12 f0 f1 f2 f3 f4 f5 f6 f7 f8 f9 f10 f11) * lnS (dF px) (dF py) (⟨dF tx0,dF tx1⟩:F2p) (⟨dF ty0,dF ty1⟩:F2p) (⟨dF m0,dF m1⟩:F2p))).q.v.x),q6 (eF (((d12 f0 f1 f2 f3 f4 f5 f6 f7 f8 f9 f10 f11) * lnS (dF px) (dF py) (⟨dF tx0,dF tx1⟩:F2p) (⟨dF ty0,dF ty1⟩:F2p) (⟨dF m0,dF m1⟩:F2p))).q.v.y),q6 (eF (((d12 f0 f1 f2 f3 f4 f5 f6 f7 f8 f9 f10 f11) * lnS (dF px) (dF py) (⟨dF tx0,dF tx1⟩:F2p) (⟨dF ty0,dF ty1⟩:F2p) (⟨dF m0,dF m1⟩:F2p))).p.w.x),q6 (eF (((d12 f0 f1 f2 f3 f4 f5 f6 f7 f8 f9 f10 f11) * lnS (dF px) (dF py) (⟨dF tx0,dF tx1⟩:F2p) (⟨dF ty0,dF ty1⟩:F2p) (⟨dF m0,dF m1⟩:F2p))).p.w.y),q6 (eF (((d12 f0 f1 f2 f3 f4 f5 f6 f7 f8 f9 f10 f11) * lnS (dF px) (dF py) (⟨dF tx0,dF tx1⟩:F2p) (⟨dF ty0,dF ty1⟩:F2p) (⟨dF m0,dF m1⟩:F2p))).q.w.x),q6 (eF (((d12 f0 f1 f2 f3 f4 f5 f6 f7 f8 f9 f10 f11) * lnS (dF px) (dF py) (⟨dF tx0,dF tx1⟩:F2p) (⟨dF ty0,dF ty1⟩:F2p) (⟨dF m0,dF m1⟩:F2p))).q.w.y)]) ?_ (by kernel_rfl)
  exact ⟨as_scaleQ rfl rfl rfl ht1,hm0,hm1,hpx,as_negQ (dF_eF _) (dF_eF _) ht2,lt_eF _,lt_eF _,as_mulQ (dF_eF _) (dF_eF _) rfl rfl ht3,lt_eF _,lt_eF _,un_lt0,un_lt1,as_mulQ rfl rfl rfl rfl ht4,hm0,hm1,htx0,htx1,as_subQ (dF_eF _) (dF_eF _) rfl rfl ht5,lt_eF _,lt_eF _,hty0,hty1,as_mulQ (dF_eF _) (dF_eF _) rfl rfl ht6,lt_eF _,lt_eF _,un_lt0,un_lt1,as_T2 rfl ln_d ht7,hf0,hf1,hf2,hf3,hf4,hf5,hf6,hf7,hf8,hf9,hf10,hf11,hpy,lt_zero,lt_zero,lt_zero,lt_zero,lt_zero,lt_eF _,lt_eF _,lt_zero,lt_zero,lt_eF _,lt_eF _,endW_of (cv_cons rfl (cv_cons rfl (cv_cons rfl (cv_cons rfl (cv_cons rfl (cv_cons rfl (cv_cons rfl (cv_cons rfl (cv_cons rfl (cv_cons rfl (cv_cons (congrArg (fun q:S12=>nv (eF q.p.u.x)) hE) (cv_cons (congrArg (fun q:S12=>nv (eF q.p.u.y)) hE) (cv_cons (congrArg (fun q:S12=>nv (eF q.q.u.x)) hE) (cv_cons (congrArg (fun q:S12=>nv (eF q.q.u.y)) hE) (cv_cons (congrArg (fun q:S12=>nv (eF q.p.v.x)) hE) (cv_cons (congrArg (fun q:S12=>nv (eF q.p.v.y)) hE) (cv_cons (congrArg (fun q:S12=>nv (eF q.q.v.x)) hE) (cv_cons (congrArg (fun q:S12=>nv (eF q.q.v.y)) hE) (cv_cons (congrArg (fun q:S12=>nv (eF q.p.w.x)) hE) (cv_cons (congrArg (fun q:S12=>nv (eF q.p.w.y)) hE) (cv_cons (congrArg (fun q:S12=>nv (eF q.q.w.x)) hE) (cv_cons (congrArg (fun q:S12=>nv (eF q.q.w.y)) hE) (cv_nil)))))))))))))))))))))))⟩
def cStepW (args:List AV) (h:Heap) (slot:Nat):Option (List Prop × AV × Heap) :=
 match args with
 | [.v1 (.sc (.pt b 0)),.v1 (.agg [.ws .u64 6 m0,.ws .u64 6 m1]),.v1 (.agg [.ws .u64 6 o0,.ws .u64 6 o1])]=>match hget h b with
  | some ⟨t0,[.ws .u64 6 px,.ws .u64 6 py,.ws .u64 6 qx0,.ws .u64 6 qx1,.ws .u64 6 qy0,.ws .u64 6 qy1,.ws .u64 6 tx0,.ws .u64 6 tx1,.ws .u64 6 ty0,.ws .u64 6 ty1,.ws .u64 6 f0,.ws .u64 6 f1,.ws .u64 6 f2,.ws .u64 6 f3,.ws .u64 6 f4,.ws .u64 6 f5,.ws .u64 6 f6,.ws .u64 6 f7,.ws .u64 6 f8,.ws .u64 6 f9,.ws .u64 6 f10,.ws .u64 6 f11],0,0⟩=>match Nat.beq t0 93 with
   | true=>some ([nv tx0 < pN,nv tx1 < pN,nv ty0 < pN,nv ty1 < pN,nv m0 < pN,nv m1 < pN,nv o0 < pN,nv o1 < pN],.tup [],hset h b ⟨93,[q6 px,q6 py,q6 qx0,q6 qx1,q6 qy0,q6 qy1,q6 (eF ((stX (⟨dF tx0,dF tx1⟩:F2p) (⟨dF m0,dF m1⟩:F2p) (⟨dF o0,dF o1⟩:F2p))).x),q6 (eF ((stX (⟨dF tx0,dF tx1⟩:F2p) (⟨dF m0,dF m1⟩:F2p) (⟨dF o0,dF o1⟩:F2p))).y),q6 (eF ((stY (⟨dF tx0,dF tx1⟩:F2p) (⟨dF ty0,dF ty1⟩:F2p) (⟨dF m0,dF m1⟩:F2p) (⟨dF o0,dF o1⟩:F2p))).x),q6 (eF ((stY (⟨dF tx0,dF tx1⟩:F2p) (⟨dF ty0,dF ty1⟩:F2p) (⟨dF m0,dF m1⟩:F2p) (⟨dF o0,dF o1⟩:F2p))).y),q6 f0,q6 f1,q6 f2,q6 f3,q6 f4,q6 f5,q6 f6,q6 f7,q6 f8,q6 f9,q6 f10,q6 f11],0,0⟩)
   | false=>none
  | _=>none
 | _=>none
def GSt:Ctx:=ctxL [(50,.pure (q2 mul2x mul2y)),(53,.pure (q2 sub2x sub2y))]
theorem GSt_ok:CtxOk Try.prog GSt:=ctxL_cons okMul2 <| ctxL_cons okSub2 ctxL_nil
theorem okStepW:(CallC.mem cStepW).Ok Try.prog 76:=by
 intro args h slot pre v h' e hp
 unfold cStepW at e
 split at e
 rotate_left
 ·cases e
 rename_i b m0 m1 o0 o1
 split at e
 rotate_left
 ·cases e
 rename_i t0 px py qx0 qx1 qy0 qy1 tx0 tx1 ty0 ty1 f0 f1 f2 f3 f4 f5 f6 f7 f8 f9 f10 f11 hb0
 split at e
 rotate_left
 ·cases e
 rename_i hty
 cases e
 simp only [Nat.beq_eq] at hty
 subst hty
 have htx0:nv tx0 < pN:=hp (nv tx0 < pN) (by simp)
 have htx1:nv tx1 < pN:=hp (nv tx1 < pN) (by simp)
 have hty0:nv ty0 < pN:=hp (nv ty0 < pN) (by simp)
 have hty1:nv ty1 < pN:=hp (nv ty1 < pN) (by simp)
 have hm0:nv m0 < pN:=hp (nv m0 < pN) (by simp)
 have hm1:nv m1 < pN:=hp (nv m1 < pN) (by simp)
 have ho0:nv o0 < pN:=hp (nv o0 < pN) (by simp)
 have ho1:nv o1 < pN:=hp (nv o1 < pN) (by simp)
 have hl:=hget_lt hb0
 refine mem_walk tt_ok Try.func76 (by kernel_rfl) (by kernel_rfl) [b] [] slot [some ⟨93,[q6 px,q6 py,q6 qx0,q6 qx1,q6 qy0,q6 qy1,q6 tx0,q6 tx1,q6 ty0,q6 ty1,q6 f0,q6 f1,q6 f2,q6 f3,q6 f4,q6 f5,q6 f6,q6 f7,q6 f8,q6 f9,q6 f10,q6 f11],0,0⟩] [some ⟨93,[q6 px,q6 py,q6 qx0,q6 qx1,q6 qy0,q6 qy1,q6 (eF ((stX (⟨dF tx0,dF tx1⟩:F2p) (⟨dF m0,dF m1⟩:F2p) (⟨dF o0,dF o1⟩:F2p))).x),q6 (eF ((stX (⟨dF tx0,dF tx1⟩:F2p) (⟨dF m0,dF m1⟩:F2p) (⟨dF o0,dF o1⟩:F2p))).y),q6 (eF ((stY (⟨dF tx0,dF tx1⟩:F2p) (⟨dF ty0,dF ty1⟩:F2p) (⟨dF m0,dF m1⟩:F2p) (⟨dF o0,dF o1⟩:F2p))).x),q6 (eF ((stY (⟨dF tx0,dF tx1⟩:F2p) (⟨dF ty0,dF ty1⟩:F2p) (⟨dF m0,dF m1⟩:F2p) (⟨dF o0,dF o1⟩:F2p))).y),q6 f0,q6 f1,q6 f2,q6 f3,q6 f4,q6 f5,q6 f6,q6 f7,q6 f8,q6 f9,q6 f10,q6 f11],0,0⟩] (args':=[pt 0 0,.v1 (.agg [q6 m0,q6 m1]),.v1 (.agg [q6 o0,q6 o1])]) (vK:=.tup [])
  (by kernel_rfl) ?_ (by kernel_rfl) ?_ (by kernel_rfl) (fun i hi=>?_) (by kernel_rfl) (by kernel_rfl) (fun i hi=>?_) (by kernel_rfl) ?_ rfl (fun t ht=>by simp at ht) (fun i hi _=>?_) ?_
 ·show [pickB _ (hget h b)] = _
  rw [hb0];rfl
 ·show [AV.v1 (.sc (.pt (bk [b] b) 0)),.v1 (.agg [q6 m0,q6 m1]),.v1 (.agg [q6 o0,q6 o1])] = _
  rw [bk_one]
 ·have:i = 0:=by simpa using hi
  subst this;exact ⟨_,rfl,by simp⟩
 ·have:i = 0:=by simpa using hi
  subst this;exact ⟨_,rfl⟩
 ·show [pickB _ (hget (hset h b _) b)] = _
  rw [hget_hset_same hl];rfl
 ·exact hget_hset_ne fun e=>hi 0 (by simp) e.symm
 ·skip
  obtain ⟨t1,ht1⟩:∃ q_:F2p,q_ = (⟨dF m0,dF m1⟩:F2p) * (⟨dF m0,dF m1⟩:F2p):=⟨_,rfl⟩
  obtain ⟨t2,ht2⟩:∃ q_:F2p,q_ = t1 - (⟨dF tx0,dF tx1⟩:F2p):=⟨_,rfl⟩
  obtain ⟨t3,ht3⟩:∃ q_:F2p,q_ = t2 - (⟨dF o0,dF o1⟩:F2p):=⟨_,rfl⟩
  obtain ⟨t4,ht4⟩:∃ q_:F2p,q_ = (⟨dF tx0,dF tx1⟩:F2p) - t3:=⟨_,rfl⟩
  obtain ⟨t5,ht5⟩:∃ q_:F2p,q_ = (⟨dF m0,dF m1⟩:F2p) * t4:=⟨_,rfl⟩
  obtain ⟨t6,ht6⟩:∃ q_:F2p,q_ = t5 - (⟨dF ty0,dF ty1⟩:F2p):=⟨_,rfl⟩
  have hX:t3 = (stX (⟨dF tx0,dF tx1⟩:F2p) (⟨dF m0,dF m1⟩:F2p) (⟨dF o0,dF o1⟩:F2p)):=by subst ht3 ht2 ht1;rfl
  have hY:t6 = (stY (⟨dF tx0,dF tx1⟩:F2p) (⟨dF ty0,dF ty1⟩:F2p) (⟨dF m0,dF m1⟩:F2p) (⟨dF o0,dF o1⟩:F2p)):=by subst ht6 ht5 ht4;rw [hX];rfl
  refine evS_q mixed tt_ok GSt_ok 200 [⟨1,2,.as (eC2 t1)⟩,⟨1,7,.as (eC2 t2)⟩,⟨1,9,.as (eC2 t3)⟩,⟨2,7,.as (eC2 t4)⟩,⟨2,8,.as (eC2 t5)⟩,⟨2,13,.as (eC2 t6)⟩] ?_
  refine same (p:=asP (eD4 mul2x mul2y (dF m0) (dF m1) (dF m0) (dF m1)) (eC2 t1)/\lp m0/\lp m1/\lp m0/\lp m1/\asP (eD4 sub2x sub2y (dF (eF t1.x)) (dF (eF t1.y)) (dF tx0) (dF tx1)) (eC2 t2)/\lp (eF t1.x)/\lp (eF t1.y)/\lp tx0/\lp tx1/\asP (eD4 sub2x sub2y (dF (eF t2.x)) (dF (eF t2.y)) (dF o0) (dF o1)) (eC2 t3)/\lp (eF t2.x)/\lp (eF t2.y)/\lp o0/\lp o1/\asP (eD4 sub2x sub2y (dF tx0) (dF tx1) (dF (eF t3.x)) (dF (eF t3.y))) (eC2 t4)/\lp tx0/\lp tx1/\lp (eF t3.x)/\lp (eF t3.y)/\asP (eD4 mul2x mul2y (dF m0) (dF m1) (dF (eF t4.x)) (dF (eF t4.y))) (eC2 t5)/\lp m0/\lp m1/\lp (eF t4.x)/\lp (eF t4.y)/\asP (eD4 sub2x sub2y (dF (eF t5.x)) (dF (eF t5.y)) (dF ty0) (dF ty1)) (eC2 t6)/\lp (eF t5.x)/\lp (eF t5.y)/\lp ty0/\lp ty1/\endW 93 [q6 px,q6 py,q6 qx0,q6 qx1,q6 qy0,q6 qy1,q6 (eF t3.x),q6 (eF t3.y),q6 (eF t6.x),q6 (eF t6.y),q6 f0,q6 f1,q6 f2,q6 f3,q6 f4,q6 f5,q6 f6,q6 f7,q6 f8,q6 f9,q6 f10,q6 f11] [q6 px,q6 py,q6 qx0,q6 qx1,q6 qy0,q6 qy1,q6 (eF ((stX (⟨dF tx0,dF tx1⟩:F2p) (⟨dF m0,dF m1⟩:F2p) (⟨dF o0,dF o1⟩:F2p))).x),q6 (eF ((stX (⟨dF tx0,dF tx1⟩:F2p) (⟨dF m0,dF m1⟩:F2p) (⟨dF o0,dF o1⟩:F2p))).y),q6 (eF ((stY (⟨dF tx0,dF tx1⟩:F2p) (⟨dF ty0,dF ty1⟩:F2p) (⟨dF m0,dF m1⟩:F2p) (⟨dF o0,dF o1⟩:F2p))).x),q6 (eF ((stY (⟨dF tx0,dF tx1⟩:F2p) (⟨dF ty0,dF ty1⟩:F2p) (⟨dF m0,dF m1⟩:F2p) (⟨dF o0,dF o1⟩:F2p))).y),q6 f0,q6 f1,q6 f2,q6 f3,q6 f4,q6 f5,q6 f6,q6 f7,q6 f8,q6 f9,q6 f10,q6 f11]) ?_ (by kernel_rfl)
  exact ⟨as_mulQ rfl rfl rfl rfl ht1,hm0,hm1,hm0,hm1,as_subQ (dF_eF _) (dF_eF _) rfl rfl ht2,lt_eF _,lt_eF _,htx0,htx1,as_subQ (dF_eF _) (dF_eF _) rfl rfl ht3,lt_eF _,lt_eF _,ho0,ho1,as_subQ rfl rfl (dF_eF _) (dF_eF _) ht4,htx0,htx1,lt_eF _,lt_eF _,as_mulQ rfl rfl (dF_eF _) (dF_eF _) ht5,hm0,hm1,lt_eF _,lt_eF _,as_subQ (dF_eF _) (dF_eF _) rfl rfl ht6,lt_eF _,lt_eF _,hty0,hty1,endW_of (cv_cons rfl (cv_cons rfl (cv_cons rfl (cv_cons rfl (cv_cons rfl (cv_cons rfl (cv_cons (nv_tx hX) (cv_cons (nv_ty hX) (cv_cons (nv_tx hY) (cv_cons (nv_ty hY) (cv_cons rfl (cv_cons rfl (cv_cons rfl (cv_cons rfl (cv_cons rfl (cv_cons rfl (cv_cons rfl (cv_cons rfl (cv_cons rfl (cv_cons rfl (cv_cons rfl (cv_cons rfl (cv_nil)))))))))))))))))))))))⟩
def cTwiceW (args:List AV) (h:Heap) (slot:Nat):Option (List Prop × AV × Heap) :=
 match args with
 | [.v1 (.sc (.pt b 0))]=>match hget h b with
  | some ⟨t0,[.ws .u64 6 px,.ws .u64 6 py,.ws .u64 6 qx0,.ws .u64 6 qx1,.ws .u64 6 qy0,.ws .u64 6 qy1,.ws .u64 6 tx0,.ws .u64 6 tx1,.ws .u64 6 ty0,.ws .u64 6 ty1,.ws .u64 6 f0,.ws .u64 6 f1,.ws .u64 6 f2,.ws .u64 6 f3,.ws .u64 6 f4,.ws .u64 6 f5,.ws .u64 6 f6,.ws .u64 6 f7,.ws .u64 6 f8,.ws .u64 6 f9,.ws .u64 6 f10,.ws .u64 6 f11],0,0⟩=>match Nat.beq t0 93 with
   | true=>some ([nv px < pN,nv py < pN,nv tx0 < pN,nv tx1 < pN,nv ty0 < pN,nv ty1 < pN,nv f0 < pN,nv f1 < pN,nv f2 < pN,nv f3 < pN,nv f4 < pN,nv f5 < pN,nv f6 < pN,nv f7 < pN,nv f8 < pN,nv f9 < pN,nv f10 < pN,nv f11 < pN],.tup [],hset h b ⟨93,[q6 px,q6 py,q6 qx0,q6 qx1,q6 qy0,q6 qy1,q6 (eF ((twW (dF px) (dF py) (⟨(⟨dF tx0,dF tx1⟩:F2p),(⟨dF ty0,dF ty1⟩:F2p),(d12 f0 f1 f2 f3 f4 f5 f6 f7 f8 f9 f10 f11)⟩:WS)).tx).x),q6 (eF ((twW (dF px) (dF py) (⟨(⟨dF tx0,dF tx1⟩:F2p),(⟨dF ty0,dF ty1⟩:F2p),(d12 f0 f1 f2 f3 f4 f5 f6 f7 f8 f9 f10 f11)⟩:WS)).tx).y),q6 (eF ((twW (dF px) (dF py) (⟨(⟨dF tx0,dF tx1⟩:F2p),(⟨dF ty0,dF ty1⟩:F2p),(d12 f0 f1 f2 f3 f4 f5 f6 f7 f8 f9 f10 f11)⟩:WS)).ty).x),q6 (eF ((twW (dF px) (dF py) (⟨(⟨dF tx0,dF tx1⟩:F2p),(⟨dF ty0,dF ty1⟩:F2p),(d12 f0 f1 f2 f3 f4 f5 f6 f7 f8 f9 f10 f11)⟩:WS)).ty).y),q6 (eF ((twW (dF px) (dF py) (⟨(⟨dF tx0,dF tx1⟩:F2p),(⟨dF ty0,dF ty1⟩:F2p),(d12 f0 f1 f2 f3 f4 f5 f6 f7 f8 f9 f10 f11)⟩:WS)).f).p.u.x),q6 (eF ((twW (dF px) (dF py) (⟨(⟨dF tx0,dF tx1⟩:F2p),(⟨dF ty0,dF ty1⟩:F2p),(d12 f0 f1 f2 f3 f4 f5 f6 f7 f8 f9 f10 f11)⟩:WS)).f).p.u.y),q6 (eF ((twW (dF px) (dF py) (⟨(⟨dF tx0,dF tx1⟩:F2p),(⟨dF ty0,dF ty1⟩:F2p),(d12 f0 f1 f2 f3 f4 f5 f6 f7 f8 f9 f10 f11)⟩:WS)).f).q.u.x),q6 (eF ((twW (dF px) (dF py) (⟨(⟨dF tx0,dF tx1⟩:F2p),(⟨dF ty0,dF ty1⟩:F2p),(d12 f0 f1 f2 f3 f4 f5 f6 f7 f8 f9 f10 f11)⟩:WS)).f).q.u.y),q6 (eF ((twW (dF px) (dF py) (⟨(⟨dF tx0,dF tx1⟩:F2p),(⟨dF ty0,dF ty1⟩:F2p),(d12 f0 f1 f2 f3 f4 f5 f6 f7 f8 f9 f10 f11)⟩:WS)).f).p.v.x),q6 (eF ((twW (dF px) (dF py) (⟨(⟨dF tx0,dF tx1⟩:F2p),(⟨dF ty0,dF ty1⟩:F2p),(d12 f0 f1 f2 f3 f4 f5 f6 f7 f8 f9 f10 f11)⟩:WS)).f).p.v.y),q6 (eF ((twW (dF px) (dF py) (⟨(⟨dF tx0,dF tx1⟩:F2p),(⟨dF ty0,dF ty1⟩:F2p),(d12 f0 f1 f2 f3 f4 f5 f6 f7 f8 f9 f10 f11)⟩:WS)).f).q.v.x),q6 (eF ((twW (dF px) (dF py) (⟨(⟨dF tx0,dF tx1⟩:F2p),(⟨dF ty0,dF ty1⟩:F2p),(d12 f0 f1 f2 f3 f4 f5 f6 f7 f8 f9 f10 f11)⟩:WS)).f).q.v.y),q6 (eF ((twW (dF px) (dF py) (⟨(⟨dF tx0,dF tx1⟩:F2p),(⟨dF ty0,dF ty1⟩:F2p),(d12 f0 f1 f2 f3 f4 f5 f6 f7 f8 f9 f10 f11)⟩:WS)).f).p.w.x),q6 (eF ((twW (dF px) (dF py) (⟨(⟨dF tx0,dF tx1⟩:F2p),(⟨dF ty0,dF ty1⟩:F2p),(d12 f0 f1 f2 f3 f4 f5 f6 f7 f8 f9 f10 f11)⟩:WS)).f).p.w.y),q6 (eF ((twW (dF px) (dF py) (⟨(⟨dF tx0,dF tx1⟩:F2p),(⟨dF ty0,dF ty1⟩:F2p),(d12 f0 f1 f2 f3 f4 f5 f6 f7 f8 f9 f10 f11)⟩:WS)).f).q.w.x),q6 (eF ((twW (dF px) (dF py) (⟨(⟨dF tx0,dF tx1⟩:F2p),(⟨dF ty0,dF ty1⟩:F2p),(d12 f0 f1 f2 f3 f4 f5 f6 f7 f8 f9 f10 f11)⟩:WS)).f).q.w.y)],0,0⟩)
   | false=>none
  | _=>none
 | _=>none
def GTwW:Ctx:=ctxL [(50,.pure (q2 mul2x mul2y)),(54,.pure (q2 add2x add2y)),(53,.pure (q2 sub2x sub2y)),(74,.pure csl),(14,.pure (k122 S12.mul)),(75,.mem cLineW),(76,.mem cStepW)]
theorem GTwW_ok:CtxOk Try.prog GTwW:=ctxL_cons okMul2 <| ctxL_cons okAdd2 <| ctxL_cons okSub2 <| ctxL_cons okSlope <| ctxL_cons okMul12 <| ctxL_cons okLineW <| ctxL_cons okStepW ctxL_nil
theorem okTwiceW:(CallC.mem cTwiceW).Ok Try.prog 44:=by
 intro args h slot pre v h' e hp
 unfold cTwiceW at e
 split at e
 rotate_left
 ·cases e
 rename_i b
 split at e
 rotate_left
 ·cases e
 rename_i t0 px py qx0 qx1 qy0 qy1 tx0 tx1 ty0 ty1 f0 f1 f2 f3 f4 f5 f6 f7 f8 f9 f10 f11 hb0
 split at e
 rotate_left
 ·cases e
 rename_i hty
 cases e
 simp only [Nat.beq_eq] at hty
 subst hty
 have hpx:nv px < pN:=hp (nv px < pN) (by simp)
 have hpy:nv py < pN:=hp (nv py < pN) (by simp)
 have htx0:nv tx0 < pN:=hp (nv tx0 < pN) (by simp)
 have htx1:nv tx1 < pN:=hp (nv tx1 < pN) (by simp)
 have hty0:nv ty0 < pN:=hp (nv ty0 < pN) (by simp)
 have hty1:nv ty1 < pN:=hp (nv ty1 < pN) (by simp)
 have hf0:nv f0 < pN:=hp (nv f0 < pN) (by simp)
 have hf1:nv f1 < pN:=hp (nv f1 < pN) (by simp)
 have hf2:nv f2 < pN:=hp (nv f2 < pN) (by simp)
 have hf3:nv f3 < pN:=hp (nv f3 < pN) (by simp)
 have hf4:nv f4 < pN:=hp (nv f4 < pN) (by simp)
 have hf5:nv f5 < pN:=hp (nv f5 < pN) (by simp)
 have hf6:nv f6 < pN:=hp (nv f6 < pN) (by simp)
 have hf7:nv f7 < pN:=hp (nv f7 < pN) (by simp)
 have hf8:nv f8 < pN:=hp (nv f8 < pN) (by simp)
 have hf9:nv f9 < pN:=hp (nv f9 < pN) (by simp)
 have hf10:nv f10 < pN:=hp (nv f10 < pN) (by simp)
 have hf11:nv f11 < pN:=hp (nv f11 < pN) (by simp)
 have hl:=hget_lt hb0
 refine mem_walk tt_ok Try.func44 (by kernel_rfl) (by kernel_rfl) [b] [] slot [some ⟨93,[q6 px,q6 py,q6 qx0,q6 qx1,q6 qy0,q6 qy1,q6 tx0,q6 tx1,q6 ty0,q6 ty1,q6 f0,q6 f1,q6 f2,q6 f3,q6 f4,q6 f5,q6 f6,q6 f7,q6 f8,q6 f9,q6 f10,q6 f11],0,0⟩] [some ⟨93,[q6 px,q6 py,q6 qx0,q6 qx1,q6 qy0,q6 qy1,q6 (eF ((twW (dF px) (dF py) (⟨(⟨dF tx0,dF tx1⟩:F2p),(⟨dF ty0,dF ty1⟩:F2p),(d12 f0 f1 f2 f3 f4 f5 f6 f7 f8 f9 f10 f11)⟩:WS)).tx).x),q6 (eF ((twW (dF px) (dF py) (⟨(⟨dF tx0,dF tx1⟩:F2p),(⟨dF ty0,dF ty1⟩:F2p),(d12 f0 f1 f2 f3 f4 f5 f6 f7 f8 f9 f10 f11)⟩:WS)).tx).y),q6 (eF ((twW (dF px) (dF py) (⟨(⟨dF tx0,dF tx1⟩:F2p),(⟨dF ty0,dF ty1⟩:F2p),(d12 f0 f1 f2 f3 f4 f5 f6 f7 f8 f9 f10 f11)⟩:WS)).ty).x),q6 (eF ((twW (dF px) (dF py) (⟨(⟨dF tx0,dF tx1⟩:F2p),(⟨dF ty0,dF ty1⟩:F2p),(d12 f0 f1 f2 f3 f4 f5 f6 f7 f8 f9 f10 f11)⟩:WS)).ty).y),q6 (eF ((twW (dF px) (dF py) (⟨(⟨dF tx0,dF tx1⟩:F2p),(⟨dF ty0,dF ty1⟩:F2p),(d12 f0 f1 f2 f3 f4 f5 f6 f7 f8 f9 f10 f11)⟩:WS)).f).p.u.x),q6 (eF ((twW (dF px) (dF py) (⟨(⟨dF tx0,dF tx1⟩:F2p),(⟨dF ty0,dF ty1⟩:F2p),(d12 f0 f1 f2 f3 f4 f5 f6 f7 f8 f9 f10 f11)⟩:WS)).f).p.u.y),q6 (eF ((twW (dF px) (dF py) (⟨(⟨dF tx0,dF tx1⟩:F2p),(⟨dF ty0,dF ty1⟩:F2p),(d12 f0 f1 f2 f3 f4 f5 f6 f7 f8 f9 f10 f11)⟩:WS)).f).q.u.x),q6 (eF ((twW (dF px) (dF py) (⟨(⟨dF tx0,dF tx1⟩:F2p),(⟨dF ty0,dF ty1⟩:F2p),(d12 f0 f1 f2 f3 f4 f5 f6 f7 f8 f9 f10 f11)⟩:WS)).f).q.u.y),q6 (eF ((twW (dF px) (dF py) (⟨(⟨dF tx0,dF tx1⟩:F2p),(⟨dF ty0,dF ty1⟩:F2p),(d12 f0 f1 f2 f3 f4 f5 f6 f7 f8 f9 f10 f11)⟩:WS)).f).p.v.x),q6 (eF ((twW (dF px) (dF py) (⟨(⟨dF tx0,dF tx1⟩:F2p),(⟨dF ty0,dF ty1⟩:F2p),(d12 f0 f1 f2 f3 f4 f5 f6 f7 f8 f9 f10 f11)⟩:WS)).f).p.v.y),q6 (eF ((twW (dF px) (dF py) (⟨(⟨dF tx0,dF tx1⟩:F2p),(⟨dF ty0,dF ty1⟩:F2p),(d12 f0 f1 f2 f3 f4 f5 f6 f7 f8 f9 f10 f11)⟩:WS)).f).q.v.x),q6 (eF ((twW (dF px) (dF py) (⟨(⟨dF tx0,dF tx1⟩:F2p),(⟨dF ty0,dF ty1⟩:F2p),(d12 f0 f1 f2 f3 f4 f5 f6 f7 f8 f9 f10 f11)⟩:WS)).f).q.v.y),q6 (eF ((twW (dF px) (dF py) (⟨(⟨dF tx0,dF tx1⟩:F2p),(⟨dF ty0,dF ty1⟩:F2p),(d12 f0 f1 f2 f3 f4 f5 f6 f7 f8 f9 f10 f11)⟩:WS)).f).p.w.x),q6 (eF ((twW (dF px) (dF py) (⟨(⟨dF tx0,dF tx1⟩:F2p),(⟨dF ty0,dF ty1⟩:F2p),(d12 f0 f1 f2 f3 f4 f5 f6 f7 f8 f9 f10 f11)⟩:WS)).f).p.w.y),q6 (eF ((twW (dF px) (dF py) (⟨(⟨dF tx0,dF tx1⟩:F2p),(⟨dF ty0,dF ty1⟩:F2p),(d12 f0 f1 f2 f3 f4 f5 f6 f7 f8 f9 f10 f11)⟩:WS)).f).q.w.x),q6 (eF ((twW (dF px) (dF py) (⟨(⟨dF tx0,dF tx1⟩:F2p),(⟨dF ty0,dF ty1⟩:F2p),(d12 f0 f1 f2 f3 f4 f5 f6 f7 f8 f9 f10 f11)⟩:WS)).f).q.w.y)],0,0⟩] (args':=[pt 0 0]) (vK:=.tup [])
  (by kernel_rfl) ?_ (by kernel_rfl) ?_ (by kernel_rfl) (fun i hi=>?_) (by kernel_rfl) (by kernel_rfl) (fun i hi=>?_) (by kernel_rfl) ?_ rfl (fun t ht=>by simp at ht) (fun i hi _=>?_) ?_
 ·show [pickB _ (hget h b)] = _
  rw [hb0];rfl
 ·show [AV.v1 (.sc (.pt (bk [b] b) 0))] = _
  rw [bk_one]
 ·have:i = 0:=by simpa using hi
  subst this;exact ⟨_,rfl,by simp⟩
 ·have:i = 0:=by simpa using hi
  subst this;exact ⟨_,rfl⟩
 ·show [pickB _ (hget (hset h b _) b)] = _
  rw [hget_hset_same hl];rfl
 ·exact hget_hset_ne fun e=>hi 0 (by simp) e.symm
 ·skip
  obtain ⟨t1,ht1⟩:∃ q_:F2p,q_ = (⟨dF tx0,dF tx1⟩:F2p) * (⟨dF tx0,dF tx1⟩:F2p):=⟨_,rfl⟩
  obtain ⟨t2,ht2⟩:∃ q_:F2p,q_ = t1 + t1:=⟨_,rfl⟩
  obtain ⟨t3,ht3⟩:∃ q_:F2p,q_ = t2 + t1:=⟨_,rfl⟩
  obtain ⟨t4,ht4⟩:∃ q_:F2p,q_ = (⟨dF ty0,dF ty1⟩:F2p) + (⟨dF ty0,dF ty1⟩:F2p):=⟨_,rfl⟩
  obtain ⟨t5,ht5⟩:∃ q_:F2p,q_ = slS t3 t4:=⟨_,rfl⟩
  obtain ⟨t6,ht6⟩:∃ q_:S12,q_ = (d12 f0 f1 f2 f3 f4 f5 f6 f7 f8 f9 f10 f11) * (d12 f0 f1 f2 f3 f4 f5 f6 f7 f8 f9 f10 f11):=⟨_,rfl⟩
  have hm:(⟨dF (eF t5.x),dF (eF t5.y)⟩:F2p) = t5:=by rw [dF_eF,dF_eF]
  have hX:(stX (⟨dF tx0,dF tx1⟩:F2p) (⟨dF (eF t5.x),dF (eF t5.y)⟩:F2p) (⟨dF tx0,dF tx1⟩:F2p)) = (twW (dF px) (dF py) (⟨(⟨dF tx0,dF tx1⟩:F2p),(⟨dF ty0,dF ty1⟩:F2p),(d12 f0 f1 f2 f3 f4 f5 f6 f7 f8 f9 f10 f11)⟩:WS)).tx:=by rw [hm];subst ht5 ht4 ht3 ht2 ht1;rfl
  have hY:(stY (⟨dF tx0,dF tx1⟩:F2p) (⟨dF ty0,dF ty1⟩:F2p) (⟨dF (eF t5.x),dF (eF t5.y)⟩:F2p) (⟨dF tx0,dF tx1⟩:F2p)) = (twW (dF px) (dF py) (⟨(⟨dF tx0,dF tx1⟩:F2p),(⟨dF ty0,dF ty1⟩:F2p),(d12 f0 f1 f2 f3 f4 f5 f6 f7 f8 f9 f10 f11)⟩:WS)).ty:=by rw [hm];subst ht5 ht4 ht3 ht2 ht1;rfl
  have hF:((d12 (eF t6.p.u.x) (eF t6.p.u.y) (eF t6.q.u.x) (eF t6.q.u.y) (eF t6.p.v.x) (eF t6.p.v.y) (eF t6.q.v.x) (eF t6.q.v.y) (eF t6.p.w.x) (eF t6.p.w.y) (eF t6.q.w.x) (eF t6.q.w.y)) * lnS (dF px) (dF py) (⟨dF tx0,dF tx1⟩:F2p) (⟨dF ty0,dF ty1⟩:F2p) (⟨dF (eF t5.x),dF (eF t5.y)⟩:F2p)) = (twW (dF px) (dF py) (⟨(⟨dF tx0,dF tx1⟩:F2p),(⟨dF ty0,dF ty1⟩:F2p),(d12 f0 f1 f2 f3 f4 f5 f6 f7 f8 f9 f10 f11)⟩:WS)).f:=by rw [hm,d12_eF];subst ht6 ht5 ht4 ht3 ht2 ht1;rfl
  refine evS_q mixed tt_ok GTwW_ok 300 [⟨0,8,.as (eC2 t1)⟩,⟨1,2,.as (eC2 t2)⟩,⟨1,4,.as (eC2 t3)⟩,⟨1,13,.as (eC2 t4)⟩,⟨1,14,.as (eC2 t5)⟩,⟨2,9,.as (eC12 t6)⟩] ?_
  refine same (p:=asP (eD4 mul2x mul2y (dF tx0) (dF tx1) (dF tx0) (dF tx1)) (eC2 t1)/\lp tx0/\lp tx1/\lp tx0/\lp tx1/\asP (eD4 add2x add2y (dF (eF t1.x)) (dF (eF t1.y)) (dF (eF t1.x)) (dF (eF t1.y))) (eC2 t2)/\lp (eF t1.x)/\lp (eF t1.y)/\lp (eF t1.x)/\lp (eF t1.y)/\asP (eD4 add2x add2y (dF (eF t2.x)) (dF (eF t2.y)) (dF (eF t1.x)) (dF (eF t1.y))) (eC2 t3)/\lp (eF t2.x)/\lp (eF t2.y)/\lp (eF t1.x)/\lp (eF t1.y)/\asP (eD4 add2x add2y (dF ty0) (dF ty1) (dF ty0) (dF ty1)) (eC2 t4)/\lp ty0/\lp ty1/\lp ty0/\lp ty1/\asP (eC2 (slS (⟨dF (eF t3.x),dF (eF t3.y)⟩:F2p) (⟨dF (eF t4.x),dF (eF t4.y)⟩:F2p))) (eC2 t5)/\lp (eF t3.x)/\lp (eF t3.y)/\lp (eF t4.x)/\lp (eF t4.y)/\asP (cells12 (S12.mul (d12 f0 f1 f2 f3 f4 f5 f6 f7 f8 f9 f10 f11) (d12 f0 f1 f2 f3 f4 f5 f6 f7 f8 f9 f10 f11))) (eC12 t6)/\lp f0/\lp f1/\lp f2/\lp f3/\lp f4/\lp f5/\lp f6/\lp f7/\lp f8/\lp f9/\lp f10/\lp f11/\lp f0/\lp f1/\lp f2/\lp f3/\lp f4/\lp f5/\lp f6/\lp f7/\lp f8/\lp f9/\lp f10/\lp f11/\lp px/\lp py/\lp tx0/\lp tx1/\lp ty0/\lp ty1/\eL12 t6 (nv (eF t5.x) < pN/\lp (eF t5.y)/\lp tx0/\lp tx1/\lp ty0/\lp ty1/\lp (eF t5.x)/\lp (eF t5.y)/\lp tx0/\lp tx1/\endW 93 [q6 px,q6 py,q6 qx0,q6 qx1,q6 qy0,q6 qy1,q6 (eF ((stX (⟨dF tx0,dF tx1⟩:F2p) (⟨dF (eF t5.x),dF (eF t5.y)⟩:F2p) (⟨dF tx0,dF tx1⟩:F2p))).x),q6 (eF ((stX (⟨dF tx0,dF tx1⟩:F2p) (⟨dF (eF t5.x),dF (eF t5.y)⟩:F2p) (⟨dF tx0,dF tx1⟩:F2p))).y),q6 (eF ((stY (⟨dF tx0,dF tx1⟩:F2p) (⟨dF ty0,dF ty1⟩:F2p) (⟨dF (eF t5.x),dF (eF t5.y)⟩:F2p) (⟨dF tx0,dF tx1⟩:F2p))).x),q6 (eF ((stY (⟨dF tx0,dF tx1⟩:F2p) (⟨dF ty0,dF ty1⟩:F2p) (⟨dF (eF t5.x),dF (eF t5.y)⟩:F2p) (⟨dF tx0,dF tx1⟩:F2p))).y),q6 (eF (((d12e t6) * lnS (dF px) (dF py) (⟨dF tx0,dF tx1⟩:F2p) (⟨dF ty0,dF ty1⟩:F2p) (⟨dF (eF t5.x),dF (eF t5.y)⟩:F2p))).p.u.x),q6 (eF (((d12e t6) * lnS (dF px) (dF py) (⟨dF tx0,dF tx1⟩:F2p) (⟨dF ty0,dF ty1⟩:F2p) (⟨dF (eF t5.x),dF (eF t5.y)⟩:F2p))).p.u.y),q6 (eF (((d12e t6) * lnS (dF px) (dF py) (⟨dF tx0,dF tx1⟩:F2p) (⟨dF ty0,dF ty1⟩:F2p) (⟨dF (eF t5.x),dF (eF t5.y)⟩:F2p))).q.u.x),q6 (eF (((d12e t6) * lnS (dF px) (dF py) (⟨dF tx0,dF tx1⟩:F2p) (⟨dF ty0,dF ty1⟩:F2p) (⟨dF (eF t5.x),dF (eF t5.y)⟩:F2p))).q.u.y),q6 (eF (((d12e t6) * lnS (dF px) (dF py) (⟨dF tx0,dF tx1⟩:F2p) (⟨dF ty0,dF ty1⟩:F2p) (⟨dF (eF t5.x),dF (eF t5.y)⟩:F2p))).p.v.x),q6 (eF (((d12e t6) * lnS (dF px) (dF py) (⟨dF tx0,dF tx1⟩:F2p) (⟨dF ty0,dF ty1⟩:F2p) (⟨dF (eF t5.x),dF (eF t5.y)⟩:F2p))).p.v.y),q6 (eF (((d12e t6) * lnS (dF px) (dF py) (⟨dF tx0,dF tx1⟩:F2p) (⟨dF ty0,dF ty1⟩:F2p) (⟨dF (eF t5.x),dF (eF t5.y)⟩:F2p))).q.v.x),q6 (eF (((d12e t6) * lnS (dF px) (dF py) (⟨dF tx0,dF tx1⟩:F2p) (⟨dF ty0,dF ty1⟩:F2p) (⟨dF (eF t5.x),dF (eF t5.y)⟩:F2p))).q.v.y),q6 (eF (((d12e t6) * lnS (dF px) (dF py) (⟨dF tx0,dF tx1⟩:F2p) (⟨dF ty0,dF ty1⟩:F2p) (⟨dF (eF t5.x),dF (eF t5.y)⟩:F2p))).p.w.x),q6 (eF (((d12e t6) * lnS (dF px) (dF py) (⟨dF tx0,dF tx1⟩:F2p) (⟨dF ty0,dF ty1⟩:F2p) (⟨dF (eF t5.x),dF (eF t5.y)⟩:F2p))).p.w.y),q6 (eF (((d12e t6) * lnS (dF px) (dF py) (⟨dF tx0,dF tx1⟩:F2p) (⟨dF ty0,dF ty1⟩:F2p) (⟨dF (eF t5.x),dF (eF t5.y)⟩:F2p))).q.w.x),q6 (eF (((d12e t6) * lnS (dF px) (dF py) (⟨dF tx0,dF tx1⟩:F2p) (⟨dF ty0,dF ty1⟩:F2p) (⟨dF (eF t5.x),dF (eF t5.y)⟩:F2p))).q.w.y)] [q6 px,q6 py,q6 qx0,q6 qx1,q6 qy0,q6 qy1,q6 (eF ((twW (dF px) (dF py) (⟨(⟨dF tx0,dF tx1⟩:F2p),(⟨dF ty0,dF ty1⟩:F2p),(d12 f0 f1 f2 f3 f4 f5 f6 f7 f8 f9 f10 f11)⟩:WS)).tx).x),q6 (eF ((twW (dF px) (dF py) (⟨(⟨dF tx0,dF tx1⟩:F2p),(⟨dF ty0,dF ty1⟩:F2p),(d12 f0 f1 f2 f3 f4 f5 f6 f7 f8 f9 f10 f11)⟩:WS)).tx).y),q6 (eF ((twW (dF px) (dF py) (⟨(⟨dF tx0,dF tx1⟩:F2p),(⟨dF ty0,dF ty1⟩:F2p),(d12 f0 f1 f2 f3 f4 f5 f6 f7 f8 f9 f10 f11)⟩:WS)).ty).x),q6 (eF ((twW (dF px) (dF py) (⟨(⟨dF tx0,dF tx1⟩:F2p),(⟨dF ty0,dF ty1⟩:F2p),(d12 f0 f1 f2 f3 f4 f5 f6 f7 f8 f9 f10 f11)⟩:WS)).ty).y),q6 (eF ((twW (dF px) (dF py) (⟨(⟨dF tx0,dF tx1⟩:F2p),(⟨dF ty0,dF ty1⟩:F2p),(d12 f0 f1 f2 f3 f4 f5 f6 f7 f8 f9 f10 f11)⟩:WS)).f).p.u.x),q6 (eF ((twW (dF px) (dF py) (⟨(⟨dF tx0,dF tx1⟩:F2p),(⟨dF ty0,dF ty1⟩:F2p),(d12 f0 f1 f2 f3 f4 f5 f6 f7 f8 f9 f10 f11)⟩:WS)).f).p.u.y),q6 (eF ((twW (dF px) (dF py) (⟨(⟨dF tx0,dF tx1⟩:F2p),(⟨dF ty0,dF ty1⟩:F2p),(d12 f0 f1 f2 f3 f4 f5 f6 f7 f8 f9 f10 f11)⟩:WS)).f).q.u.x),q6 (eF ((twW (dF px) (dF py) (⟨(⟨dF tx0,dF tx1⟩:F2p),(⟨dF ty0,dF ty1⟩:F2p),(d12 f0 f1 f2 f3 f4 f5 f6 f7 f8 f9 f10 f11)⟩:WS)).f).q.u.y),q6 (eF ((twW (dF px) (dF py) (⟨(⟨dF tx0,dF tx1⟩:F2p),(⟨dF ty0,dF ty1⟩:F2p),(d12 f0 f1 f2 f3 f4 f5 f6 f7 f8 f9 f10 f11)⟩:WS)).f).p.v.x),q6 (eF ((twW (dF px) (dF py) (⟨(⟨dF tx0,dF tx1⟩:F2p),(⟨dF ty0,dF ty1⟩:F2p),(d12 f0 f1 f2 f3 f4 f5 f6 f7 f8 f9 f10 f11)⟩:WS)).f).p.v.y),q6 (eF ((twW (dF px) (dF py) (⟨(⟨dF tx0,dF tx1⟩:F2p),(⟨dF ty0,dF ty1⟩:F2p),(d12 f0 f1 f2 f3 f4 f5 f6 f7 f8 f9 f10 f11)⟩:WS)).f).q.v.x),q6 (eF ((twW (dF px) (dF py) (⟨(⟨dF tx0,dF tx1⟩:F2p),(⟨dF ty0,dF ty1⟩:F2p),(d12 f0 f1 f2 f3 f4 f5 f6 f7 f8 f9 f10 f11)⟩:WS)).f).q.v.y),q6 (eF ((twW (dF px) (dF py) (⟨(⟨dF tx0,dF tx1⟩:F2p),(⟨dF ty0,dF ty1⟩:F2p),(d12 f0 f1 f2 f3 f4 f5 f6 f7 f8 f9 f10 f11)⟩:WS)).f).p.w.x),q6 (eF ((twW (dF px) (dF py) (⟨(⟨dF tx0,dF tx1⟩:F2p),(⟨dF ty0,dF ty1⟩:F2p),(d12 f0 f1 f2 f3 f4 f5 f6 f7 f8 f9 f10 f11)⟩:WS)).f).p.w.y),q6 (eF ((twW (dF px) (dF py) (⟨(⟨dF tx0,dF tx1⟩:F2p),(⟨dF ty0,dF ty1⟩:F2p),(d12 f0 f1 f2 f3 f4 f5 f6 f7 f8 f9 f10 f11)⟩:WS)).f).q.w.x),q6 (eF ((twW (dF px) (dF py) (⟨(⟨dF tx0,dF tx1⟩:F2p),(⟨dF ty0,dF ty1⟩:F2p),(d12 f0 f1 f2 f3 f4 f5 f6 f7 f8 f9 f10 f11)⟩:WS)).f).q.w.y)])) ?_ (by kernel_rfl)
  exact ⟨as_mulQ rfl rfl rfl rfl ht1,htx0,htx1,htx0,htx1,as_addQ (dF_eF _) (dF_eF _) (dF_eF _) (dF_eF _) ht2,lt_eF _,lt_eF _,lt_eF _,lt_eF _,as_addQ (dF_eF _) (dF_eF _) (dF_eF _) (dF_eF _) ht3,lt_eF _,lt_eF _,lt_eF _,lt_eF _,as_addQ rfl rfl rfl rfl ht4,hty0,hty1,hty0,hty1,as_slQ (dF_eF _) (dF_eF _) (dF_eF _) (dF_eF _) ht5,lt_eF _,lt_eF _,lt_eF _,lt_eF _,as_T2 rfl rfl ht6,hf0,hf1,hf2,hf3,hf4,hf5,hf6,hf7,hf8,hf9,hf10,hf11,hf0,hf1,hf2,hf3,hf4,hf5,hf6,hf7,hf8,hf9,hf10,hf11,hpx,hpy,htx0,htx1,hty0,hty1,lt_eF _,lt_eF _,lt_eF _,lt_eF _,lt_eF _,lt_eF _,lt_eF _,lt_eF _,lt_eF _,lt_eF _,lt_eF _,lt_eF _,lt_eF _,lt_eF _,htx0,htx1,hty0,hty1,lt_eF _,lt_eF _,htx0,htx1,endW_of (cv_cons rfl (cv_cons rfl (cv_cons rfl (cv_cons rfl (cv_cons rfl (cv_cons rfl (cv_cons (nv_tx hX) (cv_cons (nv_ty hX) (cv_cons (nv_tx hY) (cv_cons (nv_ty hY) (cv_cons (congrArg (fun q:S12=>nv (eF q.p.u.x)) hF) (cv_cons (congrArg (fun q:S12=>nv (eF q.p.u.y)) hF) (cv_cons (congrArg (fun q:S12=>nv (eF q.q.u.x)) hF) (cv_cons (congrArg (fun q:S12=>nv (eF q.q.u.y)) hF) (cv_cons (congrArg (fun q:S12=>nv (eF q.p.v.x)) hF) (cv_cons (congrArg (fun q:S12=>nv (eF q.p.v.y)) hF) (cv_cons (congrArg (fun q:S12=>nv (eF q.q.v.x)) hF) (cv_cons (congrArg (fun q:S12=>nv (eF q.q.v.y)) hF) (cv_cons (congrArg (fun q:S12=>nv (eF q.p.w.x)) hF) (cv_cons (congrArg (fun q:S12=>nv (eF q.p.w.y)) hF) (cv_cons (congrArg (fun q:S12=>nv (eF q.q.w.x)) hF) (cv_cons (congrArg (fun q:S12=>nv (eF q.q.w.y)) hF) (cv_nil)))))))))))))))))))))))⟩
def cAddW (args:List AV) (h:Heap) (slot:Nat):Option (List Prop × AV × Heap) :=
 match args with
 | [.v1 (.sc (.pt b 0))]=>match hget h b with
  | some ⟨t0,[.ws .u64 6 px,.ws .u64 6 py,.ws .u64 6 qx0,.ws .u64 6 qx1,.ws .u64 6 qy0,.ws .u64 6 qy1,.ws .u64 6 tx0,.ws .u64 6 tx1,.ws .u64 6 ty0,.ws .u64 6 ty1,.ws .u64 6 f0,.ws .u64 6 f1,.ws .u64 6 f2,.ws .u64 6 f3,.ws .u64 6 f4,.ws .u64 6 f5,.ws .u64 6 f6,.ws .u64 6 f7,.ws .u64 6 f8,.ws .u64 6 f9,.ws .u64 6 f10,.ws .u64 6 f11],0,0⟩=>match Nat.beq t0 93 with
   | true=>some ([nv px < pN,nv py < pN,nv qx0 < pN,nv qx1 < pN,nv qy0 < pN,nv qy1 < pN,nv tx0 < pN,nv tx1 < pN,nv ty0 < pN,nv ty1 < pN,nv f0 < pN,nv f1 < pN,nv f2 < pN,nv f3 < pN,nv f4 < pN,nv f5 < pN,nv f6 < pN,nv f7 < pN,nv f8 < pN,nv f9 < pN,nv f10 < pN,nv f11 < pN],.tup [],hset h b ⟨93,[q6 px,q6 py,q6 qx0,q6 qx1,q6 qy0,q6 qy1,q6 (eF ((adW (dF px) (dF py) (⟨dF qx0,dF qx1⟩:F2p) (⟨dF qy0,dF qy1⟩:F2p) (⟨(⟨dF tx0,dF tx1⟩:F2p),(⟨dF ty0,dF ty1⟩:F2p),(d12 f0 f1 f2 f3 f4 f5 f6 f7 f8 f9 f10 f11)⟩:WS)).tx).x),q6 (eF ((adW (dF px) (dF py) (⟨dF qx0,dF qx1⟩:F2p) (⟨dF qy0,dF qy1⟩:F2p) (⟨(⟨dF tx0,dF tx1⟩:F2p),(⟨dF ty0,dF ty1⟩:F2p),(d12 f0 f1 f2 f3 f4 f5 f6 f7 f8 f9 f10 f11)⟩:WS)).tx).y),q6 (eF ((adW (dF px) (dF py) (⟨dF qx0,dF qx1⟩:F2p) (⟨dF qy0,dF qy1⟩:F2p) (⟨(⟨dF tx0,dF tx1⟩:F2p),(⟨dF ty0,dF ty1⟩:F2p),(d12 f0 f1 f2 f3 f4 f5 f6 f7 f8 f9 f10 f11)⟩:WS)).ty).x),q6 (eF ((adW (dF px) (dF py) (⟨dF qx0,dF qx1⟩:F2p) (⟨dF qy0,dF qy1⟩:F2p) (⟨(⟨dF tx0,dF tx1⟩:F2p),(⟨dF ty0,dF ty1⟩:F2p),(d12 f0 f1 f2 f3 f4 f5 f6 f7 f8 f9 f10 f11)⟩:WS)).ty).y),q6 (eF ((adW (dF px) (dF py) (⟨dF qx0,dF qx1⟩:F2p) (⟨dF qy0,dF qy1⟩:F2p) (⟨(⟨dF tx0,dF tx1⟩:F2p),(⟨dF ty0,dF ty1⟩:F2p),(d12 f0 f1 f2 f3 f4 f5 f6 f7 f8 f9 f10 f11)⟩:WS)).f).p.u.x),q6 (eF ((adW (dF px) (dF py) (⟨dF qx0,dF qx1⟩:F2p) (⟨dF qy0,dF qy1⟩:F2p) (⟨(⟨dF tx0,dF tx1⟩:F2p),(⟨dF ty0,dF ty1⟩:F2p),(d12 f0 f1 f2 f3 f4 f5 f6 f7 f8 f9 f10 f11)⟩:WS)).f).p.u.y),q6 (eF ((adW (dF px) (dF py) (⟨dF qx0,dF qx1⟩:F2p) (⟨dF qy0,dF qy1⟩:F2p) (⟨(⟨dF tx0,dF tx1⟩:F2p),(⟨dF ty0,dF ty1⟩:F2p),(d12 f0 f1 f2 f3 f4 f5 f6 f7 f8 f9 f10 f11)⟩:WS)).f).q.u.x),q6 (eF ((adW (dF px) (dF py) (⟨dF qx0,dF qx1⟩:F2p) (⟨dF qy0,dF qy1⟩:F2p) (⟨(⟨dF tx0,dF tx1⟩:F2p),(⟨dF ty0,dF ty1⟩:F2p),(d12 f0 f1 f2 f3 f4 f5 f6 f7 f8 f9 f10 f11)⟩:WS)).f).q.u.y),q6 (eF ((adW (dF px) (dF py) (⟨dF qx0,dF qx1⟩:F2p) (⟨dF qy0,dF qy1⟩:F2p) (⟨(⟨dF tx0,dF tx1⟩:F2p),(⟨dF ty0,dF ty1⟩:F2p),(d12 f0 f1 f2 f3 f4 f5 f6 f7 f8 f9 f10 f11)⟩:WS)).f).p.v.x),q6 (eF ((adW (dF px) (dF py) (⟨dF qx0,dF qx1⟩:F2p) (⟨dF qy0,dF qy1⟩:F2p) (⟨(⟨dF tx0,dF tx1⟩:F2p),(⟨dF ty0,dF ty1⟩:F2p),(d12 f0 f1 f2 f3 f4 f5 f6 f7 f8 f9 f10 f11)⟩:WS)).f).p.v.y),q6 (eF ((adW (dF px) (dF py) (⟨dF qx0,dF qx1⟩:F2p) (⟨dF qy0,dF qy1⟩:F2p) (⟨(⟨dF tx0,dF tx1⟩:F2p),(⟨dF ty0,dF ty1⟩:F2p),(d12 f0 f1 f2 f3 f4 f5 f6 f7 f8 f9 f10 f11)⟩:WS)).f).q.v.x),q6 (eF ((adW (dF px) (dF py) (⟨dF qx0,dF qx1⟩:F2p) (⟨dF qy0,dF qy1⟩:F2p) (⟨(⟨dF tx0,dF tx1⟩:F2p),(⟨dF ty0,dF ty1⟩:F2p),(d12 f0 f1 f2 f3 f4 f5 f6 f7 f8 f9 f10 f11)⟩:WS)).f).q.v.y),q6 (eF ((adW (dF px) (dF py) (⟨dF qx0,dF qx1⟩:F2p) (⟨dF qy0,dF qy1⟩:F2p) (⟨(⟨dF tx0,dF tx1⟩:F2p),(⟨dF ty0,dF ty1⟩:F2p),(d12 f0 f1 f2 f3 f4 f5 f6 f7 f8 f9 f10 f11)⟩:WS)).f).p.w.x),q6 (eF ((adW (dF px) (dF py) (⟨dF qx0,dF qx1⟩:F2p) (⟨dF qy0,dF qy1⟩:F2p) (⟨(⟨dF tx0,dF tx1⟩:F2p),(⟨dF ty0,dF ty1⟩:F2p),(d12 f0 f1 f2 f3 f4 f5 f6 f7 f8 f9 f10 f11)⟩:WS)).f).p.w.y),q6 (eF ((adW (dF px) (dF py) (⟨dF qx0,dF qx1⟩:F2p) (⟨dF qy0,dF qy1⟩:F2p) (⟨(⟨dF tx0,dF tx1⟩:F2p),(⟨dF ty0,dF ty1⟩:F2p),(d12 f0 f1 f2 f3 f4 f5 f6 f7 f8 f9 f10 f11)⟩:WS)).f).q.w.x),q6 (eF ((adW (dF px) (dF py) (⟨dF qx0,dF qx1⟩:F2p) (⟨dF qy0,dF qy1⟩:F2p) (⟨(⟨dF tx0,dF tx1⟩:F2p),(⟨dF ty0,dF ty1⟩:F2p),(d12 f0 f1 f2 f3 f4 f5 f6 f7 f8 f9 f10 f11)⟩:WS)).f).q.w.y)],0,0⟩)
   | false=>none
  | _=>none
 | _=>none
theorem okAddW:(CallC.mem cAddW).Ok Try.prog 46:=by
 intro args h slot pre v h' e hp
 unfold cAddW at e
 split at e
 rotate_left
 ·cases e
 rename_i b
 split at e
 rotate_left
 ·cases e
 rename_i t0 px py qx0 qx1 qy0 qy1 tx0 tx1 ty0 ty1 f0 f1 f2 f3 f4 f5 f6 f7 f8 f9 f10 f11 hb0
 split at e
 rotate_left
 ·cases e
 rename_i hty
 cases e
 simp only [Nat.beq_eq] at hty
 subst hty
 have hpx:nv px < pN:=hp (nv px < pN) (by simp)
 have hpy:nv py < pN:=hp (nv py < pN) (by simp)
 have hqx0:nv qx0 < pN:=hp (nv qx0 < pN) (by simp)
 have hqx1:nv qx1 < pN:=hp (nv qx1 < pN) (by simp)
 have hqy0:nv qy0 < pN:=hp (nv qy0 < pN) (by simp)
 have hqy1:nv qy1 < pN:=hp (nv qy1 < pN) (by simp)
 have htx0:nv tx0 < pN:=hp (nv tx0 < pN) (by simp)
 have htx1:nv tx1 < pN:=hp (nv tx1 < pN) (by simp)
 have hty0:nv ty0 < pN:=hp (nv ty0 < pN) (by simp)
 have hty1:nv ty1 < pN:=hp (nv ty1 < pN) (by simp)
 have hf0:nv f0 < pN:=hp (nv f0 < pN) (by simp)
 have hf1:nv f1 < pN:=hp (nv f1 < pN) (by simp)
 have hf2:nv f2 < pN:=hp (nv f2 < pN) (by simp)
 have hf3:nv f3 < pN:=hp (nv f3 < pN) (by simp)
 have hf4:nv f4 < pN:=hp (nv f4 < pN) (by simp)
 have hf5:nv f5 < pN:=hp (nv f5 < pN) (by simp)
 have hf6:nv f6 < pN:=hp (nv f6 < pN) (by simp)
 have hf7:nv f7 < pN:=hp (nv f7 < pN) (by simp)
 have hf8:nv f8 < pN:=hp (nv f8 < pN) (by simp)
 have hf9:nv f9 < pN:=hp (nv f9 < pN) (by simp)
 have hf10:nv f10 < pN:=hp (nv f10 < pN) (by simp)
 have hf11:nv f11 < pN:=hp (nv f11 < pN) (by simp)
 have hl:=hget_lt hb0
 refine mem_walk tt_ok Try.func46 (by kernel_rfl) (by kernel_rfl) [b] [] slot [some ⟨93,[q6 px,q6 py,q6 qx0,q6 qx1,q6 qy0,q6 qy1,q6 tx0,q6 tx1,q6 ty0,q6 ty1,q6 f0,q6 f1,q6 f2,q6 f3,q6 f4,q6 f5,q6 f6,q6 f7,q6 f8,q6 f9,q6 f10,q6 f11],0,0⟩] [some ⟨93,[q6 px,q6 py,q6 qx0,q6 qx1,q6 qy0,q6 qy1,q6 (eF ((adW (dF px) (dF py) (⟨dF qx0,dF qx1⟩:F2p) (⟨dF qy0,dF qy1⟩:F2p) (⟨(⟨dF tx0,dF tx1⟩:F2p),(⟨dF ty0,dF ty1⟩:F2p),(d12 f0 f1 f2 f3 f4 f5 f6 f7 f8 f9 f10 f11)⟩:WS)).tx).x),q6 (eF ((adW (dF px) (dF py) (⟨dF qx0,dF qx1⟩:F2p) (⟨dF qy0,dF qy1⟩:F2p) (⟨(⟨dF tx0,dF tx1⟩:F2p),(⟨dF ty0,dF ty1⟩:F2p),(d12 f0 f1 f2 f3 f4 f5 f6 f7 f8 f9 f10 f11)⟩:WS)).tx).y),q6 (eF ((adW (dF px) (dF py) (⟨dF qx0,dF qx1⟩:F2p) (⟨dF qy0,dF qy1⟩:F2p) (⟨(⟨dF tx0,dF tx1⟩:F2p),(⟨dF ty0,dF ty1⟩:F2p),(d12 f0 f1 f2 f3 f4 f5 f6 f7 f8 f9 f10 f11)⟩:WS)).ty).x),q6 (eF ((adW (dF px) (dF py) (⟨dF qx0,dF qx1⟩:F2p) (⟨dF qy0,dF qy1⟩:F2p) (⟨(⟨dF tx0,dF tx1⟩:F2p),(⟨dF ty0,dF ty1⟩:F2p),(d12 f0 f1 f2 f3 f4 f5 f6 f7 f8 f9 f10 f11)⟩:WS)).ty).y),q6 (eF ((adW (dF px) (dF py) (⟨dF qx0,dF qx1⟩:F2p) (⟨dF qy0,dF qy1⟩:F2p) (⟨(⟨dF tx0,dF tx1⟩:F2p),(⟨dF ty0,dF ty1⟩:F2p),(d12 f0 f1 f2 f3 f4 f5 f6 f7 f8 f9 f10 f11)⟩:WS)).f).p.u.x),q6 (eF ((adW (dF px) (dF py) (⟨dF qx0,dF qx1⟩:F2p) (⟨dF qy0,dF qy1⟩:F2p) (⟨(⟨dF tx0,dF tx1⟩:F2p),(⟨dF ty0,dF ty1⟩:F2p),(d12 f0 f1 f2 f3 f4 f5 f6 f7 f8 f9 f10 f11)⟩:WS)).f).p.u.y),q6 (eF ((adW (dF px) (dF py) (⟨dF qx0,dF qx1⟩:F2p) (⟨dF qy0,dF qy1⟩:F2p) (⟨(⟨dF tx0,dF tx1⟩:F2p),(⟨dF ty0,dF ty1⟩:F2p),(d12 f0 f1 f2 f3 f4 f5 f6 f7 f8 f9 f10 f11)⟩:WS)).f).q.u.x),q6 (eF ((adW (dF px) (dF py) (⟨dF qx0,dF qx1⟩:F2p) (⟨dF qy0,dF qy1⟩:F2p) (⟨(⟨dF tx0,dF tx1⟩:F2p),(⟨dF ty0,dF ty1⟩:F2p),(d12 f0 f1 f2 f3 f4 f5 f6 f7 f8 f9 f10 f11)⟩:WS)).f).q.u.y),q6 (eF ((adW (dF px) (dF py) (⟨dF qx0,dF qx1⟩:F2p) (⟨dF qy0,dF qy1⟩:F2p) (⟨(⟨dF tx0,dF tx1⟩:F2p),(⟨dF ty0,dF ty1⟩:F2p),(d12 f0 f1 f2 f3 f4 f5 f6 f7 f8 f9 f10 f11)⟩:WS)).f).p.v.x),q6 (eF ((adW (dF px) (dF py) (⟨dF qx0,dF qx1⟩:F2p) (⟨dF qy0,dF qy1⟩:F2p) (⟨(⟨dF tx0,dF tx1⟩:F2p),(⟨dF ty0,dF ty1⟩:F2p),(d12 f0 f1 f2 f3 f4 f5 f6 f7 f8 f9 f10 f11)⟩:WS)).f).p.v.y),q6 (eF ((adW (dF px) (dF py) (⟨dF qx0,dF qx1⟩:F2p) (⟨dF qy0,dF qy1⟩:F2p) (⟨(⟨dF tx0,dF tx1⟩:F2p),(⟨dF ty0,dF ty1⟩:F2p),(d12 f0 f1 f2 f3 f4 f5 f6 f7 f8 f9 f10 f11)⟩:WS)).f).q.v.x),q6 (eF ((adW (dF px) (dF py) (⟨dF qx0,dF qx1⟩:F2p) (⟨dF qy0,dF qy1⟩:F2p) (⟨(⟨dF tx0,dF tx1⟩:F2p),(⟨dF ty0,dF ty1⟩:F2p),(d12 f0 f1 f2 f3 f4 f5 f6 f7 f8 f9 f10 f11)⟩:WS)).f).q.v.y),q6 (eF ((adW (dF px) (dF py) (⟨dF qx0,dF qx1⟩:F2p) (⟨dF qy0,dF qy1⟩:F2p) (⟨(⟨dF tx0,dF tx1⟩:F2p),(⟨dF ty0,dF ty1⟩:F2p),(d12 f0 f1 f2 f3 f4 f5 f6 f7 f8 f9 f10 f11)⟩:WS)).f).p.w.x),q6 (eF ((adW (dF px) (dF py) (⟨dF qx0,dF qx1⟩:F2p) (⟨dF qy0,dF qy1⟩:F2p) (⟨(⟨dF tx0,dF tx1⟩:F2p),(⟨dF ty0,dF ty1⟩:F2p),(d12 f0 f1 f2 f3 f4 f5 f6 f7 f8 f9 f10 f11)⟩:WS)).f).p.w.y),q6 (eF ((adW (dF px) (dF py) (⟨dF qx0,dF qx1⟩:F2p) (⟨dF qy0,dF qy1⟩:F2p) (⟨(⟨dF tx0,dF tx1⟩:F2p),(⟨dF ty0,dF ty1⟩:F2p),(d12 f0 f1 f2 f3 f4 f5 f6 f7 f8 f9 f10 f11)⟩:WS)).f).q.w.x),q6 (eF ((adW (dF px) (dF py) (⟨dF qx0,dF qx1⟩:F2p) (⟨dF qy0,dF qy1⟩:F2p) (⟨(⟨dF tx0,dF tx1⟩:F2p),(⟨dF ty0,dF ty1⟩:F2p),(d12 f0 f1 f2 f3 f4 f5 f6 f7 f8 f9 f10 f11)⟩:WS)).f).q.w.y)],0,0⟩] (args':=[pt 0 0]) (vK:=.tup [])
  (by kernel_rfl) ?_ (by kernel_rfl) ?_ (by kernel_rfl) (fun i hi=>?_) (by kernel_rfl) (by kernel_rfl) (fun i hi=>?_) (by kernel_rfl) ?_ rfl (fun t ht=>by simp at ht) (fun i hi _=>?_) ?_
 ·show [pickB _ (hget h b)] = _
  rw [hb0];rfl
 ·show [AV.v1 (.sc (.pt (bk [b] b) 0))] = _
  rw [bk_one]
 ·have:i = 0:=by simpa using hi
  subst this;exact ⟨_,rfl,by simp⟩
 ·have:i = 0:=by simpa using hi
  subst this;exact ⟨_,rfl⟩
 ·show [pickB _ (hget (hset h b _) b)] = _
  rw [hget_hset_same hl];rfl
 ·exact hget_hset_ne fun e=>hi 0 (by simp) e.symm
 ·skip
  obtain ⟨t1,ht1⟩:∃ q_:F2p,q_ = (⟨dF qy0,dF qy1⟩:F2p) - (⟨dF ty0,dF ty1⟩:F2p):=⟨_,rfl⟩
  obtain ⟨t2,ht2⟩:∃ q_:F2p,q_ = (⟨dF qx0,dF qx1⟩:F2p) - (⟨dF tx0,dF tx1⟩:F2p):=⟨_,rfl⟩
  obtain ⟨t3,ht3⟩:∃ q_:F2p,q_ = slS t1 t2:=⟨_,rfl⟩
  have hm:(⟨dF (eF t3.x),dF (eF t3.y)⟩:F2p) = t3:=by rw [dF_eF,dF_eF]
  have hX:(stX (⟨dF tx0,dF tx1⟩:F2p) (⟨dF (eF t3.x),dF (eF t3.y)⟩:F2p) (⟨dF qx0,dF qx1⟩:F2p)) = (adW (dF px) (dF py) (⟨dF qx0,dF qx1⟩:F2p) (⟨dF qy0,dF qy1⟩:F2p) (⟨(⟨dF tx0,dF tx1⟩:F2p),(⟨dF ty0,dF ty1⟩:F2p),(d12 f0 f1 f2 f3 f4 f5 f6 f7 f8 f9 f10 f11)⟩:WS)).tx:=by rw [hm];subst ht3 ht2 ht1;rfl
  have hY:(stY (⟨dF tx0,dF tx1⟩:F2p) (⟨dF ty0,dF ty1⟩:F2p) (⟨dF (eF t3.x),dF (eF t3.y)⟩:F2p) (⟨dF qx0,dF qx1⟩:F2p)) = (adW (dF px) (dF py) (⟨dF qx0,dF qx1⟩:F2p) (⟨dF qy0,dF qy1⟩:F2p) (⟨(⟨dF tx0,dF tx1⟩:F2p),(⟨dF ty0,dF ty1⟩:F2p),(d12 f0 f1 f2 f3 f4 f5 f6 f7 f8 f9 f10 f11)⟩:WS)).ty:=by rw [hm];subst ht3 ht2 ht1;rfl
  have hF:((d12 f0 f1 f2 f3 f4 f5 f6 f7 f8 f9 f10 f11) * lnS (dF px) (dF py) (⟨dF tx0,dF tx1⟩:F2p) (⟨dF ty0,dF ty1⟩:F2p) (⟨dF (eF t3.x),dF (eF t3.y)⟩:F2p)) = (adW (dF px) (dF py) (⟨dF qx0,dF qx1⟩:F2p) (⟨dF qy0,dF qy1⟩:F2p) (⟨(⟨dF tx0,dF tx1⟩:F2p),(⟨dF ty0,dF ty1⟩:F2p),(d12 f0 f1 f2 f3 f4 f5 f6 f7 f8 f9 f10 f11)⟩:WS)).f:=by rw [hm];subst ht3 ht2 ht1;rfl
  refine evS_q mixed tt_ok GTwW_ok 300 [⟨0,8,.as (eC2 t1)⟩,⟨0,17,.as (eC2 t2)⟩,⟨0,18,.as (eC2 t3)⟩] ?_
  refine same (p:=asP (eD4 sub2x sub2y (dF qy0) (dF qy1) (dF ty0) (dF ty1)) (eC2 t1)/\lp qy0/\lp qy1/\lp ty0/\lp ty1/\asP (eD4 sub2x sub2y (dF qx0) (dF qx1) (dF tx0) (dF tx1)) (eC2 t2)/\lp qx0/\lp qx1/\lp tx0/\lp tx1/\asP (eC2 (slS (⟨dF (eF t1.x),dF (eF t1.y)⟩:F2p) (⟨dF (eF t2.x),dF (eF t2.y)⟩:F2p))) (eC2 t3)/\lp (eF t1.x)/\lp (eF t1.y)/\lp (eF t2.x)/\lp (eF t2.y)/\lp px/\lp py/\lp tx0/\lp tx1/\lp ty0/\lp ty1/\lp f0/\lp f1/\lp f2/\lp f3/\lp f4/\lp f5/\lp f6/\lp f7/\lp f8/\lp f9/\lp f10/\lp f11/\lp (eF t3.x)/\lp (eF t3.y)/\lp tx0/\lp tx1/\lp ty0/\lp ty1/\lp (eF t3.x)/\lp (eF t3.y)/\lp qx0/\lp qx1/\endW 93 [q6 px,q6 py,q6 qx0,q6 qx1,q6 qy0,q6 qy1,q6 (eF ((stX (⟨dF tx0,dF tx1⟩:F2p) (⟨dF (eF t3.x),dF (eF t3.y)⟩:F2p) (⟨dF qx0,dF qx1⟩:F2p))).x),q6 (eF ((stX (⟨dF tx0,dF tx1⟩:F2p) (⟨dF (eF t3.x),dF (eF t3.y)⟩:F2p) (⟨dF qx0,dF qx1⟩:F2p))).y),q6 (eF ((stY (⟨dF tx0,dF tx1⟩:F2p) (⟨dF ty0,dF ty1⟩:F2p) (⟨dF (eF t3.x),dF (eF t3.y)⟩:F2p) (⟨dF qx0,dF qx1⟩:F2p))).x),q6 (eF ((stY (⟨dF tx0,dF tx1⟩:F2p) (⟨dF ty0,dF ty1⟩:F2p) (⟨dF (eF t3.x),dF (eF t3.y)⟩:F2p) (⟨dF qx0,dF qx1⟩:F2p))).y),q6 (eF (((d12 f0 f1 f2 f3 f4 f5 f6 f7 f8 f9 f10 f11) * lnS (dF px) (dF py) (⟨dF tx0,dF tx1⟩:F2p) (⟨dF ty0,dF ty1⟩:F2p) (⟨dF (eF t3.x),dF (eF t3.y)⟩:F2p))).p.u.x),q6 (eF (((d12 f0 f1 f2 f3 f4 f5 f6 f7 f8 f9 f10 f11) * lnS (dF px) (dF py) (⟨dF tx0,dF tx1⟩:F2p) (⟨dF ty0,dF ty1⟩:F2p) (⟨dF (eF t3.x),dF (eF t3.y)⟩:F2p))).p.u.y),q6 (eF (((d12 f0 f1 f2 f3 f4 f5 f6 f7 f8 f9 f10 f11) * lnS (dF px) (dF py) (⟨dF tx0,dF tx1⟩:F2p) (⟨dF ty0,dF ty1⟩:F2p) (⟨dF (eF t3.x),dF (eF t3.y)⟩:F2p))).q.u.x),q6 (eF (((d12 f0 f1 f2 f3 f4 f5 f6 f7 f8 f9 f10 f11) * lnS (dF px) (dF py) (⟨dF tx0,dF tx1⟩:F2p) (⟨dF ty0,dF ty1⟩:F2p) (⟨dF (eF t3.x),dF (eF t3.y)⟩:F2p))).q.u.y),q6 (eF (((d12 f0 f1 f2 f3 f4 f5 f6 f7 f8 f9 f10 f11) * lnS (dF px) (dF py) (⟨dF tx0,dF tx1⟩:F2p) (⟨dF ty0,dF ty1⟩:F2p) (⟨dF (eF t3.x),dF (eF t3.y)⟩:F2p))).p.v.x),q6 (eF (((d12 f0 f1 f2 f3 f4 f5 f6 f7 f8 f9 f10 f11) * lnS (dF px) (dF py) (⟨dF tx0,dF tx1⟩:F2p) (⟨dF ty0,dF ty1⟩:F2p) (⟨dF (eF t3.x),dF (eF t3.y)⟩:F2p))).p.v.y),q6 (eF (((d12 f0 f1 f2 f3 f4 f5 f6 f7 f8 f9 f10 f11) * lnS (dF px) (dF py) (⟨dF tx0,dF tx1⟩:F2p) (⟨dF ty0,dF ty1⟩:F2p) (⟨dF (eF t3.x),dF (eF t3.y)⟩:F2p))).q.v.x),q6 (eF (((d12 f0 f1 f2 f3 f4 f5 f6 f7 f8 f9 f10 f11) * lnS (dF px) (dF py) (⟨dF tx0,dF tx1⟩:F2p) (⟨dF ty0,dF ty1⟩:F2p) (⟨dF (eF t3.x),dF (eF t3.y)⟩:F2p))).q.v.y),q6 (eF (((d12 f0 f1 f2 f3 f4 f5 f6 f7 f8 f9 f10 f11) * lnS (dF px) (dF py) (⟨dF tx0,dF tx1⟩:F2p) (⟨dF ty0,dF ty1⟩:F2p) (⟨dF (eF t3.x),dF (eF t3.y)⟩:F2p))).p.w.x),q6 (eF (((d12 f0 f1 f2 f3 f4 f5 f6 f7 f8 f9 f10 f11) * lnS (dF px) (dF py) (⟨dF tx0,dF tx1⟩:F2p) (⟨dF ty0,dF ty1⟩:F2p) (⟨dF (eF t3.x),dF (eF t3.y)⟩:F2p))).p.w.y),q6 (eF (((d12 f0 f1 f2 f3 f4 f5 f6 f7 f8 f9 f10 f11) * lnS (dF px) (dF py) (⟨dF tx0,dF tx1⟩:F2p) (⟨dF ty0,dF ty1⟩:F2p) (⟨dF (eF t3.x),dF (eF t3.y)⟩:F2p))).q.w.x),q6 (eF (((d12 f0 f1 f2 f3 f4 f5 f6 f7 f8 f9 f10 f11) * lnS (dF px) (dF py) (⟨dF tx0,dF tx1⟩:F2p) (⟨dF ty0,dF ty1⟩:F2p) (⟨dF (eF t3.x),dF (eF t3.y)⟩:F2p))).q.w.y)] [q6 px,q6 py,q6 qx0,q6 qx1,q6 qy0,q6 qy1,q6 (eF ((adW (dF px) (dF py) (⟨dF qx0,dF qx1⟩:F2p) (⟨dF qy0,dF qy1⟩:F2p) (⟨(⟨dF tx0,dF tx1⟩:F2p),(⟨dF ty0,dF ty1⟩:F2p),(d12 f0 f1 f2 f3 f4 f5 f6 f7 f8 f9 f10 f11)⟩:WS)).tx).x),q6 (eF ((adW (dF px) (dF py) (⟨dF qx0,dF qx1⟩:F2p) (⟨dF qy0,dF qy1⟩:F2p) (⟨(⟨dF tx0,dF tx1⟩:F2p),(⟨dF ty0,dF ty1⟩:F2p),(d12 f0 f1 f2 f3 f4 f5 f6 f7 f8 f9 f10 f11)⟩:WS)).tx).y),q6 (eF ((adW (dF px) (dF py) (⟨dF qx0,dF qx1⟩:F2p) (⟨dF qy0,dF qy1⟩:F2p) (⟨(⟨dF tx0,dF tx1⟩:F2p),(⟨dF ty0,dF ty1⟩:F2p),(d12 f0 f1 f2 f3 f4 f5 f6 f7 f8 f9 f10 f11)⟩:WS)).ty).x),q6 (eF ((adW (dF px) (dF py) (⟨dF qx0,dF qx1⟩:F2p) (⟨dF qy0,dF qy1⟩:F2p) (⟨(⟨dF tx0,dF tx1⟩:F2p),(⟨dF ty0,dF ty1⟩:F2p),(d12 f0 f1 f2 f3 f4 f5 f6 f7 f8 f9 f10 f11)⟩:WS)).ty).y),q6 (eF ((adW (dF px) (dF py) (⟨dF qx0,dF qx1⟩:F2p) (⟨dF qy0,dF qy1⟩:F2p) (⟨(⟨dF tx0,dF tx1⟩:F2p),(⟨dF ty0,dF ty1⟩:F2p),(d12 f0 f1 f2 f3 f4 f5 f6 f7 f8 f9 f10 f11)⟩:WS)).f).p.u.x),q6 (eF ((adW (dF px) (dF py) (⟨dF qx0,dF qx1⟩:F2p) (⟨dF qy0,dF qy1⟩:F2p) (⟨(⟨dF tx0,dF tx1⟩:F2p),(⟨dF ty0,dF ty1⟩:F2p),(d12 f0 f1 f2 f3 f4 f5 f6 f7 f8 f9 f10 f11)⟩:WS)).f).p.u.y),q6 (eF ((adW (dF px) (dF py) (⟨dF qx0,dF qx1⟩:F2p) (⟨dF qy0,dF qy1⟩:F2p) (⟨(⟨dF tx0,dF tx1⟩:F2p),(⟨dF ty0,dF ty1⟩:F2p),(d12 f0 f1 f2 f3 f4 f5 f6 f7 f8 f9 f10 f11)⟩:WS)).f).q.u.x),q6 (eF ((adW (dF px) (dF py) (⟨dF qx0,dF qx1⟩:F2p) (⟨dF qy0,dF qy1⟩:F2p) (⟨(⟨dF tx0,dF tx1⟩:F2p),(⟨dF ty0,dF ty1⟩:F2p),(d12 f0 f1 f2 f3 f4 f5 f6 f7 f8 f9 f10 f11)⟩:WS)).f).q.u.y),q6 (eF ((adW (dF px) (dF py) (⟨dF qx0,dF qx1⟩:F2p) (⟨dF qy0,dF qy1⟩:F2p) (⟨(⟨dF tx0,dF tx1⟩:F2p),(⟨dF ty0,dF ty1⟩:F2p),(d12 f0 f1 f2 f3 f4 f5 f6 f7 f8 f9 f10 f11)⟩:WS)).f).p.v.x),q6 (eF ((adW (dF px) (dF py) (⟨dF qx0,dF qx1⟩:F2p) (⟨dF qy0,dF qy1⟩:F2p) (⟨(⟨dF tx0,dF tx1⟩:F2p),(⟨dF ty0,dF ty1⟩:F2p),(d12 f0 f1 f2 f3 f4 f5 f6 f7 f8 f9 f10 f11)⟩:WS)).f).p.v.y),q6 (eF ((adW (dF px) (dF py) (⟨dF qx0,dF qx1⟩:F2p) (⟨dF qy0,dF qy1⟩:F2p) (⟨(⟨dF tx0,dF tx1⟩:F2p),(⟨dF ty0,dF ty1⟩:F2p),(d12 f0 f1 f2 f3 f4 f5 f6 f7 f8 f9 f10 f11)⟩:WS)).f).q.v.x),q6 (eF ((adW (dF px) (dF py) (⟨dF qx0,dF qx1⟩:F2p) (⟨dF qy0,dF qy1⟩:F2p) (⟨(⟨dF tx0,dF tx1⟩:F2p),(⟨dF ty0,dF ty1⟩:F2p),(d12 f0 f1 f2 f3 f4 f5 f6 f7 f8 f9 f10 f11)⟩:WS)).f).q.v.y),q6 (eF ((adW (dF px) (dF py) (⟨dF qx0,dF qx1⟩:F2p) (⟨dF qy0,dF qy1⟩:F2p) (⟨(⟨dF tx0,dF tx1⟩:F2p),(⟨dF ty0,dF ty1⟩:F2p),(d12 f0 f1 f2 f3 f4 f5 f6 f7 f8 f9 f10 f11)⟩:WS)).f).p.w.x),q6 (eF ((adW (dF px) (dF py) (⟨dF qx0,dF qx1⟩:F2p) (⟨dF qy0,dF qy1⟩:F2p) (⟨(⟨dF tx0,dF tx1⟩:F2p),(⟨dF ty0,dF ty1⟩:F2p),(d12 f0 f1 f2 f3 f4 f5 f6 f7 f8 f9 f10 f11)⟩:WS)).f).p.w.y),q6 (eF ((adW (dF px) (dF py) (⟨dF qx0,dF qx1⟩:F2p) (⟨dF qy0,dF qy1⟩:F2p) (⟨(⟨dF tx0,dF tx1⟩:F2p),(⟨dF ty0,dF ty1⟩:F2p),(d12 f0 f1 f2 f3 f4 f5 f6 f7 f8 f9 f10 f11)⟩:WS)).f).q.w.x),q6 (eF ((adW (dF px) (dF py) (⟨dF qx0,dF qx1⟩:F2p) (⟨dF qy0,dF qy1⟩:F2p) (⟨(⟨dF tx0,dF tx1⟩:F2p),(⟨dF ty0,dF ty1⟩:F2p),(d12 f0 f1 f2 f3 f4 f5 f6 f7 f8 f9 f10 f11)⟩:WS)).f).q.w.y)]) ?_ (by kernel_rfl)
  exact ⟨as_subQ rfl rfl rfl rfl ht1,hqy0,hqy1,hty0,hty1,as_subQ rfl rfl rfl rfl ht2,hqx0,hqx1,htx0,htx1,as_slQ (dF_eF _) (dF_eF _) (dF_eF _) (dF_eF _) ht3,lt_eF _,lt_eF _,lt_eF _,lt_eF _,hpx,hpy,htx0,htx1,hty0,hty1,hf0,hf1,hf2,hf3,hf4,hf5,hf6,hf7,hf8,hf9,hf10,hf11,lt_eF _,lt_eF _,htx0,htx1,hty0,hty1,lt_eF _,lt_eF _,hqx0,hqx1,endW_of (cv_cons rfl (cv_cons rfl (cv_cons rfl (cv_cons rfl (cv_cons rfl (cv_cons rfl (cv_cons (nv_tx hX) (cv_cons (nv_ty hX) (cv_cons (nv_tx hY) (cv_cons (nv_ty hY) (cv_cons (congrArg (fun q:S12=>nv (eF q.p.u.x)) hF) (cv_cons (congrArg (fun q:S12=>nv (eF q.p.u.y)) hF) (cv_cons (congrArg (fun q:S12=>nv (eF q.q.u.x)) hF) (cv_cons (congrArg (fun q:S12=>nv (eF q.q.u.y)) hF) (cv_cons (congrArg (fun q:S12=>nv (eF q.p.v.x)) hF) (cv_cons (congrArg (fun q:S12=>nv (eF q.p.v.y)) hF) (cv_cons (congrArg (fun q:S12=>nv (eF q.q.v.x)) hF) (cv_cons (congrArg (fun q:S12=>nv (eF q.q.v.y)) hF) (cv_cons (congrArg (fun q:S12=>nv (eF q.p.w.x)) hF) (cv_cons (congrArg (fun q:S12=>nv (eF q.p.w.y)) hF) (cv_cons (congrArg (fun q:S12=>nv (eF q.q.w.x)) hF) (cv_cons (congrArg (fun q:S12=>nv (eF q.q.w.y)) hF) (cv_nil)))))))))))))))))))))))⟩
end Go.Proofs.Ytnjocbcjejpklaa
namespace Go.Proofs.Ytnjocbcjejpklaa
open Go.Rq Go
set_option maxRecDepth 100000
set_option maxHeartbeats 4000000
set_option maxRecDepth 100000
def of16 (a0 a1 a2 a3 a4 a5 a6 a7 a8 a9 a10 a11 a12 a13 a14 a15:Nat->Nat):Nat->Nat->Nat
 | 0=>a0
 | 1=>a1
 | 2=>a2
 | 3=>a3
 | 4=>a4
 | 5=>a5
 | 6=>a6
 | 7=>a7
 | 8=>a8
 | 9=>a9
 | 10=>a10
 | 11=>a11
 | 12=>a12
 | 13=>a13
 | 14=>a14
 | _=>a15
def JvW (g:Nat->Nat->Nat):WS:=⟨⟨dF (g 0),dF (g 1)⟩,⟨dF (g 2),dF (g 3)⟩,d12 (g 4) (g 5) (g 6) (g 7) (g 8) (g 9) (g 10) (g 11) (g 12) (g 13) (g 14) (g 15)⟩
def selW (s:WS):Nat->Nat->Nat:=of16 (eF s.tx.x) (eF s.tx.y) (eF s.ty.x) (eF s.ty.y) (eF s.f.p.u.x) (eF s.f.p.u.y) (eF s.f.q.u.x) (eF s.f.q.u.y) (eF s.f.p.v.x) (eF s.f.p.v.y) (eF s.f.q.v.x) (eF s.f.q.v.y) (eF s.f.p.w.x) (eF s.f.p.w.y) (eF s.f.q.w.x) (eF s.f.q.w.y)
theorem JvW_sel (s:WS):JvW (selW s) = s:=by
 show (⟨⟨dF (eF s.tx.x),dF (eF s.tx.y)⟩,⟨dF (eF s.ty.x),dF (eF s.ty.y)⟩,d12 (eF s.f.p.u.x) (eF s.f.p.u.y) (eF s.f.q.u.x) (eF s.f.q.u.y) (eF s.f.p.v.x) (eF s.f.p.v.y) (eF s.f.q.v.x) (eF s.f.q.v.y) (eF s.f.p.w.x) (eF s.f.p.w.y) (eF s.f.q.w.x) (eF s.f.q.w.y)⟩:WS) = s
 rw [dF_eF,dF_eF,dF_eF,dF_eF,d12_eF]
def LtW (g:Nat->Nat->Nat):Prop:=nv (g 0) < pN/\nv (g 1) < pN/\nv (g 2) < pN/\nv (g 3) < pN/\nv (g 4) < pN/\nv (g 5) < pN/\nv (g 6) < pN/\nv (g 7) < pN/\nv (g 8) < pN/\nv (g 9) < pN/\nv (g 10) < pN/\nv (g 11) < pN/\nv (g 12) < pN/\nv (g 13) < pN/\nv (g 14) < pN/\nv (g 15) < pN
theorem LtW_sel (s:WS):LtW (selW s):=⟨lt_eF _,lt_eF _,lt_eF _,lt_eF _,lt_eF _,lt_eF _,lt_eF _,lt_eF _,lt_eF _,lt_eF _,lt_eF _,lt_eF _,lt_eF _,lt_eF _,lt_eF _,lt_eF _⟩
def wkT (px py:Fp) (qx qy:F2p):Nat->Nat->WS
 | 0,_=>⟨qx,qy,1⟩
 | k + 1,n=>if n % 2 = 1 then adW px py qx qy (twW px py (wkT px py qx qy k (n / 2))) else twW px py (wkT px py qx qy k (n / 2))
def walkS (px py:Fp) (qx qy:F2p):S12:=S12.conj (wkT px py qx qy 63 nU).f
def cWalk:List AV->Option (List Prop × AV)
 | [.v1 (.agg [.ws .u64 6 px,.ws .u64 6 py,.one (.bo z)]),.v1 (.agg [.ws .u64 6 x0,.ws .u64 6 x1,.ws .u64 6 y0,.ws .u64 6 y1,.one (.bo z2)])]=>some ([],.v1 (e12 (walkS (gN px) (gN py) ⟨gN x0,gN x1⟩ ⟨gN y0,gN y1⟩)))
 | _=>none
def GWk:Ctx:=ctxL [(42,.pure cTo),(20,.pure cTo2),(18,.pure (c12 one12)),(15,.pure cOf),(43,.pure cLen),(45,.pure cBit),(22,.pure (k121 S12.conj)),(44,.mem cTwiceW),(46,.mem cAddW)]
theorem GWk_ok:CtxOk Try.prog GWk:=ctxL_cons okTo <| ctxL_cons okTo2 <| ctxL_cons okOne12 <| ctxL_cons okOf <| ctxL_cons okLen <| ctxL_cons okBit <| ctxL_cons okConj12 <| ctxL_cons okTwiceW <| ctxL_cons okAddW ctxL_nil
abbrev VWk (k:Nat):List AV:=[pt 2 0,pt 10 0,pt 12 0,iv (predI k)]
abbrev HWk (px py x0 x1 y0 y1:Nat->Nat) (z z2:Bool) (g:Nat->Nat->Nat):Heap:=[some ⟨41,[q6 px,q6 py,.one (.bo z)],0,0⟩,some ⟨43,[q6 x0,q6 x1,q6 y0,q6 y1,.one (.bo z2)],0,0⟩,b12 zz12,none,none,some ⟨47,[q6 (eF (gN x0)),q6 (eF (gN x1))],0,0⟩,some ⟨47,[q6 (eF (gN y0)),q6 (eF (gN y1))],0,0⟩,none,none,none,some ⟨93,[q6 (eF (gN px)),q6 (eF (gN py)),q6 (eF (gN x0)),q6 (eF (gN x1)),q6 (eF (gN y0)),q6 (eF (gN y1)),q6 (g 0),q6 (g 1),q6 (g 2),q6 (g 3),q6 (g 4),q6 (g 5),q6 (g 6),q6 (g 7),q6 (g 8),q6 (g 9),q6 (g 10),q6 (g 11),q6 (g 12),q6 (g 13),q6 (g 14),q6 (g 15)],0,0⟩,none,nb wU,none]
def InvWk (px py:Fp) (qx qy:F2p) (x:Nat × (Nat->Nat->Nat)):Prop:=x.1 <= 63/\LtW x.2/\JvW x.2 = wkT px py qx qy (63 - x.1) (nU / 2 ^ x.1)
abbrev one16 (a b c d:Nat->Nat):Nat->Nat->Nat:=of16 a b c d oneF fz fz fz fz fz fz fz fz fz fz fz
theorem one16_d (a b c d:Nat->Nat):JvW (one16 a b c d) = ⟨⟨dF a,dF b⟩,⟨dF c,dF d⟩,1⟩:=by
 have h:d12 oneF fz fz fz fz fz fz fz fz fz fz fz = 1:=S12.one_d
 show (⟨⟨dF a,dF b⟩,⟨dF c,dF d⟩,d12 oneF fz fz fz fz fz fz fz fz fz fz fz⟩:WS) = _
 rw [h]
theorem okWalk:(CallC.pure cWalk).Ok Try.prog 19:=by
 intro args pre v e hp
 unfold cWalk at e
 split at e
 rotate_left
 ·cases e
 rename_i px py z x0 x1 y0 y1 z2
 cases e
 refine pure_walk' tt_ok Try.func19 (by kernel_rfl) (by kernel_rfl) (by rfl) (by rfl) ?_
 refine loopF mixed tt_ok GWk_ok (by kernel_rfl) (ι:={x_ // InvWk (dF (eF (gN px))) (dF (eF (gN py))) (⟨dF (eF (gN x0)),dF (eF (gN x1))⟩:F2p) (⟨dF (eF (gN y0)),dF (eF (gN y1))⟩:F2p) x_}) [4,7,8,9] 50 14 (fun x_=>VWk x_.1.1) (fun x_=>HWk px py x0 x1 y0 y1 z z2 x_.1.2) (fun x_=>x_.1.1) (fun x_=>x_.1.1 = 0)
  (fun _=>rfl) (fun _=>by kernel_rfl) (fun _ _ h=>h.elim) 200 [⟨4,2,.lit (.it (predI 63))⟩] ?_ ?_ ?_
 ·refine same (p:=wrapI (Int.ofNat (blen (nv wU)) - 2) = predI 63/\true = true/\∃ j:{x_ // InvWk (dF (eF (gN px))) (dF (eF (gN py))) (⟨dF (eF (gN x0)),dF (eF (gN x1))⟩:F2p) (⟨dF (eF (gN y0)),dF (eF (gN y1))⟩:F2p) x_},VWk 63 = VWk j.1.1/\HWk px py x0 x1 y0 y1 z z2 (one16 (eF (gN x0)) (eF (gN x1)) (eF (gN y0)) (eF (gN y1))) = HWk px py x0 x1 y0 y1 z z2 j.1.2) ?_ (by kernel_rfl)
  refine ⟨by kernel_rfl,rfl,⟨(63,one16 (eF (gN x0)) (eF (gN x1)) (eF (gN y0)) (eF (gN y1))),Nat.le_refl _,⟨lt_eF _,lt_eF _,lt_eF _,lt_eF _,lt_one,lt_zero,lt_zero,lt_zero,lt_zero,lt_zero,lt_zero,lt_zero,lt_zero,lt_zero,lt_zero,lt_zero⟩,?_⟩,rfl,rfl⟩
  simp only
  rw [one16_d];rfl
 ·intro ⟨⟨k,g⟩,hk,hg,hv⟩ junk
  simp only at hk hv
  have hg:LtW g:=hg
  obtain ⟨g0,g1,g2,g3,g4,g5,g6,g7,g8,g9,g10,g11,g12,g13,g14,g15⟩:=hg
  cases k with
  | zero =>
   refine roundF mixed tt_ok GWk_ok 60 [] ?_
   refine same (p:=true = true/\∃ j:{x_ // InvWk (dF (eF (gN px))) (dF (eF (gN py))) (⟨dF (eF (gN x0)),dF (eF (gN x1))⟩:F2p) (⟨dF (eF (gN y0)),dF (eF (gN y1))⟩:F2p) x_},j.1.1 = 0/\VWk 0 = VWk j.1.1/\HWk px py x0 x1 y0 y1 z z2 g = HWk px py x0 x1 y0 y1 z z2 j.1.2) ?_ (by kernel_rfl)
   exact ⟨rfl,⟨(0,g),hk,⟨g0,g1,g2,g3,g4,g5,g6,g7,g8,g9,g10,g11,g12,g13,g14,g15⟩,hv⟩,rfl,rfl,rfl⟩
  | succ k =>
   have hs:wrapI (Int.ofNat k - 1) = predI k:=predI_eq (by omega)
   have hhalf:nU / 2 ^ k / 2 = nU / 2 ^ (k + 1):=by rw [Nat.div_div_eq_div_mul,Nat.pow_succ]
   have hnext:63 - k = (63 - (k + 1)) + 1:=by omega
   have next:∀ J:WS,J = wkT (dF (eF (gN px))) (dF (eF (gN py))) (⟨dF (eF (gN x0)),dF (eF (gN x1))⟩:F2p) (⟨dF (eF (gN y0)),dF (eF (gN y1))⟩:F2p) (63 - k) (nU / 2 ^ k)->∃ j:{x_ // InvWk (dF (eF (gN px))) (dF (eF (gN py))) (⟨dF (eF (gN x0)),dF (eF (gN x1))⟩:F2p) (⟨dF (eF (gN y0)),dF (eF (gN y1))⟩:F2p) x_},j.1.1 < k + 1/\VWk k = VWk j.1.1/\HWk px py x0 x1 y0 y1 z z2 (selW J) = HWk px py x0 x1 y0 y1 z z2 j.1.2 :=
    fun J h'=>⟨⟨(k,selW J),by simp only;omega,LtW_sel J,by simp only;rw [JvW_sel,h']⟩,by simp only;omega,rfl,rfl⟩
   have hbit:nU / 2 ^ k % 2 = 0∨nU / 2 ^ k % 2 = 1:=by omega
   rcases hbit with h0 | h0
   ·refine roundF mixed tt_ok GWk_ok 100 [⟨5,1,.lit (.bo true)⟩,⟨8,3,.lit (.bo false)⟩,⟨6,1,.lit (.it (predI k))⟩] ?_
    refine same (p:=(!ilt (Int.ofNat k) 0) = true/\lp (eF (gN px))/\lp (eF (gN py))/\lp (g 0)/\lp (g 1)/\lp (g 2)/\lp (g 3)/\lp (g 4)/\lp (g 5)/\lp (g 6)/\lp (g 7)/\lp (g 8)/\lp (g 9)/\lp (g 10)/\lp (g 11)/\lp (g 12)/\lp (g 13)/\lp (g 14)/\lp (g 15)/\ieq (Int.ofNat (nv wU / 2 ^ k % 2)) 1 = false/\wrapI (Int.ofNat k - 1) = predI k/\true = true /\
     ∃ j:{x_ // InvWk (dF (eF (gN px))) (dF (eF (gN py))) (⟨dF (eF (gN x0)),dF (eF (gN x1))⟩:F2p) (⟨dF (eF (gN y0)),dF (eF (gN y1))⟩:F2p) x_},j.1.1 < k + 1/\VWk k = VWk j.1.1/\HWk px py x0 x1 y0 y1 z z2 (selW (twW (dF (eF (gN px))) (dF (eF (gN py))) (JvW g))) = HWk px py x0 x1 y0 y1 z z2 j.1.2) ?_ (by kernel_rfl)
    refine ⟨ilt_nn2 k,lt_eF _,lt_eF _,g0,g1,g2,g3,g4,g5,g6,g7,g8,g9,g10,g11,g12,g13,g14,g15,(by show ieq (Int.ofNat (nU / 2 ^ k % 2)) 1 = false;rw [h0];rfl),hs,rfl,next _ ?_⟩
    rw [hnext,wkT,if_neg (by omega),hhalf,hv]
   ·refine roundF mixed tt_ok GWk_ok 100 [⟨5,1,.lit (.bo true)⟩,⟨8,3,.lit (.bo true)⟩,⟨6,1,.lit (.it (predI k))⟩] ?_
    refine same (p:=(!ilt (Int.ofNat k) 0) = true/\lp (eF (gN px))/\lp (eF (gN py))/\lp (g 0)/\lp (g 1)/\lp (g 2)/\lp (g 3)/\lp (g 4)/\lp (g 5)/\lp (g 6)/\lp (g 7)/\lp (g 8)/\lp (g 9)/\lp (g 10)/\lp (g 11)/\lp (g 12)/\lp (g 13)/\lp (g 14)/\lp (g 15)/\ieq (Int.ofNat (nv wU / 2 ^ k % 2)) 1 = true/\lp (eF (gN px))/\lp (eF (gN py))/\lp (eF (gN x0))/\lp (eF (gN x1))/\lp (eF (gN y0))/\lp (eF (gN y1))/\lp (selW (twW (dF (eF (gN px))) (dF (eF (gN py))) (JvW g)) 0)/\lp (selW (twW (dF (eF (gN px))) (dF (eF (gN py))) (JvW g)) 1)/\lp (selW (twW (dF (eF (gN px))) (dF (eF (gN py))) (JvW g)) 2)/\lp (selW (twW (dF (eF (gN px))) (dF (eF (gN py))) (JvW g)) 3)/\lp (selW (twW (dF (eF (gN px))) (dF (eF (gN py))) (JvW g)) 4)/\lp (selW (twW (dF (eF (gN px))) (dF (eF (gN py))) (JvW g)) 5)/\lp (selW (twW (dF (eF (gN px))) (dF (eF (gN py))) (JvW g)) 6)/\lp (selW (twW (dF (eF (gN px))) (dF (eF (gN py))) (JvW g)) 7)/\lp (selW (twW (dF (eF (gN px))) (dF (eF (gN py))) (JvW g)) 8)/\lp (selW (twW (dF (eF (gN px))) (dF (eF (gN py))) (JvW g)) 9)/\lp (selW (twW (dF (eF (gN px))) (dF (eF (gN py))) (JvW g)) 10)/\lp (selW (twW (dF (eF (gN px))) (dF (eF (gN py))) (JvW g)) 11)/\lp (selW (twW (dF (eF (gN px))) (dF (eF (gN py))) (JvW g)) 12)/\lp (selW (twW (dF (eF (gN px))) (dF (eF (gN py))) (JvW g)) 13)/\lp (selW (twW (dF (eF (gN px))) (dF (eF (gN py))) (JvW g)) 14)/\lp (selW (twW (dF (eF (gN px))) (dF (eF (gN py))) (JvW g)) 15)/\wrapI (Int.ofNat k - 1) = predI k/\true = true /\
     ∃ j:{x_ // InvWk (dF (eF (gN px))) (dF (eF (gN py))) (⟨dF (eF (gN x0)),dF (eF (gN x1))⟩:F2p) (⟨dF (eF (gN y0)),dF (eF (gN y1))⟩:F2p) x_},j.1.1 < k + 1/\VWk k = VWk j.1.1/\HWk px py x0 x1 y0 y1 z z2 (selW (adW (dF (eF (gN px))) (dF (eF (gN py))) (⟨dF (eF (gN x0)),dF (eF (gN x1))⟩:F2p) (⟨dF (eF (gN y0)),dF (eF (gN y1))⟩:F2p) (JvW (selW (twW (dF (eF (gN px))) (dF (eF (gN py))) (JvW g)))))) = HWk px py x0 x1 y0 y1 z z2 j.1.2) ?_ (by kernel_rfl)
    refine ⟨ilt_nn2 k,lt_eF _,lt_eF _,g0,g1,g2,g3,g4,g5,g6,g7,g8,g9,g10,g11,g12,g13,g14,g15,(by show ieq (Int.ofNat (nU / 2 ^ k % 2)) 1 = true;rw [h0];rfl),lt_eF _,lt_eF _,lt_eF _,lt_eF _,lt_eF _,lt_eF _,lt_eF _,lt_eF _,lt_eF _,lt_eF _,lt_eF _,lt_eF _,lt_eF _,lt_eF _,lt_eF _,lt_eF _,lt_eF _,lt_eF _,lt_eF _,lt_eF _,lt_eF _,lt_eF _,hs,rfl,next _ ?_⟩
    rw [JvW_sel,hnext,wkT,if_pos h0,hhalf,hv]
 ·intro ⟨⟨k,g⟩,hk,hg,hv⟩ junk h0
  simp only at hk hv h0
  have hg:LtW g:=hg
  obtain ⟨g0,g1,g2,g3,g4,g5,g6,g7,g8,g9,g10,g11,g12,g13,g14,g15⟩:=hg
  subst h0
  rw [Nat.sub_zero,Nat.pow_zero,Nat.div_one] at hv
  refine same (p:=nv (g 4) < pN/\lp (g 5)/\lp (g 6)/\lp (g 7)/\lp (g 8)/\lp (g 9)/\lp (g 10)/\lp (g 11)/\lp (g 12)/\lp (g 13)/\lp (g 14)/\lp (g 15)/\endN (.v1 (.agg (cells12 (S12.conj (d12 (g 4) (g 5) (g 6) (g 7) (g 8) (g 9) (g 10) (g 11) (g 12) (g 13) (g 14) (g 15)))))) (.v1 (e12 (walkS (gN px) (gN py) ⟨gN x0,gN x1⟩ ⟨gN y0,gN y1⟩)))) ?_ (by kernel_rfl)
  refine ⟨g4,g5,g6,g7,g8,g9,g10,g11,g12,g13,g14,g15,end_T ?_⟩
  have e:d12 (g 4) (g 5) (g 6) (g 7) (g 8) (g 9) (g 10) (g 11) (g 12) (g 13) (g 14) (g 15) = (wkT (dF (eF (gN px))) (dF (eF (gN py))) (⟨dF (eF (gN x0)),dF (eF (gN x1))⟩:F2p) (⟨dF (eF (gN y0)),dF (eF (gN y1))⟩:F2p) 63 nU).f:=congrArg WS.f hv
  rw [e,dF_eF,dF_eF,dF_eF,dF_eF,dF_eF,dF_eF];rfl
end Go.Proofs.Ytnjocbcjejpklaa
namespace Go.Proofs.Ytnjocbcjejpklaa
open Go.Rq Go
set_option maxRecDepth 100000
set_option maxHeartbeats 4000000
theorem rd_sl2 {P:Program} {T:TT} (hT:TTOk P T) {f:FuncId} {fn:Func} (hf:P.funcs[f]? = some fn) (hb:fn.body = some (bodyOf fn)) (hn:(fn.name == "runtime.NumGoroutine") = false)
  {b c:Nat} (hbc:Nat.beq b c = false) {x y:Blk} {pre:List AV} {v:AV} (hx:plainCs x.cells = true) (hy:plainCs y.cells = true) (lx:x.lo = 0) (ly:y.lo = 0) (hpre:pre.all vokB = true) (hv:vokB v = true) {h:Heap} (hgb:hget h b = some x) (hgc:hget h c = some y)
  (hwalk:AWqS P (Dm [some x,some y]) (flatC (bodyOf fn)) (FEndR2 T fn v x y) ⟨frame0 (pre ++ [.v1 (.sc (.sl 0 0 1 1)),.v1 (.sc (.sl 1 0 1 1))]) fn.ntmps,[some x,some y]⟩) :
  CallOk P f (pre ++ [.v1 (.sc (.sl b 0 1 1)),.v1 (.sc (.sl c 0 1 1))]) h v h:=by
 have hcb:Nat.beq c b = false:=by
  rw [<-Bool.not_eq_true,Nat.beq_eq]
  intro e
  rw [e,Nat.beq_refl] at hbc;cases hbc
 have hbb:bk [b,c] b = 0:=by simp [bk,idxN]
 have hcc:bk [b,c] c = 1:=by simp only [bk,idxN,hcb,Nat.beq_refl]
 have hbx:∀ m,bkBlk m x = x:=fun m=>by unfold bkBlk;rw [bkCells_plain hx]
 have hby:∀ m,bkBlk m y = y:=fun m=>by unfold bkBlk;rw [bkCells_plain hy]
 have hpk:pickH [b,c] h [b,c] = [some x,some y]:=by
  show [pickB [b,c] (hget h b),pickB [b,c] (hget h c)] = _
  rw [hgb,hgc]
  simp only [pickB,hbx,hby]
 have hLv:∀ i,i < 2->Lv [some x,some y] i:=fun i hi=>by
  rcases (show i = 0∨i = 1 by omega) with rfl | rfl
  ·exact ⟨x,rfl,by omega⟩
  ·exact ⟨y,rfl,by omega⟩
 have hheap:heapB [some x,some y] 0 [some x,some y] = true:=by
  simp only [heapB,Bool.and_eq_true]
  refine ⟨cellsB_plain hx,?_,cellsB_plain hy,?_,trivial⟩
  ·rw [lx];rfl
  ·rw [ly];rfl
 have hchk:∀ m n:Nat,Nat.beq m n = false->chkB [m,n] [some x,some y] = true:=fun m n hmn=>by
  unfold chkB nextB nextB
  rw [lx,ly]
  simp only [nodupB,notIn,hmn]
  rfl
 refine mem_walk hT hf hb hn [b,c] [] 0 [some x,some y] [some x,some y] (args':=pre ++ [.v1 (.sc (.sl 0 0 1 1)),.v1 (.sc (.sl 1 0 1 1))]) (vK:=v) (hchk b c hbc) hpk hheap ?_ ?_ hLv hheap (avB_plain hv) (fun i hi=>(hLv i (by simpa using hi)).dm) (hchk b c hbc) hpk (bkAV_plain hv) (fun t ht=>by simp at ht) (fun _ _ _=>rfl) ?_ (hnw:=by simp [noWinB,lx,ly])
 ·rw [bkAVs_app,bkAVs_plain hpre]
  show pre ++ [AV.v1 (.sc (.sl (bk [b,c] b) 0 1 1)),AV.v1 (.sc (.sl (bk [b,c] c) 0 1 1))] = _
  rw [hbb,hcc]
 ·rw [List.all_append,Bool.and_eq_true]
  refine ⟨List.all_eq_true.2 fun z hz=>avB_plain (List.all_eq_true.1 hpre z hz),?_⟩
  simp only [List.all_cons,List.all_nil,Bool.and_eq_true]
  exact ⟨rfl,rfl,trivial⟩
 ·refine hwalk.mono fun e s q=>?_
  have key:(hget s.h 0 = some x/\hget s.h 1 = some y/\∃ v',resA T s fn.results.toList = some v'/\vokB v' = true/\∀ ρ,v'.val ρ = v.val ρ)->chkB [0,1] (pickH [0,1] s.h [0,1]) = true/\heapB (pickH [0,1] s.h [0,1]) 0 (pickH [0,1] s.h [0,1]) = true/\SimH (pickH [0,1] s.h [0,1]) [some x,some y] /\
    ∃ v',resA T s fn.results.toList = some v'/\avB (pickH [0,1] s.h [0,1]) (bkAV [0,1] v') = true/\∀ ρ,(bkAV [0,1] v').val ρ = v.val ρ:=by
   intro ⟨q1,q1',v',q2,q3,q4⟩
   have e:pickH [0,1] s.h [0,1] = [some x,some y]:=by
    show [pickB [0,1] (hget s.h 0),pickB [0,1] (hget s.h 1)] = _
    rw [q1,q1']
    simp only [pickB,hbx,hby]
   rw [e]
   exact ⟨hchk 0 1 rfl,hheap,⟨⟨rfl,rfl,rfl,fun _=>rfl⟩,⟨rfl,rfl,rfl,fun _=>rfl⟩,trivial⟩,v',q2,by rw [bkAV_plain q3];exact avB_plain q3,fun ρ=>by rw [bkAV_plain q3];exact q4 ρ⟩
  cases e with
  | normal=>exact key q
  | ret=>exact key q
  | exit j=>exact q.elim
  | goto l=>exact q.elim
  | panic ch=>exact q.elim
  | outgrown=>exact q.elim
end Go.Proofs.Ytnjocbcjejpklaa
namespace Go.Rq
open Go
def mvSc (k:Nat):Sc->Sc
 | .pt b o=>.pt (k + b) o
 | .sl b o l c=>.sl (k + b) o l c
 | .so b n=>.so (k + b) n
 | .sv b o n=>.sv (k + b) o n
 | .fn f caps=>.fn f (caps.map fun c=>k + c)
 | s=>s
def mvCell (k:Nat):Cell->Cell
 | .ws k n f=>.ws k n f
 | .one s=>.one (mvSc k s)
def mvCells (k:Nat):List Cell->List Cell
 | []=>[]
 | c :: r=>mvCell k c :: mvCells k r
def mvV1 (k:Nat):V1->V1
 | .sc s=>.sc (mvSc k s)
 | .agg cs=>.agg (mvCells k cs)
def mvV1s (k:Nat):List V1->List V1
 | []=>[]
 | v :: r=>mvV1 k v :: mvV1s k r
def mvAV (k:Nat):AV->AV
 | .v1 v=>.v1 (mvV1 k v)
 | .tup l=>.tup (mvV1s k l)
 | .raw v=>.raw v
section
variable {k:Nat} {ρ:Ren}
theorem mvSc_val {s:Sc}:(mvSc k s).val ρ = s.val (fun i=>ρ (k + i)):=by
 cases s with
 | fn f caps =>
  simp only [mvSc,Sc.val,List.map_map]
  congr 2
 | _=>rfl
theorem mvCells_vals:∀ {cs:List Cell},cvals ρ (mvCells k cs) = cvals (fun i=>ρ (k + i)) cs
 | []=>rfl
 | c :: r=>by
  simp only [mvCells,cvals]
  rw [mvCells_vals (cs:=r)]
  cases c with
  | ws _ _ _=>rfl
  | one s=>simp only [mvCell,Cell.vals,mvSc_val]
theorem mvV1_val {v:V1}:(mvV1 k v).val ρ = v.val (fun i=>ρ (k + i)):=by
 cases v with
 | sc s=>exact mvSc_val
 | agg cs=>simp only [mvV1,V1.val];rw [mvCells_vals]
theorem mvAV_val {v:AV}:(mvAV k v).val ρ = v.val (fun i=>ρ (k + i)):=by
 cases v with
 | v1 v=>exact mvV1_val
 | tup l =>
  have key:∀ l:List V1,(mvV1s k l).map (V1.val ρ) = l.map (V1.val (fun i=>ρ (k + i))):=by
   intro l
   induction l with
   | nil=>rfl
   | cons v r ih=>simp only [mvV1s,List.map_cons,mvV1_val,ih]
  simp only [mvAV,AV.val]
  rw [key l]
 | raw v=>rfl
variable {D E:Nat->Prop} (hD:∀ i,D i->E (k + i))
include hD
theorem mvSc_ok {s:Sc} (h:s.ok D):(mvSc k s).ok E:=by
 cases s with
 | pt b o=>exact hD _ h
 | sl b o l c=>exact hD _ h
 | so b n=>exact ⟨hD _ h.1,hD _ h.2⟩
 | sv b o n=>exact ⟨hD _ h.1,hD _ h.2⟩
 | fn f caps =>
  intro c hc
  obtain ⟨d,hd,rfl⟩:=List.mem_map.1 hc
  exact hD _ (h d hd)
 | rw v=>exact h
 | _=>trivial
theorem mvCells_ok:∀ {cs:List Cell},cok D cs->cok E (mvCells k cs)
 | [],_=>fun c hc=>by cases hc
 | c :: r,h=>fun d hd=>by
  rcases List.mem_cons.1 hd with rfl | hd
  ·have:=h c (List.mem_cons_self ..)
   cases c with
   | ws _ _ _=>trivial
   | one s=>exact mvSc_ok hD this
  ·exact mvCells_ok (cs:=r) (fun e he=>h e (List.mem_cons_of_mem _ he)) d hd
theorem mvV1_ok {v:V1} (h:v.ok D):(mvV1 k v).ok E:=by
 cases v with
 | sc s=>exact mvSc_ok hD h
 | agg cs=>exact mvCells_ok hD h
theorem mvAV_ok {v:AV} (h:v.ok D):(mvAV k v).ok E:=by
 cases v with
 | v1 v=>exact mvV1_ok hD h
 | tup l =>
  have key:∀ l:List V1,(∀ v ∈ l,v.ok D)->∀ v ∈ mvV1s k l,v.ok E:=by
   intro l
   induction l with
   | nil=>intro _ v hv;cases hv
   | cons v r ih =>
    intro h u hu
    rcases List.mem_cons.1 hu with rfl | hu
    ·exact mvV1_ok hD (h _ (List.mem_cons_self ..))
    ·exact ih (fun x hx=>h x (List.mem_cons_of_mem _ hx)) u hu
  exact key l h
 | raw v=>trivial
end
def fillH:Heap->Nat->List Blk->Heap
 | h,_,[]=>h
 | h,s,b :: r=>fillH (hset h s b) (s + 1) r
theorem hget_fillH:∀ {l:List Blk} {h:Heap} {s:Nat},(∀ t,t < l.length->s + t < h.length)->∀ i,hget (fillH h s l) i = if s <= i/\i < s + l.length then l[i - s]? else hget h i
 | [],h,s,_,i=>by
  rw [if_neg (by simp only [List.length_nil];omega)];rfl
 | b :: r,h,s,hl,i=>by
  have h0:s < h.length:=hl 0 (by simp)
  simp only [fillH]
  rw [hget_fillH (l:=r) (fun t ht=>by rw [length_hset];have:=hl (t + 1) (by simpa using ht);omega)]
  simp only [List.length_cons]
  by_cases hi:s + 1 <= i/\i < s + 1 + r.length
  ·rw [if_pos hi,if_pos (by omega)]
   obtain ⟨d,hd⟩:∃ d,i - s = d + 1:=⟨i - s - 1,by omega⟩
   rw [show i - (s + 1) = d by omega,hd];rfl
  ·rw [if_neg hi]
   by_cases he:i = s
   ·subst he
    rw [hget_hset_same h0,if_pos (by omega),Nat.sub_self];rfl
   ·rw [hget_hset_ne he,if_neg (by omega)]
theorem hget_map:∀ {l:List Blk} {i:Nat},hget (l.map some) i = l[i]?
 | [],_=>rfl
 | _ :: _,0=>rfl
 | _ :: r,i + 1=>by simpa [hget] using hget_map (l:=r) (i:=i)
theorem hget_app:∀ {a b:Heap} {i:Nat},hget (a ++ b) i = if i < a.length then hget a i else hget b (i - a.length)
 | [],b,i=>by simp
 | _ :: _,b,0=>by simp [hget]
 | x :: r,b,i + 1=>by
  simp only [List.cons_append,hget,List.length_cons]
  rw [hget_app (a:=r)]
  by_cases h:i < r.length
  ·rw [if_pos h,if_pos (by omega)]
  ·rw [if_neg h,if_neg (by omega),Nat.add_sub_add_right]
theorem RelH.fill {ρ σ ρ2:Ren} {h:Heap} {w:World} (r:RelH ρ h w) {l:List Blk} (k:RelH σ (l.map some) w) (hpl:∀ b ∈ l,plainCs b.cells = true) (hl3:∀ b ∈ l,b.lo < 3) {s:Nat} (hho:∀ t,t < l.length->isHole h (s + t) = true)
  (hne:∀ t,Lv (l.map some) t->∀ i b,hget h i = some b->b.lo ≠ 2->σ t ≠ ρ i) (hag:Agree (Dm h) ρ ρ2) (hnew:∀ t,t < l.length->ρ2 (s + t) = σ t) :
  RelH ρ2 (fillH h s l) w/\(∀ i,Dm h i->Dm (fillH h s l) i)/\(∀ t,t < l.length->Dm (fillH h s l) (s + t))/\(∀ i,Dm (fillH h s l) i->¬ Dm h i->∃ t,i = s + t/\t < l.length):=by
 have hlen:∀ t,t < l.length->s + t < h.length:=fun t ht=>(isHole_lt (hho t ht)).1
 have hget1:=hget_fillH hlen
 have hnd:∀ i,Dm h i->¬ (s <= i/\i < s + l.length):=fun i ⟨b,hb⟩ hi=>by
  have:=(isHole_lt (hho (i - s) (by omega))).2
  rw [show s + (i - s) = i by omega,hb] at this
  cases this
 have hin:∀ i b,hget (fillH h s l) i = some b->(∃ t,i = s + t/\t < l.length/\hget (l.map some) t = some b)∨hget h i = some b:=fun i b hb=>by
  rw [hget1] at hb
  by_cases hi:s <= i/\i < s + l.length
  ·rw [if_pos hi] at hb
   exact .inl ⟨i - s,by omega,by omega,by rw [hget_map];exact hb⟩
  ·rw [if_neg hi] at hb
   exact .inr hb
 have hmem:∀ t b,hget (l.map some) t = some b->b ∈ l:=fun t b hb=>by
  rw [hget_map] at hb
  exact List.mem_of_getElem? hb
 have hokp:∀ {b:Blk},plainCs b.cells = true->Go.Rq.cok (fun _=>False) b.cells:=fun {b} hb=>zok_of (v:=.agg b.cells) hb
 have hplv:∀ {b:Blk},plainCs b.cells = true->∀ ρ ρ',cvals ρ b.cells = cvals ρ' b.cells:=fun {b} hb ρ ρ' =>
  cvals_agree (D:=fun _=>False) (fun _ h=>h.elim) (hokp hb)
 have hsub:∀ i,Dm h i->Dm (fillH h s l) i:=fun i hi=>by
  obtain ⟨b,hb⟩:=hi
  exact ⟨b,by rw [hget1,if_neg (hnd i ⟨b,hb⟩)];exact hb⟩
 refine ⟨⟨fun i b hb=>?_,fun i b hb h0=>?_,fun i b hb h1=>?_,fun i b hb=>?_,fun i j hi hj he=>?_,fun i b hb h3=>?_,fun i j b hi hb h3=>?_⟩,hsub,fun t ht=>?_,fun i ⟨b,hb⟩ hn=>?_⟩
 ·rcases hin i b hb with ⟨t,rfl,ht,hk⟩ | hb'
  ·exact cok_mono (fun _ h=>h.elim) (hokp (hpl b (hmem t b hk)))
  ·exact cok_mono hsub (r.cok i b hb')
 ·rcases hin i b hb with ⟨t,rfl,ht,hk⟩ | hb'
  ·have:=k.row t b hk h0
   rw [hnew t ht,hplv (hpl b (hmem t b hk)) ρ2 σ]
   exact this
  ·have:=r.row i b hb' h0
   rw [hag i ⟨b,hb'⟩,cvals_agree hag (r.cok i b hb')]
   exact this
 ·rcases hin i b hb with ⟨t,rfl,ht,hk⟩ | hb'
  ·obtain ⟨⟨cur,e1,e2,e3,e4,e5,e6⟩,⟨c,hc⟩⟩:=k.own t b hk h1
   have ht1:t + 1 < l.length:=by simpa using hget_lt hc
   have f1:=hnew t ht
   have f2:ρ2 (s + t + 1) = σ (t + 1):=hnew (t + 1) ht1
   refine ⟨⟨cur,?_,?_,?_,?_,e5,?_⟩,?_⟩
   ·rw [f1];exact e1
   ·rw [f1,f2];exact e2
   ·rw [f1,f2];exact e3
   ·rw [f1,f2];exact e4
   ·rw [hplv (hpl b (hmem t b hk)) ρ2 σ];exact e6
   ·refine ⟨c,?_⟩
    rw [hget1,if_pos (by omega),show s + t + 1 - s = t + 1 by omega,<-hget_map]
    exact hc
  ·obtain ⟨k1,k2⟩:=r.own i b hb' h1
   exact ⟨k1.agree hag ⟨b,hb'⟩ k2 (r.cok i b hb') rfl,hsub _ k2⟩
 ·rcases hin i b hb with ⟨t,rfl,ht,hk⟩ | hb'
  ·exact k.few t b hk
  ·exact r.few i b hb'
 ·obtain ⟨b,hb,hbl⟩:=hi
  obtain ⟨c,hc,hcl⟩:=hj
  rcases hin i b hb with ⟨t,rfl,ht,hk⟩ | hb' <;> rcases hin j c hc with ⟨u,rfl,hu,hk'⟩ | hc'
  ·rw [hnew t ht,hnew u hu] at he
   rw [k.inj t u ⟨b,hk,hbl⟩ ⟨c,hk',hcl⟩ he]
  ·rw [hnew t ht,hag j ⟨c,hc'⟩] at he
   exact absurd he (hne t ⟨b,hk,hbl⟩ j c hc' (by omega))
  ·rw [hnew u hu,hag i ⟨b,hb'⟩] at he
   exact absurd he.symm (hne u ⟨c,hk',hcl⟩ i b hb' (by omega))
  ·rw [hag i ⟨b,hb'⟩,hag j ⟨c,hc'⟩] at he
   exact r.inj i j ⟨b,hb',hbl⟩ ⟨c,hc',hcl⟩ he
 ·rcases hin i b hb with ⟨t,rfl,ht,hk⟩ | hb'
  ·have:=hl3 b (hmem t b hk);omega
  ·exact (r.win i b hb' h3).agree hag ⟨b,hb'⟩ (r.cok i b hb') rfl
 ·rcases hin j b hb with ⟨t,rfl,ht,hk⟩ | hb'
  ·have:=hl3 b (hmem t b hk);omega
  ·obtain ⟨c,hc,hcl⟩:=hi
   rw [hag j ⟨b,hb'⟩]
   rcases hin i c hc with ⟨u,rfl,hu,hk'⟩ | hc'
   ·rw [hnew u hu]
    exact hne u ⟨c,hk',hcl⟩ j b hb' (by omega)
   ·rw [hag i ⟨c,hc'⟩]
    exact r.sep i j b ⟨c,hc',hcl⟩ hb' h3
 ·refine ⟨l[t],?_⟩
  rw [hget1,if_pos (by omega),Nat.add_sub_cancel_left]
  exact List.getElem?_eq_getElem ht
 ·rcases hin i b hb with ⟨t,e,ht,_⟩ | hb'
  ·exact ⟨t,e,ht⟩
  ·exact absurd ⟨b,hb'⟩ hn
theorem view_core {P:Program} {T:TT} (hT:TTOk P T) {f:FuncId} {fn:Func} (hf:P.funcs[f]? = some fn) (hb:fn.body = some (bodyOf fn)) (hn:(fn.name == "runtime.NumGoroutine") = false)
  {args args':List AV} {h W:Heap} (outs:List Nat) (slot:Nat) (Bo:List Blk) (V0:AV) {ρ ρW:Ren} {w:World} (hr:RelH ρ h w) (rW:RelH ρW W w)
  (hW3:∀ i b,hget W i = some b->b.lo = 3∨b.lo = 0) (hWd:∀ i,i < W.length->Dm W i) (hin:∀ j,Dm W j->∃ i,Dm h i/\ρW j = ρ i)
  (hav:args'.map (AV.val ρW) = args.map (AV.val ρ)) (hab:∀ x ∈ args',x.ok (Dm W))
  (hBo:Bo.all (fun b=>plainCs b.cells && Nat.blt b.lo 3) = true) (hBo2:heapB (Bo.map some) 0 (Bo.map some) = true) (hV:avB (Bo.map some) V0 = true) (hol:outs.length = Bo.length)
  (hho:∀ t,t < Bo.length->isHole h (slot + t) = true)
  (hwalk:AWqS P (Dm W) (flatC (bodyOf fn)) (FEndM T fn (upto 0 W.length ++ outs) (mvAV W.length V0) (W ++ Bo.map some)) ⟨frame0 args' fn.ntmps,W⟩)
  (o:Oper) (a:Act) (next:Act->World->Prop) (Q:Exit->Act->World->Prop)
  (hnext:∀ ρ' w',StepR (Dm h) ρ w (Dm (fillH h slot Bo)) ρ' w'->RelH ρ' (fillH h slot Bo) w'->(mvAV slot V0).ok (Dm (fillH h slot Bo))->next (a.put o.dst ((mvAV slot V0).val ρ')) w') :
  o.upon P a next Q ((callFunc f (args.map (AV.val ρ)).toArray).run P w):=by
 rw [enter_run hf hb hn,Oper.upon_enter]
 refine calls_of_wp hf hb ?_
 have haok:=hab
 have hrel:Rel ρW ⟨frame0 args' fn.ntmps,W⟩ { tmps:=(args.map (AV.val ρ)).toArray ++ Array.replicate (fn.ntmps - (args.map (AV.val ρ)).toArray.size) undef,defers:=[] } w:=by
  refine ⟨?_,rfl,fun x hx=>?_,rW⟩
  ·have hl:args'.length = args.length:=by have:=congrArg List.length hav;simpa using this
   apply Array.ext'
   simp [frame0,hav,hl,undefA,AV.val,undef]
  ·unfold frame0 at hx
   rcases List.mem_append.1 hx with hx | hx
   ·exact haok x hx
   ·have:=(List.mem_replicate.1 hx).2
    subst this
    intro v hv;cases hv
 refine wp_mono (AWq.of_flat _ hwalk ρW w ρW _ w hrel (StepR.refl _ _ _)) fun e a' w' ⟨s',ρ',q,r',st⟩=>?_
 have fin:(chkB (upto 0 W.length ++ outs) (pickH (upto 0 W.length ++ outs) s'.h (upto 0 W.length ++ outs)) = true/\heapB (pickH (upto 0 W.length ++ outs) s'.h (upto 0 W.length ++ outs)) 0 (pickH (upto 0 W.length ++ outs) s'.h (upto 0 W.length ++ outs)) = true /\
   SimH (pickH (upto 0 W.length ++ outs) s'.h (upto 0 W.length ++ outs)) (W ++ Bo.map some)/\∃ v',resA T s' fn.results.toList = some v'/\avB (pickH (upto 0 W.length ++ outs) s'.h (upto 0 W.length ++ outs)) (bkAV (upto 0 W.length ++ outs) v') = true/\∀ ρ,(bkAV (upto 0 W.length ++ outs) v').val ρ = (mvAV W.length V0).val ρ) ->
   a'.defers = []/\∃ u,(results fn a'.tmps).run P w' = .ok u w'/\next (a.put o.dst u) w':=by
  intro ⟨q1,q1b,q2,v',q3,q3b,q4⟩
  have hres:=resA_run hT r' (fn:=fn) q3
  refine ⟨r'.defers,_,hres.1,?_⟩
  generalize hmc:upto 0 W.length ++ outs = mc at q1 q1b q2 q3b q4
  obtain ⟨rK0,hsubK0⟩:=r'.mem.view rfl q1 q1b
  have hmclen:mc.length = W.length + Bo.length:=by rw [<-hmc,List.length_append,length_upto,hol]
  unfold chkB at q1
  simp only [Bool.and_eq_true] at q1
  have hD1:∀ i,Dm (pickH mc s'.h mc) i->i < mc.length/\mc.length < 1000000:=fun i ⟨b,hg⟩=>⟨(hget_pickH hg).1,by rw [<-Nat.blt_eq];exact q1.2.2⟩
  have hKW:∀ i b,hget W i = some b->hget (W ++ Bo.map some) i = some b:=fun i b hb=>by rw [hget_app,if_pos (hget_lt hb)];exact hb
  have hmcW:∀ i,i < W.length->rnm mc ρ' i = ρW i:=fun i hi=>by
   simp only [rnm]
   rw [<-hmc,nthN_app (by rw [length_upto];exact hi),nthN_upto hi,Nat.zero_add]
   exact st.agree i (hWd i hi)
  have hmcO:∀ t,t < Bo.length->rnm mc ρ' (W.length + t) = ρ' (nthN outs t):=fun t ht=>by
   simp only [rnm]
   rw [<-hmc,nthN_app2 (by rw [length_upto];omega),length_upto,Nat.add_sub_cancel_left]
  have hkeep:∀ B,B < w.heap.size->w'.heap[B]? = w.heap[B]?:=fun B hB=>by
   by_cases hex:∃ j,Dm W j/\ρW j = B
   ·obtain ⟨j,⟨b,hj⟩,e⟩:=hex
    have hjl:=hget_lt hj
    obtain ⟨b0,hb0,ht,hlo,hhi,hcv⟩:=q2.at (hKW j b hj)
    have hag:cvals (rnm mc ρ') b.cells = cvals ρW b.cells:=cvals_agree (D:=Dm W) (fun t ⟨c,hc⟩=>hmcW t (hget_lt hc)) (rW.cok j b hj)
    rcases hW3 j b hj with h3 | h3
    ·obtain ⟨arr,fr,a1,a2,_⟩:=rW.win j b hj h3
     obtain ⟨arr',fr',b1,b2,_⟩:=rK0.win j b0 hb0 (by omega)
     rw [hmcW j hjl,e] at b1
     rw [e] at a1
     rw [hcv,hag,a2] at b2
     have e3:=wrapB_inj (Option.some.inj b2)
     rw [a1,b1,e3.1,e3.2,ht]
    ·have a1:=rW.row j b hj h3
     have b1:=rK0.row j b0 hb0 (by omega)
     rw [hmcW j hjl,e] at b1
     rw [e] at a1
     rw [a1,b1,hcv,hag,ht,hlo,hhi]
   ·exact st.keep B hB fun j hj e=>hex ⟨j,hj,e⟩
  have stF:StepR (fun _=>False) (fun _=>0) w (fun _=>False) (fun _=>0) w' :=
   ⟨fun _ _=>rfl,fun _ h=>h,st.size,st.os,st.tape,st.output,fun b hb _=>hkeep b hb,fun _ h=>h.elim⟩
  obtain ⟨hr1,st1⟩:=hr.keep stF
  have hBs:∀ b ∈ Bo,plainCs b.cells = true/\b.lo < 3:=fun b hb=>by
   have:=List.all_eq_true.1 hBo b hb
   simp only [Bool.and_eq_true,Nat.blt_eq] at this
   exact this
  have hKB:∀ t b,hget (Bo.map some) t = some b->hget (W ++ Bo.map some) (W.length + t) = some b:=fun t b hb=>by
   rw [hget_app,if_neg (by omega),Nat.add_sub_cancel_left];exact hb
  have hlB:∀ t b,hget (Bo.map some) t = some b->t < Bo.length/\b ∈ Bo:=fun t b hb=>by
   have h1:=hget_lt hb
   rw [hget_map] at hb
   exact ⟨by simpa using h1,List.mem_of_getElem? hb⟩
  have hokp:∀ b ∈ Bo,Go.Rq.cok (fun _=>False) b.cells:=fun b hb=>zok_of (v:=.agg b.cells) (hBs b hb).1
  have hplv:∀ b ∈ Bo,∀ ρ ρ',cvals ρ b.cells = cvals ρ' b.cells:=fun b hb ρ ρ'=>cvals_agree (D:=fun _=>False) (fun _ h=>h.elim) (hokp b hb)
  let σ:Ren:=fun t=>rnm mc ρ' (W.length + t)
  have hLK:∀ t,Lv (Bo.map some) t->Lv (pickH mc s'.h mc) (W.length + t):=fun t ⟨b,hb,hl⟩=>by
   obtain ⟨b0,e1,e2,e3,e4,e5⟩:=q2.at (hKB t b hb)
   exact ⟨b0,e1,by omega⟩
  have rB:RelH σ (Bo.map some) w':=by
   refine ⟨fun t b hb=>cok_mono (fun _ h=>h.elim) (hokp b (hlB t b hb).2),fun t b hb h0=>?_,fun t b hb h1=>?_,fun t b hb=>by have:=(hBs b (hlB t b hb).2).2;omega,fun i j hi hj he=>?_,fun t b hb h3=>?_,fun i j b hi hb h3=>?_⟩
   ·obtain ⟨b0,e1,e2,e3,e4,e5⟩:=q2.at (hKB t b hb)
    have:=rK0.row _ b0 e1 (by omega)
    rw [e2,e3,e4,e5,hplv b (hlB t b hb).2 _ σ] at this
    exact this
   ·obtain ⟨b0,e1,e2,e3,e4,e5⟩:=q2.at (hKB t b hb)
    obtain ⟨⟨cur,g1,g2,g3,g4,g5,g6⟩,g7⟩:=rK0.own _ b0 e1 (by omega)
    have hl:clen b0.cells = clen b.cells:=by rw [<-length_cvals fun _=>0,<-length_cvals fun _=>0,e5]
    have hd:=(heapB_spec hBo2 t b hb).2.2 h1
    rw [Nat.zero_add] at hd
    exact ⟨⟨cur,by rw [<-e2];exact g1,by rw [<-e4];exact g2,g3,g4,by rw [<-hl];exact g5,by rw [<-hl,g6,e5,hplv b (hlB t b hb).2 _ σ]⟩,hd⟩
   ·have:=rK0.inj _ _ (hLK i hi) (hLK j hj) he
    omega
   ·have:=(hBs b (hlB t b hb).2).2;omega
   ·have:=(hBs b (hlB j b hb).2).2;omega
  have hwinK:∀ j,Dm W j->∃ b0,hget (pickH mc s'.h mc) j = some b0/\(b0.lo = 3∨b0.lo = 0):=fun j ⟨b,hb⟩=>by
   obtain ⟨b0,e1,e2,e3,e4,e5⟩:=q2.at (hKW j b hb)
   exact ⟨b0,e1,by have:=hW3 j b hb;omega⟩
  have hnotW:∀ t,Lv (Bo.map some) t->∀ j,Dm W j->σ t ≠ ρW j:=fun t ht j hj e=>by
   obtain ⟨b0,e1,e2⟩:=hwinK j hj
   have e':rnm mc ρ' (W.length + t) = rnm mc ρ' j:=by rw [hmcW j (Dm_lt hj)];exact e
   rcases e2 with e2 | e2
   ·exact rK0.sep _ j b0 (hLK t ht) e1 e2 e'
   ·have:=rK0.inj _ _ (hLK t ht) ⟨b0,e1,by omega⟩ e'
    have:=Dm_lt hj
    omega
  have hfr:∀ t,t < Bo.length->Dm (Bo.map some) t->w.heap.size <= σ t∨∃ j,Dm W j/\σ t = ρW j:=fun t ht hd=>by
   have e:=hmcO t ht
   by_cases hdw:Dm W (nthN outs t)
   ·exact .inr ⟨_,hdw,by show rnm mc ρ' (W.length + t) = _;rw [e,st.agree _ hdw]⟩
   ·have hdd:Dm s'.h (nthN outs t):=by
     obtain ⟨b,hb⟩:=hd
     obtain ⟨b0,e1,_⟩:=q2.at (hKB t b hb)
     have:=hsubK0 _ ⟨b0,e1⟩
     rw [<-hmc,nthN_app2 (by rw [length_upto];omega),length_upto,Nat.add_sub_cancel_left] at this
     exact this
    rcases st.fresh _ hdd hdw with h3 | ⟨j,h3,h4⟩
    ·exact .inl (by show _ <= rnm mc ρ' (W.length + t);rw [e];exact h3)
    ·exact .inr ⟨j,h3,by show rnm mc ρ' (W.length + t) = _;rw [e,h4]⟩
  have hfrL:∀ t,Lv (Bo.map some) t->w.heap.size <= σ t:=fun t ht=>by
   have hl:t < Bo.length:=by have:=Dm_lt ht.dm;simpa using this
   rcases hfr t hl ht.dm with h1 | ⟨j,h1,h2⟩
   ·exact h1
   ·exact absurd h2 (hnotW t ht j h1)
  let ρ2:Ren:=fun i=>if slot <= i/\i < slot + Bo.length then σ (i - slot) else ρ i
  have hnd:∀ i,Dm h i->¬ (slot <= i/\i < slot + Bo.length):=fun i ⟨b,hb⟩ hi=>by
   have:=(isHole_lt (hho (i - slot) (by omega))).2
   rw [show slot + (i - slot) = i by omega,hb] at this
   cases this
  have hag:Agree (Dm h) ρ ρ2:=fun i hi=>if_neg (hnd i hi)
  have hnew:∀ t,t < Bo.length->ρ2 (slot + t) = σ t:=fun t ht=>by
   show (if _ then _ else _) = _
   rw [if_pos (by omega),Nat.add_sub_cancel_left]
  obtain ⟨rF,hF1,hF2,hF3⟩:=hr1.fill rB (fun b hb=>(hBs b hb).1) (fun b hb=>(hBs b hb).2) hho (fun t ht i b hi hl e=>by
   have h1:=hfrL t ht
   have h2:ρ i < w.heap.size:=by
    by_cases h3:b.lo = 3
    ·exact hr.ltW hi h3
    ·exact hr.lt ⟨b,hi,by have:=hr.few i b hi;omega⟩
   omega) hag hnew
  have hvok:V0.ok (Dm (Bo.map some)):=avB_spec hV
  have hlt:∀ t,Dm (Bo.map some) t->t < Bo.length:=fun t ht=>by have:=Dm_lt ht;simpa using this
  have hstep:StepR (Dm h) ρ w (Dm (fillH h slot Bo)) ρ2 w':=by
   refine ⟨hag,hF1,st.size,st.os,st.tape,st.output,fun b hb _=>hkeep b hb,fun i hi hni=>?_⟩
   obtain ⟨t,rfl,ht⟩:=hF3 i hi hni
   rw [hnew t ht]
   rcases hfr t ht ⟨Bo[t],by rw [hget_map];exact List.getElem?_eq_getElem ht⟩ with h1 | ⟨j,h1,h2⟩
   ·exact .inl h1
   ·obtain ⟨i,hi,e⟩:=hin j h1
    exact .inr ⟨i,hi,by rw [h2,e]⟩
  have:=hnext ρ2 w' hstep rF (mvAV_ok (D:=Dm (Bo.map some)) (fun t ht=>hF2 t (hlt t ht)) hvok)
  have e1:v'.val ρ' = (mvAV slot V0).val ρ2:=by
   rw [<-bkAV_val (ρ:=ρ') hD1 (avB_spec q3b),q4,mvAV_val,mvAV_val]
   exact (AV.val_agree (D:=Dm (Bo.map some)) (ρ:=fun i=>rnm mc ρ' (W.length + i)) (ρ':=fun i=>ρ2 (slot + i)) (fun t ht=>hnew t (hlt t ht)) hvok).symm
  rw [e1]
  exact this
 cases e with
 | normal=>exact fin q
 | ret=>exact fin q
 | exit j=>exact q.elim
 | goto l=>exact q.elim
 | panic ch=>exact q.elim
 | outgrown=>exact q.elim
end Go.Rq
namespace Go.Rq
open Go
def eqHs (h:Heap) (P:Prop):Nat->Heap->Prop
 | _,[]=>P
 | i,x :: r=>hget h i = x/\eqHs h P (i + 1) r
def FEndV (T:TT) (fn:Func) (v:AV) (W:Heap):Exit->AS->Prop
 | .normal,s | .ret,s=>eqHs s.h (∃ v',resA T s fn.results.toList = some v'/\vokB v' = true/\∀ ρ,v'.val ρ = v.val ρ) 0 W
 | _,_=>False
def plainH:Heap->Bool
 | []=>true
 | none :: r=>plainH r
 | some b :: r=>plainCs b.cells && plainH r
theorem eqHs_spec {h:Heap} {P:Prop}:∀ {W:Heap} {k:Nat},eqHs h P k W->P/\∀ i,i < W.length->hget h (k + i) = hget W i
 | [],_,e=>⟨e,fun i hi=>absurd hi (Nat.not_lt_zero _)⟩
 | x :: r,k,e=>by
  obtain ⟨h1,h2⟩:=eqHs_spec (W:=r) (k:=k + 1) e.2
  refine ⟨h1,fun i hi=>?_⟩
  cases i with
  | zero=>exact e.1
  | succ i =>
   have:=h2 i (by simpa using hi)
   rw [show k + (i + 1) = k + 1 + i by omega,this];rfl
theorem pick_same {m:List Nat} {h:Heap}:∀ {W:Heap} {k:Nat},plainH W = true->(∀ i,i < W.length->hget h (k + i) = hget W i)->pickH m h (upto k W.length) = W
 | [],_,_,_=>rfl
 | x :: r,k,hp,e=>by
  have h0:=e 0 (by simp)
  simp only [List.length_cons,upto,pickH]
  have hr:plainH r = true:=by
   cases x with
   | none=>exact hp
   | some b=>unfold plainH at hp;simp only [Bool.and_eq_true] at hp;exact hp.2
  rw [pick_same (W:=r) (k:=k + 1) hr fun i hi=>by
   have:=e (i + 1) (by simpa using hi)
   rw [show k + 1 + i = k + (i + 1) by omega,this];rfl]
  congr 1
  rw [Nat.add_zero] at h0
  rw [h0]
  cases x with
  | none=>rfl
  | some b =>
   unfold plainH at hp
   simp only [Bool.and_eq_true] at hp
   show some (bkBlk m b) = some b
   unfold bkBlk
   rw [bkCells_plain hp.1]
theorem mvSc_plain {k:Nat} {s:Sc} (h:zokS s = true):mvSc k s = s:=by
 cases s with
 | fn f caps =>
  cases caps with
  | nil=>rfl
  | cons c r=>cases h
 | pt _ _=>cases h
 | sl _ _ _ _=>cases h
 | so _ _=>cases h
 | sv _ _ _=>cases h
 | _=>rfl
theorem mvCells_plain {k:Nat}:∀ {cs:List Cell},plainCs cs = true->mvCells k cs = cs
 | [],_=>rfl
 | c :: r,h=>by
  unfold plainCs zokB at h
  simp only [List.all_cons,Bool.and_eq_true] at h
  have hr:mvCells k r = r:=mvCells_plain (cs:=r) h.2
  simp only [mvCells,hr]
  congr 1
  cases c with
  | ws _ n f=>rfl
  | one s=>exact congrArg Cell.one (mvSc_plain h.1)
theorem mvV1_plain {k:Nat} {v:V1} (h:zokB v = true):mvV1 k v = v:=by
 cases v with
 | sc s=>exact congrArg V1.sc (mvSc_plain h)
 | agg cs=>exact congrArg V1.agg (mvCells_plain h)
theorem mvAV_plain {k:Nat} {v:AV} (h:vokB v = true):mvAV k v = v:=by
 cases v with
 | v1 v=>exact congrArg AV.v1 (mvV1_plain h)
 | tup l =>
  unfold vokB at h
  have key:∀ l:List V1,l.all zokB = true->mvV1s k l = l:=by
   intro l
   induction l with
   | nil=>intro _;rfl
   | cons v r ih =>
    intro h
    simp only [List.all_cons,Bool.and_eq_true] at h
    simp only [mvV1s,mvV1_plain h.1,ih h.2]
  exact congrArg AV.tup (key l h)
 | raw v=>rfl
theorem simH_refl:∀ W:Heap,SimH W W
 | []=>trivial
 | none :: r=>⟨trivial,simH_refl r⟩
 | some _ :: r=>⟨⟨rfl,rfl,rfl,fun _=>rfl⟩,simH_refl r⟩
theorem rd_view {P:Program} {T:TT} (hT:TTOk P T) {f:FuncId} {fn:Func} (hf:P.funcs[f]? = some fn) (hb:fn.body = some (bodyOf fn)) (hn:(fn.name == "runtime.NumGoroutine") = false)
  {args:List AV} {h:Heap} {v:AV} (hv:vokB v = true)
  (hex:∀ ρ w,RelH ρ h w->∃ (ρW:Ren) (W:Heap) (args':List AV),RelH ρW W w/\(∀ i b,hget W i = some b->b.lo = 3∨b.lo = 0)/\(∀ i,i < W.length->Dm W i)/\(∀ j,Dm W j->∃ i,Dm h i/\ρW j = ρ i) /\
   args'.map (AV.val ρW) = args.map (AV.val ρ)/\args'.all (avB W) = true/\plainH W = true/\chkB (upto 0 W.length) W = true/\heapB W 0 W = true /\
   AWqS P (Dm W) (flatC (bodyOf fn)) (FEndV T fn v W) ⟨frame0 args' fn.ntmps,W⟩):CallOk P f args h v h:=by
 intro ρ w hr _ o a next Q hnext
 obtain ⟨ρW,W,args',rW,hW3,hWd,hin,hav,hab,hpl,hck,hhb,hwalk⟩:=hex ρ w hr
 have hmv:∀ k,mvAV k v = v:=fun k=>mvAV_plain hv
 have hW:upto 0 W.length ++ ([]:List Nat) = upto 0 W.length:=List.append_nil _
 refine view_core hT hf hb hn (args':=args') (W:=W) [] 0 [] v hr rW hW3 hWd hin hav (fun x hx=>avB_spec (List.all_eq_true.1 hab x hx)) rfl rfl (avB_plain hv) rfl (fun t ht=>absurd ht (Nat.not_lt_zero _)) ?_ o a next Q ?_
 ·rw [hW,hmv,List.map_nil,List.append_nil]
  refine hwalk.mono fun e s q=>?_
  have key:eqHs s.h (∃ v',resA T s fn.results.toList = some v'/\vokB v' = true/\∀ ρ,v'.val ρ = v.val ρ) 0 W->chkB (upto 0 W.length) (pickH (upto 0 W.length) s.h (upto 0 W.length)) = true/\heapB (pickH (upto 0 W.length) s.h (upto 0 W.length)) 0 (pickH (upto 0 W.length) s.h (upto 0 W.length)) = true/\SimH (pickH (upto 0 W.length) s.h (upto 0 W.length)) W /\
    ∃ v',resA T s fn.results.toList = some v'/\avB (pickH (upto 0 W.length) s.h (upto 0 W.length)) (bkAV (upto 0 W.length) v') = true/\∀ ρ,(bkAV (upto 0 W.length) v').val ρ = v.val ρ:=by
   intro q
   obtain ⟨⟨v',q2,q3,q4⟩,q5⟩:=eqHs_spec q
   have e:pickH (upto 0 W.length) s.h (upto 0 W.length) = W:=pick_same hpl q5
   rw [e]
   exact ⟨hck,hhb,simH_refl W,v',q2,by rw [bkAV_plain q3];exact avB_plain q3,fun ρ=>by rw [bkAV_plain q3];exact q4 ρ⟩
  cases e with
  | normal=>exact key q
  | ret=>exact key q
  | exit j=>exact q.elim
  | goto l=>exact q.elim
  | panic ch=>exact q.elim
  | outgrown=>exact q.elim
 ·intro ρ' w' h1 h2 h3
  rw [hmv] at h3 ⊢
  exact hnext ρ' w' h1 h2 h3
def SeeB (ρ:Ren) (h:Heap) (w:World) (i:Nat) (x:Option Blk):Prop :=
 ∃ b,x = some b/\plainCs b.cells = true/\((b.lo = 0/\hget h i = some b)∨(b.lo = 3/\(Lv h i∨∃ c,hget h i = some c/\c.lo = 3)/\WinAt ρ i b w))
theorem plain_cvals {cs:List Cell} (hp:plainCs cs = true) (ρ ρ':Ren):cvals ρ cs = cvals ρ' cs :=
 cvals_agree (D:=fun _=>False) (fun _ h=>h.elim) (zok_of (v:=.agg cs) hp)
theorem see_rel {ρ:Ren} {h:Heap} {w:World} (hr:RelH ρ h w) {ms:List Nat} {W:Heap} (hl:W.length = ms.length) (hnd:nodupB ms = true) (hs:∀ j,j < W.length->SeeB ρ h w (nthN ms j) (hget W j)) :
  RelH (rnm ms ρ) W w/\(∀ i b,hget W i = some b->b.lo = 3∨b.lo = 0)/\(∀ i,i < W.length->Dm W i)/\(∀ j,Dm W j->∃ i,Dm h i/\rnm ms ρ j = ρ i):=by
 have get:∀ j b,hget W j = some b->j < ms.length/\plainCs b.cells = true/\((b.lo = 0/\hget h (nthN ms j) = some b)∨(b.lo = 3/\(Lv h (nthN ms j)∨∃ c,hget h (nthN ms j) = some c/\c.lo = 3)/\WinAt ρ (nthN ms j) b w)):=fun j b hb=>by
  have hj:=hget_lt hb
  obtain ⟨c,e,h1,h2⟩:=hs j hj
  rw [hb] at e
  cases e
  exact ⟨by omega,h1,h2⟩
 have live:∀ i,Lv W i->i < ms.length/\Lv h (nthN ms i):=fun i ⟨b,hb,hbl⟩=>by
  obtain ⟨h1,h2,h3⟩:=get i b hb
  refine ⟨h1,?_⟩
  rcases h3 with ⟨h3,h4⟩ | ⟨h3,_⟩
  ·exact ⟨b,h4,hbl⟩
  ·omega
 refine ⟨⟨fun j b hb=>?_,fun j b hb h0=>?_,fun j b hb h1=>?_,fun j b hb=>?_,fun i j hi hj he=>?_,fun j b hb h3=>?_,fun i j b hi hb h3 he=>?_⟩,fun j b hb=>?_,fun i hi=>?_,fun j ⟨b,hb⟩=>?_⟩
 ·exact cok_mono (fun _ h=>h.elim) (zok_of (v:=.agg b.cells) (get j b hb).2.1)
 ·obtain ⟨_,h1,h2⟩:=get j b hb
  rcases h2 with ⟨_,h3⟩ | ⟨h3,_⟩
  ·rw [plain_cvals h1 (rnm ms ρ) ρ];exact hr.row _ b h3 h0
  ·omega
 ·obtain ⟨_,_,h2⟩:=get j b hb
  omega
 ·obtain ⟨_,_,h2⟩:=get j b hb
  omega
 ·obtain ⟨h1,h2⟩:=live i hi
  obtain ⟨h3,h4⟩:=live j hj
  exact nodupB_spec hnd i j h1 h3 (hr.inj _ _ h2 h4 he)
 ·obtain ⟨_,h1,h2⟩:=get j b hb
  rcases h2 with ⟨h2,_⟩ | ⟨_,_,arr,fr,a1,a2,a3⟩
  ·omega
  ·refine ⟨arr,fr,a1,?_,?_⟩
   ·rw [plain_cvals h1 (rnm ms ρ) ρ];exact a2
   ·rw [plain_cvals h1 (rnm ms ρ) ρ];exact a3
 ·obtain ⟨h1,h2⟩:=live i hi
  obtain ⟨k1,k2,k3⟩:=get j b hb
  rcases k3 with ⟨k3,_⟩ | ⟨_,hl | ⟨c,hc,h4⟩,_⟩
  ·omega
  ·have:=nodupB_spec hnd i j h1 k1 (hr.inj _ _ h2 hl he)
   subst this
   obtain ⟨b',hb',hl'⟩:=hi
   rw [hb] at hb';cases hb';omega
  ·exact hr.sep _ _ c h2 hc h4 he
 ·obtain ⟨_,_,h2⟩:=get j b hb
  omega
 ·obtain ⟨b,e,_⟩:=hs i hi
  exact ⟨b,e⟩
 ·obtain ⟨_,_,h2⟩:=get j b hb
  refine ⟨nthN ms j,?_,rfl⟩
  rcases h2 with ⟨_,h3⟩ | ⟨_,⟨c,h3,_⟩ | ⟨c,h3,_⟩,_⟩
  ·exact ⟨b,h3⟩
  ·exact ⟨c,h3⟩
  ·exact ⟨c,h3⟩
end Go.Rq
namespace Go.Proofs.Ytnjocbcjejpklaa
open Go.Rq Go
set_option maxRecDepth 100000
set_option maxHeartbeats 4000000
set_option maxRecDepth 100000
def endR2 (a b:AV):Prop:=∃ v',some a = some v'/\vokB v' = true/\∀ ρ,v'.val ρ = b.val ρ
theorem keepS {h:Heap} {s i:Nat} {b:Blk} (hs:isHole h s = true) (hi:Dm h i):hget (hset h s b) i = hget h i :=
 hget_hset_ne fun e=>by
  obtain ⟨c,hc⟩:=hi
  rw [e,(isHole_lt hs).2] at hc;cases hc
end Go.Proofs.Ytnjocbcjejpklaa
namespace Go.Proofs.Ytnjocbcjejpklaa
open Go.Rq Go
set_option maxRecDepth 100000
set_option maxHeartbeats 4000000
set_option maxRecDepth 100000
theorem endR2_z:endR2 (.tup [v12 fz fz fz fz fz fz fz fz fz fz fz fz,.sc (.it 5)]) (.tup [n12 0,.sc (.it 5)]):=by
 refine ⟨_,rfl,rfl,fun ρ=>?_⟩
 have h3:(v12 fz fz fz fz fz fz fz fz fz fz fz fz).val ρ = (n12 0).val ρ:=v12_val zero_vF zero_vF zero_vF zero_vF zero_vF zero_vF zero_vF zero_vF zero_vF zero_vF zero_vF zero_vF ρ
 simp only [AV.val,List.map_cons,List.map_nil,h3]
def GPr:Ctx:=ctxL [(16,.pure cIn1),(17,.pure cIn2),(18,.pure (c12 one12)),(14,.pure (k122 S12.mul)),(19,.pure cWalk),(13,.pure (k121 lastS)),(12,.pure cFrom12)]
theorem GPr_ok:CtxOk Try.prog GPr:=ctxL_cons okIn1 <| ctxL_cons okIn2 <| ctxL_cons okOne12 <| ctxL_cons okMul12 <| ctxL_cons okWalk <| ctxL_cons okLast <| ctxL_cons okFrom12 ctxL_nil
theorem pr_no1 {b c:Nat} (hbc:Nat.beq b c = false) {px py x0 x1 y0 y3:Nat->Nat} {z z2:Bool} {y1 y2:TypeId} {h:Heap} (g1:hget h b = some ⟨y1,[q6 px,q6 py,.one (.bo z)],0,0⟩) (g2:hget h c = some ⟨y2,[q6 x0,q6 x1,q6 y0,q6 y3,.one (.bo z2)],0,0⟩) (h1:(lo1 px py && isE px py z) = false) :
  CallOk Try.prog 9 ([] ++ [.v1 (.sc (.sl b 0 1 1)),.v1 (.sc (.sl c 0 1 1))]) h (.tup [n12 0,.sc (.it 5)]) h:=by
 refine rd_sl2 tt_ok Try.func9 (by kernel_rfl) (by kernel_rfl) hbc (x:=⟨y1,[q6 px,q6 py,.one (.bo z)],0,0⟩) (y:=⟨y2,[q6 x0,q6 x1,q6 y0,q6 y3,.one (.bo z2)],0,0⟩) rfl rfl rfl rfl rfl rfl g1 g2 ?_
 refine evS_q mixed tt_ok GPr_ok 200 [⟨6,5,.lit (.bo true)⟩] ?_
 refine same (p:=(!(lo1 px py && isE px py z)) = true/\(some ⟨y1,[q6 px,q6 py,.one (.bo z)],0,0⟩:Option Blk) = some ⟨y1,[q6 px,q6 py,.one (.bo z)],0,0⟩/\(some ⟨y2,[q6 x0,q6 x1,q6 y0,q6 y3,.one (.bo z2)],0,0⟩:Option Blk) = some ⟨y2,[q6 x0,q6 x1,q6 y0,q6 y3,.one (.bo z2)],0,0⟩/\endR2 (.tup [v12 fz fz fz fz fz fz fz fz fz fz fz fz,.sc (.it 5)]) (.tup [n12 0,.sc (.it 5)])) ?_ (by kernel_rfl)
 exact ⟨by rw [h1];rfl,rfl,rfl,endR2_z⟩
theorem pr_no2 {b c:Nat} (hbc:Nat.beq b c = false) {px py x0 x1 y0 y3:Nat->Nat} {z z2:Bool} {y1 y2:TypeId} {h:Heap} (g1:hget h b = some ⟨y1,[q6 px,q6 py,.one (.bo z)],0,0⟩) (g2:hget h c = some ⟨y2,[q6 x0,q6 x1,q6 y0,q6 y3,.one (.bo z2)],0,0⟩) (h1:(lo1 px py && isE px py z) = true) (h2:(lo2 x0 x1 y0 y3 && isQ x0 x1 y0 y3 z2) = false) :
  CallOk Try.prog 9 ([] ++ [.v1 (.sc (.sl b 0 1 1)),.v1 (.sc (.sl c 0 1 1))]) h (.tup [n12 0,.sc (.it 5)]) h:=by
 refine rd_sl2 tt_ok Try.func9 (by kernel_rfl) (by kernel_rfl) hbc (x:=⟨y1,[q6 px,q6 py,.one (.bo z)],0,0⟩) (y:=⟨y2,[q6 x0,q6 x1,q6 y0,q6 y3,.one (.bo z2)],0,0⟩) rfl rfl rfl rfl rfl rfl g1 g2 ?_
 refine evS_q mixed tt_ok GPr_ok 200 [⟨6,5,.lit (.bo false)⟩,⟨6,12,.lit (.bo true)⟩] ?_
 refine same (p:=(!(lo1 px py && isE px py z)) = false/\(!(lo2 x0 x1 y0 y3 && isQ x0 x1 y0 y3 z2)) = true/\(some ⟨y1,[q6 px,q6 py,.one (.bo z)],0,0⟩:Option Blk) = some ⟨y1,[q6 px,q6 py,.one (.bo z)],0,0⟩/\(some ⟨y2,[q6 x0,q6 x1,q6 y0,q6 y3,.one (.bo z2)],0,0⟩:Option Blk) = some ⟨y2,[q6 x0,q6 x1,q6 y0,q6 y3,.one (.bo z2)],0,0⟩/\endR2 (.tup [v12 fz fz fz fz fz fz fz fz fz fz fz fz,.sc (.it 5)]) (.tup [n12 0,.sc (.it 5)])) ?_ (by kernel_rfl)
 exact ⟨by rw [h1];rfl,by rw [h2];rfl,rfl,rfl,endR2_z⟩
theorem d12_one:(d12 oneF fz fz fz fz fz fz fz fz fz fz fz) = 1:=S12.one_d
theorem endPR {s t:S12} {j:Int} (h:t = s):endR2 (.tup [v12 (vF (dF (eF t.p.u.x))) (vF (dF (eF t.p.u.y))) (vF (dF (eF t.q.u.x))) (vF (dF (eF t.q.u.y))) (vF (dF (eF t.p.v.x))) (vF (dF (eF t.p.v.y))) (vF (dF (eF t.q.v.x))) (vF (dF (eF t.q.v.y))) (vF (dF (eF t.p.w.x))) (vF (dF (eF t.p.w.y))) (vF (dF (eF t.q.w.x))) (vF (dF (eF t.q.w.y))),.sc (.it j)]) (.tup [n12 s,.sc (.it j)]):=by
 subst h
 refine ⟨_,rfl,rfl,fun ρ=>?_⟩
 have:=v12_val (nvV (dF_eF t.p.u.x)) (nvV (dF_eF t.p.u.y)) (nvV (dF_eF t.q.u.x)) (nvV (dF_eF t.q.u.y)) (nvV (dF_eF t.p.v.x)) (nvV (dF_eF t.p.v.y)) (nvV (dF_eF t.q.v.x)) (nvV (dF_eF t.q.v.y)) (nvV (dF_eF t.p.w.x)) (nvV (dF_eF t.p.w.y)) (nvV (dF_eF t.q.w.x)) (nvV (dF_eF t.q.w.y)) ρ
 simp only [AV.val,List.map_cons,List.map_nil,this]
abbrev vwB (w:S12):S12:=(d12e (w))
abbrev vwM (w:S12):S12:=S12.mul (d12 oneF fz fz fz fz fz fz fz fz fz fz fz) (vwB w)
abbrev vwC (w:S12):S12:=(d12e (vwM w))
theorem one_w (w:S12):lastS (vwC w) = lastS w:=by
 have h:vwM w = w:=by
  show S12.mul (d12 oneF fz fz fz fz fz fz fz fz fz fz fz) (vwB w) = w
  rw [show vwB w = w from d12_eF w,d12_one]
  exact Rg.one_mul w
 rw [show vwC w = vwM w from d12_eF (vwM w),h]
theorem pr_z1 {b c:Nat} (hbc:Nat.beq b c = false) {px py x0 x1 y0 y3:Nat->Nat} {z z2:Bool} {y1 y2:TypeId} {h:Heap} (g1:hget h b = some ⟨y1,[q6 px,q6 py,.one (.bo true)],0,0⟩) (g2:hget h c = some ⟨y2,[q6 x0,q6 x1,q6 y0,q6 y3,.one (.bo z2)],0,0⟩) (h1:(lo1 px py && isE px py true) = true) (h2:(lo2 x0 x1 y0 y3 && isQ x0 x1 y0 y3 z2) = true) :
  CallOk Try.prog 9 ([] ++ [.v1 (.sc (.sl b 0 1 1)),.v1 (.sc (.sl c 0 1 1))]) h (.tup [n12 (lastS 1),.sc (.it 0)]) h:=by
 refine rd_sl2 tt_ok Try.func9 (by kernel_rfl) (by kernel_rfl) hbc (x:=⟨y1,[q6 px,q6 py,.one (.bo true)],0,0⟩) (y:=⟨y2,[q6 x0,q6 x1,q6 y0,q6 y3,.one (.bo z2)],0,0⟩) rfl rfl rfl rfl rfl rfl g1 g2 ?_
 refine evS_q mixed tt_ok GPr_ok 200 [⟨6,5,.lit (.bo false)⟩,⟨6,12,.lit (.bo false)⟩] ?_
 refine same (p:=(!(lo1 px py && isE px py true)) = false/\(!(lo2 x0 x1 y0 y3 && isQ x0 x1 y0 y3 z2)) = false/\lp oneF/\lp fz/\lp fz/\lp fz/\lp fz/\lp fz/\lp fz/\lp fz/\lp fz/\lp fz/\lp fz/\lp fz/\eL12 (lastS (d12 oneF fz fz fz fz fz fz fz fz fz fz fz)) ((some ⟨y1,[q6 px,q6 py,.one (.bo true)],0,0⟩:Option Blk) = some ⟨y1,[q6 px,q6 py,.one (.bo true)],0,0⟩/\(some ⟨y2,[q6 x0,q6 x1,q6 y0,q6 y3,.one (.bo z2)],0,0⟩:Option Blk) = some ⟨y2,[q6 x0,q6 x1,q6 y0,q6 y3,.one (.bo z2)],0,0⟩/\endR2 (.tup [v12 (vF (dF (eF (lastS (d12 oneF fz fz fz fz fz fz fz fz fz fz fz)).p.u.x))) (vF (dF (eF (lastS (d12 oneF fz fz fz fz fz fz fz fz fz fz fz)).p.u.y))) (vF (dF (eF (lastS (d12 oneF fz fz fz fz fz fz fz fz fz fz fz)).q.u.x))) (vF (dF (eF (lastS (d12 oneF fz fz fz fz fz fz fz fz fz fz fz)).q.u.y))) (vF (dF (eF (lastS (d12 oneF fz fz fz fz fz fz fz fz fz fz fz)).p.v.x))) (vF (dF (eF (lastS (d12 oneF fz fz fz fz fz fz fz fz fz fz fz)).p.v.y))) (vF (dF (eF (lastS (d12 oneF fz fz fz fz fz fz fz fz fz fz fz)).q.v.x))) (vF (dF (eF (lastS (d12 oneF fz fz fz fz fz fz fz fz fz fz fz)).q.v.y))) (vF (dF (eF (lastS (d12 oneF fz fz fz fz fz fz fz fz fz fz fz)).p.w.x))) (vF (dF (eF (lastS (d12 oneF fz fz fz fz fz fz fz fz fz fz fz)).p.w.y))) (vF (dF (eF (lastS (d12 oneF fz fz fz fz fz fz fz fz fz fz fz)).q.w.x))) (vF (dF (eF (lastS (d12 oneF fz fz fz fz fz fz fz fz fz fz fz)).q.w.y))),.sc (.it 0)]) (.tup [n12 (lastS 1),.sc (.it 0)]))) ?_ (by kernel_rfl)
 exact ⟨by rw [h1];rfl,by rw [h2];rfl,lt_one,lt_zero,lt_zero,lt_zero,lt_zero,lt_zero,lt_zero,lt_zero,lt_zero,lt_zero,lt_zero,lt_zero,lt_eF _,lt_eF _,lt_eF _,lt_eF _,lt_eF _,lt_eF _,lt_eF _,lt_eF _,lt_eF _,lt_eF _,lt_eF _,lt_eF _,rfl,rfl,endPR (by rw [d12_one])⟩
theorem pr_z2 {b c:Nat} (hbc:Nat.beq b c = false) {px py x0 x1 y0 y3:Nat->Nat} {z z2:Bool} {y1 y2:TypeId} {h:Heap} (g1:hget h b = some ⟨y1,[q6 px,q6 py,.one (.bo false)],0,0⟩) (g2:hget h c = some ⟨y2,[q6 x0,q6 x1,q6 y0,q6 y3,.one (.bo true)],0,0⟩) (h1:(lo1 px py && isE px py false) = true) (h2:(lo2 x0 x1 y0 y3 && isQ x0 x1 y0 y3 true) = true) :
  CallOk Try.prog 9 ([] ++ [.v1 (.sc (.sl b 0 1 1)),.v1 (.sc (.sl c 0 1 1))]) h (.tup [n12 (lastS 1),.sc (.it 0)]) h:=by
 refine rd_sl2 tt_ok Try.func9 (by kernel_rfl) (by kernel_rfl) hbc (x:=⟨y1,[q6 px,q6 py,.one (.bo false)],0,0⟩) (y:=⟨y2,[q6 x0,q6 x1,q6 y0,q6 y3,.one (.bo true)],0,0⟩) rfl rfl rfl rfl rfl rfl g1 g2 ?_
 refine evS_q mixed tt_ok GPr_ok 200 [⟨6,5,.lit (.bo false)⟩,⟨6,12,.lit (.bo false)⟩] ?_
 refine same (p:=(!(lo1 px py && isE px py false)) = false/\(!(lo2 x0 x1 y0 y3 && isQ x0 x1 y0 y3 true)) = false/\lp oneF/\lp fz/\lp fz/\lp fz/\lp fz/\lp fz/\lp fz/\lp fz/\lp fz/\lp fz/\lp fz/\lp fz/\eL12 (lastS (d12 oneF fz fz fz fz fz fz fz fz fz fz fz)) ((some ⟨y1,[q6 px,q6 py,.one (.bo false)],0,0⟩:Option Blk) = some ⟨y1,[q6 px,q6 py,.one (.bo false)],0,0⟩/\(some ⟨y2,[q6 x0,q6 x1,q6 y0,q6 y3,.one (.bo true)],0,0⟩:Option Blk) = some ⟨y2,[q6 x0,q6 x1,q6 y0,q6 y3,.one (.bo true)],0,0⟩/\endR2 (.tup [v12 (vF (dF (eF (lastS (d12 oneF fz fz fz fz fz fz fz fz fz fz fz)).p.u.x))) (vF (dF (eF (lastS (d12 oneF fz fz fz fz fz fz fz fz fz fz fz)).p.u.y))) (vF (dF (eF (lastS (d12 oneF fz fz fz fz fz fz fz fz fz fz fz)).q.u.x))) (vF (dF (eF (lastS (d12 oneF fz fz fz fz fz fz fz fz fz fz fz)).q.u.y))) (vF (dF (eF (lastS (d12 oneF fz fz fz fz fz fz fz fz fz fz fz)).p.v.x))) (vF (dF (eF (lastS (d12 oneF fz fz fz fz fz fz fz fz fz fz fz)).p.v.y))) (vF (dF (eF (lastS (d12 oneF fz fz fz fz fz fz fz fz fz fz fz)).q.v.x))) (vF (dF (eF (lastS (d12 oneF fz fz fz fz fz fz fz fz fz fz fz)).q.v.y))) (vF (dF (eF (lastS (d12 oneF fz fz fz fz fz fz fz fz fz fz fz)).p.w.x))) (vF (dF (eF (lastS (d12 oneF fz fz fz fz fz fz fz fz fz fz fz)).p.w.y))) (vF (dF (eF (lastS (d12 oneF fz fz fz fz fz fz fz fz fz fz fz)).q.w.x))) (vF (dF (eF (lastS (d12 oneF fz fz fz fz fz fz fz fz fz fz fz)).q.w.y))),.sc (.it 0)]) (.tup [n12 (lastS 1),.sc (.it 0)]))) ?_ (by kernel_rfl)
 exact ⟨by rw [h1];rfl,by rw [h2];rfl,lt_one,lt_zero,lt_zero,lt_zero,lt_zero,lt_zero,lt_zero,lt_zero,lt_zero,lt_zero,lt_zero,lt_zero,lt_eF _,lt_eF _,lt_eF _,lt_eF _,lt_eF _,lt_eF _,lt_eF _,lt_eF _,lt_eF _,lt_eF _,lt_eF _,lt_eF _,rfl,rfl,endPR (by rw [d12_one])⟩
theorem pr_in {b c:Nat} (hbc:Nat.beq b c = false) {px py x0 x1 y0 y3:Nat->Nat} {z z2:Bool} {y1 y2:TypeId} {h:Heap} (g1:hget h b = some ⟨y1,[q6 px,q6 py,.one (.bo false)],0,0⟩) (g2:hget h c = some ⟨y2,[q6 x0,q6 x1,q6 y0,q6 y3,.one (.bo false)],0,0⟩) (h1:(lo1 px py && isE px py false) = true) (h2:(lo2 x0 x1 y0 y3 && isQ x0 x1 y0 y3 false) = true) :
  CallOk Try.prog 9 ([] ++ [.v1 (.sc (.sl b 0 1 1)),.v1 (.sc (.sl c 0 1 1))]) h (.tup [n12 (lastS (walkS (gN px) (gN py) ⟨gN x0,gN x1⟩ ⟨gN y0,gN y3⟩)),.sc (.it 0)]) h:=by
 refine rd_sl2 tt_ok Try.func9 (by kernel_rfl) (by kernel_rfl) hbc (x:=⟨y1,[q6 px,q6 py,.one (.bo false)],0,0⟩) (y:=⟨y2,[q6 x0,q6 x1,q6 y0,q6 y3,.one (.bo false)],0,0⟩) rfl rfl rfl rfl rfl rfl g1 g2 ?_
 refine evS_q mixed tt_ok GPr_ok 200 [⟨6,5,.lit (.bo false)⟩,⟨6,12,.lit (.bo false)⟩] ?_
 refine same (p:=(!(lo1 px py && isE px py false)) = false/\(!(lo2 x0 x1 y0 y3 && isQ x0 x1 y0 y3 false)) = false/\lp oneF/\lp fz/\lp fz/\lp fz/\lp fz/\lp fz/\lp fz/\lp fz/\lp fz/\lp fz/\lp fz/\lp fz/\eL12 (walkS (gN px) (gN py) ⟨gN x0,gN x1⟩ ⟨gN y0,gN y3⟩) (eL12 (vwM (walkS (gN px) (gN py) ⟨gN x0,gN x1⟩ ⟨gN y0,gN y3⟩)) (eL12 (lastS (vwC (walkS (gN px) (gN py) ⟨gN x0,gN x1⟩ ⟨gN y0,gN y3⟩))) ((some ⟨y1,[q6 px,q6 py,.one (.bo false)],0,0⟩:Option Blk) = some ⟨y1,[q6 px,q6 py,.one (.bo false)],0,0⟩/\(some ⟨y2,[q6 x0,q6 x1,q6 y0,q6 y3,.one (.bo false)],0,0⟩:Option Blk) = some ⟨y2,[q6 x0,q6 x1,q6 y0,q6 y3,.one (.bo false)],0,0⟩/\endR2 (.tup [v12 (vF (dF (eF (lastS (vwC (walkS (gN px) (gN py) ⟨gN x0,gN x1⟩ ⟨gN y0,gN y3⟩))).p.u.x))) (vF (dF (eF (lastS (vwC (walkS (gN px) (gN py) ⟨gN x0,gN x1⟩ ⟨gN y0,gN y3⟩))).p.u.y))) (vF (dF (eF (lastS (vwC (walkS (gN px) (gN py) ⟨gN x0,gN x1⟩ ⟨gN y0,gN y3⟩))).q.u.x))) (vF (dF (eF (lastS (vwC (walkS (gN px) (gN py) ⟨gN x0,gN x1⟩ ⟨gN y0,gN y3⟩))).q.u.y))) (vF (dF (eF (lastS (vwC (walkS (gN px) (gN py) ⟨gN x0,gN x1⟩ ⟨gN y0,gN y3⟩))).p.v.x))) (vF (dF (eF (lastS (vwC (walkS (gN px) (gN py) ⟨gN x0,gN x1⟩ ⟨gN y0,gN y3⟩))).p.v.y))) (vF (dF (eF (lastS (vwC (walkS (gN px) (gN py) ⟨gN x0,gN x1⟩ ⟨gN y0,gN y3⟩))).q.v.x))) (vF (dF (eF (lastS (vwC (walkS (gN px) (gN py) ⟨gN x0,gN x1⟩ ⟨gN y0,gN y3⟩))).q.v.y))) (vF (dF (eF (lastS (vwC (walkS (gN px) (gN py) ⟨gN x0,gN x1⟩ ⟨gN y0,gN y3⟩))).p.w.x))) (vF (dF (eF (lastS (vwC (walkS (gN px) (gN py) ⟨gN x0,gN x1⟩ ⟨gN y0,gN y3⟩))).p.w.y))) (vF (dF (eF (lastS (vwC (walkS (gN px) (gN py) ⟨gN x0,gN x1⟩ ⟨gN y0,gN y3⟩))).q.w.x))) (vF (dF (eF (lastS (vwC (walkS (gN px) (gN py) ⟨gN x0,gN x1⟩ ⟨gN y0,gN y3⟩))).q.w.y))),.sc (.it 0)]) (.tup [n12 (lastS (walkS (gN px) (gN py) ⟨gN x0,gN x1⟩ ⟨gN y0,gN y3⟩)),.sc (.it 0)]))))) ?_ (by kernel_rfl)
 exact ⟨by rw [h1];rfl,by rw [h2];rfl,lt_one,lt_zero,lt_zero,lt_zero,lt_zero,lt_zero,lt_zero,lt_zero,lt_zero,lt_zero,lt_zero,lt_zero,lt_eF _,lt_eF _,lt_eF _,lt_eF _,lt_eF _,lt_eF _,lt_eF _,lt_eF _,lt_eF _,lt_eF _,lt_eF _,lt_eF _,lt_eF _,lt_eF _,lt_eF _,lt_eF _,lt_eF _,lt_eF _,lt_eF _,lt_eF _,lt_eF _,lt_eF _,lt_eF _,lt_eF _,lt_eF _,lt_eF _,lt_eF _,lt_eF _,lt_eF _,lt_eF _,lt_eF _,lt_eF _,lt_eF _,lt_eF _,lt_eF _,lt_eF _,rfl,rfl,endPR (one_w _)⟩
end Go.Proofs.Ytnjocbcjejpklaa
namespace Go.Proofs.Ytnjocbcjejpklaa
open Go.Rq Go
set_option maxRecDepth 100000
set_option maxHeartbeats 4000000
set_option maxRecDepth 100000
def prB (px py x0 x1 y0 y3:Nat->Nat) (z z2:Bool):Bool:=(lo1 px py && isE px py z) && (lo2 x0 x1 y0 y3 && isQ x0 x1 y0 y3 z2)
def prS (px py x0 x1 y0 y3:Nat->Nat) (z z2:Bool):S12:=bif prB px py x0 x1 y0 y3 z z2 then (bif z || z2 then lastS 1 else lastS (walkS (gN px) (gN py) ⟨gN x0,gN x1⟩ ⟨gN y0,gN y3⟩)) else 0
def prI (px py x0 x1 y0 y3:Nat->Nat) (z z2:Bool):Int:=bif prB px py x0 x1 y0 y3 z z2 then 0 else 5
def prV (px py x0 x1 y0 y3:Nat->Nat) (z z2:Bool):AV:=.tup [n12 (prS px py x0 x1 y0 y3 z z2),.sc (.it (prI px py x0 x1 y0 y3 z z2))]
def cPrs:List AV->Heap->Option (List Prop × AV)
 | [.v1 (.sc (.sl b 0 1 1)),.v1 (.sc (.sl c 0 1 1))],h=>match Nat.beq b c,hget h b,hget h c with
  | false,some ⟨_,[.ws .u64 6 px,.ws .u64 6 py,.one (.bo z)],0,0⟩,some ⟨_,[.ws .u64 6 x0,.ws .u64 6 x1,.ws .u64 6 y0,.ws .u64 6 y3,.one (.bo z2)],0,0⟩=>some ([],prV px py x0 x1 y0 y3 z z2)
  | _,_,_=>none
 | _,_=>none
theorem okPrs:(CallC.rd cPrs).Ok Try.prog 9:=by
 refine ⟨fun args h pre v e hp=>?_,fun args h slot blk hs ha=>?_⟩
 ·unfold cPrs at e
  split at e
  ·rename_i b c
   split at e
   ·rename_i y1 px py z y2 x0 x1 y0 y3 z2 h0 g1 g2
    cases e
    show CallOk Try.prog 9 ([] ++ [.v1 (.sc (.sl b 0 1 1)),.v1 (.sc (.sl c 0 1 1))]) h (prV px py x0 x1 y0 y3 z z2) h
    unfold prV prS prI prB
    cases h1:(lo1 px py && isE px py z)
    ·exact pr_no1 h0 g1 g2 h1
    ·cases h2:(lo2 x0 x1 y0 y3 && isQ x0 x1 y0 y3 z2)
     ·exact pr_no2 h0 g1 g2 h1 h2
     ·cases z
      ·cases z2
       ·exact pr_in (z:=false) (z2:=false) h0 g1 g2 h1 h2
       ·exact pr_z2 (z:=false) (z2:=true) h0 g1 g2 h1 h2
      ·exact pr_z1 (z:=true) h0 g1 g2 h1 h2
   ·cases e
  ·cases e
 ·unfold cPrs
  split
  ·rename_i b c
   rw [keepS hs (ha (.v1 (.sc (.sl b 0 1 1))) (by simp)),keepS hs (ha (.v1 (.sc (.sl c 0 1 1))) (by simp))]
  ·rfl
def GPir:Ctx:=ctxL [(9,.rd cPrs)]
theorem GPir_ok:CtxOk Try.prog GPir:=ctxL_cons okPrs ctxL_nil
def cPair:List AV->Option (List Prop × AV)
 | [.v1 (.agg [.ws .u64 6 px,.ws .u64 6 py,.one (.bo z)]),.v1 (.agg [.ws .u64 6 x0,.ws .u64 6 x1,.ws .u64 6 y0,.ws .u64 6 y3,.one (.bo z2)])]=>some ([],prV px py x0 x1 y0 y3 z z2)
 | _=>none
theorem okPair:(CallC.pure cPair).Ok Try.prog 10:=by
 intro args pre v e hp
 unfold cPair at e
 split at e
 rotate_left
 ·cases e
 rename_i px py z x0 x1 y0 y3 z2
 cases e
 refine pure_walk' tt_ok Try.func10 (by kernel_rfl) (by kernel_rfl) (by rfl) (by rfl) ?_
 refine evS_q mixed tt_ok GPir_ok 60 [] (same (p:=endN (prV px py x0 x1 y0 y3 z z2) (prV px py x0 x1 y0 y3 z z2)) ?_ (by kernel_rfl))
 exact ⟨_,rfl,fun _=>rfl⟩
end Go.Proofs.Ytnjocbcjejpklaa
namespace Go.Proofs.Ytnjocbcjejpklaa
open Go.Rq Go
set_option maxRecDepth 100000
set_option maxHeartbeats 4000000
set_option maxRecDepth 100000
structure PL where
 x:Nat->Nat->Nat
 y:Nat->Nat->Nat
 z:Nat->Bool
structure QL where
 a:Nat->Nat->Nat
 b:Nat->Nat->Nat
 c:Nat->Nat->Nat
 d:Nat->Nat->Nat
 z:Nat->Bool
def cP (p:PL):Nat->Nat->List Cell
 | _,0=>[]
 | k,n + 1=>.ws .u64 6 (p.x k) :: .ws .u64 6 (p.y k) :: .one (.bo (p.z k)) :: cP p (k + 1) n
def cQ (q:QL):Nat->Nat->List Cell
 | _,0=>[]
 | k,n + 1=>.ws .u64 6 (q.a k) :: .ws .u64 6 (q.b k) :: .ws .u64 6 (q.c k) :: .ws .u64 6 (q.d k) :: .one (.bo (q.z k)) :: cQ q (k + 1) n
theorem clen_cons (c d:Cell) (r:List Cell):clen (c :: d :: r) = c.len + clen (d :: r):=rfl
theorem clen_one {n:Nat}:∀ {w:List Cell},clen w = n + 1->∃ c r,w = c :: r
 | [],h=>by simp [clen] at h
 | c :: r,_=>⟨c,r,rfl⟩
theorem clen_P (p:PL) (s:Sc):∀ n k,clen (cP p k n ++ [.one s]) = 13 * n + 1
 | 0,k=>rfl
 | n + 1,k=>by
  have h:=clen_P p s n (k + 1)
  obtain ⟨c,r,e⟩:=clen_one h
  show clen (.ws .u64 6 (p.x k) :: .ws .u64 6 (p.y k) :: .one (.bo (p.z k)) :: (cP p (k + 1) n ++ [.one s])) = _
  rw [e,clen_cons,clen_cons,clen_cons,<-e,h]
  simp only [Cell.len];omega
theorem clen_Q (q:QL) (s:Sc):∀ n k,clen (cQ q k n ++ [.one s]) = 25 * n + 1
 | 0,k=>rfl
 | n + 1,k=>by
  have h:=clen_Q q s n (k + 1)
  obtain ⟨c,r,e⟩:=clen_one h
  show clen (.ws .u64 6 (q.a k) :: .ws .u64 6 (q.b k) :: .ws .u64 6 (q.c k) :: .ws .u64 6 (q.d k) :: .one (.bo (q.z k)) :: (cQ q (k + 1) n ++ [.one s])) = _
  rw [e,clen_cons,clen_cons,clen_cons,clen_cons,clen_cons,<-e,h]
  simp only [Cell.len];omega
theorem drop_ws (k:IntKind) (f:Nat->Nat) (r:List Cell) (o:Nat) (h:6 <= o):dropC (.ws k 6 f :: r) o = dropC r (o - 6):=by
 obtain ⟨o,rfl⟩:∃ x,o = x + 1:=⟨o - 1,by omega⟩
 have:Nat.ble 6 (o + 1) = true:=by rw [Nat.ble_eq];exact h
 simp only [dropC,this,cond_true]
theorem drop_one (s:Sc) (r:List Cell) (o:Nat) (h:1 <= o):dropC (.one s :: r) o = dropC r (o - 1):=by
 obtain ⟨o,rfl⟩:∃ x,o = x + 1:=⟨o - 1,by omega⟩
 rfl
theorem drop_P (p:PL) (w:List Cell):∀ i n k,i <= n->dropC (cP p k n ++ w) (13 * i) = dropC (cP p (k + i) (n - i) ++ w) 0
 | 0,n,k,h=>rfl
 | i + 1,0,k,h=>absurd h (by omega)
 | i + 1,n + 1,k,h=>by
  have:=drop_P p w i n (k + 1) (by omega)
  show dropC (.ws .u64 6 (p.x k) :: .ws .u64 6 (p.y k) :: .one (.bo (p.z k)) :: (cP p (k + 1) n ++ w)) _ = _
  rw [drop_ws _ _ _ _ (by omega),drop_ws _ _ _ _ (by omega),drop_one _ _ _ (by omega),show 13 * (i + 1) - 6 - 6 - 1 = 13 * i by omega,this,show k + 1 + i = k + (i + 1) by omega,show n + 1 - (i + 1) = n - i by omega]
theorem drop_Q (q:QL) (w:List Cell):∀ i n k,i <= n->dropC (cQ q k n ++ w) (25 * i) = dropC (cQ q (k + i) (n - i) ++ w) 0
 | 0,n,k,h=>rfl
 | i + 1,0,k,h=>absurd h (by omega)
 | i + 1,n + 1,k,h=>by
  have:=drop_Q q w i n (k + 1) (by omega)
  show dropC (.ws .u64 6 (q.a k) :: .ws .u64 6 (q.b k) :: .ws .u64 6 (q.c k) :: .ws .u64 6 (q.d k) :: .one (.bo (q.z k)) :: (cQ q (k + 1) n ++ w)) _ = _
  rw [drop_ws _ _ _ _ (by omega),drop_ws _ _ _ _ (by omega),drop_ws _ _ _ _ (by omega),drop_ws _ _ _ _ (by omega),drop_one _ _ _ (by omega),show 25 * (i + 1) - 6 - 6 - 6 - 6 - 1 = 25 * i by omega,this,show k + 1 + i = k + (i + 1) by omega,show n + 1 - (i + 1) = n - i by omega]
theorem take_P (p:PL) (w:List Cell) {i n:Nat} (h:i < n):takeC (dropC (cP p 0 n ++ w) (13 * i)) 13 = [.ws .u64 6 (p.x i),.ws .u64 6 (p.y i),.one (.bo (p.z i))]:=by
 rw [drop_P p w i n 0 (by omega)]
 obtain ⟨m,e⟩:∃ m,n - i = m + 1:=⟨n - i - 1,by omega⟩
 rw [e,Nat.zero_add]
 show takeC (.ws .u64 6 (p.x i) :: .ws .u64 6 (p.y i) :: .one (.bo (p.z i)) :: (cP p (i + 1) m ++ w)) 13 = _
 cases (cP p (i + 1) m ++ w) with
 | nil=>rfl
 | cons c r=>cases c <;> rfl
theorem take_Q (q:QL) (w:List Cell) {i n:Nat} (h:i < n):takeC (dropC (cQ q 0 n ++ w) (25 * i)) 25 = [.ws .u64 6 (q.a i),.ws .u64 6 (q.b i),.ws .u64 6 (q.c i),.ws .u64 6 (q.d i),.one (.bo (q.z i))]:=by
 rw [drop_Q q w i n 0 (by omega)]
 obtain ⟨m,e⟩:∃ m,n - i = m + 1:=⟨n - i - 1,by omega⟩
 rw [e,Nat.zero_add]
 show takeC (.ws .u64 6 (q.a i) :: .ws .u64 6 (q.b i) :: .ws .u64 6 (q.c i) :: .ws .u64 6 (q.d i) :: .one (.bo (q.z i)) :: (cQ q (i + 1) m ++ w)) 25 = _
 cases (cQ q (i + 1) m ++ w) with
 | nil=>rfl
 | cons c r=>cases c <;> rfl
theorem get_ws (k:IntKind) (f:Nat->Nat) (r:List Cell) (o:Nat) (h:6 <= o):getCell (.ws k 6 f :: r) o = getCell r (o - 6):=by
 have:Nat.blt o 6 = false:=by rw [<-Bool.not_eq_true,Nat.blt_eq];omega
 simp only [getCell,this,cond_false]
theorem get_one (s:Sc) (r:List Cell) (o:Nat) (h:1 <= o):getCell (.one s :: r) o = getCell r (o - 1):=by
 obtain ⟨o,rfl⟩:∃ x,o = x + 1:=⟨o - 1,by omega⟩
 rfl
theorem get_P (p:PL) (w:List Cell):∀ i n k,i < n->getCell (cP p k n ++ w) (13 * i + 12) = some (.bo (p.z (k + i)))
 | _,0,_,h=>absurd h (by omega)
 | 0,n + 1,k,h=>by
  show getCell (.ws .u64 6 (p.x k) :: .ws .u64 6 (p.y k) :: .one (.bo (p.z k)) :: (cP p (k + 1) n ++ w)) _ = _
  rw [get_ws _ _ _ _ (by omega),get_ws _ _ _ _ (by omega)]
  rfl
 | i + 1,n + 1,k,h=>by
  have:=get_P p w i n (k + 1) (by omega)
  show getCell (.ws .u64 6 (p.x k) :: .ws .u64 6 (p.y k) :: .one (.bo (p.z k)) :: (cP p (k + 1) n ++ w)) _ = _
  rw [get_ws _ _ _ _ (by omega),get_ws _ _ _ _ (by omega),get_one _ _ _ (by omega),show 13 * (i + 1) + 12 - 6 - 6 - 1 = 13 * i + 12 by omega,this,show k + 1 + i = k + (i + 1) by omega]
theorem get_Q (q:QL) (w:List Cell):∀ i n k,i < n->getCell (cQ q k n ++ w) (25 * i + 24) = some (.bo (q.z (k + i)))
 | _,0,_,h=>absurd h (by omega)
 | 0,n + 1,k,h=>by
  show getCell (.ws .u64 6 (q.a k) :: .ws .u64 6 (q.b k) :: .ws .u64 6 (q.c k) :: .ws .u64 6 (q.d k) :: .one (.bo (q.z k)) :: (cQ q (k + 1) n ++ w)) _ = _
  rw [get_ws _ _ _ _ (by omega),get_ws _ _ _ _ (by omega),get_ws _ _ _ _ (by omega),get_ws _ _ _ _ (by omega)]
  rfl
 | i + 1,n + 1,k,h=>by
  have:=get_Q q w i n (k + 1) (by omega)
  show getCell (.ws .u64 6 (q.a k) :: .ws .u64 6 (q.b k) :: .ws .u64 6 (q.c k) :: .ws .u64 6 (q.d k) :: .one (.bo (q.z k)) :: (cQ q (k + 1) n ++ w)) _ = _
  rw [get_ws _ _ _ _ (by omega),get_ws _ _ _ _ (by omega),get_ws _ _ _ _ (by omega),get_ws _ _ _ _ (by omega),get_one _ _ _ (by omega),show 25 * (i + 1) + 24 - 6 - 6 - 6 - 6 - 1 = 25 * i + 24 by omega,this,show k + 1 + i = k + (i + 1) by omega]
def wP (t o:Nat) (p:PL) (n:Nat) (v:Array Value × (Nat × Nat)):Option Blk:=some ⟨t,cP p 0 n ++ [.one (.rw (wrapB v.1 v.2))],3,o⟩
def wQ (t o:Nat) (q:QL) (n:Nat) (v:Array Value × (Nat × Nat)):Option Blk:=some ⟨t,cQ q 0 n ++ [.one (.rw (wrapB v.1 v.2))],3,o⟩
theorem plain_P (p:PL) (v:Array Value × (Nat × Nat)):∀ n k,plainCs (cP p k n ++ [.one (.rw (wrapB v.1 v.2))]) = true
 | 0,_=>rfl
 | n + 1,k=>plain_P p v n (k + 1)
theorem plain_Q (q:QL) (v:Array Value × (Nat × Nat)):∀ n k,plainCs (cQ q k n ++ [.one (.rw (wrapB v.1 v.2))]) = true
 | 0,_=>rfl
 | n + 1,k=>plain_Q q v n (k + 1)
theorem live_PQ {V:List AV} {A:Heap} {t1 o1 t2 o2 n m:Nat} {p:PL} {q:QL} {v1 v2:Array Value × (Nat × Nat)} (hv:V.all (avB (wP t1 o1 p n v1 :: wQ t2 o2 q m v2 :: A)) = true) (ha:heapB (wP t1 o1 p n v1 :: wQ t2 o2 q m v2 :: A) 2 A = true):liveB V (wP t1 o1 p n v1 :: wQ t2 o2 q m v2 :: A) = true:=by
 unfold liveB
 rw [hv]
 show (true && (cellsB _ (cP p 0 n ++ [.one (.rw (wrapB v1.1 v1.2))]) && (true && (cellsB _ (cQ q 0 m ++ [.one (.rw (wrapB v2.1 v2.2))]) && (true && heapB _ 2 A))))) = true
 rw [cellsB_plain (plain_P p v1 n 0),cellsB_plain (plain_Q q v2 m 0),ha]
 rfl
def ix2 (i n:Nat) (q:Prop):Prop:=0 <= Int.ofNat i/\Int.ofNat i < (n:Int)/\q
theorem ix2_of {i n:Nat} {q:Prop} (h:i < n) (k:q):ix2 i n q:=⟨Int.natCast_nonneg _,by simp;exact h,k⟩
theorem off_P (o i s:Nat):addN o (mulN i s) - o = s * i:=by rw [addN_eq,mulN_eq,Nat.mul_comm];omega
theorem ld_P (p:PL) (o:Nat) (s:Sc) {i n:Nat} (h:i < n) {r:Prop} (hr:r) :
  asP (takeC (dropC (cP p 0 n ++ [.one s]) (addN o (mulN i 13) - o)) 13) [.ws .u64 6 (p.x i),.ws .u64 6 (p.y i),.one (.bo (p.z i))]/\o <= addN o (mulN i 13)/\addN o (mulN i 13) - o + 13 < clen (cP p 0 n ++ [.one s])/\r:=by
 refine ⟨?_,?_,?_,hr⟩
 ·rw [off_P,take_P p _ h];exact fun _=>rfl
 ·rw [addN_eq];omega
 ·rw [off_P,clen_P];omega
theorem ld_Q (q:QL) (o:Nat) (s:Sc) {i n:Nat} (h:i < n) {r:Prop} (hr:r) :
  asP (takeC (dropC (cQ q 0 n ++ [.one s]) (addN o (mulN i 25) - o)) 25) [.ws .u64 6 (q.a i),.ws .u64 6 (q.b i),.ws .u64 6 (q.c i),.ws .u64 6 (q.d i),.one (.bo (q.z i))]/\o <= addN o (mulN i 25)/\addN o (mulN i 25) - o + 25 < clen (cQ q 0 n ++ [.one s])/\r:=by
 refine ⟨?_,?_,?_,hr⟩
 ·rw [off_P,take_Q q _ h];exact fun _=>rfl
 ·rw [addN_eq];omega
 ·rw [off_P,clen_Q];omega
theorem off_Z (o i s k:Nat):addN (addN o (mulN i s)) k - o = s * i + k:=by rw [addN_eq,addN_eq,mulN_eq,Nat.mul_comm];omega
theorem bo_P (p:PL) (o:Nat) (s:Sc) {i n:Nat} (h:i < n) {b:Bool} (hb:(!p.z i) = b) {r:Prop} (hr:r) :
  o <= addN (addN o (mulN i 13)) 12/\addN (addN o (mulN i 13)) 12 - o + 1 < clen (cP p 0 n ++ [.one s])/\getCell (cP p 0 n ++ [.one s]) (addN (addN o (mulN i 13)) 12 - o) = some (.bo (boAt (cP p 0 n ++ [.one s]) (addN (addN o (mulN i 13)) 12 - o)))/\(!boAt (cP p 0 n ++ [.one s]) (addN (addN o (mulN i 13)) 12 - o)) = b/\r:=by
 have e:=get_P p [.one s] i n 0 h
 rw [Nat.zero_add] at e
 have eb:boAt (cP p 0 n ++ [.one s]) (13 * i + 12) = p.z i:=by unfold boAt;rw [e]
 refine ⟨?_,?_,?_,?_,hr⟩
 ·rw [addN_eq,addN_eq];omega
 ·rw [off_Z,clen_P];omega
 ·rw [off_Z,e,eb]
 ·rw [off_Z,eb];exact hb
theorem bo_Q (q:QL) (o:Nat) (s:Sc) {i n:Nat} (h:i < n) {b:Bool} (hb:(!q.z i) = b) {r:Prop} (hr:r) :
  o <= addN (addN o (mulN i 25)) 24/\addN (addN o (mulN i 25)) 24 - o + 1 < clen (cQ q 0 n ++ [.one s])/\getCell (cQ q 0 n ++ [.one s]) (addN (addN o (mulN i 25)) 24 - o) = some (.bo (boAt (cQ q 0 n ++ [.one s]) (addN (addN o (mulN i 25)) 24 - o)))/\(!boAt (cQ q 0 n ++ [.one s]) (addN (addN o (mulN i 25)) 24 - o)) = b/\r:=by
 have e:=get_Q q [.one s] i n 0 h
 rw [Nat.zero_add] at e
 have eb:boAt (cQ q 0 n ++ [.one s]) (25 * i + 24) = q.z i:=by unfold boAt;rw [e]
 refine ⟨?_,?_,?_,?_,hr⟩
 ·rw [addN_eq,addN_eq];omega
 ·rw [off_Z,clen_Q];omega
 ·rw [off_Z,e,eb]
 ·rw [off_Z,eb];exact hb
def okB (p:PL) (q:QL) (i:Nat):Bool:=prB (p.x i) (p.y i) (q.a i) (q.b i) (q.c i) (q.d i) (p.z i) (q.z i)
def allB (p:PL) (q:QL):Nat->Bool
 | 0=>true
 | k + 1=>allB p q k && okB p q k
def wkA (p:PL) (q:QL) (i:Nat):S12:=walkS (gN (p.x i)) (gN (p.y i)) ⟨gN (q.a i),gN (q.b i)⟩ ⟨gN (q.c i),gN (q.d i)⟩
def proS (p:PL) (q:QL):Nat->S12
 | 0=>1
 | k + 1=>bif p.z k || q.z k then proS p q k else S12.mul (proS p q k) (wkA p q k)
def prsS (p:PL) (q:QL) (n:Nat):S12:=bif allB p q n then lastS (proS p q n) else 0
def prsI (p:PL) (q:QL) (n:Nat):Int:=bif allB p q n then 0 else 5
def prsV (p:PL) (q:QL) (n:Nat):AV:=.tup [n12 (prsS p q n),.sc (.it (prsI p q n))]
theorem allB_false {p:PL} {q:QL} {i:Nat} (h:okB p q i = false):∀ {n:Nat},i < n->allB p q n = false
 | 0,h'=>absurd h' (by omega)
 | n + 1,h'=>by
  by_cases e:i = n
  ·subst e
   show (allB p q i && okB p q i) = false
   rw [h,Bool.and_false]
  ·show (allB p q n && okB p q n) = false
   rw [allB_false h (by omega:i < n)];rfl
theorem prsV_no {p:PL} {q:QL} {n:Nat} (h:allB p q n = false):prsV p q n = .tup [n12 0,.sc (.it 5)]:=by unfold prsV prsS prsI;rw [h];rfl
theorem prsV_yes {p:PL} {q:QL} {n:Nat} (h:allB p q n = true):prsV p q n = .tup [n12 (lastS (proS p q n)),.sc (.it 0)]:=by unfold prsV prsS prsI;rw [h];rfl
abbrev cS (t:S12):List Cell:=[.ws .u64 6 (eF t.p.u.x),.ws .u64 6 (eF t.p.u.y),.ws .u64 6 (eF t.q.u.x),.ws .u64 6 (eF t.q.u.y),.ws .u64 6 (eF t.p.v.x),.ws .u64 6 (eF t.p.v.y),.ws .u64 6 (eF t.q.v.x),.ws .u64 6 (eF t.q.v.y),.ws .u64 6 (eF t.p.w.x),.ws .u64 6 (eF t.p.w.y),.ws .u64 6 (eF t.q.w.x),.ws .u64 6 (eF t.q.w.y)]
abbrev dS (t:S12):S12:=d12 (eF t.p.u.x) (eF t.p.u.y) (eF t.q.u.x) (eF t.q.u.y) (eF t.p.v.x) (eF t.p.v.y) (eF t.q.v.x) (eF t.q.v.y) (eF t.p.w.x) (eF t.p.w.y) (eF t.q.w.x) (eF t.q.w.y)
abbrev ltS (t:S12) (r:Prop):Prop:=nv (eF t.p.u.x) < pN/\nv (eF t.p.u.y) < pN/\nv (eF t.q.u.x) < pN/\nv (eF t.q.u.y) < pN/\nv (eF t.p.v.x) < pN/\nv (eF t.p.v.y) < pN/\nv (eF t.q.v.x) < pN/\nv (eF t.q.v.y) < pN/\nv (eF t.p.w.x) < pN/\nv (eF t.p.w.y) < pN/\nv (eF t.q.w.x) < pN/\nv (eF t.q.w.y) < pN/\r
theorem ltS_ok (t:S12) {r:Prop} (h:r):ltS t r:=⟨lt_eF _,lt_eF _,lt_eF _,lt_eF _,lt_eF _,lt_eF _,lt_eF _,lt_eF _,lt_eF _,lt_eF _,lt_eF _,lt_eF _,h⟩
theorem dS_eq (t:S12):dS t = t:=d12_eF t
theorem asC {u t:S12} (h:u = t):asP (cS u) (cS t):=by subst h;exact fun _=>rfl
theorem nv_e0:nv (fun _=>0) = nv (eF 0):=by rw [<-eF_dF lt_zero,dF_0]
theorem as_one:asP [.ws .u64 6 oneF,.ws .u64 6 (fun _=>0),.ws .u64 6 (fun _=>0),.ws .u64 6 (fun _=>0),.ws .u64 6 (fun _=>0),.ws .u64 6 (fun _=>0),.ws .u64 6 (fun _=>0),.ws .u64 6 (fun _=>0),.ws .u64 6 (fun _=>0),.ws .u64 6 (fun _=>0),.ws .u64 6 (fun _=>0),.ws .u64 6 (fun _=>0)] (cS 1):=by
 have h1:nv oneF = nv (eF 1):=by rw [<-eF_dF lt_one,dF_one]
 exact v12_val h1 nv_e0 nv_e0 nv_e0 nv_e0 nv_e0 nv_e0 nv_e0 nv_e0 nv_e0 nv_e0 nv_e0
abbrev cP1 (p:PL) (i:Nat):List Cell:=[.ws .u64 6 (p.x i),.ws .u64 6 (p.y i),.one (.bo (p.z i))]
abbrev cQ1 (q:QL) (i:Nat):List Cell:=[.ws .u64 6 (q.a i),.ws .u64 6 (q.b i),.ws .u64 6 (q.c i),.ws .u64 6 (q.d i),.one (.bo (q.z i))]
abbrev zE:Option Blk:=some ⟨28,[.ws .u64 6 (fun _=>0),.ws .u64 6 (fun _=>0),.ws .u64 6 (fun _=>0),.ws .u64 6 (fun _=>0),.ws .u64 6 (fun _=>0),.ws .u64 6 (fun _=>0),.ws .u64 6 (fun _=>0),.ws .u64 6 (fun _=>0),.ws .u64 6 (fun _=>0),.ws .u64 6 (fun _=>0),.ws .u64 6 (fun _=>0),.ws .u64 6 (fun _=>0)],0,0⟩
abbrev fE (t:S12):Option Blk:=some ⟨49,cS t,0,0⟩
abbrev sl3 (b o n c:Nat):AV:=.v1 (.sc (.sl b o n c))
abbrev ptR (b:Nat):AV:=.v1 (.sc (.pt b 0))
theorem prs_two (p:PL) (q:QL) (n:Nat) (hn:n <= 1000) (t1 o1 c1 t2 o2 c2:Nat) (v1 v2:Array Value × (Nat × Nat)) (junk0:Nat->Value) (ha:allB p q n = true) :
  AWqS Try.prog (Dm [wP t1 o1 p n v1,wQ t2 o2 q n v2]) (postK 0 (flatC (bodyOf Try.f9))) (FEndV tt Try.f9 (prsV p q n) [wP t1 o1 p n v1,wQ t2 o2 q n v2]) ⟨mkT [0,1,4,5,16,17] [sl3 0 o1 n c1,sl3 1 o2 n c2,ptR 2,iv 0,iv (Int.ofNat n),iv (Int.ofNat n)] 71 junk0,[wP t1 o1 p n v1,wQ t2 o2 q n v2,zE]⟩:=by
 refine loopK mixed tt_ok GPr_ok 0 (by kernel_rfl) (ι:={x:Nat × S12 // x.1 <= n/\x.2 = proS p q x.1}) [0,1,4,7,38,39] 71 5 (fun x=>[sl3 0 o1 n c1,sl3 1 o2 n c2,ptR 2,ptR 4,iv (Int.ofNat n),iv (Int.ofNat x.1.1)]) (fun x=>[wP t1 o1 p n v1,wQ t2 o2 q n v2,zE,none,fE x.1.2]) (fun x=>n - x.1.1) (fun x=>x.1.1 = n)
  (fun _=>rfl) (fun _=>live_PQ (by kernel_rfl) (by kernel_rfl)) (fun _ j h=>by have:=Dm_lt h;simp at this;match j,this with | 0,_=>exact ⟨_,rfl⟩ | 1,_=>exact ⟨_,rfl⟩) 60 [⟨9,0,.as (cS 1)⟩] ?_ ?_ ?_
 ·refine same (p:=asP [.ws .u64 6 oneF,.ws .u64 6 (fun _=>0),.ws .u64 6 (fun _=>0),.ws .u64 6 (fun _=>0),.ws .u64 6 (fun _=>0),.ws .u64 6 (fun _=>0),.ws .u64 6 (fun _=>0),.ws .u64 6 (fun _=>0),.ws .u64 6 (fun _=>0),.ws .u64 6 (fun _=>0),.ws .u64 6 (fun _=>0),.ws .u64 6 (fun _=>0)] (cS 1)/\true = true/\∃ j:{x:Nat × S12 // x.1 <= n/\x.2 = proS p q x.1},[sl3 0 o1 n c1,sl3 1 o2 n c2,ptR 2,ptR 4,iv (Int.ofNat n),iv (Int.ofNat 0)] = [sl3 0 o1 n c1,sl3 1 o2 n c2,ptR 2,ptR 4,iv (Int.ofNat n),iv (Int.ofNat j.1.1)]/\[wP t1 o1 p n v1,wQ t2 o2 q n v2,zE,none,fE 1] = [wP t1 o1 p n v1,wQ t2 o2 q n v2,zE,none,fE j.1.2]) ?_ (by kernel_rfl)
  exact ⟨as_one,rfl,⟨(0,1),Nat.zero_le _,rfl⟩,rfl,rfl⟩
 ·intro ⟨⟨i,s⟩,hi,hs⟩ junk
  simp only at hi hs
  by_cases h3:i < n
  ·obtain ⟨m,rfl⟩:∃ m,n = m + 1:=⟨n - 1,by omega⟩
   cases hz:p.z i
   ·cases hw:q.z i
    ·obtain ⟨t1',ht1⟩:∃ q_:S12,q_ = wkA p q i:=⟨_,rfl⟩
     obtain ⟨t2',ht2⟩:∃ q_:S12,q_ = S12.mul s t1':=⟨_,rfl⟩
     refine roundF mixed tt_ok GPr_ok 100 [⟨11,0,.lit (.bo true)⟩,⟨13,2,.sym⟩,⟨13,5,.lit (.bo true)⟩,⟨13,9,.sym⟩,⟨13,12,.lit (.bo true)⟩,⟨14,3,.sym⟩,⟨14,4,.as (cP1 p i)⟩,⟨14,7,.sym⟩,⟨14,8,.as (cQ1 q i)⟩,⟨14,9,.as (cS t1')⟩,⟨14,10,.as (cS t2')⟩,⟨15,0,.lit (.it (Int.ofNat (i+1)))⟩] ?_
     refine same (p:=ilt (Int.ofNat i) (Int.ofNat (m + 1)) = true/\ix2 i (m + 1) (o1 <= addN (addN o1 (mulN i 13)) 12/\addN (addN o1 (mulN i 13)) 12 - o1 + 1 < clen (cP p 0 (m + 1) ++ [.one (.rw (wrapB v1.1 v1.2))])/\getCell (cP p 0 (m + 1) ++ [.one (.rw (wrapB v1.1 v1.2))]) (addN (addN o1 (mulN i 13)) 12 - o1) = some (.bo (boAt (cP p 0 (m + 1) ++ [.one (.rw (wrapB v1.1 v1.2))]) (addN (addN o1 (mulN i 13)) 12 - o1)))/\(!boAt (cP p 0 (m + 1) ++ [.one (.rw (wrapB v1.1 v1.2))]) (addN (addN o1 (mulN i 13)) 12 - o1)) = true/\ix2 i (m + 1) (o2 <= addN (addN o2 (mulN i 25)) 24/\addN (addN o2 (mulN i 25)) 24 - o2 + 1 < clen (cQ q 0 (m + 1) ++ [.one (.rw (wrapB v2.1 v2.2))])/\getCell (cQ q 0 (m + 1) ++ [.one (.rw (wrapB v2.1 v2.2))]) (addN (addN o2 (mulN i 25)) 24 - o2) = some (.bo (boAt (cQ q 0 (m + 1) ++ [.one (.rw (wrapB v2.1 v2.2))]) (addN (addN o2 (mulN i 25)) 24 - o2)))/\(!boAt (cQ q 0 (m + 1) ++ [.one (.rw (wrapB v2.1 v2.2))]) (addN (addN o2 (mulN i 25)) 24 - o2)) = true/\ix2 i (m + 1) (asP (takeC (dropC (cP p 0 (m + 1) ++ [.one (.rw (wrapB v1.1 v1.2))]) (addN o1 (mulN i 13) - o1)) 13) (cP1 p i)/\o1 <= addN o1 (mulN i 13)/\addN o1 (mulN i 13) - o1 + 13 < clen (cP p 0 (m + 1) ++ [.one (.rw (wrapB v1.1 v1.2))])/\ix2 i (m + 1) (asP (takeC (dropC (cQ q 0 (m + 1) ++ [.one (.rw (wrapB v2.1 v2.2))]) (addN o2 (mulN i 25) - o2)) 25) (cQ1 q i)/\o2 <= addN o2 (mulN i 25)/\addN o2 (mulN i 25) - o2 + 25 < clen (cQ q 0 (m + 1) ++ [.one (.rw (wrapB v2.1 v2.2))])/\asP (cS (walkS (gN (p.x i)) (gN (p.y i)) ⟨gN (q.a i),gN (q.b i)⟩ ⟨gN (q.c i),gN (q.d i)⟩)) (cS t1')/\asP (cS (S12.mul (dS s) (dS t1'))) (cS t2')/\ltS s (ltS t1' (wrapI (Int.ofNat i + 1) = Int.ofNat (i + 1)/\true = true/\∃ j:{x:Nat × S12 // x.1 <= (m + 1)/\x.2 = proS p q x.1},m + 1 - j.1.1 < m + 1 - i/\[sl3 0 o1 (m + 1) c1,sl3 1 o2 (m + 1) c2,ptR 2,ptR 4,iv (Int.ofNat (m + 1)),iv (Int.ofNat (i + 1))] = [sl3 0 o1 (m + 1) c1,sl3 1 o2 (m + 1) c2,ptR 2,ptR 4,iv (Int.ofNat (m + 1)),iv (Int.ofNat j.1.1)]/\[wP t1 o1 p (m + 1) v1,wQ t2 o2 q (m + 1) v2,zE,none,fE t2'] = [wP t1 o1 p (m + 1) v1,wQ t2 o2 q (m + 1) v2,zE,none,fE j.1.2]))))))) ?_ (by kernel_rfl)
     refine ⟨ilt_t h3,ix2_of h3 (bo_P p o1 _ h3 (by rw [hz];rfl) (ix2_of h3 (bo_Q q o2 _ h3 (by rw [hw];rfl) (ix2_of h3 (ld_P p o1 _ h3 (ix2_of h3 (ld_Q q o2 _ h3 ⟨asC (by rw [ht1];rfl),asC (by rw [dS_eq,dS_eq,ht2]),ltS_ok s (ltS_ok t1' ⟨wrapI_succ (by omega),rfl,⟨(i + 1,t2'),by simp only;omega,?_⟩,by simp only;omega,rfl,rfl⟩)⟩)))))))⟩
     show t2' = (bif p.z i || q.z i then proS p q i else S12.mul (proS p q i) (wkA p q i))
     rw [hz,hw,ht2,ht1,hs];rfl
    ·refine roundF mixed tt_ok GPr_ok 100 [⟨11,0,.lit (.bo true)⟩,⟨13,2,.sym⟩,⟨13,5,.lit (.bo true)⟩,⟨13,9,.sym⟩,⟨13,12,.lit (.bo false)⟩,⟨15,0,.lit (.it (Int.ofNat (i+1)))⟩] ?_
     refine same (p:=ilt (Int.ofNat i) (Int.ofNat (m + 1)) = true/\ix2 i (m + 1) (o1 <= addN (addN o1 (mulN i 13)) 12/\addN (addN o1 (mulN i 13)) 12 - o1 + 1 < clen (cP p 0 (m + 1) ++ [.one (.rw (wrapB v1.1 v1.2))])/\getCell (cP p 0 (m + 1) ++ [.one (.rw (wrapB v1.1 v1.2))]) (addN (addN o1 (mulN i 13)) 12 - o1) = some (.bo (boAt (cP p 0 (m + 1) ++ [.one (.rw (wrapB v1.1 v1.2))]) (addN (addN o1 (mulN i 13)) 12 - o1)))/\(!boAt (cP p 0 (m + 1) ++ [.one (.rw (wrapB v1.1 v1.2))]) (addN (addN o1 (mulN i 13)) 12 - o1)) = true/\ix2 i (m + 1) (o2 <= addN (addN o2 (mulN i 25)) 24/\addN (addN o2 (mulN i 25)) 24 - o2 + 1 < clen (cQ q 0 (m + 1) ++ [.one (.rw (wrapB v2.1 v2.2))])/\getCell (cQ q 0 (m + 1) ++ [.one (.rw (wrapB v2.1 v2.2))]) (addN (addN o2 (mulN i 25)) 24 - o2) = some (.bo (boAt (cQ q 0 (m + 1) ++ [.one (.rw (wrapB v2.1 v2.2))]) (addN (addN o2 (mulN i 25)) 24 - o2)))/\(!boAt (cQ q 0 (m + 1) ++ [.one (.rw (wrapB v2.1 v2.2))]) (addN (addN o2 (mulN i 25)) 24 - o2)) = false/\wrapI (Int.ofNat i + 1) = Int.ofNat (i + 1)/\true = true/\∃ j:{x:Nat × S12 // x.1 <= (m + 1)/\x.2 = proS p q x.1},m + 1 - j.1.1 < m + 1 - i/\[sl3 0 o1 (m + 1) c1,sl3 1 o2 (m + 1) c2,ptR 2,ptR 4,iv (Int.ofNat (m + 1)),iv (Int.ofNat (i + 1))] = [sl3 0 o1 (m + 1) c1,sl3 1 o2 (m + 1) c2,ptR 2,ptR 4,iv (Int.ofNat (m + 1)),iv (Int.ofNat j.1.1)]/\[wP t1 o1 p (m + 1) v1,wQ t2 o2 q (m + 1) v2,zE,none,fE s] = [wP t1 o1 p (m + 1) v1,wQ t2 o2 q (m + 1) v2,zE,none,fE j.1.2]))) ?_ (by kernel_rfl)
     refine ⟨ilt_t h3,ix2_of h3 (bo_P p o1 _ h3 (by rw [hz];rfl) (ix2_of h3 (bo_Q q o2 _ h3 (by rw [hw];rfl) ⟨wrapI_succ (by omega),rfl,⟨(i + 1,s),by simp only;omega,?_⟩,by simp only;omega,rfl,rfl⟩)))⟩
     show s = (bif p.z i || q.z i then proS p q i else S12.mul (proS p q i) (wkA p q i))
     rw [hz,hw,hs];rfl
   ·refine roundF mixed tt_ok GPr_ok 100 [⟨11,0,.lit (.bo true)⟩,⟨13,2,.sym⟩,⟨13,5,.lit (.bo false)⟩,⟨15,0,.lit (.it (Int.ofNat (i+1)))⟩] ?_
    refine same (p:=ilt (Int.ofNat i) (Int.ofNat (m + 1)) = true/\ix2 i (m + 1) (o1 <= addN (addN o1 (mulN i 13)) 12/\addN (addN o1 (mulN i 13)) 12 - o1 + 1 < clen (cP p 0 (m + 1) ++ [.one (.rw (wrapB v1.1 v1.2))])/\getCell (cP p 0 (m + 1) ++ [.one (.rw (wrapB v1.1 v1.2))]) (addN (addN o1 (mulN i 13)) 12 - o1) = some (.bo (boAt (cP p 0 (m + 1) ++ [.one (.rw (wrapB v1.1 v1.2))]) (addN (addN o1 (mulN i 13)) 12 - o1)))/\(!boAt (cP p 0 (m + 1) ++ [.one (.rw (wrapB v1.1 v1.2))]) (addN (addN o1 (mulN i 13)) 12 - o1)) = false/\wrapI (Int.ofNat i + 1) = Int.ofNat (i + 1)/\true = true/\∃ j:{x:Nat × S12 // x.1 <= (m + 1)/\x.2 = proS p q x.1},m + 1 - j.1.1 < m + 1 - i/\[sl3 0 o1 (m + 1) c1,sl3 1 o2 (m + 1) c2,ptR 2,ptR 4,iv (Int.ofNat (m + 1)),iv (Int.ofNat (i + 1))] = [sl3 0 o1 (m + 1) c1,sl3 1 o2 (m + 1) c2,ptR 2,ptR 4,iv (Int.ofNat (m + 1)),iv (Int.ofNat j.1.1)]/\[wP t1 o1 p (m + 1) v1,wQ t2 o2 q (m + 1) v2,zE,none,fE s] = [wP t1 o1 p (m + 1) v1,wQ t2 o2 q (m + 1) v2,zE,none,fE j.1.2])) ?_ (by kernel_rfl)
    refine ⟨ilt_t h3,ix2_of h3 (bo_P p o1 _ h3 (by rw [hz];rfl) ⟨wrapI_succ (by omega),rfl,⟨(i + 1,s),by simp only;omega,?_⟩,by simp only;omega,rfl,rfl⟩)⟩
    show s = (bif p.z i || q.z i then proS p q i else S12.mul (proS p q i) (wkA p q i))
    rw [hz,hs];rfl
  ·have:i = n:=by omega
   subst this
   refine roundF mixed tt_ok GPr_ok 40 [⟨11,0,.lit (.bo false)⟩] ?_
   refine same (p:=ilt (Int.ofNat i) (Int.ofNat i) = false/\true = true/\∃ j:{x:Nat × S12 // x.1 <= i/\x.2 = proS p q x.1},j.1.1 = i/\[sl3 0 o1 i c1,sl3 1 o2 i c2,ptR 2,ptR 4,iv (Int.ofNat i),iv (Int.ofNat i)] = [sl3 0 o1 i c1,sl3 1 o2 i c2,ptR 2,ptR 4,iv (Int.ofNat i),iv (Int.ofNat j.1.1)]/\[wP t1 o1 p i v1,wQ t2 o2 q i v2,zE,none,fE s] = [wP t1 o1 p i v1,wQ t2 o2 q i v2,zE,none,fE j.1.2]) ?_ (by kernel_rfl)
   exact ⟨ilt_f (by omega),rfl,⟨(i,s),Nat.le_refl _,hs⟩,rfl,rfl,rfl⟩
 ·intro ⟨⟨i,s⟩,hi,hs⟩ junk h3
  simp only at hi hs h3
  subst h3
  obtain ⟨t5,ht5⟩:∃ q_:S12,q_ = lastS s:=⟨_,rfl⟩
  refine evS_q mixed tt_ok GPr_ok 100 [⟨16,1,.as (cS t5)⟩] (same (p:=asP (cS (lastS (dS s))) (cS t5)/\ltS s (ltS t5 (wP t1 o1 p i v1 = wP t1 o1 p i v1/\wQ t2 o2 q i v2 = wQ t2 o2 q i v2/\endR2 (.tup [v12 (vF (dF (eF t5.p.u.x))) (vF (dF (eF t5.p.u.y))) (vF (dF (eF t5.q.u.x))) (vF (dF (eF t5.q.u.y))) (vF (dF (eF t5.p.v.x))) (vF (dF (eF t5.p.v.y))) (vF (dF (eF t5.q.v.x))) (vF (dF (eF t5.q.v.y))) (vF (dF (eF t5.p.w.x))) (vF (dF (eF t5.p.w.y))) (vF (dF (eF t5.q.w.x))) (vF (dF (eF t5.q.w.y))),.sc (.it 0)]) (prsV p q i)))) ?_ (by kernel_rfl))
  refine ⟨asC (by rw [dS_eq,ht5]),ltS_ok s (ltS_ok t5 ⟨rfl,rfl,?_⟩)⟩
  rw [prsV_yes ha]
  exact endPR (by rw [ht5,hs])
theorem prs_walk (p:PL) (q:QL) (n:Nat) (hn:n <= 1000) (t1 o1 c1 t2 o2 c2:Nat) (v1 v2:Array Value × (Nat × Nat)) :
  AWqS Try.prog (Dm [wP t1 o1 p n v1,wQ t2 o2 q n v2]) (flatC (bodyOf Try.f9)) (FEndV tt Try.f9 (prsV p q n) [wP t1 o1 p n v1,wQ t2 o2 q n v2]) ⟨frame0 [sl3 0 o1 n c1,sl3 1 o2 n c2] (Try.f9).ntmps,[wP t1 o1 p n v1,wQ t2 o2 q n v2]⟩:=by
 refine loopK mixed tt_ok GPr_ok 0 (by kernel_rfl) (ι:={i:Nat // i <= n/\allB p q i = true}) [0,1,4,5,16,17] 71 3 (fun i=>[sl3 0 o1 n c1,sl3 1 o2 n c2,ptR 2,iv 0,iv (Int.ofNat n),iv (Int.ofNat i.1)]) (fun _=>[wP t1 o1 p n v1,wQ t2 o2 q n v2,zE]) (fun i=>n - i.1) (fun i=>i.1 = n)
  (fun _=>rfl) (fun _=>live_PQ (by kernel_rfl) (by kernel_rfl)) (fun _ j h=>by have:=Dm_lt h;simp at this;match j,this with | 0,_=>exact ⟨_,rfl⟩ | 1,_=>exact ⟨_,rfl⟩) 60 [⟨1,4,.lit (.bo false)⟩] ?_ ?_ ?_
 ·refine same (p:=(!ieq (Int.ofNat n) (Int.ofNat n)) = false/\true = true/\∃ j:{i:Nat // i <= n/\allB p q i = true},[sl3 0 o1 n c1,sl3 1 o2 n c2,ptR 2,iv 0,iv (Int.ofNat n),iv (Int.ofNat 0)] = [sl3 0 o1 n c1,sl3 1 o2 n c2,ptR 2,iv 0,iv (Int.ofNat n),iv (Int.ofNat j.1)]/\[wP t1 o1 p n v1,wQ t2 o2 q n v2,zE] = [wP t1 o1 p n v1,wQ t2 o2 q n v2,zE]) ?_ (by kernel_rfl)
  exact ⟨by rw [ieq_self];rfl,rfl,⟨0,Nat.zero_le _,rfl⟩,rfl,rfl⟩
 ·intro ⟨i,hi,ha⟩ junk
  by_cases h3:i < n
  ·cases hp:(lo1 (p.x i) (p.y i) && isE (p.x i) (p.y i) (p.z i))
   ·refine roundF mixed tt_ok GPr_ok 60 [⟨4,0,.lit (.bo true)⟩,⟨6,2,.sym⟩,⟨6,3,.as (cP1 p i)⟩,⟨6,5,.lit (.bo true)⟩] ?_
    refine same (p:=ilt (Int.ofNat i) (Int.ofNat n) = true/\ix2 i n (asP (takeC (dropC (cP p 0 n ++ [.one (.rw (wrapB v1.1 v1.2))]) (addN o1 (mulN i 13) - o1)) 13) (cP1 p i)/\o1 <= addN o1 (mulN i 13)/\addN o1 (mulN i 13) - o1 + 13 < clen (cP p 0 n ++ [.one (.rw (wrapB v1.1 v1.2))]) /\
     (!(lo1 (p.x i) (p.y i) && isE (p.x i) (p.y i) (p.z i))) = true/\wP t1 o1 p n v1 = wP t1 o1 p n v1/\wQ t2 o2 q n v2 = wQ t2 o2 q n v2/\endR2 (.tup [v12 (fun _=>0) (fun _=>0) (fun _=>0) (fun _=>0) (fun _=>0) (fun _=>0) (fun _=>0) (fun _=>0) (fun _=>0) (fun _=>0) (fun _=>0) (fun _=>0),.sc (.it 5)]) (prsV p q n))) ?_ (by kernel_rfl)
    refine ⟨ilt_t h3,ix2_of h3 (ld_P p o1 _ h3 ⟨by rw [hp];rfl,rfl,rfl,?_⟩)⟩
    rw [prsV_no (allB_false (i:=i) (by unfold okB prB;rw [hp];rfl) h3)]
    exact endR2_z
   ·cases hq:(lo2 (q.a i) (q.b i) (q.c i) (q.d i) && isQ (q.a i) (q.b i) (q.c i) (q.d i) (q.z i))
    ·refine roundF mixed tt_ok GPr_ok 60 [⟨4,0,.lit (.bo true)⟩,⟨6,2,.sym⟩,⟨6,3,.as (cP1 p i)⟩,⟨6,5,.lit (.bo false)⟩,⟨6,9,.sym⟩,⟨6,10,.as (cQ1 q i)⟩,⟨6,12,.lit (.bo true)⟩] ?_
     refine same (p:=ilt (Int.ofNat i) (Int.ofNat n) = true/\ix2 i n (asP (takeC (dropC (cP p 0 n ++ [.one (.rw (wrapB v1.1 v1.2))]) (addN o1 (mulN i 13) - o1)) 13) (cP1 p i)/\o1 <= addN o1 (mulN i 13)/\addN o1 (mulN i 13) - o1 + 13 < clen (cP p 0 n ++ [.one (.rw (wrapB v1.1 v1.2))]) /\
      (!(lo1 (p.x i) (p.y i) && isE (p.x i) (p.y i) (p.z i))) = false/\ix2 i n (asP (takeC (dropC (cQ q 0 n ++ [.one (.rw (wrapB v2.1 v2.2))]) (addN o2 (mulN i 25) - o2)) 25) (cQ1 q i)/\o2 <= addN o2 (mulN i 25)/\addN o2 (mulN i 25) - o2 + 25 < clen (cQ q 0 n ++ [.one (.rw (wrapB v2.1 v2.2))]) /\
      (!(lo2 (q.a i) (q.b i) (q.c i) (q.d i) && isQ (q.a i) (q.b i) (q.c i) (q.d i) (q.z i))) = true/\wP t1 o1 p n v1 = wP t1 o1 p n v1/\wQ t2 o2 q n v2 = wQ t2 o2 q n v2/\endR2 (.tup [v12 (fun _=>0) (fun _=>0) (fun _=>0) (fun _=>0) (fun _=>0) (fun _=>0) (fun _=>0) (fun _=>0) (fun _=>0) (fun _=>0) (fun _=>0) (fun _=>0),.sc (.it 5)]) (prsV p q n)))) ?_ (by kernel_rfl)
     refine ⟨ilt_t h3,ix2_of h3 (ld_P p o1 _ h3 ⟨by rw [hp];rfl,ix2_of h3 (ld_Q q o2 _ h3 ⟨by rw [hq];rfl,rfl,rfl,?_⟩)⟩)⟩
     rw [prsV_no (allB_false (i:=i) (by unfold okB prB;rw [hp,hq];rfl) h3)]
     exact endR2_z
    ·refine roundF mixed tt_ok GPr_ok 60 [⟨4,0,.lit (.bo true)⟩,⟨6,2,.sym⟩,⟨6,3,.as (cP1 p i)⟩,⟨6,5,.lit (.bo false)⟩,⟨6,9,.sym⟩,⟨6,10,.as (cQ1 q i)⟩,⟨6,12,.lit (.bo false)⟩,⟨8,0,.lit (.it (Int.ofNat (i+1)))⟩] ?_
     refine same (p:=ilt (Int.ofNat i) (Int.ofNat n) = true/\ix2 i n (asP (takeC (dropC (cP p 0 n ++ [.one (.rw (wrapB v1.1 v1.2))]) (addN o1 (mulN i 13) - o1)) 13) (cP1 p i)/\o1 <= addN o1 (mulN i 13)/\addN o1 (mulN i 13) - o1 + 13 < clen (cP p 0 n ++ [.one (.rw (wrapB v1.1 v1.2))]) /\
      (!(lo1 (p.x i) (p.y i) && isE (p.x i) (p.y i) (p.z i))) = false/\ix2 i n (asP (takeC (dropC (cQ q 0 n ++ [.one (.rw (wrapB v2.1 v2.2))]) (addN o2 (mulN i 25) - o2)) 25) (cQ1 q i)/\o2 <= addN o2 (mulN i 25)/\addN o2 (mulN i 25) - o2 + 25 < clen (cQ q 0 n ++ [.one (.rw (wrapB v2.1 v2.2))]) /\
      (!(lo2 (q.a i) (q.b i) (q.c i) (q.d i) && isQ (q.a i) (q.b i) (q.c i) (q.d i) (q.z i))) = false/\wrapI (Int.ofNat i + 1) = Int.ofNat (i + 1)/\true = true/\∃ j:{i:Nat // i <= n/\allB p q i = true},n - j.1 < n - i/\[sl3 0 o1 n c1,sl3 1 o2 n c2,ptR 2,iv 0,iv (Int.ofNat n),iv (Int.ofNat (i + 1))] = [sl3 0 o1 n c1,sl3 1 o2 n c2,ptR 2,iv 0,iv (Int.ofNat n),iv (Int.ofNat j.1)]/\[wP t1 o1 p n v1,wQ t2 o2 q n v2,zE] = [wP t1 o1 p n v1,wQ t2 o2 q n v2,zE]))) ?_ (by kernel_rfl)
     exact ⟨ilt_t h3,ix2_of h3 (ld_P p o1 _ h3 ⟨by rw [hp];rfl,ix2_of h3 (ld_Q q o2 _ h3 ⟨by rw [hq];rfl,wrapI_succ (by omega),rfl,⟨i + 1,by omega,by show (allB p q i && okB p q i) = true;rw [ha];unfold okB prB;rw [hp,hq];rfl⟩,by simp only;omega,rfl,rfl⟩)⟩)⟩
  ·have:i = n:=by omega
   subst this
   refine roundF mixed tt_ok GPr_ok 40 [⟨4,0,.lit (.bo false)⟩] ?_
   refine same (p:=ilt (Int.ofNat i) (Int.ofNat i) = false/\true = true/\∃ j:{i':Nat // i' <= i/\allB p q i' = true},j.1 = i/\[sl3 0 o1 i c1,sl3 1 o2 i c2,ptR 2,iv 0,iv (Int.ofNat i),iv (Int.ofNat i)] = [sl3 0 o1 i c1,sl3 1 o2 i c2,ptR 2,iv 0,iv (Int.ofNat i),iv (Int.ofNat j.1)]/\[wP t1 o1 p i v1,wQ t2 o2 q i v2,zE] = [wP t1 o1 p i v1,wQ t2 o2 q i v2,zE]) ?_ (by kernel_rfl)
   exact ⟨ilt_f (by omega),rfl,⟨i,Nat.le_refl _,ha⟩,rfl,rfl,rfl⟩
 ·intro ⟨i,hi,ha⟩ junk h3
  simp only at hi ha h3
  subst h3
  exact prs_two p q i hn t1 o1 c1 t2 o2 c2 v1 v2 junk ha
end Go.Proofs.Ytnjocbcjejpklaa
namespace Go.Rq
open Go
inductive CK where
 | i (k:IntKind)
 | b
def CsOk:List CK->List Value->Prop
 | [],[]=>True
 | .i k :: r,.int k' n :: vs=>k' = k/\(Lit.int k n).wf = true/\CsOk r vs
 | .b :: r,.bool _ :: vs=>CsOk r vs
 | _,_=>False
mutual
inductive FlatTy (P:Program):TypeId->List CK->Prop
 | int {t:TypeId} {k:IntKind} (hu:P.underlying t = some (.int k)):FlatTy P t [.i k]
 | bool {t:TypeId} (hu:P.underlying t = some .bool):FlatTy P t [.b]
 | arr {t e:TypeId} {n:Nat} {sk:List CK} (hu:P.underlying t = some (.array n e)) (he:FlatTy P e sk) (hc:P.cellsOf e = sk.length) (ht:P.cellsOf t = n * sk.length):FlatTy P t (List.replicate n sk).flatten
 | str {t:TypeId} {fs:Array Field} {sk:List CK} (hu:P.underlying t = some (.struct fs)) (hf:FlatFs P 0 fs.toList sk) (ht:P.cellsOf t = sk.length):FlatTy P t sk
inductive FlatFs (P:Program):Nat->List Field->List CK->Prop
 | nil (o:Nat):FlatFs P o [] []
 | cons {f:Field} {fs:List Field} {o:Nat} {sk r:List CK} (ho:f.offset = o) (h:FlatTy P f.type sk) (hc:P.cellsOf f.type = sk.length) (hr:FlatFs P (o + sk.length) fs r):FlatFs P o (f :: fs) (sk ++ r)
end
theorem CsOk.append:∀ {a b:List CK} {xs ys:List Value},CsOk a xs->CsOk b ys->CsOk (a ++ b) (xs ++ ys)
 | [],_,[],_,_,h=>h
 | .i k :: r,b,.int k' n :: vs,ys,h,h2=>⟨h.1,h.2.1,CsOk.append (a:=r) h.2.2 h2⟩
 | .b :: r,b,.bool _ :: vs,ys,h,h2=>CsOk.append (a:=r) h h2
 | [],_,_ :: _,_,h,_=>h.elim
 | .i _ :: _,_,[],_,h,_=>h.elim
 | .b :: _,_,[],_,h,_=>h.elim
theorem CsOk.slices {sk:List CK}:∀ {n:Nat} {cs:List Value},cs.length = n * sk.length->(∀ i,i < n->CsOk sk ((cs.drop (i * sk.length)).take sk.length))->CsOk (List.replicate n sk).flatten cs
 | 0,cs,hl,_=>by
  have:cs = []:=by simpa using hl
  subst this;trivial
 | n + 1,cs,hl,h=>by
  rw [List.replicate_succ,List.flatten_cons,<-List.take_append_drop sk.length cs]
  refine CsOk.append (by simpa using h 0 (by omega)) (CsOk.slices (by rw [List.length_drop,hl,Nat.succ_mul];omega) fun i hi=>?_)
  have:=h (i + 1) (by omega)
  rw [List.drop_drop]
  rw [show sk.length + i * sk.length = (i + 1) * sk.length by rw [Nat.succ_mul];omega]
  exact this
section
variable {H:Type} {enc:TypeId × Value->H} {P:Program}
theorem mapM_congr' {α β:Type} {f g:α->Option β}:∀ {l:List α},(∀ x ∈ l,f x = g x)->l.mapM f = l.mapM g
 | [],_=>rfl
 | x :: r,h=>by
  rw [List.mapM_cons,List.mapM_cons,h x (by simp),mapM_congr' fun y hy=>h y (by simp [hy])]
mutual
theorem FlatTy.same {t:TypeId} {sk:List CK} (h:FlatTy P t sk):∀ (fuel:Nat) (cs:List Value) (w w':World) (b b':Nat) (sp sp':Nat->Bool) (hd hd':Bool),
  DataW.trod enc P w b sp hd fuel t cs = DataW.trod enc P w' b' sp' hd' fuel t cs:=by
 intro fuel cs w w' b b' sp sp' hd hd'
 cases fuel with
 | zero=>simp [DataW.trod]
 | succ m =>
  unfold DataW.trod
  cases h with
  | int hu=>rw [hu];cases cs with
   | nil=>rfl
   | cons c r=>cases r <;> cases c <;> rfl
  | bool hu=>rw [hu];cases cs with
   | nil=>rfl
   | cons c r=>cases r <;> cases c <;> rfl
  | arr hu he hc ht =>
   rw [hu]
   simp only
   rw [mapM_congr' fun i _=>FlatTy.same he m _ w w' b b' sp sp' hd hd']
  | str hu hf ht =>
   rw [hu]
   simp only
   rw [FlatFs.same hf m cs w w' b b' sp sp' hd hd']
theorem FlatFs.same {o:Nat} {fs:List Field} {sk:List CK} (h:FlatFs P o fs sk):∀ (fuel:Nat) (cs:List Value) (w w':World) (b b':Nat) (sp sp':Nat->Bool) (hd hd':Bool),
  (fs.mapM fun f=>DataW.trod enc P w b sp hd fuel f.type ((cs.drop f.offset).take (P.cellsOf f.type))) = fs.mapM fun f=>DataW.trod enc P w' b' sp' hd' fuel f.type ((cs.drop f.offset).take (P.cellsOf f.type)):=by
 intro fuel cs w w' b b' sp sp' hd hd'
 cases h with
 | nil=>rfl
 | cons ho h hc hr=>rw [List.mapM_cons,List.mapM_cons,FlatTy.same h fuel _ w w' b b' sp sp' hd hd',FlatFs.same hr fuel cs w w' b b' sp sp' hd hd']
end
theorem flatMap_nil {α β:Type} {xs:List (α × List β)} (h:∀ (i:Nat) (x:α × List β),xs[i]? = some x->x.2 = []):xs.flatMap (·.2) = []:=by
 rw [List.flatMap_eq_nil_iff]
 intro x hx
 obtain ⟨i,hi⟩:=List.getElem?_of_mem hx
 exact h i x hi
def CellsT (H:Type) (enc:TypeId × Value->H) (P:Program) (t:TypeId) (sk:List CK):Prop :=
 ∀ (fuel:Nat) (cs:List Value) (w:World) (b:Nat) (sp:Nat->Bool) (hd:Bool) (x:DataW H × List MemPlace),DataW.trod enc P w b sp hd fuel t cs = some x->CsOk sk cs/\x.2 = []
def CellsF (H:Type) (enc:TypeId × Value->H) (P:Program) (o:Nat) (fs:List Field) (sk:List CK):Prop :=
 ∀ (fuel:Nat) (cs:List Value) (w:World) (b:Nat) (sp:Nat->Bool) (hd:Bool) (xs:List (DataW H × List MemPlace)),
  cs.length = o + sk.length->xs.length = fs.length->(∀ (i:Nat) (f:Field),fs[i]? = some f->DataW.trod enc P w b sp hd fuel f.type ((cs.drop f.offset).take (P.cellsOf f.type)) = xs[i]?)->CsOk sk (cs.drop o)/\xs.flatMap (·.2) = []
theorem cells_arr {t e:TypeId} {n:Nat} {sk:List CK} (hu:P.underlying t = some (.array n e)) (he:CellsT H enc P e sk) (hc:P.cellsOf e = sk.length) (ht:P.cellsOf t = n * sk.length):CellsT H enc P t (List.replicate n sk).flatten:=by
 intro fuel cs w b sp hd x hx
 obtain ⟨xs,m,rfl,rfl,hl,hn,hi⟩:=DataW.trod_array hu hx
 have key:∀ i,i < xs.length->∃ y,xs[i]? = some y:=fun i hi=>⟨xs[i],by simp [hi]⟩
 refine ⟨CsOk.slices (by rw [hl,ht]) fun i h1=>?_,flatMap_nil fun i y hy=>?_⟩
 ·obtain ⟨y,hy⟩:=key i (by omega)
  have:=hi i h1
  rw [hy] at this
  rw [<-hc]
  exact (he m _ w b sp hd y this).1
 ·have h1:i < xs.length:=(List.getElem?_eq_some_iff.1 hy).1
  have:=hi i (by omega)
  rw [hy] at this
  exact (he m _ w b sp hd y this).2
theorem cells_str {t:TypeId} {fs:Array Field} {sk:List CK} (hu:P.underlying t = some (.struct fs)) (hf:CellsF H enc P 0 fs.toList sk) (ht:P.cellsOf t = sk.length):CellsT H enc P t sk:=by
 intro fuel cs w b sp hd x hx
 obtain ⟨xs,m,rfl,rfl,hl,hn,hi⟩:=DataW.trod_struct hu hx
 have:=hf m cs w b sp hd xs (by rw [hl,ht];simp) (by simpa using hn) fun i f hf=>hi i f (by simpa using hf)
 exact ⟨by simpa using this.1,this.2⟩
theorem cells_cons {f:Field} {fs:List Field} {o:Nat} {sk r:List CK} (ho:f.offset = o) (h:CellsT H enc P f.type sk) (hc:P.cellsOf f.type = sk.length) (hr:CellsF H enc P (o + sk.length) fs r):CellsF H enc P o (f :: fs) (sk ++ r):=by
 intro fuel cs w b sp hd xs hl hx hi
 cases xs with
 | nil=>simp at hx
 | cons y ys =>
  have h0:=hi 0 f rfl
  simp only [List.getElem?_cons_zero] at h0
  have c0:=h fuel _ w b sp hd y h0
  have cr:=hr fuel cs w b sp hd ys (by rw [hl,List.length_append];omega) (by simpa using hx) fun i f' hf'=>by
   have:=hi (i + 1) f' (by simpa using hf')
   simpa using this
  refine ⟨?_,by rw [List.flatMap_cons,c0.2,cr.2];rfl⟩
  rw [<-List.take_append_drop sk.length (cs.drop o)]
  refine CsOk.append ?_ ?_
  ·rw [<-hc,<-ho];exact c0.1
  ·rw [List.drop_drop];exact cr.1
theorem FlatTy.cells {t:TypeId} {sk:List CK} (h:FlatTy P t sk):CellsT H enc P t sk:=by
 refine FlatTy.rec (motive_1:=fun t sk _=>CellsT H enc P t sk) (motive_2:=fun o fs sk _=>CellsF H enc P o fs sk) ?_ ?_ ?_ ?_ ?_ ?_ h
 ·intro t k hu fuel cs w b sp hd x hx
  obtain ⟨n,rfl,rfl,hw⟩:=DataW.trod_int hu hx
  exact ⟨⟨rfl,hw,trivial⟩,rfl⟩
 ·intro t hu fuel cs w b sp hd x hx
  obtain ⟨n,rfl,rfl⟩:=DataW.trod_bool hu hx
  exact ⟨trivial,rfl⟩
 ·intro t e n sk hu _ hc ht he
  exact cells_arr hu he hc ht
 ·intro t fs sk hu _ ht hf
  exact cells_str hu hf ht
 ·intro o fuel cs w b sp hd xs hl hx hi
  have:xs = []:=by simpa using hx
  subst this
  rw [List.drop_eq_nil_of_le (by simp at hl;omega)]
  exact ⟨trivial,rfl⟩
 ·intro f fs o sk r ho _ hc _ h hr
  exact cells_cons ho h hc hr
theorem FlatTy.trod {t:TypeId} {sk:List CK} (h:FlatTy P t sk) {w:World} {b:Nat} {sp:Nat->Bool} {hd:Bool} {v:Value} {d:DataW H} {p:List MemPlace} (hT:DataW.Trod enc P w b sp hd t v d p) :
  CsOk sk v.cells.toList/\p = []/\∀ (w':World) (b':Nat) (sp':Nat->Bool) (hd':Bool),DataW.Trod enc P w' b' sp' hd' t v d []:=by
 obtain ⟨fuel,hf⟩:=hT
 have hc:=h.cells fuel _ w b sp hd _ hf
 have hp:p = []:=hc.2
 subst hp
 exact ⟨hc.1,rfl,fun w' b' sp' hd'=>⟨fuel,by rw [<-FlatTy.same h fuel _ w w' b b' sp sp' hd hd'];exact hf⟩⟩
end
theorem wf_u64 {z:Int} (h:(Lit.int .u64 z).wf = true):Int.ofNat (z.toNat % M .u64) = z:=by
 simp only [Lit.wf,IntKind.min,IntKind.max,IntKind.signed,IntKind.bits,Bool.and_eq_true] at h
 simp only [M,Int.ofNat_eq_natCast]
 simp at h
 omega
theorem CsOk.u64 {r:List CK}:∀ {n:Nat} {vs:List Value},CsOk (List.replicate n (.i .u64) ++ r) vs->∃ (g:Nat->Nat) (vs':List Value),vs = (Cell.ws .u64 n g).vals (fun _=>0) ++ vs'/\CsOk r vs'
 | 0,vs,h=>⟨fun _=>0,vs,by simp [Cell.vals],by simpa using h⟩
 | n + 1,vs,h=>by
  rw [List.replicate_succ,List.cons_append] at h
  match vs,h with
  | .int k' z :: vs,h =>
   obtain ⟨rfl,hw,hr⟩:=h
   obtain ⟨g,vs',rfl,h'⟩:=CsOk.u64 (n:=n) (r:=r) hr
   refine ⟨fun j=>match j with | 0=>z.toNat | j + 1=>g j,vs',?_,h'⟩
   simp only [Cell.vals,List.range_succ_eq_map,List.map_cons,List.map_map,List.cons_append,wf_u64 hw]
   rfl
theorem CsOk.bo {r:List CK} {vs:List Value} (h:CsOk (.b :: r) vs):∃ (b:Bool) (vs':List Value),vs = .bool b :: vs'/\CsOk r vs':=by
 match vs,h with
 | .bool b :: vs,h=>exact ⟨b,vs,rfl,h⟩
theorem CsOk.nil {vs:List Value} (h:CsOk [] vs):vs = []:=by
 match vs,h with
 | [],_=>rfl
end Go.Rq
namespace Go.Proofs.Ytnjocbcjejpklaa
open Go.Rq Go
set_option maxRecDepth 100000
theorem flat22:FlatTy Try.prog 22 [.i .u64]:=.int Try.underlying22
theorem flat24:FlatTy Try.prog 24 (List.replicate 6 (.i .u64)):=.arr Try.underlying24 flat22 (by kernel_rfl) (by kernel_rfl)
theorem flat26:FlatTy Try.prog 26 (List.replicate 6 (.i .u64) ++ (List.replicate 6 (.i .u64) ++ [])):=.arr Try.underlying26 flat24 (by kernel_rfl) (by kernel_rfl)
end Go.Proofs.Ytnjocbcjejpklaa
namespace Go.Proofs.Ytnjocbcjejpklaa
open Go.Rq Go
set_option maxRecDepth 100000
theorem flat4:FlatTy Try.prog 4 [.b]:=.bool Try.underlying4
theorem flatP1:FlatTy Try.prog 41 (List.replicate 6 (.i .u64) ++ (List.replicate 6 (.i .u64) ++ ([.b] ++ []))) :=
 .str Try.underlying41 (.cons rfl flat24 (by kernel_rfl) (.cons rfl flat24 (by kernel_rfl) (.cons rfl flat4 (by kernel_rfl) (.nil _)))) (by kernel_rfl)
theorem flatP2:FlatTy Try.prog 43 ((List.replicate 6 (.i .u64) ++ (List.replicate 6 (.i .u64) ++ [])) ++ ((List.replicate 6 (.i .u64) ++ (List.replicate 6 (.i .u64) ++ [])) ++ ([.b] ++ []))) :=
 .str Try.underlying43 (.cons rfl flat26 (by kernel_rfl) (.cons rfl flat26 (by kernel_rfl) (.cons rfl flat4 (by kernel_rfl) (.nil _)))) (by kernel_rfl)
open Go.ChangeShapes Go.WideShapes Go.ChangeAt Go.RowKit
section
variable {H:Type} {enc:TypeId × Value->H} {P:Program} {w:World} {base:Nat} {spare:Nat->Bool} {held:Bool}
end
end Go.Proofs.Ytnjocbcjejpklaa
namespace Go.Rq
open Go
theorem relH_win {w:World} {ρ:Ren} {W:Heap} (h:∀ i b,hget W i = some b->b.lo = 3/\plainCs b.cells = true/\WinAt ρ i b w):RelH ρ W w:=by
 refine ⟨fun i b hb=>?_,fun i b hb h0=>?_,fun i b hb h1=>?_,fun i b hb=>?_,fun i j hi=>?_,fun i b hb _=>(h i b hb).2.2,fun i j b hi=>?_⟩
 ·exact cok_mono (fun _ h=>h.elim) (zok_of (v:=.agg b.cells) (h i b hb).2.1)
 ·have:=(h i b hb).1;omega
 ·have:=(h i b hb).1;omega
 ·have:=(h i b hb).1;omega
 ·obtain ⟨b,hb,hl⟩:=hi
  have:=(h i b hb).1;omega
 ·obtain ⟨b,hb,hl⟩:=hi
  have:=(h i b hb).1;omega
theorem see_calls {P:Program} {T:TT} (hT:TTOk P T) {f:FuncId} {fn:Func} (hf:P.funcs[f]? = some fn) (hb:fn.body = some (bodyOf fn)) {xs:List Value} {w:World} {v:AV}
  {ρW:Ren} {W:Heap} {args:List AV} (hW:∀ i b,hget W i = some b->b.lo = 3/\plainCs b.cells = true/\WinAt ρW i b w) (hav:args.map (AV.val ρW) = xs) (hab:args.all (avB W) = true)
  (hwalk:AWqS P (Dm W) (flatC (bodyOf fn)) (FEndV T fn v W) ⟨frame0 args fn.ntmps,W⟩) :
  Calls P f xs.toArray w (fun e w'=>e = .returned (v.val fun _=>0)/\StepW w w'):=by
 refine calls_of_wp hf hb ?_
 have rW:=relH_win hW
 have hrel:Rel ρW ⟨frame0 args fn.ntmps,W⟩ { tmps:=xs.toArray ++ Array.replicate (fn.ntmps - xs.toArray.size) undef,defers:=[] } w:=by
  refine ⟨?_,rfl,fun x hx=>?_,rW⟩
  ·have hl:args.length = xs.length:=by have:=congrArg List.length hav;simpa using this
   apply Array.ext'
   simp [frame0,hav,hl,undefA,AV.val,undef]
  ·unfold frame0 at hx
   rcases List.mem_append.1 hx with hx | hx
   ·exact avB_spec (List.all_eq_true.1 hab x hx)
   ·have:=(List.mem_replicate.1 hx).2
    subst this
    intro v hv;cases hv
 refine wp_mono (AWq.of_flat _ hwalk ρW w ρW _ w hrel (StepR.refl _ _ _)) fun e a2 w' ⟨s',ρ',q,r',st⟩=>?_
 have fin:eqHs s'.h (∃ v',resA T s' fn.results.toList = some v'/\vokB v' = true/\∀ ρ,v'.val ρ = v.val ρ) 0 W->a2.defers = []/\∃ u,(results fn a2.tmps).run P w' = .ok u w'/\(Ending.returned u = .returned (v.val fun _=>0)/\StepW w w'):=by
  intro q
  obtain ⟨⟨v',q3,q3b,q4⟩,q5⟩:=eqHs_spec q
  have hres:=resA_run hT r' (fn:=fn) q3
  have hkeep:∀ B,B < w.heap.size->w'.heap[B]? = w.heap[B]?:=fun B hB=>by
   by_cases hex:∃ j,Dm W j/\ρW j = B
   ·obtain ⟨j,⟨b,hj⟩,e⟩:=hex
    have hjl:=hget_lt hj
    obtain ⟨h3,hp,arr,fr,a1,a2,_⟩:=hW j b hj
    have hj':hget s'.h j = some b:=by have:=q5 j hjl;rw [Nat.zero_add] at this;rw [this,hj]
    obtain ⟨arr',fr',b1,b2,_⟩:=r'.mem.win j b hj' h3
    have ag:ρ' j = ρW j:=st.agree j ⟨b,hj⟩
    rw [ag,e] at b1
    rw [e] at a1
    rw [plain_cvals hp ρ' ρW,a2] at b2
    have e3:=wrapB_inj (Option.some.inj b2)
    rw [a1,b1,e3.1,e3.2]
   ·exact st.keep B hB fun j hj e=>hex ⟨j,hj,e⟩
  refine ⟨r'.defers,_,hres.1,?_,⟨st.os,st.output,st.size,hkeep⟩⟩
  rw [q4,<-q4 ρ',q4 ρ',<-q4 (fun _=>0),<-q4 ρ']
  exact congrArg _ (AV.val_agree (D:=fun _=>False) (fun _ h=>h.elim) (vok_of q3b))
 cases e with
 | normal=>exact fin q
 | ret=>exact fin q
 | exit j=>exact q.elim
 | goto l=>exact q.elim
 | panic ch=>exact q.elim
 | outgrown=>exact q.elim
end Go.Rq
namespace Go.Proofs.Ytnjocbcjejpklaa
open Go.Rq Go Go.ChangeShapes Go.WideShapes Go.ChangeAt Go.RowKit
set_option maxRecDepth 100000
theorem row_of_cell {w:World} {a:Addr} {v:Value} (h:w.cell? a = some v):∃ arr t fr,w.heap[a.block]? = some (.cells arr t fr)/\arr[a.off]? = some v/\a.spot = none:=by
 unfold World.cell? at h
 split at h
 ·rename_i c t fr hc
  split at h
  ·cases h
  ·rename_i hs
   exact ⟨c,t,fr,hc,h,by simpa using hs⟩
 ·cases h
theorem cell_keep {w w':World} (hs:StepW w w') {a:Addr} {v:Value} (h:w.cell? a = some v):w'.cell? a = some v:=by
 obtain ⟨arr,t,fr,h1,h2,h3⟩:=row_of_cell h
 have hb:=(Array.getElem?_eq_some_iff.1 h1).1
 have e:=hs.keep _ hb
 unfold World.cell? at h ⊢
 rw [e];exact h
def flat (c:Nat->List Cell):Nat->Nat->List Cell
 | _,0=>[]
 | k,n + 1=>c k ++ flat c (k + 1) n
theorem cP_flat (p:PL):∀ n k,cP p k n = flat (cP1 p) k n
 | 0,_=>rfl
 | n + 1,k=>by
  show _ :: _ :: _ :: cP p (k + 1) n = _
  rw [cP_flat p n (k + 1)];rfl
theorem cQ_flat (q:QL):∀ n k,cQ q k n = flat (cQ1 q) k n
 | 0,_=>rfl
 | n + 1,k=>by
  show _ :: _ :: _ :: _ :: _ :: cQ q (k + 1) n = _
  rw [cQ_flat q n (k + 1)];rfl
theorem flat_len {c:Nat->List Cell} {s:Nat} (hs:∀ k,(cvals (fun _=>0) (c k)).length = s):∀ n k,(cvals (fun _=>0) (flat c k n)).length = s * n
 | 0,_=>by simp [flat,cvals]
 | n + 1,k=>by
  show (cvals _ (c k ++ flat c (k + 1) n)).length = _
  rw [cvals_append,List.length_append,hs,flat_len hs n (k + 1),Nat.mul_succ];omega
theorem flat_at {c:Nat->List Cell} {s:Nat} (hs:∀ k,(cvals (fun _=>0) (c k)).length = s):∀ n k i r,i < n->r < s->(cvals (fun _=>0) (flat c k n))[s * i + r]? = (cvals (fun _=>0) (c (k + i)))[r]?
 | 0,_,_,_,h,_=>absurd h (Nat.not_lt_zero _)
 | n + 1,k,0,r,_,h=>by
  rw [Nat.mul_zero,Nat.zero_add,Nat.add_zero]
  show (cvals _ (c k ++ flat c (k + 1) n))[r]? = _
  rw [cvals_append,List.getElem?_append_left (by rw [hs];exact h)]
  rfl
 | n + 1,k,i + 1,r,h,h'=>by
  have e:=flat_at hs n (k + 1) i r (by omega) h'
  show (cvals _ (c k ++ flat c (k + 1) n))[_]? = _
  have e2:s * (i + 1) = s * i + s:=Nat.mul_succ ..
  rw [cvals_append,List.getElem?_append_right (by rw [hs,e2];omega),hs,show s * (i + 1) + r - s = s * i + r by omega,e,show k + 1 + i = k + (i + 1) by omega]
def SeeL (w:World) (s:Nat) (c:Nat->List Cell) (n:Nat) (v:Value):Prop :=
 (n = 0/\∃ o cap,v = .slice o 0 cap)∨∃ B t off cap arr fr,v = .slice (some ⟨B,off,none⟩) n cap/\w.heap[B]? = some (.cells arr t fr)/\∀ j,j < s * n->arr[off + j]? = (cvals (fun _=>0) (flat c 0 n))[j]?
theorem list_open {tS tE:TypeId} {s:Nat} {α:Type} [Inhabited α] (ht:Try.prog.underlying tS = some (.slice tE)) (hc:Try.prog.cellsOf tE = s) (hs0:0 < s) (c:α->List Cell) (hs:∀ x,(cvals (fun _=>0) (c x)).length = s)
  {H:Type} {enc:TypeId × Value->H} {Wd:World} {b0:Nat}
  (hel:∀ {cs:Array Value} {d:DataW H} {pl:List MemPlace},DataW.Trod enc Try.prog Wd 0 (fun _=>true) true tE (.agg cs) d pl->∃ x:α,cs = (cvals (fun _=>0) (c x)).toArray/\pl = []/\∀ (W':World) (b:Nat) (sp:Nat->Bool) (hd:Bool),DataW.Trod enc Try.prog W' b sp hd tE (.agg cs) d [])
  {v:Value} {d:DataW H} {p:List MemPlace} (h:DataW.Trod enc Try.prog Wd 0 (fun _=>true) true tS v d p) (hv:Value.okWide Try.prog Wd .any b0 tS v) :
  ∃ (n:Nat) (X:Nat->α),SeeL Wd s (fun i=>c (X i)) n v/\∀ (W':World),StepW Wd W'->∀ sp:Nat->Bool,(∀ q ∈ p,sp q.block = true)->DataW.Trod enc Try.prog W' 0 sp true tS v d p:=by
 obtain ⟨a1,len,cap,rfl⟩:=okWide_slice ht hv
 obtain ⟨fuel,hf⟩:=h
 rcases Go.Deep.open_slice ht hf with ⟨hcs,hx⟩ | ⟨a,len',cap',m,k,D,Pl,hcs,hb,hl,hm,hmm,hx,hall⟩
 ·simp [Value.cells] at hcs
  obtain ⟨rfl,rfl,rfl⟩:=hcs
  simp only [Prod.mk.injEq] at hx
  obtain ⟨rfl,rfl⟩:=hx
  refine ⟨0,fun _=>default,.inl ⟨rfl,none,0,rfl⟩,fun W' hst sp hsp=>⟨1,?_⟩⟩
  rw [DataW.trod_step]
  unfold DataW.trodStep
  simp [ht,Value.cells]
 ·simp [Value.cells] at hcs
  obtain ⟨rfl,rfl,rfl⟩:=hcs
  simp only [Prod.mk.injEq] at hx
  obtain ⟨rfl,rfl⟩:=hx
  simp only [if_true] at hmm
  have hmm:=hmm.symm
  subst hmm
  by_cases h0:cap = 0
  ·have:len = 0:=by omega
   subst this;subst h0
   refine ⟨0,fun _=>default,.inl ⟨rfl,_,_,rfl⟩,fun W' hst sp hsp=>?_⟩
   cases hb':sp a.block
   ·have:=Go.Deep.shut_slice (enc:=enc) (w:=W') (held:=true) (spare:=sp) ht hb (Nat.le_refl 0) hm hb' D Pl (fun i hi=>absurd hi (Nat.not_lt_zero _))
    simpa using this
   ·have:=Go.Deep.shut_slice_whole (enc:=enc) (w:=W') (held:=true) (spare:=sp) ht hb (Nat.le_refl 0) hm hb' D Pl (fun i hi=>absurd hi (Nat.not_lt_zero _))
    simpa using this
  ·have key:∀ i,i < cap->∃ x:α,Wd.cells? 0 (a.add (i * s)) s = some (cvals (fun _=>0) (c x))/\Pl i = []/\∀ (W':World) (b:Nat) (sp:Nat->Bool) (hd:Bool),∃ k,DataW.trod enc Try.prog W' b sp hd k tE (cvals (fun _=>0) (c x)) = some (D i,[]):=by
    intro i hi
    obtain ⟨cs',h1,h2⟩:=hall i hi
    rw [hc] at h1
    obtain ⟨x,e1,e2,e3⟩:=hel (cs:=cs'.toArray) ⟨k,by simpa [Value.cells] using h2⟩
    have e1':cs' = cvals (fun _=>0) (c x):=by have:=congrArg Array.toList e1;simpa using this
    refine ⟨x,by rw [h1,e1'],e2,fun W' b sp hd=>?_⟩
    obtain ⟨k',hk'⟩:=e3 W' b sp hd
    exact ⟨k',by rw [<-e1'];simpa [Value.cells] using hk'⟩
   obtain ⟨X,hX⟩:=Go.Deep.choose_lt key
   have cells:∀ i,i < cap->∀ r,r < s->Wd.cell? ((a.add (i * s)).add r) = (cvals (fun _=>0) (c (X i)))[r]?:=fun i hi r hr=>(World.cells?_some (hX i hi).1).2.2 r hr
   obtain ⟨x0,hx0⟩:∃ y,(cvals (fun _=>0) (c (X 0)))[0]? = some y:=⟨_,List.getElem?_eq_getElem (by rw [hs];exact hs0)⟩
   have c0:=cells 0 (by omega) 0 hs0
   rw [hx0,Nat.zero_mul] at c0
   obtain ⟨arr,t,fr,h1,_,h3⟩:=row_of_cell c0
   have hsp:a.spot = none:=by
    obtain ⟨_,_,spot⟩:=a
    cases spot with
    | none=>rfl
    | some s=>simp [Addr.add] at h3
   obtain ⟨B,off,spot⟩:=a
   simp only at hsp
   subst hsp
   rw [add_plain,add_plain] at h1
   have cells':∀ i,i < cap->∀ r,r < s->Wd.cell? ⟨B,off + i * s + r,none⟩ = (cvals (fun _=>0) (c (X i)))[r]?:=fun i hi r hr=>by
    have:=cells i hi r hr
    rw [add_plain,add_plain] at this
    exact this
   refine ⟨len,X,.inr ⟨B,t,off,cap,arr,fr,rfl,h1,fun j hj=>?_⟩,fun W' hst sp hsp=>?_⟩
   ·have hj':j / s < len:=by rw [Nat.div_lt_iff_lt_mul hs0,Nat.mul_comm];exact hj
    have hr:=Nat.mod_lt j hs0
    have e:j = s * (j / s) + j % s:=(Nat.div_add_mod j s).symm
    have c1:=cells' (j / s) (by omega) (j % s) hr
    rw [cell_of_row Wd B _ arr t fr h1] at c1
    have c2:=flat_at (c:=fun i=>c (X i)) (fun k=>hs (X k)) len 0 (j / s) (j % s) hj' hr
    rw [Nat.zero_add,<-e] at c2
    rw [c2,<-c1]
    congr 1
    rw [Nat.mul_comm (j / s) s];omega
   ·have hx:∀ i,i < cap->∃ cs n,W'.cells? 0 ((⟨B,off,none⟩:Addr).add (i * Try.prog.cellsOf tE)) (Try.prog.cellsOf tE) = some cs/\DataW.trod enc Try.prog W' 0 sp true n tE cs = some (D i,Pl i):=fun i hi=>by
     obtain ⟨e1,e2,e3⟩:=hX i hi
     obtain ⟨k',hk'⟩:=e3 W' 0 sp true
     refine ⟨_,k',?_,by rw [e2];exact hk'⟩
     rw [hc,add_plain]
     refine cells?_of (Nat.zero_le _) (hs (X i)) fun r hr=>?_
     rw [<-cells' i hi r hr]
     obtain ⟨y,hy⟩:∃ y,(cvals (fun _=>0) (c (X i)))[r]? = some y:=⟨_,List.getElem?_eq_getElem (by rw [hs];exact hr)⟩
     have:=cells' i hi r hr
     rw [hy] at this
     rw [this]
     exact cell_keep hst this
    have hsp':sp B = true:=by
     have:=hsp (.cell B (off + 0)) (List.mem_append_left _ (by
      simp only [MemPlace.row,List.mem_map,List.mem_range]
      exact ⟨0,by rw [hc];exact Nat.mul_pos (by omega) hs0,rfl⟩))
     exact this
    exact Go.Deep.shut_slice_whole (enc:=enc) (w:=W') (held:=true) (spare:=sp) ht hb hl hm hsp' D Pl hx
theorem len_P1 (p:PL) (k:Nat):(cvals (fun _=>0) (cP1 p k)).length = 13:=rfl
theorem len_Q1 (q:QL) (k:Nat):(cvals (fun _=>0) (cQ1 q k)).length = 25:=rfl
end Go.Proofs.Ytnjocbcjejpklaa
namespace Go.Proofs.Ytnjocbcjejpklaa
open Go.Rq Go
set_option maxRecDepth 100000
set_option maxHeartbeats 4000000
set_option maxRecDepth 100000
abbrev rW (o:Option Addr) (c:Nat):AV:=.v1 (.sc (.rw (.slice o 0 c)))
theorem endR2_zj (j:Int):endR2 (.tup [v12 (fun _=>0) (fun _=>0) (fun _=>0) (fun _=>0) (fun _=>0) (fun _=>0) (fun _=>0) (fun _=>0) (fun _=>0) (fun _=>0) (fun _=>0) (fun _=>0),.sc (.it j)]) (.tup [n12 0,.sc (.it j)]):=by
 refine ⟨_,rfl,rfl,fun ρ=>?_⟩
 have h3:(v12 (fun _=>0) (fun _=>0) (fun _=>0) (fun _=>0) (fun _=>0) (fun _=>0) (fun _=>0) (fun _=>0) (fun _=>0) (fun _=>0) (fun _=>0) (fun _=>0)).val ρ = (n12 0).val ρ:=v12_val zero_vF zero_vF zero_vF zero_vF zero_vF zero_vF zero_vF zero_vF zero_vF zero_vF zero_vF zero_vF ρ
 simp only [AV.val,List.map_cons,List.map_nil,h3]
theorem ieq_ne {n m:Nat} (h:Nat.beq n m = false):(!ieq (Int.ofNat n) (Int.ofNat m)) = true:=by
 have h':n ≠ m:=fun e=>by subst e;rw [Nat.beq_refl] at h;cases h
 cases e:ieq (Int.ofNat n) (Int.ofNat m)
 ·rfl
 ·exact absurd (Int.ofNat.inj ((ieq_iff _ _).1 e)) h'
theorem pr_u2 (p:PL) (q:QL) (n m t1 o1 c1 t2 o2 c2:Nat) (v1 v2:Array Value × (Nat × Nat)) (hnm:Nat.beq n m = false) :
  AWqS Try.prog (Dm [wP t1 o1 p n v1,wQ t2 o2 q m v2]) (flatC (bodyOf Try.f9)) (FEndV tt Try.f9 (.tup [n12 0,.sc (.it 2)]) [wP t1 o1 p n v1,wQ t2 o2 q m v2]) ⟨frame0 [sl3 0 o1 n c1,sl3 1 o2 m c2] (Try.f9).ntmps,[wP t1 o1 p n v1,wQ t2 o2 q m v2]⟩:=by
 refine evS_q mixed tt_ok GPr_ok 60 [⟨1,4,.lit (.bo true)⟩] (same (p:=(!ieq (Int.ofNat n) (Int.ofNat m)) = true/\wP t1 o1 p n v1 = wP t1 o1 p n v1/\wQ t2 o2 q m v2 = wQ t2 o2 q m v2/\endR2 (.tup [v12 (fun _=>0) (fun _=>0) (fun _=>0) (fun _=>0) (fun _=>0) (fun _=>0) (fun _=>0) (fun _=>0) (fun _=>0) (fun _=>0) (fun _=>0) (fun _=>0),.sc (.it 2)]) (.tup [n12 0,.sc (.it 2)])) ?_ (by kernel_rfl))
 exact ⟨ieq_ne hnm,rfl,rfl,endR2_zj 2⟩
theorem pr_uq (q:QL) (a:Option Addr) (m c1 t2 o2 c2:Nat) (v2:Array Value × (Nat × Nat)) (hnm:Nat.beq 0 m = false) :
  AWqS Try.prog (Dm [wQ t2 o2 q m v2]) (flatC (bodyOf Try.f9)) (FEndV tt Try.f9 (.tup [n12 0,.sc (.it 2)]) [wQ t2 o2 q m v2]) ⟨frame0 [rW a c1,sl3 0 o2 m c2] (Try.f9).ntmps,[wQ t2 o2 q m v2]⟩:=by
 refine evS_q mixed tt_ok GPr_ok 60 [⟨1,4,.lit (.bo true)⟩] (same (p:=(!ieq (Int.ofNat 0) (Int.ofNat m)) = true/\wQ t2 o2 q m v2 = wQ t2 o2 q m v2/\endR2 (.tup [v12 (fun _=>0) (fun _=>0) (fun _=>0) (fun _=>0) (fun _=>0) (fun _=>0) (fun _=>0) (fun _=>0) (fun _=>0) (fun _=>0) (fun _=>0) (fun _=>0),.sc (.it 2)]) (.tup [n12 0,.sc (.it 2)])) ?_ (by kernel_rfl))
 exact ⟨ieq_ne hnm,rfl,endR2_zj 2⟩
theorem pr_up (p:PL) (a:Option Addr) (n t1 o1 c1 c2:Nat) (v1:Array Value × (Nat × Nat)) (hnm:Nat.beq n 0 = false) :
  AWqS Try.prog (Dm [wP t1 o1 p n v1]) (flatC (bodyOf Try.f9)) (FEndV tt Try.f9 (.tup [n12 0,.sc (.it 2)]) [wP t1 o1 p n v1]) ⟨frame0 [sl3 0 o1 n c1,rW a c2] (Try.f9).ntmps,[wP t1 o1 p n v1]⟩:=by
 refine evS_q mixed tt_ok GPr_ok 60 [⟨1,4,.lit (.bo true)⟩] (same (p:=(!ieq (Int.ofNat n) (Int.ofNat 0)) = true/\wP t1 o1 p n v1 = wP t1 o1 p n v1/\endR2 (.tup [v12 (fun _=>0) (fun _=>0) (fun _=>0) (fun _=>0) (fun _=>0) (fun _=>0) (fun _=>0) (fun _=>0) (fun _=>0) (fun _=>0) (fun _=>0) (fun _=>0),.sc (.it 2)]) (.tup [n12 0,.sc (.it 2)])) ?_ (by kernel_rfl))
 exact ⟨ieq_ne hnm,rfl,endR2_zj 2⟩
theorem see_of {ρ:Ren} {h:Heap} {w:World} (hr:RelH ρ h w) {i:Nat} {b:Blk} (hb:hget h i = some b) (h3:b.lo = 3) (hp:plainCs b.cells = true):SeeB ρ h w i (some b):=⟨b,rfl,hp,.inr ⟨h3,.inr ⟨b,hb,h3⟩,hr.win i b hb h3⟩⟩
theorem rd_w2 {args:AV->AV->List AV} (hargs:∀ x y,args x y = [x,y]) {v:AV} (hv:vokB v = true) {p:PL} {q:QL} {n m o1 c1 o2 c2 t1 t2 b c:Nat} {v1 v2:Array Value × (Nat × Nat)} {h:Heap} (hbc:Nat.beq b c = false) (g1:hget h b = wP t1 o1 p n v1) (g2:hget h c = wQ t2 o2 q m v2)
  (hwalk:AWqS Try.prog (Dm [wP t1 o1 p n v1,wQ t2 o2 q m v2]) (flatC (bodyOf Try.f9)) (FEndV tt Try.f9 v [wP t1 o1 p n v1,wQ t2 o2 q m v2]) ⟨frame0 [sl3 0 o1 n c1,sl3 1 o2 m c2] (Try.f9).ntmps,[wP t1 o1 p n v1,wQ t2 o2 q m v2]⟩) :
  CallOk Try.prog 9 [sl3 b o1 n c1,sl3 c o2 m c2] h v h:=by
 refine rd_view tt_ok Try.func9 (by kernel_rfl) (by kernel_rfl) hv fun ρ w hr=>?_
 have hnd:nodupB [b,c] = true:=by simp only [nodupB,notIn,hbc]
 have hp1:=plain_P p v1 n 0
 have hp2:=plain_Q q v2 m 0
 obtain ⟨r1,r2,r3,r4⟩:=see_rel hr (ms:=[b,c]) (W:=[wP t1 o1 p n v1,wQ t2 o2 q m v2]) rfl hnd fun j hj=>by
  match j,hj with
  | 0,_=>exact see_of hr g1 rfl hp1
  | 1,_=>exact see_of hr g2 rfl hp2
 refine ⟨_,_,[sl3 0 o1 n c1,sl3 1 o2 m c2],r1,r2,r3,r4,rfl,rfl,?_,?_,?_,hwalk⟩
 ·show (plainCs (cP p 0 n ++ [.one (.rw (wrapB v1.1 v1.2))]) && (plainCs (cQ q 0 m ++ [.one (.rw (wrapB v2.1 v2.2))]) && true)) = true
  rw [hp1,hp2];rfl
 ·rfl
 ·show (cellsB _ (cP p 0 n ++ [.one (.rw (wrapB v1.1 v1.2))]) && (true && (cellsB _ (cQ q 0 m ++ [.one (.rw (wrapB v2.1 v2.2))]) && (true && true)))) = true
  rw [cellsB_plain hp1,cellsB_plain hp2];rfl
theorem rd_wq {v:AV} (hv:vokB v = true) {q:QL} {a:Option Addr} {m c1 o2 c2 t2 c:Nat} {v2:Array Value × (Nat × Nat)} {h:Heap} (g2:hget h c = wQ t2 o2 q m v2)
  (hwalk:AWqS Try.prog (Dm [wQ t2 o2 q m v2]) (flatC (bodyOf Try.f9)) (FEndV tt Try.f9 v [wQ t2 o2 q m v2]) ⟨frame0 [rW a c1,sl3 0 o2 m c2] (Try.f9).ntmps,[wQ t2 o2 q m v2]⟩) :
  CallOk Try.prog 9 [rW a c1,sl3 c o2 m c2] h v h:=by
 refine rd_view tt_ok Try.func9 (by kernel_rfl) (by kernel_rfl) hv fun ρ w hr=>?_
 have hp2:=plain_Q q v2 m 0
 obtain ⟨r1,r2,r3,r4⟩:=see_rel hr (ms:=[c]) (W:=[wQ t2 o2 q m v2]) rfl rfl fun j hj=>by
  match j,hj with
  | 0,_=>exact see_of hr g2 rfl hp2
 refine ⟨_,_,[rW a c1,sl3 0 o2 m c2],r1,r2,r3,r4,rfl,rfl,?_,?_,?_,hwalk⟩
 ·show (plainCs (cQ q 0 m ++ [.one (.rw (wrapB v2.1 v2.2))]) && true) = true
  rw [hp2];rfl
 ·rfl
 ·show (cellsB _ (cQ q 0 m ++ [.one (.rw (wrapB v2.1 v2.2))]) && (true && true)) = true
  rw [cellsB_plain hp2];rfl
theorem rd_wp {v:AV} (hv:vokB v = true) {p:PL} {a:Option Addr} {n c1 o1 c2 t1 b:Nat} {v1:Array Value × (Nat × Nat)} {h:Heap} (g1:hget h b = wP t1 o1 p n v1)
  (hwalk:AWqS Try.prog (Dm [wP t1 o1 p n v1]) (flatC (bodyOf Try.f9)) (FEndV tt Try.f9 v [wP t1 o1 p n v1]) ⟨frame0 [sl3 0 o1 n c1,rW a c2] (Try.f9).ntmps,[wP t1 o1 p n v1]⟩) :
  CallOk Try.prog 9 [sl3 b o1 n c1,rW a c2] h v h:=by
 refine rd_view tt_ok Try.func9 (by kernel_rfl) (by kernel_rfl) hv fun ρ w hr=>?_
 have hp1:=plain_P p v1 n 0
 obtain ⟨r1,r2,r3,r4⟩:=see_rel hr (ms:=[b]) (W:=[wP t1 o1 p n v1]) rfl rfl fun j hj=>by
  match j,hj with
  | 0,_=>exact see_of hr g1 rfl hp1
 refine ⟨_,_,[sl3 0 o1 n c1,rW a c2],r1,r2,r3,r4,rfl,rfl,?_,?_,?_,hwalk⟩
 ·show (plainCs (cP p 0 n ++ [.one (.rw (wrapB v1.1 v1.2))]) && true) = true
  rw [hp1];rfl
 ·rfl
 ·show (cellsB _ (cP p 0 n ++ [.one (.rw (wrapB v1.1 v1.2))]) && (true && true)) = true
  rw [cellsB_plain hp1];rfl
def cPrW (p:PL) (q:QL) (n:Nat):List AV->Heap->Option (List Prop × AV)
 | [.v1 (.sc (.sl b o1 n1 c1)),.v1 (.sc (.sl c o2 n2 c2))],h=>some ([Nat.beq b c = false,n1 = n,n2 = n,n <= 1000,∃ t v,hget h b = wP t o1 p n v,∃ t v,hget h c = wQ t o2 q n v],prsV p q n)
 | _,_=>none
theorem okPrW (p:PL) (q:QL) (n:Nat):(CallC.rd (cPrW p q n)).Ok Try.prog 9:=by
 refine ⟨fun args h pre v e hp=>?_,fun args h slot blk hs ha=>?_⟩
 ·unfold cPrW at e
  split at e
  rotate_left
  ·cases e
  rename_i b o1 n1 c1 c o2 n2 c2
  cases e
  have h1:Nat.beq b c = false:=hp _ (by simp)
  have h2:n1 = n:=hp (n1 = n) (by simp)
  have h3:n2 = n:=hp (n2 = n) (by simp)
  have h4:n <= 1000:=hp (n <= 1000) (by simp)
  have h5:∃ t v,hget h b = wP t o1 p n v:=hp (∃ t v,hget h b = wP t o1 p n v) (by simp)
  have h6:∃ t v,hget h c = wQ t o2 q n v:=hp (∃ t v,hget h c = wQ t o2 q n v) (by simp)
  obtain ⟨t1,v1,g1⟩:=h5
  obtain ⟨t2,v2,g2⟩:=h6
  subst h2;subst h3
  exact rd_w2 (args:=fun x y=>[x,y]) (fun _ _=>rfl) rfl h1 g1 g2 (prs_walk p q _ h4 t1 o1 c1 t2 o2 c2 v1 v2)
 ·unfold cPrW
  split
  ·rename_i b o1 n1 c1 c o2 n2 c2
   rw [keepS hs (ha (.v1 (.sc (.sl b o1 n1 c1))) (by simp)),keepS hs (ha (.v1 (.sc (.sl c o2 n2 c2))) (by simp))]
  ·rfl
def cPrU (p:PL) (q:QL):List AV->Heap->Option (List Prop × AV)
 | [.v1 (.sc (.sl b o1 n1 c1)),.v1 (.sc (.sl c o2 n2 c2))],h=>some ([Nat.beq b c = false,Nat.beq n1 n2 = false,∃ t v,hget h b = wP t o1 p n1 v,∃ t v,hget h c = wQ t o2 q n2 v],.tup [n12 0,.sc (.it 2)])
 | [.v1 (.sc (.rw (.slice a 0 c1))),.v1 (.sc (.sl c o2 n2 c2))],h=>some ([Nat.beq 0 n2 = false,∃ t v,hget h c = wQ t o2 q n2 v],.tup [n12 0,.sc (.it 2)])
 | [.v1 (.sc (.sl b o1 n1 c1)),.v1 (.sc (.rw (.slice a 0 c2)))],h=>some ([Nat.beq n1 0 = false,∃ t v,hget h b = wP t o1 p n1 v],.tup [n12 0,.sc (.it 2)])
 | _,_=>none
theorem okPrU (p:PL) (q:QL):(CallC.rd (cPrU p q)).Ok Try.prog 9:=by
 refine ⟨fun args h pre v e hp=>?_,fun args h slot blk hs ha=>?_⟩
 ·unfold cPrU at e
  split at e
  ·rename_i b o1 n1 c1 c o2 n2 c2
   cases e
   have h1:Nat.beq b c = false:=hp (Nat.beq b c = false) (by simp)
   have h2:Nat.beq n1 n2 = false:=hp (Nat.beq n1 n2 = false) (by simp)
   have h5:∃ t v,hget h b = wP t o1 p n1 v:=hp (∃ t v,hget h b = wP t o1 p n1 v) (by simp)
   have h6:∃ t v,hget h c = wQ t o2 q n2 v:=hp (∃ t v,hget h c = wQ t o2 q n2 v) (by simp)
   obtain ⟨t1,v1,g1⟩:=h5
   obtain ⟨t2,v2,g2⟩:=h6
   exact rd_w2 (args:=fun x y=>[x,y]) (fun _ _=>rfl) rfl h1 g1 g2 (pr_u2 p q n1 n2 t1 o1 c1 t2 o2 c2 v1 v2 h2)
  ·rename_i a c1 c o2 n2 c2
   cases e
   have h2:Nat.beq 0 n2 = false:=hp (Nat.beq 0 n2 = false) (by simp)
   have h6:∃ t v,hget h c = wQ t o2 q n2 v:=hp (∃ t v,hget h c = wQ t o2 q n2 v) (by simp)
   obtain ⟨t2,v2,g2⟩:=h6
   exact rd_wq rfl g2 (pr_uq q a n2 c1 t2 o2 c2 v2 h2)
  ·rename_i b o1 n1 c1 a c2
   cases e
   have h2:Nat.beq n1 0 = false:=hp (Nat.beq n1 0 = false) (by simp)
   have h5:∃ t v,hget h b = wP t o1 p n1 v:=hp (∃ t v,hget h b = wP t o1 p n1 v) (by simp)
   obtain ⟨t1,v1,g1⟩:=h5
   exact rd_wp rfl g1 (pr_up p a n1 t1 o1 c1 c2 v1 h2)
  ·cases e
 ·unfold cPrU
  split
  ·rename_i b o1 n1 c1 c o2 n2 c2
   rw [keepS hs (ha (.v1 (.sc (.sl b o1 n1 c1))) (by simp)),keepS hs (ha (.v1 (.sc (.sl c o2 n2 c2))) (by simp))]
  ·rename_i a c1 c o2 n2 c2
   rw [keepS hs (ha (.v1 (.sc (.sl c o2 n2 c2))) (by simp))]
  ·rename_i b o1 n1 c1 a c2
   rw [keepS hs (ha (.v1 (.sc (.sl b o1 n1 c1))) (by simp))]
  ·rfl
def cPr0:List AV->Option (List Prop × AV)
 | [.v1 (.sc (.rw (.slice a 0 c1))),.v1 (.sc (.rw (.slice b 0 c2)))]=>some ([],.tup [n12 (lastS 1),.sc (.it 0)])
 | _=>none
theorem okPr0:(CallC.pure cPr0).Ok Try.prog 9:=by
 intro args pre v e hp
 unfold cPr0 at e
 split at e
 rotate_left
 ·cases e
 rename_i a c1 b c2
 cases e
 refine pure_walk' tt_ok Try.func9 (by kernel_rfl) (by kernel_rfl) (by rfl) (by rfl) ?_
 obtain ⟨t5,ht5⟩:∃ q_:S12,q_ = lastS 1:=⟨_,rfl⟩
 refine evS_q mixed tt_ok GPr_ok 100 [⟨9,0,.as (cS 1)⟩,⟨16,1,.as (cS t5)⟩] (same (p:=asP [.ws .u64 6 oneF,.ws .u64 6 (fun _=>0),.ws .u64 6 (fun _=>0),.ws .u64 6 (fun _=>0),.ws .u64 6 (fun _=>0),.ws .u64 6 (fun _=>0),.ws .u64 6 (fun _=>0),.ws .u64 6 (fun _=>0),.ws .u64 6 (fun _=>0),.ws .u64 6 (fun _=>0),.ws .u64 6 (fun _=>0),.ws .u64 6 (fun _=>0)] (cS 1)/\asP (cS (lastS (dS 1))) (cS t5)/\ltS 1 (ltS t5 (endN (.tup [v12 (vF (dF (eF t5.p.u.x))) (vF (dF (eF t5.p.u.y))) (vF (dF (eF t5.q.u.x))) (vF (dF (eF t5.q.u.y))) (vF (dF (eF t5.p.v.x))) (vF (dF (eF t5.p.v.y))) (vF (dF (eF t5.q.v.x))) (vF (dF (eF t5.q.v.y))) (vF (dF (eF t5.p.w.x))) (vF (dF (eF t5.p.w.y))) (vF (dF (eF t5.q.w.x))) (vF (dF (eF t5.q.w.y))),.sc (.it 0)]) (.tup [n12 (lastS 1),.sc (.it 0)])))) ?_ (by kernel_rfl))
 refine ⟨as_one,asC (by rw [dS_eq,ht5]),ltS_ok 1 (ltS_ok t5 ?_)⟩
 obtain ⟨v',e1,_,e3⟩:=endPR (j:=0) ht5
 exact ⟨v',e1,e3⟩
end Go.Proofs.Ytnjocbcjejpklaa
namespace Go.Proofs.Ytnjocbcjejpklaa
open Go.Rq Go
set_option maxRecDepth 100000
set_option maxHeartbeats 4000000
set_option maxRecDepth 100000
theorem conj_0:S12.conj 0 = 0:=S12.ext rfl (Rg.sub_self (R:=S6) 0)
theorem laF_0:laF 0 = 0:=by
 have h:laE 0 = 0:=by unfold laE;rw [conj_0,Rg.zero_mul]
 unfold laF
 rw [h,Rg.mul_zero]
theorem last_0:lastS 0 = 0:=by
 unfold lastS
 rw [laF_0]
 unfold laO
 rw [Rg.mul_zero,Rg.zero_mul,Rg.zero_mul,Rg.zero_mul]
theorem last_m (a b:S12):lastS (S12.mul a b) = S12.mul (lastS a) (lastS b):=by
 show lastS (a * b) = lastS a * lastS b
 by_cases ha:a = 0
 ·rw [ha,Rg.zero_mul,last_0,Rg.zero_mul]
 ·by_cases hb:b = 0
  ·rw [hb,Rg.mul_zero,last_0,Rg.mul_zero]
  ·exact last_mul ha hb
def prA (p:PL) (q:QL) (i:Nat):S12:=prS (p.x i) (p.y i) (q.a i) (q.b i) (q.c i) (q.d i) (p.z i) (q.z i)
def wS (p:PL) (q:QL):Nat->S12
 | 0=>1
 | k + 1=>S12.mul (wS p q k) (prA p q k)
theorem prA_yes {p:PL} {q:QL} {i:Nat} (h:okB p q i = true):prA p q i = bif p.z i || q.z i then lastS 1 else lastS (wkA p q i):=by
 unfold okB at h
 unfold prA prS wkA
 rw [h,cond_true]
theorem all_w {p:PL} {q:QL}:∀ {n:Nat},allB p q n = true->lastS (proS p q n) = wS p q n
 | 0,_=>last_1
 | n + 1,h=>by
  have h':(allB p q n && okB p q n) = true:=h
  rw [Bool.and_eq_true] at h'
  show lastS (bif p.z n || q.z n then proS p q n else S12.mul (proS p q n) (wkA p q n)) = S12.mul (wS p q n) (prA p q n)
  rw [prA_yes h'.2,<-all_w h'.1]
  cases p.z n || q.z n
  ·exact last_m _ _
  ·rw [last_1];exact (Rg.mul_one (R:=S12) _).symm
theorem prI_no {p:PL} {q:QL} {i:Nat} (h:okB p q i = false):prI (p.x i) (p.y i) (q.a i) (q.b i) (q.c i) (q.d i) (p.z i) (q.z i) = 5:=by unfold okB at h;unfold prI;rw [h];rfl
theorem prI_yes {p:PL} {q:QL} {i:Nat} (h:okB p q i = true):prI (p.x i) (p.y i) (q.a i) (q.b i) (q.c i) (q.d i) (p.z i) (q.z i) = 0:=by unfold okB at h;unfold prI;rw [h];rfl
abbrev nS (t:S12):List Cell:=[.ws .u64 6 (vF t.p.u.x),.ws .u64 6 (vF t.p.u.y),.ws .u64 6 (vF t.q.u.x),.ws .u64 6 (vF t.q.u.y),.ws .u64 6 (vF t.p.v.x),.ws .u64 6 (vF t.p.v.y),.ws .u64 6 (vF t.q.v.x),.ws .u64 6 (vF t.q.v.y),.ws .u64 6 (vF t.p.w.x),.ws .u64 6 (vF t.p.w.y),.ws .u64 6 (vF t.q.w.x),.ws .u64 6 (vF t.q.w.y)]
abbrev nE (t:S12):Option Blk:=some ⟨28,nS t,0,0⟩
theorem asN {u t:S12} (h:u = t):asP (nS u) (nS t):=by subst h;exact fun _=>rfl
abbrev boA (b:Bool):AV:=.v1 (.sc (.bo b))
theorem endR2_t:endR2 (.v1 (.sc (.bo true))) (.v1 (.sc (.bo true))):=⟨_,rfl,rfl,fun _=>rfl⟩
def GRyW (p:PL) (q:QL) (n:Nat):Ctx:=ctxL [(5,.pure cAwake6),(9,.rd (cPrW p q n)),(10,.pure cPair),(8,.pure (c12 (n12 1))),(7,.pure (t122 S12.mul))]
theorem GRyW_ok (p:PL) (q:QL) (n:Nat):CtxOk Try.prog (GRyW p q n):=ctxL_cons okAwake6 <| ctxL_cons (okPrW p q n) <| ctxL_cons okPair <| ctxL_cons okTOne <| ctxL_cons okTMul ctxL_nil
def GRyU (p:PL) (q:QL):Ctx:=ctxL [(5,.pure cAwake6),(9,.rd (cPrU p q)),(10,.pure cPair),(8,.pure (c12 (n12 1))),(7,.pure (t122 S12.mul))]
theorem GRyU_ok (p:PL) (q:QL):CtxOk Try.prog (GRyU p q):=ctxL_cons okAwake6 <| ctxL_cons (okPrU p q) <| ctxL_cons okPair <| ctxL_cons okTOne <| ctxL_cons okTMul ctxL_nil
def GRyZ:Ctx:=ctxL [(5,.pure cAwake6),(9,.pure cPr0),(10,.pure cPair),(8,.pure (c12 (n12 1))),(7,.pure (t122 S12.mul))]
theorem GRyZ_ok:CtxOk Try.prog GRyZ:=ctxL_cons okAwake6 <| ctxL_cons okPr0 <| ctxL_cons okPair <| ctxL_cons okTOne <| ctxL_cons okTMul ctxL_nil
theorem law_like (p:PL) (q:QL) (n:Nat) (hn:n <= 4) (t1 o1 c1 t2 o2 c2:Nat) (v1 v2:Array Value × (Nat × Nat)) :
  AWqS Try.prog (Dm [wP t1 o1 p n v1,wQ t2 o2 q n v2]) (flatC (bodyOf Try.f4)) (FEndV tt Try.f4 (.v1 (.sc (.bo true))) [wP t1 o1 p n v1,wQ t2 o2 q n v2]) ⟨frame0 [sl3 0 o1 n c1,sl3 1 o2 n c2] (Try.f4).ntmps,[wP t1 o1 p n v1,wQ t2 o2 q n v2]⟩:=by
 obtain ⟨X,hX⟩:∃ q_:S12,q_ = prsS p q n:=⟨_,rfl⟩
 obtain ⟨E,hE⟩:∃ q_:Int,q_ = prsI p q n:=⟨_,rfl⟩
 refine loopK mixed tt_ok (GRyW_ok p q n) 0 (by kernel_rfl) (ι:={x:Nat × S12 // x.1 <= n/\allB p q x.1 = true/\x.2 = wS p q x.1}) [0,1,5,6,7,8,9] 87 8 (fun x=>[sl3 0 o1 n c1,sl3 1 o2 n c2,boA true,ptR 5,iv E,ptR 7,iv (Int.ofNat x.1.1)]) (fun x=>[wP t1 o1 p n v1,wQ t2 o2 q n v2,none,none,none,nE X,none,nE x.1.2]) (fun x=>n - x.1.1) (fun x=>x.1.1 = n)
  (fun _=>rfl) (fun _=>live_PQ (by kernel_rfl) (by kernel_rfl)) (fun _ j h=>by have:=Dm_lt h;simp at this;match j,this with | 0,_=>exact ⟨_,rfl⟩ | 1,_=>exact ⟨_,rfl⟩) 100 [⟨2,2,.lit (.bo false)⟩,⟨2,6,.lit (.bo false)⟩,⟨4,4,.as (nS X)⟩,⟨4,5,.lit (.it E)⟩,⟨5,4,.lit (.bo false)⟩] ?_ ?_ ?_
 ·refine same (p:=ilt 4 (Int.ofNat n) = false/\ilt 4 (Int.ofNat n) = false/\Nat.beq 0 1 = false/\n = n/\n = n/\n <= 1000/\(∃ t v,wP t1 o1 p n v1 = wP t o1 p n v)/\(∃ t v,wQ t2 o2 q n v2 = wQ t o2 q n v)/\asP (nS (prsS p q n)) (nS X)/\prsI p q n = E/\(!ieq (Int.ofNat n) (Int.ofNat n)) = false/\true = true/\∃ j:{x:Nat × S12 // x.1 <= n/\allB p q x.1 = true/\x.2 = wS p q x.1},[sl3 0 o1 n c1,sl3 1 o2 n c2,boA true,ptR 5,iv E,ptR 7,iv (Int.ofNat 0)] = [sl3 0 o1 n c1,sl3 1 o2 n c2,boA true,ptR 5,iv E,ptR 7,iv (Int.ofNat j.1.1)]/\[wP t1 o1 p n v1,wQ t2 o2 q n v2,none,none,none,nE X,none,nE 1] = [wP t1 o1 p n v1,wQ t2 o2 q n v2,none,none,none,nE X,none,nE j.1.2]) ?_ (by kernel_rfl)
  exact ⟨ilt_f (i:=4) (by omega),ilt_f (i:=4) (by omega),rfl,rfl,rfl,by omega,⟨_,_,rfl⟩,⟨_,_,rfl⟩,asN hX.symm,hE.symm,by rw [ieq_self];rfl,rfl,⟨(0,1),Nat.zero_le _,rfl,rfl⟩,rfl,rfl⟩
 ·intro ⟨⟨i,w⟩,hi,ha,hw⟩ junk
  simp only at hi ha hw
  by_cases h3:i < n
  ·obtain ⟨y,hy⟩:∃ q_:S12,q_ = prA p q i:=⟨_,rfl⟩
   cases hb:okB p q i
   ·refine roundF mixed tt_ok (GRyW_ok p q n) 100 [⟨9,3,.lit (.bo true)⟩,⟨11,2,.sym⟩,⟨11,3,.as (cP1 p i)⟩,⟨11,6,.sym⟩,⟨11,7,.as (cQ1 q i)⟩,⟨11,10,.as (nS y)⟩,⟨12,1,.lit (.bo true)⟩,⟨13,4,.lit (.bo true)⟩,⟨13,8,.lit (.bo true)⟩] ?_
    refine same (p:=ilt (Int.ofNat i) (Int.ofNat n) = true/\ix2 i n (asP (takeC (dropC (cP p 0 n ++ [.one (.rw (wrapB v1.1 v1.2))]) (addN o1 (mulN i 13) - o1)) 13) (cP1 p i)/\o1 <= addN o1 (mulN i 13)/\addN o1 (mulN i 13) - o1 + 13 < clen (cP p 0 n ++ [.one (.rw (wrapB v1.1 v1.2))])/\ix2 i n (asP (takeC (dropC (cQ q 0 n ++ [.one (.rw (wrapB v2.1 v2.2))]) (addN o2 (mulN i 25) - o2)) 25) (cQ1 q i)/\o2 <= addN o2 (mulN i 25)/\addN o2 (mulN i 25) - o2 + 25 < clen (cQ q 0 n ++ [.one (.rw (wrapB v2.1 v2.2))])/\asP (nS (prS (p.x i) (p.y i) (q.a i) (q.b i) (q.c i) (q.d i) (p.z i) (q.z i))) (nS y)/\(!ieq (prI (p.x i) (p.y i) (q.a i) (q.b i) (q.c i) (q.d i) (p.z i) (q.z i)) 0) = true/\qL (nL X) zL12 = true/\ieq E 5 = true/\wP t1 o1 p n v1 = wP t1 o1 p n v1/\wQ t2 o2 q n v2 = wQ t2 o2 q n v2/\endR2 (.v1 (.sc (.bo true))) (.v1 (.sc (.bo true)))))) ?_ (by kernel_rfl)
    have hf:allB p q n = false:=allB_false hb h3
    refine ⟨ilt_t h3,ix2_of h3 (ld_P p o1 _ h3 (ix2_of h3 (ld_Q q o2 _ h3 ⟨asN hy.symm,by rw [prI_no hb];rfl,?_,?_,rfl,rfl,endR2_t⟩)))⟩
    ·rw [qn_z,hX];unfold prsS;rw [hf];exact (z12_iff 0).2 rfl
    ·rw [hE];unfold prsI;rw [hf];rfl
   ·obtain ⟨w',hw'⟩:∃ q_:S12,q_ = S12.mul w y:=⟨_,rfl⟩
    refine roundF mixed tt_ok (GRyW_ok p q n) 100 [⟨9,3,.lit (.bo true)⟩,⟨11,2,.sym⟩,⟨11,3,.as (cP1 p i)⟩,⟨11,6,.sym⟩,⟨11,7,.as (cQ1 q i)⟩,⟨11,10,.as (nS y)⟩,⟨12,1,.lit (.bo false)⟩,⟨14,2,.as (nS w')⟩,⟨10,1,.lit (.it (Int.ofNat (i+1)))⟩] ?_
    refine same (p:=ilt (Int.ofNat i) (Int.ofNat n) = true/\ix2 i n (asP (takeC (dropC (cP p 0 n ++ [.one (.rw (wrapB v1.1 v1.2))]) (addN o1 (mulN i 13) - o1)) 13) (cP1 p i)/\o1 <= addN o1 (mulN i 13)/\addN o1 (mulN i 13) - o1 + 13 < clen (cP p 0 n ++ [.one (.rw (wrapB v1.1 v1.2))])/\ix2 i n (asP (takeC (dropC (cQ q 0 n ++ [.one (.rw (wrapB v2.1 v2.2))]) (addN o2 (mulN i 25) - o2)) 25) (cQ1 q i)/\o2 <= addN o2 (mulN i 25)/\addN o2 (mulN i 25) - o2 + 25 < clen (cQ q 0 n ++ [.one (.rw (wrapB v2.1 v2.2))])/\asP (nS (prS (p.x i) (p.y i) (q.a i) (q.b i) (q.c i) (q.d i) (p.z i) (q.z i))) (nS y)/\(!ieq (prI (p.x i) (p.y i) (q.a i) (q.b i) (q.c i) (q.d i) (p.z i) (q.z i)) 0) = false/\asP (nS (S12.mul (G12 w) (G12 y))) (nS w')/\wrapI (Int.ofNat i + 1) = Int.ofNat (i + 1)/\true = true /\
     ∃ j:{x:Nat × S12 // x.1 <= n/\allB p q x.1 = true/\x.2 = wS p q x.1},n - j.1.1 < n - i/\[sl3 0 o1 n c1,sl3 1 o2 n c2,boA true,ptR 5,iv E,ptR 7,iv (Int.ofNat (i + 1))] = [sl3 0 o1 n c1,sl3 1 o2 n c2,boA true,ptR 5,iv E,ptR 7,iv (Int.ofNat j.1.1)]/\[wP t1 o1 p n v1,wQ t2 o2 q n v2,none,none,none,nE X,none,nE w'] = [wP t1 o1 p n v1,wQ t2 o2 q n v2,none,none,none,nE X,none,nE j.1.2]))) ?_ (by kernel_rfl)
    refine ⟨ilt_t h3,ix2_of h3 (ld_P p o1 _ h3 (ix2_of h3 (ld_Q q o2 _ h3 ⟨asN hy.symm,by rw [prI_yes hb];rfl,asN (by rw [G12_eq,G12_eq,hw']),wrapI_succ (by omega),rfl,⟨(i + 1,w'),by simp only;omega,?_,?_⟩,by simp only;omega,rfl,rfl⟩)))⟩
    ·show (allB p q i && okB p q i) = true
     rw [ha,hb];rfl
    ·show w' = S12.mul (wS p q i) (prA p q i)
     rw [hw',hw,hy]
  ·have:i = n:=by omega
   subst this
   refine roundF mixed tt_ok (GRyW_ok p q i) 40 [⟨9,3,.lit (.bo false)⟩] ?_
   refine same (p:=ilt (Int.ofNat i) (Int.ofNat i) = false/\true = true/\∃ j:{x:Nat × S12 // x.1 <= i/\allB p q x.1 = true/\x.2 = wS p q x.1},j.1.1 = i/\[sl3 0 o1 i c1,sl3 1 o2 i c2,boA true,ptR 5,iv E,ptR 7,iv (Int.ofNat i)] = [sl3 0 o1 i c1,sl3 1 o2 i c2,boA true,ptR 5,iv E,ptR 7,iv (Int.ofNat j.1.1)]/\[wP t1 o1 p i v1,wQ t2 o2 q i v2,none,none,none,nE X,none,nE w] = [wP t1 o1 p i v1,wQ t2 o2 q i v2,none,none,none,nE X,none,nE j.1.2]) ?_ (by kernel_rfl)
   exact ⟨ilt_f (by omega),rfl,⟨(i,w),Nat.le_refl _,ha,hw⟩,rfl,rfl,rfl⟩
 ·intro ⟨⟨i,w⟩,hi,ha,hw⟩ junk h3
  simp only at hi ha hw h3
  subst h3
  refine evS_q mixed tt_ok (GRyW_ok p q i) 100 [⟨15,4,.lit (.bo true)⟩,⟨15,8,.lit (.bo true)⟩] (same (p:=qL (nL X) (nL w) = true/\ieq E 0 = true/\wP t1 o1 p i v1 = wP t1 o1 p i v1/\wQ t2 o2 q i v2 = wQ t2 o2 q i v2/\endR2 (.v1 (.sc (.bo true))) (.v1 (.sc (.bo true)))) ?_ (by kernel_rfl))
  refine ⟨qn_of ?_,?_,rfl,rfl,endR2_t⟩
  ·rw [hX,hw];unfold prsS;rw [ha];exact all_w ha
  ·rw [hE];unfold prsI;rw [ha];rfl
theorem law_none (a b:Option Addr) (c1 c2:Nat) :
  AWqS Try.prog (Dm []) (flatC (bodyOf Try.f4)) (FEndV tt Try.f4 (.v1 (.sc (.bo true))) []) ⟨frame0 [rW a c1,rW b c2] (Try.f4).ntmps,[]⟩:=by
 obtain ⟨X,hX⟩:∃ q_:S12,q_ = lastS 1:=⟨_,rfl⟩
 refine evS_q mixed tt_ok GRyZ_ok 100 [⟨4,4,.as (nS X)⟩,⟨15,4,.lit (.bo true)⟩] (same (p:=asP (nS (lastS 1)) (nS X)/\qL (nL X) (nL 1) = true/\endR2 (.v1 (.sc (.bo true))) (.v1 (.sc (.bo true)))) ?_ (by kernel_rfl))
 exact ⟨asN hX.symm,qn_of (by rw [hX,last_1]),endR2_t⟩
theorem long_2 (p:PL) (q:QL) (n m t1 o1 c1 t2 o2 c2:Nat) (v1 v2:Array Value × (Nat × Nat)) (hn:n <= 4) (hm:¬ m <= 4) :
  AWqS Try.prog (Dm [wP t1 o1 p n v1,wQ t2 o2 q m v2]) (flatC (bodyOf Try.f4)) (FEndV tt Try.f4 (.v1 (.sc (.bo true))) [wP t1 o1 p n v1,wQ t2 o2 q m v2]) ⟨frame0 [sl3 0 o1 n c1,sl3 1 o2 m c2] (Try.f4).ntmps,[wP t1 o1 p n v1,wQ t2 o2 q m v2]⟩:=by
 refine evS_q mixed tt_ok GRyZ_ok 100 [⟨2,2,.lit (.bo false)⟩,⟨2,6,.lit (.bo true)⟩] (same (p:=ilt 4 (Int.ofNat n) = false/\ilt 4 (Int.ofNat m) = true/\wP t1 o1 p n v1 = wP t1 o1 p n v1/\wQ t2 o2 q m v2 = wQ t2 o2 q m v2/\endR2 (.v1 (.sc (.bo true))) (.v1 (.sc (.bo true)))) ?_ (by kernel_rfl))
 exact ⟨ilt_f (i:=4) (by omega),ilt_t (i:=4) (by omega),rfl,rfl,endR2_t⟩
theorem long_1 (p:PL) (q:QL) (n m t1 o1 c1 t2 o2 c2:Nat) (v1 v2:Array Value × (Nat × Nat)) (hn:¬ n <= 4) :
  AWqS Try.prog (Dm [wP t1 o1 p n v1,wQ t2 o2 q m v2]) (flatC (bodyOf Try.f4)) (FEndV tt Try.f4 (.v1 (.sc (.bo true))) [wP t1 o1 p n v1,wQ t2 o2 q m v2]) ⟨frame0 [sl3 0 o1 n c1,sl3 1 o2 m c2] (Try.f4).ntmps,[wP t1 o1 p n v1,wQ t2 o2 q m v2]⟩:=by
 refine evS_q mixed tt_ok GRyZ_ok 100 [⟨2,2,.lit (.bo true)⟩] (same (p:=ilt 4 (Int.ofNat n) = true/\wP t1 o1 p n v1 = wP t1 o1 p n v1/\wQ t2 o2 q m v2 = wQ t2 o2 q m v2/\endR2 (.v1 (.sc (.bo true))) (.v1 (.sc (.bo true)))) ?_ (by kernel_rfl))
 exact ⟨ilt_t (i:=4) (by omega),rfl,rfl,endR2_t⟩
theorem long_p (p:PL) (a:Option Addr) (n t1 o1 c1 c2:Nat) (v1:Array Value × (Nat × Nat)) (hn:¬ n <= 4) :
  AWqS Try.prog (Dm [wP t1 o1 p n v1]) (flatC (bodyOf Try.f4)) (FEndV tt Try.f4 (.v1 (.sc (.bo true))) [wP t1 o1 p n v1]) ⟨frame0 [sl3 0 o1 n c1,rW a c2] (Try.f4).ntmps,[wP t1 o1 p n v1]⟩:=by
 refine evS_q mixed tt_ok GRyZ_ok 100 [⟨2,2,.lit (.bo true)⟩] (same (p:=ilt 4 (Int.ofNat n) = true/\wP t1 o1 p n v1 = wP t1 o1 p n v1/\endR2 (.v1 (.sc (.bo true))) (.v1 (.sc (.bo true)))) ?_ (by kernel_rfl))
 exact ⟨ilt_t (i:=4) (by omega),rfl,endR2_t⟩
theorem long_q (q:QL) (a:Option Addr) (m t2 o2 c1 c2:Nat) (v2:Array Value × (Nat × Nat)) (hm:¬ m <= 4) :
  AWqS Try.prog (Dm [wQ t2 o2 q m v2]) (flatC (bodyOf Try.f4)) (FEndV tt Try.f4 (.v1 (.sc (.bo true))) [wQ t2 o2 q m v2]) ⟨frame0 [rW a c1,sl3 0 o2 m c2] (Try.f4).ntmps,[wQ t2 o2 q m v2]⟩:=by
 refine evS_q mixed tt_ok GRyZ_ok 100 [⟨2,6,.lit (.bo true)⟩] (same (p:=ilt 4 (Int.ofNat m) = true/\wQ t2 o2 q m v2 = wQ t2 o2 q m v2/\endR2 (.v1 (.sc (.bo true))) (.v1 (.sc (.bo true)))) ?_ (by kernel_rfl))
 exact ⟨ilt_t (i:=4) (by omega),rfl,endR2_t⟩
theorem unl_2 (p:PL) (q:QL) (n m t1 o1 c1 t2 o2 c2:Nat) (v1 v2:Array Value × (Nat × Nat)) (hn:n <= 4) (hm:m <= 4) (hnm:Nat.beq n m = false) :
  AWqS Try.prog (Dm [wP t1 o1 p n v1,wQ t2 o2 q m v2]) (flatC (bodyOf Try.f4)) (FEndV tt Try.f4 (.v1 (.sc (.bo true))) [wP t1 o1 p n v1,wQ t2 o2 q m v2]) ⟨frame0 [sl3 0 o1 n c1,sl3 1 o2 m c2] (Try.f4).ntmps,[wP t1 o1 p n v1,wQ t2 o2 q m v2]⟩:=by
 obtain ⟨X,hX⟩:∃ q_:S12,q_ = 0:=⟨_,rfl⟩
 refine evS_q mixed tt_ok (GRyU_ok p q) 100 [⟨2,2,.lit (.bo false)⟩,⟨2,6,.lit (.bo false)⟩,⟨4,4,.as (nS X)⟩,⟨5,4,.lit (.bo true)⟩,⟨6,4,.lit (.bo true)⟩] (same (p:=ilt 4 (Int.ofNat n) = false/\ilt 4 (Int.ofNat m) = false/\Nat.beq 0 1 = false/\Nat.beq n m = false/\(∃ t v,wP t1 o1 p n v1 = wP t o1 p n v)/\(∃ t v,wQ t2 o2 q m v2 = wQ t o2 q m v)/\asP (nS 0) (nS X)/\(!ieq (Int.ofNat n) (Int.ofNat m)) = true/\qL (nL X) zL12 = true/\wP t1 o1 p n v1 = wP t1 o1 p n v1/\wQ t2 o2 q m v2 = wQ t2 o2 q m v2/\endR2 (.v1 (.sc (.bo true))) (.v1 (.sc (.bo true)))) ?_ (by kernel_rfl))
 exact ⟨ilt_f (i:=4) (by omega),ilt_f (i:=4) (by omega),rfl,hnm,⟨_,_,rfl⟩,⟨_,_,rfl⟩,asN hX.symm,ieq_ne hnm,by rw [qn_z,hX];exact (z12_iff 0).2 rfl,rfl,rfl,endR2_t⟩
theorem unl_p (p:PL) (q:QL) (a:Option Addr) (n t1 o1 c1 c2:Nat) (v1:Array Value × (Nat × Nat)) (hn:n <= 4) (hnm:Nat.beq n 0 = false) :
  AWqS Try.prog (Dm [wP t1 o1 p n v1]) (flatC (bodyOf Try.f4)) (FEndV tt Try.f4 (.v1 (.sc (.bo true))) [wP t1 o1 p n v1]) ⟨frame0 [sl3 0 o1 n c1,rW a c2] (Try.f4).ntmps,[wP t1 o1 p n v1]⟩:=by
 obtain ⟨X,hX⟩:∃ q_:S12,q_ = 0:=⟨_,rfl⟩
 refine evS_q mixed tt_ok (GRyU_ok p q) 100 [⟨2,2,.lit (.bo false)⟩,⟨4,4,.as (nS X)⟩,⟨5,4,.lit (.bo true)⟩,⟨6,4,.lit (.bo true)⟩] (same (p:=ilt 4 (Int.ofNat n) = false/\Nat.beq n 0 = false/\(∃ t v,wP t1 o1 p n v1 = wP t o1 p n v)/\asP (nS 0) (nS X)/\(!ieq (Int.ofNat n) (Int.ofNat 0)) = true/\qL (nL X) zL12 = true/\wP t1 o1 p n v1 = wP t1 o1 p n v1/\endR2 (.v1 (.sc (.bo true))) (.v1 (.sc (.bo true)))) ?_ (by kernel_rfl))
 exact ⟨ilt_f (i:=4) (by omega),hnm,⟨_,_,rfl⟩,asN hX.symm,ieq_ne hnm,by rw [qn_z,hX];exact (z12_iff 0).2 rfl,rfl,endR2_t⟩
theorem unl_q (p:PL) (q:QL) (a:Option Addr) (m t2 o2 c1 c2:Nat) (v2:Array Value × (Nat × Nat)) (hm:m <= 4) (hnm:Nat.beq 0 m = false) :
  AWqS Try.prog (Dm [wQ t2 o2 q m v2]) (flatC (bodyOf Try.f4)) (FEndV tt Try.f4 (.v1 (.sc (.bo true))) [wQ t2 o2 q m v2]) ⟨frame0 [rW a c1,sl3 0 o2 m c2] (Try.f4).ntmps,[wQ t2 o2 q m v2]⟩:=by
 obtain ⟨X,hX⟩:∃ q_:S12,q_ = 0:=⟨_,rfl⟩
 refine evS_q mixed tt_ok (GRyU_ok p q) 100 [⟨2,6,.lit (.bo false)⟩,⟨4,4,.as (nS X)⟩,⟨5,4,.lit (.bo true)⟩,⟨6,4,.lit (.bo true)⟩] (same (p:=ilt 4 (Int.ofNat m) = false/\Nat.beq 0 m = false/\(∃ t v,wQ t2 o2 q m v2 = wQ t o2 q m v)/\asP (nS 0) (nS X)/\(!ieq (Int.ofNat 0) (Int.ofNat m)) = true/\qL (nL X) zL12 = true/\wQ t2 o2 q m v2 = wQ t2 o2 q m v2/\endR2 (.v1 (.sc (.bo true))) (.v1 (.sc (.bo true)))) ?_ (by kernel_rfl))
 exact ⟨ilt_f (i:=4) (by omega),hnm,⟨_,_,rfl⟩,asN hX.symm,ieq_ne hnm,by rw [qn_z,hX];exact (z12_iff 0).2 rfl,rfl,endR2_t⟩
end Go.Proofs.Ytnjocbcjejpklaa
namespace Go.Rq
open Go Go.ChangeShapes Go.WideShapes
theorem post_same {H:Type} {enc:TypeId × Value->H} {P:Program} {f:Func} {s:ChangeSpec} {apart fresh handsOn again:Bool} {W W':World} {args:Array Value} {v:Value} {ds gs:List (DataW H)} {before pa pv:List MemPlace}
  (hW:DataW.Whole enc P f.params.toList s.vars apart W args.toList ds gs before)
  (hres:∀ (b:Nat) (sp:Nat->Bool) (hd:Bool),DataW.TrodAll enc P W' b sp hd f.resultTypes.toList (v.resultList f.resultTypes.size) (s.fn H (ds ++ gs)).results [])
  (hargs:∀ sp:Nat->Bool,(∀ p ∈ before,sp p.block = true)->DataW.TrodAll enc P W' 0 sp true f.params.toList args.toList (s.fn H (ds ++ gs)).args pa)
  (hvars:∀ sp:Nat->Bool,(∀ p ∈ before,sp p.block = true)->DataW.TrodVars enc P W' sp s.vars (s.fn H (ds ++ gs)).vars pv)
  (hps:before = pa ++ pv) (hst:StepW W W')
  (hok:∀ (j:Nat) (t:TypeId) (r:Value),f.resultTypes[j]? = some t->(v.resultList f.resultTypes.size)[j]? = some r->Value.okWide P W' .any 0 t r) :
  s.post enc P f apart fresh handsOn again W args v W':=by
 have hold:∀ p ∈ before,(fun b=>decide (b < W.heap.size)) p.block = true:=fun p hp=>by simpa using hW.lt p hp
 refine ⟨ds,gs,before,[],pa,pv,hW,hres _ _ _,hargs _ hold,hvars _ hold,World.keptBut_mono (fun p hp=>⟨hp,?_⟩) (hst.frame (· ∈ before)),fun _=>?_⟩
 ·rw [hps,List.mem_append] at hp
  exact Or.inr hp
 ·have hlt:=hW.lt
  obtain ⟨_,_,_,_,_,hz,hn⟩:=hW
  refine ⟨hok,_,_,([] ++ pa) ++ pv,⟨[] ++ pa,pv,trodAll_append (hargs _ (fun _ _=>rfl)) (hres _ _ _),hvars _ (fun _ _=>rfl),rfl,?_,?_⟩,?_⟩
  ·intro b off hp
   have hp':MemPlace.cell b off ∈ before:=by rw [hps];simpa using hp
   rw [hst.old _ (hlt _ hp')]
   exact hz b off hp'
  ·intro ha
   have:=hn ha
   rw [hps] at this
   simpa using this
  ·intro p hp _
   rw [hps]
   simpa using hp
end Go.Rq
