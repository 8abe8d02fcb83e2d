/- Texts of the proof, joined. -/
import Derived.Test.YtnjocbcjejpklaaGreatZoF
import Derived.ChangeSame
set_option linter.all false
namespace Go.Proofs.YtnjocbcjejpklaaGreat
open Go.Rq Go
set_option maxRecDepth 100000
set_option linter.unusedVariables false
set_option linter.unusedSimpArgs false
set_option maxHeartbeats 4000000
set_option maxRecDepth 100000
def endR2 (a b:AV):Prop:=∃ v',some a = some v'/\vokB v' = true/\∀ ρ,v'.val ρ = b.val ρ
theorem endTC {cs ds:List Cell} {i j:Int} (hij:i = j) (hv:plainCs cs = true) (h:∀ ρ:Ren,cvals ρ cs = cvals ρ ds):endR2 (.tup [.agg cs,.sc (.it i)]) (.tup [.agg ds,.sc (.it j)]):=by
 subst hij
 refine ⟨_,rfl,?_,fun ρ=>?_⟩
 ·show (zokB (.agg cs) && true) = true
  rw [show zokB (.agg cs) = true from hv];rfl
 ·simp only [AV.val,List.map_cons,List.map_nil,V1.val,h ρ]
theorem keepS {h:Heap} {s i:Nat} {b:Blk} (hs:isHole h s = true) (hi:Dm h i):hget (hset h s b) i = hget h i :=
 hget_hset_ne fun e=>by
  obtain ⟨c,hc⟩:=hi
  rw [e,(isHole_lt hs).2] at hc;cases hc
theorem lt_pN0:nv (fun _=>0) < pN:=lt_zero
theorem asJE {u t:J3 Fp} (h:u = t):asP [.ws .u64 6 (eF (u).x),.ws .u64 6 (eF (u).y),.ws .u64 6 (eF (u).z)] [.ws .u64 6 (eF (t).x),.ws .u64 6 (eF (t).y),.ws .u64 6 (eF (t).z)]:=by subst h;exact fun _=>rfl
theorem asAE {u t:A2 Fp} (h:u = t):asP [.ws .u64 6 (eF (u).x),.ws .u64 6 (eF (u).y),.one (.bo u.z)] [.ws .u64 6 (eF (t).x),.ws .u64 6 (eF (t).y),.one (.bo t.z)]:=by subst h;exact fun _=>rfl
theorem JdE (t:J3 Fp):(⟨dF (eF (t).x),dF (eF (t).y),dF (eF (t).z)⟩:J3 Fp) = t:=by rw [dF_eF,dF_eF,dF_eF]
theorem JnE:(⟨dF oneF,dF oneF,dF (fun _=>0)⟩:J3 Fp) = J3.nil:=by rw [dF_one,dF_0];exact nilE.symm
def shE (o:J3 Fp) (p:A2 Fp) (n:Nat):J3 Fp:=J3.add o (J3.times (A2.raise p) (blen n) n)
def gaE1 (p:A2 Fp) (n:Nat):A2 Fp:=bif A2.on fourE p then A2.lower eInv (shE J3.nil p n) else ⟨0,0,false⟩
def geE1 (p:A2 Fp):Int:=bif A2.on fourE p then 0 else 5
def gaE2 (p q:A2 Fp) (n m:Nat):A2 Fp:=bif A2.on fourE p && A2.on fourE q then A2.lower eInv (shE (shE J3.nil p n) q m) else ⟨0,0,false⟩
def geE2 (p q:A2 Fp):Int:=bif A2.on fourE p && A2.on fourE q then 0 else 5
def avAE (a:A2 Fp) (e:Int):AV:=.tup [.agg [.ws .u64 6 (eF (a).x),.ws .u64 6 (eF (a).y),.one (.bo a.z)],.sc (.it e)]
def gaCE:List AV->Heap->Option (List Prop × AV)
 | [.v1 (.agg cs),.v1 (.sc (.so b 1)),.v1 (.sc (.sl c 0 1 1))],h=>match hget h b,hget h c with
  | some ⟨_,[.ws .u64 6 x0,.ws .u64 6 y0,.one (.bo z0)],1,_⟩,some ⟨_,[.ws .u64 6 n0],0,_⟩=>some ([cs = fdE,nv x0 < pN,nv y0 < pN],avAE (gaE1 (⟨dF x0,dF y0,z0⟩:A2 Fp) (nv n0)) (geE1 (⟨dF x0,dF y0,z0⟩:A2 Fp)))
  | _,_=>none
 | [.v1 (.agg cs),.v1 (.sc (.so b 2)),.v1 (.sc (.sl c 0 2 2))],h=>match hget h b,hget h c with
  | some ⟨_,[.ws .u64 6 x0,.ws .u64 6 y0,.one (.bo z0),.ws .u64 6 x1,.ws .u64 6 y1,.one (.bo z1)],1,_⟩,some ⟨_,[.ws .u64 6 n0,.ws .u64 6 n1],0,_⟩=>some ([cs = fdE,nv x0 < pN,nv y0 < pN,nv x1 < pN,nv y1 < pN],avAE (gaE2 (⟨dF x0,dF y0,z0⟩:A2 Fp) (⟨dF x1,dF y1,z1⟩:A2 Fp) (nv n0) (nv n1)) (geE2 (⟨dF x0,dF y0,z0⟩:A2 Fp) (⟨dF x1,dF y1,z1⟩:A2 Fp)))
  | _,_=>none
 | _,_=>none
def GGaE:Ctx:=ctxL [(106,.pure onCE),(109,.pure raCE),(108,.pure tiCE),(164,.pure (jE2 J3.add)),(107,.pure loCE)]
theorem GGaE_ok:CtxOk Tryz.prog GGaE:=ctxL_cons okOnE <| ctxL_cons okRaE <| ctxL_cons okTiE <| ctxL_cons okSmE <| ctxL_cons okLoE ctxL_nil
theorem gaE1_walk {x0 y0 n0:Nat->Nat} {z0:Bool} {t t2:TypeId} {hi:Nat} (hx0:nv x0 < pN) (hy0:nv y0 < pN) (wv:Array Value × (Nat × Nat)) (cap:Nat) :
  AWqS Tryz.prog (Dm [some (winO t [.ws .u64 6 x0,.ws .u64 6 y0,.one (.bo z0)] wv),some ⟨t2,[.ws .u64 6 n0],0,hi⟩]) (flatC (bodyOf Tryz.f119)) (FEndV tt Tryz.f119 (avAE (gaE1 (⟨dF x0,dF y0,z0⟩:A2 Fp) (nv n0)) (geE1 (⟨dF x0,dF y0,z0⟩:A2 Fp))) [some (winO t [.ws .u64 6 x0,.ws .u64 6 y0,.one (.bo z0)] wv),some ⟨t2,[.ws .u64 6 n0],0,hi⟩]) ⟨frame0 ([.v1 (.agg fdE)] ++ [.v1 (.sc (.sl 0 0 1 cap)),.v1 (.sc (.sl 1 0 1 1))]) (Tryz.f119).ntmps,[some (winO t [.ws .u64 6 x0,.ws .u64 6 y0,.one (.bo z0)] wv),some ⟨t2,[.ws .u64 6 n0],0,hi⟩]⟩:=by
 cases h0:A2.on fourE (⟨dF x0,dF y0,z0⟩:A2 Fp)
 ·refine evS_q mixed tt_ok GGaE_ok 300 [⟨6,3,.lit (.bo true)⟩] ?_
  refine same (p:=0 <= 0/\0 - 0 + 13 < 14/\fdE = fdE/\nv x0 < pN/\nv y0 < pN/\(!(A2.on fourE (⟨dF x0,dF y0,z0⟩:A2 Fp))) = true/\(some (winO t [.ws .u64 6 x0,.ws .u64 6 y0,.one (.bo z0)] wv):Option Blk) = some (winO t [.ws .u64 6 x0,.ws .u64 6 y0,.one (.bo z0)] wv)/\(some ⟨t2,[.ws .u64 6 n0],0,hi⟩:Option Blk) = some ⟨t2,[.ws .u64 6 n0],0,hi⟩/\endR2 (.tup [.agg [.ws .u64 6 (fun _=>0),.ws .u64 6 (fun _=>0),.one (.bo false)],.sc (.it 5)]) (avAE (gaE1 (⟨dF x0,dF y0,z0⟩:A2 Fp) (nv n0)) (geE1 (⟨dF x0,dF y0,z0⟩:A2 Fp)))) ?_ (by kernel_rfl)
  exact ⟨Nat.zero_le _,(by decide),rfl,hx0,hy0,by rw [h0];rfl,rfl,rfl,by rw [show gaE1 (⟨dF x0,dF y0,z0⟩:A2 Fp) (nv n0) = ⟨0,0,false⟩ by unfold gaE1;rw [h0];rfl,show geE1 (⟨dF x0,dF y0,z0⟩:A2 Fp) = 5 by unfold geE1;rw [h0];rfl];exact endTC rfl rfl (cv_cons e0x (cv_cons e0x (cv_one cv_nil)))⟩
 ·skip
  obtain ⟨r0,hr0⟩:∃ q_:J3 Fp,q_ = A2.raise (⟨dF x0,dF y0,z0⟩:A2 Fp):=⟨_,rfl⟩
  obtain ⟨s0,hs0⟩:∃ q_:J3 Fp,q_ = J3.times r0 (blen (nv n0)) (nv n0):=⟨_,rfl⟩
  obtain ⟨o0,ho0⟩:∃ q_:J3 Fp,q_ = J3.add J3.nil s0:=⟨_,rfl⟩
  obtain ⟨w,hw⟩:∃ q_:A2 Fp,q_ = A2.lower eInv o0:=⟨_,rfl⟩
  refine evS_q mixed tt_ok GGaE_ok 300 [⟨6,3,.lit (.bo false)⟩,⟨13,5,.as [.ws .u64 6 (eF (r0).x),.ws .u64 6 (eF (r0).y),.ws .u64 6 (eF (r0).z)]⟩,⟨13,10,.as [.ws .u64 6 (eF (s0).x),.ws .u64 6 (eF (s0).y),.ws .u64 6 (eF (s0).z)]⟩,⟨13,11,.as [.ws .u64 6 (eF (o0).x),.ws .u64 6 (eF (o0).y),.ws .u64 6 (eF (o0).z)]⟩,⟨15,2,.as [.ws .u64 6 (eF (w).x),.ws .u64 6 (eF (w).y),.one (.bo w.z)]⟩] ?_
  refine same (p:=0 <= 0/\0 - 0 + 13 < 14/\fdE = fdE/\nv x0 < pN/\nv y0 < pN/\(!(A2.on fourE (⟨dF x0,dF y0,z0⟩:A2 Fp))) = false/\0 <= 0/\0 - 0 + 13 < 14/\asP [.ws .u64 6 (eF (A2.raise (⟨dF x0,dF y0,z0⟩:A2 Fp)).x),.ws .u64 6 (eF (A2.raise (⟨dF x0,dF y0,z0⟩:A2 Fp)).y),.ws .u64 6 (eF (A2.raise (⟨dF x0,dF y0,z0⟩:A2 Fp)).z)] [.ws .u64 6 (eF (r0).x),.ws .u64 6 (eF (r0).y),.ws .u64 6 (eF (r0).z)]/\fdE = fdE/\nv x0 < pN/\nv y0 < pN/\asP [.ws .u64 6 (eF (J3.times (⟨dF (eF (r0).x),dF (eF (r0).y),dF (eF (r0).z)⟩:J3 Fp) (blen (nv n0)) (nv n0)).x),.ws .u64 6 (eF (J3.times (⟨dF (eF (r0).x),dF (eF (r0).y),dF (eF (r0).z)⟩:J3 Fp) (blen (nv n0)) (nv n0)).y),.ws .u64 6 (eF (J3.times (⟨dF (eF (r0).x),dF (eF (r0).y),dF (eF (r0).z)⟩:J3 Fp) (blen (nv n0)) (nv n0)).z)] [.ws .u64 6 (eF (s0).x),.ws .u64 6 (eF (s0).y),.ws .u64 6 (eF (s0).z)]/\fdE = fdE/\nv (eF (r0).x) < pN/\nv (eF (r0).y) < pN/\nv (eF (r0).z) < pN/\asP [.ws .u64 6 (eF (J3.add (⟨dF oneF,dF oneF,dF (fun _=>0)⟩:J3 Fp) (⟨dF (eF (s0).x),dF (eF (s0).y),dF (eF (s0).z)⟩:J3 Fp)).x),.ws .u64 6 (eF (J3.add (⟨dF oneF,dF oneF,dF (fun _=>0)⟩:J3 Fp) (⟨dF (eF (s0).x),dF (eF (s0).y),dF (eF (s0).z)⟩:J3 Fp)).y),.ws .u64 6 (eF (J3.add (⟨dF oneF,dF oneF,dF (fun _=>0)⟩:J3 Fp) (⟨dF (eF (s0).x),dF (eF (s0).y),dF (eF (s0).z)⟩:J3 Fp)).z)] [.ws .u64 6 (eF (o0).x),.ws .u64 6 (eF (o0).y),.ws .u64 6 (eF (o0).z)]/\fdE = fdE/\nv oneF < pN/\nv oneF < pN/\nv (fun _=>0) < pN/\nv (eF (s0).x) < pN/\nv (eF (s0).y) < pN/\nv (eF (s0).z) < pN/\asP [.ws .u64 6 (eF (A2.lower eInv (⟨dF (eF (o0).x),dF (eF (o0).y),dF (eF (o0).z)⟩:J3 Fp)).x),.ws .u64 6 (eF (A2.lower eInv (⟨dF (eF (o0).x),dF (eF (o0).y),dF (eF (o0).z)⟩:J3 Fp)).y),.one (.bo (A2.lower eInv (⟨dF (eF (o0).x),dF (eF (o0).y),dF (eF (o0).z)⟩:J3 Fp)).z)] [.ws .u64 6 (eF (w).x),.ws .u64 6 (eF (w).y),.one (.bo w.z)]/\fdE = fdE/\nv (eF (o0).x) < pN/\nv (eF (o0).y) < pN/\nv (eF (o0).z) < pN/\(some (winO t [.ws .u64 6 x0,.ws .u64 6 y0,.one (.bo z0)] wv):Option Blk) = some (winO t [.ws .u64 6 x0,.ws .u64 6 y0,.one (.bo z0)] wv)/\(some ⟨t2,[.ws .u64 6 n0],0,hi⟩:Option Blk) = some ⟨t2,[.ws .u64 6 n0],0,hi⟩/\endR2 (.tup [.agg [.ws .u64 6 (eF (w).x),.ws .u64 6 (eF (w).y),.one (.bo w.z)],.sc (.it 0)]) (avAE (gaE1 (⟨dF x0,dF y0,z0⟩:A2 Fp) (nv n0)) (geE1 (⟨dF x0,dF y0,z0⟩:A2 Fp)))) ?_ (by kernel_rfl)
  exact ⟨Nat.zero_le _,(by decide),rfl,hx0,hy0,by rw [h0];rfl,Nat.zero_le _,(by decide),asJE hr0.symm,rfl,hx0,hy0,asJE (by rw [JdE];exact hs0.symm),rfl,lt_eF _,lt_eF _,lt_eF _,asJE (by rw [JnE,JdE];exact ho0.symm),rfl,lt_one,lt_one,lt_pN0,lt_eF _,lt_eF _,lt_eF _,asAE (by rw [JdE];exact hw.symm),rfl,lt_eF _,lt_eF _,lt_eF _,rfl,rfl,by rw [show gaE1 (⟨dF x0,dF y0,z0⟩:A2 Fp) (nv n0) = w by unfold gaE1;rw [h0,hw,ho0,hs0,hr0];rfl,show geE1 (⟨dF x0,dF y0,z0⟩:A2 Fp) = 0 by unfold geE1;rw [h0];rfl];exact endTC rfl rfl (fun _=>rfl)⟩
theorem gaE2_walk {x0 y0 x1 y1 n0 n1:Nat->Nat} {z0 z1:Bool} {t t2:TypeId} {hi:Nat} (hx0:nv x0 < pN) (hy0:nv y0 < pN) (hx1:nv x1 < pN) (hy1:nv y1 < pN) (wv:Array Value × (Nat × Nat)) (cap:Nat) :
  AWqS Tryz.prog (Dm [some (winO t [.ws .u64 6 x0,.ws .u64 6 y0,.one (.bo z0),.ws .u64 6 x1,.ws .u64 6 y1,.one (.bo z1)] wv),some ⟨t2,[.ws .u64 6 n0,.ws .u64 6 n1],0,hi⟩]) (flatC (bodyOf Tryz.f119)) (FEndV tt Tryz.f119 (avAE (gaE2 (⟨dF x0,dF y0,z0⟩:A2 Fp) (⟨dF x1,dF y1,z1⟩:A2 Fp) (nv n0) (nv n1)) (geE2 (⟨dF x0,dF y0,z0⟩:A2 Fp) (⟨dF x1,dF y1,z1⟩:A2 Fp))) [some (winO t [.ws .u64 6 x0,.ws .u64 6 y0,.one (.bo z0),.ws .u64 6 x1,.ws .u64 6 y1,.one (.bo z1)] wv),some ⟨t2,[.ws .u64 6 n0,.ws .u64 6 n1],0,hi⟩]) ⟨frame0 ([.v1 (.agg fdE)] ++ [.v1 (.sc (.sl 0 0 2 cap)),.v1 (.sc (.sl 1 0 2 2))]) (Tryz.f119).ntmps,[some (winO t [.ws .u64 6 x0,.ws .u64 6 y0,.one (.bo z0),.ws .u64 6 x1,.ws .u64 6 y1,.one (.bo z1)] wv),some ⟨t2,[.ws .u64 6 n0,.ws .u64 6 n1],0,hi⟩]⟩:=by
 cases h0:A2.on fourE (⟨dF x0,dF y0,z0⟩:A2 Fp)
 ·refine evS_q mixed tt_ok GGaE_ok 300 [⟨6,3,.lit (.bo true)⟩] ?_
  refine same (p:=0 <= 0/\0 - 0 + 13 < 27/\fdE = fdE/\nv x0 < pN/\nv y0 < pN/\(!(A2.on fourE (⟨dF x0,dF y0,z0⟩:A2 Fp))) = true/\(some (winO t [.ws .u64 6 x0,.ws .u64 6 y0,.one (.bo z0),.ws .u64 6 x1,.ws .u64 6 y1,.one (.bo z1)] wv):Option Blk) = some (winO t [.ws .u64 6 x0,.ws .u64 6 y0,.one (.bo z0),.ws .u64 6 x1,.ws .u64 6 y1,.one (.bo z1)] wv)/\(some ⟨t2,[.ws .u64 6 n0,.ws .u64 6 n1],0,hi⟩:Option Blk) = some ⟨t2,[.ws .u64 6 n0,.ws .u64 6 n1],0,hi⟩/\endR2 (.tup [.agg [.ws .u64 6 (fun _=>0),.ws .u64 6 (fun _=>0),.one (.bo false)],.sc (.it 5)]) (avAE (gaE2 (⟨dF x0,dF y0,z0⟩:A2 Fp) (⟨dF x1,dF y1,z1⟩:A2 Fp) (nv n0) (nv n1)) (geE2 (⟨dF x0,dF y0,z0⟩:A2 Fp) (⟨dF x1,dF y1,z1⟩:A2 Fp)))) ?_ (by kernel_rfl)
  exact ⟨Nat.zero_le _,(by decide),rfl,hx0,hy0,by rw [h0];rfl,rfl,rfl,by rw [show gaE2 (⟨dF x0,dF y0,z0⟩:A2 Fp) (⟨dF x1,dF y1,z1⟩:A2 Fp) (nv n0) (nv n1) = ⟨0,0,false⟩ by unfold gaE2;rw [h0];rfl,show geE2 (⟨dF x0,dF y0,z0⟩:A2 Fp) (⟨dF x1,dF y1,z1⟩:A2 Fp) = 5 by unfold geE2;rw [h0];rfl];exact endTC rfl rfl (cv_cons e0x (cv_cons e0x (cv_one cv_nil)))⟩
 ·skip
  cases h1:A2.on fourE (⟨dF x1,dF y1,z1⟩:A2 Fp)
  ·refine evS_q mixed tt_ok GGaE_ok 300 [⟨6,3,.lit (.bo false)⟩,⟨6,3,.lit (.bo true)⟩] ?_
   refine same (p:=0 <= 0/\0 - 0 + 13 < 27/\fdE = fdE/\nv x0 < pN/\nv y0 < pN/\(!(A2.on fourE (⟨dF x0,dF y0,z0⟩:A2 Fp))) = false/\0 <= 13/\13 - 0 + 13 < 27/\fdE = fdE/\nv x1 < pN/\nv y1 < pN/\(!(A2.on fourE (⟨dF x1,dF y1,z1⟩:A2 Fp))) = true/\(some (winO t [.ws .u64 6 x0,.ws .u64 6 y0,.one (.bo z0),.ws .u64 6 x1,.ws .u64 6 y1,.one (.bo z1)] wv):Option Blk) = some (winO t [.ws .u64 6 x0,.ws .u64 6 y0,.one (.bo z0),.ws .u64 6 x1,.ws .u64 6 y1,.one (.bo z1)] wv)/\(some ⟨t2,[.ws .u64 6 n0,.ws .u64 6 n1],0,hi⟩:Option Blk) = some ⟨t2,[.ws .u64 6 n0,.ws .u64 6 n1],0,hi⟩/\endR2 (.tup [.agg [.ws .u64 6 (fun _=>0),.ws .u64 6 (fun _=>0),.one (.bo false)],.sc (.it 5)]) (avAE (gaE2 (⟨dF x0,dF y0,z0⟩:A2 Fp) (⟨dF x1,dF y1,z1⟩:A2 Fp) (nv n0) (nv n1)) (geE2 (⟨dF x0,dF y0,z0⟩:A2 Fp) (⟨dF x1,dF y1,z1⟩:A2 Fp)))) ?_ (by kernel_rfl)
   exact ⟨Nat.zero_le _,(by decide),rfl,hx0,hy0,by rw [h0];rfl,Nat.zero_le _,(by decide),rfl,hx1,hy1,by rw [h1];rfl,rfl,rfl,by rw [show gaE2 (⟨dF x0,dF y0,z0⟩:A2 Fp) (⟨dF x1,dF y1,z1⟩:A2 Fp) (nv n0) (nv n1) = ⟨0,0,false⟩ by unfold gaE2;rw [h0,h1];rfl,show geE2 (⟨dF x0,dF y0,z0⟩:A2 Fp) (⟨dF x1,dF y1,z1⟩:A2 Fp) = 5 by unfold geE2;rw [h0,h1];rfl];exact endTC rfl rfl (cv_cons e0x (cv_cons e0x (cv_one cv_nil)))⟩
  ·skip
   obtain ⟨r0,hr0⟩:∃ q_:J3 Fp,q_ = A2.raise (⟨dF x0,dF y0,z0⟩:A2 Fp):=⟨_,rfl⟩
   obtain ⟨s0,hs0⟩:∃ q_:J3 Fp,q_ = J3.times r0 (blen (nv n0)) (nv n0):=⟨_,rfl⟩
   obtain ⟨o0,ho0⟩:∃ q_:J3 Fp,q_ = J3.add J3.nil s0:=⟨_,rfl⟩
   obtain ⟨r1,hr1⟩:∃ q_:J3 Fp,q_ = A2.raise (⟨dF x1,dF y1,z1⟩:A2 Fp):=⟨_,rfl⟩
   obtain ⟨s1,hs1⟩:∃ q_:J3 Fp,q_ = J3.times r1 (blen (nv n1)) (nv n1):=⟨_,rfl⟩
   obtain ⟨o1,ho1⟩:∃ q_:J3 Fp,q_ = J3.add o0 s1:=⟨_,rfl⟩
   obtain ⟨w,hw⟩:∃ q_:A2 Fp,q_ = A2.lower eInv o1:=⟨_,rfl⟩
   refine evS_q mixed tt_ok GGaE_ok 300 [⟨6,3,.lit (.bo false)⟩,⟨6,3,.lit (.bo false)⟩,⟨13,5,.as [.ws .u64 6 (eF (r0).x),.ws .u64 6 (eF (r0).y),.ws .u64 6 (eF (r0).z)]⟩,⟨13,10,.as [.ws .u64 6 (eF (s0).x),.ws .u64 6 (eF (s0).y),.ws .u64 6 (eF (s0).z)]⟩,⟨13,11,.as [.ws .u64 6 (eF (o0).x),.ws .u64 6 (eF (o0).y),.ws .u64 6 (eF (o0).z)]⟩,⟨13,5,.as [.ws .u64 6 (eF (r1).x),.ws .u64 6 (eF (r1).y),.ws .u64 6 (eF (r1).z)]⟩,⟨13,10,.as [.ws .u64 6 (eF (s1).x),.ws .u64 6 (eF (s1).y),.ws .u64 6 (eF (s1).z)]⟩,⟨13,11,.as [.ws .u64 6 (eF (o1).x),.ws .u64 6 (eF (o1).y),.ws .u64 6 (eF (o1).z)]⟩,⟨15,2,.as [.ws .u64 6 (eF (w).x),.ws .u64 6 (eF (w).y),.one (.bo w.z)]⟩] ?_
   refine same (p:=0 <= 0/\0 - 0 + 13 < 27/\fdE = fdE/\nv x0 < pN/\nv y0 < pN/\(!(A2.on fourE (⟨dF x0,dF y0,z0⟩:A2 Fp))) = false/\0 <= 13/\13 - 0 + 13 < 27/\fdE = fdE/\nv x1 < pN/\nv y1 < pN/\(!(A2.on fourE (⟨dF x1,dF y1,z1⟩:A2 Fp))) = false/\0 <= 0/\0 - 0 + 13 < 27/\asP [.ws .u64 6 (eF (A2.raise (⟨dF x0,dF y0,z0⟩:A2 Fp)).x),.ws .u64 6 (eF (A2.raise (⟨dF x0,dF y0,z0⟩:A2 Fp)).y),.ws .u64 6 (eF (A2.raise (⟨dF x0,dF y0,z0⟩:A2 Fp)).z)] [.ws .u64 6 (eF (r0).x),.ws .u64 6 (eF (r0).y),.ws .u64 6 (eF (r0).z)]/\fdE = fdE/\nv x0 < pN/\nv y0 < pN/\asP [.ws .u64 6 (eF (J3.times (⟨dF (eF (r0).x),dF (eF (r0).y),dF (eF (r0).z)⟩:J3 Fp) (blen (nv n0)) (nv n0)).x),.ws .u64 6 (eF (J3.times (⟨dF (eF (r0).x),dF (eF (r0).y),dF (eF (r0).z)⟩:J3 Fp) (blen (nv n0)) (nv n0)).y),.ws .u64 6 (eF (J3.times (⟨dF (eF (r0).x),dF (eF (r0).y),dF (eF (r0).z)⟩:J3 Fp) (blen (nv n0)) (nv n0)).z)] [.ws .u64 6 (eF (s0).x),.ws .u64 6 (eF (s0).y),.ws .u64 6 (eF (s0).z)]/\fdE = fdE/\nv (eF (r0).x) < pN/\nv (eF (r0).y) < pN/\nv (eF (r0).z) < pN/\asP [.ws .u64 6 (eF (J3.add (⟨dF oneF,dF oneF,dF (fun _=>0)⟩:J3 Fp) (⟨dF (eF (s0).x),dF (eF (s0).y),dF (eF (s0).z)⟩:J3 Fp)).x),.ws .u64 6 (eF (J3.add (⟨dF oneF,dF oneF,dF (fun _=>0)⟩:J3 Fp) (⟨dF (eF (s0).x),dF (eF (s0).y),dF (eF (s0).z)⟩:J3 Fp)).y),.ws .u64 6 (eF (J3.add (⟨dF oneF,dF oneF,dF (fun _=>0)⟩:J3 Fp) (⟨dF (eF (s0).x),dF (eF (s0).y),dF (eF (s0).z)⟩:J3 Fp)).z)] [.ws .u64 6 (eF (o0).x),.ws .u64 6 (eF (o0).y),.ws .u64 6 (eF (o0).z)]/\fdE = fdE/\nv oneF < pN/\nv oneF < pN/\nv (fun _=>0) < pN/\nv (eF (s0).x) < pN/\nv (eF (s0).y) < pN/\nv (eF (s0).z) < pN/\0 <= 13/\13 - 0 + 13 < 27/\asP [.ws .u64 6 (eF (A2.raise (⟨dF x1,dF y1,z1⟩:A2 Fp)).x),.ws .u64 6 (eF (A2.raise (⟨dF x1,dF y1,z1⟩:A2 Fp)).y),.ws .u64 6 (eF (A2.raise (⟨dF x1,dF y1,z1⟩:A2 Fp)).z)] [.ws .u64 6 (eF (r1).x),.ws .u64 6 (eF (r1).y),.ws .u64 6 (eF (r1).z)]/\fdE = fdE/\nv x1 < pN/\nv y1 < pN/\asP [.ws .u64 6 (eF (J3.times (⟨dF (eF (r1).x),dF (eF (r1).y),dF (eF (r1).z)⟩:J3 Fp) (blen (nv n1)) (nv n1)).x),.ws .u64 6 (eF (J3.times (⟨dF (eF (r1).x),dF (eF (r1).y),dF (eF (r1).z)⟩:J3 Fp) (blen (nv n1)) (nv n1)).y),.ws .u64 6 (eF (J3.times (⟨dF (eF (r1).x),dF (eF (r1).y),dF (eF (r1).z)⟩:J3 Fp) (blen (nv n1)) (nv n1)).z)] [.ws .u64 6 (eF (s1).x),.ws .u64 6 (eF (s1).y),.ws .u64 6 (eF (s1).z)]/\fdE = fdE/\nv (eF (r1).x) < pN/\nv (eF (r1).y) < pN/\nv (eF (r1).z) < pN/\asP [.ws .u64 6 (eF (J3.add (⟨dF (eF (o0).x),dF (eF (o0).y),dF (eF (o0).z)⟩:J3 Fp) (⟨dF (eF (s1).x),dF (eF (s1).y),dF (eF (s1).z)⟩:J3 Fp)).x),.ws .u64 6 (eF (J3.add (⟨dF (eF (o0).x),dF (eF (o0).y),dF (eF (o0).z)⟩:J3 Fp) (⟨dF (eF (s1).x),dF (eF (s1).y),dF (eF (s1).z)⟩:J3 Fp)).y),.ws .u64 6 (eF (J3.add (⟨dF (eF (o0).x),dF (eF (o0).y),dF (eF (o0).z)⟩:J3 Fp) (⟨dF (eF (s1).x),dF (eF (s1).y),dF (eF (s1).z)⟩:J3 Fp)).z)] [.ws .u64 6 (eF (o1).x),.ws .u64 6 (eF (o1).y),.ws .u64 6 (eF (o1).z)]/\fdE = fdE/\nv (eF (o0).x) < pN/\nv (eF (o0).y) < pN/\nv (eF (o0).z) < pN/\nv (eF (s1).x) < pN/\nv (eF (s1).y) < pN/\nv (eF (s1).z) < pN/\asP [.ws .u64 6 (eF (A2.lower eInv (⟨dF (eF (o1).x),dF (eF (o1).y),dF (eF (o1).z)⟩:J3 Fp)).x),.ws .u64 6 (eF (A2.lower eInv (⟨dF (eF (o1).x),dF (eF (o1).y),dF (eF (o1).z)⟩:J3 Fp)).y),.one (.bo (A2.lower eInv (⟨dF (eF (o1).x),dF (eF (o1).y),dF (eF (o1).z)⟩:J3 Fp)).z)] [.ws .u64 6 (eF (w).x),.ws .u64 6 (eF (w).y),.one (.bo w.z)]/\fdE = fdE/\nv (eF (o1).x) < pN/\nv (eF (o1).y) < pN/\nv (eF (o1).z) < pN/\(some (winO t [.ws .u64 6 x0,.ws .u64 6 y0,.one (.bo z0),.ws .u64 6 x1,.ws .u64 6 y1,.one (.bo z1)] wv):Option Blk) = some (winO t [.ws .u64 6 x0,.ws .u64 6 y0,.one (.bo z0),.ws .u64 6 x1,.ws .u64 6 y1,.one (.bo z1)] wv)/\(some ⟨t2,[.ws .u64 6 n0,.ws .u64 6 n1],0,hi⟩:Option Blk) = some ⟨t2,[.ws .u64 6 n0,.ws .u64 6 n1],0,hi⟩/\endR2 (.tup [.agg [.ws .u64 6 (eF (w).x),.ws .u64 6 (eF (w).y),.one (.bo w.z)],.sc (.it 0)]) (avAE (gaE2 (⟨dF x0,dF y0,z0⟩:A2 Fp) (⟨dF x1,dF y1,z1⟩:A2 Fp) (nv n0) (nv n1)) (geE2 (⟨dF x0,dF y0,z0⟩:A2 Fp) (⟨dF x1,dF y1,z1⟩:A2 Fp)))) ?_ (by kernel_rfl)
   exact ⟨Nat.zero_le _,(by decide),rfl,hx0,hy0,by rw [h0];rfl,Nat.zero_le _,(by decide),rfl,hx1,hy1,by rw [h1];rfl,Nat.zero_le _,(by decide),asJE hr0.symm,rfl,hx0,hy0,asJE (by rw [JdE];exact hs0.symm),rfl,lt_eF _,lt_eF _,lt_eF _,asJE (by rw [JnE,JdE];exact ho0.symm),rfl,lt_one,lt_one,lt_pN0,lt_eF _,lt_eF _,lt_eF _,Nat.zero_le _,(by decide),asJE hr1.symm,rfl,hx1,hy1,asJE (by rw [JdE];exact hs1.symm),rfl,lt_eF _,lt_eF _,lt_eF _,asJE (by rw [JdE,JdE];exact ho1.symm),rfl,lt_eF _,lt_eF _,lt_eF _,lt_eF _,lt_eF _,lt_eF _,asAE (by rw [JdE];exact hw.symm),rfl,lt_eF _,lt_eF _,lt_eF _,rfl,rfl,by rw [show gaE2 (⟨dF x0,dF y0,z0⟩:A2 Fp) (⟨dF x1,dF y1,z1⟩:A2 Fp) (nv n0) (nv n1) = w by unfold gaE2;rw [h0,h1,hw,ho1,hs1,hr1,ho0,hs0,hr0];rfl,show geE2 (⟨dF x0,dF y0,z0⟩:A2 Fp) (⟨dF x1,dF y1,z1⟩:A2 Fp) = 0 by unfold geE2;rw [h0,h1];rfl];exact endTC rfl rfl (fun _=>rfl)⟩
theorem okGaE:(CallC.rd gaCE).Ok Tryz.prog 119:=by
 refine ⟨fun args h pre v e hp=>?_,fun args h slot blk hs ha=>?_⟩
 ·unfold gaCE at e
  split at e
  ·split at e
   ·rename_i h1 h2
    cases e
    have hcs:=hp _ (List.mem_cons_self ..)
    subst hcs
    exact rd_so tt_ok Tryz.func119 (by kernel_rfl) (by kernel_rfl) (pre:=[.v1 (.agg fdE)]) rfl (by kernel_rfl) h1 h2 rfl rfl rfl (gaE1_walk (hp _ (by simp)) (hp _ (by simp)))
   ·cases e
  ·split at e
   ·rename_i h1 h2
    cases e
    have hcs:=hp _ (List.mem_cons_self ..)
    subst hcs
    exact rd_so tt_ok Tryz.func119 (by kernel_rfl) (by kernel_rfl) (pre:=[.v1 (.agg fdE)]) rfl (by kernel_rfl) h1 h2 rfl rfl rfl (gaE2_walk (hp _ (by simp)) (hp _ (by simp)) (hp _ (by simp)) (hp _ (by simp)))
   ·cases e
  ·cases e
 ·have key:∀ b c,Dm h b->Dm h c->hget (hset h slot blk) b = hget h b/\hget (hset h slot blk) c = hget h c:=fun b c hb hc=>⟨keepS hs hb,keepS hs hc⟩
  unfold gaCE
  split
  ·rename_i cs b c
   obtain ⟨k1,k2⟩:=key b c (ha (.v1 (.sc (.so b 1))) (by simp)).1 (ha (.v1 (.sc (.sl c 0 1 1))) (by simp))
   rw [k1,k2]
  ·rename_i cs b c
   obtain ⟨k1,k2⟩:=key b c (ha (.v1 (.sc (.so b 2))) (by simp)).1 (ha (.v1 (.sc (.sl c 0 2 2))) (by simp))
   rw [k1,k2]
  ·rfl
end Go.Proofs.YtnjocbcjejpklaaGreat
namespace Go.Proofs.YtnjocbcjejpklaaGreat
open Go.Rq Go
set_option maxRecDepth 100000
set_option linter.unusedVariables false
set_option linter.unusedSimpArgs false
set_option maxHeartbeats 4000000
set_option maxRecDepth 100000
theorem asJQ {u t:J3 F2p} (h:u = t):asP [.ws .u64 6 (eF (u).x.x),.ws .u64 6 (eF (u).x.y),.ws .u64 6 (eF (u).y.x),.ws .u64 6 (eF (u).y.y),.ws .u64 6 (eF (u).z.x),.ws .u64 6 (eF (u).z.y)] [.ws .u64 6 (eF (t).x.x),.ws .u64 6 (eF (t).x.y),.ws .u64 6 (eF (t).y.x),.ws .u64 6 (eF (t).y.y),.ws .u64 6 (eF (t).z.x),.ws .u64 6 (eF (t).z.y)]:=by subst h;exact fun _=>rfl
theorem asAQ {u t:A2 F2p} (h:u = t):asP [.ws .u64 6 (eF (u).x.x),.ws .u64 6 (eF (u).x.y),.ws .u64 6 (eF (u).y.x),.ws .u64 6 (eF (u).y.y),.one (.bo u.z)] [.ws .u64 6 (eF (t).x.x),.ws .u64 6 (eF (t).x.y),.ws .u64 6 (eF (t).y.x),.ws .u64 6 (eF (t).y.y),.one (.bo t.z)]:=by subst h;exact fun _=>rfl
theorem JdQ (t:J3 F2p):(⟨(⟨dF (eF (t).x.x),dF (eF (t).x.y)⟩:F2p),(⟨dF (eF (t).y.x),dF (eF (t).y.y)⟩:F2p),(⟨dF (eF (t).z.x),dF (eF (t).z.y)⟩:F2p)⟩:J3 F2p) = t:=by rw [dF_eF,dF_eF,dF_eF,dF_eF,dF_eF,dF_eF]
theorem JnQ:(⟨(⟨dF oneF,dF (fun _=>0)⟩:F2p),(⟨dF oneF,dF (fun _=>0)⟩:F2p),(⟨dF (fun _=>0),dF (fun _=>0)⟩:F2p)⟩:J3 F2p) = J3.nil:=by rw [dF_one,dF_0];exact nilQ.symm
def shQ (o:J3 F2p) (p:A2 F2p) (n:Nat):J3 F2p:=J3.add o (J3.times (A2.raise p) (blen n) n)
def gaQ1 (p:A2 F2p) (n:Nat):A2 F2p:=bif A2.on fourQ p then A2.lower F2p.inv (shQ J3.nil p n) else ⟨0,0,false⟩
def geQ1 (p:A2 F2p):Int:=bif A2.on fourQ p then 0 else 5
def gaQ2 (p q:A2 F2p) (n m:Nat):A2 F2p:=bif A2.on fourQ p && A2.on fourQ q then A2.lower F2p.inv (shQ (shQ J3.nil p n) q m) else ⟨0,0,false⟩
def geQ2 (p q:A2 F2p):Int:=bif A2.on fourQ p && A2.on fourQ q then 0 else 5
def avAQ (a:A2 F2p) (e:Int):AV:=.tup [.agg [.ws .u64 6 (eF (a).x.x),.ws .u64 6 (eF (a).x.y),.ws .u64 6 (eF (a).y.x),.ws .u64 6 (eF (a).y.y),.one (.bo a.z)],.sc (.it e)]
def gaCQ:List AV->Heap->Option (List Prop × AV)
 | [.v1 (.agg cs),.v1 (.sc (.so b 1)),.v1 (.sc (.sl c 0 1 1))],h=>match hget h b,hget h c with
  | some ⟨_,[.ws .u64 6 x0,.ws .u64 6 u0,.ws .u64 6 y0,.ws .u64 6 v0,.one (.bo z0)],1,_⟩,some ⟨_,[.ws .u64 6 n0],0,_⟩=>some ([cs = fdQ,nv x0 < pN,nv u0 < pN,nv y0 < pN,nv v0 < pN],avAQ (gaQ1 (⟨(⟨dF x0,dF u0⟩:F2p),(⟨dF y0,dF v0⟩:F2p),z0⟩:A2 F2p) (nv n0)) (geQ1 (⟨(⟨dF x0,dF u0⟩:F2p),(⟨dF y0,dF v0⟩:F2p),z0⟩:A2 F2p)))
  | _,_=>none
 | [.v1 (.agg cs),.v1 (.sc (.so b 2)),.v1 (.sc (.sl c 0 2 2))],h=>match hget h b,hget h c with
  | some ⟨_,[.ws .u64 6 x0,.ws .u64 6 u0,.ws .u64 6 y0,.ws .u64 6 v0,.one (.bo z0),.ws .u64 6 x1,.ws .u64 6 u1,.ws .u64 6 y1,.ws .u64 6 v1,.one (.bo z1)],1,_⟩,some ⟨_,[.ws .u64 6 n0,.ws .u64 6 n1],0,_⟩=>some ([cs = fdQ,nv x0 < pN,nv u0 < pN,nv y0 < pN,nv v0 < pN,nv x1 < pN,nv u1 < pN,nv y1 < pN,nv v1 < pN],avAQ (gaQ2 (⟨(⟨dF x0,dF u0⟩:F2p),(⟨dF y0,dF v0⟩:F2p),z0⟩:A2 F2p) (⟨(⟨dF x1,dF u1⟩:F2p),(⟨dF y1,dF v1⟩:F2p),z1⟩:A2 F2p) (nv n0) (nv n1)) (geQ2 (⟨(⟨dF x0,dF u0⟩:F2p),(⟨dF y0,dF v0⟩:F2p),z0⟩:A2 F2p) (⟨(⟨dF x1,dF u1⟩:F2p),(⟨dF y1,dF v1⟩:F2p),z1⟩:A2 F2p)))
  | _,_=>none
 | _,_=>none
def GGaQ:Ctx:=ctxL [(115,.pure onCQ),(118,.pure raCQ),(117,.pure tiCQ),(168,.pure (jQ2 J3.add)),(116,.pure loCQ)]
theorem GGaQ_ok:CtxOk Tryz.prog GGaQ:=ctxL_cons okOnQ <| ctxL_cons okRaQ <| ctxL_cons okTiQ <| ctxL_cons okSmQ <| ctxL_cons okLoQ ctxL_nil
theorem gaQ1_walk {x0 u0 y0 v0 n0:Nat->Nat} {z0:Bool} {t t2:TypeId} {hi:Nat} (hx0:nv x0 < pN) (hu0:nv u0 < pN) (hy0:nv y0 < pN) (hv0:nv v0 < pN) (wv:Array Value × (Nat × Nat)) (cap:Nat) :
  AWqS Tryz.prog (Dm [some (winO t [.ws .u64 6 x0,.ws .u64 6 u0,.ws .u64 6 y0,.ws .u64 6 v0,.one (.bo z0)] wv),some ⟨t2,[.ws .u64 6 n0],0,hi⟩]) (flatC (bodyOf Tryz.f120)) (FEndV tt Tryz.f120 (avAQ (gaQ1 (⟨(⟨dF x0,dF u0⟩:F2p),(⟨dF y0,dF v0⟩:F2p),z0⟩:A2 F2p) (nv n0)) (geQ1 (⟨(⟨dF x0,dF u0⟩:F2p),(⟨dF y0,dF v0⟩:F2p),z0⟩:A2 F2p))) [some (winO t [.ws .u64 6 x0,.ws .u64 6 u0,.ws .u64 6 y0,.ws .u64 6 v0,.one (.bo z0)] wv),some ⟨t2,[.ws .u64 6 n0],0,hi⟩]) ⟨frame0 ([.v1 (.agg fdQ)] ++ [.v1 (.sc (.sl 0 0 1 cap)),.v1 (.sc (.sl 1 0 1 1))]) (Tryz.f120).ntmps,[some (winO t [.ws .u64 6 x0,.ws .u64 6 u0,.ws .u64 6 y0,.ws .u64 6 v0,.one (.bo z0)] wv),some ⟨t2,[.ws .u64 6 n0],0,hi⟩]⟩:=by
 cases h0:A2.on fourQ (⟨(⟨dF x0,dF u0⟩:F2p),(⟨dF y0,dF v0⟩:F2p),z0⟩:A2 F2p)
 ·refine evS_q mixed tt_ok GGaQ_ok 300 [⟨6,3,.lit (.bo true)⟩] ?_
  refine same (p:=0 <= 0/\0 - 0 + 25 < 26/\fdQ = fdQ/\nv x0 < pN/\nv u0 < pN/\nv y0 < pN/\nv v0 < pN/\(!(A2.on fourQ (⟨(⟨dF x0,dF u0⟩:F2p),(⟨dF y0,dF v0⟩:F2p),z0⟩:A2 F2p))) = true/\(some (winO t [.ws .u64 6 x0,.ws .u64 6 u0,.ws .u64 6 y0,.ws .u64 6 v0,.one (.bo z0)] wv):Option Blk) = some (winO t [.ws .u64 6 x0,.ws .u64 6 u0,.ws .u64 6 y0,.ws .u64 6 v0,.one (.bo z0)] wv)/\(some ⟨t2,[.ws .u64 6 n0],0,hi⟩:Option Blk) = some ⟨t2,[.ws .u64 6 n0],0,hi⟩/\endR2 (.tup [.agg [.ws .u64 6 (fun _=>0),.ws .u64 6 (fun _=>0),.ws .u64 6 (fun _=>0),.ws .u64 6 (fun _=>0),.one (.bo false)],.sc (.it 5)]) (avAQ (gaQ1 (⟨(⟨dF x0,dF u0⟩:F2p),(⟨dF y0,dF v0⟩:F2p),z0⟩:A2 F2p) (nv n0)) (geQ1 (⟨(⟨dF x0,dF u0⟩:F2p),(⟨dF y0,dF v0⟩:F2p),z0⟩:A2 F2p)))) ?_ (by kernel_rfl)
  exact ⟨Nat.zero_le _,(by decide),rfl,hx0,hu0,hy0,hv0,by rw [h0];rfl,rfl,rfl,by rw [show gaQ1 (⟨(⟨dF x0,dF u0⟩:F2p),(⟨dF y0,dF v0⟩:F2p),z0⟩:A2 F2p) (nv n0) = ⟨0,0,false⟩ by unfold gaQ1;rw [h0];rfl,show geQ1 (⟨(⟨dF x0,dF u0⟩:F2p),(⟨dF y0,dF v0⟩:F2p),z0⟩:A2 F2p) = 5 by unfold geQ1;rw [h0];rfl];exact endTC rfl rfl (cv_cons q0x (cv_cons q0y (cv_cons q0x (cv_cons q0y (cv_one cv_nil)))))⟩
 ·skip
  obtain ⟨r0,hr0⟩:∃ q_:J3 F2p,q_ = A2.raise (⟨(⟨dF x0,dF u0⟩:F2p),(⟨dF y0,dF v0⟩:F2p),z0⟩:A2 F2p):=⟨_,rfl⟩
  obtain ⟨s0,hs0⟩:∃ q_:J3 F2p,q_ = J3.times r0 (blen (nv n0)) (nv n0):=⟨_,rfl⟩
  obtain ⟨o0,ho0⟩:∃ q_:J3 F2p,q_ = J3.add J3.nil s0:=⟨_,rfl⟩
  obtain ⟨w,hw⟩:∃ q_:A2 F2p,q_ = A2.lower F2p.inv o0:=⟨_,rfl⟩
  refine evS_q mixed tt_ok GGaQ_ok 300 [⟨6,3,.lit (.bo false)⟩,⟨13,5,.as [.ws .u64 6 (eF (r0).x.x),.ws .u64 6 (eF (r0).x.y),.ws .u64 6 (eF (r0).y.x),.ws .u64 6 (eF (r0).y.y),.ws .u64 6 (eF (r0).z.x),.ws .u64 6 (eF (r0).z.y)]⟩,⟨13,10,.as [.ws .u64 6 (eF (s0).x.x),.ws .u64 6 (eF (s0).x.y),.ws .u64 6 (eF (s0).y.x),.ws .u64 6 (eF (s0).y.y),.ws .u64 6 (eF (s0).z.x),.ws .u64 6 (eF (s0).z.y)]⟩,⟨13,11,.as [.ws .u64 6 (eF (o0).x.x),.ws .u64 6 (eF (o0).x.y),.ws .u64 6 (eF (o0).y.x),.ws .u64 6 (eF (o0).y.y),.ws .u64 6 (eF (o0).z.x),.ws .u64 6 (eF (o0).z.y)]⟩,⟨15,2,.as [.ws .u64 6 (eF (w).x.x),.ws .u64 6 (eF (w).x.y),.ws .u64 6 (eF (w).y.x),.ws .u64 6 (eF (w).y.y),.one (.bo w.z)]⟩] ?_
  refine same (p:=0 <= 0/\0 - 0 + 25 < 26/\fdQ = fdQ/\nv x0 < pN/\nv u0 < pN/\nv y0 < pN/\nv v0 < pN/\(!(A2.on fourQ (⟨(⟨dF x0,dF u0⟩:F2p),(⟨dF y0,dF v0⟩:F2p),z0⟩:A2 F2p))) = false/\0 <= 0/\0 - 0 + 25 < 26/\asP [.ws .u64 6 (eF (A2.raise (⟨(⟨dF x0,dF u0⟩:F2p),(⟨dF y0,dF v0⟩:F2p),z0⟩:A2 F2p)).x.x),.ws .u64 6 (eF (A2.raise (⟨(⟨dF x0,dF u0⟩:F2p),(⟨dF y0,dF v0⟩:F2p),z0⟩:A2 F2p)).x.y),.ws .u64 6 (eF (A2.raise (⟨(⟨dF x0,dF u0⟩:F2p),(⟨dF y0,dF v0⟩:F2p),z0⟩:A2 F2p)).y.x),.ws .u64 6 (eF (A2.raise (⟨(⟨dF x0,dF u0⟩:F2p),(⟨dF y0,dF v0⟩:F2p),z0⟩:A2 F2p)).y.y),.ws .u64 6 (eF (A2.raise (⟨(⟨dF x0,dF u0⟩:F2p),(⟨dF y0,dF v0⟩:F2p),z0⟩:A2 F2p)).z.x),.ws .u64 6 (eF (A2.raise (⟨(⟨dF x0,dF u0⟩:F2p),(⟨dF y0,dF v0⟩:F2p),z0⟩:A2 F2p)).z.y)] [.ws .u64 6 (eF (r0).x.x),.ws .u64 6 (eF (r0).x.y),.ws .u64 6 (eF (r0).y.x),.ws .u64 6 (eF (r0).y.y),.ws .u64 6 (eF (r0).z.x),.ws .u64 6 (eF (r0).z.y)]/\fdQ = fdQ/\nv x0 < pN/\nv u0 < pN/\nv y0 < pN/\nv v0 < pN/\asP [.ws .u64 6 (eF (J3.times (⟨(⟨dF (eF (r0).x.x),dF (eF (r0).x.y)⟩:F2p),(⟨dF (eF (r0).y.x),dF (eF (r0).y.y)⟩:F2p),(⟨dF (eF (r0).z.x),dF (eF (r0).z.y)⟩:F2p)⟩:J3 F2p) (blen (nv n0)) (nv n0)).x.x),.ws .u64 6 (eF (J3.times (⟨(⟨dF (eF (r0).x.x),dF (eF (r0).x.y)⟩:F2p),(⟨dF (eF (r0).y.x),dF (eF (r0).y.y)⟩:F2p),(⟨dF (eF (r0).z.x),dF (eF (r0).z.y)⟩:F2p)⟩:J3 F2p) (blen (nv n0)) (nv n0)).x.y),.ws .u64 6 (eF (J3.times (⟨(⟨dF (eF (r0).x.x),dF (eF (r0).x.y)⟩:F2p),(⟨dF (eF (r0).y.x),dF (eF (r0).y.y)⟩:F2p),(⟨dF (eF (r0).z.x),dF (eF (r0).z.y)⟩:F2p)⟩:J3 F2p) (blen (nv n0)) (nv n0)).y.x),.ws .u64 6 (eF (J3.times (⟨(⟨dF (eF (r0).x.x),dF (eF (r0).x.y)⟩:F2p),(⟨dF (eF (r0).y.x),dF (eF (r0).y.y)⟩:F2p),(⟨dF (eF (r0).z.x),dF (eF (r0).z.y)⟩:F2p)⟩:J3 F2p) (blen (nv n0)) (nv n0)).y.y),.ws .u64 6 (eF (J3.times (⟨(⟨dF (eF (r0).x.x),dF (eF (r0).x.y)⟩:F2p),(⟨dF (eF (r0).y.x),dF (eF (r0).y.y)⟩:F2p),(⟨dF (eF (r0).z.x),dF (eF (r0).z.y)⟩:F2p)⟩:J3 F2p) (blen (nv n0)) (nv n0)).z.x),.ws .u64 6 (eF (J3.times (⟨(⟨dF (eF (r0).x.x),dF (eF (r0).x.y)⟩:F2p),(⟨dF (eF (r0).y.x),dF (eF (r0).y.y)⟩:F2p),(⟨dF (eF (r0).z.x),dF (eF (r0).z.y)⟩:F2p)⟩:J3 F2p) (blen (nv n0)) (nv n0)).z.y)] [.ws .u64 6 (eF (s0).x.x),.ws .u64 6 (eF (s0).x.y),.ws .u64 6 (eF (s0).y.x),.ws .u64 6 (eF (s0).y.y),.ws .u64 6 (eF (s0).z.x),.ws .u64 6 (eF (s0).z.y)]/\fdQ = fdQ/\nv (eF (r0).x.x) < pN/\nv (eF (r0).x.y) < pN/\nv (eF (r0).y.x) < pN/\nv (eF (r0).y.y) < pN/\nv (eF (r0).z.x) < pN/\nv (eF (r0).z.y) < pN/\asP [.ws .u64 6 (eF (J3.add (⟨(⟨dF oneF,dF (fun _=>0)⟩:F2p),(⟨dF oneF,dF (fun _=>0)⟩:F2p),(⟨dF (fun _=>0),dF (fun _=>0)⟩:F2p)⟩:J3 F2p) (⟨(⟨dF (eF (s0).x.x),dF (eF (s0).x.y)⟩:F2p),(⟨dF (eF (s0).y.x),dF (eF (s0).y.y)⟩:F2p),(⟨dF (eF (s0).z.x),dF (eF (s0).z.y)⟩:F2p)⟩:J3 F2p)).x.x),.ws .u64 6 (eF (J3.add (⟨(⟨dF oneF,dF (fun _=>0)⟩:F2p),(⟨dF oneF,dF (fun _=>0)⟩:F2p),(⟨dF (fun _=>0),dF (fun _=>0)⟩:F2p)⟩:J3 F2p) (⟨(⟨dF (eF (s0).x.x),dF (eF (s0).x.y)⟩:F2p),(⟨dF (eF (s0).y.x),dF (eF (s0).y.y)⟩:F2p),(⟨dF (eF (s0).z.x),dF (eF (s0).z.y)⟩:F2p)⟩:J3 F2p)).x.y),.ws .u64 6 (eF (J3.add (⟨(⟨dF oneF,dF (fun _=>0)⟩:F2p),(⟨dF oneF,dF (fun _=>0)⟩:F2p),(⟨dF (fun _=>0),dF (fun _=>0)⟩:F2p)⟩:J3 F2p) (⟨(⟨dF (eF (s0).x.x),dF (eF (s0).x.y)⟩:F2p),(⟨dF (eF (s0).y.x),dF (eF (s0).y.y)⟩:F2p),(⟨dF (eF (s0).z.x),dF (eF (s0).z.y)⟩:F2p)⟩:J3 F2p)).y.x),.ws .u64 6 (eF (J3.add (⟨(⟨dF oneF,dF (fun _=>0)⟩:F2p),(⟨dF oneF,dF (fun _=>0)⟩:F2p),(⟨dF (fun _=>0),dF (fun _=>0)⟩:F2p)⟩:J3 F2p) (⟨(⟨dF (eF (s0).x.x),dF (eF (s0).x.y)⟩:F2p),(⟨dF (eF (s0).y.x),dF (eF (s0).y.y)⟩:F2p),(⟨dF (eF (s0).z.x),dF (eF (s0).z.y)⟩:F2p)⟩:J3 F2p)).y.y),.ws .u64 6 (eF (J3.add (⟨(⟨dF oneF,dF (fun _=>0)⟩:F2p),(⟨dF oneF,dF (fun _=>0)⟩:F2p),(⟨dF (fun _=>0),dF (fun _=>0)⟩:F2p)⟩:J3 F2p) (⟨(⟨dF (eF (s0).x.x),dF (eF (s0).x.y)⟩:F2p),(⟨dF (eF (s0).y.x),dF (eF (s0).y.y)⟩:F2p),(⟨dF (eF (s0).z.x),dF (eF (s0).z.y)⟩:F2p)⟩:J3 F2p)).z.x),.ws .u64 6 (eF (J3.add (⟨(⟨dF oneF,dF (fun _=>0)⟩:F2p),(⟨dF oneF,dF (fun _=>0)⟩:F2p),(⟨dF (fun _=>0),dF (fun _=>0)⟩:F2p)⟩:J3 F2p) (⟨(⟨dF (eF (s0).x.x),dF (eF (s0).x.y)⟩:F2p),(⟨dF (eF (s0).y.x),dF (eF (s0).y.y)⟩:F2p),(⟨dF (eF (s0).z.x),dF (eF (s0).z.y)⟩:F2p)⟩:J3 F2p)).z.y)] [.ws .u64 6 (eF (o0).x.x),.ws .u64 6 (eF (o0).x.y),.ws .u64 6 (eF (o0).y.x),.ws .u64 6 (eF (o0).y.y),.ws .u64 6 (eF (o0).z.x),.ws .u64 6 (eF (o0).z.y)]/\fdQ = fdQ/\nv oneF < pN/\nv (fun _=>0) < pN/\nv oneF < pN/\nv (fun _=>0) < pN/\nv (fun _=>0) < pN/\nv (fun _=>0) < pN/\nv (eF (s0).x.x) < pN/\nv (eF (s0).x.y) < pN/\nv (eF (s0).y.x) < pN/\nv (eF (s0).y.y) < pN/\nv (eF (s0).z.x) < pN/\nv (eF (s0).z.y) < pN/\asP [.ws .u64 6 (eF (A2.lower F2p.inv (⟨(⟨dF (eF (o0).x.x),dF (eF (o0).x.y)⟩:F2p),(⟨dF (eF (o0).y.x),dF (eF (o0).y.y)⟩:F2p),(⟨dF (eF (o0).z.x),dF (eF (o0).z.y)⟩:F2p)⟩:J3 F2p)).x.x),.ws .u64 6 (eF (A2.lower F2p.inv (⟨(⟨dF (eF (o0).x.x),dF (eF (o0).x.y)⟩:F2p),(⟨dF (eF (o0).y.x),dF (eF (o0).y.y)⟩:F2p),(⟨dF (eF (o0).z.x),dF (eF (o0).z.y)⟩:F2p)⟩:J3 F2p)).x.y),.ws .u64 6 (eF (A2.lower F2p.inv (⟨(⟨dF (eF (o0).x.x),dF (eF (o0).x.y)⟩:F2p),(⟨dF (eF (o0).y.x),dF (eF (o0).y.y)⟩:F2p),(⟨dF (eF (o0).z.x),dF (eF (o0).z.y)⟩:F2p)⟩:J3 F2p)).y.x),.ws .u64 6 (eF (A2.lower F2p.inv (⟨(⟨dF (eF (o0).x.x),dF (eF (o0).x.y)⟩:F2p),(⟨dF (eF (o0).y.x),dF (eF (o0).y.y)⟩:F2p),(⟨dF (eF (o0).z.x),dF (eF (o0).z.y)⟩:F2p)⟩:J3 F2p)).y.y),.one (.bo (A2.lower F2p.inv (⟨(⟨dF (eF (o0).x.x),dF (eF (o0).x.y)⟩:F2p),(⟨dF (eF (o0).y.x),dF (eF (o0).y.y)⟩:F2p),(⟨dF (eF (o0).z.x),dF (eF (o0).z.y)⟩:F2p)⟩:J3 F2p)).z)] [.ws .u64 6 (eF (w).x.x),.ws .u64 6 (eF (w).x.y),.ws .u64 6 (eF (w).y.x),.ws .u64 6 (eF (w).y.y),.one (.bo w.z)]/\fdQ = fdQ/\nv (eF (o0).x.x) < pN/\nv (eF (o0).x.y) < pN/\nv (eF (o0).y.x) < pN/\nv (eF (o0).y.y) < pN/\nv (eF (o0).z.x) < pN/\nv (eF (o0).z.y) < pN/\(some (winO t [.ws .u64 6 x0,.ws .u64 6 u0,.ws .u64 6 y0,.ws .u64 6 v0,.one (.bo z0)] wv):Option Blk) = some (winO t [.ws .u64 6 x0,.ws .u64 6 u0,.ws .u64 6 y0,.ws .u64 6 v0,.one (.bo z0)] wv)/\(some ⟨t2,[.ws .u64 6 n0],0,hi⟩:Option Blk) = some ⟨t2,[.ws .u64 6 n0],0,hi⟩/\endR2 (.tup [.agg [.ws .u64 6 (eF (w).x.x),.ws .u64 6 (eF (w).x.y),.ws .u64 6 (eF (w).y.x),.ws .u64 6 (eF (w).y.y),.one (.bo w.z)],.sc (.it 0)]) (avAQ (gaQ1 (⟨(⟨dF x0,dF u0⟩:F2p),(⟨dF y0,dF v0⟩:F2p),z0⟩:A2 F2p) (nv n0)) (geQ1 (⟨(⟨dF x0,dF u0⟩:F2p),(⟨dF y0,dF v0⟩:F2p),z0⟩:A2 F2p)))) ?_ (by kernel_rfl)
  exact ⟨Nat.zero_le _,(by decide),rfl,hx0,hu0,hy0,hv0,by rw [h0];rfl,Nat.zero_le _,(by decide),asJQ hr0.symm,rfl,hx0,hu0,hy0,hv0,asJQ (by rw [JdQ];exact hs0.symm),rfl,lt_eF _,lt_eF _,lt_eF _,lt_eF _,lt_eF _,lt_eF _,asJQ (by rw [JnQ,JdQ];exact ho0.symm),rfl,lt_one,lt_pN0,lt_one,lt_pN0,lt_pN0,lt_pN0,lt_eF _,lt_eF _,lt_eF _,lt_eF _,lt_eF _,lt_eF _,asAQ (by rw [JdQ];exact hw.symm),rfl,lt_eF _,lt_eF _,lt_eF _,lt_eF _,lt_eF _,lt_eF _,rfl,rfl,by rw [show gaQ1 (⟨(⟨dF x0,dF u0⟩:F2p),(⟨dF y0,dF v0⟩:F2p),z0⟩:A2 F2p) (nv n0) = w by unfold gaQ1;rw [h0,hw,ho0,hs0,hr0];rfl,show geQ1 (⟨(⟨dF x0,dF u0⟩:F2p),(⟨dF y0,dF v0⟩:F2p),z0⟩:A2 F2p) = 0 by unfold geQ1;rw [h0];rfl];exact endTC rfl rfl (fun _=>rfl)⟩
theorem gaQ2_walk {x0 u0 y0 v0 x1 u1 y1 v1 n0 n1:Nat->Nat} {z0 z1:Bool} {t t2:TypeId} {hi:Nat} (hx0:nv x0 < pN) (hu0:nv u0 < pN) (hy0:nv y0 < pN) (hv0:nv v0 < pN) (hx1:nv x1 < pN) (hu1:nv u1 < pN) (hy1:nv y1 < pN) (hv1:nv v1 < pN) (wv:Array Value × (Nat × Nat)) (cap:Nat) :
  AWqS Tryz.prog (Dm [some (winO t [.ws .u64 6 x0,.ws .u64 6 u0,.ws .u64 6 y0,.ws .u64 6 v0,.one (.bo z0),.ws .u64 6 x1,.ws .u64 6 u1,.ws .u64 6 y1,.ws .u64 6 v1,.one (.bo z1)] wv),some ⟨t2,[.ws .u64 6 n0,.ws .u64 6 n1],0,hi⟩]) (flatC (bodyOf Tryz.f120)) (FEndV tt Tryz.f120 (avAQ (gaQ2 (⟨(⟨dF x0,dF u0⟩:F2p),(⟨dF y0,dF v0⟩:F2p),z0⟩:A2 F2p) (⟨(⟨dF x1,dF u1⟩:F2p),(⟨dF y1,dF v1⟩:F2p),z1⟩:A2 F2p) (nv n0) (nv n1)) (geQ2 (⟨(⟨dF x0,dF u0⟩:F2p),(⟨dF y0,dF v0⟩:F2p),z0⟩:A2 F2p) (⟨(⟨dF x1,dF u1⟩:F2p),(⟨dF y1,dF v1⟩:F2p),z1⟩:A2 F2p))) [some (winO t [.ws .u64 6 x0,.ws .u64 6 u0,.ws .u64 6 y0,.ws .u64 6 v0,.one (.bo z0),.ws .u64 6 x1,.ws .u64 6 u1,.ws .u64 6 y1,.ws .u64 6 v1,.one (.bo z1)] wv),some ⟨t2,[.ws .u64 6 n0,.ws .u64 6 n1],0,hi⟩]) ⟨frame0 ([.v1 (.agg fdQ)] ++ [.v1 (.sc (.sl 0 0 2 cap)),.v1 (.sc (.sl 1 0 2 2))]) (Tryz.f120).ntmps,[some (winO t [.ws .u64 6 x0,.ws .u64 6 u0,.ws .u64 6 y0,.ws .u64 6 v0,.one (.bo z0),.ws .u64 6 x1,.ws .u64 6 u1,.ws .u64 6 y1,.ws .u64 6 v1,.one (.bo z1)] wv),some ⟨t2,[.ws .u64 6 n0,.ws .u64 6 n1],0,hi⟩]⟩:=by
 cases h0:A2.on fourQ (⟨(⟨dF x0,dF u0⟩:F2p),(⟨dF y0,dF v0⟩:F2p),z0⟩:A2 F2p)
 ·refine evS_q mixed tt_ok GGaQ_ok 300 [⟨6,3,.lit (.bo true)⟩] ?_
  refine same (p:=0 <= 0/\0 - 0 + 25 < 51/\fdQ = fdQ/\nv x0 < pN/\nv u0 < pN/\nv y0 < pN/\nv v0 < pN/\(!(A2.on fourQ (⟨(⟨dF x0,dF u0⟩:F2p),(⟨dF y0,dF v0⟩:F2p),z0⟩:A2 F2p))) = true/\(some (winO t [.ws .u64 6 x0,.ws .u64 6 u0,.ws .u64 6 y0,.ws .u64 6 v0,.one (.bo z0),.ws .u64 6 x1,.ws .u64 6 u1,.ws .u64 6 y1,.ws .u64 6 v1,.one (.bo z1)] wv):Option Blk) = some (winO t [.ws .u64 6 x0,.ws .u64 6 u0,.ws .u64 6 y0,.ws .u64 6 v0,.one (.bo z0),.ws .u64 6 x1,.ws .u64 6 u1,.ws .u64 6 y1,.ws .u64 6 v1,.one (.bo z1)] wv)/\(some ⟨t2,[.ws .u64 6 n0,.ws .u64 6 n1],0,hi⟩:Option Blk) = some ⟨t2,[.ws .u64 6 n0,.ws .u64 6 n1],0,hi⟩/\endR2 (.tup [.agg [.ws .u64 6 (fun _=>0),.ws .u64 6 (fun _=>0),.ws .u64 6 (fun _=>0),.ws .u64 6 (fun _=>0),.one (.bo false)],.sc (.it 5)]) (avAQ (gaQ2 (⟨(⟨dF x0,dF u0⟩:F2p),(⟨dF y0,dF v0⟩:F2p),z0⟩:A2 F2p) (⟨(⟨dF x1,dF u1⟩:F2p),(⟨dF y1,dF v1⟩:F2p),z1⟩:A2 F2p) (nv n0) (nv n1)) (geQ2 (⟨(⟨dF x0,dF u0⟩:F2p),(⟨dF y0,dF v0⟩:F2p),z0⟩:A2 F2p) (⟨(⟨dF x1,dF u1⟩:F2p),(⟨dF y1,dF v1⟩:F2p),z1⟩:A2 F2p)))) ?_ (by kernel_rfl)
  exact ⟨Nat.zero_le _,(by decide),rfl,hx0,hu0,hy0,hv0,by rw [h0];rfl,rfl,rfl,by rw [show gaQ2 (⟨(⟨dF x0,dF u0⟩:F2p),(⟨dF y0,dF v0⟩:F2p),z0⟩:A2 F2p) (⟨(⟨dF x1,dF u1⟩:F2p),(⟨dF y1,dF v1⟩:F2p),z1⟩:A2 F2p) (nv n0) (nv n1) = ⟨0,0,false⟩ by unfold gaQ2;rw [h0];rfl,show geQ2 (⟨(⟨dF x0,dF u0⟩:F2p),(⟨dF y0,dF v0⟩:F2p),z0⟩:A2 F2p) (⟨(⟨dF x1,dF u1⟩:F2p),(⟨dF y1,dF v1⟩:F2p),z1⟩:A2 F2p) = 5 by unfold geQ2;rw [h0];rfl];exact endTC rfl rfl (cv_cons q0x (cv_cons q0y (cv_cons q0x (cv_cons q0y (cv_one cv_nil)))))⟩
 ·skip
  cases h1:A2.on fourQ (⟨(⟨dF x1,dF u1⟩:F2p),(⟨dF y1,dF v1⟩:F2p),z1⟩:A2 F2p)
  ·refine evS_q mixed tt_ok GGaQ_ok 300 [⟨6,3,.lit (.bo false)⟩,⟨6,3,.lit (.bo true)⟩] ?_
   refine same (p:=0 <= 0/\0 - 0 + 25 < 51/\fdQ = fdQ/\nv x0 < pN/\nv u0 < pN/\nv y0 < pN/\nv v0 < pN/\(!(A2.on fourQ (⟨(⟨dF x0,dF u0⟩:F2p),(⟨dF y0,dF v0⟩:F2p),z0⟩:A2 F2p))) = false/\0 <= 25/\25 - 0 + 25 < 51/\fdQ = fdQ/\nv x1 < pN/\nv u1 < pN/\nv y1 < pN/\nv v1 < pN/\(!(A2.on fourQ (⟨(⟨dF x1,dF u1⟩:F2p),(⟨dF y1,dF v1⟩:F2p),z1⟩:A2 F2p))) = true/\(some (winO t [.ws .u64 6 x0,.ws .u64 6 u0,.ws .u64 6 y0,.ws .u64 6 v0,.one (.bo z0),.ws .u64 6 x1,.ws .u64 6 u1,.ws .u64 6 y1,.ws .u64 6 v1,.one (.bo z1)] wv):Option Blk) = some (winO t [.ws .u64 6 x0,.ws .u64 6 u0,.ws .u64 6 y0,.ws .u64 6 v0,.one (.bo z0),.ws .u64 6 x1,.ws .u64 6 u1,.ws .u64 6 y1,.ws .u64 6 v1,.one (.bo z1)] wv)/\(some ⟨t2,[.ws .u64 6 n0,.ws .u64 6 n1],0,hi⟩:Option Blk) = some ⟨t2,[.ws .u64 6 n0,.ws .u64 6 n1],0,hi⟩/\endR2 (.tup [.agg [.ws .u64 6 (fun _=>0),.ws .u64 6 (fun _=>0),.ws .u64 6 (fun _=>0),.ws .u64 6 (fun _=>0),.one (.bo false)],.sc (.it 5)]) (avAQ (gaQ2 (⟨(⟨dF x0,dF u0⟩:F2p),(⟨dF y0,dF v0⟩:F2p),z0⟩:A2 F2p) (⟨(⟨dF x1,dF u1⟩:F2p),(⟨dF y1,dF v1⟩:F2p),z1⟩:A2 F2p) (nv n0) (nv n1)) (geQ2 (⟨(⟨dF x0,dF u0⟩:F2p),(⟨dF y0,dF v0⟩:F2p),z0⟩:A2 F2p) (⟨(⟨dF x1,dF u1⟩:F2p),(⟨dF y1,dF v1⟩:F2p),z1⟩:A2 F2p)))) ?_ (by kernel_rfl)
   exact ⟨Nat.zero_le _,(by decide),rfl,hx0,hu0,hy0,hv0,by rw [h0];rfl,Nat.zero_le _,(by decide),rfl,hx1,hu1,hy1,hv1,by rw [h1];rfl,rfl,rfl,by rw [show gaQ2 (⟨(⟨dF x0,dF u0⟩:F2p),(⟨dF y0,dF v0⟩:F2p),z0⟩:A2 F2p) (⟨(⟨dF x1,dF u1⟩:F2p),(⟨dF y1,dF v1⟩:F2p),z1⟩:A2 F2p) (nv n0) (nv n1) = ⟨0,0,false⟩ by unfold gaQ2;rw [h0,h1];rfl,show geQ2 (⟨(⟨dF x0,dF u0⟩:F2p),(⟨dF y0,dF v0⟩:F2p),z0⟩:A2 F2p) (⟨(⟨dF x1,dF u1⟩:F2p),(⟨dF y1,dF v1⟩:F2p),z1⟩:A2 F2p) = 5 by unfold geQ2;rw [h0,h1];rfl];exact endTC rfl rfl (cv_cons q0x (cv_cons q0y (cv_cons q0x (cv_cons q0y (cv_one cv_nil)))))⟩
  ·skip
   obtain ⟨r0,hr0⟩:∃ q_:J3 F2p,q_ = A2.raise (⟨(⟨dF x0,dF u0⟩:F2p),(⟨dF y0,dF v0⟩:F2p),z0⟩:A2 F2p):=⟨_,rfl⟩
   obtain ⟨s0,hs0⟩:∃ q_:J3 F2p,q_ = J3.times r0 (blen (nv n0)) (nv n0):=⟨_,rfl⟩
   obtain ⟨o0,ho0⟩:∃ q_:J3 F2p,q_ = J3.add J3.nil s0:=⟨_,rfl⟩
   obtain ⟨r1,hr1⟩:∃ q_:J3 F2p,q_ = A2.raise (⟨(⟨dF x1,dF u1⟩:F2p),(⟨dF y1,dF v1⟩:F2p),z1⟩:A2 F2p):=⟨_,rfl⟩
   obtain ⟨s1,hs1⟩:∃ q_:J3 F2p,q_ = J3.times r1 (blen (nv n1)) (nv n1):=⟨_,rfl⟩
   obtain ⟨o1,ho1⟩:∃ q_:J3 F2p,q_ = J3.add o0 s1:=⟨_,rfl⟩
   obtain ⟨w,hw⟩:∃ q_:A2 F2p,q_ = A2.lower F2p.inv o1:=⟨_,rfl⟩
   refine evS_q mixed tt_ok GGaQ_ok 300 [⟨6,3,.lit (.bo false)⟩,⟨6,3,.lit (.bo false)⟩,⟨13,5,.as [.ws .u64 6 (eF (r0).x.x),.ws .u64 6 (eF (r0).x.y),.ws .u64 6 (eF (r0).y.x),.ws .u64 6 (eF (r0).y.y),.ws .u64 6 (eF (r0).z.x),.ws .u64 6 (eF (r0).z.y)]⟩,⟨13,10,.as [.ws .u64 6 (eF (s0).x.x),.ws .u64 6 (eF (s0).x.y),.ws .u64 6 (eF (s0).y.x),.ws .u64 6 (eF (s0).y.y),.ws .u64 6 (eF (s0).z.x),.ws .u64 6 (eF (s0).z.y)]⟩,⟨13,11,.as [.ws .u64 6 (eF (o0).x.x),.ws .u64 6 (eF (o0).x.y),.ws .u64 6 (eF (o0).y.x),.ws .u64 6 (eF (o0).y.y),.ws .u64 6 (eF (o0).z.x),.ws .u64 6 (eF (o0).z.y)]⟩,⟨13,5,.as [.ws .u64 6 (eF (r1).x.x),.ws .u64 6 (eF (r1).x.y),.ws .u64 6 (eF (r1).y.x),.ws .u64 6 (eF (r1).y.y),.ws .u64 6 (eF (r1).z.x),.ws .u64 6 (eF (r1).z.y)]⟩,⟨13,10,.as [.ws .u64 6 (eF (s1).x.x),.ws .u64 6 (eF (s1).x.y),.ws .u64 6 (eF (s1).y.x),.ws .u64 6 (eF (s1).y.y),.ws .u64 6 (eF (s1).z.x),.ws .u64 6 (eF (s1).z.y)]⟩,⟨13,11,.as [.ws .u64 6 (eF (o1).x.x),.ws .u64 6 (eF (o1).x.y),.ws .u64 6 (eF (o1).y.x),.ws .u64 6 (eF (o1).y.y),.ws .u64 6 (eF (o1).z.x),.ws .u64 6 (eF (o1).z.y)]⟩,⟨15,2,.as [.ws .u64 6 (eF (w).x.x),.ws .u64 6 (eF (w).x.y),.ws .u64 6 (eF (w).y.x),.ws .u64 6 (eF (w).y.y),.one (.bo w.z)]⟩] ?_
   refine same (p:=0 <= 0/\0 - 0 + 25 < 51/\fdQ = fdQ/\nv x0 < pN/\nv u0 < pN/\nv y0 < pN/\nv v0 < pN/\(!(A2.on fourQ (⟨(⟨dF x0,dF u0⟩:F2p),(⟨dF y0,dF v0⟩:F2p),z0⟩:A2 F2p))) = false/\0 <= 25/\25 - 0 + 25 < 51/\fdQ = fdQ/\nv x1 < pN/\nv u1 < pN/\nv y1 < pN/\nv v1 < pN/\(!(A2.on fourQ (⟨(⟨dF x1,dF u1⟩:F2p),(⟨dF y1,dF v1⟩:F2p),z1⟩:A2 F2p))) = false/\0 <= 0/\0 - 0 + 25 < 51/\asP [.ws .u64 6 (eF (A2.raise (⟨(⟨dF x0,dF u0⟩:F2p),(⟨dF y0,dF v0⟩:F2p),z0⟩:A2 F2p)).x.x),.ws .u64 6 (eF (A2.raise (⟨(⟨dF x0,dF u0⟩:F2p),(⟨dF y0,dF v0⟩:F2p),z0⟩:A2 F2p)).x.y),.ws .u64 6 (eF (A2.raise (⟨(⟨dF x0,dF u0⟩:F2p),(⟨dF y0,dF v0⟩:F2p),z0⟩:A2 F2p)).y.x),.ws .u64 6 (eF (A2.raise (⟨(⟨dF x0,dF u0⟩:F2p),(⟨dF y0,dF v0⟩:F2p),z0⟩:A2 F2p)).y.y),.ws .u64 6 (eF (A2.raise (⟨(⟨dF x0,dF u0⟩:F2p),(⟨dF y0,dF v0⟩:F2p),z0⟩:A2 F2p)).z.x),.ws .u64 6 (eF (A2.raise (⟨(⟨dF x0,dF u0⟩:F2p),(⟨dF y0,dF v0⟩:F2p),z0⟩:A2 F2p)).z.y)] [.ws .u64 6 (eF (r0).x.x),.ws .u64 6 (eF (r0).x.y),.ws .u64 6 (eF (r0).y.x),.ws .u64 6 (eF (r0).y.y),.ws .u64 6 (eF (r0).z.x),.ws .u64 6 (eF (r0).z.y)]/\fdQ = fdQ/\nv x0 < pN/\nv u0 < pN/\nv y0 < pN/\nv v0 < pN/\asP [.ws .u64 6 (eF (J3.times (⟨(⟨dF (eF (r0).x.x),dF (eF (r0).x.y)⟩:F2p),(⟨dF (eF (r0).y.x),dF (eF (r0).y.y)⟩:F2p),(⟨dF (eF (r0).z.x),dF (eF (r0).z.y)⟩:F2p)⟩:J3 F2p) (blen (nv n0)) (nv n0)).x.x),.ws .u64 6 (eF (J3.times (⟨(⟨dF (eF (r0).x.x),dF (eF (r0).x.y)⟩:F2p),(⟨dF (eF (r0).y.x),dF (eF (r0).y.y)⟩:F2p),(⟨dF (eF (r0).z.x),dF (eF (r0).z.y)⟩:F2p)⟩:J3 F2p) (blen (nv n0)) (nv n0)).x.y),.ws .u64 6 (eF (J3.times (⟨(⟨dF (eF (r0).x.x),dF (eF (r0).x.y)⟩:F2p),(⟨dF (eF (r0).y.x),dF (eF (r0).y.y)⟩:F2p),(⟨dF (eF (r0).z.x),dF (eF (r0).z.y)⟩:F2p)⟩:J3 F2p) (blen (nv n0)) (nv n0)).y.x),.ws .u64 6 (eF (J3.times (⟨(⟨dF (eF (r0).x.x),dF (eF (r0).x.y)⟩:F2p),(⟨dF (eF (r0).y.x),dF (eF (r0).y.y)⟩:F2p),(⟨dF (eF (r0).z.x),dF (eF (r0).z.y)⟩:F2p)⟩:J3 F2p) (blen (nv n0)) (nv n0)).y.y),.ws .u64 6 (eF (J3.times (⟨(⟨dF (eF (r0).x.x),dF (eF (r0).x.y)⟩:F2p),(⟨dF (eF (r0).y.x),dF (eF (r0).y.y)⟩:F2p),(⟨dF (eF (r0).z.x),dF (eF (r0).z.y)⟩:F2p)⟩:J3 F2p) (blen (nv n0)) (nv n0)).z.x),.ws .u64 6 (eF (J3.times (⟨(⟨dF (eF (r0).x.x),dF (eF (r0).x.y)⟩:F2p),(⟨dF (eF (r0).y.x),dF (eF (r0).y.y)⟩:F2p),(⟨dF (eF (r0).z.x),dF (eF (r0).z.y)⟩:F2p)⟩:J3 F2p) (blen (nv n0)) (nv n0)).z.y)] [.ws .u64 6 (eF (s0).x.x),.ws .u64 6 (eF (s0).x.y),.ws .u64 6 (eF (s0).y.x),.ws .u64 6 (eF (s0).y.y),.ws .u64 6 (eF (s0).z.x),.ws .u64 6 (eF (s0).z.y)]/\fdQ = fdQ/\nv (eF (r0).x.x) < pN/\nv (eF (r0).x.y) < pN/\nv (eF (r0).y.x) < pN/\nv (eF (r0).y.y) < pN/\nv (eF (r0).z.x) < pN/\nv (eF (r0).z.y) < pN/\asP [.ws .u64 6 (eF (J3.add (⟨(⟨dF oneF,dF (fun _=>0)⟩:F2p),(⟨dF oneF,dF (fun _=>0)⟩:F2p),(⟨dF (fun _=>0),dF (fun _=>0)⟩:F2p)⟩:J3 F2p) (⟨(⟨dF (eF (s0).x.x),dF (eF (s0).x.y)⟩:F2p),(⟨dF (eF (s0).y.x),dF (eF (s0).y.y)⟩:F2p),(⟨dF (eF (s0).z.x),dF (eF (s0).z.y)⟩:F2p)⟩:J3 F2p)).x.x),.ws .u64 6 (eF (J3.add (⟨(⟨dF oneF,dF (fun _=>0)⟩:F2p),(⟨dF oneF,dF (fun _=>0)⟩:F2p),(⟨dF (fun _=>0),dF (fun _=>0)⟩:F2p)⟩:J3 F2p) (⟨(⟨dF (eF (s0).x.x),dF (eF (s0).x.y)⟩:F2p),(⟨dF (eF (s0).y.x),dF (eF (s0).y.y)⟩:F2p),(⟨dF (eF (s0).z.x),dF (eF (s0).z.y)⟩:F2p)⟩:J3 F2p)).x.y),.ws .u64 6 (eF (J3.add (⟨(⟨dF oneF,dF (fun _=>0)⟩:F2p),(⟨dF oneF,dF (fun _=>0)⟩:F2p),(⟨dF (fun _=>0),dF (fun _=>0)⟩:F2p)⟩:J3 F2p) (⟨(⟨dF (eF (s0).x.x),dF (eF (s0).x.y)⟩:F2p),(⟨dF (eF (s0).y.x),dF (eF (s0).y.y)⟩:F2p),(⟨dF (eF (s0).z.x),dF (eF (s0).z.y)⟩:F2p)⟩:J3 F2p)).y.x),.ws .u64 6 (eF (J3.add (⟨(⟨dF oneF,dF (fun _=>0)⟩:F2p),(⟨dF oneF,dF (fun _=>0)⟩:F2p),(⟨dF (fun _=>0),dF (fun _=>0)⟩:F2p)⟩:J3 F2p) (⟨(⟨dF (eF (s0).x.x),dF (eF (s0).x.y)⟩:F2p),(⟨dF (eF (s0).y.x),dF (eF (s0).y.y)⟩:F2p),(⟨dF (eF (s0).z.x),dF (eF (s0).z.y)⟩:F2p)⟩:J3 F2p)).y.y),.ws .u64 6 (eF (J3.add (⟨(⟨dF oneF,dF (fun _=>0)⟩:F2p),(⟨dF oneF,dF (fun _=>0)⟩:F2p),(⟨dF (fun _=>0),dF (fun _=>0)⟩:F2p)⟩:J3 F2p) (⟨(⟨dF (eF (s0).x.x),dF (eF (s0).x.y)⟩:F2p),(⟨dF (eF (s0).y.x),dF (eF (s0).y.y)⟩:F2p),(⟨dF (eF (s0).z.x),dF (eF (s0).z.y)⟩:F2p)⟩:J3 F2p)).z.x),.ws .u64 6 (eF (J3.add (⟨(⟨dF oneF,dF (fun _=>0)⟩:F2p),(⟨dF oneF,dF (fun _=>0)⟩:F2p),(⟨dF (fun _=>0),dF (fun _=>0)⟩:F2p)⟩:J3 F2p) (⟨(⟨dF (eF (s0).x.x),dF (eF (s0).x.y)⟩:F2p),(⟨dF (eF (s0).y.x),dF (eF (s0).y.y)⟩:F2p),(⟨dF (eF (s0).z.x),dF (eF (s0).z.y)⟩:F2p)⟩:J3 F2p)).z.y)] [.ws .u64 6 (eF (o0).x.x),.ws .u64 6 (eF (o0).x.y),.ws .u64 6 (eF (o0).y.x),.ws .u64 6 (eF (o0).y.y),.ws .u64 6 (eF (o0).z.x),.ws .u64 6 (eF (o0).z.y)]/\fdQ = fdQ/\nv oneF < pN/\nv (fun _=>0) < pN/\nv oneF < pN/\nv (fun _=>0) < pN/\nv (fun _=>0) < pN/\nv (fun _=>0) < pN/\nv (eF (s0).x.x) < pN/\nv (eF (s0).x.y) < pN/\nv (eF (s0).y.x) < pN/\nv (eF (s0).y.y) < pN/\nv (eF (s0).z.x) < pN/\nv (eF (s0).z.y) < pN/\0 <= 25/\25 - 0 + 25 < 51/\asP [.ws .u64 6 (eF (A2.raise (⟨(⟨dF x1,dF u1⟩:F2p),(⟨dF y1,dF v1⟩:F2p),z1⟩:A2 F2p)).x.x),.ws .u64 6 (eF (A2.raise (⟨(⟨dF x1,dF u1⟩:F2p),(⟨dF y1,dF v1⟩:F2p),z1⟩:A2 F2p)).x.y),.ws .u64 6 (eF (A2.raise (⟨(⟨dF x1,dF u1⟩:F2p),(⟨dF y1,dF v1⟩:F2p),z1⟩:A2 F2p)).y.x),.ws .u64 6 (eF (A2.raise (⟨(⟨dF x1,dF u1⟩:F2p),(⟨dF y1,dF v1⟩:F2p),z1⟩:A2 F2p)).y.y),.ws .u64 6 (eF (A2.raise (⟨(⟨dF x1,dF u1⟩:F2p),(⟨dF y1,dF v1⟩:F2p),z1⟩:A2 F2p)).z.x),.ws .u64 6 (eF (A2.raise (⟨(⟨dF x1,dF u1⟩:F2p),(⟨dF y1,dF v1⟩:F2p),z1⟩:A2 F2p)).z.y)] [.ws .u64 6 (eF (r1).x.x),.ws .u64 6 (eF (r1).x.y),.ws .u64 6 (eF (r1).y.x),.ws .u64 6 (eF (r1).y.y),.ws .u64 6 (eF (r1).z.x),.ws .u64 6 (eF (r1).z.y)]/\fdQ = fdQ/\nv x1 < pN/\nv u1 < pN/\nv y1 < pN/\nv v1 < pN/\asP [.ws .u64 6 (eF (J3.times (⟨(⟨dF (eF (r1).x.x),dF (eF (r1).x.y)⟩:F2p),(⟨dF (eF (r1).y.x),dF (eF (r1).y.y)⟩:F2p),(⟨dF (eF (r1).z.x),dF (eF (r1).z.y)⟩:F2p)⟩:J3 F2p) (blen (nv n1)) (nv n1)).x.x),.ws .u64 6 (eF (J3.times (⟨(⟨dF (eF (r1).x.x),dF (eF (r1).x.y)⟩:F2p),(⟨dF (eF (r1).y.x),dF (eF (r1).y.y)⟩:F2p),(⟨dF (eF (r1).z.x),dF (eF (r1).z.y)⟩:F2p)⟩:J3 F2p) (blen (nv n1)) (nv n1)).x.y),.ws .u64 6 (eF (J3.times (⟨(⟨dF (eF (r1).x.x),dF (eF (r1).x.y)⟩:F2p),(⟨dF (eF (r1).y.x),dF (eF (r1).y.y)⟩:F2p),(⟨dF (eF (r1).z.x),dF (eF (r1).z.y)⟩:F2p)⟩:J3 F2p) (blen (nv n1)) (nv n1)).y.x),.ws .u64 6 (eF (J3.times (⟨(⟨dF (eF (r1).x.x),dF (eF (r1).x.y)⟩:F2p),(⟨dF (eF (r1).y.x),dF (eF (r1).y.y)⟩:F2p),(⟨dF (eF (r1).z.x),dF (eF (r1).z.y)⟩:F2p)⟩:J3 F2p) (blen (nv n1)) (nv n1)).y.y),.ws .u64 6 (eF (J3.times (⟨(⟨dF (eF (r1).x.x),dF (eF (r1).x.y)⟩:F2p),(⟨dF (eF (r1).y.x),dF (eF (r1).y.y)⟩:F2p),(⟨dF (eF (r1).z.x),dF (eF (r1).z.y)⟩:F2p)⟩:J3 F2p) (blen (nv n1)) (nv n1)).z.x),.ws .u64 6 (eF (J3.times (⟨(⟨dF (eF (r1).x.x),dF (eF (r1).x.y)⟩:F2p),(⟨dF (eF (r1).y.x),dF (eF (r1).y.y)⟩:F2p),(⟨dF (eF (r1).z.x),dF (eF (r1).z.y)⟩:F2p)⟩:J3 F2p) (blen (nv n1)) (nv n1)).z.y)] [.ws .u64 6 (eF (s1).x.x),.ws .u64 6 (eF (s1).x.y),.ws .u64 6 (eF (s1).y.x),.ws .u64 6 (eF (s1).y.y),.ws .u64 6 (eF (s1).z.x),.ws .u64 6 (eF (s1).z.y)]/\fdQ = fdQ/\nv (eF (r1).x.x) < pN/\nv (eF (r1).x.y) < pN/\nv (eF (r1).y.x) < pN/\nv (eF (r1).y.y) < pN/\nv (eF (r1).z.x) < pN/\nv (eF (r1).z.y) < pN/\asP [.ws .u64 6 (eF (J3.add (⟨(⟨dF (eF (o0).x.x),dF (eF (o0).x.y)⟩:F2p),(⟨dF (eF (o0).y.x),dF (eF (o0).y.y)⟩:F2p),(⟨dF (eF (o0).z.x),dF (eF (o0).z.y)⟩:F2p)⟩:J3 F2p) (⟨(⟨dF (eF (s1).x.x),dF (eF (s1).x.y)⟩:F2p),(⟨dF (eF (s1).y.x),dF (eF (s1).y.y)⟩:F2p),(⟨dF (eF (s1).z.x),dF (eF (s1).z.y)⟩:F2p)⟩:J3 F2p)).x.x),.ws .u64 6 (eF (J3.add (⟨(⟨dF (eF (o0).x.x),dF (eF (o0).x.y)⟩:F2p),(⟨dF (eF (o0).y.x),dF (eF (o0).y.y)⟩:F2p),(⟨dF (eF (o0).z.x),dF (eF (o0).z.y)⟩:F2p)⟩:J3 F2p) (⟨(⟨dF (eF (s1).x.x),dF (eF (s1).x.y)⟩:F2p),(⟨dF (eF (s1).y.x),dF (eF (s1).y.y)⟩:F2p),(⟨dF (eF (s1).z.x),dF (eF (s1).z.y)⟩:F2p)⟩:J3 F2p)).x.y),.ws .u64 6 (eF (J3.add (⟨(⟨dF (eF (o0).x.x),dF (eF (o0).x.y)⟩:F2p),(⟨dF (eF (o0).y.x),dF (eF (o0).y.y)⟩:F2p),(⟨dF (eF (o0).z.x),dF (eF (o0).z.y)⟩:F2p)⟩:J3 F2p) (⟨(⟨dF (eF (s1).x.x),dF (eF (s1).x.y)⟩:F2p),(⟨dF (eF (s1).y.x),dF (eF (s1).y.y)⟩:F2p),(⟨dF (eF (s1).z.x),dF (eF (s1).z.y)⟩:F2p)⟩:J3 F2p)).y.x),.ws .u64 6 (eF (J3.add (⟨(⟨dF (eF (o0).x.x),dF (eF (o0).x.y)⟩:F2p),(⟨dF (eF (o0).y.x),dF (eF (o0).y.y)⟩:F2p),(⟨dF (eF (o0).z.x),dF (eF (o0).z.y)⟩:F2p)⟩:J3 F2p) (⟨(⟨dF (eF (s1).x.x),dF (eF (s1).x.y)⟩:F2p),(⟨dF (eF (s1).y.x),dF (eF (s1).y.y)⟩:F2p),(⟨dF (eF (s1).z.x),dF (eF (s1).z.y)⟩:F2p)⟩:J3 F2p)).y.y),.ws .u64 6 (eF (J3.add (⟨(⟨dF (eF (o0).x.x),dF (eF (o0).x.y)⟩:F2p),(⟨dF (eF (o0).y.x),dF (eF (o0).y.y)⟩:F2p),(⟨dF (eF (o0).z.x),dF (eF (o0).z.y)⟩:F2p)⟩:J3 F2p) (⟨(⟨dF (eF (s1).x.x),dF (eF (s1).x.y)⟩:F2p),(⟨dF (eF (s1).y.x),dF (eF (s1).y.y)⟩:F2p),(⟨dF (eF (s1).z.x),dF (eF (s1).z.y)⟩:F2p)⟩:J3 F2p)).z.x),.ws .u64 6 (eF (J3.add (⟨(⟨dF (eF (o0).x.x),dF (eF (o0).x.y)⟩:F2p),(⟨dF (eF (o0).y.x),dF (eF (o0).y.y)⟩:F2p),(⟨dF (eF (o0).z.x),dF (eF (o0).z.y)⟩:F2p)⟩:J3 F2p) (⟨(⟨dF (eF (s1).x.x),dF (eF (s1).x.y)⟩:F2p),(⟨dF (eF (s1).y.x),dF (eF (s1).y.y)⟩:F2p),(⟨dF (eF (s1).z.x),dF (eF (s1).z.y)⟩:F2p)⟩:J3 F2p)).z.y)] [.ws .u64 6 (eF (o1).x.x),.ws .u64 6 (eF (o1).x.y),.ws .u64 6 (eF (o1).y.x),.ws .u64 6 (eF (o1).y.y),.ws .u64 6 (eF (o1).z.x),.ws .u64 6 (eF (o1).z.y)]/\fdQ = fdQ/\nv (eF (o0).x.x) < pN/\nv (eF (o0).x.y) < pN/\nv (eF (o0).y.x) < pN/\nv (eF (o0).y.y) < pN/\nv (eF (o0).z.x) < pN/\nv (eF (o0).z.y) < pN/\nv (eF (s1).x.x) < pN/\nv (eF (s1).x.y) < pN/\nv (eF (s1).y.x) < pN/\nv (eF (s1).y.y) < pN/\nv (eF (s1).z.x) < pN/\nv (eF (s1).z.y) < pN/\asP [.ws .u64 6 (eF (A2.lower F2p.inv (⟨(⟨dF (eF (o1).x.x),dF (eF (o1).x.y)⟩:F2p),(⟨dF (eF (o1).y.x),dF (eF (o1).y.y)⟩:F2p),(⟨dF (eF (o1).z.x),dF (eF (o1).z.y)⟩:F2p)⟩:J3 F2p)).x.x),.ws .u64 6 (eF (A2.lower F2p.inv (⟨(⟨dF (eF (o1).x.x),dF (eF (o1).x.y)⟩:F2p),(⟨dF (eF (o1).y.x),dF (eF (o1).y.y)⟩:F2p),(⟨dF (eF (o1).z.x),dF (eF (o1).z.y)⟩:F2p)⟩:J3 F2p)).x.y),.ws .u64 6 (eF (A2.lower F2p.inv (⟨(⟨dF (eF (o1).x.x),dF (eF (o1).x.y)⟩:F2p),(⟨dF (eF (o1).y.x),dF (eF (o1).y.y)⟩:F2p),(⟨dF (eF (o1).z.x),dF (eF (o1).z.y)⟩:F2p)⟩:J3 F2p)).y.x),.ws .u64 6 (eF (A2.lower F2p.inv (⟨(⟨dF (eF (o1).x.x),dF (eF (o1).x.y)⟩:F2p),(⟨dF (eF (o1).y.x),dF (eF (o1).y.y)⟩:F2p),(⟨dF (eF (o1).z.x),dF (eF (o1).z.y)⟩:F2p)⟩:J3 F2p)).y.y),.one (.bo (A2.lower F2p.inv (⟨(⟨dF (eF (o1).x.x),dF (eF (o1).x.y)⟩:F2p),(⟨dF (eF (o1).y.x),dF (eF (o1).y.y)⟩:F2p),(⟨dF (eF (o1).z.x),dF (eF (o1).z.y)⟩:F2p)⟩:J3 F2p)).z)] [.ws .u64 6 (eF (w).x.x),.ws .u64 6 (eF (w).x.y),.ws .u64 6 (eF (w).y.x),.ws .u64 6 (eF (w).y.y),.one (.bo w.z)]/\fdQ = fdQ/\nv (eF (o1).x.x) < pN/\nv (eF (o1).x.y) < pN/\nv (eF (o1).y.x) < pN/\nv (eF (o1).y.y) < pN/\nv (eF (o1).z.x) < pN/\nv (eF (o1).z.y) < pN/\(some (winO t [.ws .u64 6 x0,.ws .u64 6 u0,.ws .u64 6 y0,.ws .u64 6 v0,.one (.bo z0),.ws .u64 6 x1,.ws .u64 6 u1,.ws .u64 6 y1,.ws .u64 6 v1,.one (.bo z1)] wv):Option Blk) = some (winO t [.ws .u64 6 x0,.ws .u64 6 u0,.ws .u64 6 y0,.ws .u64 6 v0,.one (.bo z0),.ws .u64 6 x1,.ws .u64 6 u1,.ws .u64 6 y1,.ws .u64 6 v1,.one (.bo z1)] wv)/\(some ⟨t2,[.ws .u64 6 n0,.ws .u64 6 n1],0,hi⟩:Option Blk) = some ⟨t2,[.ws .u64 6 n0,.ws .u64 6 n1],0,hi⟩/\endR2 (.tup [.agg [.ws .u64 6 (eF (w).x.x),.ws .u64 6 (eF (w).x.y),.ws .u64 6 (eF (w).y.x),.ws .u64 6 (eF (w).y.y),.one (.bo w.z)],.sc (.it 0)]) (avAQ (gaQ2 (⟨(⟨dF x0,dF u0⟩:F2p),(⟨dF y0,dF v0⟩:F2p),z0⟩:A2 F2p) (⟨(⟨dF x1,dF u1⟩:F2p),(⟨dF y1,dF v1⟩:F2p),z1⟩:A2 F2p) (nv n0) (nv n1)) (geQ2 (⟨(⟨dF x0,dF u0⟩:F2p),(⟨dF y0,dF v0⟩:F2p),z0⟩:A2 F2p) (⟨(⟨dF x1,dF u1⟩:F2p),(⟨dF y1,dF v1⟩:F2p),z1⟩:A2 F2p)))) ?_ (by kernel_rfl)
   exact ⟨Nat.zero_le _,(by decide),rfl,hx0,hu0,hy0,hv0,by rw [h0];rfl,Nat.zero_le _,(by decide),rfl,hx1,hu1,hy1,hv1,by rw [h1];rfl,Nat.zero_le _,(by decide),asJQ hr0.symm,rfl,hx0,hu0,hy0,hv0,asJQ (by rw [JdQ];exact hs0.symm),rfl,lt_eF _,lt_eF _,lt_eF _,lt_eF _,lt_eF _,lt_eF _,asJQ (by rw [JnQ,JdQ];exact ho0.symm),rfl,lt_one,lt_pN0,lt_one,lt_pN0,lt_pN0,lt_pN0,lt_eF _,lt_eF _,lt_eF _,lt_eF _,lt_eF _,lt_eF _,Nat.zero_le _,(by decide),asJQ hr1.symm,rfl,hx1,hu1,hy1,hv1,asJQ (by rw [JdQ];exact hs1.symm),rfl,lt_eF _,lt_eF _,lt_eF _,lt_eF _,lt_eF _,lt_eF _,asJQ (by rw [JdQ,JdQ];exact ho1.symm),rfl,lt_eF _,lt_eF _,lt_eF _,lt_eF _,lt_eF _,lt_eF _,lt_eF _,lt_eF _,lt_eF _,lt_eF _,lt_eF _,lt_eF _,asAQ (by rw [JdQ];exact hw.symm),rfl,lt_eF _,lt_eF _,lt_eF _,lt_eF _,lt_eF _,lt_eF _,rfl,rfl,by rw [show gaQ2 (⟨(⟨dF x0,dF u0⟩:F2p),(⟨dF y0,dF v0⟩:F2p),z0⟩:A2 F2p) (⟨(⟨dF x1,dF u1⟩:F2p),(⟨dF y1,dF v1⟩:F2p),z1⟩:A2 F2p) (nv n0) (nv n1) = w by unfold gaQ2;rw [h0,h1,hw,ho1,hs1,hr1,ho0,hs0,hr0];rfl,show geQ2 (⟨(⟨dF x0,dF u0⟩:F2p),(⟨dF y0,dF v0⟩:F2p),z0⟩:A2 F2p) (⟨(⟨dF x1,dF u1⟩:F2p),(⟨dF y1,dF v1⟩:F2p),z1⟩:A2 F2p) = 0 by unfold geQ2;rw [h0,h1];rfl];exact endTC rfl rfl (fun _=>rfl)⟩
theorem okGaQ:(CallC.rd gaCQ).Ok Tryz.prog 120:=by
 refine ⟨fun args h pre v e hp=>?_,fun args h slot blk hs ha=>?_⟩
 ·unfold gaCQ at e
  split at e
  ·split at e
   ·rename_i h1 h2
    cases e
    have hcs:=hp _ (List.mem_cons_self ..)
    subst hcs
    exact rd_so tt_ok Tryz.func120 (by kernel_rfl) (by kernel_rfl) (pre:=[.v1 (.agg fdQ)]) rfl (by kernel_rfl) h1 h2 rfl rfl rfl (gaQ1_walk (hp _ (by simp)) (hp _ (by simp)) (hp _ (by simp)) (hp _ (by simp)))
   ·cases e
  ·split at e
   ·rename_i h1 h2
    cases e
    have hcs:=hp _ (List.mem_cons_self ..)
    subst hcs
    exact rd_so tt_ok Tryz.func120 (by kernel_rfl) (by kernel_rfl) (pre:=[.v1 (.agg fdQ)]) rfl (by kernel_rfl) h1 h2 rfl rfl rfl (gaQ2_walk (hp _ (by simp)) (hp _ (by simp)) (hp _ (by simp)) (hp _ (by simp)) (hp _ (by simp)) (hp _ (by simp)) (hp _ (by simp)) (hp _ (by simp)))
   ·cases e
  ·cases e
 ·have key:∀ b c,Dm h b->Dm h c->hget (hset h slot blk) b = hget h b/\hget (hset h slot blk) c = hget h c:=fun b c hb hc=>⟨keepS hs hb,keepS hs hc⟩
  unfold gaCQ
  split
  ·rename_i cs b c
   obtain ⟨k1,k2⟩:=key b c (ha (.v1 (.sc (.so b 1))) (by simp)).1 (ha (.v1 (.sc (.sl c 0 1 1))) (by simp))
   rw [k1,k2]
  ·rename_i cs b c
   obtain ⟨k1,k2⟩:=key b c (ha (.v1 (.sc (.so b 2))) (by simp)).1 (ha (.v1 (.sc (.sl c 0 2 2))) (by simp))
   rw [k1,k2]
  ·rfl
end Go.Proofs.YtnjocbcjejpklaaGreat
namespace Go.Proofs.YtnjocbcjejpklaaGreat
open Go.Rq Go
set_option maxRecDepth 100000
set_option linter.unusedVariables false
set_option linter.unusedSimpArgs false
set_option maxHeartbeats 4000000
set_option maxRecDepth 100000
theorem endR2_z:endR2 (.tup [v12 (fun _=>0) (fun _=>0) (fun _=>0) (fun _=>0) (fun _=>0) (fun _=>0) (fun _=>0) (fun _=>0) (fun _=>0) (fun _=>0) (fun _=>0) (fun _=>0),.sc (.it 5)]) (.tup [n12 0,.sc (.it 5)]):=by
 refine ⟨_,rfl,rfl,fun ρ=>?_⟩
 have h3:(v12 (fun _=>0) (fun _=>0) (fun _=>0) (fun _=>0) (fun _=>0) (fun _=>0) (fun _=>0) (fun _=>0) (fun _=>0) (fun _=>0) (fun _=>0) (fun _=>0)).val ρ = (n12 0).val ρ:=v12_val zero_vF zero_vF zero_vF zero_vF zero_vF zero_vF zero_vF zero_vF zero_vF zero_vF zero_vF zero_vF ρ
 simp only [AV.val,List.map_cons,List.map_nil,h3]
def GPr:Ctx:=ctxL [(16,.pure cIn1),(17,.pure cIn2),(67,.pure (c12 one12)),(60,.pure (k122 S12.mul)),(68,.pure cWalk),(43,.pure (k121 lastS)),(42,.pure cFrom12)]
theorem GPr_ok:CtxOk Tryz.prog GPr:=ctxL_cons okIn1 <| ctxL_cons okIn2 <| ctxL_cons okOne12 <| ctxL_cons okMul12 <| ctxL_cons okWalk <| ctxL_cons okLast <| ctxL_cons okFrom12 ctxL_nil
theorem pr_no1 {b c:Nat} (hbc:Nat.beq b c = false) {px py x0 x1 y0 y3:Nat->Nat} {z z2:Bool} {y1 y2:TypeId} {h:Heap} (g1:hget h b = some ⟨y1,[.ws .u64 6 px,.ws .u64 6 py,.one (.bo z)],0,0⟩) (g2:hget h c = some ⟨y2,[.ws .u64 6 x0,.ws .u64 6 x1,.ws .u64 6 y0,.ws .u64 6 y3,.one (.bo z2)],0,0⟩) (h1:(lo1 px py && isE px py z) = false) :
  CallOk Tryz.prog 28 ([] ++ [.v1 (.sc (.sl b 0 1 1)),.v1 (.sc (.sl c 0 1 1))]) h (.tup [n12 0,.sc (.it 5)]) h:=by
 refine rd_sl2 tt_ok Tryz.func28 (by kernel_rfl) (by kernel_rfl) hbc (x:=⟨y1,[.ws .u64 6 px,.ws .u64 6 py,.one (.bo z)],0,0⟩) (y:=⟨y2,[.ws .u64 6 x0,.ws .u64 6 x1,.ws .u64 6 y0,.ws .u64 6 y3,.one (.bo z2)],0,0⟩) rfl rfl rfl rfl rfl rfl g1 g2 ?_
 refine evS_q mixed tt_ok GPr_ok 200 [⟨6,5,.lit (.bo true)⟩] ?_
 refine same (p:=(!(lo1 px py && isE px py z)) = true/\(some ⟨y1,[.ws .u64 6 px,.ws .u64 6 py,.one (.bo z)],0,0⟩:Option Blk) = some ⟨y1,[.ws .u64 6 px,.ws .u64 6 py,.one (.bo z)],0,0⟩/\(some ⟨y2,[.ws .u64 6 x0,.ws .u64 6 x1,.ws .u64 6 y0,.ws .u64 6 y3,.one (.bo z2)],0,0⟩:Option Blk) = some ⟨y2,[.ws .u64 6 x0,.ws .u64 6 x1,.ws .u64 6 y0,.ws .u64 6 y3,.one (.bo z2)],0,0⟩/\endR2 (.tup [v12 (fun _=>0) (fun _=>0) (fun _=>0) (fun _=>0) (fun _=>0) (fun _=>0) (fun _=>0) (fun _=>0) (fun _=>0) (fun _=>0) (fun _=>0) (fun _=>0),.sc (.it 5)]) (.tup [n12 0,.sc (.it 5)])) ?_ (by kernel_rfl)
 exact ⟨by rw [h1];rfl,rfl,rfl,endR2_z⟩
theorem pr_no2 {b c:Nat} (hbc:Nat.beq b c = false) {px py x0 x1 y0 y3:Nat->Nat} {z z2:Bool} {y1 y2:TypeId} {h:Heap} (g1:hget h b = some ⟨y1,[.ws .u64 6 px,.ws .u64 6 py,.one (.bo z)],0,0⟩) (g2:hget h c = some ⟨y2,[.ws .u64 6 x0,.ws .u64 6 x1,.ws .u64 6 y0,.ws .u64 6 y3,.one (.bo z2)],0,0⟩) (h1:(lo1 px py && isE px py z) = true) (h2:(lo2 x0 x1 y0 y3 && isQ x0 x1 y0 y3 z2) = false) :
  CallOk Tryz.prog 28 ([] ++ [.v1 (.sc (.sl b 0 1 1)),.v1 (.sc (.sl c 0 1 1))]) h (.tup [n12 0,.sc (.it 5)]) h:=by
 refine rd_sl2 tt_ok Tryz.func28 (by kernel_rfl) (by kernel_rfl) hbc (x:=⟨y1,[.ws .u64 6 px,.ws .u64 6 py,.one (.bo z)],0,0⟩) (y:=⟨y2,[.ws .u64 6 x0,.ws .u64 6 x1,.ws .u64 6 y0,.ws .u64 6 y3,.one (.bo z2)],0,0⟩) rfl rfl rfl rfl rfl rfl g1 g2 ?_
 refine evS_q mixed tt_ok GPr_ok 200 [⟨6,5,.lit (.bo false)⟩,⟨6,12,.lit (.bo true)⟩] ?_
 refine same (p:=(!(lo1 px py && isE px py z)) = false/\(!(lo2 x0 x1 y0 y3 && isQ x0 x1 y0 y3 z2)) = true/\(some ⟨y1,[.ws .u64 6 px,.ws .u64 6 py,.one (.bo z)],0,0⟩:Option Blk) = some ⟨y1,[.ws .u64 6 px,.ws .u64 6 py,.one (.bo z)],0,0⟩/\(some ⟨y2,[.ws .u64 6 x0,.ws .u64 6 x1,.ws .u64 6 y0,.ws .u64 6 y3,.one (.bo z2)],0,0⟩:Option Blk) = some ⟨y2,[.ws .u64 6 x0,.ws .u64 6 x1,.ws .u64 6 y0,.ws .u64 6 y3,.one (.bo z2)],0,0⟩/\endR2 (.tup [v12 (fun _=>0) (fun _=>0) (fun _=>0) (fun _=>0) (fun _=>0) (fun _=>0) (fun _=>0) (fun _=>0) (fun _=>0) (fun _=>0) (fun _=>0) (fun _=>0),.sc (.it 5)]) (.tup [n12 0,.sc (.it 5)])) ?_ (by kernel_rfl)
 exact ⟨by rw [h1];rfl,by rw [h2];rfl,rfl,rfl,endR2_z⟩
theorem d12_one:(d12 oneF (fun _=>0) (fun _=>0) (fun _=>0) (fun _=>0) (fun _=>0) (fun _=>0) (fun _=>0) (fun _=>0) (fun _=>0) (fun _=>0) (fun _=>0)) = 1:=S12.one_d
theorem endPR {s t:S12} {j:Int} (h:t = s):endR2 (.tup [v12 (vF (dF (eF t.p.u.x))) (vF (dF (eF t.p.u.y))) (vF (dF (eF t.q.u.x))) (vF (dF (eF t.q.u.y))) (vF (dF (eF t.p.v.x))) (vF (dF (eF t.p.v.y))) (vF (dF (eF t.q.v.x))) (vF (dF (eF t.q.v.y))) (vF (dF (eF t.p.w.x))) (vF (dF (eF t.p.w.y))) (vF (dF (eF t.q.w.x))) (vF (dF (eF t.q.w.y))),.sc (.it j)]) (.tup [n12 s,.sc (.it j)]):=by
 subst h
 refine ⟨_,rfl,rfl,fun ρ=>?_⟩
 have:=v12_val (nvV (dF_eF t.p.u.x)) (nvV (dF_eF t.p.u.y)) (nvV (dF_eF t.q.u.x)) (nvV (dF_eF t.q.u.y)) (nvV (dF_eF t.p.v.x)) (nvV (dF_eF t.p.v.y)) (nvV (dF_eF t.q.v.x)) (nvV (dF_eF t.q.v.y)) (nvV (dF_eF t.p.w.x)) (nvV (dF_eF t.p.w.y)) (nvV (dF_eF t.q.w.x)) (nvV (dF_eF t.q.w.y)) ρ
 simp only [AV.val,List.map_cons,List.map_nil,this]
abbrev vwB (w:S12):S12:=(d12 (eF (w).p.u.x) (eF (w).p.u.y) (eF (w).q.u.x) (eF (w).q.u.y) (eF (w).p.v.x) (eF (w).p.v.y) (eF (w).q.v.x) (eF (w).q.v.y) (eF (w).p.w.x) (eF (w).p.w.y) (eF (w).q.w.x) (eF (w).q.w.y))
abbrev vwM (w:S12):S12:=S12.mul (d12 oneF (fun _=>0) (fun _=>0) (fun _=>0) (fun _=>0) (fun _=>0) (fun _=>0) (fun _=>0) (fun _=>0) (fun _=>0) (fun _=>0) (fun _=>0)) (vwB w)
abbrev vwC (w:S12):S12:=(d12 (eF (vwM w).p.u.x) (eF (vwM w).p.u.y) (eF (vwM w).q.u.x) (eF (vwM w).q.u.y) (eF (vwM w).p.v.x) (eF (vwM w).p.v.y) (eF (vwM w).q.v.x) (eF (vwM w).q.v.y) (eF (vwM w).p.w.x) (eF (vwM w).p.w.y) (eF (vwM w).q.w.x) (eF (vwM w).q.w.y))
theorem one_w (w:S12):lastS (vwC w) = lastS w:=by
 have h:vwM w = w:=by
  show S12.mul (d12 oneF (fun _=>0) (fun _=>0) (fun _=>0) (fun _=>0) (fun _=>0) (fun _=>0) (fun _=>0) (fun _=>0) (fun _=>0) (fun _=>0) (fun _=>0)) (vwB w) = w
  rw [show vwB w = w from d12_eF w,d12_one]
  exact Rg.one_mul w
 rw [show vwC w = vwM w from d12_eF (vwM w),h]
theorem pr_z1 {b c:Nat} (hbc:Nat.beq b c = false) {px py x0 x1 y0 y3:Nat->Nat} {z z2:Bool} {y1 y2:TypeId} {h:Heap} (g1:hget h b = some ⟨y1,[.ws .u64 6 px,.ws .u64 6 py,.one (.bo true)],0,0⟩) (g2:hget h c = some ⟨y2,[.ws .u64 6 x0,.ws .u64 6 x1,.ws .u64 6 y0,.ws .u64 6 y3,.one (.bo z2)],0,0⟩) (h1:(lo1 px py && isE px py true) = true) (h2:(lo2 x0 x1 y0 y3 && isQ x0 x1 y0 y3 z2) = true) :
  CallOk Tryz.prog 28 ([] ++ [.v1 (.sc (.sl b 0 1 1)),.v1 (.sc (.sl c 0 1 1))]) h (.tup [n12 (lastS 1),.sc (.it 0)]) h:=by
 refine rd_sl2 tt_ok Tryz.func28 (by kernel_rfl) (by kernel_rfl) hbc (x:=⟨y1,[.ws .u64 6 px,.ws .u64 6 py,.one (.bo true)],0,0⟩) (y:=⟨y2,[.ws .u64 6 x0,.ws .u64 6 x1,.ws .u64 6 y0,.ws .u64 6 y3,.one (.bo z2)],0,0⟩) rfl rfl rfl rfl rfl rfl g1 g2 ?_
 refine evS_q mixed tt_ok GPr_ok 200 [⟨6,5,.lit (.bo false)⟩,⟨6,12,.lit (.bo false)⟩] ?_
 refine same (p:=(!(lo1 px py && isE px py true)) = false/\(!(lo2 x0 x1 y0 y3 && isQ x0 x1 y0 y3 z2)) = false/\nv oneF < pN/\nv (fun _=>0) < pN/\nv (fun _=>0) < pN/\nv (fun _=>0) < pN/\nv (fun _=>0) < pN/\nv (fun _=>0) < pN/\nv (fun _=>0) < pN/\nv (fun _=>0) < pN/\nv (fun _=>0) < pN/\nv (fun _=>0) < pN/\nv (fun _=>0) < pN/\nv (fun _=>0) < pN/\nv (eF (lastS (d12 oneF (fun _=>0) (fun _=>0) (fun _=>0) (fun _=>0) (fun _=>0) (fun _=>0) (fun _=>0) (fun _=>0) (fun _=>0) (fun _=>0) (fun _=>0))).p.u.x) < pN/\nv (eF (lastS (d12 oneF (fun _=>0) (fun _=>0) (fun _=>0) (fun _=>0) (fun _=>0) (fun _=>0) (fun _=>0) (fun _=>0) (fun _=>0) (fun _=>0) (fun _=>0))).p.u.y) < pN/\nv (eF (lastS (d12 oneF (fun _=>0) (fun _=>0) (fun _=>0) (fun _=>0) (fun _=>0) (fun _=>0) (fun _=>0) (fun _=>0) (fun _=>0) (fun _=>0) (fun _=>0))).q.u.x) < pN/\nv (eF (lastS (d12 oneF (fun _=>0) (fun _=>0) (fun _=>0) (fun _=>0) (fun _=>0) (fun _=>0) (fun _=>0) (fun _=>0) (fun _=>0) (fun _=>0) (fun _=>0))).q.u.y) < pN/\nv (eF (lastS (d12 oneF (fun _=>0) (fun _=>0) (fun _=>0) (fun _=>0) (fun _=>0) (fun _=>0) (fun _=>0) (fun _=>0) (fun _=>0) (fun _=>0) (fun _=>0))).p.v.x) < pN/\nv (eF (lastS (d12 oneF (fun _=>0) (fun _=>0) (fun _=>0) (fun _=>0) (fun _=>0) (fun _=>0) (fun _=>0) (fun _=>0) (fun _=>0) (fun _=>0) (fun _=>0))).p.v.y) < pN/\nv (eF (lastS (d12 oneF (fun _=>0) (fun _=>0) (fun _=>0) (fun _=>0) (fun _=>0) (fun _=>0) (fun _=>0) (fun _=>0) (fun _=>0) (fun _=>0) (fun _=>0))).q.v.x) < pN/\nv (eF (lastS (d12 oneF (fun _=>0) (fun _=>0) (fun _=>0) (fun _=>0) (fun _=>0) (fun _=>0) (fun _=>0) (fun _=>0) (fun _=>0) (fun _=>0) (fun _=>0))).q.v.y) < pN/\nv (eF (lastS (d12 oneF (fun _=>0) (fun _=>0) (fun _=>0) (fun _=>0) (fun _=>0) (fun _=>0) (fun _=>0) (fun _=>0) (fun _=>0) (fun _=>0) (fun _=>0))).p.w.x) < pN/\nv (eF (lastS (d12 oneF (fun _=>0) (fun _=>0) (fun _=>0) (fun _=>0) (fun _=>0) (fun _=>0) (fun _=>0) (fun _=>0) (fun _=>0) (fun _=>0) (fun _=>0))).p.w.y) < pN/\nv (eF (lastS (d12 oneF (fun _=>0) (fun _=>0) (fun _=>0) (fun _=>0) (fun _=>0) (fun _=>0) (fun _=>0) (fun _=>0) (fun _=>0) (fun _=>0) (fun _=>0))).q.w.x) < pN/\nv (eF (lastS (d12 oneF (fun _=>0) (fun _=>0) (fun _=>0) (fun _=>0) (fun _=>0) (fun _=>0) (fun _=>0) (fun _=>0) (fun _=>0) (fun _=>0) (fun _=>0))).q.w.y) < pN/\(some ⟨y1,[.ws .u64 6 px,.ws .u64 6 py,.one (.bo true)],0,0⟩:Option Blk) = some ⟨y1,[.ws .u64 6 px,.ws .u64 6 py,.one (.bo true)],0,0⟩/\(some ⟨y2,[.ws .u64 6 x0,.ws .u64 6 x1,.ws .u64 6 y0,.ws .u64 6 y3,.one (.bo z2)],0,0⟩:Option Blk) = some ⟨y2,[.ws .u64 6 x0,.ws .u64 6 x1,.ws .u64 6 y0,.ws .u64 6 y3,.one (.bo z2)],0,0⟩/\endR2 (.tup [v12 (vF (dF (eF (lastS (d12 oneF (fun _=>0) (fun _=>0) (fun _=>0) (fun _=>0) (fun _=>0) (fun _=>0) (fun _=>0) (fun _=>0) (fun _=>0) (fun _=>0) (fun _=>0))).p.u.x))) (vF (dF (eF (lastS (d12 oneF (fun _=>0) (fun _=>0) (fun _=>0) (fun _=>0) (fun _=>0) (fun _=>0) (fun _=>0) (fun _=>0) (fun _=>0) (fun _=>0) (fun _=>0))).p.u.y))) (vF (dF (eF (lastS (d12 oneF (fun _=>0) (fun _=>0) (fun _=>0) (fun _=>0) (fun _=>0) (fun _=>0) (fun _=>0) (fun _=>0) (fun _=>0) (fun _=>0) (fun _=>0))).q.u.x))) (vF (dF (eF (lastS (d12 oneF (fun _=>0) (fun _=>0) (fun _=>0) (fun _=>0) (fun _=>0) (fun _=>0) (fun _=>0) (fun _=>0) (fun _=>0) (fun _=>0) (fun _=>0))).q.u.y))) (vF (dF (eF (lastS (d12 oneF (fun _=>0) (fun _=>0) (fun _=>0) (fun _=>0) (fun _=>0) (fun _=>0) (fun _=>0) (fun _=>0) (fun _=>0) (fun _=>0) (fun _=>0))).p.v.x))) (vF (dF (eF (lastS (d12 oneF (fun _=>0) (fun _=>0) (fun _=>0) (fun _=>0) (fun _=>0) (fun _=>0) (fun _=>0) (fun _=>0) (fun _=>0) (fun _=>0) (fun _=>0))).p.v.y))) (vF (dF (eF (lastS (d12 oneF (fun _=>0) (fun _=>0) (fun _=>0) (fun _=>0) (fun _=>0) (fun _=>0) (fun _=>0) (fun _=>0) (fun _=>0) (fun _=>0) (fun _=>0))).q.v.x))) (vF (dF (eF (lastS (d12 oneF (fun _=>0) (fun _=>0) (fun _=>0) (fun _=>0) (fun _=>0) (fun _=>0) (fun _=>0) (fun _=>0) (fun _=>0) (fun _=>0) (fun _=>0))).q.v.y))) (vF (dF (eF (lastS (d12 oneF (fun _=>0) (fun _=>0) (fun _=>0) (fun _=>0) (fun _=>0) (fun _=>0) (fun _=>0) (fun _=>0) (fun _=>0) (fun _=>0) (fun _=>0))).p.w.x))) (vF (dF (eF (lastS (d12 oneF (fun _=>0) (fun _=>0) (fun _=>0) (fun _=>0) (fun _=>0) (fun _=>0) (fun _=>0) (fun _=>0) (fun _=>0) (fun _=>0) (fun _=>0))).p.w.y))) (vF (dF (eF (lastS (d12 oneF (fun _=>0) (fun _=>0) (fun _=>0) (fun _=>0) (fun _=>0) (fun _=>0) (fun _=>0) (fun _=>0) (fun _=>0) (fun _=>0) (fun _=>0))).q.w.x))) (vF (dF (eF (lastS (d12 oneF (fun _=>0) (fun _=>0) (fun _=>0) (fun _=>0) (fun _=>0) (fun _=>0) (fun _=>0) (fun _=>0) (fun _=>0) (fun _=>0) (fun _=>0))).q.w.y))),.sc (.it 0)]) (.tup [n12 (lastS 1),.sc (.it 0)])) ?_ (by kernel_rfl)
 exact ⟨by rw [h1];rfl,by rw [h2];rfl,lt_one,lt_zero,lt_zero,lt_zero,lt_zero,lt_zero,lt_zero,lt_zero,lt_zero,lt_zero,lt_zero,lt_zero,lt_eF _,lt_eF _,lt_eF _,lt_eF _,lt_eF _,lt_eF _,lt_eF _,lt_eF _,lt_eF _,lt_eF _,lt_eF _,lt_eF _,rfl,rfl,endPR (by rw [d12_one])⟩
theorem pr_z2 {b c:Nat} (hbc:Nat.beq b c = false) {px py x0 x1 y0 y3:Nat->Nat} {z z2:Bool} {y1 y2:TypeId} {h:Heap} (g1:hget h b = some ⟨y1,[.ws .u64 6 px,.ws .u64 6 py,.one (.bo false)],0,0⟩) (g2:hget h c = some ⟨y2,[.ws .u64 6 x0,.ws .u64 6 x1,.ws .u64 6 y0,.ws .u64 6 y3,.one (.bo true)],0,0⟩) (h1:(lo1 px py && isE px py false) = true) (h2:(lo2 x0 x1 y0 y3 && isQ x0 x1 y0 y3 true) = true) :
  CallOk Tryz.prog 28 ([] ++ [.v1 (.sc (.sl b 0 1 1)),.v1 (.sc (.sl c 0 1 1))]) h (.tup [n12 (lastS 1),.sc (.it 0)]) h:=by
 refine rd_sl2 tt_ok Tryz.func28 (by kernel_rfl) (by kernel_rfl) hbc (x:=⟨y1,[.ws .u64 6 px,.ws .u64 6 py,.one (.bo false)],0,0⟩) (y:=⟨y2,[.ws .u64 6 x0,.ws .u64 6 x1,.ws .u64 6 y0,.ws .u64 6 y3,.one (.bo true)],0,0⟩) rfl rfl rfl rfl rfl rfl g1 g2 ?_
 refine evS_q mixed tt_ok GPr_ok 200 [⟨6,5,.lit (.bo false)⟩,⟨6,12,.lit (.bo false)⟩] ?_
 refine same (p:=(!(lo1 px py && isE px py false)) = false/\(!(lo2 x0 x1 y0 y3 && isQ x0 x1 y0 y3 true)) = false/\nv oneF < pN/\nv (fun _=>0) < pN/\nv (fun _=>0) < pN/\nv (fun _=>0) < pN/\nv (fun _=>0) < pN/\nv (fun _=>0) < pN/\nv (fun _=>0) < pN/\nv (fun _=>0) < pN/\nv (fun _=>0) < pN/\nv (fun _=>0) < pN/\nv (fun _=>0) < pN/\nv (fun _=>0) < pN/\nv (eF (lastS (d12 oneF (fun _=>0) (fun _=>0) (fun _=>0) (fun _=>0) (fun _=>0) (fun _=>0) (fun _=>0) (fun _=>0) (fun _=>0) (fun _=>0) (fun _=>0))).p.u.x) < pN/\nv (eF (lastS (d12 oneF (fun _=>0) (fun _=>0) (fun _=>0) (fun _=>0) (fun _=>0) (fun _=>0) (fun _=>0) (fun _=>0) (fun _=>0) (fun _=>0) (fun _=>0))).p.u.y) < pN/\nv (eF (lastS (d12 oneF (fun _=>0) (fun _=>0) (fun _=>0) (fun _=>0) (fun _=>0) (fun _=>0) (fun _=>0) (fun _=>0) (fun _=>0) (fun _=>0) (fun _=>0))).q.u.x) < pN/\nv (eF (lastS (d12 oneF (fun _=>0) (fun _=>0) (fun _=>0) (fun _=>0) (fun _=>0) (fun _=>0) (fun _=>0) (fun _=>0) (fun _=>0) (fun _=>0) (fun _=>0))).q.u.y) < pN/\nv (eF (lastS (d12 oneF (fun _=>0) (fun _=>0) (fun _=>0) (fun _=>0) (fun _=>0) (fun _=>0) (fun _=>0) (fun _=>0) (fun _=>0) (fun _=>0) (fun _=>0))).p.v.x) < pN/\nv (eF (lastS (d12 oneF (fun _=>0) (fun _=>0) (fun _=>0) (fun _=>0) (fun _=>0) (fun _=>0) (fun _=>0) (fun _=>0) (fun _=>0) (fun _=>0) (fun _=>0))).p.v.y) < pN/\nv (eF (lastS (d12 oneF (fun _=>0) (fun _=>0) (fun _=>0) (fun _=>0) (fun _=>0) (fun _=>0) (fun _=>0) (fun _=>0) (fun _=>0) (fun _=>0) (fun _=>0))).q.v.x) < pN/\nv (eF (lastS (d12 oneF (fun _=>0) (fun _=>0) (fun _=>0) (fun _=>0) (fun _=>0) (fun _=>0) (fun _=>0) (fun _=>0) (fun _=>0) (fun _=>0) (fun _=>0))).q.v.y) < pN/\nv (eF (lastS (d12 oneF (fun _=>0) (fun _=>0) (fun _=>0) (fun _=>0) (fun _=>0) (fun _=>0) (fun _=>0) (fun _=>0) (fun _=>0) (fun _=>0) (fun _=>0))).p.w.x) < pN/\nv (eF (lastS (d12 oneF (fun _=>0) (fun _=>0) (fun _=>0) (fun _=>0) (fun _=>0) (fun _=>0) (fun _=>0) (fun _=>0) (fun _=>0) (fun _=>0) (fun _=>0))).p.w.y) < pN/\nv (eF (lastS (d12 oneF (fun _=>0) (fun _=>0) (fun _=>0) (fun _=>0) (fun _=>0) (fun _=>0) (fun _=>0) (fun _=>0) (fun _=>0) (fun _=>0) (fun _=>0))).q.w.x) < pN/\nv (eF (lastS (d12 oneF (fun _=>0) (fun _=>0) (fun _=>0) (fun _=>0) (fun _=>0) (fun _=>0) (fun _=>0) (fun _=>0) (fun _=>0) (fun _=>0) (fun _=>0))).q.w.y) < pN/\(some ⟨y1,[.ws .u64 6 px,.ws .u64 6 py,.one (.bo false)],0,0⟩:Option Blk) = some ⟨y1,[.ws .u64 6 px,.ws .u64 6 py,.one (.bo false)],0,0⟩/\(some ⟨y2,[.ws .u64 6 x0,.ws .u64 6 x1,.ws .u64 6 y0,.ws .u64 6 y3,.one (.bo true)],0,0⟩:Option Blk) = some ⟨y2,[.ws .u64 6 x0,.ws .u64 6 x1,.ws .u64 6 y0,.ws .u64 6 y3,.one (.bo true)],0,0⟩/\endR2 (.tup [v12 (vF (dF (eF (lastS (d12 oneF (fun _=>0) (fun _=>0) (fun _=>0) (fun _=>0) (fun _=>0) (fun _=>0) (fun _=>0) (fun _=>0) (fun _=>0) (fun _=>0) (fun _=>0))).p.u.x))) (vF (dF (eF (lastS (d12 oneF (fun _=>0) (fun _=>0) (fun _=>0) (fun _=>0) (fun _=>0) (fun _=>0) (fun _=>0) (fun _=>0) (fun _=>0) (fun _=>0) (fun _=>0))).p.u.y))) (vF (dF (eF (lastS (d12 oneF (fun _=>0) (fun _=>0) (fun _=>0) (fun _=>0) (fun _=>0) (fun _=>0) (fun _=>0) (fun _=>0) (fun _=>0) (fun _=>0) (fun _=>0))).q.u.x))) (vF (dF (eF (lastS (d12 oneF (fun _=>0) (fun _=>0) (fun _=>0) (fun _=>0) (fun _=>0) (fun _=>0) (fun _=>0) (fun _=>0) (fun _=>0) (fun _=>0) (fun _=>0))).q.u.y))) (vF (dF (eF (lastS (d12 oneF (fun _=>0) (fun _=>0) (fun _=>0) (fun _=>0) (fun _=>0) (fun _=>0) (fun _=>0) (fun _=>0) (fun _=>0) (fun _=>0) (fun _=>0))).p.v.x))) (vF (dF (eF (lastS (d12 oneF (fun _=>0) (fun _=>0) (fun _=>0) (fun _=>0) (fun _=>0) (fun _=>0) (fun _=>0) (fun _=>0) (fun _=>0) (fun _=>0) (fun _=>0))).p.v.y))) (vF (dF (eF (lastS (d12 oneF (fun _=>0) (fun _=>0) (fun _=>0) (fun _=>0) (fun _=>0) (fun _=>0) (fun _=>0) (fun _=>0) (fun _=>0) (fun _=>0) (fun _=>0))).q.v.x))) (vF (dF (eF (lastS (d12 oneF (fun _=>0) (fun _=>0) (fun _=>0) (fun _=>0) (fun _=>0) (fun _=>0) (fun _=>0) (fun _=>0) (fun _=>0) (fun _=>0) (fun _=>0))).q.v.y))) (vF (dF (eF (lastS (d12 oneF (fun _=>0) (fun _=>0) (fun _=>0) (fun _=>0) (fun _=>0) (fun _=>0) (fun _=>0) (fun _=>0) (fun _=>0) (fun _=>0) (fun _=>0))).p.w.x))) (vF (dF (eF (lastS (d12 oneF (fun _=>0) (fun _=>0) (fun _=>0) (fun _=>0) (fun _=>0) (fun _=>0) (fun _=>0) (fun _=>0) (fun _=>0) (fun _=>0) (fun _=>0))).p.w.y))) (vF (dF (eF (lastS (d12 oneF (fun _=>0) (fun _=>0) (fun _=>0) (fun _=>0) (fun _=>0) (fun _=>0) (fun _=>0) (fun _=>0) (fun _=>0) (fun _=>0) (fun _=>0))).q.w.x))) (vF (dF (eF (lastS (d12 oneF (fun _=>0) (fun _=>0) (fun _=>0) (fun _=>0) (fun _=>0) (fun _=>0) (fun _=>0) (fun _=>0) (fun _=>0) (fun _=>0) (fun _=>0))).q.w.y))),.sc (.it 0)]) (.tup [n12 (lastS 1),.sc (.it 0)])) ?_ (by kernel_rfl)
 exact ⟨by rw [h1];rfl,by rw [h2];rfl,lt_one,lt_zero,lt_zero,lt_zero,lt_zero,lt_zero,lt_zero,lt_zero,lt_zero,lt_zero,lt_zero,lt_zero,lt_eF _,lt_eF _,lt_eF _,lt_eF _,lt_eF _,lt_eF _,lt_eF _,lt_eF _,lt_eF _,lt_eF _,lt_eF _,lt_eF _,rfl,rfl,endPR (by rw [d12_one])⟩
theorem pr_in {b c:Nat} (hbc:Nat.beq b c = false) {px py x0 x1 y0 y3:Nat->Nat} {z z2:Bool} {y1 y2:TypeId} {h:Heap} (g1:hget h b = some ⟨y1,[.ws .u64 6 px,.ws .u64 6 py,.one (.bo false)],0,0⟩) (g2:hget h c = some ⟨y2,[.ws .u64 6 x0,.ws .u64 6 x1,.ws .u64 6 y0,.ws .u64 6 y3,.one (.bo false)],0,0⟩) (h1:(lo1 px py && isE px py false) = true) (h2:(lo2 x0 x1 y0 y3 && isQ x0 x1 y0 y3 false) = true) :
  CallOk Tryz.prog 28 ([] ++ [.v1 (.sc (.sl b 0 1 1)),.v1 (.sc (.sl c 0 1 1))]) h (.tup [n12 (lastS (walkS (gN px) (gN py) ⟨gN x0,gN x1⟩ ⟨gN y0,gN y3⟩)),.sc (.it 0)]) h:=by
 refine rd_sl2 tt_ok Tryz.func28 (by kernel_rfl) (by kernel_rfl) hbc (x:=⟨y1,[.ws .u64 6 px,.ws .u64 6 py,.one (.bo false)],0,0⟩) (y:=⟨y2,[.ws .u64 6 x0,.ws .u64 6 x1,.ws .u64 6 y0,.ws .u64 6 y3,.one (.bo false)],0,0⟩) rfl rfl rfl rfl rfl rfl g1 g2 ?_
 refine evS_q mixed tt_ok GPr_ok 200 [⟨6,5,.lit (.bo false)⟩,⟨6,12,.lit (.bo false)⟩] ?_
 refine same (p:=(!(lo1 px py && isE px py false)) = false/\(!(lo2 x0 x1 y0 y3 && isQ x0 x1 y0 y3 false)) = false/\nv oneF < pN/\nv (fun _=>0) < pN/\nv (fun _=>0) < pN/\nv (fun _=>0) < pN/\nv (fun _=>0) < pN/\nv (fun _=>0) < pN/\nv (fun _=>0) < pN/\nv (fun _=>0) < pN/\nv (fun _=>0) < pN/\nv (fun _=>0) < pN/\nv (fun _=>0) < pN/\nv (fun _=>0) < pN/\nv (eF (walkS (gN px) (gN py) ⟨gN x0,gN x1⟩ ⟨gN y0,gN y3⟩).p.u.x) < pN/\nv (eF (walkS (gN px) (gN py) ⟨gN x0,gN x1⟩ ⟨gN y0,gN y3⟩).p.u.y) < pN/\nv (eF (walkS (gN px) (gN py) ⟨gN x0,gN x1⟩ ⟨gN y0,gN y3⟩).q.u.x) < pN/\nv (eF (walkS (gN px) (gN py) ⟨gN x0,gN x1⟩ ⟨gN y0,gN y3⟩).q.u.y) < pN/\nv (eF (walkS (gN px) (gN py) ⟨gN x0,gN x1⟩ ⟨gN y0,gN y3⟩).p.v.x) < pN/\nv (eF (walkS (gN px) (gN py) ⟨gN x0,gN x1⟩ ⟨gN y0,gN y3⟩).p.v.y) < pN/\nv (eF (walkS (gN px) (gN py) ⟨gN x0,gN x1⟩ ⟨gN y0,gN y3⟩).q.v.x) < pN/\nv (eF (walkS (gN px) (gN py) ⟨gN x0,gN x1⟩ ⟨gN y0,gN y3⟩).q.v.y) < pN/\nv (eF (walkS (gN px) (gN py) ⟨gN x0,gN x1⟩ ⟨gN y0,gN y3⟩).p.w.x) < pN/\nv (eF (walkS (gN px) (gN py) ⟨gN x0,gN x1⟩ ⟨gN y0,gN y3⟩).p.w.y) < pN/\nv (eF (walkS (gN px) (gN py) ⟨gN x0,gN x1⟩ ⟨gN y0,gN y3⟩).q.w.x) < pN/\nv (eF (walkS (gN px) (gN py) ⟨gN x0,gN x1⟩ ⟨gN y0,gN y3⟩).q.w.y) < pN/\nv (eF (vwM (walkS (gN px) (gN py) ⟨gN x0,gN x1⟩ ⟨gN y0,gN y3⟩)).p.u.x) < pN/\nv (eF (vwM (walkS (gN px) (gN py) ⟨gN x0,gN x1⟩ ⟨gN y0,gN y3⟩)).p.u.y) < pN/\nv (eF (vwM (walkS (gN px) (gN py) ⟨gN x0,gN x1⟩ ⟨gN y0,gN y3⟩)).q.u.x) < pN/\nv (eF (vwM (walkS (gN px) (gN py) ⟨gN x0,gN x1⟩ ⟨gN y0,gN y3⟩)).q.u.y) < pN/\nv (eF (vwM (walkS (gN px) (gN py) ⟨gN x0,gN x1⟩ ⟨gN y0,gN y3⟩)).p.v.x) < pN/\nv (eF (vwM (walkS (gN px) (gN py) ⟨gN x0,gN x1⟩ ⟨gN y0,gN y3⟩)).p.v.y) < pN/\nv (eF (vwM (walkS (gN px) (gN py) ⟨gN x0,gN x1⟩ ⟨gN y0,gN y3⟩)).q.v.x) < pN/\nv (eF (vwM (walkS (gN px) (gN py) ⟨gN x0,gN x1⟩ ⟨gN y0,gN y3⟩)).q.v.y) < pN/\nv (eF (vwM (walkS (gN px) (gN py) ⟨gN x0,gN x1⟩ ⟨gN y0,gN y3⟩)).p.w.x) < pN/\nv (eF (vwM (walkS (gN px) (gN py) ⟨gN x0,gN x1⟩ ⟨gN y0,gN y3⟩)).p.w.y) < pN/\nv (eF (vwM (walkS (gN px) (gN py) ⟨gN x0,gN x1⟩ ⟨gN y0,gN y3⟩)).q.w.x) < pN/\nv (eF (vwM (walkS (gN px) (gN py) ⟨gN x0,gN x1⟩ ⟨gN y0,gN y3⟩)).q.w.y) < pN/\nv (eF (lastS (vwC (walkS (gN px) (gN py) ⟨gN x0,gN x1⟩ ⟨gN y0,gN y3⟩))).p.u.x) < pN/\nv (eF (lastS (vwC (walkS (gN px) (gN py) ⟨gN x0,gN x1⟩ ⟨gN y0,gN y3⟩))).p.u.y) < pN/\nv (eF (lastS (vwC (walkS (gN px) (gN py) ⟨gN x0,gN x1⟩ ⟨gN y0,gN y3⟩))).q.u.x) < pN/\nv (eF (lastS (vwC (walkS (gN px) (gN py) ⟨gN x0,gN x1⟩ ⟨gN y0,gN y3⟩))).q.u.y) < pN/\nv (eF (lastS (vwC (walkS (gN px) (gN py) ⟨gN x0,gN x1⟩ ⟨gN y0,gN y3⟩))).p.v.x) < pN/\nv (eF (lastS (vwC (walkS (gN px) (gN py) ⟨gN x0,gN x1⟩ ⟨gN y0,gN y3⟩))).p.v.y) < pN/\nv (eF (lastS (vwC (walkS (gN px) (gN py) ⟨gN x0,gN x1⟩ ⟨gN y0,gN y3⟩))).q.v.x) < pN/\nv (eF (lastS (vwC (walkS (gN px) (gN py) ⟨gN x0,gN x1⟩ ⟨gN y0,gN y3⟩))).q.v.y) < pN/\nv (eF (lastS (vwC (walkS (gN px) (gN py) ⟨gN x0,gN x1⟩ ⟨gN y0,gN y3⟩))).p.w.x) < pN/\nv (eF (lastS (vwC (walkS (gN px) (gN py) ⟨gN x0,gN x1⟩ ⟨gN y0,gN y3⟩))).p.w.y) < pN/\nv (eF (lastS (vwC (walkS (gN px) (gN py) ⟨gN x0,gN x1⟩ ⟨gN y0,gN y3⟩))).q.w.x) < pN/\nv (eF (lastS (vwC (walkS (gN px) (gN py) ⟨gN x0,gN x1⟩ ⟨gN y0,gN y3⟩))).q.w.y) < pN/\(some ⟨y1,[.ws .u64 6 px,.ws .u64 6 py,.one (.bo false)],0,0⟩:Option Blk) = some ⟨y1,[.ws .u64 6 px,.ws .u64 6 py,.one (.bo false)],0,0⟩/\(some ⟨y2,[.ws .u64 6 x0,.ws .u64 6 x1,.ws .u64 6 y0,.ws .u64 6 y3,.one (.bo false)],0,0⟩:Option Blk) = some ⟨y2,[.ws .u64 6 x0,.ws .u64 6 x1,.ws .u64 6 y0,.ws .u64 6 y3,.one (.bo false)],0,0⟩/\endR2 (.tup [v12 (vF (dF (eF (lastS (vwC (walkS (gN px) (gN py) ⟨gN x0,gN x1⟩ ⟨gN y0,gN y3⟩))).p.u.x))) (vF (dF (eF (lastS (vwC (walkS (gN px) (gN py) ⟨gN x0,gN x1⟩ ⟨gN y0,gN y3⟩))).p.u.y))) (vF (dF (eF (lastS (vwC (walkS (gN px) (gN py) ⟨gN x0,gN x1⟩ ⟨gN y0,gN y3⟩))).q.u.x))) (vF (dF (eF (lastS (vwC (walkS (gN px) (gN py) ⟨gN x0,gN x1⟩ ⟨gN y0,gN y3⟩))).q.u.y))) (vF (dF (eF (lastS (vwC (walkS (gN px) (gN py) ⟨gN x0,gN x1⟩ ⟨gN y0,gN y3⟩))).p.v.x))) (vF (dF (eF (lastS (vwC (walkS (gN px) (gN py) ⟨gN x0,gN x1⟩ ⟨gN y0,gN y3⟩))).p.v.y))) (vF (dF (eF (lastS (vwC (walkS (gN px) (gN py) ⟨gN x0,gN x1⟩ ⟨gN y0,gN y3⟩))).q.v.x))) (vF (dF (eF (lastS (vwC (walkS (gN px) (gN py) ⟨gN x0,gN x1⟩ ⟨gN y0,gN y3⟩))).q.v.y))) (vF (dF (eF (lastS (vwC (walkS (gN px) (gN py) ⟨gN x0,gN x1⟩ ⟨gN y0,gN y3⟩))).p.w.x))) (vF (dF (eF (lastS (vwC (walkS (gN px) (gN py) ⟨gN x0,gN x1⟩ ⟨gN y0,gN y3⟩))).p.w.y))) (vF (dF (eF (lastS (vwC (walkS (gN px) (gN py) ⟨gN x0,gN x1⟩ ⟨gN y0,gN y3⟩))).q.w.x))) (vF (dF (eF (lastS (vwC (walkS (gN px) (gN py) ⟨gN x0,gN x1⟩ ⟨gN y0,gN y3⟩))).q.w.y))),.sc (.it 0)]) (.tup [n12 (lastS (walkS (gN px) (gN py) ⟨gN x0,gN x1⟩ ⟨gN y0,gN y3⟩)),.sc (.it 0)])) ?_ (by kernel_rfl)
 exact ⟨by rw [h1];rfl,by rw [h2];rfl,lt_one,lt_zero,lt_zero,lt_zero,lt_zero,lt_zero,lt_zero,lt_zero,lt_zero,lt_zero,lt_zero,lt_zero,lt_eF _,lt_eF _,lt_eF _,lt_eF _,lt_eF _,lt_eF _,lt_eF _,lt_eF _,lt_eF _,lt_eF _,lt_eF _,lt_eF _,lt_eF _,lt_eF _,lt_eF _,lt_eF _,lt_eF _,lt_eF _,lt_eF _,lt_eF _,lt_eF _,lt_eF _,lt_eF _,lt_eF _,lt_eF _,lt_eF _,lt_eF _,lt_eF _,lt_eF _,lt_eF _,lt_eF _,lt_eF _,lt_eF _,lt_eF _,lt_eF _,lt_eF _,rfl,rfl,endPR (one_w _)⟩
end Go.Proofs.YtnjocbcjejpklaaGreat
namespace Go.Proofs.YtnjocbcjejpklaaGreat
open Go.Rq Go
set_option maxRecDepth 100000
set_option linter.unusedVariables false
set_option linter.unusedSimpArgs false
set_option maxHeartbeats 4000000
set_option maxRecDepth 100000
def prB (px py x0 x1 y0 y3:Nat->Nat) (z z2:Bool):Bool:=(lo1 px py && isE px py z) && (lo2 x0 x1 y0 y3 && isQ x0 x1 y0 y3 z2)
def prS (px py x0 x1 y0 y3:Nat->Nat) (z z2:Bool):S12:=bif prB px py x0 x1 y0 y3 z z2 then (bif z || z2 then lastS 1 else lastS (walkS (gN px) (gN py) ⟨gN x0,gN x1⟩ ⟨gN y0,gN y3⟩)) else 0
def prI (px py x0 x1 y0 y3:Nat->Nat) (z z2:Bool):Int:=bif prB px py x0 x1 y0 y3 z z2 then 0 else 5
def prV (px py x0 x1 y0 y3:Nat->Nat) (z z2:Bool):AV:=.tup [n12 (prS px py x0 x1 y0 y3 z z2),.sc (.it (prI px py x0 x1 y0 y3 z z2))]
def cPrs:List AV->Heap->Option (List Prop × AV)
 | [.v1 (.sc (.sl b 0 1 1)),.v1 (.sc (.sl c 0 1 1))],h=>match Nat.beq b c,hget h b,hget h c with
  | false,some ⟨_,[.ws .u64 6 px,.ws .u64 6 py,.one (.bo z)],0,0⟩,some ⟨_,[.ws .u64 6 x0,.ws .u64 6 x1,.ws .u64 6 y0,.ws .u64 6 y3,.one (.bo z2)],0,0⟩=>some ([],prV px py x0 x1 y0 y3 z z2)
  | _,_,_=>none
 | _,_=>none
theorem okPrs:(CallC.rd cPrs).Ok Tryz.prog 28:=by
 refine ⟨fun args h pre v e hp=>?_,fun args h slot blk hs ha=>?_⟩
 ·unfold cPrs at e
  split at e
  ·rename_i b c
   split at e
   ·rename_i y1 px py z y2 x0 x1 y0 y3 z2 h0 g1 g2
    cases e
    show CallOk Tryz.prog 28 ([] ++ [.v1 (.sc (.sl b 0 1 1)),.v1 (.sc (.sl c 0 1 1))]) h (prV px py x0 x1 y0 y3 z z2) h
    unfold prV prS prI prB
    cases h1:(lo1 px py && isE px py z)
    ·exact pr_no1 h0 g1 g2 h1
    ·cases h2:(lo2 x0 x1 y0 y3 && isQ x0 x1 y0 y3 z2)
     ·exact pr_no2 h0 g1 g2 h1 h2
     ·cases z
      ·cases z2
       ·exact pr_in (z:=false) (z2:=false) h0 g1 g2 h1 h2
       ·exact pr_z2 (z:=false) (z2:=true) h0 g1 g2 h1 h2
      ·exact pr_z1 (z:=true) h0 g1 g2 h1 h2
   ·cases e
  ·cases e
 ·unfold cPrs
  split
  ·rename_i b c
   rw [keepS hs (ha (.v1 (.sc (.sl b 0 1 1))) (by simp)),keepS hs (ha (.v1 (.sc (.sl c 0 1 1))) (by simp))]
  ·rfl
def GPir:Ctx:=ctxL [(28,.rd cPrs)]
theorem GPir_ok:CtxOk Tryz.prog GPir:=ctxL_cons okPrs ctxL_nil
def cPair:List AV->Option (List Prop × AV)
 | [.v1 (.agg [.ws .u64 6 px,.ws .u64 6 py,.one (.bo z)]),.v1 (.agg [.ws .u64 6 x0,.ws .u64 6 x1,.ws .u64 6 y0,.ws .u64 6 y3,.one (.bo z2)])]=>some ([],prV px py x0 x1 y0 y3 z z2)
 | _=>none
theorem okPair:(CallC.pure cPair).Ok Tryz.prog 7:=by
 intro args pre v e hp
 unfold cPair at e
 split at e
 rotate_left
 ·cases e
 rename_i px py z x0 x1 y0 y3 z2
 cases e
 refine pure_walk' tt_ok Tryz.func7 (by kernel_rfl) (by kernel_rfl) (by rfl) (by rfl) ?_
 refine evS_q mixed tt_ok GPir_ok 60 [] (same (p:=endN (prV px py x0 x1 y0 y3 z z2) (prV px py x0 x1 y0 y3 z z2)) ?_ (by kernel_rfl))
 exact ⟨_,rfl,fun _=>rfl⟩
end Go.Proofs.YtnjocbcjejpklaaGreat
namespace Go.Proofs.YtnjocbcjejpklaaGreat
open Go.Rq Go
set_option maxRecDepth 100000
set_option linter.unusedVariables false
set_option linter.unusedSimpArgs false
set_option maxHeartbeats 4000000
def cOut1:List AV->Option (List Prop × AV)
 | [.v1 (.agg [.ws .u64 6 x,.ws .u64 6 y,.one (.bo z)])]=>some ([nv x < pN,nv y < pN],.v1 (.agg [.ws .u64 6 (vF (dF x)),.ws .u64 6 (vF (dF y)),.one (.bo z)]))
 | _=>none
def GOu1:Ctx:=ctxL [(133,.pure cFrom)]
theorem GOu1_ok:CtxOk Tryz.prog GOu1:=ctxL_cons okFrom ctxL_nil
theorem okOut1:(CallC.pure cOut1).Ok Tryz.prog 70:=by
 intro args pre v e hp
 unfold cOut1 at e
 split at e
 rotate_left
 ·cases e
 rename_i x y z
 cases e
 refine pure_walk' tt_ok Tryz.func70 (by kernel_rfl) (by kernel_rfl) (by rfl) (by rfl) ?_
 refine evS_q mixed tt_ok GOu1_ok 60 [] (same (p:=nv x < pN/\nv y < pN/\endN (.v1 (.agg [.ws .u64 6 (vF (dF x)),.ws .u64 6 (vF (dF y)),.one (.bo z)])) (.v1 (.agg [.ws .u64 6 (vF (dF x)),.ws .u64 6 (vF (dF y)),.one (.bo z)]))) ?_ (by kernel_rfl))
 exact ⟨hp (nv x < pN) (by simp),hp (nv y < pN) (by simp),_,rfl,fun _=>rfl⟩
def cOut2:List AV->Option (List Prop × AV)
 | [.v1 (.agg [.ws .u64 6 x0,.ws .u64 6 x1,.ws .u64 6 y0,.ws .u64 6 y1,.one (.bo z)])]=>some ([nv x0 < pN,nv x1 < pN,nv y0 < pN,nv y1 < pN],.v1 (.agg [.ws .u64 6 (vF (dF x0)),.ws .u64 6 (vF (dF x1)),.ws .u64 6 (vF (dF y0)),.ws .u64 6 (vF (dF y1)),.one (.bo z)]))
 | _=>none
def GOu2:Ctx:=ctxL [(88,.pure cFrom2)]
theorem GOu2_ok:CtxOk Tryz.prog GOu2:=ctxL_cons okFrom2 ctxL_nil
theorem okOut2:(CallC.pure cOut2).Ok Tryz.prog 121:=by
 intro args pre v e hp
 unfold cOut2 at e
 split at e
 rotate_left
 ·cases e
 rename_i x0 x1 y0 y1 z
 cases e
 refine pure_walk' tt_ok Tryz.func121 (by kernel_rfl) (by kernel_rfl) (by rfl) (by rfl) ?_
 refine evS_q mixed tt_ok GOu2_ok 60 [] (same (p:=nv x0 < pN/\nv x1 < pN/\nv y0 < pN/\nv y1 < pN/\endN (.v1 (.agg [.ws .u64 6 (vF (dF x0)),.ws .u64 6 (vF (dF x1)),.ws .u64 6 (vF (dF y0)),.ws .u64 6 (vF (dF y1)),.one (.bo z)])) (.v1 (.agg [.ws .u64 6 (vF (dF x0)),.ws .u64 6 (vF (dF x1)),.ws .u64 6 (vF (dF y0)),.ws .u64 6 (vF (dF y1)),.one (.bo z)]))) ?_ (by kernel_rfl))
 exact ⟨hp (nv x0 < pN) (by simp),hp (nv x1 < pN) (by simp),hp (nv y0 < pN) (by simp),hp (nv y1 < pN) (by simp),_,rfl,fun _=>rfl⟩
end Go.Proofs.YtnjocbcjejpklaaGreat
namespace Go.Proofs.YtnjocbcjejpklaaGreat
open Go.Rq Go
set_option maxRecDepth 100000
set_option linter.unusedVariables false
set_option linter.unusedSimpArgs false
set_option maxHeartbeats 4000000
set_option maxRecDepth 100000
theorem zv0:nv (fun _=>0) = nv (vF 0):=zero_vF
def avPE (a:A2 Fp) (e:Int):AV:=.tup [.agg [.ws .u64 6 (vF (a).x),.ws .u64 6 (vF (a).y),.one (.bo a.z)],.sc (.it e)]
theorem cvPE {u t:A2 Fp} (h:u = t):∀ ρ:Ren,cvals ρ [.ws .u64 6 (vF (dF (eF (u).x))),.ws .u64 6 (vF (dF (eF (u).y))),.one (.bo u.z)] = cvals ρ [.ws .u64 6 (vF (t).x),.ws .u64 6 (vF (t).y),.one (.bo t.z)]:=by
 subst h
 rw [dF_eF,dF_eF]
 exact fun _=>rfl
def GSuE:Ctx:=ctxL [(50,.pure cLo1),(53,.pure cI1),(51,.pure (cFld fdE)),(119,.rd gaCE),(70,.pure cOut1)]
theorem GSuE_ok:CtxOk Tryz.prog GSuE:=ctxL_cons okLo1 <| ctxL_cons okI1 <| ctxL_cons okFirst <| ctxL_cons okGaE <| ctxL_cons okOut1 ctxL_nil
def suE1 (x0 y0:Nat->Nat) (z0:Bool) (k0:Nat):A2 Fp:=bif lo1 x0 y0 then gaE1 (⟨(gN x0),(gN y0),z0⟩:A2 Fp) k0 else ⟨0,0,false⟩
def seE1 (x0 y0:Nat->Nat) (z0:Bool):Int:=bif lo1 x0 y0 then geE1 (⟨(gN x0),(gN y0),z0⟩:A2 Fp) else 5
def suE2 (x0 y0 x1 y1:Nat->Nat) (z0 z1:Bool) (k0 k1:Nat):A2 Fp:=bif lo1 x0 y0 && lo1 x1 y1 then gaE2 (⟨(gN x0),(gN y0),z0⟩:A2 Fp) (⟨(gN x1),(gN y1),z1⟩:A2 Fp) k0 k1 else ⟨0,0,false⟩
def seE2 (x0 y0 x1 y1:Nat->Nat) (z0 z1:Bool):Int:=bif lo1 x0 y0 && lo1 x1 y1 then geE2 (⟨(gN x0),(gN y0),z0⟩:A2 Fp) (⟨(gN x1),(gN y1),z1⟩:A2 Fp) else 5
theorem suE1_walk {x0 y0 n0:Nat->Nat} {z0:Bool} {t t2:TypeId} {hi hj:Nat} :
  AWqS Tryz.prog (Dm [some ⟨t,[.ws .u64 6 x0,.ws .u64 6 y0,.one (.bo z0)],0,hi⟩,some ⟨t2,[.ws .u64 6 n0],0,hj⟩]) (flatC (bodyOf Tryz.f58)) (FEndV tt Tryz.f58 (avPE (suE1 x0 y0 z0 (nv n0)) (seE1 x0 y0 z0)) [some ⟨t,[.ws .u64 6 x0,.ws .u64 6 y0,.one (.bo z0)],0,hi⟩,some ⟨t2,[.ws .u64 6 n0],0,hj⟩]) ⟨frame0 ([] ++ [.v1 (.sc (.sl 0 0 1 1)),.v1 (.sc (.sl 1 0 1 1))]) (Tryz.f58).ntmps,[some ⟨t,[.ws .u64 6 x0,.ws .u64 6 y0,.one (.bo z0)],0,hi⟩,some ⟨t2,[.ws .u64 6 n0],0,hj⟩]⟩:=by
 cases h0:lo1 x0 y0
 ·refine evS_q mixed tt_ok GSuE_ok 300 [⟨5,8,.lit (.bo true)⟩] ?_
  refine same (p:=(!(lo1 x0 y0)) = true/\(some ⟨t,[.ws .u64 6 x0,.ws .u64 6 y0,.one (.bo z0)],0,hi⟩:Option Blk) = some ⟨t,[.ws .u64 6 x0,.ws .u64 6 y0,.one (.bo z0)],0,hi⟩/\(some ⟨t2,[.ws .u64 6 n0],0,hj⟩:Option Blk) = some ⟨t2,[.ws .u64 6 n0],0,hj⟩/\endR2 (.tup [.agg [.ws .u64 6 (fun _=>0),.ws .u64 6 (fun _=>0),.one (.bo false)],.sc (.it 5)]) (avPE (suE1 x0 y0 z0 (nv n0)) (seE1 x0 y0 z0))) ?_ (by kernel_rfl)
  exact ⟨by rw [h0];rfl,rfl,rfl,by rw [show suE1 x0 y0 z0 (nv n0) = ⟨0,0,false⟩ by unfold suE1;rw [h0];rfl,show seE1 x0 y0 z0 = 5 by unfold seE1;rw [h0];rfl];exact endTC rfl rfl (cv_cons zv0 (cv_cons zv0 (cv_one cv_nil)))⟩
 ·skip
  obtain ⟨w,hw⟩:∃ q_:A2 Fp,q_ = (gaE1 (⟨(dF (eF (gN x0))),(dF (eF (gN y0))),z0⟩:A2 Fp) (nv n0)):=⟨_,rfl⟩
  refine evS_q mixed tt_ok GSuE_ok 300 [⟨5,8,.lit (.bo false)⟩] ?_
  refine same (p:=(!(lo1 x0 y0)) = false/\fdE = fdE/\nv (eF (gN x0)) < pN/\nv (eF (gN y0)) < pN/\nv (eF ((gaE1 (⟨(dF (eF (gN x0))),(dF (eF (gN y0))),z0⟩:A2 Fp) (nv n0))).x) < pN/\nv (eF ((gaE1 (⟨(dF (eF (gN x0))),(dF (eF (gN y0))),z0⟩:A2 Fp) (nv n0))).y) < pN/\(some ⟨t,[.ws .u64 6 x0,.ws .u64 6 y0,.one (.bo z0)],0,hi⟩:Option Blk) = some ⟨t,[.ws .u64 6 x0,.ws .u64 6 y0,.one (.bo z0)],0,hi⟩/\(some ⟨t2,[.ws .u64 6 n0],0,hj⟩:Option Blk) = some ⟨t2,[.ws .u64 6 n0],0,hj⟩/\endR2 (.tup [.agg [.ws .u64 6 (vF (dF (eF ((gaE1 (⟨(dF (eF (gN x0))),(dF (eF (gN y0))),z0⟩:A2 Fp) (nv n0))).x))),.ws .u64 6 (vF (dF (eF ((gaE1 (⟨(dF (eF (gN x0))),(dF (eF (gN y0))),z0⟩:A2 Fp) (nv n0))).y))),.one (.bo (gaE1 (⟨(dF (eF (gN x0))),(dF (eF (gN y0))),z0⟩:A2 Fp) (nv n0)).z)],.sc (.it (geE1 (⟨(dF (eF (gN x0))),(dF (eF (gN y0))),z0⟩:A2 Fp)))]) (avPE (suE1 x0 y0 z0 (nv n0)) (seE1 x0 y0 z0))) ?_ (by kernel_rfl)
  exact ⟨by rw [h0];rfl,rfl,lt_eF _,lt_eF _,lt_eF _,lt_eF _,rfl,rfl,endTC (by unfold seE1;rw [h0];rw [dF_eF,dF_eF];rfl) rfl (cvPE (by unfold suE1;rw [h0];rw [dF_eF,dF_eF];rfl))⟩
theorem suE2_walk {x0 y0 x1 y1 n0 n1:Nat->Nat} {z0 z1:Bool} {t t2:TypeId} {hi hj:Nat} :
  AWqS Tryz.prog (Dm [some ⟨t,[.ws .u64 6 x0,.ws .u64 6 y0,.one (.bo z0),.ws .u64 6 x1,.ws .u64 6 y1,.one (.bo z1)],0,hi⟩,some ⟨t2,[.ws .u64 6 n0,.ws .u64 6 n1],0,hj⟩]) (flatC (bodyOf Tryz.f58)) (FEndV tt Tryz.f58 (avPE (suE2 x0 y0 x1 y1 z0 z1 (nv n0) (nv n1)) (seE2 x0 y0 x1 y1 z0 z1)) [some ⟨t,[.ws .u64 6 x0,.ws .u64 6 y0,.one (.bo z0),.ws .u64 6 x1,.ws .u64 6 y1,.one (.bo z1)],0,hi⟩,some ⟨t2,[.ws .u64 6 n0,.ws .u64 6 n1],0,hj⟩]) ⟨frame0 ([] ++ [.v1 (.sc (.sl 0 0 2 2)),.v1 (.sc (.sl 1 0 2 2))]) (Tryz.f58).ntmps,[some ⟨t,[.ws .u64 6 x0,.ws .u64 6 y0,.one (.bo z0),.ws .u64 6 x1,.ws .u64 6 y1,.one (.bo z1)],0,hi⟩,some ⟨t2,[.ws .u64 6 n0,.ws .u64 6 n1],0,hj⟩]⟩:=by
 cases h0:lo1 x0 y0
 ·refine evS_q mixed tt_ok GSuE_ok 300 [⟨5,8,.lit (.bo true)⟩] ?_
  refine same (p:=(!(lo1 x0 y0)) = true/\(some ⟨t,[.ws .u64 6 x0,.ws .u64 6 y0,.one (.bo z0),.ws .u64 6 x1,.ws .u64 6 y1,.one (.bo z1)],0,hi⟩:Option Blk) = some ⟨t,[.ws .u64 6 x0,.ws .u64 6 y0,.one (.bo z0),.ws .u64 6 x1,.ws .u64 6 y1,.one (.bo z1)],0,hi⟩/\(some ⟨t2,[.ws .u64 6 n0,.ws .u64 6 n1],0,hj⟩:Option Blk) = some ⟨t2,[.ws .u64 6 n0,.ws .u64 6 n1],0,hj⟩/\endR2 (.tup [.agg [.ws .u64 6 (fun _=>0),.ws .u64 6 (fun _=>0),.one (.bo false)],.sc (.it 5)]) (avPE (suE2 x0 y0 x1 y1 z0 z1 (nv n0) (nv n1)) (seE2 x0 y0 x1 y1 z0 z1))) ?_ (by kernel_rfl)
  exact ⟨by rw [h0];rfl,rfl,rfl,by rw [show suE2 x0 y0 x1 y1 z0 z1 (nv n0) (nv n1) = ⟨0,0,false⟩ by unfold suE2;rw [h0];rfl,show seE2 x0 y0 x1 y1 z0 z1 = 5 by unfold seE2;rw [h0];rfl];exact endTC rfl rfl (cv_cons zv0 (cv_cons zv0 (cv_one cv_nil)))⟩
 ·skip
  cases h1:lo1 x1 y1
  ·refine evS_q mixed tt_ok GSuE_ok 300 [⟨5,8,.lit (.bo false)⟩,⟨5,8,.lit (.bo true)⟩] ?_
   refine same (p:=(!(lo1 x0 y0)) = false/\(!(lo1 x1 y1)) = true/\(some ⟨t,[.ws .u64 6 x0,.ws .u64 6 y0,.one (.bo z0),.ws .u64 6 x1,.ws .u64 6 y1,.one (.bo z1)],0,hi⟩:Option Blk) = some ⟨t,[.ws .u64 6 x0,.ws .u64 6 y0,.one (.bo z0),.ws .u64 6 x1,.ws .u64 6 y1,.one (.bo z1)],0,hi⟩/\(some ⟨t2,[.ws .u64 6 n0,.ws .u64 6 n1],0,hj⟩:Option Blk) = some ⟨t2,[.ws .u64 6 n0,.ws .u64 6 n1],0,hj⟩/\endR2 (.tup [.agg [.ws .u64 6 (fun _=>0),.ws .u64 6 (fun _=>0),.one (.bo false)],.sc (.it 5)]) (avPE (suE2 x0 y0 x1 y1 z0 z1 (nv n0) (nv n1)) (seE2 x0 y0 x1 y1 z0 z1))) ?_ (by kernel_rfl)
   exact ⟨by rw [h0];rfl,by rw [h1];rfl,rfl,rfl,by rw [show suE2 x0 y0 x1 y1 z0 z1 (nv n0) (nv n1) = ⟨0,0,false⟩ by unfold suE2;rw [h0,h1];rfl,show seE2 x0 y0 x1 y1 z0 z1 = 5 by unfold seE2;rw [h0,h1];rfl];exact endTC rfl rfl (cv_cons zv0 (cv_cons zv0 (cv_one cv_nil)))⟩
  ·skip
   obtain ⟨w,hw⟩:∃ q_:A2 Fp,q_ = (gaE2 (⟨(dF (eF (gN x0))),(dF (eF (gN y0))),z0⟩:A2 Fp) (⟨(dF (eF (gN x1))),(dF (eF (gN y1))),z1⟩:A2 Fp) (nv n0) (nv n1)):=⟨_,rfl⟩
   refine evS_q mixed tt_ok GSuE_ok 300 [⟨5,8,.lit (.bo false)⟩,⟨5,8,.lit (.bo false)⟩] ?_
   refine same (p:=(!(lo1 x0 y0)) = false/\(!(lo1 x1 y1)) = false/\fdE = fdE/\nv (eF (gN x0)) < pN/\nv (eF (gN y0)) < pN/\nv (eF (gN x1)) < pN/\nv (eF (gN y1)) < pN/\nv (eF ((gaE2 (⟨(dF (eF (gN x0))),(dF (eF (gN y0))),z0⟩:A2 Fp) (⟨(dF (eF (gN x1))),(dF (eF (gN y1))),z1⟩:A2 Fp) (nv n0) (nv n1))).x) < pN/\nv (eF ((gaE2 (⟨(dF (eF (gN x0))),(dF (eF (gN y0))),z0⟩:A2 Fp) (⟨(dF (eF (gN x1))),(dF (eF (gN y1))),z1⟩:A2 Fp) (nv n0) (nv n1))).y) < pN/\(some ⟨t,[.ws .u64 6 x0,.ws .u64 6 y0,.one (.bo z0),.ws .u64 6 x1,.ws .u64 6 y1,.one (.bo z1)],0,hi⟩:Option Blk) = some ⟨t,[.ws .u64 6 x0,.ws .u64 6 y0,.one (.bo z0),.ws .u64 6 x1,.ws .u64 6 y1,.one (.bo z1)],0,hi⟩/\(some ⟨t2,[.ws .u64 6 n0,.ws .u64 6 n1],0,hj⟩:Option Blk) = some ⟨t2,[.ws .u64 6 n0,.ws .u64 6 n1],0,hj⟩/\endR2 (.tup [.agg [.ws .u64 6 (vF (dF (eF ((gaE2 (⟨(dF (eF (gN x0))),(dF (eF (gN y0))),z0⟩:A2 Fp) (⟨(dF (eF (gN x1))),(dF (eF (gN y1))),z1⟩:A2 Fp) (nv n0) (nv n1))).x))),.ws .u64 6 (vF (dF (eF ((gaE2 (⟨(dF (eF (gN x0))),(dF (eF (gN y0))),z0⟩:A2 Fp) (⟨(dF (eF (gN x1))),(dF (eF (gN y1))),z1⟩:A2 Fp) (nv n0) (nv n1))).y))),.one (.bo (gaE2 (⟨(dF (eF (gN x0))),(dF (eF (gN y0))),z0⟩:A2 Fp) (⟨(dF (eF (gN x1))),(dF (eF (gN y1))),z1⟩:A2 Fp) (nv n0) (nv n1)).z)],.sc (.it (geE2 (⟨(dF (eF (gN x0))),(dF (eF (gN y0))),z0⟩:A2 Fp) (⟨(dF (eF (gN x1))),(dF (eF (gN y1))),z1⟩:A2 Fp)))]) (avPE (suE2 x0 y0 x1 y1 z0 z1 (nv n0) (nv n1)) (seE2 x0 y0 x1 y1 z0 z1))) ?_ (by kernel_rfl)
   exact ⟨by rw [h0];rfl,by rw [h1];rfl,rfl,lt_eF _,lt_eF _,lt_eF _,lt_eF _,lt_eF _,lt_eF _,rfl,rfl,endTC (by unfold seE2;rw [h0,h1];rw [dF_eF,dF_eF,dF_eF,dF_eF];rfl) rfl (cvPE (by unfold suE2;rw [h0,h1];rw [dF_eF,dF_eF,dF_eF,dF_eF];rfl))⟩
def suCE:List AV->Heap->Option (List Prop × AV)
 | [.v1 (.sc (.sl b 0 1 1)),.v1 (.sc (.sl c 0 1 1))],h=>match Nat.beq b c,hget h b,hget h c with
  | false,some ⟨_,[.ws .u64 6 x0,.ws .u64 6 y0,.one (.bo z0)],0,_⟩,some ⟨_,[.ws .u64 6 n0],0,_⟩=>some ([],avPE (suE1 x0 y0 z0 (nv n0)) (seE1 x0 y0 z0))
  | _,_,_=>none
 | [.v1 (.sc (.sl b 0 2 2)),.v1 (.sc (.sl c 0 2 2))],h=>match Nat.beq b c,hget h b,hget h c with
  | false,some ⟨_,[.ws .u64 6 x0,.ws .u64 6 y0,.one (.bo z0),.ws .u64 6 x1,.ws .u64 6 y1,.one (.bo z1)],0,_⟩,some ⟨_,[.ws .u64 6 n0,.ws .u64 6 n1],0,_⟩=>some ([],avPE (suE2 x0 y0 x1 y1 z0 z1 (nv n0) (nv n1)) (seE2 x0 y0 x1 y1 z0 z1))
  | _,_,_=>none
 | _,_=>none
theorem okSuE:(CallC.rd suCE).Ok Tryz.prog 58:=by
 refine ⟨fun args h pre v e hp=>?_,fun args h slot blk hs ha=>?_⟩
 ·unfold suCE at e
  split at e
  ·split at e
   ·rename_i h0 h1 h2
    cases e
    exact rd_slsl tt_ok Tryz.func58 (by kernel_rfl) (by kernel_rfl) (pre:=[]) rfl rfl h0 h1 h2 rfl rfl rfl rfl suE1_walk
   ·cases e
  ·split at e
   ·rename_i h0 h1 h2
    cases e
    exact rd_slsl tt_ok Tryz.func58 (by kernel_rfl) (by kernel_rfl) (pre:=[]) rfl rfl h0 h1 h2 rfl rfl rfl rfl suE2_walk
   ·cases e
  ·cases e
 ·unfold suCE
  split
  ·rename_i b c
   rw [keepS hs (ha (.v1 (.sc (.sl b 0 1 1))) (by simp)),keepS hs (ha (.v1 (.sc (.sl c 0 1 1))) (by simp))]
  ·rename_i b c
   rw [keepS hs (ha (.v1 (.sc (.sl b 0 2 2))) (by simp)),keepS hs (ha (.v1 (.sc (.sl c 0 2 2))) (by simp))]
  ·rfl
def avPQ (a:A2 F2p) (e:Int):AV:=.tup [.agg [.ws .u64 6 (vF (a).x.x),.ws .u64 6 (vF (a).x.y),.ws .u64 6 (vF (a).y.x),.ws .u64 6 (vF (a).y.y),.one (.bo a.z)],.sc (.it e)]
theorem cvPQ {u t:A2 F2p} (h:u = t):∀ ρ:Ren,cvals ρ [.ws .u64 6 (vF (dF (eF (u).x.x))),.ws .u64 6 (vF (dF (eF (u).x.y))),.ws .u64 6 (vF (dF (eF (u).y.x))),.ws .u64 6 (vF (dF (eF (u).y.y))),.one (.bo u.z)] = cvals ρ [.ws .u64 6 (vF (t).x.x),.ws .u64 6 (vF (t).x.y),.ws .u64 6 (vF (t).y.x),.ws .u64 6 (vF (t).y.y),.one (.bo t.z)]:=by
 subst h
 rw [dF_eF,dF_eF,dF_eF,dF_eF]
 exact fun _=>rfl
def GSuQ:Ctx:=ctxL [(54,.pure cLo2),(57,.pure cI2),(55,.pure (cFld fdQ)),(120,.rd gaCQ),(121,.pure cOut2)]
theorem GSuQ_ok:CtxOk Tryz.prog GSuQ:=ctxL_cons okLo2 <| ctxL_cons okI2 <| ctxL_cons okSecond <| ctxL_cons okGaQ <| ctxL_cons okOut2 ctxL_nil
def suQ1 (x0 u0 y0 v0:Nat->Nat) (z0:Bool) (k0:Nat):A2 F2p:=bif lo2 x0 u0 y0 v0 then gaQ1 (⟨(⟨(gN x0),(gN u0)⟩:F2p),(⟨(gN y0),(gN v0)⟩:F2p),z0⟩:A2 F2p) k0 else ⟨0,0,false⟩
def seQ1 (x0 u0 y0 v0:Nat->Nat) (z0:Bool):Int:=bif lo2 x0 u0 y0 v0 then geQ1 (⟨(⟨(gN x0),(gN u0)⟩:F2p),(⟨(gN y0),(gN v0)⟩:F2p),z0⟩:A2 F2p) else 5
def suQ2 (x0 u0 y0 v0 x1 u1 y1 v1:Nat->Nat) (z0 z1:Bool) (k0 k1:Nat):A2 F2p:=bif lo2 x0 u0 y0 v0 && lo2 x1 u1 y1 v1 then gaQ2 (⟨(⟨(gN x0),(gN u0)⟩:F2p),(⟨(gN y0),(gN v0)⟩:F2p),z0⟩:A2 F2p) (⟨(⟨(gN x1),(gN u1)⟩:F2p),(⟨(gN y1),(gN v1)⟩:F2p),z1⟩:A2 F2p) k0 k1 else ⟨0,0,false⟩
def seQ2 (x0 u0 y0 v0 x1 u1 y1 v1:Nat->Nat) (z0 z1:Bool):Int:=bif lo2 x0 u0 y0 v0 && lo2 x1 u1 y1 v1 then geQ2 (⟨(⟨(gN x0),(gN u0)⟩:F2p),(⟨(gN y0),(gN v0)⟩:F2p),z0⟩:A2 F2p) (⟨(⟨(gN x1),(gN u1)⟩:F2p),(⟨(gN y1),(gN v1)⟩:F2p),z1⟩:A2 F2p) else 5
theorem suQ1_walk {x0 u0 y0 v0 n0:Nat->Nat} {z0:Bool} {t t2:TypeId} {hi hj:Nat} :
  AWqS Tryz.prog (Dm [some ⟨t,[.ws .u64 6 x0,.ws .u64 6 u0,.ws .u64 6 y0,.ws .u64 6 v0,.one (.bo z0)],0,hi⟩,some ⟨t2,[.ws .u64 6 n0],0,hj⟩]) (flatC (bodyOf Tryz.f59)) (FEndV tt Tryz.f59 (avPQ (suQ1 x0 u0 y0 v0 z0 (nv n0)) (seQ1 x0 u0 y0 v0 z0)) [some ⟨t,[.ws .u64 6 x0,.ws .u64 6 u0,.ws .u64 6 y0,.ws .u64 6 v0,.one (.bo z0)],0,hi⟩,some ⟨t2,[.ws .u64 6 n0],0,hj⟩]) ⟨frame0 ([] ++ [.v1 (.sc (.sl 0 0 1 1)),.v1 (.sc (.sl 1 0 1 1))]) (Tryz.f59).ntmps,[some ⟨t,[.ws .u64 6 x0,.ws .u64 6 u0,.ws .u64 6 y0,.ws .u64 6 v0,.one (.bo z0)],0,hi⟩,some ⟨t2,[.ws .u64 6 n0],0,hj⟩]⟩:=by
 cases h0:lo2 x0 u0 y0 v0
 ·refine evS_q mixed tt_ok GSuQ_ok 300 [⟨5,8,.lit (.bo true)⟩] ?_
  refine same (p:=(!(lo2 x0 u0 y0 v0)) = true/\(some ⟨t,[.ws .u64 6 x0,.ws .u64 6 u0,.ws .u64 6 y0,.ws .u64 6 v0,.one (.bo z0)],0,hi⟩:Option Blk) = some ⟨t,[.ws .u64 6 x0,.ws .u64 6 u0,.ws .u64 6 y0,.ws .u64 6 v0,.one (.bo z0)],0,hi⟩/\(some ⟨t2,[.ws .u64 6 n0],0,hj⟩:Option Blk) = some ⟨t2,[.ws .u64 6 n0],0,hj⟩/\endR2 (.tup [.agg [.ws .u64 6 (fun _=>0),.ws .u64 6 (fun _=>0),.ws .u64 6 (fun _=>0),.ws .u64 6 (fun _=>0),.one (.bo false)],.sc (.it 5)]) (avPQ (suQ1 x0 u0 y0 v0 z0 (nv n0)) (seQ1 x0 u0 y0 v0 z0))) ?_ (by kernel_rfl)
  exact ⟨by rw [h0];rfl,rfl,rfl,by rw [show suQ1 x0 u0 y0 v0 z0 (nv n0) = ⟨0,0,false⟩ by unfold suQ1;rw [h0];rfl,show seQ1 x0 u0 y0 v0 z0 = 5 by unfold seQ1;rw [h0];rfl];exact endTC rfl rfl (cv_cons zv0 (cv_cons zv0 (cv_cons zv0 (cv_cons zv0 (cv_one cv_nil)))))⟩
 ·skip
  obtain ⟨w,hw⟩:∃ q_:A2 F2p,q_ = (gaQ1 (⟨(⟨(dF (eF (gN x0))),(dF (eF (gN u0)))⟩:F2p),(⟨(dF (eF (gN y0))),(dF (eF (gN v0)))⟩:F2p),z0⟩:A2 F2p) (nv n0)):=⟨_,rfl⟩
  refine evS_q mixed tt_ok GSuQ_ok 300 [⟨5,8,.lit (.bo false)⟩] ?_
  refine same (p:=(!(lo2 x0 u0 y0 v0)) = false/\fdQ = fdQ/\nv (eF (gN x0)) < pN/\nv (eF (gN u0)) < pN/\nv (eF (gN y0)) < pN/\nv (eF (gN v0)) < pN/\nv (eF ((gaQ1 (⟨(⟨(dF (eF (gN x0))),(dF (eF (gN u0)))⟩:F2p),(⟨(dF (eF (gN y0))),(dF (eF (gN v0)))⟩:F2p),z0⟩:A2 F2p) (nv n0))).x.x) < pN/\nv (eF ((gaQ1 (⟨(⟨(dF (eF (gN x0))),(dF (eF (gN u0)))⟩:F2p),(⟨(dF (eF (gN y0))),(dF (eF (gN v0)))⟩:F2p),z0⟩:A2 F2p) (nv n0))).x.y) < pN/\nv (eF ((gaQ1 (⟨(⟨(dF (eF (gN x0))),(dF (eF (gN u0)))⟩:F2p),(⟨(dF (eF (gN y0))),(dF (eF (gN v0)))⟩:F2p),z0⟩:A2 F2p) (nv n0))).y.x) < pN/\nv (eF ((gaQ1 (⟨(⟨(dF (eF (gN x0))),(dF (eF (gN u0)))⟩:F2p),(⟨(dF (eF (gN y0))),(dF (eF (gN v0)))⟩:F2p),z0⟩:A2 F2p) (nv n0))).y.y) < pN/\(some ⟨t,[.ws .u64 6 x0,.ws .u64 6 u0,.ws .u64 6 y0,.ws .u64 6 v0,.one (.bo z0)],0,hi⟩:Option Blk) = some ⟨t,[.ws .u64 6 x0,.ws .u64 6 u0,.ws .u64 6 y0,.ws .u64 6 v0,.one (.bo z0)],0,hi⟩/\(some ⟨t2,[.ws .u64 6 n0],0,hj⟩:Option Blk) = some ⟨t2,[.ws .u64 6 n0],0,hj⟩/\endR2 (.tup [.agg [.ws .u64 6 (vF (dF (eF ((gaQ1 (⟨(⟨(dF (eF (gN x0))),(dF (eF (gN u0)))⟩:F2p),(⟨(dF (eF (gN y0))),(dF (eF (gN v0)))⟩:F2p),z0⟩:A2 F2p) (nv n0))).x.x))),.ws .u64 6 (vF (dF (eF ((gaQ1 (⟨(⟨(dF (eF (gN x0))),(dF (eF (gN u0)))⟩:F2p),(⟨(dF (eF (gN y0))),(dF (eF (gN v0)))⟩:F2p),z0⟩:A2 F2p) (nv n0))).x.y))),.ws .u64 6 (vF (dF (eF ((gaQ1 (⟨(⟨(dF (eF (gN x0))),(dF (eF (gN u0)))⟩:F2p),(⟨(dF (eF (gN y0))),(dF (eF (gN v0)))⟩:F2p),z0⟩:A2 F2p) (nv n0))).y.x))),.ws .u64 6 (vF (dF (eF ((gaQ1 (⟨(⟨(dF (eF (gN x0))),(dF (eF (gN u0)))⟩:F2p),(⟨(dF (eF (gN y0))),(dF (eF (gN v0)))⟩:F2p),z0⟩:A2 F2p) (nv n0))).y.y))),.one (.bo (gaQ1 (⟨(⟨(dF (eF (gN x0))),(dF (eF (gN u0)))⟩:F2p),(⟨(dF (eF (gN y0))),(dF (eF (gN v0)))⟩:F2p),z0⟩:A2 F2p) (nv n0)).z)],.sc (.it (geQ1 (⟨(⟨(dF (eF (gN x0))),(dF (eF (gN u0)))⟩:F2p),(⟨(dF (eF (gN y0))),(dF (eF (gN v0)))⟩:F2p),z0⟩:A2 F2p)))]) (avPQ (suQ1 x0 u0 y0 v0 z0 (nv n0)) (seQ1 x0 u0 y0 v0 z0))) ?_ (by kernel_rfl)
  exact ⟨by rw [h0];rfl,rfl,lt_eF _,lt_eF _,lt_eF _,lt_eF _,lt_eF _,lt_eF _,lt_eF _,lt_eF _,rfl,rfl,endTC (by unfold seQ1;rw [h0];rw [dF_eF,dF_eF,dF_eF,dF_eF];rfl) rfl (cvPQ (by unfold suQ1;rw [h0];rw [dF_eF,dF_eF,dF_eF,dF_eF];rfl))⟩
theorem suQ2_walk {x0 u0 y0 v0 x1 u1 y1 v1 n0 n1:Nat->Nat} {z0 z1:Bool} {t t2:TypeId} {hi hj:Nat} :
  AWqS Tryz.prog (Dm [some ⟨t,[.ws .u64 6 x0,.ws .u64 6 u0,.ws .u64 6 y0,.ws .u64 6 v0,.one (.bo z0),.ws .u64 6 x1,.ws .u64 6 u1,.ws .u64 6 y1,.ws .u64 6 v1,.one (.bo z1)],0,hi⟩,some ⟨t2,[.ws .u64 6 n0,.ws .u64 6 n1],0,hj⟩]) (flatC (bodyOf Tryz.f59)) (FEndV tt Tryz.f59 (avPQ (suQ2 x0 u0 y0 v0 x1 u1 y1 v1 z0 z1 (nv n0) (nv n1)) (seQ2 x0 u0 y0 v0 x1 u1 y1 v1 z0 z1)) [some ⟨t,[.ws .u64 6 x0,.ws .u64 6 u0,.ws .u64 6 y0,.ws .u64 6 v0,.one (.bo z0),.ws .u64 6 x1,.ws .u64 6 u1,.ws .u64 6 y1,.ws .u64 6 v1,.one (.bo z1)],0,hi⟩,some ⟨t2,[.ws .u64 6 n0,.ws .u64 6 n1],0,hj⟩]) ⟨frame0 ([] ++ [.v1 (.sc (.sl 0 0 2 2)),.v1 (.sc (.sl 1 0 2 2))]) (Tryz.f59).ntmps,[some ⟨t,[.ws .u64 6 x0,.ws .u64 6 u0,.ws .u64 6 y0,.ws .u64 6 v0,.one (.bo z0),.ws .u64 6 x1,.ws .u64 6 u1,.ws .u64 6 y1,.ws .u64 6 v1,.one (.bo z1)],0,hi⟩,some ⟨t2,[.ws .u64 6 n0,.ws .u64 6 n1],0,hj⟩]⟩:=by
 cases h0:lo2 x0 u0 y0 v0
 ·refine evS_q mixed tt_ok GSuQ_ok 300 [⟨5,8,.lit (.bo true)⟩] ?_
  refine same (p:=(!(lo2 x0 u0 y0 v0)) = true/\(some ⟨t,[.ws .u64 6 x0,.ws .u64 6 u0,.ws .u64 6 y0,.ws .u64 6 v0,.one (.bo z0),.ws .u64 6 x1,.ws .u64 6 u1,.ws .u64 6 y1,.ws .u64 6 v1,.one (.bo z1)],0,hi⟩:Option Blk) = some ⟨t,[.ws .u64 6 x0,.ws .u64 6 u0,.ws .u64 6 y0,.ws .u64 6 v0,.one (.bo z0),.ws .u64 6 x1,.ws .u64 6 u1,.ws .u64 6 y1,.ws .u64 6 v1,.one (.bo z1)],0,hi⟩/\(some ⟨t2,[.ws .u64 6 n0,.ws .u64 6 n1],0,hj⟩:Option Blk) = some ⟨t2,[.ws .u64 6 n0,.ws .u64 6 n1],0,hj⟩/\endR2 (.tup [.agg [.ws .u64 6 (fun _=>0),.ws .u64 6 (fun _=>0),.ws .u64 6 (fun _=>0),.ws .u64 6 (fun _=>0),.one (.bo false)],.sc (.it 5)]) (avPQ (suQ2 x0 u0 y0 v0 x1 u1 y1 v1 z0 z1 (nv n0) (nv n1)) (seQ2 x0 u0 y0 v0 x1 u1 y1 v1 z0 z1))) ?_ (by kernel_rfl)
  exact ⟨by rw [h0];rfl,rfl,rfl,by rw [show suQ2 x0 u0 y0 v0 x1 u1 y1 v1 z0 z1 (nv n0) (nv n1) = ⟨0,0,false⟩ by unfold suQ2;rw [h0];rfl,show seQ2 x0 u0 y0 v0 x1 u1 y1 v1 z0 z1 = 5 by unfold seQ2;rw [h0];rfl];exact endTC rfl rfl (cv_cons zv0 (cv_cons zv0 (cv_cons zv0 (cv_cons zv0 (cv_one cv_nil)))))⟩
 ·skip
  cases h1:lo2 x1 u1 y1 v1
  ·refine evS_q mixed tt_ok GSuQ_ok 300 [⟨5,8,.lit (.bo false)⟩,⟨5,8,.lit (.bo true)⟩] ?_
   refine same (p:=(!(lo2 x0 u0 y0 v0)) = false/\(!(lo2 x1 u1 y1 v1)) = true/\(some ⟨t,[.ws .u64 6 x0,.ws .u64 6 u0,.ws .u64 6 y0,.ws .u64 6 v0,.one (.bo z0),.ws .u64 6 x1,.ws .u64 6 u1,.ws .u64 6 y1,.ws .u64 6 v1,.one (.bo z1)],0,hi⟩:Option Blk) = some ⟨t,[.ws .u64 6 x0,.ws .u64 6 u0,.ws .u64 6 y0,.ws .u64 6 v0,.one (.bo z0),.ws .u64 6 x1,.ws .u64 6 u1,.ws .u64 6 y1,.ws .u64 6 v1,.one (.bo z1)],0,hi⟩/\(some ⟨t2,[.ws .u64 6 n0,.ws .u64 6 n1],0,hj⟩:Option Blk) = some ⟨t2,[.ws .u64 6 n0,.ws .u64 6 n1],0,hj⟩/\endR2 (.tup [.agg [.ws .u64 6 (fun _=>0),.ws .u64 6 (fun _=>0),.ws .u64 6 (fun _=>0),.ws .u64 6 (fun _=>0),.one (.bo false)],.sc (.it 5)]) (avPQ (suQ2 x0 u0 y0 v0 x1 u1 y1 v1 z0 z1 (nv n0) (nv n1)) (seQ2 x0 u0 y0 v0 x1 u1 y1 v1 z0 z1))) ?_ (by kernel_rfl)
   exact ⟨by rw [h0];rfl,by rw [h1];rfl,rfl,rfl,by rw [show suQ2 x0 u0 y0 v0 x1 u1 y1 v1 z0 z1 (nv n0) (nv n1) = ⟨0,0,false⟩ by unfold suQ2;rw [h0,h1];rfl,show seQ2 x0 u0 y0 v0 x1 u1 y1 v1 z0 z1 = 5 by unfold seQ2;rw [h0,h1];rfl];exact endTC rfl rfl (cv_cons zv0 (cv_cons zv0 (cv_cons zv0 (cv_cons zv0 (cv_one cv_nil)))))⟩
  ·skip
   obtain ⟨w,hw⟩:∃ q_:A2 F2p,q_ = (gaQ2 (⟨(⟨(dF (eF (gN x0))),(dF (eF (gN u0)))⟩:F2p),(⟨(dF (eF (gN y0))),(dF (eF (gN v0)))⟩:F2p),z0⟩:A2 F2p) (⟨(⟨(dF (eF (gN x1))),(dF (eF (gN u1)))⟩:F2p),(⟨(dF (eF (gN y1))),(dF (eF (gN v1)))⟩:F2p),z1⟩:A2 F2p) (nv n0) (nv n1)):=⟨_,rfl⟩
   refine evS_q mixed tt_ok GSuQ_ok 300 [⟨5,8,.lit (.bo false)⟩,⟨5,8,.lit (.bo false)⟩] ?_
   refine same (p:=(!(lo2 x0 u0 y0 v0)) = false/\(!(lo2 x1 u1 y1 v1)) = false/\fdQ = fdQ/\nv (eF (gN x0)) < pN/\nv (eF (gN u0)) < pN/\nv (eF (gN y0)) < pN/\nv (eF (gN v0)) < pN/\nv (eF (gN x1)) < pN/\nv (eF (gN u1)) < pN/\nv (eF (gN y1)) < pN/\nv (eF (gN v1)) < pN/\nv (eF ((gaQ2 (⟨(⟨(dF (eF (gN x0))),(dF (eF (gN u0)))⟩:F2p),(⟨(dF (eF (gN y0))),(dF (eF (gN v0)))⟩:F2p),z0⟩:A2 F2p) (⟨(⟨(dF (eF (gN x1))),(dF (eF (gN u1)))⟩:F2p),(⟨(dF (eF (gN y1))),(dF (eF (gN v1)))⟩:F2p),z1⟩:A2 F2p) (nv n0) (nv n1))).x.x) < pN/\nv (eF ((gaQ2 (⟨(⟨(dF (eF (gN x0))),(dF (eF (gN u0)))⟩:F2p),(⟨(dF (eF (gN y0))),(dF (eF (gN v0)))⟩:F2p),z0⟩:A2 F2p) (⟨(⟨(dF (eF (gN x1))),(dF (eF (gN u1)))⟩:F2p),(⟨(dF (eF (gN y1))),(dF (eF (gN v1)))⟩:F2p),z1⟩:A2 F2p) (nv n0) (nv n1))).x.y) < pN/\nv (eF ((gaQ2 (⟨(⟨(dF (eF (gN x0))),(dF (eF (gN u0)))⟩:F2p),(⟨(dF (eF (gN y0))),(dF (eF (gN v0)))⟩:F2p),z0⟩:A2 F2p) (⟨(⟨(dF (eF (gN x1))),(dF (eF (gN u1)))⟩:F2p),(⟨(dF (eF (gN y1))),(dF (eF (gN v1)))⟩:F2p),z1⟩:A2 F2p) (nv n0) (nv n1))).y.x) < pN/\nv (eF ((gaQ2 (⟨(⟨(dF (eF (gN x0))),(dF (eF (gN u0)))⟩:F2p),(⟨(dF (eF (gN y0))),(dF (eF (gN v0)))⟩:F2p),z0⟩:A2 F2p) (⟨(⟨(dF (eF (gN x1))),(dF (eF (gN u1)))⟩:F2p),(⟨(dF (eF (gN y1))),(dF (eF (gN v1)))⟩:F2p),z1⟩:A2 F2p) (nv n0) (nv n1))).y.y) < pN/\(some ⟨t,[.ws .u64 6 x0,.ws .u64 6 u0,.ws .u64 6 y0,.ws .u64 6 v0,.one (.bo z0),.ws .u64 6 x1,.ws .u64 6 u1,.ws .u64 6 y1,.ws .u64 6 v1,.one (.bo z1)],0,hi⟩:Option Blk) = some ⟨t,[.ws .u64 6 x0,.ws .u64 6 u0,.ws .u64 6 y0,.ws .u64 6 v0,.one (.bo z0),.ws .u64 6 x1,.ws .u64 6 u1,.ws .u64 6 y1,.ws .u64 6 v1,.one (.bo z1)],0,hi⟩/\(some ⟨t2,[.ws .u64 6 n0,.ws .u64 6 n1],0,hj⟩:Option Blk) = some ⟨t2,[.ws .u64 6 n0,.ws .u64 6 n1],0,hj⟩/\endR2 (.tup [.agg [.ws .u64 6 (vF (dF (eF ((gaQ2 (⟨(⟨(dF (eF (gN x0))),(dF (eF (gN u0)))⟩:F2p),(⟨(dF (eF (gN y0))),(dF (eF (gN v0)))⟩:F2p),z0⟩:A2 F2p) (⟨(⟨(dF (eF (gN x1))),(dF (eF (gN u1)))⟩:F2p),(⟨(dF (eF (gN y1))),(dF (eF (gN v1)))⟩:F2p),z1⟩:A2 F2p) (nv n0) (nv n1))).x.x))),.ws .u64 6 (vF (dF (eF ((gaQ2 (⟨(⟨(dF (eF (gN x0))),(dF (eF (gN u0)))⟩:F2p),(⟨(dF (eF (gN y0))),(dF (eF (gN v0)))⟩:F2p),z0⟩:A2 F2p) (⟨(⟨(dF (eF (gN x1))),(dF (eF (gN u1)))⟩:F2p),(⟨(dF (eF (gN y1))),(dF (eF (gN v1)))⟩:F2p),z1⟩:A2 F2p) (nv n0) (nv n1))).x.y))),.ws .u64 6 (vF (dF (eF ((gaQ2 (⟨(⟨(dF (eF (gN x0))),(dF (eF (gN u0)))⟩:F2p),(⟨(dF (eF (gN y0))),(dF (eF (gN v0)))⟩:F2p),z0⟩:A2 F2p) (⟨(⟨(dF (eF (gN x1))),(dF (eF (gN u1)))⟩:F2p),(⟨(dF (eF (gN y1))),(dF (eF (gN v1)))⟩:F2p),z1⟩:A2 F2p) (nv n0) (nv n1))).y.x))),.ws .u64 6 (vF (dF (eF ((gaQ2 (⟨(⟨(dF (eF (gN x0))),(dF (eF (gN u0)))⟩:F2p),(⟨(dF (eF (gN y0))),(dF (eF (gN v0)))⟩:F2p),z0⟩:A2 F2p) (⟨(⟨(dF (eF (gN x1))),(dF (eF (gN u1)))⟩:F2p),(⟨(dF (eF (gN y1))),(dF (eF (gN v1)))⟩:F2p),z1⟩:A2 F2p) (nv n0) (nv n1))).y.y))),.one (.bo (gaQ2 (⟨(⟨(dF (eF (gN x0))),(dF (eF (gN u0)))⟩:F2p),(⟨(dF (eF (gN y0))),(dF (eF (gN v0)))⟩:F2p),z0⟩:A2 F2p) (⟨(⟨(dF (eF (gN x1))),(dF (eF (gN u1)))⟩:F2p),(⟨(dF (eF (gN y1))),(dF (eF (gN v1)))⟩:F2p),z1⟩:A2 F2p) (nv n0) (nv n1)).z)],.sc (.it (geQ2 (⟨(⟨(dF (eF (gN x0))),(dF (eF (gN u0)))⟩:F2p),(⟨(dF (eF (gN y0))),(dF (eF (gN v0)))⟩:F2p),z0⟩:A2 F2p) (⟨(⟨(dF (eF (gN x1))),(dF (eF (gN u1)))⟩:F2p),(⟨(dF (eF (gN y1))),(dF (eF (gN v1)))⟩:F2p),z1⟩:A2 F2p)))]) (avPQ (suQ2 x0 u0 y0 v0 x1 u1 y1 v1 z0 z1 (nv n0) (nv n1)) (seQ2 x0 u0 y0 v0 x1 u1 y1 v1 z0 z1))) ?_ (by kernel_rfl)
   exact ⟨by rw [h0];rfl,by rw [h1];rfl,rfl,lt_eF _,lt_eF _,lt_eF _,lt_eF _,lt_eF _,lt_eF _,lt_eF _,lt_eF _,lt_eF _,lt_eF _,lt_eF _,lt_eF _,rfl,rfl,endTC (by unfold seQ2;rw [h0,h1];rw [dF_eF,dF_eF,dF_eF,dF_eF,dF_eF,dF_eF,dF_eF,dF_eF];rfl) rfl (cvPQ (by unfold suQ2;rw [h0,h1];rw [dF_eF,dF_eF,dF_eF,dF_eF,dF_eF,dF_eF,dF_eF,dF_eF];rfl))⟩
def suCQ:List AV->Heap->Option (List Prop × AV)
 | [.v1 (.sc (.sl b 0 1 1)),.v1 (.sc (.sl c 0 1 1))],h=>match Nat.beq b c,hget h b,hget h c with
  | false,some ⟨_,[.ws .u64 6 x0,.ws .u64 6 u0,.ws .u64 6 y0,.ws .u64 6 v0,.one (.bo z0)],0,_⟩,some ⟨_,[.ws .u64 6 n0],0,_⟩=>some ([],avPQ (suQ1 x0 u0 y0 v0 z0 (nv n0)) (seQ1 x0 u0 y0 v0 z0))
  | _,_,_=>none
 | [.v1 (.sc (.sl b 0 2 2)),.v1 (.sc (.sl c 0 2 2))],h=>match Nat.beq b c,hget h b,hget h c with
  | false,some ⟨_,[.ws .u64 6 x0,.ws .u64 6 u0,.ws .u64 6 y0,.ws .u64 6 v0,.one (.bo z0),.ws .u64 6 x1,.ws .u64 6 u1,.ws .u64 6 y1,.ws .u64 6 v1,.one (.bo z1)],0,_⟩,some ⟨_,[.ws .u64 6 n0,.ws .u64 6 n1],0,_⟩=>some ([],avPQ (suQ2 x0 u0 y0 v0 x1 u1 y1 v1 z0 z1 (nv n0) (nv n1)) (seQ2 x0 u0 y0 v0 x1 u1 y1 v1 z0 z1))
  | _,_,_=>none
 | _,_=>none
theorem okSuQ:(CallC.rd suCQ).Ok Tryz.prog 59:=by
 refine ⟨fun args h pre v e hp=>?_,fun args h slot blk hs ha=>?_⟩
 ·unfold suCQ at e
  split at e
  ·split at e
   ·rename_i h0 h1 h2
    cases e
    exact rd_slsl tt_ok Tryz.func59 (by kernel_rfl) (by kernel_rfl) (pre:=[]) rfl rfl h0 h1 h2 rfl rfl rfl rfl suQ1_walk
   ·cases e
  ·split at e
   ·rename_i h0 h1 h2
    cases e
    exact rd_slsl tt_ok Tryz.func59 (by kernel_rfl) (by kernel_rfl) (pre:=[]) rfl rfl h0 h1 h2 rfl rfl rfl rfl suQ2_walk
   ·cases e
  ·cases e
 ·unfold suCQ
  split
  ·rename_i b c
   rw [keepS hs (ha (.v1 (.sc (.sl b 0 1 1))) (by simp)),keepS hs (ha (.v1 (.sc (.sl c 0 1 1))) (by simp))]
  ·rename_i b c
   rw [keepS hs (ha (.v1 (.sc (.sl b 0 2 2))) (by simp)),keepS hs (ha (.v1 (.sc (.sl c 0 2 2))) (by simp))]
  ·rfl
end Go.Proofs.YtnjocbcjejpklaaGreat
namespace Go.Proofs.YtnjocbcjejpklaaGreat
open Go.Rq Go
set_option maxRecDepth 100000
set_option linter.unusedVariables false
set_option linter.unusedSimpArgs false
set_option maxHeartbeats 4000000
set_option maxRecDepth 100000
def GMuE:Ctx:=ctxL [(22,.pure cOf),(58,.rd suCE)]
theorem GMuE_ok:CtxOk Tryz.prog GMuE:=ctxL_cons okOf <| ctxL_cons okSuE ctxL_nil
def muCE:List AV->Option (List Prop × AV)
 | [.v1 (.agg [.ws .u64 6 x0,.ws .u64 6 y0,.one (.bo z0)]),.v1 (.agg [.ws .u64 6 n])]=>some ([],avPE (suE1 x0 y0 z0 (nv n)) (seE1 x0 y0 z0))
 | _=>none
theorem okMuE:(CallC.pure muCE).Ok Tryz.prog 21:=by
 intro args pre v e hp
 unfold muCE at e
 split at e
 rotate_left
 ·cases e
 rename_i x0 y0 z0 n
 cases e
 refine pure_walk' tt_ok Tryz.func21 (by kernel_rfl) (by kernel_rfl) (by rfl) (by rfl) ?_
 refine evS_q mixed tt_ok GMuE_ok 60 [] (same (p:=endN (avPE (suE1 x0 y0 z0 (nv n)) (seE1 x0 y0 z0)) (avPE (suE1 x0 y0 z0 (nv n)) (seE1 x0 y0 z0))) ?_ (by kernel_rfl))
 exact ⟨_,rfl,fun _=>rfl⟩
def GMuQ:Ctx:=ctxL [(22,.pure cOf),(59,.rd suCQ)]
theorem GMuQ_ok:CtxOk Tryz.prog GMuQ:=ctxL_cons okOf <| ctxL_cons okSuQ ctxL_nil
def muCQ:List AV->Option (List Prop × AV)
 | [.v1 (.agg [.ws .u64 6 x0,.ws .u64 6 u0,.ws .u64 6 y0,.ws .u64 6 v0,.one (.bo z0)]),.v1 (.agg [.ws .u64 6 n])]=>some ([],avPQ (suQ1 x0 u0 y0 v0 z0 (nv n)) (seQ1 x0 u0 y0 v0 z0))
 | _=>none
theorem okMuQ:(CallC.pure muCQ).Ok Tryz.prog 23:=by
 intro args pre v e hp
 unfold muCQ at e
 split at e
 rotate_left
 ·cases e
 rename_i x0 u0 y0 v0 z0 n
 cases e
 refine pure_walk' tt_ok Tryz.func23 (by kernel_rfl) (by kernel_rfl) (by rfl) (by rfl) ?_
 refine evS_q mixed tt_ok GMuQ_ok 60 [] (same (p:=endN (avPQ (suQ1 x0 u0 y0 v0 z0 (nv n)) (seQ1 x0 u0 y0 v0 z0)) (avPQ (suQ1 x0 u0 y0 v0 z0 (nv n)) (seQ1 x0 u0 y0 v0 z0))) ?_ (by kernel_rfl))
 exact ⟨_,rfl,fun _=>rfl⟩
end Go.Proofs.YtnjocbcjejpklaaGreat
namespace Go.Rq
open Go
set_option linter.unusedVariables false
section
variable {α:Type} [CR α]
end
def ch (x:Fp):Fp:=x ^ ((pN - 1) / 2)
end Go.Rq
namespace Go.Proofs.YtnjocbcjejpklaaGreat
open Go.Rq Go
set_option maxRecDepth 100000
theorem eInv_mul {x:Fp} (h:x ≠ 0):x * eInv x = 1:=by unfold eInv;rw [ePow_eq];exact fp_inv h
end Go.Proofs.YtnjocbcjejpklaaGreat
namespace Go.Proofs.YtnjocbcjejpklaaGreat
open Go.Rq Go EC
set_option maxRecDepth 100000
set_option linter.unusedVariables false
set_option linter.unusedSimpArgs false
set_option maxRecDepth 100000
def ptE (x y:Nat->Nat) (z:Bool):Option (Fp × Fp):=A2.pt (⟨gN x,gN y,z⟩:A2 Fp)
def ptQ (x0 x1 y0 y1:Nat->Nat) (z:Bool):Option (F2p × F2p):=A2.pt (⟨⟨gN x0,gN x1⟩,⟨gN y0,gN y1⟩,z⟩:A2 F2p)
def G1s (P:Option (Fp × Fp)):Prop:=EF.on P/\EF.mul rO P = none
theorem inE_spec {x y:Nat->Nat} {z:Bool} (h:(lo1 x y && isE x y z) = true):lo1 x y = true/\G1s (ptE x y z)/\(⟨gN x,gN y,z⟩:A2 Fp) = A2.of (ptE x y z):=by
 rw [Bool.and_eq_true] at h
 obtain ⟨h1,h2,h3⟩:=(isIn_E _).1 h.2
 exact ⟨h.1,⟨h1,h2⟩,h3⟩
theorem inQ_spec {x0 x1 y0 y1:Nat->Nat} {z:Bool} (h:(lo2 x0 x1 y0 y1 && isQ x0 x1 y0 y1 z) = true):lo2 x0 x1 y0 y1 = true/\G2s (ptQ x0 x1 y0 y1 z)/\(⟨⟨gN x0,gN x1⟩,⟨gN y0,gN y1⟩,z⟩:A2 F2p) = A2.of (ptQ x0 x1 y0 y1 z):=by
 rw [Bool.and_eq_true] at h
 obtain ⟨h1,h2⟩:=(isIn_Q _).1 h.2
 exact ⟨h.1,h1,h2⟩
theorem bl_vF (z:Fp):blB (vF z) = true:=by unfold blB;rw [nv_vF,Nat.blt_eq];exact z.isLt
theorem inE_of {R:A2 Fp} {X:Option (Fp × Fp)} (hR:R = A2.of X) (hX:G1s X):(lo1 (vF R.x) (vF R.y) && isE (vF R.x) (vF R.y) R.z) = true/\ptE (vF R.x) (vF R.y) R.z = X:=by
 have e:(⟨gN (vF R.x),gN (vF R.y),R.z⟩:A2 Fp) = A2.of X:=by rw [gN_vF,gN_vF];exact hR
 have hp:A2.pt (⟨gN (vF R.x),gN (vF R.y),R.z⟩:A2 Fp) = X:=by rw [e,A2.pt_of]
 refine ⟨?_,hp⟩
 rw [Bool.and_eq_true]
 refine ⟨by unfold lo1;rw [bl_vF,bl_vF];rfl,(isIn_E _).2 ?_⟩
 rw [hp]
 exact ⟨hX.1,hX.2,e⟩
theorem inQ_of {R:A2 F2p} {X:Option (F2p × F2p)} (hR:R = A2.of X) (hX:G2s X):(lo2 (vF R.x.x) (vF R.x.y) (vF R.y.x) (vF R.y.y) && isQ (vF R.x.x) (vF R.x.y) (vF R.y.x) (vF R.y.y) R.z) = true/\ptQ (vF R.x.x) (vF R.x.y) (vF R.y.x) (vF R.y.y) R.z = X:=by
 have e:(⟨⟨gN (vF R.x.x),gN (vF R.x.y)⟩,⟨gN (vF R.y.x),gN (vF R.y.y)⟩,R.z⟩:A2 F2p) = A2.of X:=by rw [gN_vF,gN_vF,gN_vF,gN_vF];exact hR
 have hp:A2.pt (⟨⟨gN (vF R.x.x),gN (vF R.x.y)⟩,⟨gN (vF R.y.x),gN (vF R.y.y)⟩,R.z⟩:A2 F2p) = X:=by rw [e,A2.pt_of]
 refine ⟨?_,hp⟩
 rw [Bool.and_eq_true]
 refine ⟨by unfold lo2;rw [bl_vF,bl_vF,bl_vF,bl_vF];rfl,(isIn_Q _).2 ?_⟩
 rw [hp]
 exact ⟨hX,e⟩
theorem lastS_1:lastS 1 = 1:=last_conj one_ne conj_1
theorem prS_val {px py x0 x1 y0 y3:Nat->Nat} {z z2:Bool} (h1:(lo1 px py && isE px py z) = true) (h2:(lo2 x0 x1 y0 y3 && isQ x0 x1 y0 y3 z2) = true):prS px py x0 x1 y0 y3 z z2 = eP (ptQ x0 x1 y0 y3 z2) (ptE px py z):=by
 obtain ⟨_,hE,_⟩:=inE_spec h1
 obtain ⟨_,hQ,_⟩:=inQ_spec h2
 unfold prS prB
 rw [h1,h2]
 cases z
 ·cases z2
  ·exact (pair_val (q:=(⟨gN x0,gN x1⟩,⟨gN y0,gN y3⟩)) (p:=(gN px,gN py)) hQ hE.1).1
  ·exact lastS_1.trans (eP_none _).symm
 ·exact lastS_1.trans (eP_at_none _).symm
theorem prI_val {px py x0 x1 y0 y3:Nat->Nat} {z z2:Bool} (h1:(lo1 px py && isE px py z) = true) (h2:(lo2 x0 x1 y0 y3 && isQ x0 x1 y0 y3 z2) = true):prI px py x0 x1 y0 y3 z z2 = 0:=by
 unfold prI prB
 rw [h1,h2];rfl
theorem rp_nil {F:Type} [CR F] [DecidableEq F] (C:EC F):Rp (J3.nil:J3 F) none:=rfl
theorem sh_rp {F:Type} [CR F] [DecidableEq F] (C:EC F) (ha:C.a = 0) {o:J3 F} {p:A2 F} {X:Option (F × F)} (hX:C.on X) (ho:Rp o X) (hp:C.on (A2.pt p)) (n:Nat):Rp (J3.add o (J3.times (A2.raise p) (blen n) n)) (C.add X (C.mul n (A2.pt p))) :=
 C.add_rp ha hX (C.on_mul hp n) ho (C.times_rp ha hp (A2.raise_rp C p) _ _ (lt_blen n))
theorem onE_of {x y:Nat->Nat} {z:Bool} (h:G1s (ptE x y z)) (e:(⟨gN x,gN y,z⟩:A2 Fp) = A2.of (ptE x y z)):A2.on fourE (⟨gN x,gN y,z⟩:A2 Fp) = true:=by
 rw [fourE_b]
 exact (A2.on_pt EF rfl).2 ⟨h.1,e⟩
theorem onQ_of {x0 x1 y0 y1:Nat->Nat} {z:Bool} (h:G2s (ptQ x0 x1 y0 y1 z)) (e:(⟨⟨gN x0,gN x1⟩,⟨gN y0,gN y1⟩,z⟩:A2 F2p) = A2.of (ptQ x0 x1 y0 y1 z)):A2.on fourQ (⟨⟨gN x0,gN x1⟩,⟨gN y0,gN y1⟩,z⟩:A2 F2p) = true:=by
 rw [fourQ_b]
 exact (A2.on_pt ET rfl).2 ⟨h.1,e⟩
theorem inv_E (x:Fp) (h:x ≠ 0):x * eInv x = 1:=eInv_mul h
theorem inv_Q (x:F2p) (h:x ≠ 0):x * F2p.inv x = 1:=by rw [ep];exact F2p.mul_inv h
theorem suE1_val {x y:Nat->Nat} {z:Bool} (h:(lo1 x y && isE x y z) = true) (n:Nat):suE1 x y z n = A2.of (EF.mul n (ptE x y z)):=by
 obtain ⟨h1,h2,h3⟩:=inE_spec h
 unfold suE1 gaE1
 rw [h1,onE_of h2 h3]
 exact A2.lower_rp inv_E (sh_rp EF rfl (X:=none) trivial (rp_nil EF) h2.1 n)
theorem suQ1_val {x0 x1 y0 y1:Nat->Nat} {z:Bool} (h:(lo2 x0 x1 y0 y1 && isQ x0 x1 y0 y1 z) = true) (n:Nat):suQ1 x0 x1 y0 y1 z n = A2.of (ET.mul n (ptQ x0 x1 y0 y1 z)):=by
 obtain ⟨h1,h2,h3⟩:=inQ_spec h
 unfold suQ1 gaQ1
 rw [h1,onQ_of h2 h3]
 exact A2.lower_rp inv_Q (sh_rp ET rfl (X:=none) trivial (rp_nil ET) h2.1 n)
theorem G1s_add_n {r:Nat} {Q R:Option (Fp × Fp)} (oQ:EF.on Q) (oR:EF.on R) (hQ:EF.mul r Q = none) (hR:EF.mul r R = none):EF.mul r (EF.add Q R) = none:=by
 rw [EF.mul_dist oQ oR,hQ,hR];rfl
theorem G1s_add {Q R:Option (Fp × Fp)} (hQ:G1s Q) (hR:G1s R):G1s (EF.add Q R):=⟨EF.on_add hQ.1 hR.1,G1s_add_n hQ.1 hR.1 hQ.2 hR.2⟩
theorem G1s_none:G1s none:=⟨trivial,EF.mul_zero rO⟩
theorem G1s_mul {Q:Option (Fp × Fp)} (hQ:G1s Q):∀ n,G1s (EF.mul n Q)
 | 0=>G1s_none
 | n + 1=>G1s_add (G1s_mul hQ n) hQ
end Go.Proofs.YtnjocbcjejpklaaGreat
namespace Go.Proofs.YtnjocbcjejpklaaGreat
open Go.Rq Go
set_option maxRecDepth 100000
set_option linter.unusedVariables false
set_option linter.unusedSimpArgs false
set_option maxRecDepth 100000
def GNb:Ctx:=ctxL [(128,.pure cParse)]
theorem GNb_ok:CtxOk Tryz.prog GNb:=ctxL_cons okParse ctxL_nil
def cNumb:List AV->Option (List Prop × AV)
 | [.v1 (.sc (.str n f))]=>some ([],.v1 (numV (parV n f)))
 | _=>none
theorem okNumb:(CallC.pure cNumb).Ok Tryz.prog 66:=by
 intro args pre v e hp
 unfold cNumb at e
 split at e
 rotate_left
 ·cases e
 rename_i n f
 cases e
 refine pure_walk' tt_ok Tryz.func66 (by kernel_rfl) (by kernel_rfl) (by rfl) (by rfl) ?_
 refine evS_q mixed tt_ok GNb_ok 60 [] (same (p:=endN (.v1 (numV (parV n f))) (.v1 (numV (parV n f)))) ⟨_,rfl,fun _=>rfl⟩ (by kernel_rfl))
def GGn:Ctx:=ctxL [(66,.pure cNumb)]
theorem GGn_ok:CtxOk Tryz.prog GGn:=ctxL_cons okNumb ctxL_nil
abbrev gen1V:AV:=.v1 (.agg [.ws .u64 6 (vF (ofN gx)),.ws .u64 6 (vF (ofN gy)),.one (.bo false)])
abbrev gen2V:AV:=.v1 (.agg [.ws .u64 6 (vF (ofN hx.1)),.ws .u64 6 (vF (ofN hx.2)),.ws .u64 6 (vF (ofN hy.1)),.ws .u64 6 (vF (ofN hy.2)),.one (.bo false)])
def cGen (v:AV):List AV->Option (List Prop × AV)
 | []=>some ([],v)
 | _=>none
theorem okGen1:(CallC.pure (cGen gen1V)).Ok Tryz.prog 30:=by
 intro args pre v e hp
 unfold cGen at e
 split at e
 rotate_left
 ·cases e
 cases e
 refine pure_walk' tt_ok Tryz.func30 (by kernel_rfl) (by kernel_rfl) (by rfl) (by rfl) ?_
 refine evS_q mixed tt_ok GGn_ok 60 [] (same (p:=endN gen1V gen1V) ⟨_,rfl,fun _=>rfl⟩ (by kernel_rfl))
theorem okGen2:(CallC.pure (cGen gen2V)).Ok Tryz.prog 27:=by
 intro args pre v e hp
 unfold cGen at e
 split at e
 rotate_left
 ·cases e
 cases e
 refine pure_walk' tt_ok Tryz.func27 (by kernel_rfl) (by kernel_rfl) (by rfl) (by rfl) ?_
 refine evS_q mixed tt_ok GGn_ok 60 [] (same (p:=endN gen2V gen2V) ⟨_,rfl,fun _=>rfl⟩ (by kernel_rfl))
end Go.Proofs.YtnjocbcjejpklaaGreat
namespace Go.Rq
open Go
set_option linter.unusedVariables false
inductive CK where
 | i (k:IntKind)
 | b
def CsOk:List CK->List Value->Prop
 | [],[]=>True
 | .i k :: r,.int k' n :: vs=>k' = k/\(Lit.int k n).wf = true/\CsOk r vs
 | .b :: r,.bool _ :: vs=>CsOk r vs
 | _,_=>False
mutual
inductive FlatTy (P:Program):TypeId->List CK->Prop
 | int {t:TypeId} {k:IntKind} (hu:P.underlying t = some (.int k)):FlatTy P t [.i k]
 | bool {t:TypeId} (hu:P.underlying t = some .bool):FlatTy P t [.b]
 | arr {t e:TypeId} {n:Nat} {sk:List CK} (hu:P.underlying t = some (.array n e)) (he:FlatTy P e sk) (hc:P.cellsOf e = sk.length) (ht:P.cellsOf t = n * sk.length):FlatTy P t (List.replicate n sk).flatten
 | str {t:TypeId} {fs:Array Field} {sk:List CK} (hu:P.underlying t = some (.struct fs)) (hf:FlatFs P 0 fs.toList sk) (ht:P.cellsOf t = sk.length):FlatTy P t sk
inductive FlatFs (P:Program):Nat->List Field->List CK->Prop
 | nil (o:Nat):FlatFs P o [] []
 | cons {f:Field} {fs:List Field} {o:Nat} {sk r:List CK} (ho:f.offset = o) (h:FlatTy P f.type sk) (hc:P.cellsOf f.type = sk.length) (hr:FlatFs P (o + sk.length) fs r):FlatFs P o (f :: fs) (sk ++ r)
end
theorem CsOk.append:∀ {a b:List CK} {xs ys:List Value},CsOk a xs->CsOk b ys->CsOk (a ++ b) (xs ++ ys)
 | [],_,[],_,_,h=>h
 | .i k :: r,b,.int k' n :: vs,ys,h,h2=>⟨h.1,h.2.1,CsOk.append (a:=r) h.2.2 h2⟩
 | .b :: r,b,.bool _ :: vs,ys,h,h2=>CsOk.append (a:=r) h h2
 | [],_,_ :: _,_,h,_=>h.elim
 | .i _ :: _,_,[],_,h,_=>h.elim
 | .b :: _,_,[],_,h,_=>h.elim
theorem CsOk.len:∀ {a:List CK} {xs:List Value},CsOk a xs->xs.length = a.length
 | [],[],_=>rfl
 | .i k :: r,.int k' n :: vs,h=>by simp [CsOk.len (a:=r) h.2.2]
 | .b :: r,.bool _ :: vs,h=>by simp [CsOk.len (a:=r) h]
 | [],_ :: _,h=>h.elim
 | .i _ :: _,[],h=>h.elim
 | .b :: _,[],h=>h.elim
theorem CsOk.slices {sk:List CK}:∀ {n:Nat} {cs:List Value},cs.length = n * sk.length->(∀ i,i < n->CsOk sk ((cs.drop (i * sk.length)).take sk.length))->CsOk (List.replicate n sk).flatten cs
 | 0,cs,hl,_=>by
  have:cs = []:=by simpa using hl
  subst this;trivial
 | n + 1,cs,hl,h=>by
  rw [List.replicate_succ,List.flatten_cons,<-List.take_append_drop sk.length cs]
  refine CsOk.append (by simpa using h 0 (by omega)) (CsOk.slices (by rw [List.length_drop,hl,Nat.succ_mul];omega) fun i hi=>?_)
  have:=h (i + 1) (by omega)
  rw [List.drop_drop]
  rw [show sk.length + i * sk.length = (i + 1) * sk.length by rw [Nat.succ_mul];omega]
  exact this
section
variable {H:Type} {enc:TypeId × Value->H} {P:Program}
theorem mapM_congr' {α β:Type} {f g:α->Option β}:∀ {l:List α},(∀ x ∈ l,f x = g x)->l.mapM f = l.mapM g
 | [],_=>rfl
 | x :: r,h=>by
  rw [List.mapM_cons,List.mapM_cons,h x (by simp),mapM_congr' fun y hy=>h y (by simp [hy])]
mutual
theorem FlatTy.same {t:TypeId} {sk:List CK} (h:FlatTy P t sk):∀ (fuel:Nat) (cs:List Value) (w w':World) (b b':Nat) (sp sp':Nat->Bool) (hd hd':Bool),
  DataW.trod enc P w b sp hd fuel t cs = DataW.trod enc P w' b' sp' hd' fuel t cs:=by
 intro fuel cs w w' b b' sp sp' hd hd'
 cases fuel with
 | zero=>simp [DataW.trod]
 | succ m =>
  unfold DataW.trod
  cases h with
  | int hu=>rw [hu];cases cs with
   | nil=>rfl
   | cons c r=>cases r <;> cases c <;> rfl
  | bool hu=>rw [hu];cases cs with
   | nil=>rfl
   | cons c r=>cases r <;> cases c <;> rfl
  | arr hu he hc ht =>
   rw [hu]
   simp only
   rw [mapM_congr' fun i _=>FlatTy.same he m _ w w' b b' sp sp' hd hd']
  | str hu hf ht =>
   rw [hu]
   simp only
   rw [FlatFs.same hf m cs w w' b b' sp sp' hd hd']
theorem FlatFs.same {o:Nat} {fs:List Field} {sk:List CK} (h:FlatFs P o fs sk):∀ (fuel:Nat) (cs:List Value) (w w':World) (b b':Nat) (sp sp':Nat->Bool) (hd hd':Bool),
  (fs.mapM fun f=>DataW.trod enc P w b sp hd fuel f.type ((cs.drop f.offset).take (P.cellsOf f.type))) = fs.mapM fun f=>DataW.trod enc P w' b' sp' hd' fuel f.type ((cs.drop f.offset).take (P.cellsOf f.type)):=by
 intro fuel cs w w' b b' sp sp' hd hd'
 cases h with
 | nil=>rfl
 | cons ho h hc hr=>rw [List.mapM_cons,List.mapM_cons,FlatTy.same h fuel _ w w' b b' sp sp' hd hd',FlatFs.same hr fuel cs w w' b b' sp sp' hd hd']
end
theorem flatMap_nil {α β:Type} {xs:List (α × List β)} (h:∀ (i:Nat) (x:α × List β),xs[i]? = some x->x.2 = []):xs.flatMap (·.2) = []:=by
 rw [List.flatMap_eq_nil_iff]
 intro x hx
 obtain ⟨i,hi⟩:=List.getElem?_of_mem hx
 exact h i x hi
def CellsT (H:Type) (enc:TypeId × Value->H) (P:Program) (t:TypeId) (sk:List CK):Prop :=
 ∀ (fuel:Nat) (cs:List Value) (w:World) (b:Nat) (sp:Nat->Bool) (hd:Bool) (x:DataW H × List MemPlace),DataW.trod enc P w b sp hd fuel t cs = some x->CsOk sk cs/\x.2 = []
def CellsF (H:Type) (enc:TypeId × Value->H) (P:Program) (o:Nat) (fs:List Field) (sk:List CK):Prop :=
 ∀ (fuel:Nat) (cs:List Value) (w:World) (b:Nat) (sp:Nat->Bool) (hd:Bool) (xs:List (DataW H × List MemPlace)),
  cs.length = o + sk.length->xs.length = fs.length->(∀ (i:Nat) (f:Field),fs[i]? = some f->DataW.trod enc P w b sp hd fuel f.type ((cs.drop f.offset).take (P.cellsOf f.type)) = xs[i]?)->CsOk sk (cs.drop o)/\xs.flatMap (·.2) = []
theorem cells_arr {t e:TypeId} {n:Nat} {sk:List CK} (hu:P.underlying t = some (.array n e)) (he:CellsT H enc P e sk) (hc:P.cellsOf e = sk.length) (ht:P.cellsOf t = n * sk.length):CellsT H enc P t (List.replicate n sk).flatten:=by
 intro fuel cs w b sp hd x hx
 obtain ⟨xs,m,rfl,rfl,hl,hn,hi⟩:=DataW.trod_array hu hx
 have key:∀ i,i < xs.length->∃ y,xs[i]? = some y:=fun i hi=>⟨xs[i],by simp [hi]⟩
 refine ⟨CsOk.slices (by rw [hl,ht]) fun i h1=>?_,flatMap_nil fun i y hy=>?_⟩
 ·obtain ⟨y,hy⟩:=key i (by omega)
  have:=hi i h1
  rw [hy] at this
  rw [<-hc]
  exact (he m _ w b sp hd y this).1
 ·have h1:i < xs.length:=(List.getElem?_eq_some_iff.1 hy).1
  have:=hi i (by omega)
  rw [hy] at this
  exact (he m _ w b sp hd y this).2
theorem cells_str {t:TypeId} {fs:Array Field} {sk:List CK} (hu:P.underlying t = some (.struct fs)) (hf:CellsF H enc P 0 fs.toList sk) (ht:P.cellsOf t = sk.length):CellsT H enc P t sk:=by
 intro fuel cs w b sp hd x hx
 obtain ⟨xs,m,rfl,rfl,hl,hn,hi⟩:=DataW.trod_struct hu hx
 have:=hf m cs w b sp hd xs (by rw [hl,ht];simp) (by simpa using hn) fun i f hf=>hi i f (by simpa using hf)
 exact ⟨by simpa using this.1,this.2⟩
theorem cells_cons {f:Field} {fs:List Field} {o:Nat} {sk r:List CK} (ho:f.offset = o) (h:CellsT H enc P f.type sk) (hc:P.cellsOf f.type = sk.length) (hr:CellsF H enc P (o + sk.length) fs r):CellsF H enc P o (f :: fs) (sk ++ r):=by
 intro fuel cs w b sp hd xs hl hx hi
 cases xs with
 | nil=>simp at hx
 | cons y ys =>
  have h0:=hi 0 f rfl
  simp only [List.getElem?_cons_zero] at h0
  have c0:=h fuel _ w b sp hd y h0
  have cr:=hr fuel cs w b sp hd ys (by rw [hl,List.length_append];omega) (by simpa using hx) fun i f' hf'=>by
   have:=hi (i + 1) f' (by simpa using hf')
   simpa using this
  refine ⟨?_,by rw [List.flatMap_cons,c0.2,cr.2];rfl⟩
  rw [<-List.take_append_drop sk.length (cs.drop o)]
  refine CsOk.append ?_ ?_
  ·rw [<-hc,<-ho];exact c0.1
  ·rw [List.drop_drop];exact cr.1
theorem FlatTy.cells {t:TypeId} {sk:List CK} (h:FlatTy P t sk):CellsT H enc P t sk:=by
 refine FlatTy.rec (motive_1:=fun t sk _=>CellsT H enc P t sk) (motive_2:=fun o fs sk _=>CellsF H enc P o fs sk) ?_ ?_ ?_ ?_ ?_ ?_ h
 ·intro t k hu fuel cs w b sp hd x hx
  obtain ⟨n,rfl,rfl,hw⟩:=DataW.trod_int hu hx
  exact ⟨⟨rfl,hw,trivial⟩,rfl⟩
 ·intro t hu fuel cs w b sp hd x hx
  obtain ⟨n,rfl,rfl⟩:=DataW.trod_bool hu hx
  exact ⟨trivial,rfl⟩
 ·intro t e n sk hu _ hc ht he
  exact cells_arr hu he hc ht
 ·intro t fs sk hu _ ht hf
  exact cells_str hu hf ht
 ·intro o fuel cs w b sp hd xs hl hx hi
  have:xs = []:=by simpa using hx
  subst this
  rw [List.drop_eq_nil_of_le (by simp at hl;omega)]
  exact ⟨trivial,rfl⟩
 ·intro f fs o sk r ho _ hc _ h hr
  exact cells_cons ho h hc hr
theorem FlatTy.trod {t:TypeId} {sk:List CK} (h:FlatTy P t sk) {w:World} {b:Nat} {sp:Nat->Bool} {hd:Bool} {v:Value} {d:DataW H} {p:List MemPlace} (hT:DataW.Trod enc P w b sp hd t v d p) :
  CsOk sk v.cells.toList/\p = []/\∀ (w':World) (b':Nat) (sp':Nat->Bool) (hd':Bool),DataW.Trod enc P w' b' sp' hd' t v d []:=by
 obtain ⟨fuel,hf⟩:=hT
 have hc:=h.cells fuel _ w b sp hd _ hf
 have hp:p = []:=hc.2
 subst hp
 exact ⟨hc.1,rfl,fun w' b' sp' hd'=>⟨fuel,by rw [<-FlatTy.same h fuel _ w w' b b' sp sp' hd hd'];exact hf⟩⟩
end
theorem wf_u64 {z:Int} (h:(Lit.int .u64 z).wf = true):Int.ofNat (z.toNat % M .u64) = z:=by
 simp only [Lit.wf,IntKind.min,IntKind.max,IntKind.signed,IntKind.bits,Bool.and_eq_true] at h
 simp only [M,Int.ofNat_eq_natCast]
 simp at h
 omega
theorem CsOk.u64 {r:List CK}:∀ {n:Nat} {vs:List Value},CsOk (List.replicate n (.i .u64) ++ r) vs->∃ (g:Nat->Nat) (vs':List Value),vs = (Cell.ws .u64 n g).vals (fun _=>0) ++ vs'/\CsOk r vs'
 | 0,vs,h=>⟨fun _=>0,vs,by simp [Cell.vals],by simpa using h⟩
 | n + 1,vs,h=>by
  rw [List.replicate_succ,List.cons_append] at h
  match vs,h with
  | .int k' z :: vs,h =>
   obtain ⟨rfl,hw,hr⟩:=h
   obtain ⟨g,vs',rfl,h'⟩:=CsOk.u64 (n:=n) (r:=r) hr
   refine ⟨fun j=>match j with | 0=>z.toNat | j + 1=>g j,vs',?_,h'⟩
   simp only [Cell.vals,List.range_succ_eq_map,List.map_cons,List.map_map,List.cons_append,wf_u64 hw]
   rfl
theorem CsOk.int {k:IntKind} {r:List CK} {vs:List Value} (h:CsOk (.i k :: r) vs):∃ (z:Int) (vs':List Value),vs = .int k z :: vs'/\(Lit.int k z).wf = true/\CsOk r vs':=by
 match vs,h with
 | .int k' b :: vs,h=>obtain ⟨rfl,hw,hr⟩:=h;exact ⟨b,vs,rfl,hw,hr⟩
theorem CsOk.nil {vs:List Value} (h:CsOk [] vs):vs = []:=by
 match vs,h with
 | [],_=>rfl
end Go.Rq
namespace Go.Rq
open Go Go.ChangeShapes Go.WideShapes
theorem post_same {H:Type} {enc:TypeId × Value->H} {P:Program} {f:Func} {s:ChangeSpec} {apart fresh handsOn again:Bool} {W W':World} {args:Array Value} {v:Value} {ds gs:List (DataW H)} {before pa pv:List MemPlace}
  (hW:DataW.Whole enc P f.params.toList s.vars apart W args.toList ds gs before)
  (hres:∀ (b:Nat) (sp:Nat->Bool) (hd:Bool),DataW.TrodAll enc P W' b sp hd f.resultTypes.toList (v.resultList f.resultTypes.size) (s.fn H (ds ++ gs)).results [])
  (hargs:∀ sp:Nat->Bool,(∀ p ∈ before,sp p.block = true)->DataW.TrodAll enc P W' 0 sp true f.params.toList args.toList (s.fn H (ds ++ gs)).args pa)
  (hvars:∀ sp:Nat->Bool,(∀ p ∈ before,sp p.block = true)->DataW.TrodVars enc P W' sp s.vars (s.fn H (ds ++ gs)).vars pv)
  (hps:before = pa ++ pv) (hst:StepW W W')
  (hok:∀ (j:Nat) (t:TypeId) (r:Value),f.resultTypes[j]? = some t->(v.resultList f.resultTypes.size)[j]? = some r->Value.okWide P W' .any 0 t r) :
  s.post enc P f apart fresh handsOn again W args v W':=by
 have hold:∀ p ∈ before,(fun b=>decide (b < W.heap.size)) p.block = true:=fun p hp=>by simpa using hW.lt p hp
 refine ⟨ds,gs,before,[],pa,pv,hW,hres _ _ _,hargs _ hold,hvars _ hold,World.keptBut_mono (fun p hp=>⟨hp,?_⟩) (hst.frame (· ∈ before)),fun _=>?_⟩
 ·rw [hps,List.mem_append] at hp
  exact Or.inr hp
 ·have hlt:=hW.lt
  obtain ⟨_,_,_,_,_,hz,hn⟩:=hW
  refine ⟨hok,_,_,([] ++ pa) ++ pv,⟨[] ++ pa,pv,trodAll_append (hargs _ (fun _ _=>rfl)) (hres _ _ _),hvars _ (fun _ _=>rfl),rfl,?_,?_⟩,?_⟩
  ·intro b off hp
   have hp':MemPlace.cell b off ∈ before:=by rw [hps];simpa using hp
   rw [hst.old _ (hlt _ hp')]
   exact hz b off hp'
  ·intro ha
   have:=hn ha
   rw [hps] at this
   simpa using this
  ·intro p hp _
   rw [hps]
   simpa using hp
end Go.Rq
