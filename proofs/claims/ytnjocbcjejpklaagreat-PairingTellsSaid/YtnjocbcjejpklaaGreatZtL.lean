/- reliquarylaw06.PairingTells answers true at every input, and leaves it as it was. Conditions: none. Printed by genptel.py. -/
import Derived.Test.YtnjocbcjejpklaaGreatZtG
import Derived.Test.YtnjocbcjejpklaaGreatRows
import Derived.Carry
set_option linter.all false
namespace Go.Proofs.YtnjocbcjejpklaaGreat
open Go.Rq Go Go.ChangeShapes Go.WideShapes Go.ChangeAt Go.RowKit
set_option maxRecDepth 100000
set_option maxHeartbeats 800000
theorem okTwoX:(CallC.pure (toC (fun x=>x ^ (pN - 2)) F2p.inv)).Ok Tryz.prog 140:=okTwoD okFInv okInvQ
def GPt:Ctx:=ctxL [(7,.pure cPair),(8,.pure cIn1),(9,.pure cIn2),(10,.pure dpC),(11,.pure cLast),(12,.pure nthC),(14,.pure cD12Of),(13,.pure lsC)]
theorem GPt_ok:CtxOk Tryz.prog GPt:=cxC okPair <| cxC (okIn1D okTwoX) <| cxC (okIn2D okTwoX) <| cxC okDpD <| cxC okLastP <| cxC okNth <| cxC okD12Of <| cxC okLsD cxN
theorem z12_f {s:S12} (h:s ≠ 0):z12 s = false:=by
 cases e:z12 s
 ·rfl
 ·exact absurd ((z12_iff s).1 e) h
theorem invE_f {s:S12} (h:s ≠ 0):invE s = 0:=by unfold invE;rw [z12_f h,cond_false]
theorem invE_t {s:S12} (h:s = 0):invE s = 6:=by unfold invE;rw [(z12_iff s).2 h,cond_true]
theorem lastz_f {s:S12} (h:s ≠ 0):lastz s = lastS s:=by unfold lastz;rw [z12_f h,cond_false]
theorem lastz_t {s:S12} (h:s = 0):lastz s = 0:=by unfold lastz;rw [(z12_iff s).2 h,cond_true]
theorem pr_no {px py x0 x1 y0 y1:Nat->Nat} {z z2:Bool} (h:prB px py x0 x1 y0 y1 z z2 = false):(prS px py x0 x1 y0 y1 z z2) = 0/\(prI px py x0 x1 y0 y1 z z2) = 5:=by
 unfold prS prI
 rw [h];exact ⟨rfl,rfl⟩
theorem pr_yes {px py x0 x1 y0 y1:Nat->Nat} {z z2:Bool} (h1:(lo1 px py && isE px py z) = true) (h2:(lo2 x0 x1 y0 y1 && isQ x0 x1 y0 y1 z2) = true):(prS px py x0 x1 y0 y1 z z2) = (docP px py x0 x1 y0 y1 z z2)/\(prI px py x0 x1 y0 y1 z z2) = 0:=by
 unfold prS prI prB docP
 rw [h1,h2]
 have key:∀ (L M:S12) (u:Bool),M = 1->(bif true && true then (bif u then M else L) else 0) = (bif u then 1 else L):=fun L M u h=>by cases u;rfl;exact h
 exact ⟨key _ _ _ lastS_1,rfl⟩
theorem pairingTells_calls (px py x0 x1 y0 y1:Nat->Nat) (z z2:Bool) (a0 a1 a2 a3 a4 a5 a6 a7 a8 a9 a10 a11:Nat->Nat) (w:World) :
  Calls Tryz.prog 3 (([p1V px py z,p2V x0 x1 y0 y1 z2,.v1 (v12 a0 a1 a2 a3 a4 a5 a6 a7 a8 a9 a10 a11)]:List AV).map (AV.val fun _=>0)).toArray w (fun e w'=>e = .returned (.bool true)/\StepW w w'):=by
 refine pure_calls tK Tryz.func3 (by kernel_rfl) (by kernel_rfl) (v:=.v1 (.sc (.bo true))) (by kernel_rfl) ?_ w
 cases h1:(lo1 px py && isE px py z)
 ·have hn:=pr_no (px:=px) (py:=py) (x0:=x0) (x1:=x1) (y0:=y0) (y1:=y1) (z:=z) (z2:=z2) (by unfold prB;rw [h1];rfl)
  by_cases ha:(g12 a0 a1 a2 a3 a4 a5 a6 a7 a8 a9 a10 a11) = 0
  ·refine eSq mxd tK GPt_ok 200 [⟨2,2,.lit (.bo true)⟩,⟨2,6,.lit (.bo true)⟩,⟨3,2,.lit (.bo false)⟩,⟨3,5,.lit (.bo false)⟩,⟨8,1,.lit (.bo true)⟩,⟨9,2,.lit (.bo true)⟩,⟨9,5,.lit (.bo true)⟩] ?_
   refine same (p:=(!(lo1 px py && isE px py z)) = true/\(!qL (nL (prS px py x0 x1 y0 y1 z z2)) zL12) = false/\(!ieq (prI px py x0 x1 y0 y1 z z2) 5) = false/\z12 (g12 a0 a1 a2 a3 a4 a5 a6 a7 a8 a9 a10 a11) = true/\qL (nL (lastz (g12 a0 a1 a2 a3 a4 a5 a6 a7 a8 a9 a10 a11))) zL12 = true/\ieq (invE (g12 a0 a1 a2 a3 a4 a5 a6 a7 a8 a9 a10 a11)) 6 = true/\endT) ?_ (by kernel_rfl)
   exact ⟨by rw [h1];rfl,by rw [qn_z,hn.1,(z12_iff 0).2 rfl];rfl,by rw [hn.2];rfl,(z12_iff _).2 ha,by rw [qn_z,lastz_t ha];exact (z12_iff 0).2 rfl,by rw [invE_t ha];rfl,endT_ok⟩
  ·refine eSq mxd tK GPt_ok 200 [⟨2,2,.lit (.bo true)⟩,⟨2,6,.lit (.bo true)⟩,⟨3,2,.lit (.bo false)⟩,⟨3,5,.lit (.bo false)⟩,⟨8,1,.lit (.bo false)⟩,⟨10,1,.lit (.bo true)⟩,⟨10,7,.lit (.bo true)⟩] ?_
   refine same (p:=(!(lo1 px py && isE px py z)) = true/\(!qL (nL (prS px py x0 x1 y0 y1 z z2)) zL12) = false/\(!ieq (prI px py x0 x1 y0 y1 z z2) 5) = false/\z12 (g12 a0 a1 a2 a3 a4 a5 a6 a7 a8 a9 a10 a11) = false/\ieq (invE (g12 a0 a1 a2 a3 a4 a5 a6 a7 a8 a9 a10 a11)) 0 = true/\vL12 (g12 a0 a1 a2 a3 a4 a5 a6 a7 a8 a9 a10 a11) ((G12 (g12 a0 a1 a2 a3 a4 a5 a6 a7 a8 a9 a10 a11)) ≠ 0/\qL (nL (lastz (g12 a0 a1 a2 a3 a4 a5 a6 a7 a8 a9 a10 a11))) (nL (lastS (G12 (g12 a0 a1 a2 a3 a4 a5 a6 a7 a8 a9 a10 a11)))) = true/\endT)) ?_ (by kernel_rfl)
   exact ⟨by rw [h1];rfl,by rw [qn_z,hn.1,(z12_iff 0).2 rfl];rfl,by rw [hn.2];rfl,z12_f ha,by rw [invE_f ha];rfl,lV _,lV _,lV _,lV _,lV _,lV _,lV _,lV _,lV _,lV _,lV _,lV _,by rw [G12_eq];exact ha,qn_of (by rw [G12_eq,lastz_f ha]),endT_ok⟩
 ·cases h2:(lo2 x0 x1 y0 y1 && isQ x0 x1 y0 y1 z2)
  ·have hn:=pr_no (px:=px) (py:=py) (x0:=x0) (x1:=x1) (y0:=y0) (y1:=y1) (z:=z) (z2:=z2) (by unfold prB;rw [h1,h2];rfl)
   by_cases ha:(g12 a0 a1 a2 a3 a4 a5 a6 a7 a8 a9 a10 a11) = 0
   ·refine eSq mxd tK GPt_ok 200 [⟨2,2,.lit (.bo false)⟩,⟨2,6,.lit (.bo true)⟩,⟨3,2,.lit (.bo false)⟩,⟨3,5,.lit (.bo false)⟩,⟨8,1,.lit (.bo true)⟩,⟨9,2,.lit (.bo true)⟩,⟨9,5,.lit (.bo true)⟩] ?_
    refine same (p:=(!(lo1 px py && isE px py z)) = false/\(!(lo2 x0 x1 y0 y1 && isQ x0 x1 y0 y1 z2)) = true/\(!qL (nL (prS px py x0 x1 y0 y1 z z2)) zL12) = false/\(!ieq (prI px py x0 x1 y0 y1 z z2) 5) = false/\z12 (g12 a0 a1 a2 a3 a4 a5 a6 a7 a8 a9 a10 a11) = true/\qL (nL (lastz (g12 a0 a1 a2 a3 a4 a5 a6 a7 a8 a9 a10 a11))) zL12 = true/\ieq (invE (g12 a0 a1 a2 a3 a4 a5 a6 a7 a8 a9 a10 a11)) 6 = true/\endT) ?_ (by kernel_rfl)
    exact ⟨by rw [h1];rfl,by rw [h2];rfl,by rw [qn_z,hn.1,(z12_iff 0).2 rfl];rfl,by rw [hn.2];rfl,(z12_iff _).2 ha,by rw [qn_z,lastz_t ha];exact (z12_iff 0).2 rfl,by rw [invE_t ha];rfl,endT_ok⟩
   ·refine eSq mxd tK GPt_ok 200 [⟨2,2,.lit (.bo false)⟩,⟨2,6,.lit (.bo true)⟩,⟨3,2,.lit (.bo false)⟩,⟨3,5,.lit (.bo false)⟩,⟨8,1,.lit (.bo false)⟩,⟨10,1,.lit (.bo true)⟩,⟨10,7,.lit (.bo true)⟩] ?_
    refine same (p:=(!(lo1 px py && isE px py z)) = false/\(!(lo2 x0 x1 y0 y1 && isQ x0 x1 y0 y1 z2)) = true/\(!qL (nL (prS px py x0 x1 y0 y1 z z2)) zL12) = false/\(!ieq (prI px py x0 x1 y0 y1 z z2) 5) = false/\z12 (g12 a0 a1 a2 a3 a4 a5 a6 a7 a8 a9 a10 a11) = false/\ieq (invE (g12 a0 a1 a2 a3 a4 a5 a6 a7 a8 a9 a10 a11)) 0 = true/\vL12 (g12 a0 a1 a2 a3 a4 a5 a6 a7 a8 a9 a10 a11) ((G12 (g12 a0 a1 a2 a3 a4 a5 a6 a7 a8 a9 a10 a11)) ≠ 0/\qL (nL (lastz (g12 a0 a1 a2 a3 a4 a5 a6 a7 a8 a9 a10 a11))) (nL (lastS (G12 (g12 a0 a1 a2 a3 a4 a5 a6 a7 a8 a9 a10 a11)))) = true/\endT)) ?_ (by kernel_rfl)
    exact ⟨by rw [h1];rfl,by rw [h2];rfl,by rw [qn_z,hn.1,(z12_iff 0).2 rfl];rfl,by rw [hn.2];rfl,z12_f ha,by rw [invE_f ha];rfl,lV _,lV _,lV _,lV _,lV _,lV _,lV _,lV _,lV _,lV _,lV _,lV _,by rw [G12_eq];exact ha,qn_of (by rw [G12_eq,lastz_f ha]),endT_ok⟩
  ·have hy:=pr_yes h1 h2
   by_cases ha:(g12 a0 a1 a2 a3 a4 a5 a6 a7 a8 a9 a10 a11) = 0
   ·refine eSq mxd tK GPt_ok 200 [⟨2,2,.lit (.bo false)⟩,⟨2,6,.lit (.bo false)⟩,⟨5,1,.lit (.bo false)⟩,⟨5,7,.lit (.bo false)⟩,⟨8,1,.lit (.bo true)⟩,⟨9,2,.lit (.bo true)⟩,⟨9,5,.lit (.bo true)⟩] ?_
    refine same (p:=(!(lo1 px py && isE px py z)) = false/\(!(lo2 x0 x1 y0 y1 && isQ x0 x1 y0 y1 z2)) = false/\(!ieq (prI px py x0 x1 y0 y1 z z2) 0) = false/\(lo1 px py && isE px py z) = true/\(lo2 x0 x1 y0 y1 && isQ x0 x1 y0 y1 z2) = true/\(!qL (nL (prS px py x0 x1 y0 y1 z z2)) (nL (docP px py x0 x1 y0 y1 z z2))) = false/\z12 (g12 a0 a1 a2 a3 a4 a5 a6 a7 a8 a9 a10 a11) = true/\qL (nL (lastz (g12 a0 a1 a2 a3 a4 a5 a6 a7 a8 a9 a10 a11))) zL12 = true/\ieq (invE (g12 a0 a1 a2 a3 a4 a5 a6 a7 a8 a9 a10 a11)) 6 = true/\endT) ?_ (by kernel_rfl)
    exact ⟨by rw [h1];rfl,by rw [h2];rfl,by rw [hy.2];rfl,h1,h2,qn_not hy.1,(z12_iff _).2 ha,by rw [qn_z,lastz_t ha];exact (z12_iff 0).2 rfl,by rw [invE_t ha];rfl,endT_ok⟩
   ·refine eSq mxd tK GPt_ok 200 [⟨2,2,.lit (.bo false)⟩,⟨2,6,.lit (.bo false)⟩,⟨5,1,.lit (.bo false)⟩,⟨5,7,.lit (.bo false)⟩,⟨8,1,.lit (.bo false)⟩,⟨10,1,.lit (.bo true)⟩,⟨10,7,.lit (.bo true)⟩] ?_
    refine same (p:=(!(lo1 px py && isE px py z)) = false/\(!(lo2 x0 x1 y0 y1 && isQ x0 x1 y0 y1 z2)) = false/\(!ieq (prI px py x0 x1 y0 y1 z z2) 0) = false/\(lo1 px py && isE px py z) = true/\(lo2 x0 x1 y0 y1 && isQ x0 x1 y0 y1 z2) = true/\(!qL (nL (prS px py x0 x1 y0 y1 z z2)) (nL (docP px py x0 x1 y0 y1 z z2))) = false/\z12 (g12 a0 a1 a2 a3 a4 a5 a6 a7 a8 a9 a10 a11) = false/\ieq (invE (g12 a0 a1 a2 a3 a4 a5 a6 a7 a8 a9 a10 a11)) 0 = true/\vL12 (g12 a0 a1 a2 a3 a4 a5 a6 a7 a8 a9 a10 a11) ((G12 (g12 a0 a1 a2 a3 a4 a5 a6 a7 a8 a9 a10 a11)) ≠ 0/\qL (nL (lastz (g12 a0 a1 a2 a3 a4 a5 a6 a7 a8 a9 a10 a11))) (nL (lastS (G12 (g12 a0 a1 a2 a3 a4 a5 a6 a7 a8 a9 a10 a11)))) = true/\endT)) ?_ (by kernel_rfl)
    exact ⟨by rw [h1];rfl,by rw [h2];rfl,by rw [hy.2];rfl,h1,h2,qn_not hy.1,z12_f ha,by rw [invE_f ha];rfl,lV _,lV _,lV _,lV _,lV _,lV _,lV _,lV _,lV _,lV _,lV _,lV _,by rw [G12_eq];exact ha,qn_of (by rw [G12_eq,lastz_f ha]),endT_ok⟩
theorem pairingTells_lifted (os:Os) (started:os.Started) (H:Type) (enc:TypeId × Value->H) :
  ReturnsInHanded {} Tryz.checked os 3 .any (Rows.pairingTellsSpec.pre6 enc Tryz.prog Tryz.f3 Rows.pairingTellsRow.domain false) (Rows.pairingTellsSpec.post enc Tryz.prog Tryz.f3 false true false false):=by
 refine returnsInHanded_of_change (C:=Tryz.checked) Tryz.own started (by kernel_rfl) Tryz.func3
  (ChangeSpec.witness6 (enc:=enc) (C:=Tryz.checked) false ⟨#[],#[.agg #[.int .u64 0,.int .u64 0,.int .u64 0,.int .u64 0,.int .u64 0,.int .u64 0,.int .u64 0,.int .u64 0,.int .u64 0,.int .u64 0,.int .u64 0,.int .u64 0,.bool false],.agg #[.int .u64 0,.int .u64 0,.int .u64 0,.int .u64 0,.int .u64 0,.int .u64 0,.int .u64 0,.int .u64 0,.int .u64 0,.int .u64 0,.int .u64 0,.int .u64 0,.int .u64 0,.int .u64 0,.int .u64 0,.int .u64 0,.int .u64 0,.int .u64 0,.int .u64 0,.int .u64 0,.int .u64 0,.int .u64 0,.int .u64 0,.int .u64 0,.bool false],.agg #[.int .u64 0,.int .u64 0,.int .u64 0,.int .u64 0,.int .u64 0,.int .u64 0,.int .u64 0,.int .u64 0,.int .u64 0,.int .u64 0,.int .u64 0,.int .u64 0,.int .u64 0,.int .u64 0,.int .u64 0,.int .u64 0,.int .u64 0,.int .u64 0,.int .u64 0,.int .u64 0,.int .u64 0,.int .u64 0,.int .u64 0,.int .u64 0,.int .u64 0,.int .u64 0,.int .u64 0,.int .u64 0,.int .u64 0,.int .u64 0,.int .u64 0,.int .u64 0,.int .u64 0,.int .u64 0,.int .u64 0,.int .u64 0,.int .u64 0,.int .u64 0,.int .u64 0,.int .u64 0,.int .u64 0,.int .u64 0,.int .u64 0,.int .u64 0,.int .u64 0,.int .u64 0,.int .u64 0,.int .u64 0,.int .u64 0,.int .u64 0,.int .u64 0,.int .u64 0,.int .u64 0,.int .u64 0,.int .u64 0,.int .u64 0,.int .u64 0,.int .u64 0,.int .u64 0,.int .u64 0,.int .u64 0,.int .u64 0,.int .u64 0,.int .u64 0,.int .u64 0,.int .u64 0,.int .u64 0,.int .u64 0,.int .u64 0,.int .u64 0,.int .u64 0,.int .u64 0]],[]⟩ 8 (by kernel_rfl) (by kernel_rfl) (by kernel_rfl) (by kernel_rfl)) ?_
 intro Wd base args ds gs before hval0 hW _ _
 have hval:∀ (j:Nat) t v,Tryz.f3.params[j]? = some t->args[j]? = some v->Value.okWide Tryz.prog Wd .any base t v:=hval0
 have hW':=hW
 obtain ⟨p,q,hA0,hV,rfl,_,_⟩:=hW
 have hA:DataW.TrodAll enc Tryz.prog Wd 0 (fun _=>true) true Tryz.f3.params.toList args.toList ds p:=hA0
 rw [Tryz.params3] at hA hval
 obtain ⟨v0,v1,v2,d0,d1,d2,p0,p1,p2,rfl,rfl,rfl,h0,h1,h2⟩:=trodAll_three hA
 obtain ⟨rfl,rfl⟩:=trodVars_none hV
 obtain ⟨x0,y0,z0,rfl,rfl,t0⟩:=p1_open h0 (hval 0 26 v0 rfl rfl)
 obtain ⟨x1,u1,y1,s1,z1,rfl,rfl,t1⟩:=p2_open h1 (hval 1 30 v1 rfl rfl)
 obtain ⟨x2a,x2b,x2c,x2d,x2e,x2f,x2g,x2h,x2i,x2j,x2k,x2l,rfl,rfl,t2⟩:=e12_open h2 (hval 2 32 v2 rfl rfl)
 clear hA0 hval0
 simp only [List.append_nil] at hW'
 refine (pairingTells_calls x0 y0 x1 u1 y1 s1 z0 z1 x2a x2b x2c x2d x2e x2f x2g x2h x2i x2j x2k x2l Wd).mono fun e W' ⟨he,hw⟩=>?_
 subst he
 exact ⟨_,rfl,post_same (pa:=[]) (pv:=[]) hW' (fun _ _ _=>trodAll_mk1 (shut_bool Tryz.underlying4 true)) (fun sp _=>trodAll_mk3 (t0 _ _ _ _) (t1 _ _ _ _) (t2 _ _ _ _)) (fun _ _=>rfl) rfl hw (ok_one (by kernel_rfl) rfl (okWide_bool_mk Tryz.underlying4 true))⟩
theorem pairingTells_holds:Rows.PairingTellsSaid :=
 OpenClaim.holds_of_wide 3 Tryz.f3 rfl rfl rfl rfl rfl rfl rfl ⟨rfl,rfl,rfl,rfl,rfl⟩ rfl rfl rfl rfl rfl (by kernel_rfl) Tryz.func3 (by kernel_rfl)
  (of_decide_eq_true (by kernel_rfl)) (by unfold Func.isWrapper;rw [if_neg (of_decide_eq_false (by kernel_rfl))];exact ⟨rfl,rfl⟩)
  (fun os started H enc _=>pairingTells_lifted os started H enc)
end Go.Proofs.YtnjocbcjejpklaaGreat
