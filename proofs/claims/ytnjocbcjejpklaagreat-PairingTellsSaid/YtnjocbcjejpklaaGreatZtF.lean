/- Texts of the proof, joined. -/
import Derived.Test.YtnjocbcjejpklaaGreatZtE
set_option linter.all false
namespace Go.Proofs.YtnjocbcjejpklaaGreat
open Go.Rq Go
set_option maxRecDepth 100000
set_option maxHeartbeats 4000000
abbrev fdQ:List Cell:=[.one (.fn 110 []),.one (.fn 111 []),.one (.fn 112 []),.one (.fn 113 []),q6 oneF,q6 fz,q6 (eF (ofN (nv (wd (4 % W))))),q6 (eF (ofN (nv (wd (4 % W)))))]
def jQ1 (F:J3 F2p->J3 F2p):List AV->Option (List Prop × AV)
 | [.v1 (.agg cs),.v1 (.agg [.ws .u64 6 x0,.ws .u64 6 x1,.ws .u64 6 y0,.ws .u64 6 y1,.ws .u64 6 z0,.ws .u64 6 z1])]=>some ([cs = fdQ,nv x0 < pN,nv x1 < pN,nv y0 < pN,nv y1 < pN,nv z0 < pN,nv z1 < pN],.v1 (.agg [q6 (eF (F (⟨(⟨dF x0,dF x1⟩:F2p),(⟨dF y0,dF y1⟩:F2p),(⟨dF z0,dF z1⟩:F2p)⟩:J3 F2p)).x.x),q6 (eF (F (⟨(⟨dF x0,dF x1⟩:F2p),(⟨dF y0,dF y1⟩:F2p),(⟨dF z0,dF z1⟩:F2p)⟩:J3 F2p)).x.y),q6 (eF (F (⟨(⟨dF x0,dF x1⟩:F2p),(⟨dF y0,dF y1⟩:F2p),(⟨dF z0,dF z1⟩:F2p)⟩:J3 F2p)).y.x),q6 (eF (F (⟨(⟨dF x0,dF x1⟩:F2p),(⟨dF y0,dF y1⟩:F2p),(⟨dF z0,dF z1⟩:F2p)⟩:J3 F2p)).y.y),q6 (eF (F (⟨(⟨dF x0,dF x1⟩:F2p),(⟨dF y0,dF y1⟩:F2p),(⟨dF z0,dF z1⟩:F2p)⟩:J3 F2p)).z.x),q6 (eF (F (⟨(⟨dF x0,dF x1⟩:F2p),(⟨dF y0,dF y1⟩:F2p),(⟨dF z0,dF z1⟩:F2p)⟩:J3 F2p)).z.y)]))
 | _=>none
def jQ2 (F:J3 F2p->J3 F2p->J3 F2p):List AV->Option (List Prop × AV)
 | [.v1 (.agg cs),.v1 (.agg [.ws .u64 6 x0,.ws .u64 6 x1,.ws .u64 6 y0,.ws .u64 6 y1,.ws .u64 6 z0,.ws .u64 6 z1]),.v1 (.agg [.ws .u64 6 u0,.ws .u64 6 u1,.ws .u64 6 v0,.ws .u64 6 v1,.ws .u64 6 w0,.ws .u64 6 w1])]=>some ([cs = fdQ,nv x0 < pN,nv x1 < pN,nv y0 < pN,nv y1 < pN,nv z0 < pN,nv z1 < pN,nv u0 < pN,nv u1 < pN,nv v0 < pN,nv v1 < pN,nv w0 < pN,nv w1 < pN],.v1 (.agg [q6 (eF (F (⟨(⟨dF x0,dF x1⟩:F2p),(⟨dF y0,dF y1⟩:F2p),(⟨dF z0,dF z1⟩:F2p)⟩:J3 F2p) (⟨(⟨dF u0,dF u1⟩:F2p),(⟨dF v0,dF v1⟩:F2p),(⟨dF w0,dF w1⟩:F2p)⟩:J3 F2p)).x.x),q6 (eF (F (⟨(⟨dF x0,dF x1⟩:F2p),(⟨dF y0,dF y1⟩:F2p),(⟨dF z0,dF z1⟩:F2p)⟩:J3 F2p) (⟨(⟨dF u0,dF u1⟩:F2p),(⟨dF v0,dF v1⟩:F2p),(⟨dF w0,dF w1⟩:F2p)⟩:J3 F2p)).x.y),q6 (eF (F (⟨(⟨dF x0,dF x1⟩:F2p),(⟨dF y0,dF y1⟩:F2p),(⟨dF z0,dF z1⟩:F2p)⟩:J3 F2p) (⟨(⟨dF u0,dF u1⟩:F2p),(⟨dF v0,dF v1⟩:F2p),(⟨dF w0,dF w1⟩:F2p)⟩:J3 F2p)).y.x),q6 (eF (F (⟨(⟨dF x0,dF x1⟩:F2p),(⟨dF y0,dF y1⟩:F2p),(⟨dF z0,dF z1⟩:F2p)⟩:J3 F2p) (⟨(⟨dF u0,dF u1⟩:F2p),(⟨dF v0,dF v1⟩:F2p),(⟨dF w0,dF w1⟩:F2p)⟩:J3 F2p)).y.y),q6 (eF (F (⟨(⟨dF x0,dF x1⟩:F2p),(⟨dF y0,dF y1⟩:F2p),(⟨dF z0,dF z1⟩:F2p)⟩:J3 F2p) (⟨(⟨dF u0,dF u1⟩:F2p),(⟨dF v0,dF v1⟩:F2p),(⟨dF w0,dF w1⟩:F2p)⟩:J3 F2p)).z.x),q6 (eF (F (⟨(⟨dF x0,dF x1⟩:F2p),(⟨dF y0,dF y1⟩:F2p),(⟨dF z0,dF z1⟩:F2p)⟩:J3 F2p) (⟨(⟨dF u0,dF u1⟩:F2p),(⟨dF v0,dF v1⟩:F2p),(⟨dF w0,dF w1⟩:F2p)⟩:J3 F2p)).z.y)]))
 | _=>none
def GCQ:List (Nat × CallC):=[(110,.pure (q2 add2x add2y)),(111,.pure (q2 sub2x sub2y)),(112,.pure (q2 mul2x mul2y)),(113,.pure (q1 inv2x inv2y))]
theorem GCQ_ok:CtxOk Tryz.prog (ctxL GCQ):=cxC okAdd2 <| cxC okSub2 <| cxC okMul2 <| cxC okMInv2 cxN
theorem okTwQ:(CallC.pure (jQ1 J3.dbl)).Ok Tryz.prog 167:=by
 intro args pre v e hp
 unfold jQ1 at e
 split at e
 rotate_left
 ·cases e
 rename_i cs x0 x1 y0 y1 z0 z1
 cases e
 have hcs:cs = fdQ:=hp _ (by simp)
 subst hcs
 have hx0:nv x0 < pN:=hp _ (by simp)
 have hx1:nv x1 < pN:=hp _ (by simp)
 have hy0:nv y0 < pN:=hp _ (by simp)
 have hy1:nv y1 < pN:=hp _ (by simp)
 have hz0:nv z0 < pN:=hp _ (by simp)
 have hz1:nv z1 < pN:=hp _ (by simp)
 refine pWk tK Tryz.func167 (by kernel_rfl) (by kernel_rfl) (by rfl) (by rfl) ?_
 obtain ⟨t1,ht1⟩:=exq ((⟨dF y0,dF y1⟩:F2p) * (⟨dF y0,dF y1⟩:F2p))
 obtain ⟨t2,ht2⟩:=exq ((⟨dF x0,dF x1⟩:F2p) * t1)
 obtain ⟨t3,ht3⟩:=exq (t2 + t2)
 obtain ⟨t4,ht4⟩:=exq (t3 + t3)
 obtain ⟨t5,ht5⟩:=exq ((⟨dF x0,dF x1⟩:F2p) * (⟨dF x0,dF x1⟩:F2p))
 obtain ⟨t6,ht6⟩:=exq (t5 + t5)
 obtain ⟨t7,ht7⟩:=exq (t6 + t5)
 obtain ⟨t8,ht8⟩:=exq (t7 * t7)
 obtain ⟨t9,ht9⟩:=exq (t4 + t4)
 obtain ⟨t10,ht10⟩:=exq (t8 - t9)
 obtain ⟨t11,ht11⟩:=exq (t1 * t1)
 obtain ⟨t12,ht12⟩:=exq (t11 + t11)
 obtain ⟨t13,ht13⟩:=exq (t12 + t12)
 obtain ⟨t14,ht14⟩:=exq (t13 + t13)
 obtain ⟨t15,ht15⟩:=exq ((⟨dF y0,dF y1⟩:F2p) * (⟨dF z0,dF z1⟩:F2p))
 obtain ⟨t16,ht16⟩:=exq (t4 - t10)
 obtain ⟨t17,ht17⟩:=exq (t7 * t16)
 obtain ⟨t18,ht18⟩:=exq (t17 - t14)
 obtain ⟨t19,ht19⟩:=exq (t15 + t15)
 refine eSq mxd tK GCQ_ok 200 [⟨1,6,.as (eC2 t1)⟩,⟨2,5,.as (eC2 t2)⟩,⟨3,4,.as (eC2 t3)⟩,⟨4,4,.as (eC2 t4)⟩,⟨5,6,.as (eC2 t5)⟩,⟨6,6,.as (eC2 t6)⟩,⟨6,8,.as (eC2 t7)⟩,⟨7,6,.as (eC2 t8)⟩,⟨7,11,.as (eC2 t9)⟩,⟨7,12,.as (eC2 t10)⟩,⟨8,4,.as (eC2 t11)⟩,⟨9,4,.as (eC2 t12)⟩,⟨10,4,.as (eC2 t13)⟩,⟨11,4,.as (eC2 t14)⟩,⟨12,6,.as (eC2 t15)⟩,⟨13,10,.as (eC2 t16)⟩,⟨13,11,.as (eC2 t17)⟩,⟨13,13,.as (eC2 t18)⟩,⟨13,18,.as (eC2 t19)⟩] ?_
 refine same (p:=asP (eD4 mul2x mul2y (dF y0) (dF y1) (dF y0) (dF y1)) (eC2 t1)/\lp y0/\lp y1/\lp y0/\lp y1/\asP (eD4 mul2x mul2y (dF x0) (dF x1) (dF (eF t1.x)) (dF (eF t1.y))) (eC2 t2)/\lp x0/\lp x1/\lp (eF t1.x)/\lp (eF t1.y)/\asP (eD4 add2x add2y (dF (eF t2.x)) (dF (eF t2.y)) (dF (eF t2.x)) (dF (eF t2.y))) (eC2 t3)/\lp (eF t2.x)/\lp (eF t2.y)/\lp (eF t2.x)/\lp (eF t2.y)/\asP (eD4 add2x add2y (dF (eF t3.x)) (dF (eF t3.y)) (dF (eF t3.x)) (dF (eF t3.y))) (eC2 t4)/\lp (eF t3.x)/\lp (eF t3.y)/\lp (eF t3.x)/\lp (eF t3.y)/\asP (eD4 mul2x mul2y (dF x0) (dF x1) (dF x0) (dF x1)) (eC2 t5)/\lp x0/\lp x1/\lp x0/\lp x1/\asP (eD4 add2x add2y (dF (eF t5.x)) (dF (eF t5.y)) (dF (eF t5.x)) (dF (eF t5.y))) (eC2 t6)/\lp (eF t5.x)/\lp (eF t5.y)/\lp (eF t5.x)/\lp (eF t5.y)/\asP (eD4 add2x add2y (dF (eF t6.x)) (dF (eF t6.y)) (dF (eF t5.x)) (dF (eF t5.y))) (eC2 t7)/\lp (eF t6.x)/\lp (eF t6.y)/\lp (eF t5.x)/\lp (eF t5.y)/\asP (eD4 mul2x mul2y (dF (eF t7.x)) (dF (eF t7.y)) (dF (eF t7.x)) (dF (eF t7.y))) (eC2 t8)/\lp (eF t7.x)/\lp (eF t7.y)/\lp (eF t7.x)/\lp (eF t7.y)/\asP (eD4 add2x add2y (dF (eF t4.x)) (dF (eF t4.y)) (dF (eF t4.x)) (dF (eF t4.y))) (eC2 t9)/\lp (eF t4.x)/\lp (eF t4.y)/\lp (eF t4.x)/\lp (eF t4.y)/\asP (eD4 sub2x sub2y (dF (eF t8.x)) (dF (eF t8.y)) (dF (eF t9.x)) (dF (eF t9.y))) (eC2 t10)/\lp (eF t8.x)/\lp (eF t8.y)/\lp (eF t9.x)/\lp (eF t9.y)/\asP (eD4 mul2x mul2y (dF (eF t1.x)) (dF (eF t1.y)) (dF (eF t1.x)) (dF (eF t1.y))) (eC2 t11)/\lp (eF t1.x)/\lp (eF t1.y)/\lp (eF t1.x)/\lp (eF t1.y)/\asP (eD4 add2x add2y (dF (eF t11.x)) (dF (eF t11.y)) (dF (eF t11.x)) (dF (eF t11.y))) (eC2 t12)/\lp (eF t11.x)/\lp (eF t11.y)/\lp (eF t11.x)/\lp (eF t11.y)/\asP (eD4 add2x add2y (dF (eF t12.x)) (dF (eF t12.y)) (dF (eF t12.x)) (dF (eF t12.y))) (eC2 t13)/\lp (eF t12.x)/\lp (eF t12.y)/\lp (eF t12.x)/\lp (eF t12.y)/\asP (eD4 add2x add2y (dF (eF t13.x)) (dF (eF t13.y)) (dF (eF t13.x)) (dF (eF t13.y))) (eC2 t14)/\lp (eF t13.x)/\lp (eF t13.y)/\lp (eF t13.x)/\lp (eF t13.y)/\asP (eD4 mul2x mul2y (dF y0) (dF y1) (dF z0) (dF z1)) (eC2 t15)/\lp y0/\lp y1/\lp z0/\lp z1/\asP (eD4 sub2x sub2y (dF (eF t4.x)) (dF (eF t4.y)) (dF (eF t10.x)) (dF (eF t10.y))) (eC2 t16)/\lp (eF t4.x)/\lp (eF t4.y)/\lp (eF t10.x)/\lp (eF t10.y)/\asP (eD4 mul2x mul2y (dF (eF t7.x)) (dF (eF t7.y)) (dF (eF t16.x)) (dF (eF t16.y))) (eC2 t17)/\lp (eF t7.x)/\lp (eF t7.y)/\lp (eF t16.x)/\lp (eF t16.y)/\asP (eD4 sub2x sub2y (dF (eF t17.x)) (dF (eF t17.y)) (dF (eF t14.x)) (dF (eF t14.y))) (eC2 t18)/\lp (eF t17.x)/\lp (eF t17.y)/\lp (eF t14.x)/\lp (eF t14.y)/\asP (eD4 add2x add2y (dF (eF t15.x)) (dF (eF t15.y)) (dF (eF t15.x)) (dF (eF t15.y))) (eC2 t19)/\lp (eF t15.x)/\lp (eF t15.y)/\lp (eF t15.x)/\lp (eF t15.y)/\endN (.v1 (.agg [q6 (eF t10.x),q6 (eF t10.y),q6 (eF t18.x),q6 (eF t18.y),q6 (eF t19.x),q6 (eF t19.y)])) (.v1 (.agg [q6 (eF (J3.dbl (⟨(⟨dF x0,dF x1⟩:F2p),(⟨dF y0,dF y1⟩:F2p),(⟨dF z0,dF z1⟩:F2p)⟩:J3 F2p)).x.x),q6 (eF (J3.dbl (⟨(⟨dF x0,dF x1⟩:F2p),(⟨dF y0,dF y1⟩:F2p),(⟨dF z0,dF z1⟩:F2p)⟩:J3 F2p)).x.y),q6 (eF (J3.dbl (⟨(⟨dF x0,dF x1⟩:F2p),(⟨dF y0,dF y1⟩:F2p),(⟨dF z0,dF z1⟩:F2p)⟩:J3 F2p)).y.x),q6 (eF (J3.dbl (⟨(⟨dF x0,dF x1⟩:F2p),(⟨dF y0,dF y1⟩:F2p),(⟨dF z0,dF z1⟩:F2p)⟩:J3 F2p)).y.y),q6 (eF (J3.dbl (⟨(⟨dF x0,dF x1⟩:F2p),(⟨dF y0,dF y1⟩:F2p),(⟨dF z0,dF z1⟩:F2p)⟩:J3 F2p)).z.x),q6 (eF (J3.dbl (⟨(⟨dF x0,dF x1⟩:F2p),(⟨dF y0,dF y1⟩:F2p),(⟨dF z0,dF z1⟩:F2p)⟩:J3 F2p)).z.y)]))) ?_ (by kernel_rfl)
 exact ⟨aMQ rfl rfl rfl rfl ht1,hy0,hy1,hy0,hy1,aMQ rfl rfl (qE _) (qE _) ht2,hx0,hx1,lE _,lE _,as_addQ (qE _) (qE _) (qE _) (qE _) ht3,lE _,lE _,lE _,lE _,as_addQ (qE _) (qE _) (qE _) (qE _) ht4,lE _,lE _,lE _,lE _,aMQ rfl rfl rfl rfl ht5,hx0,hx1,hx0,hx1,as_addQ (qE _) (qE _) (qE _) (qE _) ht6,lE _,lE _,lE _,lE _,as_addQ (qE _) (qE _) (qE _) (qE _) ht7,lE _,lE _,lE _,lE _,aMQ (qE _) (qE _) (qE _) (qE _) ht8,lE _,lE _,lE _,lE _,as_addQ (qE _) (qE _) (qE _) (qE _) ht9,lE _,lE _,lE _,lE _,as_subQ (qE _) (qE _) (qE _) (qE _) ht10,lE _,lE _,lE _,lE _,aMQ (qE _) (qE _) (qE _) (qE _) ht11,lE _,lE _,lE _,lE _,as_addQ (qE _) (qE _) (qE _) (qE _) ht12,lE _,lE _,lE _,lE _,as_addQ (qE _) (qE _) (qE _) (qE _) ht13,lE _,lE _,lE _,lE _,as_addQ (qE _) (qE _) (qE _) (qE _) ht14,lE _,lE _,lE _,lE _,aMQ rfl rfl rfl rfl ht15,hy0,hy1,hz0,hz1,as_subQ (qE _) (qE _) (qE _) (qE _) ht16,lE _,lE _,lE _,lE _,aMQ (qE _) (qE _) (qE _) (qE _) ht17,lE _,lE _,lE _,lE _,as_subQ (qE _) (qE _) (qE _) (qE _) ht18,lE _,lE _,lE _,lE _,as_addQ (qE _) (qE _) (qE _) (qE _) ht19,lE _,lE _,lE _,lE _,endC (cvS (nv_tx (by subst ht19 ht18 ht17 ht16 ht15 ht14 ht13 ht12 ht11 ht10 ht9 ht8 ht7 ht6 ht5 ht4 ht3 ht2 ht1;rfl)) (cvS (nv_ty (by subst ht19 ht18 ht17 ht16 ht15 ht14 ht13 ht12 ht11 ht10 ht9 ht8 ht7 ht6 ht5 ht4 ht3 ht2 ht1;rfl)) (cvS (nv_tx (by subst ht19 ht18 ht17 ht16 ht15 ht14 ht13 ht12 ht11 ht10 ht9 ht8 ht7 ht6 ht5 ht4 ht3 ht2 ht1;rfl)) (cvS (nv_ty (by subst ht19 ht18 ht17 ht16 ht15 ht14 ht13 ht12 ht11 ht10 ht9 ht8 ht7 ht6 ht5 ht4 ht3 ht2 ht1;rfl)) (cvS (nv_tx (by subst ht19 ht18 ht17 ht16 ht15 ht14 ht13 ht12 ht11 ht10 ht9 ht8 ht7 ht6 ht5 ht4 ht3 ht2 ht1;rfl)) (cvS (nv_ty (by subst ht19 ht18 ht17 ht16 ht15 ht14 ht13 ht12 ht11 ht10 ht9 ht8 ht7 ht6 ht5 ht4 ht3 ht2 ht1;rfl)) (cv_nil)))))))⟩
def GSQ:List (Nat × CallC):=(167,.pure (jQ1 J3.dbl)) :: GCQ
theorem GSQ_ok:CtxOk Tryz.prog (ctxL GSQ):=cxC okTwQ GCQ_ok
theorem okSmQ:(CallC.pure (jQ2 J3.add)).Ok Tryz.prog 168:=by
 intro args pre v e hp
 unfold jQ2 at e
 split at e
 rotate_left
 ·cases e
 rename_i cs x0 x1 y0 y1 z0 z1 u0 u1 v0 v1 w0 w1
 cases e
 have hcs:cs = fdQ:=hp _ (by simp)
 subst hcs
 have hx0:nv x0 < pN:=hp _ (by simp)
 have hx1:nv x1 < pN:=hp _ (by simp)
 have hy0:nv y0 < pN:=hp _ (by simp)
 have hy1:nv y1 < pN:=hp _ (by simp)
 have hz0:nv z0 < pN:=hp _ (by simp)
 have hz1:nv z1 < pN:=hp _ (by simp)
 have hu0:nv u0 < pN:=hp _ (by simp)
 have hu1:nv u1 < pN:=hp _ (by simp)
 have hv0:nv v0 < pN:=hp _ (by simp)
 have hv1:nv v1 < pN:=hp _ (by simp)
 have hw0:nv w0 < pN:=hp _ (by simp)
 have hw1:nv w1 < pN:=hp _ (by simp)
 refine pWk tK Tryz.func168 (by kernel_rfl) (by kernel_rfl) (by rfl) (by rfl) ?_
 by_cases hZZ:(⟨dF z0,dF z1⟩:F2p) = 0
 ·have hadd:J3.add (⟨(⟨dF x0,dF x1⟩:F2p),(⟨dF y0,dF y1⟩:F2p),(⟨dF z0,dF z1⟩:F2p)⟩:J3 F2p) (⟨(⟨dF u0,dF u1⟩:F2p),(⟨dF v0,dF v1⟩:F2p),(⟨dF w0,dF w1⟩:F2p)⟩:J3 F2p) = (⟨(⟨dF u0,dF u1⟩:F2p),(⟨dF v0,dF v1⟩:F2p),(⟨dF w0,dF w1⟩:F2p)⟩:J3 F2p):=if_pos hZZ
  rw [hadd]
  refine eSq mxd tK GSQ_ok 100 [⟨2,3,.lit (.bo true)⟩] ?_
  refine same (p:=(eqN W 6 z0 fz && (eqN W 6 z1 fz && true)) = true/\endN (.v1 (.agg [q6 u0,q6 u1,q6 v0,q6 v1,q6 w0,q6 w1])) (.v1 (.agg [q6 (eF ((⟨(⟨dF u0,dF u1⟩:F2p),(⟨dF v0,dF v1⟩:F2p),(⟨dF w0,dF w1⟩:F2p)⟩:J3 F2p)).x.x),q6 (eF ((⟨(⟨dF u0,dF u1⟩:F2p),(⟨dF v0,dF v1⟩:F2p),(⟨dF w0,dF w1⟩:F2p)⟩:J3 F2p)).x.y),q6 (eF ((⟨(⟨dF u0,dF u1⟩:F2p),(⟨dF v0,dF v1⟩:F2p),(⟨dF w0,dF w1⟩:F2p)⟩:J3 F2p)).y.x),q6 (eF ((⟨(⟨dF u0,dF u1⟩:F2p),(⟨dF v0,dF v1⟩:F2p),(⟨dF w0,dF w1⟩:F2p)⟩:J3 F2p)).y.y),q6 (eF ((⟨(⟨dF u0,dF u1⟩:F2p),(⟨dF v0,dF v1⟩:F2p),(⟨dF w0,dF w1⟩:F2p)⟩:J3 F2p)).z.x),q6 (eF ((⟨(⟨dF u0,dF u1⟩:F2p),(⟨dF v0,dF v1⟩:F2p),(⟨dF w0,dF w1⟩:F2p)⟩:J3 F2p)).z.y)]))) ?_ (by kernel_rfl)
  exact ⟨zQ_t hz0 hz1 hZZ,endC (cvS (nv_d hu0) (cvS (nv_d hu1) (cvS (nv_d hv0) (cvS (nv_d hv1) (cvS (nv_d hw0) (cvS (nv_d hw1) (cv_nil)))))))⟩
 ·by_cases hWW:(⟨dF w0,dF w1⟩:F2p) = 0
  ·have hadd:J3.add (⟨(⟨dF x0,dF x1⟩:F2p),(⟨dF y0,dF y1⟩:F2p),(⟨dF z0,dF z1⟩:F2p)⟩:J3 F2p) (⟨(⟨dF u0,dF u1⟩:F2p),(⟨dF v0,dF v1⟩:F2p),(⟨dF w0,dF w1⟩:F2p)⟩:J3 F2p) = (⟨(⟨dF x0,dF x1⟩:F2p),(⟨dF y0,dF y1⟩:F2p),(⟨dF z0,dF z1⟩:F2p)⟩:J3 F2p):=(if_neg hZZ).trans (if_pos hWW)
   rw [hadd]
   refine eSq mxd tK GSQ_ok 100 [⟨2,3,.lit (.bo false)⟩,⟨4,3,.lit (.bo true)⟩] ?_
   refine same (p:=(eqN W 6 z0 fz && (eqN W 6 z1 fz && true)) = false/\(eqN W 6 w0 fz && (eqN W 6 w1 fz && true)) = true/\endN (.v1 (.agg [q6 x0,q6 x1,q6 y0,q6 y1,q6 z0,q6 z1])) (.v1 (.agg [q6 (eF ((⟨(⟨dF x0,dF x1⟩:F2p),(⟨dF y0,dF y1⟩:F2p),(⟨dF z0,dF z1⟩:F2p)⟩:J3 F2p)).x.x),q6 (eF ((⟨(⟨dF x0,dF x1⟩:F2p),(⟨dF y0,dF y1⟩:F2p),(⟨dF z0,dF z1⟩:F2p)⟩:J3 F2p)).x.y),q6 (eF ((⟨(⟨dF x0,dF x1⟩:F2p),(⟨dF y0,dF y1⟩:F2p),(⟨dF z0,dF z1⟩:F2p)⟩:J3 F2p)).y.x),q6 (eF ((⟨(⟨dF x0,dF x1⟩:F2p),(⟨dF y0,dF y1⟩:F2p),(⟨dF z0,dF z1⟩:F2p)⟩:J3 F2p)).y.y),q6 (eF ((⟨(⟨dF x0,dF x1⟩:F2p),(⟨dF y0,dF y1⟩:F2p),(⟨dF z0,dF z1⟩:F2p)⟩:J3 F2p)).z.x),q6 (eF ((⟨(⟨dF x0,dF x1⟩:F2p),(⟨dF y0,dF y1⟩:F2p),(⟨dF z0,dF z1⟩:F2p)⟩:J3 F2p)).z.y)]))) ?_ (by kernel_rfl)
   exact ⟨zQ_f hz0 hz1 hZZ,zQ_t hw0 hw1 hWW,endC (cvS (nv_d hx0) (cvS (nv_d hx1) (cvS (nv_d hy0) (cvS (nv_d hy1) (cvS (nv_d hz0) (cvS (nv_d hz1) (cv_nil)))))))⟩
  ·have hadd0:J3.add (⟨(⟨dF x0,dF x1⟩:F2p),(⟨dF y0,dF y1⟩:F2p),(⟨dF z0,dF z1⟩:F2p)⟩:J3 F2p) (⟨(⟨dF u0,dF u1⟩:F2p),(⟨dF v0,dF v1⟩:F2p),(⟨dF w0,dF w1⟩:F2p)⟩:J3 F2p) = if J3.hh (⟨(⟨dF x0,dF x1⟩:F2p),(⟨dF y0,dF y1⟩:F2p),(⟨dF z0,dF z1⟩:F2p)⟩:J3 F2p) (⟨(⟨dF u0,dF u1⟩:F2p),(⟨dF v0,dF v1⟩:F2p),(⟨dF w0,dF w1⟩:F2p)⟩:J3 F2p) = 0 then (if J3.rr (⟨(⟨dF x0,dF x1⟩:F2p),(⟨dF y0,dF y1⟩:F2p),(⟨dF z0,dF z1⟩:F2p)⟩:J3 F2p) (⟨(⟨dF u0,dF u1⟩:F2p),(⟨dF v0,dF v1⟩:F2p),(⟨dF w0,dF w1⟩:F2p)⟩:J3 F2p) = 0 then J3.dbl (⟨(⟨dF x0,dF x1⟩:F2p),(⟨dF y0,dF y1⟩:F2p),(⟨dF z0,dF z1⟩:F2p)⟩:J3 F2p) else J3.nil) else J3.gen (⟨(⟨dF x0,dF x1⟩:F2p),(⟨dF y0,dF y1⟩:F2p),(⟨dF z0,dF z1⟩:F2p)⟩:J3 F2p) (⟨(⟨dF u0,dF u1⟩:F2p),(⟨dF v0,dF v1⟩:F2p),(⟨dF w0,dF w1⟩:F2p)⟩:J3 F2p):=(if_neg hZZ).trans (if_neg hWW)
   by_cases hh0:J3.hh (⟨(⟨dF x0,dF x1⟩:F2p),(⟨dF y0,dF y1⟩:F2p),(⟨dF z0,dF z1⟩:F2p)⟩:J3 F2p) (⟨(⟨dF u0,dF u1⟩:F2p),(⟨dF v0,dF v1⟩:F2p),(⟨dF w0,dF w1⟩:F2p)⟩:J3 F2p) = 0
   ·by_cases hr0:J3.rr (⟨(⟨dF x0,dF x1⟩:F2p),(⟨dF y0,dF y1⟩:F2p),(⟨dF z0,dF z1⟩:F2p)⟩:J3 F2p) (⟨(⟨dF u0,dF u1⟩:F2p),(⟨dF v0,dF v1⟩:F2p),(⟨dF w0,dF w1⟩:F2p)⟩:J3 F2p) = 0
    ·have hadd:J3.add (⟨(⟨dF x0,dF x1⟩:F2p),(⟨dF y0,dF y1⟩:F2p),(⟨dF z0,dF z1⟩:F2p)⟩:J3 F2p) (⟨(⟨dF u0,dF u1⟩:F2p),(⟨dF v0,dF v1⟩:F2p),(⟨dF w0,dF w1⟩:F2p)⟩:J3 F2p) = J3.dbl (⟨(⟨dF x0,dF x1⟩:F2p),(⟨dF y0,dF y1⟩:F2p),(⟨dF z0,dF z1⟩:F2p)⟩:J3 F2p):=hadd0.trans ((if_pos hh0).trans (if_pos hr0))
     rw [hadd]
     obtain ⟨t1,ht1⟩:=exq ((⟨dF z0,dF z1⟩:F2p) * (⟨dF z0,dF z1⟩:F2p))
     obtain ⟨t2,ht2⟩:=exq ((⟨dF w0,dF w1⟩:F2p) * (⟨dF w0,dF w1⟩:F2p))
     obtain ⟨t3,ht3⟩:=exq ((⟨dF x0,dF x1⟩:F2p) * t2)
     obtain ⟨t4,ht4⟩:=exq ((⟨dF u0,dF u1⟩:F2p) * t1)
     obtain ⟨t5,ht5⟩:=exq (t2 * (⟨dF w0,dF w1⟩:F2p))
     obtain ⟨t6,ht6⟩:=exq ((⟨dF y0,dF y1⟩:F2p) * t5)
     obtain ⟨t7,ht7⟩:=exq (t1 * (⟨dF z0,dF z1⟩:F2p))
     obtain ⟨t8,ht8⟩:=exq ((⟨dF v0,dF v1⟩:F2p) * t7)
     obtain ⟨t9,ht9⟩:=exq (t4 - t3)
     obtain ⟨t10,ht10⟩:=exq (t8 - t6)
     refine eSq mxd tK GSQ_ok 200 [⟨2,3,.lit (.bo false)⟩,⟨4,3,.lit (.bo false)⟩,⟨6,6,.as (eC2 t1)⟩,⟨6,13,.as (eC2 t2)⟩,⟨7,5,.as (eC2 t3)⟩,⟨7,11,.as (eC2 t4)⟩,⟨8,9,.as (eC2 t5)⟩,⟨8,10,.as (eC2 t6)⟩,⟨8,20,.as (eC2 t7)⟩,⟨8,21,.as (eC2 t8)⟩,⟨9,4,.as (eC2 t9)⟩,⟨9,9,.as (eC2 t10)⟩,⟨10,2,.lit (.bo true)⟩,⟨11,2,.lit (.bo true)⟩] ?_
     refine same (p:=(eqN W 6 z0 fz && (eqN W 6 z1 fz && true)) = false/\(eqN W 6 w0 fz && (eqN W 6 w1 fz && true)) = false/\asP (eD4 mul2x mul2y (dF z0) (dF z1) (dF z0) (dF z1)) (eC2 t1)/\lp z0/\lp z1/\lp z0/\lp z1/\asP (eD4 mul2x mul2y (dF w0) (dF w1) (dF w0) (dF w1)) (eC2 t2)/\lp w0/\lp w1/\lp w0/\lp w1/\asP (eD4 mul2x mul2y (dF x0) (dF x1) (dF (eF t2.x)) (dF (eF t2.y))) (eC2 t3)/\lp x0/\lp x1/\lp (eF t2.x)/\lp (eF t2.y)/\asP (eD4 mul2x mul2y (dF u0) (dF u1) (dF (eF t1.x)) (dF (eF t1.y))) (eC2 t4)/\lp u0/\lp u1/\lp (eF t1.x)/\lp (eF t1.y)/\asP (eD4 mul2x mul2y (dF (eF t2.x)) (dF (eF t2.y)) (dF w0) (dF w1)) (eC2 t5)/\lp (eF t2.x)/\lp (eF t2.y)/\lp w0/\lp w1/\asP (eD4 mul2x mul2y (dF y0) (dF y1) (dF (eF t5.x)) (dF (eF t5.y))) (eC2 t6)/\lp y0/\lp y1/\lp (eF t5.x)/\lp (eF t5.y)/\asP (eD4 mul2x mul2y (dF (eF t1.x)) (dF (eF t1.y)) (dF z0) (dF z1)) (eC2 t7)/\lp (eF t1.x)/\lp (eF t1.y)/\lp z0/\lp z1/\asP (eD4 mul2x mul2y (dF v0) (dF v1) (dF (eF t7.x)) (dF (eF t7.y))) (eC2 t8)/\lp v0/\lp v1/\lp (eF t7.x)/\lp (eF t7.y)/\asP (eD4 sub2x sub2y (dF (eF t4.x)) (dF (eF t4.y)) (dF (eF t3.x)) (dF (eF t3.y))) (eC2 t9)/\lp (eF t4.x)/\lp (eF t4.y)/\lp (eF t3.x)/\lp (eF t3.y)/\asP (eD4 sub2x sub2y (dF (eF t8.x)) (dF (eF t8.y)) (dF (eF t6.x)) (dF (eF t6.y))) (eC2 t10)/\lp (eF t8.x)/\lp (eF t8.y)/\lp (eF t6.x)/\lp (eF t6.y)/\(eqN W 6 (eF t9.x) fz && (eqN W 6 (eF t9.y) fz && true)) = true/\(eqN W 6 (eF t10.x) fz && (eqN W 6 (eF t10.y) fz && true)) = true/\fdQ = fdQ/\lp x0/\lp x1/\lp y0/\lp y1/\lp z0/\lp z1/\endN (.v1 (.agg [q6 (eF (J3.dbl (⟨(⟨dF x0,dF x1⟩:F2p),(⟨dF y0,dF y1⟩:F2p),(⟨dF z0,dF z1⟩:F2p)⟩:J3 F2p)).x.x),q6 (eF (J3.dbl (⟨(⟨dF x0,dF x1⟩:F2p),(⟨dF y0,dF y1⟩:F2p),(⟨dF z0,dF z1⟩:F2p)⟩:J3 F2p)).x.y),q6 (eF (J3.dbl (⟨(⟨dF x0,dF x1⟩:F2p),(⟨dF y0,dF y1⟩:F2p),(⟨dF z0,dF z1⟩:F2p)⟩:J3 F2p)).y.x),q6 (eF (J3.dbl (⟨(⟨dF x0,dF x1⟩:F2p),(⟨dF y0,dF y1⟩:F2p),(⟨dF z0,dF z1⟩:F2p)⟩:J3 F2p)).y.y),q6 (eF (J3.dbl (⟨(⟨dF x0,dF x1⟩:F2p),(⟨dF y0,dF y1⟩:F2p),(⟨dF z0,dF z1⟩:F2p)⟩:J3 F2p)).z.x),q6 (eF (J3.dbl (⟨(⟨dF x0,dF x1⟩:F2p),(⟨dF y0,dF y1⟩:F2p),(⟨dF z0,dF z1⟩:F2p)⟩:J3 F2p)).z.y)])) (.v1 (.agg [q6 (eF (J3.dbl (⟨(⟨dF x0,dF x1⟩:F2p),(⟨dF y0,dF y1⟩:F2p),(⟨dF z0,dF z1⟩:F2p)⟩:J3 F2p)).x.x),q6 (eF (J3.dbl (⟨(⟨dF x0,dF x1⟩:F2p),(⟨dF y0,dF y1⟩:F2p),(⟨dF z0,dF z1⟩:F2p)⟩:J3 F2p)).x.y),q6 (eF (J3.dbl (⟨(⟨dF x0,dF x1⟩:F2p),(⟨dF y0,dF y1⟩:F2p),(⟨dF z0,dF z1⟩:F2p)⟩:J3 F2p)).y.x),q6 (eF (J3.dbl (⟨(⟨dF x0,dF x1⟩:F2p),(⟨dF y0,dF y1⟩:F2p),(⟨dF z0,dF z1⟩:F2p)⟩:J3 F2p)).y.y),q6 (eF (J3.dbl (⟨(⟨dF x0,dF x1⟩:F2p),(⟨dF y0,dF y1⟩:F2p),(⟨dF z0,dF z1⟩:F2p)⟩:J3 F2p)).z.x),q6 (eF (J3.dbl (⟨(⟨dF x0,dF x1⟩:F2p),(⟨dF y0,dF y1⟩:F2p),(⟨dF z0,dF z1⟩:F2p)⟩:J3 F2p)).z.y)]))) ?_ (by kernel_rfl)
     exact ⟨zQ_f hz0 hz1 hZZ,zQ_f hw0 hw1 hWW,aMQ rfl rfl rfl rfl ht1,hz0,hz1,hz0,hz1,aMQ rfl rfl rfl rfl ht2,hw0,hw1,hw0,hw1,aMQ rfl rfl (qE _) (qE _) ht3,hx0,hx1,lE _,lE _,aMQ rfl rfl (qE _) (qE _) ht4,hu0,hu1,lE _,lE _,aMQ (qE _) (qE _) rfl rfl ht5,lE _,lE _,hw0,hw1,aMQ rfl rfl (qE _) (qE _) ht6,hy0,hy1,lE _,lE _,aMQ (qE _) (qE _) rfl rfl ht7,lE _,lE _,hz0,hz1,aMQ rfl rfl (qE _) (qE _) ht8,hv0,hv1,lE _,lE _,as_subQ (qE _) (qE _) (qE _) (qE _) ht9,lE _,lE _,lE _,lE _,as_subQ (qE _) (qE _) (qE _) (qE _) ht10,lE _,lE _,lE _,lE _,zQ_t (lE _) (lE _) (by rw [qE,qE];subst ht10 ht9 ht8 ht7 ht6 ht5 ht4 ht3 ht2 ht1;exact hh0),zQ_t (lE _) (lE _) (by rw [qE,qE];subst ht10 ht9 ht8 ht7 ht6 ht5 ht4 ht3 ht2 ht1;exact hr0),rfl,hx0,hx1,hy0,hy1,hz0,hz1,_,rfl,fun _=>rfl⟩
    ·have hadd:J3.add (⟨(⟨dF x0,dF x1⟩:F2p),(⟨dF y0,dF y1⟩:F2p),(⟨dF z0,dF z1⟩:F2p)⟩:J3 F2p) (⟨(⟨dF u0,dF u1⟩:F2p),(⟨dF v0,dF v1⟩:F2p),(⟨dF w0,dF w1⟩:F2p)⟩:J3 F2p) = J3.nil:=hadd0.trans ((if_pos hh0).trans (if_neg hr0))
     rw [hadd,nilQ]
     obtain ⟨t1,ht1⟩:=exq ((⟨dF z0,dF z1⟩:F2p) * (⟨dF z0,dF z1⟩:F2p))
     obtain ⟨t2,ht2⟩:=exq ((⟨dF w0,dF w1⟩:F2p) * (⟨dF w0,dF w1⟩:F2p))
     obtain ⟨t3,ht3⟩:=exq ((⟨dF x0,dF x1⟩:F2p) * t2)
     obtain ⟨t4,ht4⟩:=exq ((⟨dF u0,dF u1⟩:F2p) * t1)
     obtain ⟨t5,ht5⟩:=exq (t2 * (⟨dF w0,dF w1⟩:F2p))
     obtain ⟨t6,ht6⟩:=exq ((⟨dF y0,dF y1⟩:F2p) * t5)
     obtain ⟨t7,ht7⟩:=exq (t1 * (⟨dF z0,dF z1⟩:F2p))
     obtain ⟨t8,ht8⟩:=exq ((⟨dF v0,dF v1⟩:F2p) * t7)
     obtain ⟨t9,ht9⟩:=exq (t4 - t3)
     obtain ⟨t10,ht10⟩:=exq (t8 - t6)
     refine eSq mxd tK GSQ_ok 200 [⟨2,3,.lit (.bo false)⟩,⟨4,3,.lit (.bo false)⟩,⟨6,6,.as (eC2 t1)⟩,⟨6,13,.as (eC2 t2)⟩,⟨7,5,.as (eC2 t3)⟩,⟨7,11,.as (eC2 t4)⟩,⟨8,9,.as (eC2 t5)⟩,⟨8,10,.as (eC2 t6)⟩,⟨8,20,.as (eC2 t7)⟩,⟨8,21,.as (eC2 t8)⟩,⟨9,4,.as (eC2 t9)⟩,⟨9,9,.as (eC2 t10)⟩,⟨10,2,.lit (.bo true)⟩,⟨11,2,.lit (.bo false)⟩] ?_
     refine same (p:=(eqN W 6 z0 fz && (eqN W 6 z1 fz && true)) = false/\(eqN W 6 w0 fz && (eqN W 6 w1 fz && true)) = false/\asP (eD4 mul2x mul2y (dF z0) (dF z1) (dF z0) (dF z1)) (eC2 t1)/\lp z0/\lp z1/\lp z0/\lp z1/\asP (eD4 mul2x mul2y (dF w0) (dF w1) (dF w0) (dF w1)) (eC2 t2)/\lp w0/\lp w1/\lp w0/\lp w1/\asP (eD4 mul2x mul2y (dF x0) (dF x1) (dF (eF t2.x)) (dF (eF t2.y))) (eC2 t3)/\lp x0/\lp x1/\lp (eF t2.x)/\lp (eF t2.y)/\asP (eD4 mul2x mul2y (dF u0) (dF u1) (dF (eF t1.x)) (dF (eF t1.y))) (eC2 t4)/\lp u0/\lp u1/\lp (eF t1.x)/\lp (eF t1.y)/\asP (eD4 mul2x mul2y (dF (eF t2.x)) (dF (eF t2.y)) (dF w0) (dF w1)) (eC2 t5)/\lp (eF t2.x)/\lp (eF t2.y)/\lp w0/\lp w1/\asP (eD4 mul2x mul2y (dF y0) (dF y1) (dF (eF t5.x)) (dF (eF t5.y))) (eC2 t6)/\lp y0/\lp y1/\lp (eF t5.x)/\lp (eF t5.y)/\asP (eD4 mul2x mul2y (dF (eF t1.x)) (dF (eF t1.y)) (dF z0) (dF z1)) (eC2 t7)/\lp (eF t1.x)/\lp (eF t1.y)/\lp z0/\lp z1/\asP (eD4 mul2x mul2y (dF v0) (dF v1) (dF (eF t7.x)) (dF (eF t7.y))) (eC2 t8)/\lp v0/\lp v1/\lp (eF t7.x)/\lp (eF t7.y)/\asP (eD4 sub2x sub2y (dF (eF t4.x)) (dF (eF t4.y)) (dF (eF t3.x)) (dF (eF t3.y))) (eC2 t9)/\lp (eF t4.x)/\lp (eF t4.y)/\lp (eF t3.x)/\lp (eF t3.y)/\asP (eD4 sub2x sub2y (dF (eF t8.x)) (dF (eF t8.y)) (dF (eF t6.x)) (dF (eF t6.y))) (eC2 t10)/\lp (eF t8.x)/\lp (eF t8.y)/\lp (eF t6.x)/\lp (eF t6.y)/\(eqN W 6 (eF t9.x) fz && (eqN W 6 (eF t9.y) fz && true)) = true/\(eqN W 6 (eF t10.x) fz && (eqN W 6 (eF t10.y) fz && true)) = false/\endN (.v1 (.agg [q6 oneF,q6 fz,q6 oneF,q6 fz,q6 fz,q6 fz])) (.v1 (.agg [q6 (eF ((⟨1,1,0⟩:J3 F2p)).x.x),q6 (eF ((⟨1,1,0⟩:J3 F2p)).x.y),q6 (eF ((⟨1,1,0⟩:J3 F2p)).y.x),q6 (eF ((⟨1,1,0⟩:J3 F2p)).y.y),q6 (eF ((⟨1,1,0⟩:J3 F2p)).z.x),q6 (eF ((⟨1,1,0⟩:J3 F2p)).z.y)]))) ?_ (by kernel_rfl)
     exact ⟨zQ_f hz0 hz1 hZZ,zQ_f hw0 hw1 hWW,aMQ rfl rfl rfl rfl ht1,hz0,hz1,hz0,hz1,aMQ rfl rfl rfl rfl ht2,hw0,hw1,hw0,hw1,aMQ rfl rfl (qE _) (qE _) ht3,hx0,hx1,lE _,lE _,aMQ rfl rfl (qE _) (qE _) ht4,hu0,hu1,lE _,lE _,aMQ (qE _) (qE _) rfl rfl ht5,lE _,lE _,hw0,hw1,aMQ rfl rfl (qE _) (qE _) ht6,hy0,hy1,lE _,lE _,aMQ (qE _) (qE _) rfl rfl ht7,lE _,lE _,hz0,hz1,aMQ rfl rfl (qE _) (qE _) ht8,hv0,hv1,lE _,lE _,as_subQ (qE _) (qE _) (qE _) (qE _) ht9,lE _,lE _,lE _,lE _,as_subQ (qE _) (qE _) (qE _) (qE _) ht10,lE _,lE _,lE _,lE _,zQ_t (lE _) (lE _) (by rw [qE,qE];subst ht10 ht9 ht8 ht7 ht6 ht5 ht4 ht3 ht2 ht1;exact hh0),zQ_f (lE _) (lE _) (by rw [qE,qE];subst ht10 ht9 ht8 ht7 ht6 ht5 ht4 ht3 ht2 ht1;exact hr0),endC (cvS q1x (cvS q1y (cvS q1x (cvS q1y (cvS q0x (cvS q0y (cv_nil)))))))⟩
   ·have hadd:J3.add (⟨(⟨dF x0,dF x1⟩:F2p),(⟨dF y0,dF y1⟩:F2p),(⟨dF z0,dF z1⟩:F2p)⟩:J3 F2p) (⟨(⟨dF u0,dF u1⟩:F2p),(⟨dF v0,dF v1⟩:F2p),(⟨dF w0,dF w1⟩:F2p)⟩:J3 F2p) = J3.gen (⟨(⟨dF x0,dF x1⟩:F2p),(⟨dF y0,dF y1⟩:F2p),(⟨dF z0,dF z1⟩:F2p)⟩:J3 F2p) (⟨(⟨dF u0,dF u1⟩:F2p),(⟨dF v0,dF v1⟩:F2p),(⟨dF w0,dF w1⟩:F2p)⟩:J3 F2p):=hadd0.trans (if_neg hh0)
    rw [hadd]
    obtain ⟨t1,ht1⟩:=exq ((⟨dF z0,dF z1⟩:F2p) * (⟨dF z0,dF z1⟩:F2p))
    obtain ⟨t2,ht2⟩:=exq ((⟨dF w0,dF w1⟩:F2p) * (⟨dF w0,dF w1⟩:F2p))
    obtain ⟨t3,ht3⟩:=exq ((⟨dF x0,dF x1⟩:F2p) * t2)
    obtain ⟨t4,ht4⟩:=exq ((⟨dF u0,dF u1⟩:F2p) * t1)
    obtain ⟨t5,ht5⟩:=exq (t2 * (⟨dF w0,dF w1⟩:F2p))
    obtain ⟨t6,ht6⟩:=exq ((⟨dF y0,dF y1⟩:F2p) * t5)
    obtain ⟨t7,ht7⟩:=exq (t1 * (⟨dF z0,dF z1⟩:F2p))
    obtain ⟨t8,ht8⟩:=exq ((⟨dF v0,dF v1⟩:F2p) * t7)
    obtain ⟨t9,ht9⟩:=exq (t4 - t3)
    obtain ⟨t10,ht10⟩:=exq (t8 - t6)
    obtain ⟨t11,ht11⟩:=exq (t9 * t9)
    obtain ⟨t12,ht12⟩:=exq (t11 * t9)
    obtain ⟨t13,ht13⟩:=exq (t3 * t11)
    obtain ⟨t14,ht14⟩:=exq (t10 * t10)
    obtain ⟨t15,ht15⟩:=exq (t14 - t12)
    obtain ⟨t16,ht16⟩:=exq (t13 + t13)
    obtain ⟨t17,ht17⟩:=exq (t15 - t16)
    obtain ⟨t18,ht18⟩:=exq (t13 - t17)
    obtain ⟨t19,ht19⟩:=exq (t10 * t18)
    obtain ⟨t20,ht20⟩:=exq (t6 * t12)
    obtain ⟨t21,ht21⟩:=exq (t19 - t20)
    obtain ⟨t22,ht22⟩:=exq ((⟨dF z0,dF z1⟩:F2p) * (⟨dF w0,dF w1⟩:F2p))
    obtain ⟨t23,ht23⟩:=exq (t9 * t22)
    refine eSq mxd tK GSQ_ok 300 [⟨2,3,.lit (.bo false)⟩,⟨4,3,.lit (.bo false)⟩,⟨6,6,.as (eC2 t1)⟩,⟨6,13,.as (eC2 t2)⟩,⟨7,5,.as (eC2 t3)⟩,⟨7,11,.as (eC2 t4)⟩,⟨8,9,.as (eC2 t5)⟩,⟨8,10,.as (eC2 t6)⟩,⟨8,20,.as (eC2 t7)⟩,⟨8,21,.as (eC2 t8)⟩,⟨9,4,.as (eC2 t9)⟩,⟨9,9,.as (eC2 t10)⟩,⟨10,2,.lit (.bo false)⟩,⟨14,4,.as (eC2 t11)⟩,⟨15,4,.as (eC2 t12)⟩,⟨16,4,.as (eC2 t13)⟩,⟨17,8,.as (eC2 t14)⟩,⟨17,10,.as (eC2 t15)⟩,⟨17,15,.as (eC2 t16)⟩,⟨17,16,.as (eC2 t17)⟩,⟨18,10,.as (eC2 t18)⟩,⟨18,11,.as (eC2 t19)⟩,⟨18,16,.as (eC2 t20)⟩,⟨18,17,.as (eC2 t21)⟩,⟨18,27,.as (eC2 t22)⟩,⟨18,28,.as (eC2 t23)⟩] ?_
    refine same (p:=(eqN W 6 z0 fz && (eqN W 6 z1 fz && true)) = false/\(eqN W 6 w0 fz && (eqN W 6 w1 fz && true)) = false/\asP (eD4 mul2x mul2y (dF z0) (dF z1) (dF z0) (dF z1)) (eC2 t1)/\lp z0/\lp z1/\lp z0/\lp z1/\asP (eD4 mul2x mul2y (dF w0) (dF w1) (dF w0) (dF w1)) (eC2 t2)/\lp w0/\lp w1/\lp w0/\lp w1/\asP (eD4 mul2x mul2y (dF x0) (dF x1) (dF (eF t2.x)) (dF (eF t2.y))) (eC2 t3)/\lp x0/\lp x1/\lp (eF t2.x)/\lp (eF t2.y)/\asP (eD4 mul2x mul2y (dF u0) (dF u1) (dF (eF t1.x)) (dF (eF t1.y))) (eC2 t4)/\lp u0/\lp u1/\lp (eF t1.x)/\lp (eF t1.y)/\asP (eD4 mul2x mul2y (dF (eF t2.x)) (dF (eF t2.y)) (dF w0) (dF w1)) (eC2 t5)/\lp (eF t2.x)/\lp (eF t2.y)/\lp w0/\lp w1/\asP (eD4 mul2x mul2y (dF y0) (dF y1) (dF (eF t5.x)) (dF (eF t5.y))) (eC2 t6)/\lp y0/\lp y1/\lp (eF t5.x)/\lp (eF t5.y)/\asP (eD4 mul2x mul2y (dF (eF t1.x)) (dF (eF t1.y)) (dF z0) (dF z1)) (eC2 t7)/\lp (eF t1.x)/\lp (eF t1.y)/\lp z0/\lp z1/\asP (eD4 mul2x mul2y (dF v0) (dF v1) (dF (eF t7.x)) (dF (eF t7.y))) (eC2 t8)/\lp v0/\lp v1/\lp (eF t7.x)/\lp (eF t7.y)/\asP (eD4 sub2x sub2y (dF (eF t4.x)) (dF (eF t4.y)) (dF (eF t3.x)) (dF (eF t3.y))) (eC2 t9)/\lp (eF t4.x)/\lp (eF t4.y)/\lp (eF t3.x)/\lp (eF t3.y)/\asP (eD4 sub2x sub2y (dF (eF t8.x)) (dF (eF t8.y)) (dF (eF t6.x)) (dF (eF t6.y))) (eC2 t10)/\lp (eF t8.x)/\lp (eF t8.y)/\lp (eF t6.x)/\lp (eF t6.y)/\(eqN W 6 (eF t9.x) fz && (eqN W 6 (eF t9.y) fz && true)) = false/\asP (eD4 mul2x mul2y (dF (eF t9.x)) (dF (eF t9.y)) (dF (eF t9.x)) (dF (eF t9.y))) (eC2 t11)/\lp (eF t9.x)/\lp (eF t9.y)/\lp (eF t9.x)/\lp (eF t9.y)/\asP (eD4 mul2x mul2y (dF (eF t11.x)) (dF (eF t11.y)) (dF (eF t9.x)) (dF (eF t9.y))) (eC2 t12)/\lp (eF t11.x)/\lp (eF t11.y)/\lp (eF t9.x)/\lp (eF t9.y)/\asP (eD4 mul2x mul2y (dF (eF t3.x)) (dF (eF t3.y)) (dF (eF t11.x)) (dF (eF t11.y))) (eC2 t13)/\lp (eF t3.x)/\lp (eF t3.y)/\lp (eF t11.x)/\lp (eF t11.y)/\asP (eD4 mul2x mul2y (dF (eF t10.x)) (dF (eF t10.y)) (dF (eF t10.x)) (dF (eF t10.y))) (eC2 t14)/\lp (eF t10.x)/\lp (eF t10.y)/\lp (eF t10.x)/\lp (eF t10.y)/\asP (eD4 sub2x sub2y (dF (eF t14.x)) (dF (eF t14.y)) (dF (eF t12.x)) (dF (eF t12.y))) (eC2 t15)/\lp (eF t14.x)/\lp (eF t14.y)/\lp (eF t12.x)/\lp (eF t12.y)/\asP (eD4 add2x add2y (dF (eF t13.x)) (dF (eF t13.y)) (dF (eF t13.x)) (dF (eF t13.y))) (eC2 t16)/\lp (eF t13.x)/\lp (eF t13.y)/\lp (eF t13.x)/\lp (eF t13.y)/\asP (eD4 sub2x sub2y (dF (eF t15.x)) (dF (eF t15.y)) (dF (eF t16.x)) (dF (eF t16.y))) (eC2 t17)/\lp (eF t15.x)/\lp (eF t15.y)/\lp (eF t16.x)/\lp (eF t16.y)/\asP (eD4 sub2x sub2y (dF (eF t13.x)) (dF (eF t13.y)) (dF (eF t17.x)) (dF (eF t17.y))) (eC2 t18)/\lp (eF t13.x)/\lp (eF t13.y)/\lp (eF t17.x)/\lp (eF t17.y)/\asP (eD4 mul2x mul2y (dF (eF t10.x)) (dF (eF t10.y)) (dF (eF t18.x)) (dF (eF t18.y))) (eC2 t19)/\lp (eF t10.x)/\lp (eF t10.y)/\lp (eF t18.x)/\lp (eF t18.y)/\asP (eD4 mul2x mul2y (dF (eF t6.x)) (dF (eF t6.y)) (dF (eF t12.x)) (dF (eF t12.y))) (eC2 t20)/\lp (eF t6.x)/\lp (eF t6.y)/\lp (eF t12.x)/\lp (eF t12.y)/\asP (eD4 sub2x sub2y (dF (eF t19.x)) (dF (eF t19.y)) (dF (eF t20.x)) (dF (eF t20.y))) (eC2 t21)/\lp (eF t19.x)/\lp (eF t19.y)/\lp (eF t20.x)/\lp (eF t20.y)/\asP (eD4 mul2x mul2y (dF z0) (dF z1) (dF w0) (dF w1)) (eC2 t22)/\lp z0/\lp z1/\lp w0/\lp w1/\asP (eD4 mul2x mul2y (dF (eF t9.x)) (dF (eF t9.y)) (dF (eF t22.x)) (dF (eF t22.y))) (eC2 t23)/\lp (eF t9.x)/\lp (eF t9.y)/\lp (eF t22.x)/\lp (eF t22.y)/\endN (.v1 (.agg [q6 (eF t17.x),q6 (eF t17.y),q6 (eF t21.x),q6 (eF t21.y),q6 (eF t23.x),q6 (eF t23.y)])) (.v1 (.agg [q6 (eF (J3.gen (⟨(⟨dF x0,dF x1⟩:F2p),(⟨dF y0,dF y1⟩:F2p),(⟨dF z0,dF z1⟩:F2p)⟩:J3 F2p) (⟨(⟨dF u0,dF u1⟩:F2p),(⟨dF v0,dF v1⟩:F2p),(⟨dF w0,dF w1⟩:F2p)⟩:J3 F2p)).x.x),q6 (eF (J3.gen (⟨(⟨dF x0,dF x1⟩:F2p),(⟨dF y0,dF y1⟩:F2p),(⟨dF z0,dF z1⟩:F2p)⟩:J3 F2p) (⟨(⟨dF u0,dF u1⟩:F2p),(⟨dF v0,dF v1⟩:F2p),(⟨dF w0,dF w1⟩:F2p)⟩:J3 F2p)).x.y),q6 (eF (J3.gen (⟨(⟨dF x0,dF x1⟩:F2p),(⟨dF y0,dF y1⟩:F2p),(⟨dF z0,dF z1⟩:F2p)⟩:J3 F2p) (⟨(⟨dF u0,dF u1⟩:F2p),(⟨dF v0,dF v1⟩:F2p),(⟨dF w0,dF w1⟩:F2p)⟩:J3 F2p)).y.x),q6 (eF (J3.gen (⟨(⟨dF x0,dF x1⟩:F2p),(⟨dF y0,dF y1⟩:F2p),(⟨dF z0,dF z1⟩:F2p)⟩:J3 F2p) (⟨(⟨dF u0,dF u1⟩:F2p),(⟨dF v0,dF v1⟩:F2p),(⟨dF w0,dF w1⟩:F2p)⟩:J3 F2p)).y.y),q6 (eF (J3.gen (⟨(⟨dF x0,dF x1⟩:F2p),(⟨dF y0,dF y1⟩:F2p),(⟨dF z0,dF z1⟩:F2p)⟩:J3 F2p) (⟨(⟨dF u0,dF u1⟩:F2p),(⟨dF v0,dF v1⟩:F2p),(⟨dF w0,dF w1⟩:F2p)⟩:J3 F2p)).z.x),q6 (eF (J3.gen (⟨(⟨dF x0,dF x1⟩:F2p),(⟨dF y0,dF y1⟩:F2p),(⟨dF z0,dF z1⟩:F2p)⟩:J3 F2p) (⟨(⟨dF u0,dF u1⟩:F2p),(⟨dF v0,dF v1⟩:F2p),(⟨dF w0,dF w1⟩:F2p)⟩:J3 F2p)).z.y)]))) ?_ (by kernel_rfl)
    exact ⟨zQ_f hz0 hz1 hZZ,zQ_f hw0 hw1 hWW,aMQ rfl rfl rfl rfl ht1,hz0,hz1,hz0,hz1,aMQ rfl rfl rfl rfl ht2,hw0,hw1,hw0,hw1,aMQ rfl rfl (qE _) (qE _) ht3,hx0,hx1,lE _,lE _,aMQ rfl rfl (qE _) (qE _) ht4,hu0,hu1,lE _,lE _,aMQ (qE _) (qE _) rfl rfl ht5,lE _,lE _,hw0,hw1,aMQ rfl rfl (qE _) (qE _) ht6,hy0,hy1,lE _,lE _,aMQ (qE _) (qE _) rfl rfl ht7,lE _,lE _,hz0,hz1,aMQ rfl rfl (qE _) (qE _) ht8,hv0,hv1,lE _,lE _,as_subQ (qE _) (qE _) (qE _) (qE _) ht9,lE _,lE _,lE _,lE _,as_subQ (qE _) (qE _) (qE _) (qE _) ht10,lE _,lE _,lE _,lE _,zQ_f (lE _) (lE _) (by rw [qE,qE];subst ht10 ht9 ht8 ht7 ht6 ht5 ht4 ht3 ht2 ht1;exact hh0),aMQ (qE _) (qE _) (qE _) (qE _) ht11,lE _,lE _,lE _,lE _,aMQ (qE _) (qE _) (qE _) (qE _) ht12,lE _,lE _,lE _,lE _,aMQ (qE _) (qE _) (qE _) (qE _) ht13,lE _,lE _,lE _,lE _,aMQ (qE _) (qE _) (qE _) (qE _) ht14,lE _,lE _,lE _,lE _,as_subQ (qE _) (qE _) (qE _) (qE _) ht15,lE _,lE _,lE _,lE _,as_addQ (qE _) (qE _) (qE _) (qE _) ht16,lE _,lE _,lE _,lE _,as_subQ (qE _) (qE _) (qE _) (qE _) ht17,lE _,lE _,lE _,lE _,as_subQ (qE _) (qE _) (qE _) (qE _) ht18,lE _,lE _,lE _,lE _,aMQ (qE _) (qE _) (qE _) (qE _) ht19,lE _,lE _,lE _,lE _,aMQ (qE _) (qE _) (qE _) (qE _) ht20,lE _,lE _,lE _,lE _,as_subQ (qE _) (qE _) (qE _) (qE _) ht21,lE _,lE _,lE _,lE _,aMQ rfl rfl rfl rfl ht22,hz0,hz1,hw0,hw1,aMQ (qE _) (qE _) (qE _) (qE _) ht23,lE _,lE _,lE _,lE _,endC (cvS (nv_tx (by subst ht23 ht22 ht21 ht20 ht19 ht18 ht17 ht16 ht15 ht14 ht13 ht12 ht11 ht10 ht9 ht8 ht7 ht6 ht5 ht4 ht3 ht2 ht1;rfl)) (cvS (nv_ty (by subst ht23 ht22 ht21 ht20 ht19 ht18 ht17 ht16 ht15 ht14 ht13 ht12 ht11 ht10 ht9 ht8 ht7 ht6 ht5 ht4 ht3 ht2 ht1;rfl)) (cvS (nv_tx (by subst ht23 ht22 ht21 ht20 ht19 ht18 ht17 ht16 ht15 ht14 ht13 ht12 ht11 ht10 ht9 ht8 ht7 ht6 ht5 ht4 ht3 ht2 ht1;rfl)) (cvS (nv_ty (by subst ht23 ht22 ht21 ht20 ht19 ht18 ht17 ht16 ht15 ht14 ht13 ht12 ht11 ht10 ht9 ht8 ht7 ht6 ht5 ht4 ht3 ht2 ht1;rfl)) (cvS (nv_tx (by subst ht23 ht22 ht21 ht20 ht19 ht18 ht17 ht16 ht15 ht14 ht13 ht12 ht11 ht10 ht9 ht8 ht7 ht6 ht5 ht4 ht3 ht2 ht1;rfl)) (cvS (nv_ty (by subst ht23 ht22 ht21 ht20 ht19 ht18 ht17 ht16 ht15 ht14 ht13 ht12 ht11 ht10 ht9 ht8 ht7 ht6 ht5 ht4 ht3 ht2 ht1;rfl)) (cv_nil)))))))⟩
abbrev fourE:Fp:=(ofN (nv (wd (4 % W))))
def onCE:List AV->Option (List Prop × AV)
 | [.v1 (.agg cs),.v1 (.agg [.ws .u64 6 x,.ws .u64 6 y,.one (.bo z)])]=>some ([cs = fdE,nv x < pN,nv y < pN],.v1 (.sc (.bo (A2.on fourE (⟨(dF x),(dF y),z⟩:A2 Fp)))))
 | _=>none
def raCE:List AV->Option (List Prop × AV)
 | [.v1 (.agg cs),.v1 (.agg [.ws .u64 6 x,.ws .u64 6 y,.one (.bo z)])]=>some ([cs = fdE,nv x < pN,nv y < pN],.v1 (.agg [q6 (eF (A2.raise (⟨(dF x),(dF y),z⟩:A2 Fp)).x),q6 (eF (A2.raise (⟨(dF x),(dF y),z⟩:A2 Fp)).y),q6 (eF (A2.raise (⟨(dF x),(dF y),z⟩:A2 Fp)).z)]))
 | _=>none
def loCE:List AV->Option (List Prop × AV)
 | [.v1 (.agg cs),.v1 (.agg [.ws .u64 6 x,.ws .u64 6 y,.ws .u64 6 z])]=>some ([cs = fdE,nv x < pN,nv y < pN,nv z < pN],.v1 (.agg [q6 (eF (A2.lower eInv (⟨(dF x),(dF y),(dF z)⟩:J3 Fp)).x),q6 (eF (A2.lower eInv (⟨(dF x),(dF y),(dF z)⟩:J3 Fp)).y),.one (.bo (A2.lower eInv (⟨(dF x),(dF y),(dF z)⟩:J3 Fp)).z)]))
 | _=>none
def tiCE:List AV->Option (List Prop × AV)
 | [.v1 (.agg cs),.v1 (.agg [.ws .u64 6 x,.ws .u64 6 y,.ws .u64 6 z]),.v1 (.agg [.ws .u64 6 n])]=>some ([cs = fdE,nv x < pN,nv y < pN,nv z < pN],.v1 (.agg [q6 (eF (J3.times (⟨(dF x),(dF y),(dF z)⟩:J3 Fp) (blen (nv n)) (nv n)).x),q6 (eF (J3.times (⟨(dF x),(dF y),(dF z)⟩:J3 Fp) (blen (nv n)) (nv n)).y),q6 (eF (J3.times (⟨(dF x),(dF y),(dF z)⟩:J3 Fp) (blen (nv n)) (nv n)).z)]))
 | _=>none
def inCE (r:Nat):List AV->Option (List Prop × AV)
 | [.v1 (.agg cs),.v1 (.agg [.ws .u64 6 x,.ws .u64 6 y,.one (.bo z)])]=>some ([cs = fdE,nv x < pN,nv y < pN],.v1 (.sc (.bo (A2.isIn fourE r (⟨(dF x),(dF y),z⟩:A2 Fp)))))
 | _=>none
theorem okOnE:(CallC.pure onCE).Ok Tryz.prog 106:=by
 intro args pre v e hp
 unfold onCE at e
 split at e
 rotate_left
 ·cases e
 rename_i cs x y z
 cases e
 have hcs:cs = fdE:=hp _ (by simp)
 subst hcs
 have hx:nv x < pN:=hp _ (by simp)
 have hy:nv y < pN:=hp _ (by simp)
 refine pWk tK Tryz.func106 (by kernel_rfl) (by kernel_rfl) (by rfl) (by rfl) ?_
 cases z
 ·skip
  obtain ⟨t1,ht1⟩:=exq ((dF y) * (dF y))
  obtain ⟨t2,ht2⟩:=exq ((dF x) * (dF x))
  obtain ⟨t3,ht3⟩:=exq (t2 * (dF x))
  obtain ⟨t4,ht4⟩:=exq (t3 + fourE)
  refine eSq mxd tK GCE_ok 100 [⟨4,6,.as [q6 (eF t1)]⟩,⟨4,17,.as [q6 (eF t2)]⟩,⟨4,20,.as [q6 (eF t3)]⟩,⟨4,23,.as [q6 (eF t4)]⟩] ?_
  refine same (p:=asP [q6 (eF (eMul (dF y) (dF y)))] [q6 (eF t1)]/\lp y/\asP [q6 (eF (eMul (dF x) (dF x)))] [q6 (eF t2)]/\lp x/\asP [q6 (eF (eMul (dF (eF t2)) (dF x)))] [q6 (eF t3)]/\lp (eF t2)/\asP [q6 (eF (eAdd (dF (eF t3)) (dF (eF (ofN (nv (wd (4 % W))))))))] [q6 (eF t4)]/\lp (eF t3)/\lp (eF (ofN (nv (wd (4 % W)))))/\endN (.v1 (.sc (.bo (eqN W 6 (eF t1) (eF t4) && true)))) (.v1 (.sc (.bo (A2.on fourE (⟨(dF x),(dF y),false⟩:A2 Fp)))))) ?_ (by kernel_rfl)
  exact ⟨aME rfl rfl ht1,hy,aME rfl rfl ht2,hx,aME (qE _) rfl ht3,lE _,as_addE (qE _) (qE _) ht4,lE _,(lE _),endB (by rw [eqE (lE _) (lE _),qE,qE,on_f];exact decide_eq_decide.2 (by rw [ht4,ht3,ht2,ht1]))⟩
 ·by_cases hXX:(dF x) = 0
  ·by_cases hYY:(dF y) = 0
   ·skip
    refine eSq mxd tK GCE_ok 100 [⟨3,3,.lit (.bo true)⟩,⟨3,8,.lit (.bo true)⟩] ?_
    refine same (p:=(eqN W 6 x fz && true) = true/\(eqN W 6 y fz && true) = true/\endN (.v1 (.sc (.bo true))) (.v1 (.sc (.bo (A2.on fourE (⟨(dF x),(dF y),true⟩:A2 Fp)))))) ?_ (by kernel_rfl)
    exact ⟨zE_t hx hXX,zE_t hy hYY,endB (by rw [on_t,decide_eq_true hXX,decide_eq_true hYY];rfl)⟩
   ·skip
    refine eSq mxd tK GCE_ok 100 [⟨3,3,.lit (.bo true)⟩,⟨3,8,.lit (.bo false)⟩] ?_
    refine same (p:=(eqN W 6 x fz && true) = true/\(eqN W 6 y fz && true) = false/\endN (.v1 (.sc (.bo false))) (.v1 (.sc (.bo (A2.on fourE (⟨(dF x),(dF y),true⟩:A2 Fp)))))) ?_ (by kernel_rfl)
    exact ⟨zE_t hx hXX,zE_f hy hYY,endB (by rw [on_t,decide_eq_true hXX,decide_eq_false hYY];rfl)⟩
  ·skip
   refine eSq mxd tK GCE_ok 100 [⟨3,3,.lit (.bo false)⟩] ?_
   refine same (p:=(eqN W 6 x fz && true) = false/\endN (.v1 (.sc (.bo false))) (.v1 (.sc (.bo (A2.on fourE (⟨(dF x),(dF y),true⟩:A2 Fp)))))) ?_ (by kernel_rfl)
   exact ⟨zE_f hx hXX,endB (by rw [on_t,decide_eq_false hXX];rfl)⟩
theorem okRaE:(CallC.pure raCE).Ok Tryz.prog 109:=by
 intro args pre v e hp
 unfold raCE at e
 split at e
 rotate_left
 ·cases e
 rename_i cs x y z
 cases e
 have hcs:cs = fdE:=hp _ (by simp)
 subst hcs
 have hx:nv x < pN:=hp _ (by simp)
 have hy:nv y < pN:=hp _ (by simp)
 refine pWk tK Tryz.func109 (by kernel_rfl) (by kernel_rfl) (by rfl) (by rfl) ?_
 cases z
 ·rw [show A2.raise (⟨(dF x),(dF y),false⟩:A2 Fp) = (⟨(dF x),(dF y),1⟩:J3 Fp) from rfl]
  refine eSq mxd tK GCE_ok 100 [] ?_
  refine same (p:=endN (.v1 (.agg [q6 x,q6 y,q6 oneF])) (.v1 (.agg [q6 (eF ((⟨(dF x),(dF y),1⟩:J3 Fp)).x),q6 (eF ((⟨(dF x),(dF y),1⟩:J3 Fp)).y),q6 (eF ((⟨(dF x),(dF y),1⟩:J3 Fp)).z)]))) ?_ (by kernel_rfl)
  exact endC (cvS (nv_d hx) (cvS (nv_d hy) (cvS nv_one1 (cv_nil))))
 ·rw [show A2.raise (⟨(dF x),(dF y),true⟩:A2 Fp) = (⟨1,1,0⟩:J3 Fp) from rfl]
  refine eSq mxd tK GCE_ok 100 [] ?_
  refine same (p:=endN (.v1 (.agg [q6 oneF,q6 oneF,q6 fz])) (.v1 (.agg [q6 (eF ((⟨1,1,0⟩:J3 Fp)).x),q6 (eF ((⟨1,1,0⟩:J3 Fp)).y),q6 (eF ((⟨1,1,0⟩:J3 Fp)).z)]))) ?_ (by kernel_rfl)
  exact endC (cvS nv_one1 (cvS nv_one1 (cvS e0x (cv_nil))))
theorem okLoE:(CallC.pure loCE).Ok Tryz.prog 107:=by
 intro args pre v e hp
 unfold loCE at e
 split at e
 rotate_left
 ·cases e
 rename_i cs x y z
 cases e
 have hcs:cs = fdE:=hp _ (by simp)
 subst hcs
 have hx:nv x < pN:=hp _ (by simp)
 have hy:nv y < pN:=hp _ (by simp)
 have hz:nv z < pN:=hp _ (by simp)
 refine pWk tK Tryz.func107 (by kernel_rfl) (by kernel_rfl) (by rfl) (by rfl) ?_
 by_cases hZZ:(dF z) = 0
 ·have hlo:A2.lower eInv (⟨(dF x),(dF y),(dF z)⟩:J3 Fp) = ⟨0,0,true⟩:=if_pos hZZ
  rw [hlo]
  refine eSq mxd tK GCE_ok 100 [⟨2,3,.lit (.bo true)⟩] ?_
  refine same (p:=(eqN W 6 z fz && true) = true/\endN (.v1 (.agg [q6 fz,q6 fz,.one (.bo true)])) (.v1 (.agg [q6 (eF ((⟨0,0,true⟩:A2 Fp)).x),q6 (eF ((⟨0,0,true⟩:A2 Fp)).y),.one (.bo ((⟨0,0,true⟩:A2 Fp)).z)]))) ?_ (by kernel_rfl)
  exact ⟨zE_t hz hZZ,endC (cvS e0x (cvS e0x (cv_one cv_nil)))⟩
 ·have hlo:A2.lower eInv (⟨(dF x),(dF y),(dF z)⟩:J3 Fp) = (⟨(dF x) * (eInv (dF z) * eInv (dF z)),(dF y) * ((eInv (dF z) * eInv (dF z)) * eInv (dF z)),false⟩:A2 Fp):=if_neg hZZ
  rw [hlo]
  obtain ⟨t1,ht1⟩:=exq (eInv (dF z))
  obtain ⟨t2,ht2⟩:=exq (t1 * t1)
  obtain ⟨t3,ht3⟩:=exq ((dF x) * t2)
  obtain ⟨t4,ht4⟩:=exq (t2 * t1)
  obtain ⟨t5,ht5⟩:=exq ((dF y) * t4)
  refine eSq mxd tK GCE_ok 100 [⟨2,3,.lit (.bo false)⟩,⟨4,4,.as [q6 (eF t1)]⟩,⟨5,4,.as [q6 (eF t2)]⟩,⟨6,5,.as [q6 (eF t3)]⟩,⟨6,14,.as [q6 (eF t4)]⟩,⟨6,15,.as [q6 (eF t5)]⟩] ?_
  refine same (p:=(eqN W 6 z fz && true) = false/\asP [q6 (eF (eInv (dF z)))] [q6 (eF t1)]/\lp z/\asP [q6 (eF (eMul (dF (eF t1)) (dF (eF t1))))] [q6 (eF t2)]/\lp (eF t1)/\asP [q6 (eF (eMul (dF x) (dF (eF t2))))] [q6 (eF t3)]/\lp x/\asP [q6 (eF (eMul (dF (eF t2)) (dF (eF t1))))] [q6 (eF t4)]/\lp (eF t2)/\asP [q6 (eF (eMul (dF y) (dF (eF t4))))] [q6 (eF t5)]/\lp y/\endN (.v1 (.agg [q6 (eF t3),q6 (eF t5),.one (.bo false)])) (.v1 (.agg [q6 (eF ((dF x) * (eInv (dF z) * eInv (dF z)))),q6 (eF ((dF y) * ((eInv (dF z) * eInv (dF z)) * eInv (dF z)))),.one (.bo false)]))) ?_ (by kernel_rfl)
  exact ⟨zE_f hz hZZ,as_invE rfl ht1,hz,aME (qE _) (qE _) ht2,lE _,aME rfl (qE _) ht3,hx,aME (qE _) (qE _) ht4,lE _,aME rfl (qE _) ht5,hy,endC (cvS (nv_t (by rw [ht3,ht2,ht1])) (cvS (nv_t (by rw [ht5,ht4,ht2,ht1])) (cv_one cv_nil)))⟩
def GtiE:Ctx:=ctxL [(163,.pure (jE1 J3.dbl)),(164,.pure (jE2 J3.add)),(129,.pure cLen),(131,.pure cBit)]
theorem GtiE_ok:CtxOk Tryz.prog GtiE:=cxC okTwE <| cxC okSmE <| cxC okLen <| cxC okBit cxN
abbrev VtiE (k:Nat):List AV:=[pt 0 0,pt 1 0,pt 2 0,pt 3 0,pt 4 0,iv (predI k)]
abbrev HtiE (x y z n:Nat->Nat) (g:Nat->Nat->Nat):Heap:=[some ⟨82,fdE,0,0⟩,some ⟨139,[q6 x,q6 y,q6 z],0,0⟩,nb n,some ⟨139,csE (fun _ _=>0),0,0⟩,some ⟨139,csE g,0,0⟩,none]
def IntiE (P:J3 Fp) (n:Nat) (x:Nat × (Nat->Nat->Nat)):Prop:=x.1 <= blen n/\LtE x.2/\JvE x.2 = J3.times P (blen n - x.1) (n / 2 ^ x.1)
theorem nilvE:JvE (of3 oneF oneF fz) = J3.nil:=by
 rw [JvE_of,dF_one,dF_0];exact nilE.symm
theorem okTiE:(CallC.pure tiCE).Ok Tryz.prog 108:=by
 intro args pre v e hp
 unfold tiCE at e
 split at e
 rotate_left
 ·cases e
 rename_i cs x y z n
 cases e
 have hcs:cs = fdE:=hp _ (by simp)
 subst hcs
 have hx:nv x < pN:=hp _ (by simp)
 have hy:nv y < pN:=hp _ (by simp)
 have hz:nv z < pN:=hp _ (by simp)
 refine pWk tK Tryz.func108 (by kernel_rfl) (by kernel_rfl) (by rfl) (by rfl) ?_
 have hbl:=blen_le' n
 refine loopF mxd tK GtiE_ok (by kernel_rfl) (ι:={x_ // IntiE (⟨(dF x),(dF y),(dF z)⟩:J3 Fp) (nv n) x_}) [3,4,5,6,7,8] 33 6 (fun x_=>VtiE x_.1.1) (fun x_=>HtiE x y z n x_.1.2) (fun x_=>x_.1.1) (fun x_=>x_.1.1 = 0)
  (fun _=>rfl) (fun _=>by kernel_rfl) (fun _ _ h=>h.elim) 60 [⟨2,2,.lit (.it (predI (blen (nv n))))⟩] ?_ ?_ ?_
 ·refine same (p:=wrapI (Int.ofNat (blen (nv n)) - 1) = predI (blen (nv n))/\true = true/\∃ j:{x_ // IntiE (⟨(dF x),(dF y),(dF z)⟩:J3 Fp) (nv n) x_},VtiE (blen (nv n)) = VtiE j.1.1/\HtiE x y z n (of3 oneF oneF fz) = HtiE x y z n j.1.2) ?_ (by kernel_rfl)
  refine ⟨predI_eq (by omega),rfl,⟨(blen (nv n),(of3 oneF oneF fz)),Nat.le_refl _,LtE_of lt_one lt_one l0Z,?_⟩,rfl,rfl⟩
  simp only
  rw [nilvE,Nat.sub_self];rfl
 ·intro ⟨⟨k,g⟩,hk,hg,hv⟩ junk
  simp only at hk hv
  have hg:LtE g:=hg
  cases k with
  | zero =>
   refine rQ mxd tK GtiE_ok 60 [] ?_
   refine same (p:=true = true/\∃ j:{x_ // IntiE (⟨(dF x),(dF y),(dF z)⟩:J3 Fp) (nv n) x_},j.1.1 = 0/\VtiE 0 = VtiE j.1.1/\HtiE x y z n g = HtiE x y z n j.1.2) ?_ (by kernel_rfl)
   exact ⟨rfl,⟨(0,g),hk,hg,hv⟩,rfl,rfl,rfl⟩
  | succ k =>
   have hs:wrapI (Int.ofNat k - 1) = predI k:=predI_eq (by omega)
   have hhalf:nv n / 2 ^ k / 2 = nv n / 2 ^ (k + 1):=by rw [Nat.div_div_eq_div_mul,Nat.pow_succ]
   have hnext:blen (nv n) - k = (blen (nv n) - (k + 1)) + 1:=by omega
   have next:∀ J:J3 Fp,J = J3.times (⟨(dF x),(dF y),(dF z)⟩:J3 Fp) (blen (nv n) - k) (nv n / 2 ^ k)->∃ j:{x_ // IntiE (⟨(dF x),(dF y),(dF z)⟩:J3 Fp) (nv n) x_},j.1.1 < k + 1/\VtiE k = VtiE j.1.1/\HtiE x y z n (selE J) = HtiE x y z n j.1.2 :=
    fun J h'=>⟨⟨(k,selE J),by simp only;omega,LtE_sel J,by simp only;rw [JvE_sel,h']⟩,by simp only;omega,rfl,rfl⟩
   have hbit:nv n / 2 ^ k % 2 = 0∨nv n / 2 ^ k % 2 = 1:=by omega
   rcases hbit with h0 | h0
   ·refine rQ mxd tK GtiE_ok 60 [⟨3,1,.lit (.bo true)⟩,⟨6,3,.lit (.bo false)⟩,⟨4,1,.lit (.it (predI k))⟩] ?_
    refine same (p:=(!ilt (Int.ofNat k) 0) = true/\fdE = fdE/\lp (g 0)/\lp (g 1)/\lp (g 2)/\ieq (Int.ofNat (nv n / 2 ^ k % 2)) 1 = false/\wrapI (Int.ofNat k - 1) = predI k/\true = true /\
     ∃ j:{x_ // IntiE (⟨(dF x),(dF y),(dF z)⟩:J3 Fp) (nv n) x_},j.1.1 < k + 1/\VtiE k = VtiE j.1.1/\HtiE x y z n (selE (J3.dbl (JvE g))) = HtiE x y z n j.1.2) ?_ (by kernel_rfl)
    refine ⟨ilt_nn2 k,rfl,hg.1,hg.2.1,hg.2.2,by rw [h0];rfl,hs,rfl,next _ ?_⟩
    rw [hnext,J3.times,if_neg (by omega),hhalf,hv]
   ·refine rQ mxd tK GtiE_ok 60 [⟨3,1,.lit (.bo true)⟩,⟨6,3,.lit (.bo true)⟩,⟨4,1,.lit (.it (predI k))⟩] ?_
    refine same (p:=(!ilt (Int.ofNat k) 0) = true/\fdE = fdE/\lp (g 0)/\lp (g 1)/\lp (g 2)/\ieq (Int.ofNat (nv n / 2 ^ k % 2)) 1 = true/\fdE = fdE/\lp ((selE (J3.dbl (JvE g))) 0)/\lp ((selE (J3.dbl (JvE g))) 1)/\lp ((selE (J3.dbl (JvE g))) 2)/\lp x/\lp y/\lp z/\wrapI (Int.ofNat k - 1) = predI k/\true = true /\
     ∃ j:{x_ // IntiE (⟨(dF x),(dF y),(dF z)⟩:J3 Fp) (nv n) x_},j.1.1 < k + 1/\VtiE k = VtiE j.1.1/\HtiE x y z n (selE (J3.add (JvE (selE (J3.dbl (JvE g)))) (⟨(dF x),(dF y),(dF z)⟩:J3 Fp))) = HtiE x y z n j.1.2) ?_ (by kernel_rfl)
    refine ⟨ilt_nn2 k,rfl,hg.1,hg.2.1,hg.2.2,by rw [h0];rfl,rfl,lE _,lE _,lE _,hx,hy,hz,hs,rfl,next _ ?_⟩
    rw [JvE_sel,hnext,J3.times,if_pos h0,hhalf,hv]
 ·intro ⟨⟨k,g⟩,hk,hg,hv⟩ junk h0
  simp only at hk hv h0
  have hg:LtE g:=hg
  subst h0
  rw [Nat.sub_zero,Nat.pow_zero,Nat.div_one] at hv
  refine same (p:=endN (.v1 (.agg (csE g))) (.v1 (.agg [q6 (eF (J3.times (⟨(dF x),(dF y),(dF z)⟩:J3 Fp) (blen (nv n)) (nv n)).x),q6 (eF (J3.times (⟨(dF x),(dF y),(dF z)⟩:J3 Fp) (blen (nv n)) (nv n)).y),q6 (eF (J3.times (⟨(dF x),(dF y),(dF z)⟩:J3 Fp) (blen (nv n)) (nv n)).z)]))) ?_ (by kernel_rfl)
  rw [<-hv]
  exact endC (cvS (nv_d hg.1) (cvS (nv_d hg.2.1) (cvS (nv_d hg.2.2) cv_nil)))
def orderF:Nat->Nat:=upd (upd (upd (upd fz 0 18446744069414584321) 1 6034159408538082302) 2 3691218898639771653) 3 8353516859464449352
def rNm:Nat:=52435875175126190479447740508185965837690552500527637822603658699938581184513
theorem nv_order:nv orderF = rNm:=by kernel_rfl
theorem okOrderF:(CallC.pure (cK orderF)).Ok Tryz.prog 33 :=
 cK_ok Tryz.func33 (by kernel_rfl) (by kernel_rfl) (same (p:=some (nm orderF) = some (nm orderF)) rfl (by kernel_rfl))
theorem lower_z {F:Type} [CR F] [DecidableEq F] (inv:F->F) (p:J3 F):(A2.lower inv p).z = decide (p.z = 0):=by
 unfold A2.lower
 by_cases h:p.z = 0
 ·rw [if_pos h,decide_eq_true h]
 ·rw [if_neg h,decide_eq_false h]
def GinE:List (Nat × CallC):=[(106,.pure onCE),(109,.pure raCE),(108,.pure tiCE),(107,.pure loCE),(33,.pure (cK orderF))]
theorem GinE_ok:CtxOk Tryz.prog (ctxL GinE):=cxC okOnE <| cxC okRaE <| cxC okTiE <| cxC okLoE <| cxC okOrderF cxN
theorem okInE:(CallC.pure (inCE rNm)).Ok Tryz.prog 52:=by
 intro args pre v e hp
 unfold inCE at e
 split at e
 rotate_left
 ·cases e
 rename_i cs x y z
 cases e
 have hcs:cs = fdE:=hp _ (by simp)
 subst hcs
 have hx:nv x < pN:=hp _ (by simp)
 have hy:nv y < pN:=hp _ (by simp)
 refine pWk tK Tryz.func52 (by kernel_rfl) (by kernel_rfl) (by rfl) (by rfl) ?_
 cases ho:A2.on fourE (⟨(dF x),(dF y),z⟩:A2 Fp)
 ·refine eSq mxd tK GinE_ok 60 [⟨1,2,.lit (.bo false)⟩] (same (p:=A2.on fourE (⟨(dF x),(dF y),z⟩:A2 Fp) = false/\fdE = fdE/\lp x/\lp y/\endN (.v1 (.sc (.bo false))) (.v1 (.sc (.bo (A2.isIn fourE rNm (⟨(dF x),(dF y),z⟩:A2 Fp)))))) ?_ (by kernel_rfl))
  exact ⟨ho,rfl,hx,hy,endB (by unfold A2.isIn;rw [ho];rfl)⟩
 ·refine eSq mxd tK GinE_ok 60 [⟨1,2,.lit (.bo true)⟩] (same (p:=A2.on fourE (⟨(dF x),(dF y),z⟩:A2 Fp) = true/\fdE = fdE/\lp x/\lp y/\fdE = fdE/\lp x/\lp y/\fdE = fdE/\lp ((selE (A2.raise (⟨(dF x),(dF y),z⟩:A2 Fp))) 0)/\lp ((selE (A2.raise (⟨(dF x),(dF y),z⟩:A2 Fp))) 1)/\lp ((selE (A2.raise (⟨(dF x),(dF y),z⟩:A2 Fp))) 2)/\fdE = fdE/\nv ((selE (J3.times (JvE (selE (A2.raise (⟨(dF x),(dF y),z⟩:A2 Fp)))) (blen (nv orderF)) (nv orderF))) 0) < pN/\nv ((selE (J3.times (JvE (selE (A2.raise (⟨(dF x),(dF y),z⟩:A2 Fp)))) (blen (nv orderF)) (nv orderF))) 1) < pN/\nv ((selE (J3.times (JvE (selE (A2.raise (⟨(dF x),(dF y),z⟩:A2 Fp)))) (blen (nv orderF)) (nv orderF))) 2) < pN/\endN (.v1 (.sc (.bo (A2.lower eInv (JvE (selE (J3.times (JvE (selE (A2.raise (⟨(dF x),(dF y),z⟩:A2 Fp)))) (blen (nv orderF)) (nv orderF))))).z))) (.v1 (.sc (.bo (A2.isIn fourE rNm (⟨(dF x),(dF y),z⟩:A2 Fp)))))) ?_ (by kernel_rfl))
  refine ⟨ho,rfl,hx,hy,rfl,hx,hy,rfl,lE _,lE _,lE _,rfl,lE _,lE _,lE _,endB ?_⟩
  have e0:JvE (selE (A2.raise (⟨(dF x),(dF y),z⟩:A2 Fp))) = A2.raise (⟨(dF x),(dF y),z⟩:A2 Fp):=JvE_sel _
  have e1:J3.times (JvE (selE (A2.raise (⟨(dF x),(dF y),z⟩:A2 Fp)))) (blen (nv orderF)) (nv orderF) = J3.times (A2.raise (⟨(dF x),(dF y),z⟩:A2 Fp)) (blen (nv orderF)) (nv orderF):=congrArg (fun q=>J3.times q (blen (nv orderF)) (nv orderF)) e0
  have e2:JvE (selE (J3.times (JvE (selE (A2.raise (⟨(dF x),(dF y),z⟩:A2 Fp)))) (blen (nv orderF)) (nv orderF))) = J3.times (JvE (selE (A2.raise (⟨(dF x),(dF y),z⟩:A2 Fp)))) (blen (nv orderF)) (nv orderF):=JvE_sel _
  have e4:J3.times (A2.raise (⟨(dF x),(dF y),z⟩:A2 Fp)) (blen (nv orderF)) (nv orderF) = J3.times (A2.raise (⟨(dF x),(dF y),z⟩:A2 Fp)) (blen rNm) rNm:=by rw [nv_order]
  have e3:(A2.lower eInv (JvE (selE (J3.times (JvE (selE (A2.raise (⟨(dF x),(dF y),z⟩:A2 Fp)))) (blen (nv orderF)) (nv orderF))))).z = decide ((J3.times (A2.raise (⟨(dF x),(dF y),z⟩:A2 Fp)) (blen rNm) rNm).z = 0):=(lower_z eInv _).trans (congrArg (fun q:J3 Fp=>decide (q.z = 0)) (e2.trans (e1.trans e4)))
  refine e3.trans ?_
  unfold A2.isIn A2.mulJ
  rw [ho,Bool.true_and]
abbrev fourQ:F2p:=(⟨ofN (nv (wd (4 % W))),ofN (nv (wd (4 % W)))⟩:F2p)
def onCQ:List AV->Option (List Prop × AV)
 | [.v1 (.agg cs),.v1 (.agg [.ws .u64 6 x0,.ws .u64 6 x1,.ws .u64 6 y0,.ws .u64 6 y1,.one (.bo z)])]=>some ([cs = fdQ,nv x0 < pN,nv x1 < pN,nv y0 < pN,nv y1 < pN],.v1 (.sc (.bo (A2.on fourQ (⟨(⟨dF x0,dF x1⟩:F2p),(⟨dF y0,dF y1⟩:F2p),z⟩:A2 F2p)))))
 | _=>none
def raCQ:List AV->Option (List Prop × AV)
 | [.v1 (.agg cs),.v1 (.agg [.ws .u64 6 x0,.ws .u64 6 x1,.ws .u64 6 y0,.ws .u64 6 y1,.one (.bo z)])]=>some ([cs = fdQ,nv x0 < pN,nv x1 < pN,nv y0 < pN,nv y1 < pN],.v1 (.agg [q6 (eF (A2.raise (⟨(⟨dF x0,dF x1⟩:F2p),(⟨dF y0,dF y1⟩:F2p),z⟩:A2 F2p)).x.x),q6 (eF (A2.raise (⟨(⟨dF x0,dF x1⟩:F2p),(⟨dF y0,dF y1⟩:F2p),z⟩:A2 F2p)).x.y),q6 (eF (A2.raise (⟨(⟨dF x0,dF x1⟩:F2p),(⟨dF y0,dF y1⟩:F2p),z⟩:A2 F2p)).y.x),q6 (eF (A2.raise (⟨(⟨dF x0,dF x1⟩:F2p),(⟨dF y0,dF y1⟩:F2p),z⟩:A2 F2p)).y.y),q6 (eF (A2.raise (⟨(⟨dF x0,dF x1⟩:F2p),(⟨dF y0,dF y1⟩:F2p),z⟩:A2 F2p)).z.x),q6 (eF (A2.raise (⟨(⟨dF x0,dF x1⟩:F2p),(⟨dF y0,dF y1⟩:F2p),z⟩:A2 F2p)).z.y)]))
 | _=>none
def loCQ:List AV->Option (List Prop × AV)
 | [.v1 (.agg cs),.v1 (.agg [.ws .u64 6 x0,.ws .u64 6 x1,.ws .u64 6 y0,.ws .u64 6 y1,.ws .u64 6 z0,.ws .u64 6 z1])]=>some ([cs = fdQ,nv x0 < pN,nv x1 < pN,nv y0 < pN,nv y1 < pN,nv z0 < pN,nv z1 < pN],.v1 (.agg [q6 (eF (A2.lower F2p.inv (⟨(⟨dF x0,dF x1⟩:F2p),(⟨dF y0,dF y1⟩:F2p),(⟨dF z0,dF z1⟩:F2p)⟩:J3 F2p)).x.x),q6 (eF (A2.lower F2p.inv (⟨(⟨dF x0,dF x1⟩:F2p),(⟨dF y0,dF y1⟩:F2p),(⟨dF z0,dF z1⟩:F2p)⟩:J3 F2p)).x.y),q6 (eF (A2.lower F2p.inv (⟨(⟨dF x0,dF x1⟩:F2p),(⟨dF y0,dF y1⟩:F2p),(⟨dF z0,dF z1⟩:F2p)⟩:J3 F2p)).y.x),q6 (eF (A2.lower F2p.inv (⟨(⟨dF x0,dF x1⟩:F2p),(⟨dF y0,dF y1⟩:F2p),(⟨dF z0,dF z1⟩:F2p)⟩:J3 F2p)).y.y),.one (.bo (A2.lower F2p.inv (⟨(⟨dF x0,dF x1⟩:F2p),(⟨dF y0,dF y1⟩:F2p),(⟨dF z0,dF z1⟩:F2p)⟩:J3 F2p)).z)]))
 | _=>none
def tiCQ:List AV->Option (List Prop × AV)
 | [.v1 (.agg cs),.v1 (.agg [.ws .u64 6 x0,.ws .u64 6 x1,.ws .u64 6 y0,.ws .u64 6 y1,.ws .u64 6 z0,.ws .u64 6 z1]),.v1 (.agg [.ws .u64 6 n])]=>some ([cs = fdQ,nv x0 < pN,nv x1 < pN,nv y0 < pN,nv y1 < pN,nv z0 < pN,nv z1 < pN],.v1 (.agg [q6 (eF (J3.times (⟨(⟨dF x0,dF x1⟩:F2p),(⟨dF y0,dF y1⟩:F2p),(⟨dF z0,dF z1⟩:F2p)⟩:J3 F2p) (blen (nv n)) (nv n)).x.x),q6 (eF (J3.times (⟨(⟨dF x0,dF x1⟩:F2p),(⟨dF y0,dF y1⟩:F2p),(⟨dF z0,dF z1⟩:F2p)⟩:J3 F2p) (blen (nv n)) (nv n)).x.y),q6 (eF (J3.times (⟨(⟨dF x0,dF x1⟩:F2p),(⟨dF y0,dF y1⟩:F2p),(⟨dF z0,dF z1⟩:F2p)⟩:J3 F2p) (blen (nv n)) (nv n)).y.x),q6 (eF (J3.times (⟨(⟨dF x0,dF x1⟩:F2p),(⟨dF y0,dF y1⟩:F2p),(⟨dF z0,dF z1⟩:F2p)⟩:J3 F2p) (blen (nv n)) (nv n)).y.y),q6 (eF (J3.times (⟨(⟨dF x0,dF x1⟩:F2p),(⟨dF y0,dF y1⟩:F2p),(⟨dF z0,dF z1⟩:F2p)⟩:J3 F2p) (blen (nv n)) (nv n)).z.x),q6 (eF (J3.times (⟨(⟨dF x0,dF x1⟩:F2p),(⟨dF y0,dF y1⟩:F2p),(⟨dF z0,dF z1⟩:F2p)⟩:J3 F2p) (blen (nv n)) (nv n)).z.y)]))
 | _=>none
def inCQ (r:Nat):List AV->Option (List Prop × AV)
 | [.v1 (.agg cs),.v1 (.agg [.ws .u64 6 x0,.ws .u64 6 x1,.ws .u64 6 y0,.ws .u64 6 y1,.one (.bo z)])]=>some ([cs = fdQ,nv x0 < pN,nv x1 < pN,nv y0 < pN,nv y1 < pN],.v1 (.sc (.bo (A2.isIn fourQ r (⟨(⟨dF x0,dF x1⟩:F2p),(⟨dF y0,dF y1⟩:F2p),z⟩:A2 F2p)))))
 | _=>none
theorem okOnQ:(CallC.pure onCQ).Ok Tryz.prog 115:=by
 intro args pre v e hp
 unfold onCQ at e
 split at e
 rotate_left
 ·cases e
 rename_i cs x0 x1 y0 y1 z
 cases e
 have hcs:cs = fdQ:=hp _ (by simp)
 subst hcs
 have hx0:nv x0 < pN:=hp _ (by simp)
 have hx1:nv x1 < pN:=hp _ (by simp)
 have hy0:nv y0 < pN:=hp _ (by simp)
 have hy1:nv y1 < pN:=hp _ (by simp)
 refine pWk tK Tryz.func115 (by kernel_rfl) (by kernel_rfl) (by rfl) (by rfl) ?_
 cases z
 ·skip
  obtain ⟨t1,ht1⟩:=exq ((⟨dF y0,dF y1⟩:F2p) * (⟨dF y0,dF y1⟩:F2p))
  obtain ⟨t2,ht2⟩:=exq ((⟨dF x0,dF x1⟩:F2p) * (⟨dF x0,dF x1⟩:F2p))
  obtain ⟨t3,ht3⟩:=exq (t2 * (⟨dF x0,dF x1⟩:F2p))
  obtain ⟨t4,ht4⟩:=exq (t3 + fourQ)
  refine eSq mxd tK GCQ_ok 100 [⟨4,6,.as (eC2 t1)⟩,⟨4,17,.as (eC2 t2)⟩,⟨4,20,.as (eC2 t3)⟩,⟨4,23,.as (eC2 t4)⟩] ?_
  refine same (p:=asP (eD4 mul2x mul2y (dF y0) (dF y1) (dF y0) (dF y1)) (eC2 t1)/\lp y0/\lp y1/\lp y0/\lp y1/\asP (eD4 mul2x mul2y (dF x0) (dF x1) (dF x0) (dF x1)) (eC2 t2)/\lp x0/\lp x1/\lp x0/\lp x1/\asP (eD4 mul2x mul2y (dF (eF t2.x)) (dF (eF t2.y)) (dF x0) (dF x1)) (eC2 t3)/\lp (eF t2.x)/\lp (eF t2.y)/\lp x0/\lp x1/\asP [q6 (eF (add2x (dF (eF t3.x)) (dF (eF t3.y)) (dF (eF (ofN (nv (wd (4 % W)))))) (dF (eF (ofN (nv (wd (4 % W)))))))),q6 (eF (add2y (dF (eF t3.x)) (dF (eF t3.y)) (dF (eF (ofN (nv (wd (4 % W)))))) (dF (eF (ofN (nv (wd (4 % W))))))))] (eC2 t4)/\lp (eF t3.x)/\lp (eF t3.y)/\lp (eF (ofN (nv (wd (4 % W)))))/\lp (eF (ofN (nv (wd (4 % W)))))/\endN (.v1 (.sc (.bo (eqN W 6 (eF t1.x) (eF t4.x) && (eqN W 6 (eF t1.y) (eF t4.y) && true))))) (.v1 (.sc (.bo (A2.on fourQ (⟨(⟨dF x0,dF x1⟩:F2p),(⟨dF y0,dF y1⟩:F2p),false⟩:A2 F2p)))))) ?_ (by kernel_rfl)
  exact ⟨aMQ rfl rfl rfl rfl ht1,hy0,hy1,hy0,hy1,aMQ rfl rfl rfl rfl ht2,hx0,hx1,hx0,hx1,aMQ (qE _) (qE _) rfl rfl ht3,lE _,lE _,hx0,hx1,as_addQ (qE _) (qE _) (qE _) (qE _) ht4,lE _,lE _,(lE _),(lE _),endB (by rw [eqQ (lE _) (lE _) (lE _) (lE _),qE,qE,qE,qE,on_f];exact decide_eq_decide.2 (by rw [ht4,ht3,ht2,ht1]))⟩
 ·by_cases hXX:(⟨dF x0,dF x1⟩:F2p) = 0
  ·by_cases hYY:(⟨dF y0,dF y1⟩:F2p) = 0
   ·skip
    refine eSq mxd tK GCQ_ok 100 [⟨3,3,.lit (.bo true)⟩,⟨3,8,.lit (.bo true)⟩] ?_
    refine same (p:=(eqN W 6 x0 fz && (eqN W 6 x1 fz && true)) = true/\(eqN W 6 y0 fz && (eqN W 6 y1 fz && true)) = true/\endN (.v1 (.sc (.bo true))) (.v1 (.sc (.bo (A2.on fourQ (⟨(⟨dF x0,dF x1⟩:F2p),(⟨dF y0,dF y1⟩:F2p),true⟩:A2 F2p)))))) ?_ (by kernel_rfl)
    exact ⟨zQ_t hx0 hx1 hXX,zQ_t hy0 hy1 hYY,endB (by rw [on_t,decide_eq_true hXX,decide_eq_true hYY];rfl)⟩
   ·skip
    refine eSq mxd tK GCQ_ok 100 [⟨3,3,.lit (.bo true)⟩,⟨3,8,.lit (.bo false)⟩] ?_
    refine same (p:=(eqN W 6 x0 fz && (eqN W 6 x1 fz && true)) = true/\(eqN W 6 y0 fz && (eqN W 6 y1 fz && true)) = false/\endN (.v1 (.sc (.bo false))) (.v1 (.sc (.bo (A2.on fourQ (⟨(⟨dF x0,dF x1⟩:F2p),(⟨dF y0,dF y1⟩:F2p),true⟩:A2 F2p)))))) ?_ (by kernel_rfl)
    exact ⟨zQ_t hx0 hx1 hXX,zQ_f hy0 hy1 hYY,endB (by rw [on_t,decide_eq_true hXX,decide_eq_false hYY];rfl)⟩
  ·skip
   refine eSq mxd tK GCQ_ok 100 [⟨3,3,.lit (.bo false)⟩] ?_
   refine same (p:=(eqN W 6 x0 fz && (eqN W 6 x1 fz && true)) = false/\endN (.v1 (.sc (.bo false))) (.v1 (.sc (.bo (A2.on fourQ (⟨(⟨dF x0,dF x1⟩:F2p),(⟨dF y0,dF y1⟩:F2p),true⟩:A2 F2p)))))) ?_ (by kernel_rfl)
   exact ⟨zQ_f hx0 hx1 hXX,endB (by rw [on_t,decide_eq_false hXX];rfl)⟩
theorem okRaQ:(CallC.pure raCQ).Ok Tryz.prog 118:=by
 intro args pre v e hp
 unfold raCQ at e
 split at e
 rotate_left
 ·cases e
 rename_i cs x0 x1 y0 y1 z
 cases e
 have hcs:cs = fdQ:=hp _ (by simp)
 subst hcs
 have hx0:nv x0 < pN:=hp _ (by simp)
 have hx1:nv x1 < pN:=hp _ (by simp)
 have hy0:nv y0 < pN:=hp _ (by simp)
 have hy1:nv y1 < pN:=hp _ (by simp)
 refine pWk tK Tryz.func118 (by kernel_rfl) (by kernel_rfl) (by rfl) (by rfl) ?_
 cases z
 ·rw [show A2.raise (⟨(⟨dF x0,dF x1⟩:F2p),(⟨dF y0,dF y1⟩:F2p),false⟩:A2 F2p) = (⟨(⟨dF x0,dF x1⟩:F2p),(⟨dF y0,dF y1⟩:F2p),1⟩:J3 F2p) from rfl]
  refine eSq mxd tK GCQ_ok 100 [] ?_
  refine same (p:=endN (.v1 (.agg [q6 x0,q6 x1,q6 y0,q6 y1,q6 oneF,q6 fz])) (.v1 (.agg [q6 (eF ((⟨(⟨dF x0,dF x1⟩:F2p),(⟨dF y0,dF y1⟩:F2p),1⟩:J3 F2p)).x.x),q6 (eF ((⟨(⟨dF x0,dF x1⟩:F2p),(⟨dF y0,dF y1⟩:F2p),1⟩:J3 F2p)).x.y),q6 (eF ((⟨(⟨dF x0,dF x1⟩:F2p),(⟨dF y0,dF y1⟩:F2p),1⟩:J3 F2p)).y.x),q6 (eF ((⟨(⟨dF x0,dF x1⟩:F2p),(⟨dF y0,dF y1⟩:F2p),1⟩:J3 F2p)).y.y),q6 (eF ((⟨(⟨dF x0,dF x1⟩:F2p),(⟨dF y0,dF y1⟩:F2p),1⟩:J3 F2p)).z.x),q6 (eF ((⟨(⟨dF x0,dF x1⟩:F2p),(⟨dF y0,dF y1⟩:F2p),1⟩:J3 F2p)).z.y)]))) ?_ (by kernel_rfl)
  exact endC (cvS (nv_d hx0) (cvS (nv_d hx1) (cvS (nv_d hy0) (cvS (nv_d hy1) (cvS q1x (cvS q1y (cv_nil)))))))
 ·rw [show A2.raise (⟨(⟨dF x0,dF x1⟩:F2p),(⟨dF y0,dF y1⟩:F2p),true⟩:A2 F2p) = (⟨1,1,0⟩:J3 F2p) from rfl]
  refine eSq mxd tK GCQ_ok 100 [] ?_
  refine same (p:=endN (.v1 (.agg [q6 oneF,q6 fz,q6 oneF,q6 fz,q6 fz,q6 fz])) (.v1 (.agg [q6 (eF ((⟨1,1,0⟩:J3 F2p)).x.x),q6 (eF ((⟨1,1,0⟩:J3 F2p)).x.y),q6 (eF ((⟨1,1,0⟩:J3 F2p)).y.x),q6 (eF ((⟨1,1,0⟩:J3 F2p)).y.y),q6 (eF ((⟨1,1,0⟩:J3 F2p)).z.x),q6 (eF ((⟨1,1,0⟩:J3 F2p)).z.y)]))) ?_ (by kernel_rfl)
  exact endC (cvS q1x (cvS q1y (cvS q1x (cvS q1y (cvS q0x (cvS q0y (cv_nil)))))))
theorem okLoQ:(CallC.pure loCQ).Ok Tryz.prog 116:=by
 intro args pre v e hp
 unfold loCQ at e
 split at e
 rotate_left
 ·cases e
 rename_i cs x0 x1 y0 y1 z0 z1
 cases e
 have hcs:cs = fdQ:=hp _ (by simp)
 subst hcs
 have hx0:nv x0 < pN:=hp _ (by simp)
 have hx1:nv x1 < pN:=hp _ (by simp)
 have hy0:nv y0 < pN:=hp _ (by simp)
 have hy1:nv y1 < pN:=hp _ (by simp)
 have hz0:nv z0 < pN:=hp _ (by simp)
 have hz1:nv z1 < pN:=hp _ (by simp)
 refine pWk tK Tryz.func116 (by kernel_rfl) (by kernel_rfl) (by rfl) (by rfl) ?_
 by_cases hZZ:(⟨dF z0,dF z1⟩:F2p) = 0
 ·have hlo:A2.lower F2p.inv (⟨(⟨dF x0,dF x1⟩:F2p),(⟨dF y0,dF y1⟩:F2p),(⟨dF z0,dF z1⟩:F2p)⟩:J3 F2p) = ⟨0,0,true⟩:=if_pos hZZ
  rw [hlo]
  refine eSq mxd tK GCQ_ok 100 [⟨2,3,.lit (.bo true)⟩] ?_
  refine same (p:=(eqN W 6 z0 fz && (eqN W 6 z1 fz && true)) = true/\endN (.v1 (.agg [q6 fz,q6 fz,q6 fz,q6 fz,.one (.bo true)])) (.v1 (.agg [q6 (eF ((⟨0,0,true⟩:A2 F2p)).x.x),q6 (eF ((⟨0,0,true⟩:A2 F2p)).x.y),q6 (eF ((⟨0,0,true⟩:A2 F2p)).y.x),q6 (eF ((⟨0,0,true⟩:A2 F2p)).y.y),.one (.bo ((⟨0,0,true⟩:A2 F2p)).z)]))) ?_ (by kernel_rfl)
  exact ⟨zQ_t hz0 hz1 hZZ,endC (cvS q0x (cvS q0y (cvS q0x (cvS q0y (cv_one cv_nil)))))⟩
 ·have hlo:A2.lower F2p.inv (⟨(⟨dF x0,dF x1⟩:F2p),(⟨dF y0,dF y1⟩:F2p),(⟨dF z0,dF z1⟩:F2p)⟩:J3 F2p) = (⟨(⟨dF x0,dF x1⟩:F2p) * (F2p.inv (⟨dF z0,dF z1⟩:F2p) * F2p.inv (⟨dF z0,dF z1⟩:F2p)),(⟨dF y0,dF y1⟩:F2p) * ((F2p.inv (⟨dF z0,dF z1⟩:F2p) * F2p.inv (⟨dF z0,dF z1⟩:F2p)) * F2p.inv (⟨dF z0,dF z1⟩:F2p)),false⟩:A2 F2p):=if_neg hZZ
  rw [hlo]
  obtain ⟨t1,ht1⟩:=exq (F2p.inv (⟨dF z0,dF z1⟩:F2p))
  obtain ⟨t2,ht2⟩:=exq (t1 * t1)
  obtain ⟨t3,ht3⟩:=exq ((⟨dF x0,dF x1⟩:F2p) * t2)
  obtain ⟨t4,ht4⟩:=exq (t2 * t1)
  obtain ⟨t5,ht5⟩:=exq ((⟨dF y0,dF y1⟩:F2p) * t4)
  refine eSq mxd tK GCQ_ok 100 [⟨2,3,.lit (.bo false)⟩,⟨4,4,.as (eC2 t1)⟩,⟨5,4,.as (eC2 t2)⟩,⟨6,5,.as (eC2 t3)⟩,⟨6,14,.as (eC2 t4)⟩,⟨6,15,.as (eC2 t5)⟩] ?_
  refine same (p:=(eqN W 6 z0 fz && (eqN W 6 z1 fz && true)) = false/\asP [q6 (eF (inv2x (dF z0) (dF z1))),q6 (eF (inv2y (dF z0) (dF z1)))] (eC2 t1)/\lp z0/\lp z1/\asP (eD4 mul2x mul2y (dF (eF t1.x)) (dF (eF t1.y)) (dF (eF t1.x)) (dF (eF t1.y))) (eC2 t2)/\lp (eF t1.x)/\lp (eF t1.y)/\lp (eF t1.x)/\lp (eF t1.y)/\asP (eD4 mul2x mul2y (dF x0) (dF x1) (dF (eF t2.x)) (dF (eF t2.y))) (eC2 t3)/\lp x0/\lp x1/\lp (eF t2.x)/\lp (eF t2.y)/\asP (eD4 mul2x mul2y (dF (eF t2.x)) (dF (eF t2.y)) (dF (eF t1.x)) (dF (eF t1.y))) (eC2 t4)/\lp (eF t2.x)/\lp (eF t2.y)/\lp (eF t1.x)/\lp (eF t1.y)/\asP (eD4 mul2x mul2y (dF y0) (dF y1) (dF (eF t4.x)) (dF (eF t4.y))) (eC2 t5)/\lp y0/\lp y1/\lp (eF t4.x)/\lp (eF t4.y)/\endN (.v1 (.agg [q6 (eF t3.x),q6 (eF t3.y),q6 (eF t5.x),q6 (eF t5.y),.one (.bo false)])) (.v1 (.agg [q6 (eF ((⟨dF x0,dF x1⟩:F2p) * (F2p.inv (⟨dF z0,dF z1⟩:F2p) * F2p.inv (⟨dF z0,dF z1⟩:F2p))).x),q6 (eF ((⟨dF x0,dF x1⟩:F2p) * (F2p.inv (⟨dF z0,dF z1⟩:F2p) * F2p.inv (⟨dF z0,dF z1⟩:F2p))).y),q6 (eF ((⟨dF y0,dF y1⟩:F2p) * ((F2p.inv (⟨dF z0,dF z1⟩:F2p) * F2p.inv (⟨dF z0,dF z1⟩:F2p)) * F2p.inv (⟨dF z0,dF z1⟩:F2p))).x),q6 (eF ((⟨dF y0,dF y1⟩:F2p) * ((F2p.inv (⟨dF z0,dF z1⟩:F2p) * F2p.inv (⟨dF z0,dF z1⟩:F2p)) * F2p.inv (⟨dF z0,dF z1⟩:F2p))).y),.one (.bo false)]))) ?_ (by kernel_rfl)
  exact ⟨zQ_f hz0 hz1 hZZ,as_invQ rfl rfl ht1,hz0,hz1,aMQ (qE _) (qE _) (qE _) (qE _) ht2,lE _,lE _,lE _,lE _,aMQ rfl rfl (qE _) (qE _) ht3,hx0,hx1,lE _,lE _,aMQ (qE _) (qE _) (qE _) (qE _) ht4,lE _,lE _,lE _,lE _,aMQ rfl rfl (qE _) (qE _) ht5,hy0,hy1,lE _,lE _,endC (cvS (nv_tx (by rw [ht3,ht2,ht1])) (cvS (nv_ty (by rw [ht3,ht2,ht1])) (cvS (nv_tx (by rw [ht5,ht4,ht2,ht1])) (cvS (nv_ty (by rw [ht5,ht4,ht2,ht1])) (cv_one cv_nil)))))⟩
def GtiQ:Ctx:=ctxL [(167,.pure (jQ1 J3.dbl)),(168,.pure (jQ2 J3.add)),(129,.pure cLen),(131,.pure cBit)]
theorem GtiQ_ok:CtxOk Tryz.prog GtiQ:=cxC okTwQ <| cxC okSmQ <| cxC okLen <| cxC okBit cxN
abbrev VtiQ (k:Nat):List AV:=[pt 0 0,pt 1 0,pt 2 0,pt 3 0,pt 4 0,iv (predI k)]
abbrev HtiQ (x0 x1 y0 y1 z0 z1 n:Nat->Nat) (g:Nat->Nat->Nat):Heap:=[some ⟨91,fdQ,0,0⟩,some ⟨145,[q6 x0,q6 x1,q6 y0,q6 y1,q6 z0,q6 z1],0,0⟩,nb n,some ⟨145,csQ (fun _ _=>0),0,0⟩,some ⟨145,csQ g,0,0⟩,none]
def IntiQ (P:J3 F2p) (n:Nat) (x:Nat × (Nat->Nat->Nat)):Prop:=x.1 <= blen n/\LtQ x.2/\JvQ x.2 = J3.times P (blen n - x.1) (n / 2 ^ x.1)
theorem nilvQ:JvQ (of6 oneF fz oneF fz fz fz) = J3.nil:=by
 rw [JvQ_of,one_Q,zero_Q];exact nilQ.symm
theorem okTiQ:(CallC.pure tiCQ).Ok Tryz.prog 117:=by
 intro args pre v e hp
 unfold tiCQ at e
 split at e
 rotate_left
 ·cases e
 rename_i cs x0 x1 y0 y1 z0 z1 n
 cases e
 have hcs:cs = fdQ:=hp _ (by simp)
 subst hcs
 have hx0:nv x0 < pN:=hp _ (by simp)
 have hx1:nv x1 < pN:=hp _ (by simp)
 have hy0:nv y0 < pN:=hp _ (by simp)
 have hy1:nv y1 < pN:=hp _ (by simp)
 have hz0:nv z0 < pN:=hp _ (by simp)
 have hz1:nv z1 < pN:=hp _ (by simp)
 refine pWk tK Tryz.func117 (by kernel_rfl) (by kernel_rfl) (by rfl) (by rfl) ?_
 have hbl:=blen_le' n
 refine loopF mxd tK GtiQ_ok (by kernel_rfl) (ι:={x_ // IntiQ (⟨(⟨dF x0,dF x1⟩:F2p),(⟨dF y0,dF y1⟩:F2p),(⟨dF z0,dF z1⟩:F2p)⟩:J3 F2p) (nv n) x_}) [3,4,5,6,7,8] 33 6 (fun x_=>VtiQ x_.1.1) (fun x_=>HtiQ x0 x1 y0 y1 z0 z1 n x_.1.2) (fun x_=>x_.1.1) (fun x_=>x_.1.1 = 0)
  (fun _=>rfl) (fun _=>by kernel_rfl) (fun _ _ h=>h.elim) 60 [⟨2,2,.lit (.it (predI (blen (nv n))))⟩] ?_ ?_ ?_
 ·refine same (p:=wrapI (Int.ofNat (blen (nv n)) - 1) = predI (blen (nv n))/\true = true/\∃ j:{x_ // IntiQ (⟨(⟨dF x0,dF x1⟩:F2p),(⟨dF y0,dF y1⟩:F2p),(⟨dF z0,dF z1⟩:F2p)⟩:J3 F2p) (nv n) x_},VtiQ (blen (nv n)) = VtiQ j.1.1/\HtiQ x0 x1 y0 y1 z0 z1 n (of6 oneF fz oneF fz fz fz) = HtiQ x0 x1 y0 y1 z0 z1 n j.1.2) ?_ (by kernel_rfl)
  refine ⟨predI_eq (by omega),rfl,⟨(blen (nv n),(of6 oneF fz oneF fz fz fz)),Nat.le_refl _,LtQ_of lt_one l0Z lt_one l0Z l0Z l0Z,?_⟩,rfl,rfl⟩
  simp only
  rw [nilvQ,Nat.sub_self];rfl
 ·intro ⟨⟨k,g⟩,hk,hg,hv⟩ junk
  simp only at hk hv
  have hg:LtQ g:=hg
  cases k with
  | zero =>
   refine rQ mxd tK GtiQ_ok 60 [] ?_
   refine same (p:=true = true/\∃ j:{x_ // IntiQ (⟨(⟨dF x0,dF x1⟩:F2p),(⟨dF y0,dF y1⟩:F2p),(⟨dF z0,dF z1⟩:F2p)⟩:J3 F2p) (nv n) x_},j.1.1 = 0/\VtiQ 0 = VtiQ j.1.1/\HtiQ x0 x1 y0 y1 z0 z1 n g = HtiQ x0 x1 y0 y1 z0 z1 n j.1.2) ?_ (by kernel_rfl)
   exact ⟨rfl,⟨(0,g),hk,hg,hv⟩,rfl,rfl,rfl⟩
  | succ k =>
   have hs:wrapI (Int.ofNat k - 1) = predI k:=predI_eq (by omega)
   have hhalf:nv n / 2 ^ k / 2 = nv n / 2 ^ (k + 1):=by rw [Nat.div_div_eq_div_mul,Nat.pow_succ]
   have hnext:blen (nv n) - k = (blen (nv n) - (k + 1)) + 1:=by omega
   have next:∀ J:J3 F2p,J = J3.times (⟨(⟨dF x0,dF x1⟩:F2p),(⟨dF y0,dF y1⟩:F2p),(⟨dF z0,dF z1⟩:F2p)⟩:J3 F2p) (blen (nv n) - k) (nv n / 2 ^ k)->∃ j:{x_ // IntiQ (⟨(⟨dF x0,dF x1⟩:F2p),(⟨dF y0,dF y1⟩:F2p),(⟨dF z0,dF z1⟩:F2p)⟩:J3 F2p) (nv n) x_},j.1.1 < k + 1/\VtiQ k = VtiQ j.1.1/\HtiQ x0 x1 y0 y1 z0 z1 n (selQ J) = HtiQ x0 x1 y0 y1 z0 z1 n j.1.2 :=
    fun J h'=>⟨⟨(k,selQ J),by simp only;omega,LtQ_sel J,by simp only;rw [JvQ_sel,h']⟩,by simp only;omega,rfl,rfl⟩
   have hbit:nv n / 2 ^ k % 2 = 0∨nv n / 2 ^ k % 2 = 1:=by omega
   rcases hbit with h0 | h0
   ·refine rQ mxd tK GtiQ_ok 60 [⟨3,1,.lit (.bo true)⟩,⟨6,3,.lit (.bo false)⟩,⟨4,1,.lit (.it (predI k))⟩] ?_
    refine same (p:=(!ilt (Int.ofNat k) 0) = true/\fdQ = fdQ/\lp (g 0)/\lp (g 1)/\lp (g 2)/\lp (g 3)/\lp (g 4)/\lp (g 5)/\ieq (Int.ofNat (nv n / 2 ^ k % 2)) 1 = false/\wrapI (Int.ofNat k - 1) = predI k/\true = true /\
     ∃ j:{x_ // IntiQ (⟨(⟨dF x0,dF x1⟩:F2p),(⟨dF y0,dF y1⟩:F2p),(⟨dF z0,dF z1⟩:F2p)⟩:J3 F2p) (nv n) x_},j.1.1 < k + 1/\VtiQ k = VtiQ j.1.1/\HtiQ x0 x1 y0 y1 z0 z1 n (selQ (J3.dbl (JvQ g))) = HtiQ x0 x1 y0 y1 z0 z1 n j.1.2) ?_ (by kernel_rfl)
    refine ⟨ilt_nn2 k,rfl,hg.1,hg.2.1,hg.2.2.1,hg.2.2.2.1,hg.2.2.2.2.1,hg.2.2.2.2.2,by rw [h0];rfl,hs,rfl,next _ ?_⟩
    rw [hnext,J3.times,if_neg (by omega),hhalf,hv]
   ·refine rQ mxd tK GtiQ_ok 60 [⟨3,1,.lit (.bo true)⟩,⟨6,3,.lit (.bo true)⟩,⟨4,1,.lit (.it (predI k))⟩] ?_
    refine same (p:=(!ilt (Int.ofNat k) 0) = true/\fdQ = fdQ/\lp (g 0)/\lp (g 1)/\lp (g 2)/\lp (g 3)/\lp (g 4)/\lp (g 5)/\ieq (Int.ofNat (nv n / 2 ^ k % 2)) 1 = true/\fdQ = fdQ/\lp ((selQ (J3.dbl (JvQ g))) 0)/\lp ((selQ (J3.dbl (JvQ g))) 1)/\lp ((selQ (J3.dbl (JvQ g))) 2)/\lp ((selQ (J3.dbl (JvQ g))) 3)/\lp ((selQ (J3.dbl (JvQ g))) 4)/\lp ((selQ (J3.dbl (JvQ g))) 5)/\lp x0/\lp x1/\lp y0/\lp y1/\lp z0/\lp z1/\wrapI (Int.ofNat k - 1) = predI k/\true = true /\
     ∃ j:{x_ // IntiQ (⟨(⟨dF x0,dF x1⟩:F2p),(⟨dF y0,dF y1⟩:F2p),(⟨dF z0,dF z1⟩:F2p)⟩:J3 F2p) (nv n) x_},j.1.1 < k + 1/\VtiQ k = VtiQ j.1.1/\HtiQ x0 x1 y0 y1 z0 z1 n (selQ (J3.add (JvQ (selQ (J3.dbl (JvQ g)))) (⟨(⟨dF x0,dF x1⟩:F2p),(⟨dF y0,dF y1⟩:F2p),(⟨dF z0,dF z1⟩:F2p)⟩:J3 F2p))) = HtiQ x0 x1 y0 y1 z0 z1 n j.1.2) ?_ (by kernel_rfl)
    refine ⟨ilt_nn2 k,rfl,hg.1,hg.2.1,hg.2.2.1,hg.2.2.2.1,hg.2.2.2.2.1,hg.2.2.2.2.2,by rw [h0];rfl,rfl,lE _,lE _,lE _,lE _,lE _,lE _,hx0,hx1,hy0,hy1,hz0,hz1,hs,rfl,next _ ?_⟩
    rw [JvQ_sel,hnext,J3.times,if_pos h0,hhalf,hv]
 ·intro ⟨⟨k,g⟩,hk,hg,hv⟩ junk h0
  simp only at hk hv h0
  have hg:LtQ g:=hg
  subst h0
  rw [Nat.sub_zero,Nat.pow_zero,Nat.div_one] at hv
  refine same (p:=endN (.v1 (.agg (csQ g))) (.v1 (.agg [q6 (eF (J3.times (⟨(⟨dF x0,dF x1⟩:F2p),(⟨dF y0,dF y1⟩:F2p),(⟨dF z0,dF z1⟩:F2p)⟩:J3 F2p) (blen (nv n)) (nv n)).x.x),q6 (eF (J3.times (⟨(⟨dF x0,dF x1⟩:F2p),(⟨dF y0,dF y1⟩:F2p),(⟨dF z0,dF z1⟩:F2p)⟩:J3 F2p) (blen (nv n)) (nv n)).x.y),q6 (eF (J3.times (⟨(⟨dF x0,dF x1⟩:F2p),(⟨dF y0,dF y1⟩:F2p),(⟨dF z0,dF z1⟩:F2p)⟩:J3 F2p) (blen (nv n)) (nv n)).y.x),q6 (eF (J3.times (⟨(⟨dF x0,dF x1⟩:F2p),(⟨dF y0,dF y1⟩:F2p),(⟨dF z0,dF z1⟩:F2p)⟩:J3 F2p) (blen (nv n)) (nv n)).y.y),q6 (eF (J3.times (⟨(⟨dF x0,dF x1⟩:F2p),(⟨dF y0,dF y1⟩:F2p),(⟨dF z0,dF z1⟩:F2p)⟩:J3 F2p) (blen (nv n)) (nv n)).z.x),q6 (eF (J3.times (⟨(⟨dF x0,dF x1⟩:F2p),(⟨dF y0,dF y1⟩:F2p),(⟨dF z0,dF z1⟩:F2p)⟩:J3 F2p) (blen (nv n)) (nv n)).z.y)]))) ?_ (by kernel_rfl)
  rw [<-hv]
  exact endC (cvS (nv_d hg.1) (cvS (nv_d hg.2.1) (cvS (nv_d hg.2.2.1) (cvS (nv_d hg.2.2.2.1) (cvS (nv_d hg.2.2.2.2.1) (cvS (nv_d hg.2.2.2.2.2) cv_nil))))))
def GinQ:List (Nat × CallC):=[(115,.pure onCQ),(118,.pure raCQ),(117,.pure tiCQ),(116,.pure loCQ),(33,.pure (cK orderF))]
theorem GinQ_ok:CtxOk Tryz.prog (ctxL GinQ):=cxC okOnQ <| cxC okRaQ <| cxC okTiQ <| cxC okLoQ <| cxC okOrderF cxN
theorem okInQ:(CallC.pure (inCQ rNm)).Ok Tryz.prog 56:=by
 intro args pre v e hp
 unfold inCQ at e
 split at e
 rotate_left
 ·cases e
 rename_i cs x0 x1 y0 y1 z
 cases e
 have hcs:cs = fdQ:=hp _ (by simp)
 subst hcs
 have hx0:nv x0 < pN:=hp _ (by simp)
 have hx1:nv x1 < pN:=hp _ (by simp)
 have hy0:nv y0 < pN:=hp _ (by simp)
 have hy1:nv y1 < pN:=hp _ (by simp)
 refine pWk tK Tryz.func56 (by kernel_rfl) (by kernel_rfl) (by rfl) (by rfl) ?_
 cases ho:A2.on fourQ (⟨(⟨dF x0,dF x1⟩:F2p),(⟨dF y0,dF y1⟩:F2p),z⟩:A2 F2p)
 ·refine eSq mxd tK GinQ_ok 60 [⟨1,2,.lit (.bo false)⟩] (same (p:=A2.on fourQ (⟨(⟨dF x0,dF x1⟩:F2p),(⟨dF y0,dF y1⟩:F2p),z⟩:A2 F2p) = false/\fdQ = fdQ/\lp x0/\lp x1/\lp y0/\lp y1/\endN (.v1 (.sc (.bo false))) (.v1 (.sc (.bo (A2.isIn fourQ rNm (⟨(⟨dF x0,dF x1⟩:F2p),(⟨dF y0,dF y1⟩:F2p),z⟩:A2 F2p)))))) ?_ (by kernel_rfl))
  exact ⟨ho,rfl,hx0,hx1,hy0,hy1,endB (by unfold A2.isIn;rw [ho];rfl)⟩
 ·refine eSq mxd tK GinQ_ok 60 [⟨1,2,.lit (.bo true)⟩] (same (p:=A2.on fourQ (⟨(⟨dF x0,dF x1⟩:F2p),(⟨dF y0,dF y1⟩:F2p),z⟩:A2 F2p) = true/\fdQ = fdQ/\lp x0/\lp x1/\lp y0/\lp y1/\fdQ = fdQ/\lp x0/\lp x1/\lp y0/\lp y1/\fdQ = fdQ/\lp ((selQ (A2.raise (⟨(⟨dF x0,dF x1⟩:F2p),(⟨dF y0,dF y1⟩:F2p),z⟩:A2 F2p))) 0)/\lp ((selQ (A2.raise (⟨(⟨dF x0,dF x1⟩:F2p),(⟨dF y0,dF y1⟩:F2p),z⟩:A2 F2p))) 1)/\lp ((selQ (A2.raise (⟨(⟨dF x0,dF x1⟩:F2p),(⟨dF y0,dF y1⟩:F2p),z⟩:A2 F2p))) 2)/\lp ((selQ (A2.raise (⟨(⟨dF x0,dF x1⟩:F2p),(⟨dF y0,dF y1⟩:F2p),z⟩:A2 F2p))) 3)/\lp ((selQ (A2.raise (⟨(⟨dF x0,dF x1⟩:F2p),(⟨dF y0,dF y1⟩:F2p),z⟩:A2 F2p))) 4)/\lp ((selQ (A2.raise (⟨(⟨dF x0,dF x1⟩:F2p),(⟨dF y0,dF y1⟩:F2p),z⟩:A2 F2p))) 5)/\fdQ = fdQ/\nv ((selQ (J3.times (JvQ (selQ (A2.raise (⟨(⟨dF x0,dF x1⟩:F2p),(⟨dF y0,dF y1⟩:F2p),z⟩:A2 F2p)))) (blen (nv orderF)) (nv orderF))) 0) < pN/\nv ((selQ (J3.times (JvQ (selQ (A2.raise (⟨(⟨dF x0,dF x1⟩:F2p),(⟨dF y0,dF y1⟩:F2p),z⟩:A2 F2p)))) (blen (nv orderF)) (nv orderF))) 1) < pN/\nv ((selQ (J3.times (JvQ (selQ (A2.raise (⟨(⟨dF x0,dF x1⟩:F2p),(⟨dF y0,dF y1⟩:F2p),z⟩:A2 F2p)))) (blen (nv orderF)) (nv orderF))) 2) < pN/\nv ((selQ (J3.times (JvQ (selQ (A2.raise (⟨(⟨dF x0,dF x1⟩:F2p),(⟨dF y0,dF y1⟩:F2p),z⟩:A2 F2p)))) (blen (nv orderF)) (nv orderF))) 3) < pN/\nv ((selQ (J3.times (JvQ (selQ (A2.raise (⟨(⟨dF x0,dF x1⟩:F2p),(⟨dF y0,dF y1⟩:F2p),z⟩:A2 F2p)))) (blen (nv orderF)) (nv orderF))) 4) < pN/\nv ((selQ (J3.times (JvQ (selQ (A2.raise (⟨(⟨dF x0,dF x1⟩:F2p),(⟨dF y0,dF y1⟩:F2p),z⟩:A2 F2p)))) (blen (nv orderF)) (nv orderF))) 5) < pN/\endN (.v1 (.sc (.bo (A2.lower F2p.inv (JvQ (selQ (J3.times (JvQ (selQ (A2.raise (⟨(⟨dF x0,dF x1⟩:F2p),(⟨dF y0,dF y1⟩:F2p),z⟩:A2 F2p)))) (blen (nv orderF)) (nv orderF))))).z))) (.v1 (.sc (.bo (A2.isIn fourQ rNm (⟨(⟨dF x0,dF x1⟩:F2p),(⟨dF y0,dF y1⟩:F2p),z⟩:A2 F2p)))))) ?_ (by kernel_rfl))
  refine ⟨ho,rfl,hx0,hx1,hy0,hy1,rfl,hx0,hx1,hy0,hy1,rfl,lE _,lE _,lE _,lE _,lE _,lE _,rfl,lE _,lE _,lE _,lE _,lE _,lE _,endB ?_⟩
  have e0:JvQ (selQ (A2.raise (⟨(⟨dF x0,dF x1⟩:F2p),(⟨dF y0,dF y1⟩:F2p),z⟩:A2 F2p))) = A2.raise (⟨(⟨dF x0,dF x1⟩:F2p),(⟨dF y0,dF y1⟩:F2p),z⟩:A2 F2p):=JvQ_sel _
  have e1:J3.times (JvQ (selQ (A2.raise (⟨(⟨dF x0,dF x1⟩:F2p),(⟨dF y0,dF y1⟩:F2p),z⟩:A2 F2p)))) (blen (nv orderF)) (nv orderF) = J3.times (A2.raise (⟨(⟨dF x0,dF x1⟩:F2p),(⟨dF y0,dF y1⟩:F2p),z⟩:A2 F2p)) (blen (nv orderF)) (nv orderF):=congrArg (fun q=>J3.times q (blen (nv orderF)) (nv orderF)) e0
  have e2:JvQ (selQ (J3.times (JvQ (selQ (A2.raise (⟨(⟨dF x0,dF x1⟩:F2p),(⟨dF y0,dF y1⟩:F2p),z⟩:A2 F2p)))) (blen (nv orderF)) (nv orderF))) = J3.times (JvQ (selQ (A2.raise (⟨(⟨dF x0,dF x1⟩:F2p),(⟨dF y0,dF y1⟩:F2p),z⟩:A2 F2p)))) (blen (nv orderF)) (nv orderF):=JvQ_sel _
  have e4:J3.times (A2.raise (⟨(⟨dF x0,dF x1⟩:F2p),(⟨dF y0,dF y1⟩:F2p),z⟩:A2 F2p)) (blen (nv orderF)) (nv orderF) = J3.times (A2.raise (⟨(⟨dF x0,dF x1⟩:F2p),(⟨dF y0,dF y1⟩:F2p),z⟩:A2 F2p)) (blen rNm) rNm:=by rw [nv_order]
  have e3:(A2.lower F2p.inv (JvQ (selQ (J3.times (JvQ (selQ (A2.raise (⟨(⟨dF x0,dF x1⟩:F2p),(⟨dF y0,dF y1⟩:F2p),z⟩:A2 F2p)))) (blen (nv orderF)) (nv orderF))))).z = decide ((J3.times (A2.raise (⟨(⟨dF x0,dF x1⟩:F2p),(⟨dF y0,dF y1⟩:F2p),z⟩:A2 F2p)) (blen rNm) rNm).z = 0):=(lower_z F2p.inv _).trans (congrArg (fun q:J3 F2p=>decide (q.z = 0)) (e2.trans (e1.trans e4)))
  refine e3.trans ?_
  unfold A2.isIn A2.mulJ
  rw [ho,Bool.true_and]
def blB (a:Nat->Nat):Bool:=Nat.blt (nv a) pN
def cBl:List AV->Option (List Prop × AV)
 | [.v1 (.agg [.ws .u64 6 a])]=>some ([],.v1 (.sc (.bo (blB a))))
 | _=>none
def GBl:Ctx:=ctxL [(65,.pure (cK prF)),(64,.pure cCmp)]
theorem GBl_ok:CtxOk Tryz.prog GBl:=cxC okBase <| cxC okCmp cxN
theorem cmp_bl (a:Nat->Nat):ilt (cmpI (nv a) (nv prF)) 0 = blB a:=by
 unfold blB cmpI
 rw [nv_prime]
 cases Nat.blt (nv a) pN
 ·cases Nat.blt pN (nv a) <;> rfl
 ·rfl
theorem okBl:(CallC.pure cBl).Ok Tryz.prog 99:=by
 intro args pre v e hp
 unfold cBl at e
 split at e
 rotate_left
 ·cases e
 rename_i a
 cases e
 refine pWk tK Tryz.func99 (by kernel_rfl) (by kernel_rfl) (by rfl) (by rfl) ?_
 refine eSq mxd tK GBl_ok 60 [] (same (p:=endN (.v1 (.sc (.bo (ilt (cmpI (nv a) (nv prF)) 0)))) (.v1 (.sc (.bo (blB a))))) ?_ (by kernel_rfl))
 exact endB (cmp_bl a)
abbrev p1V (x y:Nat->Nat) (z:Bool):AV:=.v1 (.agg [q6 x,q6 y,.one (.bo z)])
abbrev p2V (x0 x1 y0 y1:Nat->Nat) (z:Bool):AV:=.v1 (.agg [q6 x0,q6 x1,q6 y0,q6 y1,.one (.bo z)])
def GB1:Ctx:=ctxL [(99,.pure cBl)]
theorem GB1_ok:CtxOk Tryz.prog GB1:=cxC okBl cxN
def cB1:List AV->Option (List Prop × AV)
 | [.v1 (.agg [.ws .u64 6 x,.ws .u64 6 y,.one (.bo z)])]=>some ([],.v1 (.sc (.bo (blB x && blB y))))
 | _=>none
theorem okB1:(CallC.pure cB1).Ok Tryz.prog 50:=by
 intro args pre v e hp
 unfold cB1 at e
 split at e
 rotate_left
 ·cases e
 rename_i x y z
 cases e
 refine pWk tK Tryz.func50 (by kernel_rfl) (by kernel_rfl) (by rfl) (by rfl) ?_
 cases h:blB x
 ·refine eSq mxd tK GB1_ok 60 [⟨1,2,.lit (.bo false)⟩] (same (p:=blB x = false/\endN (.v1 (.sc (.bo false))) (.v1 (.sc (.bo (false && blB y))))) ?_ (by kernel_rfl))
  exact ⟨h,endB rfl⟩
 ·refine eSq mxd tK GB1_ok 60 [⟨1,2,.lit (.bo true)⟩] (same (p:=blB x = true/\endN (.v1 (.sc (.bo (blB y)))) (.v1 (.sc (.bo (true && blB y))))) ?_ (by kernel_rfl))
  exact ⟨h,endB rfl⟩
def cB2:List AV->Option (List Prop × AV)
 | [.v1 (.agg [.ws .u64 6 x0,.ws .u64 6 x1,.ws .u64 6 y0,.ws .u64 6 y1,.one (.bo z)])]=>some ([],.v1 (.sc (.bo (blB x0 && (blB x1 && (blB y0 && blB y1))))))
 | _=>none
theorem okB2:(CallC.pure cB2).Ok Tryz.prog 54:=by
 intro args pre v e hp
 unfold cB2 at e
 split at e
 rotate_left
 ·cases e
 rename_i x0 x1 y0 y1 z
 cases e
 refine pWk tK Tryz.func54 (by kernel_rfl) (by kernel_rfl) (by rfl) (by rfl) ?_
 cases h:blB x0
 ·refine eSq mxd tK GB1_ok 60 [⟨1,3,.lit (.bo false)⟩] (same (p:=blB x0 = false/\endN (.v1 (.sc (.bo false))) (.v1 (.sc (.bo (false && (blB x1 && (blB y0 && blB y1))))))) ?_ (by kernel_rfl))
  exact ⟨h,endB rfl⟩
 ·cases h2:blB x1
  ·refine eSq mxd tK GB1_ok 60 [⟨1,3,.lit (.bo true)⟩,⟨1,8,.lit (.bo false)⟩] (same (p:=blB x0 = true/\blB x1 = false/\endN (.v1 (.sc (.bo false))) (.v1 (.sc (.bo (true && (false && (blB y0 && blB y1))))))) ?_ (by kernel_rfl))
   exact ⟨h,h2,endB rfl⟩
  ·cases h3:blB y0
   ·refine eSq mxd tK GB1_ok 60 [⟨1,3,.lit (.bo true)⟩,⟨1,8,.lit (.bo true)⟩,⟨1,14,.lit (.bo false)⟩] (same (p:=blB x0 = true/\blB x1 = true/\blB y0 = false/\endN (.v1 (.sc (.bo false))) (.v1 (.sc (.bo (true && (true && (false && blB y1))))))) ?_ (by kernel_rfl))
    exact ⟨h,h2,h3,endB rfl⟩
   ·refine eSq mxd tK GB1_ok 60 [⟨1,3,.lit (.bo true)⟩,⟨1,8,.lit (.bo true)⟩,⟨1,14,.lit (.bo true)⟩] (same (p:=blB x0 = true/\blB x1 = true/\blB y0 = true/\endN (.v1 (.sc (.bo (blB y1)))) (.v1 (.sc (.bo (true && (true && (true && blB y1))))))) ?_ (by kernel_rfl))
    exact ⟨h,h2,h3,endB rfl⟩
def cFld (cs:List Cell):List AV->Option (List Prop × AV)
 | []=>some ([],.v1 (.agg cs))
 | _=>none
def GF1:Ctx:=ctxL [(104,.pure (cK oneF)),(22,.pure cOf),(105,.pure cTo),(114,.pure (c2 oneF fz))]
theorem GF1_ok:CtxOk Tryz.prog GF1:=cxC okOne0 <| cxC okOf <| cxC okTo <| cxC okOne2 cxN
theorem okFirst:(CallC.pure (cFld fdE)).Ok Tryz.prog 51:=by
 intro args pre v e hp
 unfold cFld at e
 split at e
 rotate_left
 ·cases e
 cases e
 have hno:∀ h,CallOk Tryz.prog 51 [] h (.v1 (.agg fdE)) h:=by
  refine pWk tK Tryz.func51 (by kernel_rfl) (by kernel_rfl) (by rfl) (by kernel_rfl) ?_
  refine eSq mxd tK GF1_ok 60 [] (same (p:=endN (.v1 (.agg fdE)) (.v1 (.agg fdE))) ⟨_,rfl,fun _=>rfl⟩ (by kernel_rfl))
 exact hno
theorem okSecond:(CallC.pure (cFld fdQ)).Ok Tryz.prog 55:=by
 intro args pre v e hp
 unfold cFld at e
 split at e
 rotate_left
 ·cases e
 cases e
 have hno:∀ h,CallOk Tryz.prog 55 [] h (.v1 (.agg fdQ)) h:=by
  refine pWk tK Tryz.func55 (by kernel_rfl) (by kernel_rfl) (by rfl) (by kernel_rfl) ?_
  refine eSq mxd tK GF1_ok 60 [] (same (p:=endN (.v1 (.agg fdQ)) (.v1 (.agg fdQ))) ⟨_,rfl,fun _=>rfl⟩ (by kernel_rfl))
 exact hno
def cI1:List AV->Option (List Prop × AV)
 | [.v1 (.agg [.ws .u64 6 x,.ws .u64 6 y,.one (.bo z)])]=>some ([],.v1 (.agg [q6 (eF (gN x)),q6 (eF (gN y)),.one (.bo z)]))
 | _=>none
def cI2:List AV->Option (List Prop × AV)
 | [.v1 (.agg [.ws .u64 6 x0,.ws .u64 6 x1,.ws .u64 6 y0,.ws .u64 6 y1,.one (.bo z)])]=>some ([],.v1 (.agg [q6 (eF (gN x0)),q6 (eF (gN x1)),q6 (eF (gN y0)),q6 (eF (gN y1)),.one (.bo z)]))
 | _=>none
def GI1:Ctx:=ctxL [(105,.pure cTo),(87,.pure cTo2)]
theorem GI1_ok:CtxOk Tryz.prog GI1:=cxC okTo <| cxC okTo2 cxN
theorem okI1:(CallC.pure cI1).Ok Tryz.prog 53:=by
 intro args pre v e hp
 unfold cI1 at e
 split at e
 rotate_left
 ·cases e
 rename_i x y z
 cases e
 refine pWk tK Tryz.func53 (by kernel_rfl) (by kernel_rfl) (by rfl) (by rfl) ?_
 refine eSq mxd tK GI1_ok 60 [] (same (p:=endN (.v1 (.agg [q6 (eF (gN x)),q6 (eF (gN y)),.one (.bo z)])) (.v1 (.agg [q6 (eF (gN x)),q6 (eF (gN y)),.one (.bo z)]))) ⟨_,rfl,fun _=>rfl⟩ (by kernel_rfl))
theorem okI2:(CallC.pure cI2).Ok Tryz.prog 57:=by
 intro args pre v e hp
 unfold cI2 at e
 split at e
 rotate_left
 ·cases e
 rename_i x0 x1 y0 y1 z
 cases e
 refine pWk tK Tryz.func57 (by kernel_rfl) (by kernel_rfl) (by rfl) (by rfl) ?_
 refine eSq mxd tK GI1_ok 60 [] (same (p:=endN (.v1 (.agg [q6 (eF (gN x0)),q6 (eF (gN x1)),q6 (eF (gN y0)),q6 (eF (gN y1)),.one (.bo z)])) (.v1 (.agg [q6 (eF (gN x0)),q6 (eF (gN x1)),q6 (eF (gN y0)),q6 (eF (gN y1)),.one (.bo z)]))) ⟨_,rfl,fun _=>rfl⟩ (by kernel_rfl))
def isE (x y:Nat->Nat) (z:Bool):Bool:=A2.isIn fourE rNm ⟨gN x,gN y,z⟩
def isQ (x0 x1 y0 y1:Nat->Nat) (z:Bool):Bool:=A2.isIn fourQ rNm ⟨⟨gN x0,gN x1⟩,⟨gN y0,gN y1⟩,z⟩
def lo1 (x y:Nat->Nat):Bool:=blB x && blB y
def lo2 (x0 x1 y0 y1:Nat->Nat):Bool:=blB x0 && (blB x1 && (blB y0 && blB y1))
def cLo1:List AV->Option (List Prop × AV)
 | [.v1 (.agg [.ws .u64 6 x,.ws .u64 6 y,.one (.bo z)])]=>some ([],.v1 (.sc (.bo (lo1 x y))))
 | _=>none
def cLo2:List AV->Option (List Prop × AV)
 | [.v1 (.agg [.ws .u64 6 x0,.ws .u64 6 x1,.ws .u64 6 y0,.ws .u64 6 y1,.one (.bo z)])]=>some ([],.v1 (.sc (.bo (lo2 x0 x1 y0 y1))))
 | _=>none
theorem okLo1:(CallC.pure cLo1).Ok Tryz.prog 50:=okB1
theorem okLo2:(CallC.pure cLo2).Ok Tryz.prog 54:=okB2
def cIn1:List AV->Option (List Prop × AV)
 | [.v1 (.agg [.ws .u64 6 x,.ws .u64 6 y,.one (.bo z)])]=>some ([],.v1 (.sc (.bo (lo1 x y && isE x y z))))
 | _=>none
def cIn2:List AV->Option (List Prop × AV)
 | [.v1 (.agg [.ws .u64 6 x0,.ws .u64 6 x1,.ws .u64 6 y0,.ws .u64 6 y1,.one (.bo z)])]=>some ([],.v1 (.sc (.bo (lo2 x0 x1 y0 y1 && isQ x0 x1 y0 y1 z))))
 | _=>none
def GIn1:Ctx:=ctxL [(50,.pure cLo1),(51,.pure (cFld fdE)),(53,.pure cI1),(52,.pure (inCE rNm))]
theorem GIn1_ok:CtxOk Tryz.prog GIn1:=cxC okLo1 <| cxC okFirst <| cxC okI1 <| cxC okInE cxN
def GIn2:Ctx:=ctxL [(54,.pure cLo2),(55,.pure (cFld fdQ)),(57,.pure cI2),(56,.pure (inCQ rNm))]
theorem GIn2_ok:CtxOk Tryz.prog GIn2:=cxC okLo2 <| cxC okSecond <| cxC okI2 <| cxC okInQ cxN
theorem isE_eq (x y:Nat->Nat) (z:Bool):A2.isIn fourE rNm ⟨dF (eF (gN x)),dF (eF (gN y)),z⟩ = isE x y z:=by rw [qE,qE];rfl
theorem isQ_eq (x0 x1 y0 y1:Nat->Nat) (z:Bool):A2.isIn fourQ rNm ⟨⟨dF (eF (gN x0)),dF (eF (gN x1))⟩,⟨dF (eF (gN y0)),dF (eF (gN y1))⟩,z⟩ = isQ x0 x1 y0 y1 z:=by rw [qE,qE,qE,qE];rfl
theorem okIn1:(CallC.pure cIn1).Ok Tryz.prog 16:=by
 intro args pre v e hp
 unfold cIn1 at e
 split at e
 rotate_left
 ·cases e
 rename_i x y z
 cases e
 refine pWk tK Tryz.func16 (by kernel_rfl) (by kernel_rfl) (by rfl) (by rfl) ?_
 cases h:lo1 x y
 ·refine eSq mxd tK GIn1_ok 60 [⟨1,2,.lit (.bo false)⟩] (same (p:=lo1 x y = false/\endN (.v1 (.sc (.bo false))) (.v1 (.sc (.bo (false && isE x y z))))) ?_ (by kernel_rfl))
  exact ⟨h,endB rfl⟩
 ·refine eSq mxd tK GIn1_ok 60 [⟨1,2,.lit (.bo true)⟩] (same (p:=lo1 x y = true/\fdE = fdE/\lp (eF (gN x))/\lp (eF (gN y))/\endN (.v1 (.sc (.bo (A2.isIn fourE rNm ⟨dF (eF (gN x)),dF (eF (gN y)),z⟩)))) (.v1 (.sc (.bo (true && isE x y z))))) ?_ (by kernel_rfl))
  exact ⟨h,rfl,lE _,lE _,endB (by rw [isE_eq,Bool.true_and])⟩
theorem okIn2:(CallC.pure cIn2).Ok Tryz.prog 17:=by
 intro args pre v e hp
 unfold cIn2 at e
 split at e
 rotate_left
 ·cases e
 rename_i x0 x1 y0 y1 z
 cases e
 refine pWk tK Tryz.func17 (by kernel_rfl) (by kernel_rfl) (by rfl) (by rfl) ?_
 cases h:lo2 x0 x1 y0 y1
 ·refine eSq mxd tK GIn2_ok 60 [⟨1,2,.lit (.bo false)⟩] (same (p:=lo2 x0 x1 y0 y1 = false/\endN (.v1 (.sc (.bo false))) (.v1 (.sc (.bo (false && isQ x0 x1 y0 y1 z))))) ?_ (by kernel_rfl))
  exact ⟨h,endB rfl⟩
 ·refine eSq mxd tK GIn2_ok 60 [⟨1,2,.lit (.bo true)⟩] (same (p:=lo2 x0 x1 y0 y1 = true/\fdQ = fdQ/\lp (eF (gN x0))/\lp (eF (gN x1))/\lp (eF (gN y0))/\lp (eF (gN y1))/\endN (.v1 (.sc (.bo (A2.isIn fourQ rNm ⟨⟨dF (eF (gN x0)),dF (eF (gN x1))⟩,⟨dF (eF (gN y0)),dF (eF (gN y1))⟩,z⟩)))) (.v1 (.sc (.bo (true && isQ x0 x1 y0 y1 z))))) ?_ (by kernel_rfl))
  exact ⟨h,rfl,lE _,lE _,lE _,lE _,endB (by rw [isQ_eq,Bool.true_and])⟩
theorem as_T1 (F:S12->S12) {A s t:S12} (a:A = s) (h:t = F s):asP (cells12 (F A)) (cells12 t):=fun ρ=>by rw [h,a]
theorem as_T2 {A B s u t:S12} (a:A = s) (b:B = u) (h:t = s * u):asP (cells12 (S12.mul A B)) (cells12 t):=fun ρ=>by rw [h,a,b];rfl
theorem end_T {s t:S12} (h:s = t):endN (.v1 (.agg (cells12 s))) (.v1 (e12 t)):=⟨_,rfl,fun ρ=>by rw [h]⟩
abbrev wU:Nat->Nat:=wd (15132376222941642752 % W)
abbrev wA:Nat->Nat:=wd (5044125407647214251 % W)
abbrev wB:Nat->Nat:=wd (15132376222941642753 % W)
def nU:Nat:=nv wU
def nA:Nat:=nv wA
def nB:Nat:=nv wB
def smS (a:S12):S12:=S12.conj (a ^ nU)
def laE (a:S12):S12:=S12.conj a * S12.inv a
def laF (a:S12):S12:=S12.turns 2 (laE a) * laE a
def laX (f:S12):S12:=(f ^ nA) ^ nB
def laZ (x:S12):S12:=smS (smS x) * S12.conj x
def laO (f x:S12):S12:=((smS (laZ x) * f) * S12.turns 1 (laZ x)) * S12.turns 2 (smS x) * S12.turns 3 x
def lastS (a:S12):S12:=laO (laF a) (laX (laF a))
def GSmS:Ctx:=ctxL [(22,.pure cOf),(63,.pure cPw),(89,.pure (k121 S12.conj))]
theorem GSmS_ok:CtxOk Tryz.prog GSmS:=cxC okOf <| cxC okPow12 <| cxC okConj12 cxN
theorem okSmS:(CallC.pure (k121 smS)).Ok Tryz.prog 92:=by
 refine k121_ok Tryz.func92 (by kernel_rfl) (by kernel_rfl) fun a0 a1 a2 a3 a4 a5 a6 a7 a8 a9 a10 a11 ha0 ha1 ha2 ha3 ha4 ha5 ha6 ha7 ha8 ha9 ha10 ha11=>?_
 obtain ⟨t1,ht1⟩:=exq ((d12 a0 a1 a2 a3 a4 a5 a6 a7 a8 a9 a10 a11) ^ nU)
 obtain ⟨t2,ht2⟩:=exq (S12.conj t1)
 refine eSq mxd tK GSmS_ok 100 [⟨1,2,.as (eC12 t1)⟩,⟨1,3,.as (eC12 t2)⟩] ?_
 refine same (p:=asP (cells12 ((d12 a0 a1 a2 a3 a4 a5 a6 a7 a8 a9 a10 a11) ^ nv wU)) (eC12 t1)/\lp a0/\lp a1/\lp a2/\lp a3/\lp a4/\lp a5/\lp a6/\lp a7/\lp a8/\lp a9/\lp a10/\lp a11/\asP (cells12 (S12.conj (d12e t1))) (eC12 t2)/\eL12 t1 (endN (.v1 (.agg (eC12 t2))) (.v1 (e12 (smS (d12 a0 a1 a2 a3 a4 a5 a6 a7 a8 a9 a10 a11)))))) ?_ (by kernel_rfl)
 exact ⟨as_T1 (fun q=>q ^ nU) rfl ht1,ha0,ha1,ha2,ha3,ha4,ha5,ha6,ha7,ha8,ha9,ha10,ha11,as_T1 S12.conj (d12_eF _) ht2,lE _,lE _,lE _,lE _,lE _,lE _,lE _,lE _,lE _,lE _,lE _,lE _,end_T (by subst ht2 ht1;rfl)⟩
def GLa:Ctx:=ctxL [(22,.pure cOf),(63,.pure cPw),(89,.pure (k121 S12.conj)),(90,.pure (k121 S12.inv)),(60,.pure (k122 S12.mul)),(91,.pure cFr),(92,.pure (k121 smS))]
theorem GLa_ok:CtxOk Tryz.prog GLa:=cxC okOf <| cxC okPow12 <| cxC okConj12 <| cxC okInv12 <| cxC okMul12 <| cxC okFrob <| cxC okSmS cxN
theorem okLast:(CallC.pure (k121 lastS)).Ok Tryz.prog 43:=by
 refine k121_ok Tryz.func43 (by kernel_rfl) (by kernel_rfl) fun a0 a1 a2 a3 a4 a5 a6 a7 a8 a9 a10 a11 ha0 ha1 ha2 ha3 ha4 ha5 ha6 ha7 ha8 ha9 ha10 ha11=>?_
 obtain ⟨t1,ht1⟩:=exq (S12.conj (d12 a0 a1 a2 a3 a4 a5 a6 a7 a8 a9 a10 a11))
 obtain ⟨t2,ht2⟩:=exq (S12.inv (d12 a0 a1 a2 a3 a4 a5 a6 a7 a8 a9 a10 a11))
 obtain ⟨t3,ht3⟩:=exq (t1 * t2)
 obtain ⟨t4,ht4⟩:=exq (S12.turns 2 t3)
 obtain ⟨t5,ht5⟩:=exq (t4 * t3)
 obtain ⟨t6,ht6⟩:=exq (t5 ^ nA)
 obtain ⟨t7,ht7⟩:=exq (t6 ^ nB)
 obtain ⟨t8,ht8⟩:=exq (smS t7)
 obtain ⟨t9,ht9⟩:=exq (smS t8)
 obtain ⟨t10,ht10⟩:=exq (S12.conj t7)
 obtain ⟨t11,ht11⟩:=exq (t9 * t10)
 obtain ⟨t12,ht12⟩:=exq (smS t11)
 obtain ⟨t13,ht13⟩:=exq (t12 * t5)
 obtain ⟨t14,ht14⟩:=exq (S12.turns 1 t11)
 obtain ⟨t15,ht15⟩:=exq (t13 * t14)
 obtain ⟨t16,ht16⟩:=exq (S12.turns 2 t8)
 obtain ⟨t17,ht17⟩:=exq (t15 * t16)
 obtain ⟨t18,ht18⟩:=exq (S12.turns 3 t7)
 obtain ⟨t19,ht19⟩:=exq (t17 * t18)
 refine eSq mxd tK GLa_ok 300 [⟨1,1,.as (eC12 t1)⟩,⟨1,3,.as (eC12 t2)⟩,⟨1,4,.as (eC12 t3)⟩,⟨2,1,.as (eC12 t4)⟩,⟨2,3,.as (eC12 t5)⟩,⟨3,2,.as (eC12 t6)⟩,⟨3,4,.as (eC12 t7)⟩,⟨4,1,.as (eC12 t8)⟩,⟨5,1,.as (eC12 t9)⟩,⟨5,3,.as (eC12 t10)⟩,⟨5,4,.as (eC12 t11)⟩,⟨6,1,.as (eC12 t12)⟩,⟨6,3,.as (eC12 t13)⟩,⟨10,4,.as (eC12 t14)⟩,⟨10,5,.as (eC12 t15)⟩,⟨10,4,.as (eC12 t16)⟩,⟨10,5,.as (eC12 t17)⟩,⟨10,4,.as (eC12 t18)⟩,⟨10,5,.as (eC12 t19)⟩] ?_
 refine same (p:=asP (cells12 (S12.conj (d12 a0 a1 a2 a3 a4 a5 a6 a7 a8 a9 a10 a11))) (eC12 t1)/\lp a0/\lp a1/\lp a2/\lp a3/\lp a4/\lp a5/\lp a6/\lp a7/\lp a8/\lp a9/\lp a10/\lp a11/\asP (cells12 (S12.inv (d12 a0 a1 a2 a3 a4 a5 a6 a7 a8 a9 a10 a11))) (eC12 t2)/\lp a0/\lp a1/\lp a2/\lp a3/\lp a4/\lp a5/\lp a6/\lp a7/\lp a8/\lp a9/\lp a10/\lp a11/\asP (cells12 (S12.mul (d12e t1) (d12e t2))) (eC12 t3)/\eL12 t1 (eL12 t2 (asP (cells12 (S12.turns 2 (d12e t3))) (eC12 t4)/\2 <= 12/\eL12 t3 (asP (cells12 (S12.mul (d12e t4) (d12e t3))) (eC12 t5)/\eL12 t4 (eL12 t3 (asP (cells12 ((d12e t5) ^ nv wA)) (eC12 t6)/\eL12 t5 (asP (cells12 ((d12e t6) ^ nv wB)) (eC12 t7)/\eL12 t6 (asP (cells12 (smS (d12e t7))) (eC12 t8)/\eL12 t7 (asP (cells12 (smS (d12e t8))) (eC12 t9)/\eL12 t8 (asP (cells12 (S12.conj (d12e t7))) (eC12 t10)/\eL12 t7 (asP (cells12 (S12.mul (d12e t9) (d12e t10))) (eC12 t11)/\eL12 t9 (eL12 t10 (asP (cells12 (smS (d12e t11))) (eC12 t12)/\eL12 t11 (asP (cells12 (S12.mul (d12e t12) (d12e t5))) (eC12 t13)/\eL12 t12 (eL12 t5 (asP (cells12 (S12.turns 1 (d12e t11))) (eC12 t14)/\1 <= 12/\eL12 t11 (asP (cells12 (S12.mul (d12e t13) (d12e t14))) (eC12 t15)/\eL12 t13 (eL12 t14 (asP (cells12 (S12.turns 2 (d12e t8))) (eC12 t16)/\2 <= 12/\eL12 t8 (asP (cells12 (S12.mul (d12e t15) (d12e t16))) (eC12 t17)/\eL12 t15 (eL12 t16 (asP (cells12 (S12.turns 3 (d12e t7))) (eC12 t18)/\3 <= 12/\eL12 t7 (asP (cells12 (S12.mul (d12e t17) (d12e t18))) (eC12 t19)/\eL12 t17 (eL12 t18 (endN (.v1 (.agg (eC12 t19))) (.v1 (e12 (lastS (d12 a0 a1 a2 a3 a4 a5 a6 a7 a8 a9 a10 a11))))))))))))))))))))))))))))) ?_ (by kernel_rfl)
 exact ⟨as_T1 S12.conj rfl ht1,ha0,ha1,ha2,ha3,ha4,ha5,ha6,ha7,ha8,ha9,ha10,ha11,as_T1 S12.inv rfl ht2,ha0,ha1,ha2,ha3,ha4,ha5,ha6,ha7,ha8,ha9,ha10,ha11,as_T2 (d12_eF _) (d12_eF _) ht3,lE _,lE _,lE _,lE _,lE _,lE _,lE _,lE _,lE _,lE _,lE _,lE _,lE _,lE _,lE _,lE _,lE _,lE _,lE _,lE _,lE _,lE _,lE _,lE _,as_T1 (S12.turns 2) (d12_eF _) ht4,by decide,lE _,lE _,lE _,lE _,lE _,lE _,lE _,lE _,lE _,lE _,lE _,lE _,as_T2 (d12_eF _) (d12_eF _) ht5,lE _,lE _,lE _,lE _,lE _,lE _,lE _,lE _,lE _,lE _,lE _,lE _,lE _,lE _,lE _,lE _,lE _,lE _,lE _,lE _,lE _,lE _,lE _,lE _,as_T1 (fun q=>q ^ nA) (d12_eF _) ht6,lE _,lE _,lE _,lE _,lE _,lE _,lE _,lE _,lE _,lE _,lE _,lE _,as_T1 (fun q=>q ^ nB) (d12_eF _) ht7,lE _,lE _,lE _,lE _,lE _,lE _,lE _,lE _,lE _,lE _,lE _,lE _,as_T1 smS (d12_eF _) ht8,lE _,lE _,lE _,lE _,lE _,lE _,lE _,lE _,lE _,lE _,lE _,lE _,as_T1 smS (d12_eF _) ht9,lE _,lE _,lE _,lE _,lE _,lE _,lE _,lE _,lE _,lE _,lE _,lE _,as_T1 S12.conj (d12_eF _) ht10,lE _,lE _,lE _,lE _,lE _,lE _,lE _,lE _,lE _,lE _,lE _,lE _,as_T2 (d12_eF _) (d12_eF _) ht11,lE _,lE _,lE _,lE _,lE _,lE _,lE _,lE _,lE _,lE _,lE _,lE _,lE _,lE _,lE _,lE _,lE _,lE _,lE _,lE _,lE _,lE _,lE _,lE _,as_T1 smS (d12_eF _) ht12,lE _,lE _,lE _,lE _,lE _,lE _,lE _,lE _,lE _,lE _,lE _,lE _,as_T2 (d12_eF _) (d12_eF _) ht13,lE _,lE _,lE _,lE _,lE _,lE _,lE _,lE _,lE _,lE _,lE _,lE _,lE _,lE _,lE _,lE _,lE _,lE _,lE _,lE _,lE _,lE _,lE _,lE _,as_T1 (S12.turns 1) (d12_eF _) ht14,by decide,lE _,lE _,lE _,lE _,lE _,lE _,lE _,lE _,lE _,lE _,lE _,lE _,as_T2 (d12_eF _) (d12_eF _) ht15,lE _,lE _,lE _,lE _,lE _,lE _,lE _,lE _,lE _,lE _,lE _,lE _,lE _,lE _,lE _,lE _,lE _,lE _,lE _,lE _,lE _,lE _,lE _,lE _,as_T1 (S12.turns 2) (d12_eF _) ht16,by decide,lE _,lE _,lE _,lE _,lE _,lE _,lE _,lE _,lE _,lE _,lE _,lE _,as_T2 (d12_eF _) (d12_eF _) ht17,lE _,lE _,lE _,lE _,lE _,lE _,lE _,lE _,lE _,lE _,lE _,lE _,lE _,lE _,lE _,lE _,lE _,lE _,lE _,lE _,lE _,lE _,lE _,lE _,as_T1 (S12.turns 3) (d12_eF _) ht18,by decide,lE _,lE _,lE _,lE _,lE _,lE _,lE _,lE _,lE _,lE _,lE _,lE _,as_T2 (d12_eF _) (d12_eF _) ht19,lE _,lE _,lE _,lE _,lE _,lE _,lE _,lE _,lE _,lE _,lE _,lE _,lE _,lE _,lE _,lE _,lE _,lE _,lE _,lE _,lE _,lE _,lE _,lE _,end_T (by subst ht19 ht18 ht17 ht16 ht15 ht14 ht13 ht12 ht11 ht10 ht9 ht8 ht7 ht6 ht5 ht4 ht3 ht2 ht1;rfl)⟩
def lastz (s:S12):S12:=bif z12 s then 0 else lastS s
def cLast (args:List AV):Option (List Prop × AV) :=
 match args with
 | [.v1 (.agg [.ws .u64 6 a0,.ws .u64 6 a1,.ws .u64 6 a2,.ws .u64 6 a3,.ws .u64 6 a4,.ws .u64 6 a5,.ws .u64 6 a6,.ws .u64 6 a7,.ws .u64 6 a8,.ws .u64 6 a9,.ws .u64 6 a10,.ws .u64 6 a11])]=>some ([],.tup [n12 (lastz (g12 a0 a1 a2 a3 a4 a5 a6 a7 a8 a9 a10 a11)),.sc (.it (invE (g12 a0 a1 a2 a3 a4 a5 a6 a7 a8 a9 a10 a11)))])
 | _=>none
def GLsP:Ctx:=ctxL [(41,.pure cTo12),(42,.pure cFrom12),(43,.pure (k121 lastS))]
theorem GLsP_ok:CtxOk Tryz.prog GLsP:=cxC okTo12 <| cxC okFrom12 <| cxC okLast cxN
theorem okLastP:(CallC.pure cLast).Ok Tryz.prog 11:=by
 intro args pre v e _
 unfold cLast at e
 split at e
 ·rename_i a0 a1 a2 a3 a4 a5 a6 a7 a8 a9 a10 a11
  cases e
  refine pWk tK Tryz.func11 (by kernel_rfl) (by kernel_rfl) (by rfl) (by rfl) ?_
  have hz:(eqN W 6 (eF (gN a0)) fz && (eqN W 6 (eF (gN a1)) fz && (eqN W 6 (eF (gN a2)) fz && (eqN W 6 (eF (gN a3)) fz && (eqN W 6 (eF (gN a4)) fz && (eqN W 6 (eF (gN a5)) fz && (eqN W 6 (eF (gN a6)) fz && (eqN W 6 (eF (gN a7)) fz && (eqN W 6 (eF (gN a8)) fz && (eqN W 6 (eF (gN a9)) fz && (eqN W 6 (eF (gN a10)) fz && (eqN W 6 (eF (gN a11)) fz && true)))))))))))) = z12 (g12 a0 a1 a2 a3 a4 a5 a6 a7 a8 a9 a10 a11):=by
   simp only [eqz,Bool.and_true];rfl
  cases hb:z12 (g12 a0 a1 a2 a3 a4 a5 a6 a7 a8 a9 a10 a11)
  ·refine eSq mxd tK GLsP_ok 100 [⟨2,2,.lit (.bo false)⟩] ?_
   refine same (p:=(eqN W 6 (eF (gN a0)) fz && (eqN W 6 (eF (gN a1)) fz && (eqN W 6 (eF (gN a2)) fz && (eqN W 6 (eF (gN a3)) fz && (eqN W 6 (eF (gN a4)) fz && (eqN W 6 (eF (gN a5)) fz && (eqN W 6 (eF (gN a6)) fz && (eqN W 6 (eF (gN a7)) fz && (eqN W 6 (eF (gN a8)) fz && (eqN W 6 (eF (gN a9)) fz && (eqN W 6 (eF (gN a10)) fz && (eqN W 6 (eF (gN a11)) fz && true)))))))))))) = false/\lp (eF (gN a0))/\lp (eF (gN a1))/\lp (eF (gN a2))/\lp (eF (gN a3))/\lp (eF (gN a4))/\lp (eF (gN a5))/\lp (eF (gN a6))/\lp (eF (gN a7))/\lp (eF (gN a8))/\lp (eF (gN a9))/\lp (eF (gN a10))/\lp (eF (gN a11))/\eL12 (lastS (d12 (eF (gN a0)) (eF (gN a1)) (eF (gN a2)) (eF (gN a3)) (eF (gN a4)) (eF (gN a5)) (eF (gN a6)) (eF (gN a7)) (eF (gN a8)) (eF (gN a9)) (eF (gN a10)) (eF (gN a11)))) (endN (.tup [v12 (vF (dF (eF (lastS (d12 (eF (gN a0)) (eF (gN a1)) (eF (gN a2)) (eF (gN a3)) (eF (gN a4)) (eF (gN a5)) (eF (gN a6)) (eF (gN a7)) (eF (gN a8)) (eF (gN a9)) (eF (gN a10)) (eF (gN a11)))).p.u.x))) (vF (dF (eF (lastS (d12 (eF (gN a0)) (eF (gN a1)) (eF (gN a2)) (eF (gN a3)) (eF (gN a4)) (eF (gN a5)) (eF (gN a6)) (eF (gN a7)) (eF (gN a8)) (eF (gN a9)) (eF (gN a10)) (eF (gN a11)))).p.u.y))) (vF (dF (eF (lastS (d12 (eF (gN a0)) (eF (gN a1)) (eF (gN a2)) (eF (gN a3)) (eF (gN a4)) (eF (gN a5)) (eF (gN a6)) (eF (gN a7)) (eF (gN a8)) (eF (gN a9)) (eF (gN a10)) (eF (gN a11)))).q.u.x))) (vF (dF (eF (lastS (d12 (eF (gN a0)) (eF (gN a1)) (eF (gN a2)) (eF (gN a3)) (eF (gN a4)) (eF (gN a5)) (eF (gN a6)) (eF (gN a7)) (eF (gN a8)) (eF (gN a9)) (eF (gN a10)) (eF (gN a11)))).q.u.y))) (vF (dF (eF (lastS (d12 (eF (gN a0)) (eF (gN a1)) (eF (gN a2)) (eF (gN a3)) (eF (gN a4)) (eF (gN a5)) (eF (gN a6)) (eF (gN a7)) (eF (gN a8)) (eF (gN a9)) (eF (gN a10)) (eF (gN a11)))).p.v.x))) (vF (dF (eF (lastS (d12 (eF (gN a0)) (eF (gN a1)) (eF (gN a2)) (eF (gN a3)) (eF (gN a4)) (eF (gN a5)) (eF (gN a6)) (eF (gN a7)) (eF (gN a8)) (eF (gN a9)) (eF (gN a10)) (eF (gN a11)))).p.v.y))) (vF (dF (eF (lastS (d12 (eF (gN a0)) (eF (gN a1)) (eF (gN a2)) (eF (gN a3)) (eF (gN a4)) (eF (gN a5)) (eF (gN a6)) (eF (gN a7)) (eF (gN a8)) (eF (gN a9)) (eF (gN a10)) (eF (gN a11)))).q.v.x))) (vF (dF (eF (lastS (d12 (eF (gN a0)) (eF (gN a1)) (eF (gN a2)) (eF (gN a3)) (eF (gN a4)) (eF (gN a5)) (eF (gN a6)) (eF (gN a7)) (eF (gN a8)) (eF (gN a9)) (eF (gN a10)) (eF (gN a11)))).q.v.y))) (vF (dF (eF (lastS (d12 (eF (gN a0)) (eF (gN a1)) (eF (gN a2)) (eF (gN a3)) (eF (gN a4)) (eF (gN a5)) (eF (gN a6)) (eF (gN a7)) (eF (gN a8)) (eF (gN a9)) (eF (gN a10)) (eF (gN a11)))).p.w.x))) (vF (dF (eF (lastS (d12 (eF (gN a0)) (eF (gN a1)) (eF (gN a2)) (eF (gN a3)) (eF (gN a4)) (eF (gN a5)) (eF (gN a6)) (eF (gN a7)) (eF (gN a8)) (eF (gN a9)) (eF (gN a10)) (eF (gN a11)))).p.w.y))) (vF (dF (eF (lastS (d12 (eF (gN a0)) (eF (gN a1)) (eF (gN a2)) (eF (gN a3)) (eF (gN a4)) (eF (gN a5)) (eF (gN a6)) (eF (gN a7)) (eF (gN a8)) (eF (gN a9)) (eF (gN a10)) (eF (gN a11)))).q.w.x))) (vF (dF (eF (lastS (d12 (eF (gN a0)) (eF (gN a1)) (eF (gN a2)) (eF (gN a3)) (eF (gN a4)) (eF (gN a5)) (eF (gN a6)) (eF (gN a7)) (eF (gN a8)) (eF (gN a9)) (eF (gN a10)) (eF (gN a11)))).q.w.y))),.sc (.it 0)]) (.tup [n12 (lastz (g12 a0 a1 a2 a3 a4 a5 a6 a7 a8 a9 a10 a11)),.sc (.it (invE (g12 a0 a1 a2 a3 a4 a5 a6 a7 a8 a9 a10 a11)))]))) ?_ (by kernel_rfl)
   exact ⟨by rw [hz,hb],lE _,lE _,lE _,lE _,lE _,lE _,lE _,lE _,lE _,lE _,lE _,lE _,lE _,lE _,lE _,lE _,lE _,lE _,lE _,lE _,lE _,lE _,lE _,lE _,endPI (by rw [dG12];unfold lastz;rw [hb,cond_false]) rfl (by unfold invE;rw [hb,cond_false])⟩
  ·refine eSq mxd tK GLsP_ok 100 [⟨2,2,.lit (.bo true)⟩] ?_
   refine same (p:=(eqN W 6 (eF (gN a0)) fz && (eqN W 6 (eF (gN a1)) fz && (eqN W 6 (eF (gN a2)) fz && (eqN W 6 (eF (gN a3)) fz && (eqN W 6 (eF (gN a4)) fz && (eqN W 6 (eF (gN a5)) fz && (eqN W 6 (eF (gN a6)) fz && (eqN W 6 (eF (gN a7)) fz && (eqN W 6 (eF (gN a8)) fz && (eqN W 6 (eF (gN a9)) fz && (eqN W 6 (eF (gN a10)) fz && (eqN W 6 (eF (gN a11)) fz && true)))))))))))) = true/\endN (.tup [v12 fz fz fz fz fz fz fz fz fz fz fz fz,.sc (.it 6)]) (.tup [n12 (lastz (g12 a0 a1 a2 a3 a4 a5 a6 a7 a8 a9 a10 a11)),.sc (.it (invE (g12 a0 a1 a2 a3 a4 a5 a6 a7 a8 a9 a10 a11)))])) ?_ (by kernel_rfl)
   have h1:lastz (g12 a0 a1 a2 a3 a4 a5 a6 a7 a8 a9 a10 a11) = 0:=by unfold lastz;rw [hb,cond_true]
   have h2:invE (g12 a0 a1 a2 a3 a4 a5 a6 a7 a8 a9 a10 a11) = 6:=by unfold invE;rw [hb,cond_true]
   rw [h1,h2]
   refine ⟨by rw [hz,hb],_,rfl,fun ρ=>?_⟩
   have h3:(v12 fz fz fz fz fz fz fz fz fz fz fz fz).val ρ = (n12 0).val ρ:=v12_val z0V z0V z0V z0V z0V z0V z0V z0V z0V z0V z0V z0V ρ
   simp only [AV.val,List.map_cons,List.map_nil,h3]
 ·cases e
theorem ep (x:F2p):F2p.inv x = F2p.inv' x:=by
 unfold F2p.inv F2p.inv' inv2x inv2y eInv nor2 F2p.nrm
 rw [ePow_eq]
theorem ep6 (x:S6):S6.inv x = S6.inv' x:=by
 have h1:S6.ax x = iv4 x:=by unfold S6.ax iv4 iv1 iv3 iv2;rw [xi_mul,Rg.mul_comm kx]
 have h2:S6.ay x = iv8 x:=by unfold S6.ay iv8 iv6 iv5 iv7;rw [xi_mul,Rg.mul_comm kx]
 have h3:S6.az x = iv11 x:=rfl
 have h4:S6.nr x = iv17 x:=by
  unfold S6.nr iv17 iv12 iv16 iv15 iv13 iv14
  rw [h1,h2,h3,xi_mul,Rg.mul_comm kx]
 unfold S6.inv S6.inv' iv19 iv20 iv21 iv18
 rw [h1,h2,h3,h4,ep]
theorem ep12 (x:S12):S12.inv x = S12.inv' x:=by
 have hn:jv4d x = S12.nr x:=by
  unfold jv4d jv1d jv3d jv2d S12.nr
  rw [S6.next_mul];rfl
 unfold S12.inv S12.inv' jv6d jv8d jv7d jv5d
 rw [hn,ep6]
 rfl
theorem conj_t6 (s:S12):S12.conj s = S12.turns 6 s:=by rw [S12.turns_six];rfl
theorem inv_of {s:S12} (h:s ≠ 0):s * S12.inv s = 1:=by rw [ep12];exact S12.mul_inv h
theorem turns_1 (n:Nat):S12.turns n 1 = 1:=by rw [S12.turns_pow,Rg.one_pow]
theorem conj_1:S12.conj 1 = 1:=by rw [conj_t6,turns_1]
theorem smS_1:smS 1 = 1:=by unfold smS;rw [Rg.one_pow,conj_1]
theorem laX_1:laX 1 = 1:=by unfold laX;rw [Rg.one_pow,Rg.one_pow]
theorem laZ_1:laZ 1 = 1:=by unfold laZ;rw [smS_1,smS_1,conj_1,Rg.one_mul]
theorem laO_1:laO 1 1 = 1:=by unfold laO;rw [laZ_1,smS_1,turns_1,turns_1,turns_1,Rg.one_mul,Rg.one_mul,Rg.one_mul,Rg.one_mul]
theorem last_of {a:S12} (h:laE a = 1):lastS a = 1:=by
 have hF:laF a = 1:=by unfold laF;rw [h,turns_1,Rg.one_mul]
 unfold lastS
 rw [hF,laX_1,laO_1]
theorem last_conj {a:S12} (h:a ≠ 0) (hc:S12.conj a = a):lastS a = 1:=last_of (by unfold laE;rw [hc,inv_of h])
theorem one_ne:(1:S12) ≠ 0:=fun h=>by
 have:=congrArg (fun s:S12=>s.p.u.x) h
 exact absurd this (by decide)
end Go.Proofs.YtnjocbcjejpklaaGreat
namespace Go.Rq
open Go
structure EC (F:Type) [CR F] where
 a:F
 b:F
 inv:F->F
 inv_ok:∀ x:F,x ≠ 0->x * inv x = 1
 two:(1 + 1:F) ≠ 0
 ns:∀ x:F,x * x * x + a * x + b = 0->x * x + x * x + x * x + a ≠ 0
namespace EC
variable {F:Type} [i:CR F] (C:EC F)
theorem mv {x y z:F} (h:x - y = z):x = y + z:=by grind
theorem mv2 {x y z u:F} (h:x - y = z * u):y = x - z * u:=by grind
theorem mv3 {x y z:F} (h:x + y = z):y = z - x:=by grind
theorem mv4 {m u z:F}:m * (u - z) = -(m * (z - u)):=by grind
theorem mv5 {x y z:F} (h:x - y = -z):y = x + z:=by grind
theorem mv6 {x y z u:F} (h:x = y + z + u):u = x - y - z:=by grind
include C in
theorem cancel {x u v:F} (h:x ≠ 0) (e:x * u = x * v):u = v:=by
 have h1:=C.inv_ok x h
 have h2:C.inv x * (x * u) = C.inv x * (x * v):=by rw [e]
 grind
include C in
theorem dom {x y:F} (h:x * y = 0):x = 0∨y = 0:=by
 by_cases hx:x = 0
 ·exact .inl hx
 ·exact .inr (C.cancel hx (by rw [h];grind))
theorem sub_ne {x y:F} (h:x ≠ y):x - y ≠ 0:=fun e=>h (by grind)
def on:Option (F × F)->Prop
 | none=>True
 | some p=>p.2 * p.2 = p.1 * p.1 * p.1 + C.a * p.1 + C.b
def neg:Option (F × F)->Option (F × F)
 | none=>none
 | some p=>some (p.1,0 - p.2)
variable [DecidableEq F]
def slope (p q:F × F):F :=
 if p.1 = q.1 then (p.1 * p.1 + p.1 * p.1 + p.1 * p.1 + C.a) * C.inv (p.2 + p.2) else (q.2 - p.2) * C.inv (q.1 - p.1)
def by' (l:F) (p q:F × F):F × F:=(l * l - p.1 - q.1,l * (p.1 - (l * l - p.1 - q.1)) - p.2)
def Sl (p q:F × F) (l:F):Prop:=p.2 - q.2 = l * (p.1 - q.1)/\p.1 * p.1 + p.1 * q.1 + q.1 * q.1 + C.a = l * (p.2 + q.2)
def Opp (p q:F × F):Prop:=p.1 = q.1/\p.2 + q.2 = 0
instance [DecidableEq F] (p q:F × F):Decidable (Opp p q):=by unfold Opp;infer_instance
def add:Option (F × F)->Option (F × F)->Option (F × F)
 | none,q=>q
 | some p,none=>some p
 | some p,some q=>if Opp p q then none else some (by' (C.slope p q) p q)
theorem Sl.symm {p q:F × F} {l:F} (h:C.Sl p q l):C.Sl q p l:=by
 obtain ⟨h1,h2⟩:=h
 exact ⟨by grind,by grind⟩
theorem slope_ok {p q:F × F} (hp:C.on (some p)) (hq:C.on (some q)) (h:¬ Opp p q):C.Sl p q (C.slope p q):=by
 obtain ⟨x,y⟩:=p
 obtain ⟨u,v⟩:=q
 simp only [on,Sl,slope,Opp] at *
 by_cases hx:x = u
 ·subst hx
  rw [if_pos rfl]
  have h0:y + v ≠ 0:=fun e=>h ⟨rfl,e⟩
  have h1:(y + v) * (y - v) = 0:=by grind
  rcases C.dom h1 with h2 | h2
  ·exact absurd h2 h0
  ·have:y = v:=by grind
   subst this
   have:=C.inv_ok _ h0
   constructor <;> grind
 ·rw [if_neg hx]
  have h0:u - x ≠ 0:=sub_ne (Ne.symm hx)
  have h1:=C.inv_ok _ h0
  have h2:y - v = (v - y) * C.inv (u - x) * (x - u):=by grind
  refine ⟨h2,C.cancel h0 ?_⟩
  generalize C.inv (u - x) = w at *
  grind
theorem sl_unique {p q:F × F} {l m:F} (h:¬ Opp p q) (h1:C.Sl p q l) (h2:C.Sl p q m):l = m:=by
 obtain ⟨a1,a2⟩:=h1
 obtain ⟨b1,b2⟩:=h2
 by_cases e:l - m = 0
 ·grind
 ·refine absurd ⟨?_,?_⟩ h
  ·have:(l - m) * (p.1 - q.1) = (l - m) * 0:=by grind
   have:=C.cancel e this
   grind
  ·have:(l - m) * (p.2 + q.2) = (l - m) * 0:=by grind
   exact C.cancel e this
theorem add_sl {p q:F × F} {l:F} (hp:C.on (some p)) (hq:C.on (some q)) (h:¬ Opp p q) (hl:C.Sl p q l):C.add (some p) (some q) = some (by' l p q):=by
 have:=C.sl_unique h (C.slope_ok hp hq h) hl
 show (if Opp p q then none else some (by' (C.slope p q) p q)) = _
 rw [if_neg h,this]
theorem add_opp {p q:F × F} (h:Opp p q):C.add (some p) (some q) = none:=by
 show (if Opp p q then none else some (by' (C.slope p q) p q)) = _
 rw [if_pos h]
theorem add_cases {p q:F × F} (hp:C.on (some p)) (hq:C.on (some q)):(Opp p q/\C.add (some p) (some q) = none)∨(¬ Opp p q/\∃ l,C.Sl p q l/\C.add (some p) (some q) = some (by' l p q)):=by
 by_cases h:Opp p q
 ·exact .inl ⟨h,C.add_opp h⟩
 ·exact .inr ⟨h,_,C.slope_ok hp hq h,C.add_sl hp hq h (C.slope_ok hp hq h)⟩
omit [DecidableEq F] in
theorem on_by {p q:F × F} {l:F} (hp:C.on (some p)) (h:C.Sl p q l):C.on (some (by' l p q)):=by
 obtain ⟨x,y⟩:=p
 obtain ⟨u,v⟩:=q
 simp only [on,Sl,by'] at *
 obtain ⟨h1,h2⟩:=h
 have e1:v = y - l * (x - u):=mv2 h1
 have e2:C.a = l * (y + v) - (x * x + x * u + u * u):=mv3 h2
 have e3:C.b = y * y - x * x * x - C.a * x:=mv6 hp
 rw [e3,e2,e1]
 clear e1 e2 e3 h1 h2 hp
 grind
theorem on_add {p q:Option (F × F)} (hp:C.on p) (hq:C.on q):C.on (C.add p q):=by
 match p,q with
 | none,q=>exact hq
 | some p,none=>exact hp
 | some p,some q =>
  rcases C.add_cases hp hq with ⟨_,e⟩ | ⟨_,l,hl,e⟩
  ·rw [e];trivial
  ·rw [e];exact C.on_by hp hl
omit [DecidableEq F] in
theorem on_neg {p:Option (F × F)} (hp:C.on p):C.on (neg p):=by
 match p with
 | none=>trivial
 | some (x,y) =>
  simp only [on,neg] at *
  grind
omit [DecidableEq F] in
theorem by_symm {p q:F × F} {l:F} (h:C.Sl p q l):by' l p q = by' l q p:=by
 obtain ⟨x,y⟩:=p
 obtain ⟨u,v⟩:=q
 simp only [Sl,by'] at *
 obtain ⟨h1,h2⟩:=h
 rw [Prod.mk.injEq]
 constructor <;> grind
omit [DecidableEq F] i in
theorem Opp.symm [CR F] {p q:F × F} (h:Opp p q):Opp q p:=⟨h.1.symm,by have:=h.2;grind⟩
theorem add_comm {p q:Option (F × F)} (hp:C.on p) (hq:C.on q):C.add p q = C.add q p:=by
 match p,q with
 | none,none=>rfl
 | none,some q=>rfl
 | some p,none=>rfl
 | some p,some q =>
  rcases C.add_cases hp hq with ⟨h,e⟩ | ⟨h,l,hl,e⟩
  ·rw [e,C.add_opp h.symm]
  ·rw [e,C.add_sl hq hp (fun h'=>h h'.symm) (hl.symm C),C.by_symm hl]
theorem add_zero (p:Option (F × F)):C.add p none = p:=by cases p <;> rfl
theorem zero_add (p:Option (F × F)):C.add none p = p:=rfl
theorem add_neg (p:Option (F × F)):C.add p (neg p) = none:=by
 match p with
 | none=>rfl
 | some p=>exact C.add_opp ⟨rfl,by show p.2 + (0 - p.2) = 0;grind⟩
omit [DecidableEq F] in
theorem neg_neg (p:Option (F × F)):neg (neg p) = p:=by
 match p with
 | none=>rfl
 | some (x,y)=>simp only [neg];rw [show (0 - (0 - y):F) = y by grind]
theorem neg_add {p q:Option (F × F)} (hp:C.on p) (hq:C.on q):neg (C.add p q) = C.add (neg p) (neg q):=by
 match p,q with
 | none,q=>rfl
 | some p,none=>rfl
 | some p,some q =>
  have hp':C.on (some (p.1,0 - p.2)):=C.on_neg hp
  have hq':C.on (some (q.1,0 - q.2)):=C.on_neg hq
  show neg (C.add (some p) (some q)) = C.add (some (p.1,0 - p.2)) (some (q.1,0 - q.2))
  rcases C.add_cases hp hq with ⟨h,e⟩ | ⟨h,l,hl,e⟩
  ·rw [e]
   have ho:Opp (p.1,0 - p.2) (q.1,0 - q.2):=⟨h.1,by have:=h.2;show (0 - p.2) + (0 - q.2) = 0;grind⟩
   exact (C.add_opp ho).symm
  ·rw [e,C.add_sl (l:=0 - l) hp' hq' (fun h'=>h ⟨h'.1,by have:(0 - p.2) + (0 - q.2) = 0:=h'.2;grind⟩) ⟨by have:=hl.1;show (0 - p.2) - (0 - q.2) = _;grind,by have:=hl.2;show _ = (0 - l) * ((0 - p.2) + (0 - q.2));grind⟩]
   show some (_,_) = some (_,_)
   simp only [by']
   rw [Option.some.injEq,Prod.mk.injEq]
   constructor <;> grind
theorem back {p q:Option (F × F)} (hp:C.on p) (hq:C.on q):C.add (neg p) (C.add p q) = q:=by
 match p,q with
 | none,q=>rfl
 | some p,none =>
  have h:=C.add_neg (neg (some p))
  rw [neg_neg] at h
  exact h
 | some (x,y),some (u,v) =>
  have hp':C.on (some (x,0 - y)):=C.on_neg hp
  rcases C.add_cases hp hq with ⟨h,e⟩ | ⟨h,l,hl,e⟩
  ·rw [e,C.add_zero]
   obtain ⟨h1,h2⟩:=h
   simp only [neg,Opp] at *
   rw [Option.some.injEq,Prod.mk.injEq]
   exact ⟨h1,by grind⟩
  ·rw [e]
   have ha:=C.on_by hp hl
   obtain ⟨h1,h2⟩:=hl
   have e1:v = y - l * (x - u):=mv2 h1
   have e2:C.a = l * (y + v) - (x * x + x * u + u * u):=mv3 h2
   have hs:C.Sl (x,0 - y) (by' l (x,y) (u,v)) (0 - l):=by
    refine ⟨?_,?_⟩
    ·simp only [by'];clear e1 e2 h1 h2 ha hp' hp hq;grind
    ·simp only [by'];rw [e2,e1];clear e1 e2 h1 h2 ha hp' hp hq;grind
   have e4:by' (0 - l) (x,0 - y) (by' l (x,y) (u,v)) = (u,v):=by
    simp only [by']
    rw [Prod.mk.injEq]
    exact ⟨by clear e1 e2 h1 h2 ha hp' hp hq;grind,by rw [e1];clear e1 e2 h1 h2 ha hp' hp hq;grind⟩
   by_cases ho:Opp (x,0 - y) (by' l (x,y) (u,v))
   ·exfalso
    obtain ⟨o1,o2⟩:=ho
    simp only [by'] at o1 o2
    have y0:(1 + 1) * y = (1 + 1) * 0:=by rw [<-o1] at o2;clear e1 e2 h1 h2 ha hp' hp hq;grind
    have y0:=C.cancel C.two y0
    simp only [on] at hp
    refine C.ns x (by rw [<-hp,y0];grind) ?_
    rw [e2,e1,y0]
    have:u = l * l - x - x:=by clear e1 e2 h1 h2 ha hp' hp hq;grind
    rw [this]
    grind
   ·have h9:=C.add_sl (p:=(x,0 - y)) hp' ha ho hs
    rw [e4] at h9
    exact h9
theorem third {p q s:F × F} {l m k:F} (h1:C.Sl p q l) (h2:C.Sl q s m) (hk:k * (l - m) = p.1 - s.1) (hd:l - m ≠ 0):C.Sl (by' l p q) s (k - l):=by
 obtain ⟨x,y⟩:=p
 obtain ⟨u,v⟩:=q
 obtain ⟨z,w⟩:=s
 obtain ⟨a1,a2⟩:=h1
 obtain ⟨b1,b2⟩:=h2
 simp only at *
 have e1:y = v + l * (x - u):=mv a1
 have e2:w = v + m * (z - u):=mv5 (by rw [b1,mv4])
 have e3:C.a = l * (y + v) - (x * x + x * u + u * u):=mv3 a2
 have e4:u * u + u * z + z * z + (l * (y + v) - (x * x + x * u + u * u)) = m * (v + w):=by rw [<-e3];exact b2
 have e6:∀ t,(l - m) * ((k - l) * t) = (x - z - l * (l - m)) * t:=by intro t;rw [<-hk];clear e4 e3 e2 e1 hk a1 a2 b1 b2 hd;grind
 refine ⟨C.cancel hd ?_,C.cancel hd ?_⟩
 ·simp only [by']
  rw [e6]
  rw [e1,e2] at e4
  rw [e1,e2]
  clear e6 e3 hk a1 a2 b1 b2 e1 e2 hd
  grind
 ·simp only [by']
  rw [e6]
  rw [e3]
  rw [e1,e2] at e4
  rw [e1,e2]
  clear e6 e3 hk a1 a2 b1 b2 e1 e2 hd
  grind
theorem onLine {p q s:F × F} {l:F} (h1:C.Sl p q l) (h2:C.Sl q s l):p = s∨Opp (by' l p q) s:=by
 obtain ⟨x,y⟩:=p
 obtain ⟨u,v⟩:=q
 obtain ⟨z,w⟩:=s
 obtain ⟨a1,a2⟩:=h1
 obtain ⟨b1,b2⟩:=h2
 simp only at *
 have e1:y = v + l * (x - u):=mv a1
 have e2:w = v + l * (z - u):=mv5 (by rw [b1,mv4])
 have e3:C.a = l * (y + v) - (x * x + x * u + u * u):=mv3 a2
 have e4:u * u + u * z + z * z + (l * (y + v) - (x * x + x * u + u * u)) = l * (v + w):=by rw [<-e3];exact b2
 rw [e1,e2] at e4
 have e5:(x - z) * (l * l - x - u - z) = 0:=by clear e1 e2 e3 a1 a2 b1 b2;grind
 rcases C.dom e5 with h | h
 ·refine .inl ?_
  have hx:x = z:=by clear e1 e2 e3 e4 e5 a1 a2 b1 b2;grind
  rw [Prod.mk.injEq]
  exact ⟨hx,by rw [e1,e2,hx]⟩
 ·refine .inr ⟨?_,?_⟩
  ·simp only [by'];clear e1 e2 e3 e4 e5 a1 a2 b1 b2;grind
  ·simp only [by']
   have hx:l * l - x - u = z:=by clear e1 e2 e3 e4 e5 a1 a2 b1 b2;grind
   rw [hx,e1,e2]
   clear e1 e2 e3 e4 e5 a1 a2 b1 b2 h hx;grind
theorem assoc_gen {p q s:F × F} {l m:F} (hp:C.on (some p)) (hq:C.on (some q)) (hs:C.on (some s)) (h1:C.Sl p q l) (h2:C.Sl q s m)
  (n3:¬ Opp (by' l p q) s) (n4:¬ Opp p (by' m q s)):C.add (some (by' l p q)) (some s) = C.add (some p) (some (by' m q s)):=by
 have ha:=C.on_by hp h1
 have hb:=C.on_by hq h2
 by_cases hd:l - m = 0
 ·have hlm:l = m:=by grind
  subst hlm
  rcases C.onLine h1 h2 with e | e
  ·subst e
   rw [C.add_comm ha hs,C.by_symm h1]
  ·exact absurd e n3
 ·have hk:∃ k,k * (l - m) = p.1 - s.1:=⟨(p.1 - s.1) * C.inv (l - m),by have:=C.inv_ok _ hd;generalize C.inv (l - m) = t at *;generalize l - m = d at *;grind⟩
  obtain ⟨k,hk⟩:=hk
  have t1:=C.third h1 h2 hk hd
  have t2:=C.third (k:=k) (h2.symm C) (h1.symm C) (by clear n3 n4 ha hb hp hq hs h1 h2 t1;grind) (by clear n3 n4 ha hb hp hq hs h1 h2 t1;intro e;exact hd (by grind))
  rw [<-C.by_symm h2] at t2
  rw [C.add_sl ha hs n3 t1,C.add_sl hp hb n4 (t2.symm C),C.by_symm t1]
  obtain ⟨x,y⟩:=p
  obtain ⟨u,v⟩:=q
  obtain ⟨z,w⟩:=s
  have e1:=mv h1.1
  have e2:w = v + m * (z - u):=mv5 (by have:=h2.1;simp only at this;rw [this,mv4])
  simp only at e1 hk
  simp only [by']
  clear n3 n4 ha hb hp hq hs h1 h2 t1 t2 hd
  have e3:x = z + k * (l - m):=by clear e1 e2;grind
  rw [Option.some.injEq,Prod.mk.injEq,e1,e2,e3]
  clear e1 e2 e3 hk
  constructor <;> grind
theorem assoc {p q s:Option (F × F)} (hp:C.on p) (hq:C.on q) (hs:C.on s):C.add (C.add p q) s = C.add p (C.add q s):=by
 match p,q,s with
 | none,q,s=>rfl
 | some p,none,s=>rfl
 | some p,some q,none=>rw [C.add_zero,C.add_zero]
 | some p,some q,some s =>
  rcases C.add_cases hp hq with ⟨h1,e1⟩ | ⟨h1,l,hl,e1⟩
  ·
   have hpq:neg (some q) = some p:=by
    obtain ⟨x,y⟩:=p
    obtain ⟨u,v⟩:=q
    obtain ⟨o1,o2⟩:=h1
    simp only at o1 o2
    show some (u,0 - v) = _
    rw [o1,Option.some.injEq,Prod.mk.injEq]
    exact ⟨rfl,by clear hp hq hs e1 o1;grind⟩
   rw [e1,<-hpq,C.back hq hs,C.zero_add]
  ·rcases C.add_cases hq hs with ⟨h2,e2⟩ | ⟨h2,m,hm,e2⟩
   ·have hqs:neg (some q) = some s:=by
     obtain ⟨x,y⟩:=q
     obtain ⟨u,v⟩:=s
     obtain ⟨o1,o2⟩:=h2
     simp only at o1 o2
     show some (x,0 - y) = _
     rw [o1,Option.some.injEq,Prod.mk.injEq]
     exact ⟨rfl,by clear hp hq hs e1 e2 o1 hl h1;grind⟩
    rw [e2,C.add_zero,C.add_comm hp hq,<-hqs,C.add_comm (C.on_add hq hp) (C.on_neg hq),C.back hq hp]
   ·have ha:=C.on_by hp hl
    have hb:=C.on_by hq hm
    by_cases h3:Opp (by' l p q) s
    ·
     have hn:neg (C.add (some p) (some q)) = some s:=by
      rw [e1]
      obtain ⟨u,v⟩:=s
      obtain ⟨o1,o2⟩:=h3
      simp only at o1 o2
      show some (_,_) = _
      rw [<-o1,Option.some.injEq,Prod.mk.injEq]
      exact ⟨rfl,by generalize (by' l p q).2 = t at *;clear hp hq hs e1 e2 o1 hl h1 ha hb hm h2;grind⟩
     have hpq:=C.on_add hp hq
     rw [<-hn,C.add_neg,C.neg_add hp hq,C.add_comm (C.on_neg hp) (C.on_neg hq)]
     have:=C.back (C.on_neg hq) (C.on_neg hp)
     rw [neg_neg] at this
     rw [this,C.add_neg]
    ·by_cases h4:Opp p (by' m q s)
     ·have hn:neg (C.add (some q) (some s)) = some p:=by
       rw [e2]
       obtain ⟨u,v⟩:=p
       obtain ⟨o1,o2⟩:=h4
       simp only at o1 o2
       show some (_,_) = _
       rw [o1,Option.some.injEq,Prod.mk.injEq]
       exact ⟨rfl,by generalize (by' m q s).2 = t at *;clear hp hq hs e1 e2 o1 hl h1 ha hb hm h2 h3;grind⟩
      have hqs:=C.on_add hq hs
      rw [<-hn,C.add_comm (C.on_neg hqs) hqs,C.add_neg,C.neg_add hq hs,C.add_comm (C.on_neg hq) (C.on_neg hs)]
      rw [C.add_comm (C.on_add (C.on_neg hs) (C.on_neg hq)) hq,C.add_comm (C.on_neg hs) (C.on_neg hq)]
      have:=C.back (C.on_neg hq) (C.on_neg hs)
      rw [neg_neg] at this
      rw [this,C.add_comm (C.on_neg hs) hs,C.add_neg]
     ·rw [e1,e2]
      exact C.assoc_gen hp hq hs hl hm h3 h4
def mul:Nat->Option (F × F)->Option (F × F)
 | 0,_=>none
 | n + 1,p=>C.add (mul n p) p
theorem on_mul {p:Option (F × F)} (hp:C.on p):∀ n,C.on (C.mul n p)
 | 0=>trivial
 | n + 1=>C.on_add (on_mul hp n) hp
theorem mul_add {p:Option (F × F)} (hp:C.on p) (m:Nat):∀ n,C.mul (m + n) p = C.add (C.mul m p) (C.mul n p)
 | 0=>(C.add_zero _).symm
 | n + 1=>by
  show C.add (C.mul (m + n) p) p = C.add _ (C.add (C.mul n p) p)
  rw [mul_add hp m n,C.assoc (C.on_mul hp m) (C.on_mul hp n) hp]
theorem mul_zero:∀ n,C.mul n none = none
 | 0=>rfl
 | n + 1=>by show C.add (C.mul n none) none = none;rw [mul_zero n];rfl
end EC
structure Gr (G:Type) where
 add:G->G->G
 o:G
 neg:G->G
 comm:∀ a b,add a b = add b a
 assoc:∀ a b c,add (add a b) c = add a (add b c)
 zero:∀ a,add o a = a
 opp:∀ a,add a (neg a) = o
namespace Gr
variable {G:Type} (g:Gr G)
def nm:Nat->G->G
 | 0,_=>g.o
 | n + 1,a=>g.add (nm n a) a
theorem add_o (a:G):g.add a g.o = a:=by rw [g.comm,g.zero]
theorem cancel {a b c:G} (h:g.add a b = g.add a c):b = c:=by
 have h1:g.add (g.neg a) (g.add a b) = g.add (g.neg a) (g.add a c):=by rw [h]
 rw [<-g.assoc,<-g.assoc,g.comm (g.neg a) a,g.opp,g.zero,g.zero] at h1
 exact h1
theorem nm_one (a:G):g.nm 1 a = a:=g.zero a
theorem nm_add (a:G) (m:Nat):∀ n,g.nm (m + n) a = g.add (g.nm m a) (g.nm n a)
 | 0=>(g.add_o _).symm
 | n + 1=>by
  show g.add (g.nm (m + n) a) a = g.add (g.nm m a) (g.add (g.nm n a) a)
  rw [nm_add a m n,g.assoc]
theorem nm_o:∀ n,g.nm n g.o = g.o
 | 0=>rfl
 | n + 1=>by
  show g.add (g.nm n g.o) g.o = g.o
  rw [nm_o n,g.zero]
theorem nm_mul (a:G) (m:Nat):∀ n,g.nm n (g.nm m a) = g.nm (n * m) a
 | 0=>by rw [Nat.zero_mul];rfl
 | n + 1=>by
  show g.add (g.nm n (g.nm m a)) (g.nm m a) = _
  rw [nm_mul a m n,Nat.succ_mul,g.nm_add]
theorem nm_mod {r:Nat} {a:G} (h:g.nm r a = g.o) (n:Nat):g.nm (n % r) a = g.nm n a:=by
 have e:g.nm n a = g.nm (n / r * r + n % r) a:=by rw [Nat.mul_comm,Nat.div_add_mod]
 rw [e,g.nm_add,<-g.nm_mul,h,g.nm_o,g.zero]
theorem nm_eq {r:Nat} {a:G} (h:g.nm r a = g.o) {m n:Nat} (e:m % r = n % r):g.nm m a = g.nm n a:=by
 rw [<-g.nm_mod h m,<-g.nm_mod h n,e]
theorem prime_dvd {r:Nat} (inv:∀ n,¬ r ∣ n->∃ m,n * m % r = 1 % r) {a:G} (h:g.nm r a = g.o) (ha:a ≠ g.o) {n:Nat} (hn:g.nm n a = g.o):r ∣ n:=by
 by_cases hd:r ∣ n
 ·exact hd
 ·obtain ⟨m,hm⟩:=inv n hd
  exfalso
  apply ha
  have h1:g.nm (m * n) a = g.o:=by rw [<-g.nm_mul,hn,g.nm_o]
  rw [Nat.mul_comm,g.nm_eq h hm,g.nm_one] at h1
  exact h1
end Gr
namespace EC
variable {F:Type} [i:CR F] [DecidableEq F] (C:EC F)
def Pt:={P:Option (F × F) // C.on P}
def grp:Gr C.Pt where
 add a b:=⟨C.add a.1 b.1,C.on_add a.2 b.2⟩
 o:=⟨none,trivial⟩
 neg a:=⟨neg a.1,C.on_neg a.2⟩
 comm a b:=Subtype.ext (C.add_comm a.2 b.2)
 assoc a b c:=Subtype.ext (C.assoc a.2 b.2 c.2)
 zero a:=Subtype.ext (C.zero_add a.1)
 opp a:=Subtype.ext (C.add_neg a.1)
theorem nm_val (P:C.Pt):∀ n,(C.grp.nm n P).1 = C.mul n P.1
 | 0=>rfl
 | n + 1=>by
  show C.add (C.grp.nm n P).1 P.1 = C.add (C.mul n P.1) P.1
  rw [nm_val P n]
end EC
namespace EC
variable {F K:Type} [i:CR F] [j:CR K] [DecidableEq F] [DecidableEq K]
structure Cm (C:EC F) (E:EC K) where
 f:F->K
 s:K
 add:∀ a b,f (a + b) = f a + f b
 sub:∀ a b,f (a - b) = f a - f b
 mul:∀ a b,f (a * b) = f a * f b
 inj:∀ a,f a = 0->a = 0
 s0:s ≠ 0
 fa:f C.a * (s * s * (s * s)) = E.a
 fb:f C.b * (s * s * s * (s * s * s)) = E.b
variable {C:EC F} {E:EC K} (u:C.Cm E)
def cp (u:C.Cm E):Option (F × F)->Option (K × K)
 | none=>none
 | some p=>some (u.f p.1 * (u.s * u.s),u.f p.2 * (u.s * u.s * u.s))
theorem Cm.z:u.f 0 = 0:=by
 have h:=u.sub 0 0
 have e:(0:F) - 0 = 0:=by grind
 rw [e] at h
 rw [h];grind
theorem dom3 {x y:K} (E:EC K) (hs:y ≠ 0) (h:x * y = 0):x = 0:=by
 rcases E.dom h with h | h
 ·exact h
 ·exact absurd h hs
theorem Cm.s2:u.s * u.s ≠ 0:=fun h=>u.s0 (by rcases E.dom h with h | h <;> exact h)
theorem Cm.s3:u.s * u.s * u.s ≠ 0:=fun h=>by
 rcases E.dom h with h | h
 ·exact u.s2 h
 ·exact u.s0 h
theorem cp_on {P:Option (F × F)} (h:C.on P):E.on (cp u P):=by
 cases P with
 | none=>trivial
 | some p =>
  have h:p.2 * p.2 = p.1 * p.1 * p.1 + C.a * p.1 + C.b:=h
  show u.f p.2 * (u.s * u.s * u.s) * (u.f p.2 * (u.s * u.s * u.s)) = u.f p.1 * (u.s * u.s) * (u.f p.1 * (u.s * u.s)) * (u.f p.1 * (u.s * u.s)) + E.a * (u.f p.1 * (u.s * u.s)) + E.b
  have e:u.f (p.2 * p.2) = u.f (p.1 * p.1 * p.1 + C.a * p.1 + C.b):=by rw [h]
  rw [u.add,u.add,u.mul,u.mul,u.mul,u.mul] at e
  rw [<-u.fa,<-u.fb]
  generalize u.f p.1 = x at *
  generalize u.f p.2 = y at *
  generalize u.f C.a = a at *
  generalize u.f C.b = b at *
  generalize u.s = s at *
  have e2:y * y * (s * s * s * (s * s * s)) = (x * x * x + a * x + b) * (s * s * s * (s * s * s)):=by rw [e]
  grind
theorem cp_opp {p q:F × F}:Opp p q↔Opp (u.f p.1 * (u.s * u.s),u.f p.2 * (u.s * u.s * u.s)) (u.f q.1 * (u.s * u.s),u.f q.2 * (u.s * u.s * u.s)):=by
 constructor
 ·intro ⟨h1,h2⟩
  refine ⟨by show u.f p.1 * (u.s * u.s) = u.f q.1 * (u.s * u.s);rw [h1],?_⟩
  show u.f p.2 * (u.s * u.s * u.s) + u.f q.2 * (u.s * u.s * u.s) = 0
  have e:u.f p.2 + u.f q.2 = 0:=by rw [<-u.add,h2,u.z]
  generalize u.f p.2 = a at *
  generalize u.f q.2 = b at *
  generalize u.s = s at *
  have:a = 0 - b:=by grind
  subst this;grind
 ·intro ⟨h1,h2⟩
  have h1:u.f p.1 * (u.s * u.s) = u.f q.1 * (u.s * u.s):=h1
  have h2:u.f p.2 * (u.s * u.s * u.s) + u.f q.2 * (u.s * u.s * u.s) = 0:=h2
  have k1:(u.f p.1 - u.f q.1) * (u.s * u.s) = 0:=by
   generalize u.f p.1 = a at *
   generalize u.f q.1 = b at *
   generalize u.s = s at *
   grind
  have k2:(u.f p.2 + u.f q.2) * (u.s * u.s * u.s) = 0:=by
   generalize u.f p.2 = a at *
   generalize u.f q.2 = b at *
   generalize u.s = s at *
   grind
  have m1:=dom3 E u.s2 k1
  have m2:=dom3 E u.s3 k2
  rw [<-u.sub] at m1
  rw [<-u.add] at m2
  have n1:=u.inj _ m1
  exact ⟨by grind,u.inj _ m2⟩
theorem cp_sl {p q:F × F} {l:F} (h:C.Sl p q l):E.Sl (u.f p.1 * (u.s * u.s),u.f p.2 * (u.s * u.s * u.s)) (u.f q.1 * (u.s * u.s),u.f q.2 * (u.s * u.s * u.s)) (u.f l * u.s):=by
 obtain ⟨h1,h2⟩:=h
 have e1:u.f (p.2 - q.2) = u.f (l * (p.1 - q.1)):=by rw [h1]
 have e2:u.f (p.1 * p.1 + p.1 * q.1 + q.1 * q.1 + C.a) = u.f (l * (p.2 + q.2)):=by rw [h2]
 simp only [u.sub,u.mul,u.add] at e1 e2
 refine ⟨?_,?_⟩
 ·show u.f p.2 * (u.s * u.s * u.s) - u.f q.2 * (u.s * u.s * u.s) = u.f l * u.s * (u.f p.1 * (u.s * u.s) - u.f q.1 * (u.s * u.s))
  generalize u.f p.1 = x at *
  generalize u.f p.2 = y at *
  generalize u.f q.1 = z at *
  generalize u.f q.2 = w at *
  generalize u.f l = m at *
  generalize u.s = s at *
  have:(y - w) * (s * s * s) = m * (x - z) * (s * s * s):=by rw [e1]
  grind
 ·show u.f p.1 * (u.s * u.s) * (u.f p.1 * (u.s * u.s)) + u.f p.1 * (u.s * u.s) * (u.f q.1 * (u.s * u.s)) + u.f q.1 * (u.s * u.s) * (u.f q.1 * (u.s * u.s)) + E.a = u.f l * u.s * (u.f p.2 * (u.s * u.s * u.s) + u.f q.2 * (u.s * u.s * u.s))
  rw [<-u.fa]
  generalize u.f p.1 = x at *
  generalize u.f p.2 = y at *
  generalize u.f q.1 = z at *
  generalize u.f q.2 = w at *
  generalize u.f l = m at *
  generalize u.f C.a = a at *
  generalize u.s = s at *
  have:(x * x + x * z + z * z + a) * (s * s * (s * s)) = m * (y + w) * (s * s * (s * s)):=by rw [e2]
  grind
theorem cp_add {P Q:Option (F × F)} (hP:C.on P) (hQ:C.on Q):cp u (C.add P Q) = E.add (cp u P) (cp u Q):=by
 cases P with
 | none=>rfl
 | some p =>
  cases Q with
  | none=>rfl
  | some q =>
   rcases C.add_cases hP hQ with ⟨ho,e⟩ | ⟨ho,l,hl,e⟩
   ·rw [e]
    exact (E.add_opp ((cp_opp u).1 ho)).symm
   ·rw [e]
    show _ = E.add (some (u.f p.1 * (u.s * u.s),u.f p.2 * (u.s * u.s * u.s))) (some (u.f q.1 * (u.s * u.s),u.f q.2 * (u.s * u.s * u.s)))
    rw [E.add_sl (cp_on u hP) (cp_on u hQ) (fun h=>ho ((cp_opp u).2 h)) (cp_sl u hl)]
    show some (u.f (l * l - p.1 - q.1) * (u.s * u.s),u.f (l * (p.1 - (l * l - p.1 - q.1)) - p.2) * (u.s * u.s * u.s)) = some (u.f l * u.s * (u.f l * u.s) - u.f p.1 * (u.s * u.s) - u.f q.1 * (u.s * u.s),u.f l * u.s * (u.f p.1 * (u.s * u.s) - (u.f l * u.s * (u.f l * u.s) - u.f p.1 * (u.s * u.s) - u.f q.1 * (u.s * u.s))) - u.f p.2 * (u.s * u.s * u.s))
    simp only [u.sub,u.mul]
    congr 2
    ·grind
    ·grind
theorem cp_mul {P:Option (F × F)} (hP:C.on P):∀ n,cp u (C.mul n P) = E.mul n (cp u P)
 | 0=>rfl
 | n + 1=>by
  show cp u (C.add (C.mul n P) P) = E.add (E.mul n (cp u P)) (cp u P)
  rw [cp_add u (C.on_mul hP n) hP,cp_mul hP n]
end EC
set_option maxRecDepth 100000
def rO:Nat:=52435875175126190479447740508185965837690552500527637822603658699938581184513
theorem rO_pr:Pr rO:=pr14
theorem rO_inv (n:Nat) (h:¬ rO ∣ n):∃ m,n * m % rO = 1 % rO:=by
 have h0:n % rO ≠ 0:=fun e=>h (Nat.dvd_of_mod_eq_zero e)
 have h1:=fermat_nat rO_pr h0
 refine ⟨n ^ (rO - 2),?_⟩
 have e:n * n ^ (rO - 2) = n ^ (rO - 1):=by
  rw [Nat.mul_comm,<-Nat.pow_succ]
  congr 1
 rw [e,h1]
 exact (Nat.mod_eq_of_lt rO_pr.1).symm
instance:DecidableEq S6:=fun a b=>if h:a.u = b.u/\a.v = b.v/\a.w = b.w then isTrue (S6.ext h.1 h.2.1 h.2.2) else isFalse fun e=>h (by rw [e];exact ⟨rfl,rfl,rfl⟩)
instance:DecidableEq S12:=fun a b=>if h:a.p = b.p/\a.q = b.q then isTrue (S12.ext h.1 h.2) else isFalse fun e=>h (by rw [e];exact ⟨rfl,rfl⟩)
theorem cr_three {F:Type} [CR F] (dom:∀ a b:F,a * b = 0->a = 0∨b = 0) (h3:(1 + 1 + 1:F) ≠ 0) {b:F} (hb:b ≠ 0) (x:F) (h:x * x * x + 0 * x + b = 0):x * x + x * x + x * x + 0 ≠ 0:=fun e=>by
 have e1:(1 + 1 + 1) * (x * x) = 0:=by grind
 rcases dom _ _ e1 with k | k
 ·exact h3 k
 ·have:x = 0:=by rcases dom _ _ k with k | k <;> exact k
  subst this
  exact hb (by grind)
def fx (n:Nat):F2p:=⟨ofN n,0⟩
def EF:EC Fp where
 a:=0
 b:=ofN 4
 inv x:=x ^ (pN - 2)
 inv_ok _ h:=fp_inv h
 two:=by decide +kernel
 ns:=cr_three (fun _ _ h=>fp_dom h) (by decide +kernel) (by decide +kernel)
def bT:F2p:=⟨ofN 4,ofN 4⟩
def ET:EC F2p where
 a:=0
 b:=bT
 inv:=F2p.inv'
 inv_ok _ h:=F2p.mul_inv h
 two:=fun e=>absurd (congrArg F2p.x e) (by decide +kernel)
 ns:=cr_three (fun _ _ h=>F2p.dom h) (fun e=>absurd (congrArg F2p.x e) (by decide +kernel)) (fun e=>absurd (congrArg F2p.x e) (by decide +kernel))
def b12:S12:=S12.c (fx 4)
def EK:EC S12 where
 a:=0
 b:=b12
 inv:=S12.inv'
 inv_ok _ h:=S12.mul_inv h
 two:=fun e=>absurd (congrArg (fun z:S12=>z.p.u.x) e) (by decide +kernel)
 ns:=cr_three (fun _ _ h=>S12.dom h) (fun e=>absurd (congrArg (fun z:S12=>z.p.u.x) e) (by decide +kernel)) (fun e=>absurd (congrArg (fun z:S12=>z.p.u.x) e) (by decide +kernel))
namespace S12
theorem c_add (a b:F2p):c (a + b) = c a + c b:=S12.ext (S6.ext rfl (Rg.add_zero 0).symm (Rg.add_zero 0).symm) (S6.ext (Rg.add_zero 0).symm (Rg.add_zero 0).symm (Rg.add_zero 0).symm)
theorem c_sub (a b:F2p):c (a - b) = c a - c b:=S12.ext (S6.ext rfl (Rg.sub_self 0).symm (Rg.sub_self 0).symm) (S6.ext (Rg.sub_self 0).symm (Rg.sub_self 0).symm (Rg.sub_self 0).symm)
theorem c_one:c 1 = 1:=rfl
theorem c_zero:c 0 = 0:=rfl
theorem c_inj {a:F2p} (h:c a = 0):a = 0:=congrArg (fun z:S12=>z.p.u) h
def wi:S12:=w5 * c (F2p.inv' kx)
theorem kx_ne:kx ≠ 0:=fun e=>absurd (congrArg F2p.x e) (by decide +kernel)
theorem w_wi:w1 * wi = 1:=by
 unfold wi
 rw [<-Rg.mul_assoc,w_6,<-c_mul,F2p.mul_inv kx_ne,c_one]
theorem w1_6:w1 * w1 * w1 * (w1 * w1 * w1) = c kx:=by
 have h2:=w_2
 have h3:=w_3
 have h4:=w_4
 have h5:=w_5
 have h6:=w_6
 generalize w1 = a at *
 generalize w2 = x at *
 generalize w3 = y at *
 generalize w4 = z at *
 generalize w5 = v at *
 generalize c kx = k at *
 subst h2;subst h3;subst h4;subst h5;subst h6
 grind
theorem sub_eq' (a b:S12):turn (a - b) = turn a - turn b:=by
 have h:=turn_add (a - b) b
 have e:a - b + b = a:=by grind
 rw [e] at h
 rw [h];grind
theorem turn_inj {a:S12} (h:turn a = 0):a = 0:=by
 have h1:turns 12 a = a:=turns_twelve a
 have z:turn 0 = 0:=by
  have:=sub_eq' 0 0
  have e:(0:S12) - 0 = 0:=by grind
  rw [e] at this
  rw [this];grind
 have hz:∀ n,turns n (0:S12) = 0:=fun n=>by
  induction n with
  | zero=>rfl
  | succ n ih=>show turn (turns n 0) = 0;rw [ih,z]
 have h2:turns 12 a = turns 11 (turn a):=(turns_turns 1 a 11).symm
 rw [<-h1,h2,h,hz]
theorem turn_c (a:F2p):turn (c a) = c a.cj:=by
 have z:F2p.cj 0 = 0:=F2p.ext rfl (Rg.sub_self 0)
 refine S12.ext (S6.ext ?_ ?_ ?_) (S6.ext ?_ ?_ ?_)
 ·show a.cj * tuK0 = a.cj
  rw [tu_0,Rg.mul_one]
 ·show F2p.cj 0 * tuK2 = 0
  rw [z,Rg.zero_mul]
 ·show F2p.cj 0 * tuK4 = 0
  rw [z,Rg.zero_mul]
 ·show F2p.cj 0 * tuK1 = 0
  rw [z,Rg.zero_mul]
 ·show F2p.cj 0 * tuK3 = 0
  rw [z,Rg.zero_mul]
 ·show F2p.cj 0 * tuK5 = 0
  rw [z,Rg.zero_mul]
end S12
theorem cr_n0 {R:Type} [CR R] (a b:R):a * b = a * b - 0 * 0:=by grind
open S12 in
def uF:EF.Cm EK where
 f x:=c ⟨x,0⟩
 s:=1
 add a b:=by rw [<-c_add];exact congrArg c (F2p.ext rfl (Rg.add_zero 0).symm)
 sub a b:=by rw [<-c_sub];exact congrArg c (F2p.ext rfl (Rg.sub_self 0).symm)
 mul a b:=by rw [<-c_mul];exact congrArg c (F2p.ext (cr_n0 a b) (by show (0:Fp) = a * 0 + 0 * b;rw [Rg.mul_zero,Rg.zero_mul,Rg.add_zero]))
 inj a h:=congrArg F2p.x (c_inj h)
 s0:=fun e=>absurd (congrArg (fun z:S12=>z.p.u.x) e) (by decide +kernel)
 fa:=by
  show c ⟨0,0⟩ * _ = (0:S12)
  have:c ⟨0,0⟩ = 0:=rfl
  rw [this,Rg.zero_mul]
 fb:=by
  show c ⟨ofN 4,0⟩ * (1 * 1 * 1 * (1 * 1 * 1)) = b12
  have:(1 * 1 * 1 * (1 * 1 * 1):S12) = 1:=by grind
  rw [this,Rg.mul_one];rfl
open S12 in
def uT:ET.Cm EK where
 f:=c
 s:=wi
 add:=c_add
 sub:=c_sub
 mul:=c_mul
 inj _ h:=c_inj h
 s0:=fun e=>by
  have h:=w_wi
  rw [e,Rg.mul_zero] at h
  exact absurd (congrArg (fun z:S12=>z.p.u.x) h) (by decide +kernel)
 fa:=by
  show c 0 * _ = (0:S12)
  rw [c_zero,Rg.zero_mul]
 fb:=by
  show c bT * (wi * wi * wi * (wi * wi * wi)) = b12
  have e1:bT = fx 4 * kx:=by kernel_rfl
  have e2:w1 * w1 * w1 * (w1 * w1 * w1) * (wi * wi * wi * (wi * wi * wi)) = w1 * wi * (w1 * wi) * (w1 * wi) * (w1 * wi * (w1 * wi) * (w1 * wi)):=by
   generalize w1 = a
   generalize wi = b
   grind
  rw [e1,c_mul,<-w1_6,Rg.mul_assoc,e2,w_wi]
  have:(1 * 1 * 1 * (1 * 1 * 1):S12) = 1:=by grind
  rw [this,Rg.mul_one];rfl
def uA:Nat:=15132376222941642752
namespace EC
variable {F:Type} [i:CR F] (C:EC F)
def lnv (l:F) (p X:F × F):F:=X.2 - p.2 - l * (X.1 - p.1)
theorem lnv_sl {p q X:F × F} {l:F} (h:C.Sl p q l):lnv l p X = lnv l q X:=by
 obtain ⟨h1,_⟩:=h
 unfold lnv
 grind
theorem lnv_neg {p q X:F × F} {l:F} (hp:C.on (some p)) (h:C.Sl p q l) (hX:C.on (some X)) :
  lnv l p X * lnv l p (X.1,0 - X.2) = (0 - 1) * ((X.1 - p.1) * ((X.1 - q.1) * (X.1 - (by' l p q).1))):=by
 obtain ⟨x,y⟩:=p
 obtain ⟨u,v⟩:=q
 obtain ⟨s,t⟩:=X
 simp only [on,Sl,by',lnv] at *
 obtain ⟨h1,h2⟩:=h
 have e1:v = y - l * (x - u):=mv2 h1
 have e2:C.a = l * (y + v) - (x * x + x * u + u * u):=mv3 h2
 have e3:C.b = y * y - x * x * x - C.a * x:=mv6 hp
 rw [e3,e2,e1] at hX
 clear e1 e2 e3 h1 h2 hp
 grind
theorem lnv_two {p q X:F × F} {l t:F} (hp:C.on (some p)) (h:C.Sl p q l) (hX:C.on (some X)) :
  lnv l p X * lnv t (by' l p q) X = (X.1 - (by' l p q).1) * (X.1 * X.1 + ((by' l p q).1 + l * t) * X.1 + ((by' l p q).1 * ((by' l p q).1 + l * t) + C.a + l * ((by' l p q).2 - t * (by' l p q).1) + (p.2 - l * p.1) * t) - (l + t) * X.2):=by
 obtain ⟨x,y⟩:=p
 obtain ⟨u,v⟩:=q
 obtain ⟨s,w⟩:=X
 simp only [on,Sl,by',lnv] at *
 obtain ⟨h1,h2⟩:=h
 have e1:v = y - l * (x - u):=mv2 h1
 have e2:C.a = l * (y + v) - (x * x + x * u + u * u):=mv3 h2
 have e3:C.b = y * y - x * x * x - C.a * x:=mv6 hp
 rw [e3,e2,e1] at hX
 rw [e2,e1]
 clear e1 e2 e3 h1 h2 hp
 grind
theorem lnv_cocycle {p q s X:F × F} {l m k:F} (hp:C.on (some p)) (hq:C.on (some q)) (h1:C.Sl p q l) (h2:C.Sl q s m) (hk:k * (l - m) = p.1 - s.1) (hd:l - m ≠ 0) (hX:C.on (some X)) :
  lnv l p X * lnv (k - l) (by' l p q) X * (X.1 - (by' m q s).1) = lnv m q X * lnv (k - m) (by' m q s) X * (X.1 - (by' l p q).1):=by
 rw [C.lnv_two hp h1 hX,C.lnv_two hq h2 hX]
 obtain ⟨x,y⟩:=p
 obtain ⟨u,v⟩:=q
 obtain ⟨z,w⟩:=s
 obtain ⟨X,Y⟩:=X
 obtain ⟨a1,a2⟩:=h1
 obtain ⟨b1,b2⟩:=h2
 simp only [by'] at *
 have e1:y = v + l * (x - u):=mv a1
 have e2:w = v + m * (z - u):=mv5 (by rw [b1,mv4])
 have e3:C.a = l * (y + v) - (x * x + x * u + u * u):=mv3 a2
 have e4:u * u + u * z + z * z + (l * (y + v) - (x * x + x * u + u * u)) = m * (v + w):=by rw [<-e3];exact b2
 have e5:x = z + k * (l - m):=by clear e1 e2 e3 e4 a1 a2 b1 b2 hX hp hq hd;grind
 have e6:(1 + 1) * v = k * (x + z + u - l * l) - (l + m) * (z - u):=by
  refine C.cancel hd ?_
  rw [e1,e2] at e4
  clear e1 e2 e3 a1 a2 b1 b2 hX hp hq
  grind
 refine C.cancel C.two ?_
 rw [e3,e1,e5]
 rw [e5] at e6
 clear e1 e2 e3 e4 e5 a1 a2 b1 b2 hX hp hq hk hd
 grind
theorem sl_third {p q:F × F} {l:F} (h:C.Sl p q l):C.Sl q ((by' l p q).1,0 - (by' l p q).2) l:=by
 obtain ⟨x,y⟩:=p
 obtain ⟨u,v⟩:=q
 obtain ⟨h1,h2⟩:=h
 simp only [by'] at *
 have e1:v = y - l * (x - u):=mv2 h1
 have e2:C.a = l * (y + v) - (x * x + x * u + u * u):=mv3 h2
 refine ⟨?_,?_⟩
 ·simp only;rw [e1];clear e1 e2 h1 h2;grind
 ·simp only;rw [e2,e1];clear e1 e2 h1 h2;grind
theorem sl_back {p q:F × F} {l:F} (h:C.Sl p q l):C.Sl (p.1,0 - p.2) (by' l p q) (0 - l):=by
 obtain ⟨x,y⟩:=p
 obtain ⟨u,v⟩:=q
 obtain ⟨h1,h2⟩:=h
 simp only [by'] at *
 have e1:v = y - l * (x - u):=mv2 h1
 have e2:C.a = l * (y + v) - (x * x + x * u + u * u):=mv3 h2
 refine ⟨?_,?_⟩
 ·simp only;clear e1 e2 h1 h2;grind
 ·simp only;rw [e2,e1];clear e1 e2 h1 h2;grind
variable [DecidableEq F]
structure Sd where
 N:F->F
 mulN:∀ a b,N (a * b) = N a * N b
 negN:N (0 - 1) = 1
 A:Option (F × F)->Prop
 B:Option (F × F)->Prop
 Aon:∀ {p},A p->C.on p
 Bon:∀ {p},B p->C.on p
 Aadd:∀ {p q},A p->A q->A (C.add p q)
 Badd:∀ {p q},B p->B q->B (C.add p q)
 A0:A none
 B0:B none
 An:∀ {p},A p->A (neg p)
 Bn:∀ {p},B p->B (neg p)
 nv:∀ {a b},A (some a)->B (some b)->N (b.1 - a.1) = 1
end EC
namespace EC.Sd
variable {F:Type} [i:CR F] {C:EC F} [DecidableEq F] (S:C.Sd)
def swap:C.Sd where
 N:=S.N
 mulN:=S.mulN
 negN:=S.negN
 A:=S.B
 B:=S.A
 Aon:=S.Bon
 Bon:=S.Aon
 Aadd:=S.Badd
 Badd:=S.Aadd
 A0:=S.B0
 B0:=S.A0
 An:=S.Bn
 Bn:=S.An
 nv:=fun {a b} ha hb=>by
  have e:b.1 - a.1 = (0 - 1) * (a.1 - b.1):=by grind
  rw [e,S.mulN,S.negN,S.nv hb ha];grind
def L (P Q X:Option (F × F)):F :=
 match P,Q,X with
 | some p,some q,some x=>if Opp p q then 1 else S.N (lnv (C.slope p q) p x)
 | _,_,_=>1
theorem L0 (Q X:Option (F × F)):S.L none Q X = 1:=by cases Q <;> cases X <;> rfl
theorem L1 (P X:Option (F × F)):S.L P none X = 1:=by cases P <;> cases X <;> rfl
theorem L2 (P Q:Option (F × F)):S.L P Q none = 1:=by cases P <;> cases Q <;> rfl
theorem L_opp {p q:F × F} (h:Opp p q) (X:Option (F × F)):S.L (some p) (some q) X = 1:=by
 cases X with
 | none=>rfl
 | some x=>show (if Opp p q then 1 else _) = _;rw [if_pos h]
theorem L_sl {p q x:F × F} {l:F} (hp:C.on (some p)) (hq:C.on (some q)) (h:¬ Opp p q) (hl:C.Sl p q l):S.L (some p) (some q) (some x) = S.N (lnv l p x):=by
 have:=C.sl_unique h (C.slope_ok hp hq h) hl
 show (if Opp p q then 1 else S.N (lnv (C.slope p q) p x)) = _
 rw [if_neg h,this]
theorem L_comm {P Q:Option (F × F)} (hP:C.on P) (hQ:C.on Q) (X:Option (F × F)):S.L P Q X = S.L Q P X:=by
 match P,Q,X with
 | none,Q,X=>rw [S.L0,S.L1]
 | some p,none,X=>rw [S.L0,S.L1]
 | some p,some q,none=>rfl
 | some p,some q,some x =>
  by_cases h:Opp p q
  ·rw [S.L_opp h,S.L_opp h.symm]
  ·have hl:=C.slope_ok hP hQ h
   rw [S.L_sl hP hQ h hl,S.L_sl hQ hP (fun h'=>h h'.symm) (hl.symm C),C.lnv_sl hl]
theorem L_neg {P Q X:Option (F × F)} (hP:S.A P) (hQ:S.A Q) (hX:S.B X):S.L P Q X * S.L P Q (neg X) = 1:=by
 match P,Q,X with
 | none,Q,X=>rw [S.L0,S.L0];grind
 | some p,none,X=>rw [S.L1,S.L1];grind
 | some p,some q,none=>show (1:F) * 1 = 1;grind
 | some p,some q,some x =>
  by_cases h:Opp p q
  ·rw [S.L_opp h,S.L_opp h];grind
  ·have o1:=S.Aon hP
   have o2:=S.Aon hQ
   have hl:=C.slope_ok o1 o2 h
   have e:=C.lnv_neg o1 hl (S.Bon hX)
   have hs:S.A (some (by' (C.slope p q) p q)):=by
    have:=S.Aadd hP hQ
    rw [C.add_sl o1 o2 h hl] at this;exact this
   show S.L (some p) (some q) (some x) * S.L (some p) (some q) (some (x.1,0 - x.2)) = 1
   rw [S.L_sl o1 o2 h hl,S.L_sl o1 o2 h hl,<-S.mulN,e,S.mulN,S.mulN,S.mulN,S.negN,S.nv hP hX,S.nv hQ hX,S.nv hs hX]
   grind
theorem opp_of_none {p q:F × F} (hp:C.on (some p)) (hq:C.on (some q)) (h:C.add (some p) (some q) = none):Opp p q:=by
 rcases C.add_cases hp hq with ⟨h1,_⟩ | ⟨_,l,_,e⟩
 ·exact h1
 ·rw [h] at e;cases e
theorem L_back {Q R X:Option (F × F)} (hQ:S.A Q) (hR:S.A R) (hX:S.B X):S.L Q R X * S.L (neg Q) (C.add Q R) X = 1:=by
 match Q,R,X with
 | none,R,X=>show _ * S.L none _ X = 1;rw [S.L0,S.L0];grind
 | some q,none,X =>
  rw [S.L1,C.add_zero]
  have:Opp (q.1,0 - q.2) q:=⟨rfl,by show (0 - q.2) + q.2 = 0;grind⟩
  show 1 * S.L (some (q.1,0 - q.2)) (some q) X = 1
  rw [S.L_opp this];grind
 | some q,some s,none=>rw [S.L2,S.L2];grind
 | some q,some s,some x =>
  have o1:=S.Aon hQ
  have o2:=S.Aon hR
  by_cases h:Opp q s
  ·rw [S.L_opp h,C.add_opp h,S.L1];grind
  ·have hm:=C.slope_ok o1 o2 h
   have ht:=C.add_sl o1 o2 h hm
   have ot:=C.on_add o1 o2
   rw [ht] at ot
   rw [ht]
   have on1:C.on (some (q.1,0 - q.2)):=C.on_neg o1
   have hno:¬ Opp (q.1,0 - q.2) (by' (C.slope q s) q s):=fun ho=>by
    have b:=C.back o1 o2
    rw [ht] at b
    have b2:C.add (some (q.1,0 - q.2)) (some (by' (C.slope q s) q s)) = some s:=b
    rw [C.add_opp ho] at b2
    cases b2
   show S.L (some q) (some s) (some x) * S.L (some (q.1,0 - q.2)) (some (by' (C.slope q s) q s)) (some x) = 1
   rw [S.L_sl on1 ot hno (C.sl_back hm)]
   have e:lnv (0 - C.slope q s) (q.1,0 - q.2) x = (0 - 1) * lnv (C.slope q s) q (x.1,0 - x.2):=by unfold lnv;simp only;grind
   rw [e,S.mulN,S.negN]
   have:=S.L_neg hQ hR hX
   have e2:S.L (some q) (some s) (neg (some x)) = S.N (lnv (C.slope q s) q (x.1,0 - x.2)):=S.L_sl (x:=(x.1,0 - x.2)) o1 o2 h hm
   rw [e2] at this
   rw [<-this];grind
theorem L_cocycle {P Q R X:Option (F × F)} (hP:S.A P) (hQ:S.A Q) (hR:S.A R) (hX:S.B X):S.L P Q X * S.L (C.add P Q) R X = S.L Q R X * S.L P (C.add Q R) X:=by
 match P,Q,R,X with
 | none,Q,R,X=>rw [C.zero_add,S.L0,S.L0];grind
 | some p,none,R,X=>rw [C.zero_add,C.add_zero,S.L1,S.L0]
 | some p,some q,none,X=>rw [C.add_zero,S.L1,S.L1];grind
 | some p,some q,some s,none=>rw [S.L2,S.L2,S.L2,S.L2]
 | some p,some q,some s,some x =>
  have o1:=S.Aon hP
  have o2:=S.Aon hQ
  have o3:=S.Aon hR
  have hass:=C.assoc o1 o2 o3
  have negOf:∀ {a b:F × F},Opp a b->neg (some b) = some a:=by
   intro a b ⟨e1,e2⟩
   show some (b.1,0 - b.2) = some a
   rw [Option.some.injEq]
   refine Prod.ext e1.symm ?_
   show 0 - b.2 = a.2
   grind
  by_cases h1:Opp p q
  ·rw [S.L_opp h1,C.add_opp h1,S.L0]
   have:=S.L_back hQ hR hX
   rw [negOf h1] at this
   rw [this];grind
  ·by_cases h2:Opp q s
   ·rw [S.L_opp h2,C.add_opp h2,S.L1]
    have:=S.L_back hQ hP hX
    have e:neg (some q) = some s:=negOf h2.symm
    rw [e,C.add_comm o2 o1] at this
    rw [S.L_comm o1 o2,S.L_comm (C.on_add o1 o2) o3,this];grind
   ·have hl:=C.slope_ok o1 o2 h1
    have hm:=C.slope_ok o2 o3 h2
    have e1:=C.add_sl o1 o2 h1 hl
    have e2:=C.add_sl o2 o3 h2 hm
    have a1:=S.Aadd hP hQ
    have a2:=S.Aadd hQ hR
    generalize C.slope p q = l at *
    generalize C.slope q s = m at *
    rw [e1] at a1
    rw [e2] at a2
    have p1:=S.Aon a1
    have p2:=S.Aon a2
    rw [e1,e2] at hass
    rw [e1,e2]
    by_cases h3:Opp (by' l p q) s
    ·rw [C.add_opp h3] at hass
     have h4:=opp_of_none o1 p2 hass.symm
     rw [S.L_opp h3,S.L_opp h4,S.L_sl o1 o2 h1 hl]
     have e:s = ((by' l p q).1,0 - (by' l p q).2):=Prod.ext h3.1.symm (by have:=h3.2;show s.2 = 0 - (by' l p q).2;grind)
     have h5:C.Sl q s l:=by rw [e];exact C.sl_third hl
     rw [S.L_sl o2 o3 h2 h5,C.lnv_sl hl]
    ·by_cases h4:Opp p (by' m q s)
     ·rw [C.add_opp h4] at hass
      exact absurd (opp_of_none p1 o3 hass) h3
     ·by_cases hd:l - m = 0
      ·have hlm:l = m:=by grind
       rcases C.onLine hl (hlm ▸ hm) with e | e
       ·subst e
        have e3:by' m q p = by' l p q:=by rw [<-hlm,<-C.by_symm hl]
        rw [e3,S.L_comm o1 o2,S.L_comm p1 o1]
       ·exact absurd e h3
      ·have hk:∃ k,k * (l - m) = p.1 - s.1:=⟨(p.1 - s.1) * C.inv (l - m),by have:=C.inv_ok _ hd;generalize C.inv (l - m) = t at *;generalize l - m = d at *;grind⟩
       obtain ⟨k,hk⟩:=hk
       have t1:=C.third hl hm hk hd
       have t2:=C.third (k:=k) (hm.symm C) (hl.symm C) (by clear hass e1 e2 o1 o2 o3 p1 p2 h1 h2 h3 h4 t1;grind) (by clear hass e1 e2 o1 o2 o3 p1 p2 h1 h2 h3 h4 t1;intro e;exact hd (by grind))
       rw [<-C.by_symm hm] at t2
       rw [S.L_sl o1 o2 h1 hl,S.L_sl p1 o3 h3 t1,S.L_sl o2 o3 h2 hm,S.L_sl o1 p2 h4 (t2.symm C),<-C.lnv_sl t2]
       have e:=C.lnv_cocycle (X:=x) o1 o2 hl hm hk hd (S.Bon hX)
       have e3:=congrArg S.N e
       rw [S.mulN,S.mulN,S.mulN,S.mulN,S.nv a1 hX,S.nv a2 hX] at e3
       rw [Rg.mul_one,Rg.mul_one] at e3
       exact e3
theorem A_mul {P:Option (F × F)} (hP:S.A P):∀ n,S.A (C.mul n P)
 | 0=>S.A0
 | n + 1=>S.Aadd (A_mul hP n) hP
def Fn:Nat->Option (F × F)->Option (F × F)->F
 | 0,_,_=>1
 | n + 1,P,X=>Fn n P X * S.L (C.mul n P) P X
theorem Fn_add {P X:Option (F × F)} (hP:S.A P) (hX:S.B X) (m:Nat):∀ n,S.Fn (m + n) P X = S.Fn m P X * S.Fn n P X * S.L (C.mul m P) (C.mul n P) X
 | 0=>by show S.Fn m P X = S.Fn m P X * 1 * S.L _ none X;rw [S.L1];grind
 | n + 1=>by
  show S.Fn (m + n) P X * S.L (C.mul (m + n) P) P X = S.Fn m P X * (S.Fn n P X * S.L (C.mul n P) P X) * S.L (C.mul m P) (C.add (C.mul n P) P) X
  have e:=S.L_cocycle (S.A_mul hP m) (S.A_mul hP n) hP hX
  rw [Fn_add hP hX m n,C.mul_add (S.Aon hP)]
  grind
theorem Fn_neg {P X:Option (F × F)} (hP:S.A P) (hX:S.B X):∀ n,S.Fn n P X * S.Fn n P (neg X) = 1
 | 0=>by show (1:F) * 1 = 1;grind
 | n + 1=>by
  have ih:=Fn_neg hP hX n
  have e:=S.L_neg (S.A_mul hP n) hP hX
  show S.Fn n P X * S.L (C.mul n P) P X * (S.Fn n P (neg X) * S.L (C.mul n P) P (neg X)) = 1
  grind
end EC.Sd
open EC S12
def eL:Nat:=(pN ^ 12 - 1) / rO
theorem eL_6:∃ k,eL = (pN ^ 6 - 1) * k:=⟨eL / (pN ^ 6 - 1),by decide +kernel⟩
theorem p12_pos:pN ^ 12 = (pN ^ 12 - 1) + 1:=by decide +kernel
theorem p6_pos:pN ^ 6 = (pN ^ 6 - 1) + 1:=by decide +kernel
theorem pow_one' {z:S12} {n m:Nat} (hz:z ≠ 0) (hn:n = m + 1) (h:z ^ n = z):z ^ m = 1:=by
 rw [hn,Rg.pow_succ] at h
 have e:(z ^ m - 1) * z = 0:=by
  generalize z ^ m = y at *
  grind
 rcases S12.dom e with k | k
 ·generalize z ^ m = y at *
  grind
 ·exact absurd k hz
theorem pow_12 {z:S12} (hz:z ≠ 0):z ^ (pN ^ 12 - 1) = 1:=pow_one' hz p12_pos (by rw [<-turns_pow,turns_twelve])
theorem pow_6 {a:S6} (ha:a ≠ 0):(⟨a,0⟩:S12) ^ (pN ^ 6 - 1) = 1:=pow_one' (fun e=>ha (congrArg S12.p e)) p6_pos (by
 rw [<-turns_pow,turns_six]
 exact S12.ext rfl (Rg.sub_self 0))
theorem pow_mul_ {z:S12} (m n:Nat):z ^ (m * n) = (z ^ m) ^ n:=by
 induction n with
 | zero=>rw [Nat.mul_zero,Rg.pow_zero,Rg.pow_zero]
 | succ n ih=>rw [Nat.mul_succ,Rg.pow_add,ih,Rg.pow_succ]
theorem mul_pow_ (a b:S12):∀ n:Nat,(a * b) ^ n = a ^ n * b ^ n
 | 0=>by rw [Rg.pow_zero,Rg.pow_zero,Rg.pow_zero,Rg.mul_one]
 | n + 1=>by
  rw [Rg.pow_succ,Rg.pow_succ,Rg.pow_succ,mul_pow_ a b n]
  generalize a ^ n = x;generalize b ^ n = y
  grind
def nL (z:S12):S12:=z ^ eL
theorem nL_mul (a b:S12):nL (a * b) = nL a * nL b:=mul_pow_ a b eL
theorem nL_six {a:S6} (ha:a ≠ 0):nL ⟨a,0⟩ = 1:=by
 obtain ⟨k,hk⟩:=eL_6
 have h:∀ n,n = (pN ^ 6 - 1) * k->(⟨a,0⟩:S12) ^ n = 1:=fun n hn=>by rw [hn,pow_mul_,pow_6 ha,Rg.one_pow]
 exact h eL hk
theorem nL_turn (z:S12):nL (turn z) = turn (nL z):=by
 have h:∀ n:Nat,turn z ^ n = turn (z ^ n):=fun n=>by
  induction n with
  | zero =>
   rw [Rg.pow_zero,Rg.pow_zero]
   have:=turn_c 1
   rw [c_one] at this
   rw [this]
   have e1:F2p.cj 1 = 1:=F2p.ext rfl (Rg.sub_self 0)
   rw [e1,c_one]
  | succ n ih=>rw [Rg.pow_succ,Rg.pow_succ,turn_mul,ih]
 exact h eL
theorem nL_neg:nL (0 - 1) = 1:=by
 have e:(0 - 1:S12) = ⟨0 - 1,0⟩:=S12.ext rfl (Rg.sub_self 0)
 rw [e]
 exact nL_six (fun h=>absurd (congrArg (fun a:S6=>a.u.x) h) (by decide +kernel))
theorem wi_q:(wi * wi).q = 0:=by
 have hp:wi.p = 0:=by
  unfold wi
  rw [Rg.mul_comm,c_scal]
  exact S6.ext (Rg.mul_zero _) (Rg.mul_zero _) (Rg.mul_zero _)
 rw [mul_q,hp,Rg.zero_mul,Rg.mul_zero,Rg.add_zero]
theorem wi_u:(wi * wi).p.u = 0:=by
 have e:wi * wi = w4 * (c (F2p.inv' kx)):=by
  unfold wi
  have h1:=w_wi
  have:w5 * c (F2p.inv' kx) * (w5 * c (F2p.inv' kx)) = w5 * (w5 * c (F2p.inv' kx)) * c (F2p.inv' kx):=by
   generalize w5 = a;generalize c (F2p.inv' kx) = b
   grind
  rw [this]
  have h2:w5 * (w5 * c (F2p.inv' kx)) = w4:=by
   have h3:w1 * (w5 * c (F2p.inv' kx)) = 1:=w_wi
   rw [<-w_5,Rg.mul_comm w1 w4,Rg.mul_assoc]
   rw [<-w_5,Rg.mul_comm w1 w4] at h3
   rw [h3,Rg.mul_one]
  rw [h2]
 rw [e,Rg.mul_comm,c_scal]
 exact Rg.mul_zero _
theorem no_x0 {y:F2p}:¬ y * y = bT:=fun h=>by
 have e:bT = kx * (fx 2 * fx 2):=by decide +kernel
 rw [e] at h
 exact absurd (F2p.squ h).2 (by decide +kernel)
theorem cr_n3 {R:Type} [CR R] (a b:R):0 - a * b = (0 - a) * b:=by grind
theorem wi2_ne:wi * wi ≠ 0:=fun h=>by rcases S12.dom h with h | h <;> exact uT.s0 h
theorem nv_ab {a:F2p} {b:Fp} (ha:a ≠ 0):nL (c ⟨b,0⟩ * (1 * 1) - c a * (wi * wi)) = 1:=by
 have hq:(c ⟨b,0⟩ * (1 * 1) - c a * (wi * wi)).q = 0:=by
  have h1:(c ⟨b,0⟩ * (1 * 1):S12) = c ⟨b,0⟩:=by
   generalize c ⟨b,0⟩ = x
   grind
  rw [h1,c_scal]
  show (0:S6) - (scal a (wi * wi)).q = 0
  have h2:(scal a (wi * wi)).q = 0:=by
   show (⟨a * (wi * wi).q.u,a * (wi * wi).q.v,a * (wi * wi).q.w⟩:S6) = 0
   rw [wi_q]
   exact S6.ext (Rg.mul_zero _) (Rg.mul_zero _) (Rg.mul_zero _)
  rw [h2];exact Rg.sub_self 0
 have e:c ⟨b,0⟩ * (1 * 1) - c a * (wi * wi) = ⟨(c ⟨b,0⟩ * (1 * 1) - c a * (wi * wi)).p,0⟩:=S12.ext rfl hq
 rw [e]
 refine nL_six fun h0=>?_
 have hz:c ⟨b,0⟩ * (1 * 1) - c a * (wi * wi) = 0:=by rw [e,h0];rfl
 have h1:c ⟨b,0⟩ = c a * (wi * wi):=by
  generalize c ⟨b,0⟩ = x at *
  generalize c a * (wi * wi) = y at *
  grind
 have hu:(c ⟨b,0⟩).p.u = (c a * (wi * wi)).p.u:=congrArg (fun z:S12=>z.p.u) h1
 rw [c_scal] at hu
 have hu:(⟨b,0⟩:F2p) = a * (wi * wi).p.u:=hu
 rw [wi_u,Rg.mul_zero] at hu
 rw [hu,c_zero] at h1
 have h2:c a * (wi * wi) = 0:=h1.symm
 rcases S12.dom h2 with h | h
 ·exact ha (c_inj h)
 ·exact wi2_ne h
def SK:EK.Sd where
 N:=nL
 mulN:=nL_mul
 negN:=nL_neg
 A P:=∃ Q,ET.on Q/\P = cp uT Q
 B P:=∃ Q,EF.on Q/\P = cp uF Q
 Aon:=fun ⟨Q,h,e⟩=>by rw [e];exact cp_on uT h
 Bon:=fun ⟨Q,h,e⟩=>by rw [e];exact cp_on uF h
 Aadd:=fun ⟨Q,h,e⟩ ⟨R,k,f⟩=>⟨ET.add Q R,ET.on_add h k,by rw [e,f,cp_add uT h k]⟩
 Badd:=fun ⟨Q,h,e⟩ ⟨R,k,f⟩=>⟨EF.add Q R,EF.on_add h k,by rw [e,f,cp_add uF h k]⟩
 A0:=⟨none,trivial,rfl⟩
 B0:=⟨none,trivial,rfl⟩
 An:=fun {p} ⟨Q,h,e⟩=>⟨neg Q,ET.on_neg h,by
  rw [e]
  cases Q with
  | none=>rfl
  | some q =>
   show some (c q.1 * (wi * wi),0 - c q.2 * (wi * wi * wi)) = some (c q.1 * (wi * wi),c (0 - q.2) * (wi * wi * wi))
   rw [c_sub,c_zero,cr_n3 (c q.2)]⟩
 Bn:=fun {p} ⟨Q,h,e⟩=>⟨neg Q,EF.on_neg h,by
  rw [e]
  cases Q with
  | none=>rfl
  | some q =>
   show some (c ⟨q.1,0⟩ * (1 * 1),0 - c ⟨q.2,0⟩ * (1 * 1 * 1)) = some (c ⟨q.1,0⟩ * (1 * 1),uF.f (0 - q.2) * (1 * 1 * 1))
   rw [uF.sub,uF.z,cr_n3 (c ⟨q.2,0⟩)]
   rfl⟩
 nv:=fun {a b} ⟨Q,h,e⟩ ⟨R,k,f⟩=>by
  cases Q with
  | none=>cases e
  | some q =>
   cases R with
   | none=>cases f
   | some s =>
    have e:=Option.some.inj e
    have f:=Option.some.inj f
    rw [e,f]
    have hq:q.2 * q.2 = q.1 * q.1 * q.1 + 0 * q.1 + bT:=h
    refine nv_ab (a:=q.1) (b:=s.1) fun h0=>no_x0 (y:=q.2) ?_
    rw [hq,h0]
    generalize bT = b
    grind
theorem eL_pos:∃ k,eL = k + 1:=⟨eL - 1,by decide +kernel⟩
theorem nL_0:nL 0 = 0:=by
 obtain ⟨k,hk⟩:=eL_pos
 have h:∀ n:Nat,n = k + 1->(0:S12) ^ n = 0:=fun n hn=>by rw [hn,Rg.pow_succ,Rg.mul_zero]
 exact h eL hk
theorem oneK_ne:(1:S12) ≠ 0:=fun e=>absurd (congrArg (fun z:S12=>z.p.u.x) e) (by decide +kernel)
def G2s (Q:Option (F2p × F2p)):Prop:=ET.on Q/\ET.mul rO Q = none
def mlF (Q:Option (F2p × F2p)) (P:Option (Fp × Fp)):S12:=SK.Fn uA (cp uT Q) (cp uF P)
end Go.Rq
namespace Go.Proofs.YtnjocbcjejpklaaGreat
open Go.Rq Go
set_option maxRecDepth 100000
theorem pw_inv {a:S12} (ha:a ≠ 0) {m n:Nat} (h:n = m + 1):a ^ n * S12.inv a = a ^ m:=by
 rw [h,Rg.pow_succ,Rg.mul_assoc,inv_of ha,Rg.mul_one]
theorem laE_pow {a:S12} (ha:a ≠ 0):laE a = a ^ (pN ^ 6 - 1):=by
 unfold laE
 rw [conj_t6,S12.turns_pow]
 exact pw_inv ha p6_pos
theorem laF_pow {a:S12} (ha:a ≠ 0):laF a = a ^ ((pN ^ 6 - 1) * (pN ^ 2 + 1)):=by
 unfold laF
 rw [laE_pow ha,S12.turns_pow]
 have h:∀ m n:Nat,(a ^ m) ^ n * a ^ m = a ^ (m * (n + 1)):=fun m n=>by rw [pow_mul_ m (n + 1),Rg.pow_succ]
 exact h _ _
def kSm (U k:Nat):Nat:=k * U * pN ^ 6
theorem smS_pow (f:S12) (k:Nat):smS (f ^ k) = f ^ kSm nU k:=by
 unfold smS kSm
 rw [conj_t6,S12.turns_pow,<-pow_mul_,<-pow_mul_,Nat.mul_assoc]
theorem turns_f (f:S12) (n k:Nat):S12.turns n (f ^ k) = f ^ (k * pN ^ n):=by
 rw [S12.turns_pow,<-pow_mul_]
theorem conj_f (f:S12) (k:Nat):S12.conj (f ^ k) = f ^ (k * pN ^ 6):=by rw [conj_t6,turns_f]
def kX (A B:Nat):Nat:=A * B
def kZ (U x:Nat):Nat:=kSm U (kSm U x) + x * pN ^ 6
def kO (U x:Nat):Nat:=kSm U (kZ U x) + 1 + kZ U x * pN ^ 1 + kSm U x * pN ^ 2 + x * pN ^ 3
theorem laZ_pow (f:S12) (x:Nat):laZ (f ^ x) = f ^ kZ nU x:=by
 unfold laZ kZ
 rw [smS_pow,smS_pow,conj_f,<-Rg.pow_add]
theorem laO_pow (f:S12) (x:Nat):laO f (f ^ x) = f ^ kO nU x:=by
 unfold laO kO
 rw [laZ_pow,smS_pow,smS_pow,turns_f,turns_f,turns_f]
 have h:∀ p q r s:Nat,f ^ p * f * f ^ q * f ^ r * f ^ s = f ^ (p + 1 + q + r + s):=fun p q r s=>by
  rw [Rg.pow_add,Rg.pow_add,Rg.pow_add,Rg.pow_succ]
 exact h _ _ _ _
def cyM:Nat:=pN ^ 4 - pN ^ 2 + 1
def hardN:Nat:=cyM / rO
theorem nU_val:nU = 15132376222941642752:=by kernel_rfl
theorem nA_val:nA = 5044125407647214251:=by kernel_rfl
theorem nB_val:nB = 15132376222941642753:=by kernel_rfl
theorem kO_hard:kO 15132376222941642752 (kX 5044125407647214251 15132376222941642753) % cyM = hardN % cyM:=by decide +kernel
theorem e1_hard:(pN ^ 6 - 1) * (pN ^ 2 + 1) * hardN = eL:=by decide +kernel
theorem e1_cy:(pN ^ 6 - 1) * (pN ^ 2 + 1) * cyM = pN ^ 12 - 1:=by decide +kernel
theorem pow_md {f:S12} {m:Nat} (h:f ^ m = 1) (n:Nat):f ^ n = f ^ (n % m):=by
 have e:n = m * (n / m) + n % m:=(Nat.div_add_mod n m).symm
 have h2:∀ q r:Nat,f ^ (m * q + r) = f ^ r:=fun q r=>by rw [Rg.pow_add,pow_mul_,h,Rg.one_pow,Rg.one_mul]
 exact (congrArg (fun k:Nat=>f ^ k) e).trans (h2 _ _)
theorem last_n {a f:S12} {e m hd E k o:Nat} (hf:f = a ^ e) (hm:f ^ m = 1) (hk:k % m = hd % m) (he:e * hd = E):f ^ k = a ^ E:=by
 rw [pow_md hm k,hk,<-pow_md hm hd,hf,<-pow_mul_,he]
theorem lastS_nL {a:S12} (ha:a ≠ 0):lastS a = Go.Rq.nL a:=by
 have hf:=laF_pow ha
 have hm:laF a ^ cyM = 1:=by
  have h:∀ e m M:Nat,e * m = M->laF a = a ^ e->a ^ M = 1->laF a ^ m = 1:=fun e m M h1 h2 h3=>by rw [h2,<-pow_mul_,h1,h3]
  exact h _ _ _ e1_cy hf (pow_12 ha)
 have hx:laX (laF a) = laF a ^ kX nA nB:=by
  unfold laX kX
  rw [<-pow_mul_]
 unfold lastS
 rw [hx,laO_pow]
 have hk:kO nU (kX nA nB) % cyM = hardN % cyM:=by rw [nU_val,nA_val,nB_val];exact kO_hard
 exact last_n (o:=0) hf hm hk e1_hard
set_option maxHeartbeats 4000000
def unF0:Nat->Nat:=(upd (upd (upd (upd (upd (upd fz 0 1730508156817200468) 1 9606178027640717313) 2 7150789853162776431) 3 7936136305760253186) 4 15245073033536294050) 5 1728177566264616342)
def unF1:Nat->Nat:=(upd (upd (upd (upd (upd (upd fz 0 11671922859260663127) 1 11050707557586042878) 2 284884720401305268) 3 17749945728364010941) 4 8613774818643959860) 5 145621051382923523)
theorem un_lt0:nv unF0 < pN:=by rw [<-Nat.blt_eq];kernel_rfl
theorem un_lt1:nv unF1 < pN:=by rw [<-Nat.blt_eq];kernel_rfl
abbrev unS:F2p:=⟨dF unF0,dF unF1⟩
theorem okUnder:(CallC.pure (c2 unF0 unF1)).Ok Tryz.prog 186:=by
 intro args pre v e _
 unfold c2 at e
 split at e
 ·cases e
  refine pWk tK Tryz.func186 (by kernel_rfl) (by kernel_rfl) (by rfl) (by rfl) ?_
  refine eSq mxd tK G0_ok 60 [] ?_
  exact same (p:=endN (f2 unF0 unF1) (f2 unF0 unF1)) ⟨_,rfl,fun _=>rfl⟩ (by kernel_rfl)
 ·cases e
def slS (u d:F2p):F2p:=u * F2p.inv d
def lnT (py:Fp) (l3 l5:F2p):S12:=⟨⟨⟨py,0⟩,0,0⟩,⟨0,l3,l5⟩⟩
def lnS (px py:Fp) (tx ty m:F2p):S12:=lnT py ((m * tx - ty) * unS) (F2p.ng' (F2p.sc m px) * unS)
def stX (tx m o:F2p):F2p:=(m * m - tx) - o
def stY (tx ty m o:F2p):F2p:=m * (tx - stX tx m o) - ty
structure WS where
 tx:F2p
 ty:F2p
 f:S12
def twW (px py:Fp) (s:WS):WS :=
 ⟨stX s.tx (slS ((s.tx * s.tx + s.tx * s.tx) + s.tx * s.tx) (s.ty + s.ty)) s.tx,stY s.tx s.ty (slS ((s.tx * s.tx + s.tx * s.tx) + s.tx * s.tx) (s.ty + s.ty)) s.tx,(s.f * s.f) * lnS px py s.tx s.ty (slS ((s.tx * s.tx + s.tx * s.tx) + s.tx * s.tx) (s.ty + s.ty))⟩
def adW (px py:Fp) (qx qy:F2p) (s:WS):WS :=
 ⟨stX s.tx (slS (qy - s.ty) (qx - s.tx)) qx,stY s.tx s.ty (slS (qy - s.ty) (qx - s.tx)) qx,s.f * lnS px py s.tx s.ty (slS (qy - s.ty) (qx - s.tx))⟩
theorem as_slQ {A B C D:Nat->Nat} {s u t:F2p} (a:dF A = s.x) (b:dF B = s.y) (c:dF C = u.x) (d:dF D = u.y) (h:t = slS s u):asP (eC2 (slS (⟨dF A,dF B⟩:F2p) (⟨dF C,dF D⟩:F2p))) (eC2 t):=asQ (by rw [a,b,c,d,h]) (by rw [a,b,c,d,h])
theorem ln_d {py:Nat->Nat} {l3 l5:F2p}:d12 py fz fz fz fz fz (eF l3.x) (eF l3.y) fz fz (eF l5.x) (eF l5.y) = lnT (dF py) l3 l5:=by
 unfold d12 d6 lnT
 simp only [qE,dF_0]
 rfl
def csl:List AV->Option (List Prop × AV)
 | [.v1 (.agg [.ws .u64 6 a,.ws .u64 6 b]),.v1 (.agg [.ws .u64 6 c,.ws .u64 6 d])]=>some ([nv a < pN,nv b < pN,nv c < pN,nv d < pN],.v1 (.agg (eC2 (slS ⟨dF a,dF b⟩ ⟨dF c,dF d⟩))))
 | _=>none
def GSlp:Ctx:=ctxL [(112,.pure (q2 mul2x mul2y)),(113,.pure (q1 inv2x inv2y))]
theorem GSlp_ok:CtxOk Tryz.prog GSlp:=cxC okMul2 <| cxC okMInv2 cxN
theorem okSlope:(CallC.pure csl).Ok Tryz.prog 174:=by
 intro args pre v e hp
 unfold csl at e
 split at e
 rotate_left
 ·cases e
 rename_i a b c d
 cases e
 have ha:nv a < pN:=hp _ (by simp)
 have hb:nv b < pN:=hp _ (by simp)
 have hc:nv c < pN:=hp _ (by simp)
 have hd:nv d < pN:=hp _ (by simp)
 refine pWk tK Tryz.func174 (by kernel_rfl) (by kernel_rfl) (by rfl) (by rfl) ?_
 obtain ⟨t1,ht1⟩:=exq (F2p.inv (⟨dF c,dF d⟩:F2p))
 obtain ⟨t2,ht2⟩:=exq ((⟨dF a,dF b⟩:F2p) * t1)
 refine eSq mxd tK GSlp_ok 100 [⟨1,2,.as (eC2 t1)⟩,⟨1,3,.as (eC2 t2)⟩] ?_
 refine same (p:=asP [q6 (eF (inv2x (dF c) (dF d))),q6 (eF (inv2y (dF c) (dF d)))] (eC2 t1)/\lp c/\lp d/\asP (eD4 mul2x mul2y (dF a) (dF b) (dF (eF t1.x)) (dF (eF t1.y))) (eC2 t2)/\lp a/\lp b/\lp (eF t1.x)/\lp (eF t1.y)/\endN (.v1 (.agg (eC2 t2))) (.v1 (.agg (eC2 (slS (⟨dF a,dF b⟩:F2p) (⟨dF c,dF d⟩:F2p)))))) ?_ (by kernel_rfl)
 exact ⟨as_invQ rfl rfl ht1,hc,hd,aMQ rfl rfl (qE _) (qE _) ht2,ha,hb,lE _,lE _,endC (cvS (nv_tx (by subst ht2 ht1;rfl)) (cvS (nv_ty (by subst ht2 ht1;rfl)) cv_nil))⟩
def endW (t:Nat) (cs ds:List Cell):Prop:=true = true/\true = true/\SimH [some ⟨t,cs,0,0⟩] [some ⟨t,ds,0,0⟩]/\∃ v',some (AV.tup []) = some v'/\avB [some ⟨t,cs,0,0⟩] (bkAV [0] v') = true/\∀ ρ,(bkAV [0] v').val ρ = (AV.tup []).val ρ
theorem endW_of {t:Nat} {cs ds:List Cell} (h:∀ ρ:Ren,cvals ρ cs = cvals ρ ds):endW t cs ds:=⟨rfl,rfl,⟨⟨rfl,rfl,rfl,h⟩,trivial⟩,_,rfl,rfl,fun _=>rfl⟩
theorem bk_one (b:Nat):bk [b] b = 0:=by simp [bk,idxN]
def cLineW (args:List AV) (h:Heap) (slot:Nat):Option (List Prop × AV × Heap) :=
 match args with
 | [.v1 (.sc (.pt b 0)),.v1 (.agg [.ws .u64 6 m0,.ws .u64 6 m1])]=>match hget h b with
  | some ⟨t0,[.ws .u64 6 px,.ws .u64 6 py,.ws .u64 6 qx0,.ws .u64 6 qx1,.ws .u64 6 qy0,.ws .u64 6 qy1,.ws .u64 6 tx0,.ws .u64 6 tx1,.ws .u64 6 ty0,.ws .u64 6 ty1,.ws .u64 6 f0,.ws .u64 6 f1,.ws .u64 6 f2,.ws .u64 6 f3,.ws .u64 6 f4,.ws .u64 6 f5,.ws .u64 6 f6,.ws .u64 6 f7,.ws .u64 6 f8,.ws .u64 6 f9,.ws .u64 6 f10,.ws .u64 6 f11],0,0⟩=>match Nat.beq t0 167 with
   | true=>some ([nv px < pN,nv py < pN,nv tx0 < pN,nv tx1 < pN,nv ty0 < pN,nv ty1 < pN,nv f0 < pN,nv f1 < pN,nv f2 < pN,nv f3 < pN,nv f4 < pN,nv f5 < pN,nv f6 < pN,nv f7 < pN,nv f8 < pN,nv f9 < pN,nv f10 < pN,nv f11 < pN,nv m0 < pN,nv m1 < pN],.tup [],hset h b ⟨167,[q6 px,q6 py,q6 qx0,q6 qx1,q6 qy0,q6 qy1,q6 tx0,q6 tx1,q6 ty0,q6 ty1,q6 (eF (((d12 f0 f1 f2 f3 f4 f5 f6 f7 f8 f9 f10 f11) * lnS (dF px) (dF py) (⟨dF tx0,dF tx1⟩:F2p) (⟨dF ty0,dF ty1⟩:F2p) (⟨dF m0,dF m1⟩:F2p))).p.u.x),q6 (eF (((d12 f0 f1 f2 f3 f4 f5 f6 f7 f8 f9 f10 f11) * lnS (dF px) (dF py) (⟨dF tx0,dF tx1⟩:F2p) (⟨dF ty0,dF ty1⟩:F2p) (⟨dF m0,dF m1⟩:F2p))).p.u.y),q6 (eF (((d12 f0 f1 f2 f3 f4 f5 f6 f7 f8 f9 f10 f11) * lnS (dF px) (dF py) (⟨dF tx0,dF tx1⟩:F2p) (⟨dF ty0,dF ty1⟩:F2p) (⟨dF m0,dF m1⟩:F2p))).q.u.x),q6 (eF (((d12 f0 f1 f2 f3 f4 f5 f6 f7 f8 f9 f10 f11) * lnS (dF px) (dF py) (⟨dF tx0,dF tx1⟩:F2p) (⟨dF ty0,dF ty1⟩:F2p) (⟨dF m0,dF m1⟩:F2p))).q.u.y),q6 (eF (((d12 f0 f1 f2 f3 f4 f5 f6 f7 f8 f9 f10 f11) * lnS (dF px) (dF py) (⟨dF tx0,dF tx1⟩:F2p) (⟨dF ty0,dF ty1⟩:F2p) (⟨dF m0,dF m1⟩:F2p))).p.v.x),q6 (eF (((d12 f0 f1 f2 f3 f4 f5 f6 f7 f8 f9 f10 f11) * lnS (dF px) (dF py) (⟨dF tx0,dF tx1⟩:F2p) (⟨dF ty0,dF ty1⟩:F2p) (⟨dF m0,dF m1⟩:F2p))).p.v.y),q6 (eF (((d12 f0 f1 f2 f3 f4 f5 f6 f7 f8 f9 f10 f11) * lnS (dF px) (dF py) (⟨dF tx0,dF tx1⟩:F2p) (⟨dF ty0,dF ty1⟩:F2p) (⟨dF m0,dF m1⟩:F2p))).q.v.x),q6 (eF (((d12 f0 f1 f2 f3 f4 f5 f6 f7 f8 f9 f10 f11) * lnS (dF px) (dF py) (⟨dF tx0,dF tx1⟩:F2p) (⟨dF ty0,dF ty1⟩:F2p) (⟨dF m0,dF m1⟩:F2p))).q.v.y),q6 (eF (((d12 f0 f1 f2 f3 f4 f5 f6 f7 f8 f9 f10 f11) * lnS (dF px) (dF py) (⟨dF tx0,dF tx1⟩:F2p) (⟨dF ty0,dF ty1⟩:F2p) (⟨dF m0,dF m1⟩:F2p))).p.w.x),q6 (eF (((d12 f0 f1 f2 f3 f4 f5 f6 f7 f8 f9 f10 f11) * lnS (dF px) (dF py) (⟨dF tx0,dF tx1⟩:F2p) (⟨dF ty0,dF ty1⟩:F2p) (⟨dF m0,dF m1⟩:F2p))).p.w.y),q6 (eF (((d12 f0 f1 f2 f3 f4 f5 f6 f7 f8 f9 f10 f11) * lnS (dF px) (dF py) (⟨dF tx0,dF tx1⟩:F2p) (⟨dF ty0,dF ty1⟩:F2p) (⟨dF m0,dF m1⟩:F2p))).q.w.x),q6 (eF (((d12 f0 f1 f2 f3 f4 f5 f6 f7 f8 f9 f10 f11) * lnS (dF px) (dF py) (⟨dF tx0,dF tx1⟩:F2p) (⟨dF ty0,dF ty1⟩:F2p) (⟨dF m0,dF m1⟩:F2p))).q.w.y)],0,0⟩)
   | false=>none
  | _=>none
 | _=>none
def GLw:Ctx:=ctxL [(165,.pure (qs sc2x sc2y)),(185,.pure (q1 neg2x neg2y)),(186,.pure (c2 unF0 unF1)),(112,.pure (q2 mul2x mul2y)),(111,.pure (q2 sub2x sub2y)),(60,.pure (k122 S12.mul))]
theorem GLw_ok:CtxOk Tryz.prog GLw:=cxC okScale <| cxC okNeg2 <| cxC okUnder <| cxC okMul2 <| cxC okSub2 <| cxC okMul12 cxN
theorem okLineW:(CallC.mem cLineW).Ok Tryz.prog 175:=by
 intro args h slot pre v h' e hp
 unfold cLineW at e
 split at e
 rotate_left
 ·cases e
 rename_i b m0 m1
 split at e
 rotate_left
 ·cases e
 rename_i t0 px py qx0 qx1 qy0 qy1 tx0 tx1 ty0 ty1 f0 f1 f2 f3 f4 f5 f6 f7 f8 f9 f10 f11 hb0
 split at e
 rotate_left
 ·cases e
 rename_i hty
 cases e
 simp only [Nat.beq_eq] at hty
 subst hty
 have hpx:nv px < pN:=hp _ (by simp)
 have hpy:nv py < pN:=hp _ (by simp)
 have htx0:nv tx0 < pN:=hp _ (by simp)
 have htx1:nv tx1 < pN:=hp _ (by simp)
 have hty0:nv ty0 < pN:=hp _ (by simp)
 have hty1:nv ty1 < pN:=hp _ (by simp)
 have hf0:nv f0 < pN:=hp _ (by simp)
 have hf1:nv f1 < pN:=hp _ (by simp)
 have hf2:nv f2 < pN:=hp _ (by simp)
 have hf3:nv f3 < pN:=hp _ (by simp)
 have hf4:nv f4 < pN:=hp _ (by simp)
 have hf5:nv f5 < pN:=hp _ (by simp)
 have hf6:nv f6 < pN:=hp _ (by simp)
 have hf7:nv f7 < pN:=hp _ (by simp)
 have hf8:nv f8 < pN:=hp _ (by simp)
 have hf9:nv f9 < pN:=hp _ (by simp)
 have hf10:nv f10 < pN:=hp _ (by simp)
 have hf11:nv f11 < pN:=hp _ (by simp)
 have hm0:nv m0 < pN:=hp _ (by simp)
 have hm1:nv m1 < pN:=hp _ (by simp)
 have hl:=hget_lt hb0
 refine mem_walk tK Tryz.func175 (by kernel_rfl) (by kernel_rfl) [b] [] slot [some ⟨167,[q6 px,q6 py,q6 qx0,q6 qx1,q6 qy0,q6 qy1,q6 tx0,q6 tx1,q6 ty0,q6 ty1,q6 f0,q6 f1,q6 f2,q6 f3,q6 f4,q6 f5,q6 f6,q6 f7,q6 f8,q6 f9,q6 f10,q6 f11],0,0⟩] [some ⟨167,[q6 px,q6 py,q6 qx0,q6 qx1,q6 qy0,q6 qy1,q6 tx0,q6 tx1,q6 ty0,q6 ty1,q6 (eF (((d12 f0 f1 f2 f3 f4 f5 f6 f7 f8 f9 f10 f11) * lnS (dF px) (dF py) (⟨dF tx0,dF tx1⟩:F2p) (⟨dF ty0,dF ty1⟩:F2p) (⟨dF m0,dF m1⟩:F2p))).p.u.x),q6 (eF (((d12 f0 f1 f2 f3 f4 f5 f6 f7 f8 f9 f10 f11) * lnS (dF px) (dF py) (⟨dF tx0,dF tx1⟩:F2p) (⟨dF ty0,dF ty1⟩:F2p) (⟨dF m0,dF m1⟩:F2p))).p.u.y),q6 (eF (((d12 f0 f1 f2 f3 f4 f5 f6 f7 f8 f9 f10 f11) * lnS (dF px) (dF py) (⟨dF tx0,dF tx1⟩:F2p) (⟨dF ty0,dF ty1⟩:F2p) (⟨dF m0,dF m1⟩:F2p))).q.u.x),q6 (eF (((d12 f0 f1 f2 f3 f4 f5 f6 f7 f8 f9 f10 f11) * lnS (dF px) (dF py) (⟨dF tx0,dF tx1⟩:F2p) (⟨dF ty0,dF ty1⟩:F2p) (⟨dF m0,dF m1⟩:F2p))).q.u.y),q6 (eF (((d12 f0 f1 f2 f3 f4 f5 f6 f7 f8 f9 f10 f11) * lnS (dF px) (dF py) (⟨dF tx0,dF tx1⟩:F2p) (⟨dF ty0,dF ty1⟩:F2p) (⟨dF m0,dF m1⟩:F2p))).p.v.x),q6 (eF (((d12 f0 f1 f2 f3 f4 f5 f6 f7 f8 f9 f10 f11) * lnS (dF px) (dF py) (⟨dF tx0,dF tx1⟩:F2p) (⟨dF ty0,dF ty1⟩:F2p) (⟨dF m0,dF m1⟩:F2p))).p.v.y),q6 (eF (((d12 f0 f1 f2 f3 f4 f5 f6 f7 f8 f9 f10 f11) * lnS (dF px) (dF py) (⟨dF tx0,dF tx1⟩:F2p) (⟨dF ty0,dF ty1⟩:F2p) (⟨dF m0,dF m1⟩:F2p))).q.v.x),q6 (eF (((d12 f0 f1 f2 f3 f4 f5 f6 f7 f8 f9 f10 f11) * lnS (dF px) (dF py) (⟨dF tx0,dF tx1⟩:F2p) (⟨dF ty0,dF ty1⟩:F2p) (⟨dF m0,dF m1⟩:F2p))).q.v.y),q6 (eF (((d12 f0 f1 f2 f3 f4 f5 f6 f7 f8 f9 f10 f11) * lnS (dF px) (dF py) (⟨dF tx0,dF tx1⟩:F2p) (⟨dF ty0,dF ty1⟩:F2p) (⟨dF m0,dF m1⟩:F2p))).p.w.x),q6 (eF (((d12 f0 f1 f2 f3 f4 f5 f6 f7 f8 f9 f10 f11) * lnS (dF px) (dF py) (⟨dF tx0,dF tx1⟩:F2p) (⟨dF ty0,dF ty1⟩:F2p) (⟨dF m0,dF m1⟩:F2p))).p.w.y),q6 (eF (((d12 f0 f1 f2 f3 f4 f5 f6 f7 f8 f9 f10 f11) * lnS (dF px) (dF py) (⟨dF tx0,dF tx1⟩:F2p) (⟨dF ty0,dF ty1⟩:F2p) (⟨dF m0,dF m1⟩:F2p))).q.w.x),q6 (eF (((d12 f0 f1 f2 f3 f4 f5 f6 f7 f8 f9 f10 f11) * lnS (dF px) (dF py) (⟨dF tx0,dF tx1⟩:F2p) (⟨dF ty0,dF ty1⟩:F2p) (⟨dF m0,dF m1⟩:F2p))).q.w.y)],0,0⟩] (args':=[pt 0 0,.v1 (.agg [q6 m0,q6 m1])]) (vK:=.tup [])
  (by kernel_rfl) ?_ (by kernel_rfl) ?_ (by kernel_rfl) (fun i hi=>?_) (by kernel_rfl) (by kernel_rfl) (fun i hi=>?_) (by kernel_rfl) ?_ rfl (fun t ht=>by simp at ht) (fun i hi _=>?_) ?_
 ·show [pickB _ (hget h b)] = _
  rw [hb0];rfl
 ·show [AV.v1 (.sc (.pt (bk [b] b) 0)),.v1 (.agg [q6 m0,q6 m1])] = _
  rw [bk_one]
 ·have:i = 0:=by simpa using hi
  subst this;exact ⟨_,rfl,by simp⟩
 ·have:i = 0:=by simpa using hi
  subst this;exact ⟨_,rfl⟩
 ·show [pickB _ (hget (hset h b _) b)] = _
  rw [hgS hl];rfl
 ·exact hgN fun e=>hi 0 (by simp) e.symm
 ·skip
  obtain ⟨t1,ht1⟩:=exq (F2p.sc (⟨dF m0,dF m1⟩:F2p) (dF px))
  obtain ⟨t2,ht2⟩:=exq (F2p.ng' t1)
  obtain ⟨t3,ht3⟩:=exq (t2 * unS)
  obtain ⟨t4,ht4⟩:=exq ((⟨dF m0,dF m1⟩:F2p) * (⟨dF tx0,dF tx1⟩:F2p))
  obtain ⟨t5,ht5⟩:=exq (t4 - (⟨dF ty0,dF ty1⟩:F2p))
  obtain ⟨t6,ht6⟩:=exq (t5 * unS)
  obtain ⟨t7,ht7⟩:=exq ((d12 f0 f1 f2 f3 f4 f5 f6 f7 f8 f9 f10 f11) * (lnT (dF py) t6 t3))
  have hE:t7 = ((d12 f0 f1 f2 f3 f4 f5 f6 f7 f8 f9 f10 f11) * lnS (dF px) (dF py) (⟨dF tx0,dF tx1⟩:F2p) (⟨dF ty0,dF ty1⟩:F2p) (⟨dF m0,dF m1⟩:F2p)):=by subst ht7 ht6 ht5 ht4 ht3 ht2 ht1;rfl
  refine eSq mxd tK GLw_ok 200 [⟨3,5,.as (eC2 t1)⟩,⟨3,6,.as (eC2 t2)⟩,⟨3,8,.as (eC2 t3)⟩,⟨4,5,.as (eC2 t4)⟩,⟨4,10,.as (eC2 t5)⟩,⟨4,12,.as (eC2 t6)⟩,⟨5,6,.as (eC12 t7)⟩] ?_
  refine same (p:=asP [q6 (eF (sc2x (dF m0) (dF m1) (dF px))),q6 (eF (sc2y (dF m0) (dF m1) (dF px)))] (eC2 t1)/\lp m0/\lp m1/\lp px/\asP [q6 (eF (neg2x (dF (eF t1.x)) (dF (eF t1.y)))),q6 (eF (neg2y (dF (eF t1.x)) (dF (eF t1.y))))] (eC2 t2)/\lp (eF t1.x)/\lp (eF t1.y)/\asP (eD4 mul2x mul2y (dF (eF t2.x)) (dF (eF t2.y)) (dF unF0) (dF unF1)) (eC2 t3)/\lp (eF t2.x)/\lp (eF t2.y)/\lp unF0/\lp unF1/\asP (eD4 mul2x mul2y (dF m0) (dF m1) (dF tx0) (dF tx1)) (eC2 t4)/\lp m0/\lp m1/\lp tx0/\lp tx1/\asP (eD4 sub2x sub2y (dF (eF t4.x)) (dF (eF t4.y)) (dF ty0) (dF ty1)) (eC2 t5)/\lp (eF t4.x)/\lp (eF t4.y)/\lp ty0/\lp ty1/\asP (eD4 mul2x mul2y (dF (eF t5.x)) (dF (eF t5.y)) (dF unF0) (dF unF1)) (eC2 t6)/\lp (eF t5.x)/\lp (eF t5.y)/\lp unF0/\lp unF1/\asP (cells12 (S12.mul (d12 f0 f1 f2 f3 f4 f5 f6 f7 f8 f9 f10 f11) (d12 py fz fz fz fz fz (eF t6.x) (eF t6.y) fz fz (eF t3.x) (eF t3.y)))) (eC12 t7)/\lp f0/\lp f1/\lp f2/\lp f3/\lp f4/\lp f5/\lp f6/\lp f7/\lp f8/\lp f9/\lp f10/\lp f11/\lp py/\lp fz/\lp fz/\lp fz/\lp fz/\lp fz/\lp (eF t6.x)/\lp (eF t6.y)/\lp fz/\lp fz/\lp (eF t3.x)/\lp (eF t3.y)/\endW 167 [q6 px,q6 py,q6 qx0,q6 qx1,q6 qy0,q6 qy1,q6 tx0,q6 tx1,q6 ty0,q6 ty1,q6 (eF t7.p.u.x),q6 (eF t7.p.u.y),q6 (eF t7.q.u.x),q6 (eF t7.q.u.y),q6 (eF t7.p.v.x),q6 (eF t7.p.v.y),q6 (eF t7.q.v.x),q6 (eF t7.q.v.y),q6 (eF t7.p.w.x),q6 (eF t7.p.w.y),q6 (eF t7.q.w.x),q6 (eF t7.q.w.y)] [q6 px,q6 py,q6 qx0,q6 qx1,q6 qy0,q6 qy1,q6 tx0,q6 tx1,q6 ty0,q6 ty1,q6 (eF (((d12 f0 f1 f2 f3 f4 f5 f6 f7 f8 f9 f10 f11) * lnS (dF px) (dF py) (⟨dF tx0,dF tx1⟩:F2p) (⟨dF ty0,dF ty1⟩:F2p) (⟨dF m0,dF m1⟩:F2p))).p.u.x),q6 (eF (((d12 f0 f1 f2 f3 f4 f5 f6 f7 f8 f9 f10 f11) * lnS (dF px) (dF py) (⟨dF tx0,dF tx1⟩:F2p) (⟨dF ty0,dF ty1⟩:F2p) (⟨dF m0,dF m1⟩:F2p))).p.u.y),q6 (eF (((d12 f0 f1 f2 f3 f4 f5 f6 f7 f8 f9 f10 f11) * lnS (dF px) (dF py) (⟨dF tx0,dF tx1⟩:F2p) (⟨dF ty0,dF ty1⟩:F2p) (⟨dF m0,dF m1⟩:F2p))).q.u.x),q6 (eF (((d12 f0 f1 f2 f3 f4 f5 f6 f7 f8 f9 f10 f11) * lnS (dF px) (dF py) (⟨dF tx0,dF tx1⟩:F2p) (⟨dF ty0,dF ty1⟩:F2p) (⟨dF m0,dF m1⟩:F2p))).q.u.y),q6 (eF (((d12 f0 f1 f2 f3 f4 f5 f6 f7 f8 f9 f10 f11) * lnS (dF px) (dF py) (⟨dF tx0,dF tx1⟩:F2p) (⟨dF ty0,dF ty1⟩:F2p) (⟨dF m0,dF m1⟩:F2p))).p.v.x),q6 (eF (((d12 f0 f1 f2 f3 f4 f5 f6 f7 f8 f9 f10 f11) * lnS (dF px) (dF py) (⟨dF tx0,dF tx1⟩:F2p) (⟨dF ty0,dF ty1⟩:F2p) (⟨dF m0,dF m1⟩:F2p))).p.v.y),q6 (eF (((d12 f0 f1 f2 f3 f4 f5 f6 f7 f8 f9 f10 f11) * lnS (dF px) (dF py) (⟨dF tx0,dF tx1⟩:F2p) (⟨dF ty0,dF ty1⟩:F2p) (⟨dF m0,dF m1⟩:F2p))).q.v.x),q6 (eF (((d12 f0 f1 f2 f3 f4 f5 f6 f7 f8 f9 f10 f11) * lnS (dF px) (dF py) (⟨dF tx0,dF tx1⟩:F2p) (⟨dF ty0,dF ty1⟩:F2p) (⟨dF m0,dF m1⟩:F2p))).q.v.y),q6 (eF (((d12 f0 f1 f2 f3 f4 f5 f6 f7 f8 f9 f10 f11) * lnS (dF px) (dF py) (⟨dF tx0,dF tx1⟩:F2p) (⟨dF ty0,dF ty1⟩:F2p) (⟨dF m0,dF m1⟩:F2p))).p.w.x),q6 (eF (((d12 f0 f1 f2 f3 f4 f5 f6 f7 f8 f9 f10 f11) * lnS (dF px) (dF py) (⟨dF tx0,dF tx1⟩:F2p) (⟨dF ty0,dF ty1⟩:F2p) (⟨dF m0,dF m1⟩:F2p))).p.w.y),q6 (eF (((d12 f0 f1 f2 f3 f4 f5 f6 f7 f8 f9 f10 f11) * lnS (dF px) (dF py) (⟨dF tx0,dF tx1⟩:F2p) (⟨dF ty0,dF ty1⟩:F2p) (⟨dF m0,dF m1⟩:F2p))).q.w.x),q6 (eF (((d12 f0 f1 f2 f3 f4 f5 f6 f7 f8 f9 f10 f11) * lnS (dF px) (dF py) (⟨dF tx0,dF tx1⟩:F2p) (⟨dF ty0,dF ty1⟩:F2p) (⟨dF m0,dF m1⟩:F2p))).q.w.y)]) ?_ (by kernel_rfl)
  exact ⟨as_scaleQ rfl rfl rfl ht1,hm0,hm1,hpx,as_negQ (qE _) (qE _) ht2,lE _,lE _,aMQ (qE _) (qE _) rfl rfl ht3,lE _,lE _,un_lt0,un_lt1,aMQ rfl rfl rfl rfl ht4,hm0,hm1,htx0,htx1,as_subQ (qE _) (qE _) rfl rfl ht5,lE _,lE _,hty0,hty1,aMQ (qE _) (qE _) rfl rfl ht6,lE _,lE _,un_lt0,un_lt1,as_T2 rfl ln_d ht7,hf0,hf1,hf2,hf3,hf4,hf5,hf6,hf7,hf8,hf9,hf10,hf11,hpy,l0Z,l0Z,l0Z,l0Z,l0Z,lE _,lE _,l0Z,l0Z,lE _,lE _,endW_of (cvS rfl (cvS rfl (cvS rfl (cvS rfl (cvS rfl (cvS rfl (cvS rfl (cvS rfl (cvS rfl (cvS rfl (cvS (congrArg (fun q:S12=>nv (eF q.p.u.x)) hE) (cvS (congrArg (fun q:S12=>nv (eF q.p.u.y)) hE) (cvS (congrArg (fun q:S12=>nv (eF q.q.u.x)) hE) (cvS (congrArg (fun q:S12=>nv (eF q.q.u.y)) hE) (cvS (congrArg (fun q:S12=>nv (eF q.p.v.x)) hE) (cvS (congrArg (fun q:S12=>nv (eF q.p.v.y)) hE) (cvS (congrArg (fun q:S12=>nv (eF q.q.v.x)) hE) (cvS (congrArg (fun q:S12=>nv (eF q.q.v.y)) hE) (cvS (congrArg (fun q:S12=>nv (eF q.p.w.x)) hE) (cvS (congrArg (fun q:S12=>nv (eF q.p.w.y)) hE) (cvS (congrArg (fun q:S12=>nv (eF q.q.w.x)) hE) (cvS (congrArg (fun q:S12=>nv (eF q.q.w.y)) hE) (cv_nil)))))))))))))))))))))))⟩
def cStepW (args:List AV) (h:Heap) (slot:Nat):Option (List Prop × AV × Heap) :=
 match args with
 | [.v1 (.sc (.pt b 0)),.v1 (.agg [.ws .u64 6 m0,.ws .u64 6 m1]),.v1 (.agg [.ws .u64 6 o0,.ws .u64 6 o1])]=>match hget h b with
  | some ⟨t0,[.ws .u64 6 px,.ws .u64 6 py,.ws .u64 6 qx0,.ws .u64 6 qx1,.ws .u64 6 qy0,.ws .u64 6 qy1,.ws .u64 6 tx0,.ws .u64 6 tx1,.ws .u64 6 ty0,.ws .u64 6 ty1,.ws .u64 6 f0,.ws .u64 6 f1,.ws .u64 6 f2,.ws .u64 6 f3,.ws .u64 6 f4,.ws .u64 6 f5,.ws .u64 6 f6,.ws .u64 6 f7,.ws .u64 6 f8,.ws .u64 6 f9,.ws .u64 6 f10,.ws .u64 6 f11],0,0⟩=>match Nat.beq t0 167 with
   | true=>some ([nv tx0 < pN,nv tx1 < pN,nv ty0 < pN,nv ty1 < pN,nv m0 < pN,nv m1 < pN,nv o0 < pN,nv o1 < pN],.tup [],hset h b ⟨167,[q6 px,q6 py,q6 qx0,q6 qx1,q6 qy0,q6 qy1,q6 (eF ((stX (⟨dF tx0,dF tx1⟩:F2p) (⟨dF m0,dF m1⟩:F2p) (⟨dF o0,dF o1⟩:F2p))).x),q6 (eF ((stX (⟨dF tx0,dF tx1⟩:F2p) (⟨dF m0,dF m1⟩:F2p) (⟨dF o0,dF o1⟩:F2p))).y),q6 (eF ((stY (⟨dF tx0,dF tx1⟩:F2p) (⟨dF ty0,dF ty1⟩:F2p) (⟨dF m0,dF m1⟩:F2p) (⟨dF o0,dF o1⟩:F2p))).x),q6 (eF ((stY (⟨dF tx0,dF tx1⟩:F2p) (⟨dF ty0,dF ty1⟩:F2p) (⟨dF m0,dF m1⟩:F2p) (⟨dF o0,dF o1⟩:F2p))).y),q6 f0,q6 f1,q6 f2,q6 f3,q6 f4,q6 f5,q6 f6,q6 f7,q6 f8,q6 f9,q6 f10,q6 f11],0,0⟩)
   | false=>none
  | _=>none
 | _=>none
def GSt:Ctx:=ctxL [(112,.pure (q2 mul2x mul2y)),(111,.pure (q2 sub2x sub2y))]
theorem GSt_ok:CtxOk Tryz.prog GSt:=cxC okMul2 <| cxC okSub2 cxN
theorem okStepW:(CallC.mem cStepW).Ok Tryz.prog 176:=by
 intro args h slot pre v h' e hp
 unfold cStepW at e
 split at e
 rotate_left
 ·cases e
 rename_i b m0 m1 o0 o1
 split at e
 rotate_left
 ·cases e
 rename_i t0 px py qx0 qx1 qy0 qy1 tx0 tx1 ty0 ty1 f0 f1 f2 f3 f4 f5 f6 f7 f8 f9 f10 f11 hb0
 split at e
 rotate_left
 ·cases e
 rename_i hty
 cases e
 simp only [Nat.beq_eq] at hty
 subst hty
 have htx0:nv tx0 < pN:=hp _ (by simp)
 have htx1:nv tx1 < pN:=hp _ (by simp)
 have hty0:nv ty0 < pN:=hp _ (by simp)
 have hty1:nv ty1 < pN:=hp _ (by simp)
 have hm0:nv m0 < pN:=hp _ (by simp)
 have hm1:nv m1 < pN:=hp _ (by simp)
 have ho0:nv o0 < pN:=hp _ (by simp)
 have ho1:nv o1 < pN:=hp _ (by simp)
 have hl:=hget_lt hb0
 refine mem_walk tK Tryz.func176 (by kernel_rfl) (by kernel_rfl) [b] [] slot [some ⟨167,[q6 px,q6 py,q6 qx0,q6 qx1,q6 qy0,q6 qy1,q6 tx0,q6 tx1,q6 ty0,q6 ty1,q6 f0,q6 f1,q6 f2,q6 f3,q6 f4,q6 f5,q6 f6,q6 f7,q6 f8,q6 f9,q6 f10,q6 f11],0,0⟩] [some ⟨167,[q6 px,q6 py,q6 qx0,q6 qx1,q6 qy0,q6 qy1,q6 (eF ((stX (⟨dF tx0,dF tx1⟩:F2p) (⟨dF m0,dF m1⟩:F2p) (⟨dF o0,dF o1⟩:F2p))).x),q6 (eF ((stX (⟨dF tx0,dF tx1⟩:F2p) (⟨dF m0,dF m1⟩:F2p) (⟨dF o0,dF o1⟩:F2p))).y),q6 (eF ((stY (⟨dF tx0,dF tx1⟩:F2p) (⟨dF ty0,dF ty1⟩:F2p) (⟨dF m0,dF m1⟩:F2p) (⟨dF o0,dF o1⟩:F2p))).x),q6 (eF ((stY (⟨dF tx0,dF tx1⟩:F2p) (⟨dF ty0,dF ty1⟩:F2p) (⟨dF m0,dF m1⟩:F2p) (⟨dF o0,dF o1⟩:F2p))).y),q6 f0,q6 f1,q6 f2,q6 f3,q6 f4,q6 f5,q6 f6,q6 f7,q6 f8,q6 f9,q6 f10,q6 f11],0,0⟩] (args':=[pt 0 0,.v1 (.agg [q6 m0,q6 m1]),.v1 (.agg [q6 o0,q6 o1])]) (vK:=.tup [])
  (by kernel_rfl) ?_ (by kernel_rfl) ?_ (by kernel_rfl) (fun i hi=>?_) (by kernel_rfl) (by kernel_rfl) (fun i hi=>?_) (by kernel_rfl) ?_ rfl (fun t ht=>by simp at ht) (fun i hi _=>?_) ?_
 ·show [pickB _ (hget h b)] = _
  rw [hb0];rfl
 ·show [AV.v1 (.sc (.pt (bk [b] b) 0)),.v1 (.agg [q6 m0,q6 m1]),.v1 (.agg [q6 o0,q6 o1])] = _
  rw [bk_one]
 ·have:i = 0:=by simpa using hi
  subst this;exact ⟨_,rfl,by simp⟩
 ·have:i = 0:=by simpa using hi
  subst this;exact ⟨_,rfl⟩
 ·show [pickB _ (hget (hset h b _) b)] = _
  rw [hgS hl];rfl
 ·exact hgN fun e=>hi 0 (by simp) e.symm
 ·skip
  obtain ⟨t1,ht1⟩:=exq ((⟨dF m0,dF m1⟩:F2p) * (⟨dF m0,dF m1⟩:F2p))
  obtain ⟨t2,ht2⟩:=exq (t1 - (⟨dF tx0,dF tx1⟩:F2p))
  obtain ⟨t3,ht3⟩:=exq (t2 - (⟨dF o0,dF o1⟩:F2p))
  obtain ⟨t4,ht4⟩:=exq ((⟨dF tx0,dF tx1⟩:F2p) - t3)
  obtain ⟨t5,ht5⟩:=exq ((⟨dF m0,dF m1⟩:F2p) * t4)
  obtain ⟨t6,ht6⟩:=exq (t5 - (⟨dF ty0,dF ty1⟩:F2p))
  have hX:t3 = (stX (⟨dF tx0,dF tx1⟩:F2p) (⟨dF m0,dF m1⟩:F2p) (⟨dF o0,dF o1⟩:F2p)):=by subst ht3 ht2 ht1;rfl
  have hY:t6 = (stY (⟨dF tx0,dF tx1⟩:F2p) (⟨dF ty0,dF ty1⟩:F2p) (⟨dF m0,dF m1⟩:F2p) (⟨dF o0,dF o1⟩:F2p)):=by subst ht6 ht5 ht4;rw [hX];rfl
  refine eSq mxd tK GSt_ok 200 [⟨1,2,.as (eC2 t1)⟩,⟨1,7,.as (eC2 t2)⟩,⟨1,9,.as (eC2 t3)⟩,⟨2,7,.as (eC2 t4)⟩,⟨2,8,.as (eC2 t5)⟩,⟨2,13,.as (eC2 t6)⟩] ?_
  refine same (p:=asP (eD4 mul2x mul2y (dF m0) (dF m1) (dF m0) (dF m1)) (eC2 t1)/\lp m0/\lp m1/\lp m0/\lp m1/\asP (eD4 sub2x sub2y (dF (eF t1.x)) (dF (eF t1.y)) (dF tx0) (dF tx1)) (eC2 t2)/\lp (eF t1.x)/\lp (eF t1.y)/\lp tx0/\lp tx1/\asP (eD4 sub2x sub2y (dF (eF t2.x)) (dF (eF t2.y)) (dF o0) (dF o1)) (eC2 t3)/\lp (eF t2.x)/\lp (eF t2.y)/\lp o0/\lp o1/\asP (eD4 sub2x sub2y (dF tx0) (dF tx1) (dF (eF t3.x)) (dF (eF t3.y))) (eC2 t4)/\lp tx0/\lp tx1/\lp (eF t3.x)/\lp (eF t3.y)/\asP (eD4 mul2x mul2y (dF m0) (dF m1) (dF (eF t4.x)) (dF (eF t4.y))) (eC2 t5)/\lp m0/\lp m1/\lp (eF t4.x)/\lp (eF t4.y)/\asP (eD4 sub2x sub2y (dF (eF t5.x)) (dF (eF t5.y)) (dF ty0) (dF ty1)) (eC2 t6)/\lp (eF t5.x)/\lp (eF t5.y)/\lp ty0/\lp ty1/\endW 167 [q6 px,q6 py,q6 qx0,q6 qx1,q6 qy0,q6 qy1,q6 (eF t3.x),q6 (eF t3.y),q6 (eF t6.x),q6 (eF t6.y),q6 f0,q6 f1,q6 f2,q6 f3,q6 f4,q6 f5,q6 f6,q6 f7,q6 f8,q6 f9,q6 f10,q6 f11] [q6 px,q6 py,q6 qx0,q6 qx1,q6 qy0,q6 qy1,q6 (eF ((stX (⟨dF tx0,dF tx1⟩:F2p) (⟨dF m0,dF m1⟩:F2p) (⟨dF o0,dF o1⟩:F2p))).x),q6 (eF ((stX (⟨dF tx0,dF tx1⟩:F2p) (⟨dF m0,dF m1⟩:F2p) (⟨dF o0,dF o1⟩:F2p))).y),q6 (eF ((stY (⟨dF tx0,dF tx1⟩:F2p) (⟨dF ty0,dF ty1⟩:F2p) (⟨dF m0,dF m1⟩:F2p) (⟨dF o0,dF o1⟩:F2p))).x),q6 (eF ((stY (⟨dF tx0,dF tx1⟩:F2p) (⟨dF ty0,dF ty1⟩:F2p) (⟨dF m0,dF m1⟩:F2p) (⟨dF o0,dF o1⟩:F2p))).y),q6 f0,q6 f1,q6 f2,q6 f3,q6 f4,q6 f5,q6 f6,q6 f7,q6 f8,q6 f9,q6 f10,q6 f11]) ?_ (by kernel_rfl)
  exact ⟨aMQ rfl rfl rfl rfl ht1,hm0,hm1,hm0,hm1,as_subQ (qE _) (qE _) rfl rfl ht2,lE _,lE _,htx0,htx1,as_subQ (qE _) (qE _) rfl rfl ht3,lE _,lE _,ho0,ho1,as_subQ rfl rfl (qE _) (qE _) ht4,htx0,htx1,lE _,lE _,aMQ rfl rfl (qE _) (qE _) ht5,hm0,hm1,lE _,lE _,as_subQ (qE _) (qE _) rfl rfl ht6,lE _,lE _,hty0,hty1,endW_of (cvS rfl (cvS rfl (cvS rfl (cvS rfl (cvS rfl (cvS rfl (cvS (nv_tx hX) (cvS (nv_ty hX) (cvS (nv_tx hY) (cvS (nv_ty hY) (cvS rfl (cvS rfl (cvS rfl (cvS rfl (cvS rfl (cvS rfl (cvS rfl (cvS rfl (cvS rfl (cvS rfl (cvS rfl (cvS rfl (cv_nil)))))))))))))))))))))))⟩
def cTwiceW (args:List AV) (h:Heap) (slot:Nat):Option (List Prop × AV × Heap) :=
 match args with
 | [.v1 (.sc (.pt b 0))]=>match hget h b with
  | some ⟨t0,[.ws .u64 6 px,.ws .u64 6 py,.ws .u64 6 qx0,.ws .u64 6 qx1,.ws .u64 6 qy0,.ws .u64 6 qy1,.ws .u64 6 tx0,.ws .u64 6 tx1,.ws .u64 6 ty0,.ws .u64 6 ty1,.ws .u64 6 f0,.ws .u64 6 f1,.ws .u64 6 f2,.ws .u64 6 f3,.ws .u64 6 f4,.ws .u64 6 f5,.ws .u64 6 f6,.ws .u64 6 f7,.ws .u64 6 f8,.ws .u64 6 f9,.ws .u64 6 f10,.ws .u64 6 f11],0,0⟩=>match Nat.beq t0 167 with
   | true=>some ([nv px < pN,nv py < pN,nv tx0 < pN,nv tx1 < pN,nv ty0 < pN,nv ty1 < pN,nv f0 < pN,nv f1 < pN,nv f2 < pN,nv f3 < pN,nv f4 < pN,nv f5 < pN,nv f6 < pN,nv f7 < pN,nv f8 < pN,nv f9 < pN,nv f10 < pN,nv f11 < pN],.tup [],hset h b ⟨167,[q6 px,q6 py,q6 qx0,q6 qx1,q6 qy0,q6 qy1,q6 (eF ((twW (dF px) (dF py) (⟨(⟨dF tx0,dF tx1⟩:F2p),(⟨dF ty0,dF ty1⟩:F2p),(d12 f0 f1 f2 f3 f4 f5 f6 f7 f8 f9 f10 f11)⟩:WS)).tx).x),q6 (eF ((twW (dF px) (dF py) (⟨(⟨dF tx0,dF tx1⟩:F2p),(⟨dF ty0,dF ty1⟩:F2p),(d12 f0 f1 f2 f3 f4 f5 f6 f7 f8 f9 f10 f11)⟩:WS)).tx).y),q6 (eF ((twW (dF px) (dF py) (⟨(⟨dF tx0,dF tx1⟩:F2p),(⟨dF ty0,dF ty1⟩:F2p),(d12 f0 f1 f2 f3 f4 f5 f6 f7 f8 f9 f10 f11)⟩:WS)).ty).x),q6 (eF ((twW (dF px) (dF py) (⟨(⟨dF tx0,dF tx1⟩:F2p),(⟨dF ty0,dF ty1⟩:F2p),(d12 f0 f1 f2 f3 f4 f5 f6 f7 f8 f9 f10 f11)⟩:WS)).ty).y),q6 (eF ((twW (dF px) (dF py) (⟨(⟨dF tx0,dF tx1⟩:F2p),(⟨dF ty0,dF ty1⟩:F2p),(d12 f0 f1 f2 f3 f4 f5 f6 f7 f8 f9 f10 f11)⟩:WS)).f).p.u.x),q6 (eF ((twW (dF px) (dF py) (⟨(⟨dF tx0,dF tx1⟩:F2p),(⟨dF ty0,dF ty1⟩:F2p),(d12 f0 f1 f2 f3 f4 f5 f6 f7 f8 f9 f10 f11)⟩:WS)).f).p.u.y),q6 (eF ((twW (dF px) (dF py) (⟨(⟨dF tx0,dF tx1⟩:F2p),(⟨dF ty0,dF ty1⟩:F2p),(d12 f0 f1 f2 f3 f4 f5 f6 f7 f8 f9 f10 f11)⟩:WS)).f).q.u.x),q6 (eF ((twW (dF px) (dF py) (⟨(⟨dF tx0,dF tx1⟩:F2p),(⟨dF ty0,dF ty1⟩:F2p),(d12 f0 f1 f2 f3 f4 f5 f6 f7 f8 f9 f10 f11)⟩:WS)).f).q.u.y),q6 (eF ((twW (dF px) (dF py) (⟨(⟨dF tx0,dF tx1⟩:F2p),(⟨dF ty0,dF ty1⟩:F2p),(d12 f0 f1 f2 f3 f4 f5 f6 f7 f8 f9 f10 f11)⟩:WS)).f).p.v.x),q6 (eF ((twW (dF px) (dF py) (⟨(⟨dF tx0,dF tx1⟩:F2p),(⟨dF ty0,dF ty1⟩:F2p),(d12 f0 f1 f2 f3 f4 f5 f6 f7 f8 f9 f10 f11)⟩:WS)).f).p.v.y),q6 (eF ((twW (dF px) (dF py) (⟨(⟨dF tx0,dF tx1⟩:F2p),(⟨dF ty0,dF ty1⟩:F2p),(d12 f0 f1 f2 f3 f4 f5 f6 f7 f8 f9 f10 f11)⟩:WS)).f).q.v.x),q6 (eF ((twW (dF px) (dF py) (⟨(⟨dF tx0,dF tx1⟩:F2p),(⟨dF ty0,dF ty1⟩:F2p),(d12 f0 f1 f2 f3 f4 f5 f6 f7 f8 f9 f10 f11)⟩:WS)).f).q.v.y),q6 (eF ((twW (dF px) (dF py) (⟨(⟨dF tx0,dF tx1⟩:F2p),(⟨dF ty0,dF ty1⟩:F2p),(d12 f0 f1 f2 f3 f4 f5 f6 f7 f8 f9 f10 f11)⟩:WS)).f).p.w.x),q6 (eF ((twW (dF px) (dF py) (⟨(⟨dF tx0,dF tx1⟩:F2p),(⟨dF ty0,dF ty1⟩:F2p),(d12 f0 f1 f2 f3 f4 f5 f6 f7 f8 f9 f10 f11)⟩:WS)).f).p.w.y),q6 (eF ((twW (dF px) (dF py) (⟨(⟨dF tx0,dF tx1⟩:F2p),(⟨dF ty0,dF ty1⟩:F2p),(d12 f0 f1 f2 f3 f4 f5 f6 f7 f8 f9 f10 f11)⟩:WS)).f).q.w.x),q6 (eF ((twW (dF px) (dF py) (⟨(⟨dF tx0,dF tx1⟩:F2p),(⟨dF ty0,dF ty1⟩:F2p),(d12 f0 f1 f2 f3 f4 f5 f6 f7 f8 f9 f10 f11)⟩:WS)).f).q.w.y)],0,0⟩)
   | false=>none
  | _=>none
 | _=>none
def GTwW:Ctx:=ctxL [(112,.pure (q2 mul2x mul2y)),(110,.pure (q2 add2x add2y)),(111,.pure (q2 sub2x sub2y)),(174,.pure csl),(60,.pure (k122 S12.mul)),(175,.mem cLineW),(176,.mem cStepW)]
theorem GTwW_ok:CtxOk Tryz.prog GTwW:=cxC okMul2 <| cxC okAdd2 <| cxC okSub2 <| cxC okSlope <| cxC okMul12 <| cxC okLineW <| cxC okStepW cxN
theorem okTwiceW:(CallC.mem cTwiceW).Ok Tryz.prog 130:=by
 intro args h slot pre v h' e hp
 unfold cTwiceW at e
 split at e
 rotate_left
 ·cases e
 rename_i b
 split at e
 rotate_left
 ·cases e
 rename_i t0 px py qx0 qx1 qy0 qy1 tx0 tx1 ty0 ty1 f0 f1 f2 f3 f4 f5 f6 f7 f8 f9 f10 f11 hb0
 split at e
 rotate_left
 ·cases e
 rename_i hty
 cases e
 simp only [Nat.beq_eq] at hty
 subst hty
 have hpx:nv px < pN:=hp _ (by simp)
 have hpy:nv py < pN:=hp _ (by simp)
 have htx0:nv tx0 < pN:=hp _ (by simp)
 have htx1:nv tx1 < pN:=hp _ (by simp)
 have hty0:nv ty0 < pN:=hp _ (by simp)
 have hty1:nv ty1 < pN:=hp _ (by simp)
 have hf0:nv f0 < pN:=hp _ (by simp)
 have hf1:nv f1 < pN:=hp _ (by simp)
 have hf2:nv f2 < pN:=hp _ (by simp)
 have hf3:nv f3 < pN:=hp _ (by simp)
 have hf4:nv f4 < pN:=hp _ (by simp)
 have hf5:nv f5 < pN:=hp _ (by simp)
 have hf6:nv f6 < pN:=hp _ (by simp)
 have hf7:nv f7 < pN:=hp _ (by simp)
 have hf8:nv f8 < pN:=hp _ (by simp)
 have hf9:nv f9 < pN:=hp _ (by simp)
 have hf10:nv f10 < pN:=hp _ (by simp)
 have hf11:nv f11 < pN:=hp _ (by simp)
 have hl:=hget_lt hb0
 refine mem_walk tK Tryz.func130 (by kernel_rfl) (by kernel_rfl) [b] [] slot [some ⟨167,[q6 px,q6 py,q6 qx0,q6 qx1,q6 qy0,q6 qy1,q6 tx0,q6 tx1,q6 ty0,q6 ty1,q6 f0,q6 f1,q6 f2,q6 f3,q6 f4,q6 f5,q6 f6,q6 f7,q6 f8,q6 f9,q6 f10,q6 f11],0,0⟩] [some ⟨167,[q6 px,q6 py,q6 qx0,q6 qx1,q6 qy0,q6 qy1,q6 (eF ((twW (dF px) (dF py) (⟨(⟨dF tx0,dF tx1⟩:F2p),(⟨dF ty0,dF ty1⟩:F2p),(d12 f0 f1 f2 f3 f4 f5 f6 f7 f8 f9 f10 f11)⟩:WS)).tx).x),q6 (eF ((twW (dF px) (dF py) (⟨(⟨dF tx0,dF tx1⟩:F2p),(⟨dF ty0,dF ty1⟩:F2p),(d12 f0 f1 f2 f3 f4 f5 f6 f7 f8 f9 f10 f11)⟩:WS)).tx).y),q6 (eF ((twW (dF px) (dF py) (⟨(⟨dF tx0,dF tx1⟩:F2p),(⟨dF ty0,dF ty1⟩:F2p),(d12 f0 f1 f2 f3 f4 f5 f6 f7 f8 f9 f10 f11)⟩:WS)).ty).x),q6 (eF ((twW (dF px) (dF py) (⟨(⟨dF tx0,dF tx1⟩:F2p),(⟨dF ty0,dF ty1⟩:F2p),(d12 f0 f1 f2 f3 f4 f5 f6 f7 f8 f9 f10 f11)⟩:WS)).ty).y),q6 (eF ((twW (dF px) (dF py) (⟨(⟨dF tx0,dF tx1⟩:F2p),(⟨dF ty0,dF ty1⟩:F2p),(d12 f0 f1 f2 f3 f4 f5 f6 f7 f8 f9 f10 f11)⟩:WS)).f).p.u.x),q6 (eF ((twW (dF px) (dF py) (⟨(⟨dF tx0,dF tx1⟩:F2p),(⟨dF ty0,dF ty1⟩:F2p),(d12 f0 f1 f2 f3 f4 f5 f6 f7 f8 f9 f10 f11)⟩:WS)).f).p.u.y),q6 (eF ((twW (dF px) (dF py) (⟨(⟨dF tx0,dF tx1⟩:F2p),(⟨dF ty0,dF ty1⟩:F2p),(d12 f0 f1 f2 f3 f4 f5 f6 f7 f8 f9 f10 f11)⟩:WS)).f).q.u.x),q6 (eF ((twW (dF px) (dF py) (⟨(⟨dF tx0,dF tx1⟩:F2p),(⟨dF ty0,dF ty1⟩:F2p),(d12 f0 f1 f2 f3 f4 f5 f6 f7 f8 f9 f10 f11)⟩:WS)).f).q.u.y),q6 (eF ((twW (dF px) (dF py) (⟨(⟨dF tx0,dF tx1⟩:F2p),(⟨dF ty0,dF ty1⟩:F2p),(d12 f0 f1 f2 f3 f4 f5 f6 f7 f8 f9 f10 f11)⟩:WS)).f).p.v.x),q6 (eF ((twW (dF px) (dF py) (⟨(⟨dF tx0,dF tx1⟩:F2p),(⟨dF ty0,dF ty1⟩:F2p),(d12 f0 f1 f2 f3 f4 f5 f6 f7 f8 f9 f10 f11)⟩:WS)).f).p.v.y),q6 (eF ((twW (dF px) (dF py) (⟨(⟨dF tx0,dF tx1⟩:F2p),(⟨dF ty0,dF ty1⟩:F2p),(d12 f0 f1 f2 f3 f4 f5 f6 f7 f8 f9 f10 f11)⟩:WS)).f).q.v.x),q6 (eF ((twW (dF px) (dF py) (⟨(⟨dF tx0,dF tx1⟩:F2p),(⟨dF ty0,dF ty1⟩:F2p),(d12 f0 f1 f2 f3 f4 f5 f6 f7 f8 f9 f10 f11)⟩:WS)).f).q.v.y),q6 (eF ((twW (dF px) (dF py) (⟨(⟨dF tx0,dF tx1⟩:F2p),(⟨dF ty0,dF ty1⟩:F2p),(d12 f0 f1 f2 f3 f4 f5 f6 f7 f8 f9 f10 f11)⟩:WS)).f).p.w.x),q6 (eF ((twW (dF px) (dF py) (⟨(⟨dF tx0,dF tx1⟩:F2p),(⟨dF ty0,dF ty1⟩:F2p),(d12 f0 f1 f2 f3 f4 f5 f6 f7 f8 f9 f10 f11)⟩:WS)).f).p.w.y),q6 (eF ((twW (dF px) (dF py) (⟨(⟨dF tx0,dF tx1⟩:F2p),(⟨dF ty0,dF ty1⟩:F2p),(d12 f0 f1 f2 f3 f4 f5 f6 f7 f8 f9 f10 f11)⟩:WS)).f).q.w.x),q6 (eF ((twW (dF px) (dF py) (⟨(⟨dF tx0,dF tx1⟩:F2p),(⟨dF ty0,dF ty1⟩:F2p),(d12 f0 f1 f2 f3 f4 f5 f6 f7 f8 f9 f10 f11)⟩:WS)).f).q.w.y)],0,0⟩] (args':=[pt 0 0]) (vK:=.tup [])
  (by kernel_rfl) ?_ (by kernel_rfl) ?_ (by kernel_rfl) (fun i hi=>?_) (by kernel_rfl) (by kernel_rfl) (fun i hi=>?_) (by kernel_rfl) ?_ rfl (fun t ht=>by simp at ht) (fun i hi _=>?_) ?_
 ·show [pickB _ (hget h b)] = _
  rw [hb0];rfl
 ·show [AV.v1 (.sc (.pt (bk [b] b) 0))] = _
  rw [bk_one]
 ·have:i = 0:=by simpa using hi
  subst this;exact ⟨_,rfl,by simp⟩
 ·have:i = 0:=by simpa using hi
  subst this;exact ⟨_,rfl⟩
 ·show [pickB _ (hget (hset h b _) b)] = _
  rw [hgS hl];rfl
 ·exact hgN fun e=>hi 0 (by simp) e.symm
 ·skip
  obtain ⟨t1,ht1⟩:=exq ((⟨dF tx0,dF tx1⟩:F2p) * (⟨dF tx0,dF tx1⟩:F2p))
  obtain ⟨t2,ht2⟩:=exq (t1 + t1)
  obtain ⟨t3,ht3⟩:=exq (t2 + t1)
  obtain ⟨t4,ht4⟩:=exq ((⟨dF ty0,dF ty1⟩:F2p) + (⟨dF ty0,dF ty1⟩:F2p))
  obtain ⟨t5,ht5⟩:=exq (slS t3 t4)
  obtain ⟨t6,ht6⟩:=exq ((d12 f0 f1 f2 f3 f4 f5 f6 f7 f8 f9 f10 f11) * (d12 f0 f1 f2 f3 f4 f5 f6 f7 f8 f9 f10 f11))
  have hm:(⟨dF (eF t5.x),dF (eF t5.y)⟩:F2p) = t5:=by rw [qE,qE]
  have hX:(stX (⟨dF tx0,dF tx1⟩:F2p) (⟨dF (eF t5.x),dF (eF t5.y)⟩:F2p) (⟨dF tx0,dF tx1⟩:F2p)) = (twW (dF px) (dF py) (⟨(⟨dF tx0,dF tx1⟩:F2p),(⟨dF ty0,dF ty1⟩:F2p),(d12 f0 f1 f2 f3 f4 f5 f6 f7 f8 f9 f10 f11)⟩:WS)).tx:=by rw [hm];subst ht5 ht4 ht3 ht2 ht1;rfl
  have hY:(stY (⟨dF tx0,dF tx1⟩:F2p) (⟨dF ty0,dF ty1⟩:F2p) (⟨dF (eF t5.x),dF (eF t5.y)⟩:F2p) (⟨dF tx0,dF tx1⟩:F2p)) = (twW (dF px) (dF py) (⟨(⟨dF tx0,dF tx1⟩:F2p),(⟨dF ty0,dF ty1⟩:F2p),(d12 f0 f1 f2 f3 f4 f5 f6 f7 f8 f9 f10 f11)⟩:WS)).ty:=by rw [hm];subst ht5 ht4 ht3 ht2 ht1;rfl
  have hF:((d12 (eF t6.p.u.x) (eF t6.p.u.y) (eF t6.q.u.x) (eF t6.q.u.y) (eF t6.p.v.x) (eF t6.p.v.y) (eF t6.q.v.x) (eF t6.q.v.y) (eF t6.p.w.x) (eF t6.p.w.y) (eF t6.q.w.x) (eF t6.q.w.y)) * lnS (dF px) (dF py) (⟨dF tx0,dF tx1⟩:F2p) (⟨dF ty0,dF ty1⟩:F2p) (⟨dF (eF t5.x),dF (eF t5.y)⟩:F2p)) = (twW (dF px) (dF py) (⟨(⟨dF tx0,dF tx1⟩:F2p),(⟨dF ty0,dF ty1⟩:F2p),(d12 f0 f1 f2 f3 f4 f5 f6 f7 f8 f9 f10 f11)⟩:WS)).f:=by rw [hm,d12_eF];subst ht6 ht5 ht4 ht3 ht2 ht1;rfl
  refine eSq mxd tK GTwW_ok 300 [⟨0,8,.as (eC2 t1)⟩,⟨1,2,.as (eC2 t2)⟩,⟨1,4,.as (eC2 t3)⟩,⟨1,13,.as (eC2 t4)⟩,⟨1,14,.as (eC2 t5)⟩,⟨2,9,.as (eC12 t6)⟩] ?_
  refine same (p:=asP (eD4 mul2x mul2y (dF tx0) (dF tx1) (dF tx0) (dF tx1)) (eC2 t1)/\lp tx0/\lp tx1/\lp tx0/\lp tx1/\asP (eD4 add2x add2y (dF (eF t1.x)) (dF (eF t1.y)) (dF (eF t1.x)) (dF (eF t1.y))) (eC2 t2)/\lp (eF t1.x)/\lp (eF t1.y)/\lp (eF t1.x)/\lp (eF t1.y)/\asP (eD4 add2x add2y (dF (eF t2.x)) (dF (eF t2.y)) (dF (eF t1.x)) (dF (eF t1.y))) (eC2 t3)/\lp (eF t2.x)/\lp (eF t2.y)/\lp (eF t1.x)/\lp (eF t1.y)/\asP (eD4 add2x add2y (dF ty0) (dF ty1) (dF ty0) (dF ty1)) (eC2 t4)/\lp ty0/\lp ty1/\lp ty0/\lp ty1/\asP (eC2 (slS (⟨dF (eF t3.x),dF (eF t3.y)⟩:F2p) (⟨dF (eF t4.x),dF (eF t4.y)⟩:F2p))) (eC2 t5)/\lp (eF t3.x)/\lp (eF t3.y)/\lp (eF t4.x)/\lp (eF t4.y)/\asP (cells12 (S12.mul (d12 f0 f1 f2 f3 f4 f5 f6 f7 f8 f9 f10 f11) (d12 f0 f1 f2 f3 f4 f5 f6 f7 f8 f9 f10 f11))) (eC12 t6)/\lp f0/\lp f1/\lp f2/\lp f3/\lp f4/\lp f5/\lp f6/\lp f7/\lp f8/\lp f9/\lp f10/\lp f11/\lp f0/\lp f1/\lp f2/\lp f3/\lp f4/\lp f5/\lp f6/\lp f7/\lp f8/\lp f9/\lp f10/\lp f11/\lp px/\lp py/\lp tx0/\lp tx1/\lp ty0/\lp ty1/\eL12 t6 (nv (eF t5.x) < pN/\lp (eF t5.y)/\lp tx0/\lp tx1/\lp ty0/\lp ty1/\lp (eF t5.x)/\lp (eF t5.y)/\lp tx0/\lp tx1/\endW 167 [q6 px,q6 py,q6 qx0,q6 qx1,q6 qy0,q6 qy1,q6 (eF ((stX (⟨dF tx0,dF tx1⟩:F2p) (⟨dF (eF t5.x),dF (eF t5.y)⟩:F2p) (⟨dF tx0,dF tx1⟩:F2p))).x),q6 (eF ((stX (⟨dF tx0,dF tx1⟩:F2p) (⟨dF (eF t5.x),dF (eF t5.y)⟩:F2p) (⟨dF tx0,dF tx1⟩:F2p))).y),q6 (eF ((stY (⟨dF tx0,dF tx1⟩:F2p) (⟨dF ty0,dF ty1⟩:F2p) (⟨dF (eF t5.x),dF (eF t5.y)⟩:F2p) (⟨dF tx0,dF tx1⟩:F2p))).x),q6 (eF ((stY (⟨dF tx0,dF tx1⟩:F2p) (⟨dF ty0,dF ty1⟩:F2p) (⟨dF (eF t5.x),dF (eF t5.y)⟩:F2p) (⟨dF tx0,dF tx1⟩:F2p))).y),q6 (eF (((d12e t6) * lnS (dF px) (dF py) (⟨dF tx0,dF tx1⟩:F2p) (⟨dF ty0,dF ty1⟩:F2p) (⟨dF (eF t5.x),dF (eF t5.y)⟩:F2p))).p.u.x),q6 (eF (((d12e t6) * lnS (dF px) (dF py) (⟨dF tx0,dF tx1⟩:F2p) (⟨dF ty0,dF ty1⟩:F2p) (⟨dF (eF t5.x),dF (eF t5.y)⟩:F2p))).p.u.y),q6 (eF (((d12e t6) * lnS (dF px) (dF py) (⟨dF tx0,dF tx1⟩:F2p) (⟨dF ty0,dF ty1⟩:F2p) (⟨dF (eF t5.x),dF (eF t5.y)⟩:F2p))).q.u.x),q6 (eF (((d12e t6) * lnS (dF px) (dF py) (⟨dF tx0,dF tx1⟩:F2p) (⟨dF ty0,dF ty1⟩:F2p) (⟨dF (eF t5.x),dF (eF t5.y)⟩:F2p))).q.u.y),q6 (eF (((d12e t6) * lnS (dF px) (dF py) (⟨dF tx0,dF tx1⟩:F2p) (⟨dF ty0,dF ty1⟩:F2p) (⟨dF (eF t5.x),dF (eF t5.y)⟩:F2p))).p.v.x),q6 (eF (((d12e t6) * lnS (dF px) (dF py) (⟨dF tx0,dF tx1⟩:F2p) (⟨dF ty0,dF ty1⟩:F2p) (⟨dF (eF t5.x),dF (eF t5.y)⟩:F2p))).p.v.y),q6 (eF (((d12e t6) * lnS (dF px) (dF py) (⟨dF tx0,dF tx1⟩:F2p) (⟨dF ty0,dF ty1⟩:F2p) (⟨dF (eF t5.x),dF (eF t5.y)⟩:F2p))).q.v.x),q6 (eF (((d12e t6) * lnS (dF px) (dF py) (⟨dF tx0,dF tx1⟩:F2p) (⟨dF ty0,dF ty1⟩:F2p) (⟨dF (eF t5.x),dF (eF t5.y)⟩:F2p))).q.v.y),q6 (eF (((d12e t6) * lnS (dF px) (dF py) (⟨dF tx0,dF tx1⟩:F2p) (⟨dF ty0,dF ty1⟩:F2p) (⟨dF (eF t5.x),dF (eF t5.y)⟩:F2p))).p.w.x),q6 (eF (((d12e t6) * lnS (dF px) (dF py) (⟨dF tx0,dF tx1⟩:F2p) (⟨dF ty0,dF ty1⟩:F2p) (⟨dF (eF t5.x),dF (eF t5.y)⟩:F2p))).p.w.y),q6 (eF (((d12e t6) * lnS (dF px) (dF py) (⟨dF tx0,dF tx1⟩:F2p) (⟨dF ty0,dF ty1⟩:F2p) (⟨dF (eF t5.x),dF (eF t5.y)⟩:F2p))).q.w.x),q6 (eF (((d12e t6) * lnS (dF px) (dF py) (⟨dF tx0,dF tx1⟩:F2p) (⟨dF ty0,dF ty1⟩:F2p) (⟨dF (eF t5.x),dF (eF t5.y)⟩:F2p))).q.w.y)] [q6 px,q6 py,q6 qx0,q6 qx1,q6 qy0,q6 qy1,q6 (eF ((twW (dF px) (dF py) (⟨(⟨dF tx0,dF tx1⟩:F2p),(⟨dF ty0,dF ty1⟩:F2p),(d12 f0 f1 f2 f3 f4 f5 f6 f7 f8 f9 f10 f11)⟩:WS)).tx).x),q6 (eF ((twW (dF px) (dF py) (⟨(⟨dF tx0,dF tx1⟩:F2p),(⟨dF ty0,dF ty1⟩:F2p),(d12 f0 f1 f2 f3 f4 f5 f6 f7 f8 f9 f10 f11)⟩:WS)).tx).y),q6 (eF ((twW (dF px) (dF py) (⟨(⟨dF tx0,dF tx1⟩:F2p),(⟨dF ty0,dF ty1⟩:F2p),(d12 f0 f1 f2 f3 f4 f5 f6 f7 f8 f9 f10 f11)⟩:WS)).ty).x),q6 (eF ((twW (dF px) (dF py) (⟨(⟨dF tx0,dF tx1⟩:F2p),(⟨dF ty0,dF ty1⟩:F2p),(d12 f0 f1 f2 f3 f4 f5 f6 f7 f8 f9 f10 f11)⟩:WS)).ty).y),q6 (eF ((twW (dF px) (dF py) (⟨(⟨dF tx0,dF tx1⟩:F2p),(⟨dF ty0,dF ty1⟩:F2p),(d12 f0 f1 f2 f3 f4 f5 f6 f7 f8 f9 f10 f11)⟩:WS)).f).p.u.x),q6 (eF ((twW (dF px) (dF py) (⟨(⟨dF tx0,dF tx1⟩:F2p),(⟨dF ty0,dF ty1⟩:F2p),(d12 f0 f1 f2 f3 f4 f5 f6 f7 f8 f9 f10 f11)⟩:WS)).f).p.u.y),q6 (eF ((twW (dF px) (dF py) (⟨(⟨dF tx0,dF tx1⟩:F2p),(⟨dF ty0,dF ty1⟩:F2p),(d12 f0 f1 f2 f3 f4 f5 f6 f7 f8 f9 f10 f11)⟩:WS)).f).q.u.x),q6 (eF ((twW (dF px) (dF py) (⟨(⟨dF tx0,dF tx1⟩:F2p),(⟨dF ty0,dF ty1⟩:F2p),(d12 f0 f1 f2 f3 f4 f5 f6 f7 f8 f9 f10 f11)⟩:WS)).f).q.u.y),q6 (eF ((twW (dF px) (dF py) (⟨(⟨dF tx0,dF tx1⟩:F2p),(⟨dF ty0,dF ty1⟩:F2p),(d12 f0 f1 f2 f3 f4 f5 f6 f7 f8 f9 f10 f11)⟩:WS)).f).p.v.x),q6 (eF ((twW (dF px) (dF py) (⟨(⟨dF tx0,dF tx1⟩:F2p),(⟨dF ty0,dF ty1⟩:F2p),(d12 f0 f1 f2 f3 f4 f5 f6 f7 f8 f9 f10 f11)⟩:WS)).f).p.v.y),q6 (eF ((twW (dF px) (dF py) (⟨(⟨dF tx0,dF tx1⟩:F2p),(⟨dF ty0,dF ty1⟩:F2p),(d12 f0 f1 f2 f3 f4 f5 f6 f7 f8 f9 f10 f11)⟩:WS)).f).q.v.x),q6 (eF ((twW (dF px) (dF py) (⟨(⟨dF tx0,dF tx1⟩:F2p),(⟨dF ty0,dF ty1⟩:F2p),(d12 f0 f1 f2 f3 f4 f5 f6 f7 f8 f9 f10 f11)⟩:WS)).f).q.v.y),q6 (eF ((twW (dF px) (dF py) (⟨(⟨dF tx0,dF tx1⟩:F2p),(⟨dF ty0,dF ty1⟩:F2p),(d12 f0 f1 f2 f3 f4 f5 f6 f7 f8 f9 f10 f11)⟩:WS)).f).p.w.x),q6 (eF ((twW (dF px) (dF py) (⟨(⟨dF tx0,dF tx1⟩:F2p),(⟨dF ty0,dF ty1⟩:F2p),(d12 f0 f1 f2 f3 f4 f5 f6 f7 f8 f9 f10 f11)⟩:WS)).f).p.w.y),q6 (eF ((twW (dF px) (dF py) (⟨(⟨dF tx0,dF tx1⟩:F2p),(⟨dF ty0,dF ty1⟩:F2p),(d12 f0 f1 f2 f3 f4 f5 f6 f7 f8 f9 f10 f11)⟩:WS)).f).q.w.x),q6 (eF ((twW (dF px) (dF py) (⟨(⟨dF tx0,dF tx1⟩:F2p),(⟨dF ty0,dF ty1⟩:F2p),(d12 f0 f1 f2 f3 f4 f5 f6 f7 f8 f9 f10 f11)⟩:WS)).f).q.w.y)])) ?_ (by kernel_rfl)
  exact ⟨aMQ rfl rfl rfl rfl ht1,htx0,htx1,htx0,htx1,as_addQ (qE _) (qE _) (qE _) (qE _) ht2,lE _,lE _,lE _,lE _,as_addQ (qE _) (qE _) (qE _) (qE _) ht3,lE _,lE _,lE _,lE _,as_addQ rfl rfl rfl rfl ht4,hty0,hty1,hty0,hty1,as_slQ (qE _) (qE _) (qE _) (qE _) ht5,lE _,lE _,lE _,lE _,as_T2 rfl rfl ht6,hf0,hf1,hf2,hf3,hf4,hf5,hf6,hf7,hf8,hf9,hf10,hf11,hf0,hf1,hf2,hf3,hf4,hf5,hf6,hf7,hf8,hf9,hf10,hf11,hpx,hpy,htx0,htx1,hty0,hty1,lE _,lE _,lE _,lE _,lE _,lE _,lE _,lE _,lE _,lE _,lE _,lE _,lE _,lE _,htx0,htx1,hty0,hty1,lE _,lE _,htx0,htx1,endW_of (cvS rfl (cvS rfl (cvS rfl (cvS rfl (cvS rfl (cvS rfl (cvS (nv_tx hX) (cvS (nv_ty hX) (cvS (nv_tx hY) (cvS (nv_ty hY) (cvS (congrArg (fun q:S12=>nv (eF q.p.u.x)) hF) (cvS (congrArg (fun q:S12=>nv (eF q.p.u.y)) hF) (cvS (congrArg (fun q:S12=>nv (eF q.q.u.x)) hF) (cvS (congrArg (fun q:S12=>nv (eF q.q.u.y)) hF) (cvS (congrArg (fun q:S12=>nv (eF q.p.v.x)) hF) (cvS (congrArg (fun q:S12=>nv (eF q.p.v.y)) hF) (cvS (congrArg (fun q:S12=>nv (eF q.q.v.x)) hF) (cvS (congrArg (fun q:S12=>nv (eF q.q.v.y)) hF) (cvS (congrArg (fun q:S12=>nv (eF q.p.w.x)) hF) (cvS (congrArg (fun q:S12=>nv (eF q.p.w.y)) hF) (cvS (congrArg (fun q:S12=>nv (eF q.q.w.x)) hF) (cvS (congrArg (fun q:S12=>nv (eF q.q.w.y)) hF) (cv_nil)))))))))))))))))))))))⟩
def cAddW (args:List AV) (h:Heap) (slot:Nat):Option (List Prop × AV × Heap) :=
 match args with
 | [.v1 (.sc (.pt b 0))]=>match hget h b with
  | some ⟨t0,[.ws .u64 6 px,.ws .u64 6 py,.ws .u64 6 qx0,.ws .u64 6 qx1,.ws .u64 6 qy0,.ws .u64 6 qy1,.ws .u64 6 tx0,.ws .u64 6 tx1,.ws .u64 6 ty0,.ws .u64 6 ty1,.ws .u64 6 f0,.ws .u64 6 f1,.ws .u64 6 f2,.ws .u64 6 f3,.ws .u64 6 f4,.ws .u64 6 f5,.ws .u64 6 f6,.ws .u64 6 f7,.ws .u64 6 f8,.ws .u64 6 f9,.ws .u64 6 f10,.ws .u64 6 f11],0,0⟩=>match Nat.beq t0 167 with
   | true=>some ([nv px < pN,nv py < pN,nv qx0 < pN,nv qx1 < pN,nv qy0 < pN,nv qy1 < pN,nv tx0 < pN,nv tx1 < pN,nv ty0 < pN,nv ty1 < pN,nv f0 < pN,nv f1 < pN,nv f2 < pN,nv f3 < pN,nv f4 < pN,nv f5 < pN,nv f6 < pN,nv f7 < pN,nv f8 < pN,nv f9 < pN,nv f10 < pN,nv f11 < pN],.tup [],hset h b ⟨167,[q6 px,q6 py,q6 qx0,q6 qx1,q6 qy0,q6 qy1,q6 (eF ((adW (dF px) (dF py) (⟨dF qx0,dF qx1⟩:F2p) (⟨dF qy0,dF qy1⟩:F2p) (⟨(⟨dF tx0,dF tx1⟩:F2p),(⟨dF ty0,dF ty1⟩:F2p),(d12 f0 f1 f2 f3 f4 f5 f6 f7 f8 f9 f10 f11)⟩:WS)).tx).x),q6 (eF ((adW (dF px) (dF py) (⟨dF qx0,dF qx1⟩:F2p) (⟨dF qy0,dF qy1⟩:F2p) (⟨(⟨dF tx0,dF tx1⟩:F2p),(⟨dF ty0,dF ty1⟩:F2p),(d12 f0 f1 f2 f3 f4 f5 f6 f7 f8 f9 f10 f11)⟩:WS)).tx).y),q6 (eF ((adW (dF px) (dF py) (⟨dF qx0,dF qx1⟩:F2p) (⟨dF qy0,dF qy1⟩:F2p) (⟨(⟨dF tx0,dF tx1⟩:F2p),(⟨dF ty0,dF ty1⟩:F2p),(d12 f0 f1 f2 f3 f4 f5 f6 f7 f8 f9 f10 f11)⟩:WS)).ty).x),q6 (eF ((adW (dF px) (dF py) (⟨dF qx0,dF qx1⟩:F2p) (⟨dF qy0,dF qy1⟩:F2p) (⟨(⟨dF tx0,dF tx1⟩:F2p),(⟨dF ty0,dF ty1⟩:F2p),(d12 f0 f1 f2 f3 f4 f5 f6 f7 f8 f9 f10 f11)⟩:WS)).ty).y),q6 (eF ((adW (dF px) (dF py) (⟨dF qx0,dF qx1⟩:F2p) (⟨dF qy0,dF qy1⟩:F2p) (⟨(⟨dF tx0,dF tx1⟩:F2p),(⟨dF ty0,dF ty1⟩:F2p),(d12 f0 f1 f2 f3 f4 f5 f6 f7 f8 f9 f10 f11)⟩:WS)).f).p.u.x),q6 (eF ((adW (dF px) (dF py) (⟨dF qx0,dF qx1⟩:F2p) (⟨dF qy0,dF qy1⟩:F2p) (⟨(⟨dF tx0,dF tx1⟩:F2p),(⟨dF ty0,dF ty1⟩:F2p),(d12 f0 f1 f2 f3 f4 f5 f6 f7 f8 f9 f10 f11)⟩:WS)).f).p.u.y),q6 (eF ((adW (dF px) (dF py) (⟨dF qx0,dF qx1⟩:F2p) (⟨dF qy0,dF qy1⟩:F2p) (⟨(⟨dF tx0,dF tx1⟩:F2p),(⟨dF ty0,dF ty1⟩:F2p),(d12 f0 f1 f2 f3 f4 f5 f6 f7 f8 f9 f10 f11)⟩:WS)).f).q.u.x),q6 (eF ((adW (dF px) (dF py) (⟨dF qx0,dF qx1⟩:F2p) (⟨dF qy0,dF qy1⟩:F2p) (⟨(⟨dF tx0,dF tx1⟩:F2p),(⟨dF ty0,dF ty1⟩:F2p),(d12 f0 f1 f2 f3 f4 f5 f6 f7 f8 f9 f10 f11)⟩:WS)).f).q.u.y),q6 (eF ((adW (dF px) (dF py) (⟨dF qx0,dF qx1⟩:F2p) (⟨dF qy0,dF qy1⟩:F2p) (⟨(⟨dF tx0,dF tx1⟩:F2p),(⟨dF ty0,dF ty1⟩:F2p),(d12 f0 f1 f2 f3 f4 f5 f6 f7 f8 f9 f10 f11)⟩:WS)).f).p.v.x),q6 (eF ((adW (dF px) (dF py) (⟨dF qx0,dF qx1⟩:F2p) (⟨dF qy0,dF qy1⟩:F2p) (⟨(⟨dF tx0,dF tx1⟩:F2p),(⟨dF ty0,dF ty1⟩:F2p),(d12 f0 f1 f2 f3 f4 f5 f6 f7 f8 f9 f10 f11)⟩:WS)).f).p.v.y),q6 (eF ((adW (dF px) (dF py) (⟨dF qx0,dF qx1⟩:F2p) (⟨dF qy0,dF qy1⟩:F2p) (⟨(⟨dF tx0,dF tx1⟩:F2p),(⟨dF ty0,dF ty1⟩:F2p),(d12 f0 f1 f2 f3 f4 f5 f6 f7 f8 f9 f10 f11)⟩:WS)).f).q.v.x),q6 (eF ((adW (dF px) (dF py) (⟨dF qx0,dF qx1⟩:F2p) (⟨dF qy0,dF qy1⟩:F2p) (⟨(⟨dF tx0,dF tx1⟩:F2p),(⟨dF ty0,dF ty1⟩:F2p),(d12 f0 f1 f2 f3 f4 f5 f6 f7 f8 f9 f10 f11)⟩:WS)).f).q.v.y),q6 (eF ((adW (dF px) (dF py) (⟨dF qx0,dF qx1⟩:F2p) (⟨dF qy0,dF qy1⟩:F2p) (⟨(⟨dF tx0,dF tx1⟩:F2p),(⟨dF ty0,dF ty1⟩:F2p),(d12 f0 f1 f2 f3 f4 f5 f6 f7 f8 f9 f10 f11)⟩:WS)).f).p.w.x),q6 (eF ((adW (dF px) (dF py) (⟨dF qx0,dF qx1⟩:F2p) (⟨dF qy0,dF qy1⟩:F2p) (⟨(⟨dF tx0,dF tx1⟩:F2p),(⟨dF ty0,dF ty1⟩:F2p),(d12 f0 f1 f2 f3 f4 f5 f6 f7 f8 f9 f10 f11)⟩:WS)).f).p.w.y),q6 (eF ((adW (dF px) (dF py) (⟨dF qx0,dF qx1⟩:F2p) (⟨dF qy0,dF qy1⟩:F2p) (⟨(⟨dF tx0,dF tx1⟩:F2p),(⟨dF ty0,dF ty1⟩:F2p),(d12 f0 f1 f2 f3 f4 f5 f6 f7 f8 f9 f10 f11)⟩:WS)).f).q.w.x),q6 (eF ((adW (dF px) (dF py) (⟨dF qx0,dF qx1⟩:F2p) (⟨dF qy0,dF qy1⟩:F2p) (⟨(⟨dF tx0,dF tx1⟩:F2p),(⟨dF ty0,dF ty1⟩:F2p),(d12 f0 f1 f2 f3 f4 f5 f6 f7 f8 f9 f10 f11)⟩:WS)).f).q.w.y)],0,0⟩)
   | false=>none
  | _=>none
 | _=>none
theorem okAddW:(CallC.mem cAddW).Ok Tryz.prog 132:=by
 intro args h slot pre v h' e hp
 unfold cAddW at e
 split at e
 rotate_left
 ·cases e
 rename_i b
 split at e
 rotate_left
 ·cases e
 rename_i t0 px py qx0 qx1 qy0 qy1 tx0 tx1 ty0 ty1 f0 f1 f2 f3 f4 f5 f6 f7 f8 f9 f10 f11 hb0
 split at e
 rotate_left
 ·cases e
 rename_i hty
 cases e
 simp only [Nat.beq_eq] at hty
 subst hty
 have hpx:nv px < pN:=hp _ (by simp)
 have hpy:nv py < pN:=hp _ (by simp)
 have hqx0:nv qx0 < pN:=hp _ (by simp)
 have hqx1:nv qx1 < pN:=hp _ (by simp)
 have hqy0:nv qy0 < pN:=hp _ (by simp)
 have hqy1:nv qy1 < pN:=hp _ (by simp)
 have htx0:nv tx0 < pN:=hp _ (by simp)
 have htx1:nv tx1 < pN:=hp _ (by simp)
 have hty0:nv ty0 < pN:=hp _ (by simp)
 have hty1:nv ty1 < pN:=hp _ (by simp)
 have hf0:nv f0 < pN:=hp _ (by simp)
 have hf1:nv f1 < pN:=hp _ (by simp)
 have hf2:nv f2 < pN:=hp _ (by simp)
 have hf3:nv f3 < pN:=hp _ (by simp)
 have hf4:nv f4 < pN:=hp _ (by simp)
 have hf5:nv f5 < pN:=hp _ (by simp)
 have hf6:nv f6 < pN:=hp _ (by simp)
 have hf7:nv f7 < pN:=hp _ (by simp)
 have hf8:nv f8 < pN:=hp _ (by simp)
 have hf9:nv f9 < pN:=hp _ (by simp)
 have hf10:nv f10 < pN:=hp _ (by simp)
 have hf11:nv f11 < pN:=hp _ (by simp)
 have hl:=hget_lt hb0
 refine mem_walk tK Tryz.func132 (by kernel_rfl) (by kernel_rfl) [b] [] slot [some ⟨167,[q6 px,q6 py,q6 qx0,q6 qx1,q6 qy0,q6 qy1,q6 tx0,q6 tx1,q6 ty0,q6 ty1,q6 f0,q6 f1,q6 f2,q6 f3,q6 f4,q6 f5,q6 f6,q6 f7,q6 f8,q6 f9,q6 f10,q6 f11],0,0⟩] [some ⟨167,[q6 px,q6 py,q6 qx0,q6 qx1,q6 qy0,q6 qy1,q6 (eF ((adW (dF px) (dF py) (⟨dF qx0,dF qx1⟩:F2p) (⟨dF qy0,dF qy1⟩:F2p) (⟨(⟨dF tx0,dF tx1⟩:F2p),(⟨dF ty0,dF ty1⟩:F2p),(d12 f0 f1 f2 f3 f4 f5 f6 f7 f8 f9 f10 f11)⟩:WS)).tx).x),q6 (eF ((adW (dF px) (dF py) (⟨dF qx0,dF qx1⟩:F2p) (⟨dF qy0,dF qy1⟩:F2p) (⟨(⟨dF tx0,dF tx1⟩:F2p),(⟨dF ty0,dF ty1⟩:F2p),(d12 f0 f1 f2 f3 f4 f5 f6 f7 f8 f9 f10 f11)⟩:WS)).tx).y),q6 (eF ((adW (dF px) (dF py) (⟨dF qx0,dF qx1⟩:F2p) (⟨dF qy0,dF qy1⟩:F2p) (⟨(⟨dF tx0,dF tx1⟩:F2p),(⟨dF ty0,dF ty1⟩:F2p),(d12 f0 f1 f2 f3 f4 f5 f6 f7 f8 f9 f10 f11)⟩:WS)).ty).x),q6 (eF ((adW (dF px) (dF py) (⟨dF qx0,dF qx1⟩:F2p) (⟨dF qy0,dF qy1⟩:F2p) (⟨(⟨dF tx0,dF tx1⟩:F2p),(⟨dF ty0,dF ty1⟩:F2p),(d12 f0 f1 f2 f3 f4 f5 f6 f7 f8 f9 f10 f11)⟩:WS)).ty).y),q6 (eF ((adW (dF px) (dF py) (⟨dF qx0,dF qx1⟩:F2p) (⟨dF qy0,dF qy1⟩:F2p) (⟨(⟨dF tx0,dF tx1⟩:F2p),(⟨dF ty0,dF ty1⟩:F2p),(d12 f0 f1 f2 f3 f4 f5 f6 f7 f8 f9 f10 f11)⟩:WS)).f).p.u.x),q6 (eF ((adW (dF px) (dF py) (⟨dF qx0,dF qx1⟩:F2p) (⟨dF qy0,dF qy1⟩:F2p) (⟨(⟨dF tx0,dF tx1⟩:F2p),(⟨dF ty0,dF ty1⟩:F2p),(d12 f0 f1 f2 f3 f4 f5 f6 f7 f8 f9 f10 f11)⟩:WS)).f).p.u.y),q6 (eF ((adW (dF px) (dF py) (⟨dF qx0,dF qx1⟩:F2p) (⟨dF qy0,dF qy1⟩:F2p) (⟨(⟨dF tx0,dF tx1⟩:F2p),(⟨dF ty0,dF ty1⟩:F2p),(d12 f0 f1 f2 f3 f4 f5 f6 f7 f8 f9 f10 f11)⟩:WS)).f).q.u.x),q6 (eF ((adW (dF px) (dF py) (⟨dF qx0,dF qx1⟩:F2p) (⟨dF qy0,dF qy1⟩:F2p) (⟨(⟨dF tx0,dF tx1⟩:F2p),(⟨dF ty0,dF ty1⟩:F2p),(d12 f0 f1 f2 f3 f4 f5 f6 f7 f8 f9 f10 f11)⟩:WS)).f).q.u.y),q6 (eF ((adW (dF px) (dF py) (⟨dF qx0,dF qx1⟩:F2p) (⟨dF qy0,dF qy1⟩:F2p) (⟨(⟨dF tx0,dF tx1⟩:F2p),(⟨dF ty0,dF ty1⟩:F2p),(d12 f0 f1 f2 f3 f4 f5 f6 f7 f8 f9 f10 f11)⟩:WS)).f).p.v.x),q6 (eF ((adW (dF px) (dF py) (⟨dF qx0,dF qx1⟩:F2p) (⟨dF qy0,dF qy1⟩:F2p) (⟨(⟨dF tx0,dF tx1⟩:F2p),(⟨dF ty0,dF ty1⟩:F2p),(d12 f0 f1 f2 f3 f4 f5 f6 f7 f8 f9 f10 f11)⟩:WS)).f).p.v.y),q6 (eF ((adW (dF px) (dF py) (⟨dF qx0,dF qx1⟩:F2p) (⟨dF qy0,dF qy1⟩:F2p) (⟨(⟨dF tx0,dF tx1⟩:F2p),(⟨dF ty0,dF ty1⟩:F2p),(d12 f0 f1 f2 f3 f4 f5 f6 f7 f8 f9 f10 f11)⟩:WS)).f).q.v.x),q6 (eF ((adW (dF px) (dF py) (⟨dF qx0,dF qx1⟩:F2p) (⟨dF qy0,dF qy1⟩:F2p) (⟨(⟨dF tx0,dF tx1⟩:F2p),(⟨dF ty0,dF ty1⟩:F2p),(d12 f0 f1 f2 f3 f4 f5 f6 f7 f8 f9 f10 f11)⟩:WS)).f).q.v.y),q6 (eF ((adW (dF px) (dF py) (⟨dF qx0,dF qx1⟩:F2p) (⟨dF qy0,dF qy1⟩:F2p) (⟨(⟨dF tx0,dF tx1⟩:F2p),(⟨dF ty0,dF ty1⟩:F2p),(d12 f0 f1 f2 f3 f4 f5 f6 f7 f8 f9 f10 f11)⟩:WS)).f).p.w.x),q6 (eF ((adW (dF px) (dF py) (⟨dF qx0,dF qx1⟩:F2p) (⟨dF qy0,dF qy1⟩:F2p) (⟨(⟨dF tx0,dF tx1⟩:F2p),(⟨dF ty0,dF ty1⟩:F2p),(d12 f0 f1 f2 f3 f4 f5 f6 f7 f8 f9 f10 f11)⟩:WS)).f).p.w.y),q6 (eF ((adW (dF px) (dF py) (⟨dF qx0,dF qx1⟩:F2p) (⟨dF qy0,dF qy1⟩:F2p) (⟨(⟨dF tx0,dF tx1⟩:F2p),(⟨dF ty0,dF ty1⟩:F2p),(d12 f0 f1 f2 f3 f4 f5 f6 f7 f8 f9 f10 f11)⟩:WS)).f).q.w.x),q6 (eF ((adW (dF px) (dF py) (⟨dF qx0,dF qx1⟩:F2p) (⟨dF qy0,dF qy1⟩:F2p) (⟨(⟨dF tx0,dF tx1⟩:F2p),(⟨dF ty0,dF ty1⟩:F2p),(d12 f0 f1 f2 f3 f4 f5 f6 f7 f8 f9 f10 f11)⟩:WS)).f).q.w.y)],0,0⟩] (args':=[pt 0 0]) (vK:=.tup [])
  (by kernel_rfl) ?_ (by kernel_rfl) ?_ (by kernel_rfl) (fun i hi=>?_) (by kernel_rfl) (by kernel_rfl) (fun i hi=>?_) (by kernel_rfl) ?_ rfl (fun t ht=>by simp at ht) (fun i hi _=>?_) ?_
 ·show [pickB _ (hget h b)] = _
  rw [hb0];rfl
 ·show [AV.v1 (.sc (.pt (bk [b] b) 0))] = _
  rw [bk_one]
 ·have:i = 0:=by simpa using hi
  subst this;exact ⟨_,rfl,by simp⟩
 ·have:i = 0:=by simpa using hi
  subst this;exact ⟨_,rfl⟩
 ·show [pickB _ (hget (hset h b _) b)] = _
  rw [hgS hl];rfl
 ·exact hgN fun e=>hi 0 (by simp) e.symm
 ·skip
  obtain ⟨t1,ht1⟩:=exq ((⟨dF qy0,dF qy1⟩:F2p) - (⟨dF ty0,dF ty1⟩:F2p))
  obtain ⟨t2,ht2⟩:=exq ((⟨dF qx0,dF qx1⟩:F2p) - (⟨dF tx0,dF tx1⟩:F2p))
  obtain ⟨t3,ht3⟩:=exq (slS t1 t2)
  have hm:(⟨dF (eF t3.x),dF (eF t3.y)⟩:F2p) = t3:=by rw [qE,qE]
  have hX:(stX (⟨dF tx0,dF tx1⟩:F2p) (⟨dF (eF t3.x),dF (eF t3.y)⟩:F2p) (⟨dF qx0,dF qx1⟩:F2p)) = (adW (dF px) (dF py) (⟨dF qx0,dF qx1⟩:F2p) (⟨dF qy0,dF qy1⟩:F2p) (⟨(⟨dF tx0,dF tx1⟩:F2p),(⟨dF ty0,dF ty1⟩:F2p),(d12 f0 f1 f2 f3 f4 f5 f6 f7 f8 f9 f10 f11)⟩:WS)).tx:=by rw [hm];subst ht3 ht2 ht1;rfl
  have hY:(stY (⟨dF tx0,dF tx1⟩:F2p) (⟨dF ty0,dF ty1⟩:F2p) (⟨dF (eF t3.x),dF (eF t3.y)⟩:F2p) (⟨dF qx0,dF qx1⟩:F2p)) = (adW (dF px) (dF py) (⟨dF qx0,dF qx1⟩:F2p) (⟨dF qy0,dF qy1⟩:F2p) (⟨(⟨dF tx0,dF tx1⟩:F2p),(⟨dF ty0,dF ty1⟩:F2p),(d12 f0 f1 f2 f3 f4 f5 f6 f7 f8 f9 f10 f11)⟩:WS)).ty:=by rw [hm];subst ht3 ht2 ht1;rfl
  have hF:((d12 f0 f1 f2 f3 f4 f5 f6 f7 f8 f9 f10 f11) * lnS (dF px) (dF py) (⟨dF tx0,dF tx1⟩:F2p) (⟨dF ty0,dF ty1⟩:F2p) (⟨dF (eF t3.x),dF (eF t3.y)⟩:F2p)) = (adW (dF px) (dF py) (⟨dF qx0,dF qx1⟩:F2p) (⟨dF qy0,dF qy1⟩:F2p) (⟨(⟨dF tx0,dF tx1⟩:F2p),(⟨dF ty0,dF ty1⟩:F2p),(d12 f0 f1 f2 f3 f4 f5 f6 f7 f8 f9 f10 f11)⟩:WS)).f:=by rw [hm];subst ht3 ht2 ht1;rfl
  refine eSq mxd tK GTwW_ok 300 [⟨0,8,.as (eC2 t1)⟩,⟨0,17,.as (eC2 t2)⟩,⟨0,18,.as (eC2 t3)⟩] ?_
  refine same (p:=asP (eD4 sub2x sub2y (dF qy0) (dF qy1) (dF ty0) (dF ty1)) (eC2 t1)/\lp qy0/\lp qy1/\lp ty0/\lp ty1/\asP (eD4 sub2x sub2y (dF qx0) (dF qx1) (dF tx0) (dF tx1)) (eC2 t2)/\lp qx0/\lp qx1/\lp tx0/\lp tx1/\asP (eC2 (slS (⟨dF (eF t1.x),dF (eF t1.y)⟩:F2p) (⟨dF (eF t2.x),dF (eF t2.y)⟩:F2p))) (eC2 t3)/\lp (eF t1.x)/\lp (eF t1.y)/\lp (eF t2.x)/\lp (eF t2.y)/\lp px/\lp py/\lp tx0/\lp tx1/\lp ty0/\lp ty1/\lp f0/\lp f1/\lp f2/\lp f3/\lp f4/\lp f5/\lp f6/\lp f7/\lp f8/\lp f9/\lp f10/\lp f11/\lp (eF t3.x)/\lp (eF t3.y)/\lp tx0/\lp tx1/\lp ty0/\lp ty1/\lp (eF t3.x)/\lp (eF t3.y)/\lp qx0/\lp qx1/\endW 167 [q6 px,q6 py,q6 qx0,q6 qx1,q6 qy0,q6 qy1,q6 (eF ((stX (⟨dF tx0,dF tx1⟩:F2p) (⟨dF (eF t3.x),dF (eF t3.y)⟩:F2p) (⟨dF qx0,dF qx1⟩:F2p))).x),q6 (eF ((stX (⟨dF tx0,dF tx1⟩:F2p) (⟨dF (eF t3.x),dF (eF t3.y)⟩:F2p) (⟨dF qx0,dF qx1⟩:F2p))).y),q6 (eF ((stY (⟨dF tx0,dF tx1⟩:F2p) (⟨dF ty0,dF ty1⟩:F2p) (⟨dF (eF t3.x),dF (eF t3.y)⟩:F2p) (⟨dF qx0,dF qx1⟩:F2p))).x),q6 (eF ((stY (⟨dF tx0,dF tx1⟩:F2p) (⟨dF ty0,dF ty1⟩:F2p) (⟨dF (eF t3.x),dF (eF t3.y)⟩:F2p) (⟨dF qx0,dF qx1⟩:F2p))).y),q6 (eF (((d12 f0 f1 f2 f3 f4 f5 f6 f7 f8 f9 f10 f11) * lnS (dF px) (dF py) (⟨dF tx0,dF tx1⟩:F2p) (⟨dF ty0,dF ty1⟩:F2p) (⟨dF (eF t3.x),dF (eF t3.y)⟩:F2p))).p.u.x),q6 (eF (((d12 f0 f1 f2 f3 f4 f5 f6 f7 f8 f9 f10 f11) * lnS (dF px) (dF py) (⟨dF tx0,dF tx1⟩:F2p) (⟨dF ty0,dF ty1⟩:F2p) (⟨dF (eF t3.x),dF (eF t3.y)⟩:F2p))).p.u.y),q6 (eF (((d12 f0 f1 f2 f3 f4 f5 f6 f7 f8 f9 f10 f11) * lnS (dF px) (dF py) (⟨dF tx0,dF tx1⟩:F2p) (⟨dF ty0,dF ty1⟩:F2p) (⟨dF (eF t3.x),dF (eF t3.y)⟩:F2p))).q.u.x),q6 (eF (((d12 f0 f1 f2 f3 f4 f5 f6 f7 f8 f9 f10 f11) * lnS (dF px) (dF py) (⟨dF tx0,dF tx1⟩:F2p) (⟨dF ty0,dF ty1⟩:F2p) (⟨dF (eF t3.x),dF (eF t3.y)⟩:F2p))).q.u.y),q6 (eF (((d12 f0 f1 f2 f3 f4 f5 f6 f7 f8 f9 f10 f11) * lnS (dF px) (dF py) (⟨dF tx0,dF tx1⟩:F2p) (⟨dF ty0,dF ty1⟩:F2p) (⟨dF (eF t3.x),dF (eF t3.y)⟩:F2p))).p.v.x),q6 (eF (((d12 f0 f1 f2 f3 f4 f5 f6 f7 f8 f9 f10 f11) * lnS (dF px) (dF py) (⟨dF tx0,dF tx1⟩:F2p) (⟨dF ty0,dF ty1⟩:F2p) (⟨dF (eF t3.x),dF (eF t3.y)⟩:F2p))).p.v.y),q6 (eF (((d12 f0 f1 f2 f3 f4 f5 f6 f7 f8 f9 f10 f11) * lnS (dF px) (dF py) (⟨dF tx0,dF tx1⟩:F2p) (⟨dF ty0,dF ty1⟩:F2p) (⟨dF (eF t3.x),dF (eF t3.y)⟩:F2p))).q.v.x),q6 (eF (((d12 f0 f1 f2 f3 f4 f5 f6 f7 f8 f9 f10 f11) * lnS (dF px) (dF py) (⟨dF tx0,dF tx1⟩:F2p) (⟨dF ty0,dF ty1⟩:F2p) (⟨dF (eF t3.x),dF (eF t3.y)⟩:F2p))).q.v.y),q6 (eF (((d12 f0 f1 f2 f3 f4 f5 f6 f7 f8 f9 f10 f11) * lnS (dF px) (dF py) (⟨dF tx0,dF tx1⟩:F2p) (⟨dF ty0,dF ty1⟩:F2p) (⟨dF (eF t3.x),dF (eF t3.y)⟩:F2p))).p.w.x),q6 (eF (((d12 f0 f1 f2 f3 f4 f5 f6 f7 f8 f9 f10 f11) * lnS (dF px) (dF py) (⟨dF tx0,dF tx1⟩:F2p) (⟨dF ty0,dF ty1⟩:F2p) (⟨dF (eF t3.x),dF (eF t3.y)⟩:F2p))).p.w.y),q6 (eF (((d12 f0 f1 f2 f3 f4 f5 f6 f7 f8 f9 f10 f11) * lnS (dF px) (dF py) (⟨dF tx0,dF tx1⟩:F2p) (⟨dF ty0,dF ty1⟩:F2p) (⟨dF (eF t3.x),dF (eF t3.y)⟩:F2p))).q.w.x),q6 (eF (((d12 f0 f1 f2 f3 f4 f5 f6 f7 f8 f9 f10 f11) * lnS (dF px) (dF py) (⟨dF tx0,dF tx1⟩:F2p) (⟨dF ty0,dF ty1⟩:F2p) (⟨dF (eF t3.x),dF (eF t3.y)⟩:F2p))).q.w.y)] [q6 px,q6 py,q6 qx0,q6 qx1,q6 qy0,q6 qy1,q6 (eF ((adW (dF px) (dF py) (⟨dF qx0,dF qx1⟩:F2p) (⟨dF qy0,dF qy1⟩:F2p) (⟨(⟨dF tx0,dF tx1⟩:F2p),(⟨dF ty0,dF ty1⟩:F2p),(d12 f0 f1 f2 f3 f4 f5 f6 f7 f8 f9 f10 f11)⟩:WS)).tx).x),q6 (eF ((adW (dF px) (dF py) (⟨dF qx0,dF qx1⟩:F2p) (⟨dF qy0,dF qy1⟩:F2p) (⟨(⟨dF tx0,dF tx1⟩:F2p),(⟨dF ty0,dF ty1⟩:F2p),(d12 f0 f1 f2 f3 f4 f5 f6 f7 f8 f9 f10 f11)⟩:WS)).tx).y),q6 (eF ((adW (dF px) (dF py) (⟨dF qx0,dF qx1⟩:F2p) (⟨dF qy0,dF qy1⟩:F2p) (⟨(⟨dF tx0,dF tx1⟩:F2p),(⟨dF ty0,dF ty1⟩:F2p),(d12 f0 f1 f2 f3 f4 f5 f6 f7 f8 f9 f10 f11)⟩:WS)).ty).x),q6 (eF ((adW (dF px) (dF py) (⟨dF qx0,dF qx1⟩:F2p) (⟨dF qy0,dF qy1⟩:F2p) (⟨(⟨dF tx0,dF tx1⟩:F2p),(⟨dF ty0,dF ty1⟩:F2p),(d12 f0 f1 f2 f3 f4 f5 f6 f7 f8 f9 f10 f11)⟩:WS)).ty).y),q6 (eF ((adW (dF px) (dF py) (⟨dF qx0,dF qx1⟩:F2p) (⟨dF qy0,dF qy1⟩:F2p) (⟨(⟨dF tx0,dF tx1⟩:F2p),(⟨dF ty0,dF ty1⟩:F2p),(d12 f0 f1 f2 f3 f4 f5 f6 f7 f8 f9 f10 f11)⟩:WS)).f).p.u.x),q6 (eF ((adW (dF px) (dF py) (⟨dF qx0,dF qx1⟩:F2p) (⟨dF qy0,dF qy1⟩:F2p) (⟨(⟨dF tx0,dF tx1⟩:F2p),(⟨dF ty0,dF ty1⟩:F2p),(d12 f0 f1 f2 f3 f4 f5 f6 f7 f8 f9 f10 f11)⟩:WS)).f).p.u.y),q6 (eF ((adW (dF px) (dF py) (⟨dF qx0,dF qx1⟩:F2p) (⟨dF qy0,dF qy1⟩:F2p) (⟨(⟨dF tx0,dF tx1⟩:F2p),(⟨dF ty0,dF ty1⟩:F2p),(d12 f0 f1 f2 f3 f4 f5 f6 f7 f8 f9 f10 f11)⟩:WS)).f).q.u.x),q6 (eF ((adW (dF px) (dF py) (⟨dF qx0,dF qx1⟩:F2p) (⟨dF qy0,dF qy1⟩:F2p) (⟨(⟨dF tx0,dF tx1⟩:F2p),(⟨dF ty0,dF ty1⟩:F2p),(d12 f0 f1 f2 f3 f4 f5 f6 f7 f8 f9 f10 f11)⟩:WS)).f).q.u.y),q6 (eF ((adW (dF px) (dF py) (⟨dF qx0,dF qx1⟩:F2p) (⟨dF qy0,dF qy1⟩:F2p) (⟨(⟨dF tx0,dF tx1⟩:F2p),(⟨dF ty0,dF ty1⟩:F2p),(d12 f0 f1 f2 f3 f4 f5 f6 f7 f8 f9 f10 f11)⟩:WS)).f).p.v.x),q6 (eF ((adW (dF px) (dF py) (⟨dF qx0,dF qx1⟩:F2p) (⟨dF qy0,dF qy1⟩:F2p) (⟨(⟨dF tx0,dF tx1⟩:F2p),(⟨dF ty0,dF ty1⟩:F2p),(d12 f0 f1 f2 f3 f4 f5 f6 f7 f8 f9 f10 f11)⟩:WS)).f).p.v.y),q6 (eF ((adW (dF px) (dF py) (⟨dF qx0,dF qx1⟩:F2p) (⟨dF qy0,dF qy1⟩:F2p) (⟨(⟨dF tx0,dF tx1⟩:F2p),(⟨dF ty0,dF ty1⟩:F2p),(d12 f0 f1 f2 f3 f4 f5 f6 f7 f8 f9 f10 f11)⟩:WS)).f).q.v.x),q6 (eF ((adW (dF px) (dF py) (⟨dF qx0,dF qx1⟩:F2p) (⟨dF qy0,dF qy1⟩:F2p) (⟨(⟨dF tx0,dF tx1⟩:F2p),(⟨dF ty0,dF ty1⟩:F2p),(d12 f0 f1 f2 f3 f4 f5 f6 f7 f8 f9 f10 f11)⟩:WS)).f).q.v.y),q6 (eF ((adW (dF px) (dF py) (⟨dF qx0,dF qx1⟩:F2p) (⟨dF qy0,dF qy1⟩:F2p) (⟨(⟨dF tx0,dF tx1⟩:F2p),(⟨dF ty0,dF ty1⟩:F2p),(d12 f0 f1 f2 f3 f4 f5 f6 f7 f8 f9 f10 f11)⟩:WS)).f).p.w.x),q6 (eF ((adW (dF px) (dF py) (⟨dF qx0,dF qx1⟩:F2p) (⟨dF qy0,dF qy1⟩:F2p) (⟨(⟨dF tx0,dF tx1⟩:F2p),(⟨dF ty0,dF ty1⟩:F2p),(d12 f0 f1 f2 f3 f4 f5 f6 f7 f8 f9 f10 f11)⟩:WS)).f).p.w.y),q6 (eF ((adW (dF px) (dF py) (⟨dF qx0,dF qx1⟩:F2p) (⟨dF qy0,dF qy1⟩:F2p) (⟨(⟨dF tx0,dF tx1⟩:F2p),(⟨dF ty0,dF ty1⟩:F2p),(d12 f0 f1 f2 f3 f4 f5 f6 f7 f8 f9 f10 f11)⟩:WS)).f).q.w.x),q6 (eF ((adW (dF px) (dF py) (⟨dF qx0,dF qx1⟩:F2p) (⟨dF qy0,dF qy1⟩:F2p) (⟨(⟨dF tx0,dF tx1⟩:F2p),(⟨dF ty0,dF ty1⟩:F2p),(d12 f0 f1 f2 f3 f4 f5 f6 f7 f8 f9 f10 f11)⟩:WS)).f).q.w.y)]) ?_ (by kernel_rfl)
  exact ⟨as_subQ rfl rfl rfl rfl ht1,hqy0,hqy1,hty0,hty1,as_subQ rfl rfl rfl rfl ht2,hqx0,hqx1,htx0,htx1,as_slQ (qE _) (qE _) (qE _) (qE _) ht3,lE _,lE _,lE _,lE _,hpx,hpy,htx0,htx1,hty0,hty1,hf0,hf1,hf2,hf3,hf4,hf5,hf6,hf7,hf8,hf9,hf10,hf11,lE _,lE _,htx0,htx1,hty0,hty1,lE _,lE _,hqx0,hqx1,endW_of (cvS rfl (cvS rfl (cvS rfl (cvS rfl (cvS rfl (cvS rfl (cvS (nv_tx hX) (cvS (nv_ty hX) (cvS (nv_tx hY) (cvS (nv_ty hY) (cvS (congrArg (fun q:S12=>nv (eF q.p.u.x)) hF) (cvS (congrArg (fun q:S12=>nv (eF q.p.u.y)) hF) (cvS (congrArg (fun q:S12=>nv (eF q.q.u.x)) hF) (cvS (congrArg (fun q:S12=>nv (eF q.q.u.y)) hF) (cvS (congrArg (fun q:S12=>nv (eF q.p.v.x)) hF) (cvS (congrArg (fun q:S12=>nv (eF q.p.v.y)) hF) (cvS (congrArg (fun q:S12=>nv (eF q.q.v.x)) hF) (cvS (congrArg (fun q:S12=>nv (eF q.q.v.y)) hF) (cvS (congrArg (fun q:S12=>nv (eF q.p.w.x)) hF) (cvS (congrArg (fun q:S12=>nv (eF q.p.w.y)) hF) (cvS (congrArg (fun q:S12=>nv (eF q.q.w.x)) hF) (cvS (congrArg (fun q:S12=>nv (eF q.q.w.y)) hF) (cv_nil)))))))))))))))))))))))⟩
def of16 (a0 a1 a2 a3 a4 a5 a6 a7 a8 a9 a10 a11 a12 a13 a14 a15:Nat->Nat):Nat->Nat->Nat
 | 0=>a0
 | 1=>a1
 | 2=>a2
 | 3=>a3
 | 4=>a4
 | 5=>a5
 | 6=>a6
 | 7=>a7
 | 8=>a8
 | 9=>a9
 | 10=>a10
 | 11=>a11
 | 12=>a12
 | 13=>a13
 | 14=>a14
 | _=>a15
def JvW (g:Nat->Nat->Nat):WS:=⟨⟨dF (g 0),dF (g 1)⟩,⟨dF (g 2),dF (g 3)⟩,d12 (g 4) (g 5) (g 6) (g 7) (g 8) (g 9) (g 10) (g 11) (g 12) (g 13) (g 14) (g 15)⟩
def selW (s:WS):Nat->Nat->Nat:=of16 (eF s.tx.x) (eF s.tx.y) (eF s.ty.x) (eF s.ty.y) (eF s.f.p.u.x) (eF s.f.p.u.y) (eF s.f.q.u.x) (eF s.f.q.u.y) (eF s.f.p.v.x) (eF s.f.p.v.y) (eF s.f.q.v.x) (eF s.f.q.v.y) (eF s.f.p.w.x) (eF s.f.p.w.y) (eF s.f.q.w.x) (eF s.f.q.w.y)
theorem JvW_sel (s:WS):JvW (selW s) = s:=by
 show (⟨⟨dF (eF s.tx.x),dF (eF s.tx.y)⟩,⟨dF (eF s.ty.x),dF (eF s.ty.y)⟩,d12 (eF s.f.p.u.x) (eF s.f.p.u.y) (eF s.f.q.u.x) (eF s.f.q.u.y) (eF s.f.p.v.x) (eF s.f.p.v.y) (eF s.f.q.v.x) (eF s.f.q.v.y) (eF s.f.p.w.x) (eF s.f.p.w.y) (eF s.f.q.w.x) (eF s.f.q.w.y)⟩:WS) = s
 rw [qE,qE,qE,qE,d12_eF]
def LtW (g:Nat->Nat->Nat):Prop:=nv (g 0) < pN/\nv (g 1) < pN/\nv (g 2) < pN/\nv (g 3) < pN/\nv (g 4) < pN/\nv (g 5) < pN/\nv (g 6) < pN/\nv (g 7) < pN/\nv (g 8) < pN/\nv (g 9) < pN/\nv (g 10) < pN/\nv (g 11) < pN/\nv (g 12) < pN/\nv (g 13) < pN/\nv (g 14) < pN/\nv (g 15) < pN
theorem LtW_sel (s:WS):LtW (selW s):=⟨lE _,lE _,lE _,lE _,lE _,lE _,lE _,lE _,lE _,lE _,lE _,lE _,lE _,lE _,lE _,lE _⟩
def wkT (px py:Fp) (qx qy:F2p):Nat->Nat->WS
 | 0,_=>⟨qx,qy,1⟩
 | k + 1,n=>if n % 2 = 1 then adW px py qx qy (twW px py (wkT px py qx qy k (n / 2))) else twW px py (wkT px py qx qy k (n / 2))
def walkS (px py:Fp) (qx qy:F2p):S12:=S12.conj (wkT px py qx qy 63 nU).f
def cWalk:List AV->Option (List Prop × AV)
 | [.v1 (.agg [.ws .u64 6 px,.ws .u64 6 py,.one (.bo z)]),.v1 (.agg [.ws .u64 6 x0,.ws .u64 6 x1,.ws .u64 6 y0,.ws .u64 6 y1,.one (.bo z2)])]=>some ([],.v1 (e12 (walkS (gN px) (gN py) ⟨gN x0,gN x1⟩ ⟨gN y0,gN y1⟩)))
 | _=>none
def GWk:Ctx:=ctxL [(105,.pure cTo),(87,.pure cTo2),(67,.pure (c12 one12)),(22,.pure cOf),(129,.pure cLen),(131,.pure cBit),(89,.pure (k121 S12.conj)),(130,.mem cTwiceW),(132,.mem cAddW)]
theorem GWk_ok:CtxOk Tryz.prog GWk:=cxC okTo <| cxC okTo2 <| cxC okOne12 <| cxC okOf <| cxC okLen <| cxC okBit <| cxC okConj12 <| cxC okTwiceW <| cxC okAddW cxN
abbrev VWk (k:Nat):List AV:=[pt 2 0,pt 10 0,pt 12 0,iv (predI k)]
abbrev HWk (px py x0 x1 y0 y1:Nat->Nat) (z z2:Bool) (g:Nat->Nat->Nat):Heap:=[some ⟨26,[q6 px,q6 py,.one (.bo z)],0,0⟩,some ⟨30,[q6 x0,q6 x1,q6 y0,q6 y1,.one (.bo z2)],0,0⟩,b12 zz12,none,none,some ⟨69,[q6 (eF (gN x0)),q6 (eF (gN x1))],0,0⟩,some ⟨69,[q6 (eF (gN y0)),q6 (eF (gN y1))],0,0⟩,none,none,none,some ⟨167,[q6 (eF (gN px)),q6 (eF (gN py)),q6 (eF (gN x0)),q6 (eF (gN x1)),q6 (eF (gN y0)),q6 (eF (gN y1)),q6 (g 0),q6 (g 1),q6 (g 2),q6 (g 3),q6 (g 4),q6 (g 5),q6 (g 6),q6 (g 7),q6 (g 8),q6 (g 9),q6 (g 10),q6 (g 11),q6 (g 12),q6 (g 13),q6 (g 14),q6 (g 15)],0,0⟩,none,nb wU,none]
def InvWk (px py:Fp) (qx qy:F2p) (x:Nat × (Nat->Nat->Nat)):Prop:=x.1 <= 63/\LtW x.2/\JvW x.2 = wkT px py qx qy (63 - x.1) (nU / 2 ^ x.1)
abbrev one16 (a b c d:Nat->Nat):Nat->Nat->Nat:=of16 a b c d oneF fz fz fz fz fz fz fz fz fz fz fz
theorem one16_d (a b c d:Nat->Nat):JvW (one16 a b c d) = ⟨⟨dF a,dF b⟩,⟨dF c,dF d⟩,1⟩:=by
 have h:d12 oneF fz fz fz fz fz fz fz fz fz fz fz = 1:=S12.one_d
 show (⟨⟨dF a,dF b⟩,⟨dF c,dF d⟩,d12 oneF fz fz fz fz fz fz fz fz fz fz fz⟩:WS) = _
 rw [h]
theorem okWalk:(CallC.pure cWalk).Ok Tryz.prog 68:=by
 intro args pre v e hp
 unfold cWalk at e
 split at e
 rotate_left
 ·cases e
 rename_i px py z x0 x1 y0 y1 z2
 cases e
 refine pWk tK Tryz.func68 (by kernel_rfl) (by kernel_rfl) (by rfl) (by rfl) ?_
 refine loopF mxd tK GWk_ok (by kernel_rfl) (ι:={x_ // InvWk (dF (eF (gN px))) (dF (eF (gN py))) (⟨dF (eF (gN x0)),dF (eF (gN x1))⟩:F2p) (⟨dF (eF (gN y0)),dF (eF (gN y1))⟩:F2p) x_}) [4,7,8,9] 50 14 (fun x_=>VWk x_.1.1) (fun x_=>HWk px py x0 x1 y0 y1 z z2 x_.1.2) (fun x_=>x_.1.1) (fun x_=>x_.1.1 = 0)
  (fun _=>rfl) (fun _=>by kernel_rfl) (fun _ _ h=>h.elim) 200 [⟨4,2,.lit (.it (predI 63))⟩] ?_ ?_ ?_
 ·refine same (p:=wrapI (Int.ofNat (blen (nv wU)) - 2) = predI 63/\true = true/\∃ j:{x_ // InvWk (dF (eF (gN px))) (dF (eF (gN py))) (⟨dF (eF (gN x0)),dF (eF (gN x1))⟩:F2p) (⟨dF (eF (gN y0)),dF (eF (gN y1))⟩:F2p) x_},VWk 63 = VWk j.1.1/\HWk px py x0 x1 y0 y1 z z2 (one16 (eF (gN x0)) (eF (gN x1)) (eF (gN y0)) (eF (gN y1))) = HWk px py x0 x1 y0 y1 z z2 j.1.2) ?_ (by kernel_rfl)
  refine ⟨by kernel_rfl,rfl,⟨(63,one16 (eF (gN x0)) (eF (gN x1)) (eF (gN y0)) (eF (gN y1))),Nat.le_refl _,⟨lE _,lE _,lE _,lE _,lt_one,l0Z,l0Z,l0Z,l0Z,l0Z,l0Z,l0Z,l0Z,l0Z,l0Z,l0Z⟩,?_⟩,rfl,rfl⟩
  simp only
  rw [one16_d];rfl
 ·intro ⟨⟨k,g⟩,hk,hg,hv⟩ junk
  simp only at hk hv
  have hg:LtW g:=hg
  obtain ⟨g0,g1,g2,g3,g4,g5,g6,g7,g8,g9,g10,g11,g12,g13,g14,g15⟩:=hg
  cases k with
  | zero =>
   refine rQ mxd tK GWk_ok 60 [] ?_
   refine same (p:=true = true/\∃ j:{x_ // InvWk (dF (eF (gN px))) (dF (eF (gN py))) (⟨dF (eF (gN x0)),dF (eF (gN x1))⟩:F2p) (⟨dF (eF (gN y0)),dF (eF (gN y1))⟩:F2p) x_},j.1.1 = 0/\VWk 0 = VWk j.1.1/\HWk px py x0 x1 y0 y1 z z2 g = HWk px py x0 x1 y0 y1 z z2 j.1.2) ?_ (by kernel_rfl)
   exact ⟨rfl,⟨(0,g),hk,⟨g0,g1,g2,g3,g4,g5,g6,g7,g8,g9,g10,g11,g12,g13,g14,g15⟩,hv⟩,rfl,rfl,rfl⟩
  | succ k =>
   have hs:wrapI (Int.ofNat k - 1) = predI k:=predI_eq (by omega)
   have hhalf:nU / 2 ^ k / 2 = nU / 2 ^ (k + 1):=by rw [Nat.div_div_eq_div_mul,Nat.pow_succ]
   have hnext:63 - k = (63 - (k + 1)) + 1:=by omega
   have next:∀ J:WS,J = wkT (dF (eF (gN px))) (dF (eF (gN py))) (⟨dF (eF (gN x0)),dF (eF (gN x1))⟩:F2p) (⟨dF (eF (gN y0)),dF (eF (gN y1))⟩:F2p) (63 - k) (nU / 2 ^ k)->∃ j:{x_ // InvWk (dF (eF (gN px))) (dF (eF (gN py))) (⟨dF (eF (gN x0)),dF (eF (gN x1))⟩:F2p) (⟨dF (eF (gN y0)),dF (eF (gN y1))⟩:F2p) x_},j.1.1 < k + 1/\VWk k = VWk j.1.1/\HWk px py x0 x1 y0 y1 z z2 (selW J) = HWk px py x0 x1 y0 y1 z z2 j.1.2 :=
    fun J h'=>⟨⟨(k,selW J),by simp only;omega,LtW_sel J,by simp only;rw [JvW_sel,h']⟩,by simp only;omega,rfl,rfl⟩
   have hbit:nU / 2 ^ k % 2 = 0∨nU / 2 ^ k % 2 = 1:=by omega
   rcases hbit with h0 | h0
   ·refine rQ mxd tK GWk_ok 100 [⟨5,1,.lit (.bo true)⟩,⟨8,3,.lit (.bo false)⟩,⟨6,1,.lit (.it (predI k))⟩] ?_
    refine same (p:=(!ilt (Int.ofNat k) 0) = true/\lp (eF (gN px))/\lp (eF (gN py))/\lp (g 0)/\lp (g 1)/\lp (g 2)/\lp (g 3)/\lp (g 4)/\lp (g 5)/\lp (g 6)/\lp (g 7)/\lp (g 8)/\lp (g 9)/\lp (g 10)/\lp (g 11)/\lp (g 12)/\lp (g 13)/\lp (g 14)/\lp (g 15)/\ieq (Int.ofNat (nv wU / 2 ^ k % 2)) 1 = false/\wrapI (Int.ofNat k - 1) = predI k/\true = true /\
     ∃ j:{x_ // InvWk (dF (eF (gN px))) (dF (eF (gN py))) (⟨dF (eF (gN x0)),dF (eF (gN x1))⟩:F2p) (⟨dF (eF (gN y0)),dF (eF (gN y1))⟩:F2p) x_},j.1.1 < k + 1/\VWk k = VWk j.1.1/\HWk px py x0 x1 y0 y1 z z2 (selW (twW (dF (eF (gN px))) (dF (eF (gN py))) (JvW g))) = HWk px py x0 x1 y0 y1 z z2 j.1.2) ?_ (by kernel_rfl)
    refine ⟨ilt_nn2 k,lE _,lE _,g0,g1,g2,g3,g4,g5,g6,g7,g8,g9,g10,g11,g12,g13,g14,g15,(by show ieq (Int.ofNat (nU / 2 ^ k % 2)) 1 = false;rw [h0];rfl),hs,rfl,next _ ?_⟩
    rw [hnext,wkT,if_neg (by omega),hhalf,hv]
   ·refine rQ mxd tK GWk_ok 100 [⟨5,1,.lit (.bo true)⟩,⟨8,3,.lit (.bo true)⟩,⟨6,1,.lit (.it (predI k))⟩] ?_
    refine same (p:=(!ilt (Int.ofNat k) 0) = true/\lp (eF (gN px))/\lp (eF (gN py))/\lp (g 0)/\lp (g 1)/\lp (g 2)/\lp (g 3)/\lp (g 4)/\lp (g 5)/\lp (g 6)/\lp (g 7)/\lp (g 8)/\lp (g 9)/\lp (g 10)/\lp (g 11)/\lp (g 12)/\lp (g 13)/\lp (g 14)/\lp (g 15)/\ieq (Int.ofNat (nv wU / 2 ^ k % 2)) 1 = true/\lp (eF (gN px))/\lp (eF (gN py))/\lp (eF (gN x0))/\lp (eF (gN x1))/\lp (eF (gN y0))/\lp (eF (gN y1))/\lp (selW (twW (dF (eF (gN px))) (dF (eF (gN py))) (JvW g)) 0)/\lp (selW (twW (dF (eF (gN px))) (dF (eF (gN py))) (JvW g)) 1)/\lp (selW (twW (dF (eF (gN px))) (dF (eF (gN py))) (JvW g)) 2)/\lp (selW (twW (dF (eF (gN px))) (dF (eF (gN py))) (JvW g)) 3)/\lp (selW (twW (dF (eF (gN px))) (dF (eF (gN py))) (JvW g)) 4)/\lp (selW (twW (dF (eF (gN px))) (dF (eF (gN py))) (JvW g)) 5)/\lp (selW (twW (dF (eF (gN px))) (dF (eF (gN py))) (JvW g)) 6)/\lp (selW (twW (dF (eF (gN px))) (dF (eF (gN py))) (JvW g)) 7)/\lp (selW (twW (dF (eF (gN px))) (dF (eF (gN py))) (JvW g)) 8)/\lp (selW (twW (dF (eF (gN px))) (dF (eF (gN py))) (JvW g)) 9)/\lp (selW (twW (dF (eF (gN px))) (dF (eF (gN py))) (JvW g)) 10)/\lp (selW (twW (dF (eF (gN px))) (dF (eF (gN py))) (JvW g)) 11)/\lp (selW (twW (dF (eF (gN px))) (dF (eF (gN py))) (JvW g)) 12)/\lp (selW (twW (dF (eF (gN px))) (dF (eF (gN py))) (JvW g)) 13)/\lp (selW (twW (dF (eF (gN px))) (dF (eF (gN py))) (JvW g)) 14)/\lp (selW (twW (dF (eF (gN px))) (dF (eF (gN py))) (JvW g)) 15)/\wrapI (Int.ofNat k - 1) = predI k/\true = true /\
     ∃ j:{x_ // InvWk (dF (eF (gN px))) (dF (eF (gN py))) (⟨dF (eF (gN x0)),dF (eF (gN x1))⟩:F2p) (⟨dF (eF (gN y0)),dF (eF (gN y1))⟩:F2p) x_},j.1.1 < k + 1/\VWk k = VWk j.1.1/\HWk px py x0 x1 y0 y1 z z2 (selW (adW (dF (eF (gN px))) (dF (eF (gN py))) (⟨dF (eF (gN x0)),dF (eF (gN x1))⟩:F2p) (⟨dF (eF (gN y0)),dF (eF (gN y1))⟩:F2p) (JvW (selW (twW (dF (eF (gN px))) (dF (eF (gN py))) (JvW g)))))) = HWk px py x0 x1 y0 y1 z z2 j.1.2) ?_ (by kernel_rfl)
    refine ⟨ilt_nn2 k,lE _,lE _,g0,g1,g2,g3,g4,g5,g6,g7,g8,g9,g10,g11,g12,g13,g14,g15,(by show ieq (Int.ofNat (nU / 2 ^ k % 2)) 1 = true;rw [h0];rfl),lE _,lE _,lE _,lE _,lE _,lE _,lE _,lE _,lE _,lE _,lE _,lE _,lE _,lE _,lE _,lE _,lE _,lE _,lE _,lE _,lE _,lE _,hs,rfl,next _ ?_⟩
    rw [JvW_sel,hnext,wkT,if_pos h0,hhalf,hv]
 ·intro ⟨⟨k,g⟩,hk,hg,hv⟩ junk h0
  simp only at hk hv h0
  have hg:LtW g:=hg
  obtain ⟨g0,g1,g2,g3,g4,g5,g6,g7,g8,g9,g10,g11,g12,g13,g14,g15⟩:=hg
  subst h0
  rw [Nat.sub_zero,Nat.pow_zero,Nat.div_one] at hv
  refine same (p:=nv (g 4) < pN/\lp (g 5)/\lp (g 6)/\lp (g 7)/\lp (g 8)/\lp (g 9)/\lp (g 10)/\lp (g 11)/\lp (g 12)/\lp (g 13)/\lp (g 14)/\lp (g 15)/\endN (.v1 (.agg (cells12 (S12.conj (d12 (g 4) (g 5) (g 6) (g 7) (g 8) (g 9) (g 10) (g 11) (g 12) (g 13) (g 14) (g 15)))))) (.v1 (e12 (walkS (gN px) (gN py) ⟨gN x0,gN x1⟩ ⟨gN y0,gN y1⟩)))) ?_ (by kernel_rfl)
  refine ⟨g4,g5,g6,g7,g8,g9,g10,g11,g12,g13,g14,g15,end_T ?_⟩
  have e:d12 (g 4) (g 5) (g 6) (g 7) (g 8) (g 9) (g 10) (g 11) (g 12) (g 13) (g 14) (g 15) = (wkT (dF (eF (gN px))) (dF (eF (gN py))) (⟨dF (eF (gN x0)),dF (eF (gN x1))⟩:F2p) (⟨dF (eF (gN y0)),dF (eF (gN y1))⟩:F2p) 63 nU).f:=congrArg WS.f hv
  rw [e,qE,qE,qE,qE,qE,qE];rfl
open EC
theorem unS_kx:kx * unS = 1:=by kernel_rfl
theorem unS_inv:unS = F2p.inv' kx:=by
 have h:=unS_kx
 have k:=F2p.mul_inv S12.kx_ne
 generalize unS = d at *
 have e:kx * (d - F2p.inv' kx) = 0:=by
  generalize F2p.inv' kx = b at *
  generalize kx = a at *
  grind
 rcases F2p.dom e with h | h
 ·exact absurd h S12.kx_ne
 ·generalize F2p.inv' kx = b at *
  grind
theorem wi_5:S12.wi = S12.c unS * S12.w5:=by
 rw [unS_inv,Rg.mul_comm];rfl
theorem wi_3:S12.wi * S12.wi * S12.wi = S12.c unS * S12.w3:=by
 have h:=S12.w_wi
 have k2:=S12.w_2
 have k3:=S12.w_3
 have k6:=S12.w1_6
 have hk:S12.c kx * S12.c unS = 1:=by rw [<-S12.c_mul,unS_kx];rfl
 generalize S12.c kx = K at *
 generalize S12.c unS = u at *
 generalize S12.w1 = a at *
 generalize S12.w2 = b at *
 generalize S12.w3 = d at *
 generalize S12.wi = x at *
 subst k2;subst k3
 have e1:a * a * a * (x * x * x) = 1:=by
  have:a * a * a * (x * x * x) = a * x * (a * x) * (a * x):=by grind
  rw [this,h];grind
 have e2:u * (a * (a * a)) * (a * a * a) = 1:=by
  have:u * (a * (a * a)) * (a * a * a) = a * a * a * (a * a * a) * u:=by grind
  rw [this,k6,hk]
 have:x * x * x = x * x * x * (u * (a * (a * a)) * (a * a * a)):=by rw [e2];grind
 rw [this]
 have:x * x * x * (u * (a * (a * a)) * (a * a * a)) = u * (a * (a * a)) * (a * a * a * (x * x * x)):=by grind
 rw [this,e1];grind
theorem lnS_eq (px py:Fp) (tx ty m:F2p):lnS px py tx ty m = lnv (S12.c m * S12.wi) (S12.c tx * (S12.wi * S12.wi),S12.c ty * (S12.wi * S12.wi * S12.wi)) (S12.c ⟨px,0⟩ * (1 * 1),S12.c ⟨py,0⟩ * (1 * 1 * 1)):=by
 have hl:lnv (S12.c m * S12.wi) (S12.c tx * (S12.wi * S12.wi),S12.c ty * (S12.wi * S12.wi * S12.wi)) (S12.c ⟨px,0⟩ * (1 * 1),S12.c ⟨py,0⟩ * (1 * 1 * 1)) =
   S12.c ⟨py,0⟩ + S12.c ((m * tx - ty) * unS) * S12.w3 + S12.c (F2p.ng' (F2p.sc m px) * unS) * S12.w5:=by
  show S12.c ⟨py,0⟩ * (1 * 1 * 1) - S12.c ty * (S12.wi * S12.wi * S12.wi) - S12.c m * S12.wi * (S12.c ⟨px,0⟩ * (1 * 1) - S12.c tx * (S12.wi * S12.wi)) = _
  have hs:F2p.ng' (F2p.sc m px) = 0 - m * ⟨px,0⟩:=by
   refine F2p.ext ?_ ?_
   ·show 0 - m.x * px = 0 - (m.x * px - m.y * 0)
    rw [Rg.mul_zero]
    generalize m.x * px = a
    grind
   ·show 0 - m.y * px = 0 - (m.x * 0 + m.y * px)
    rw [Rg.mul_zero]
    generalize m.y * px = a
    grind
  rw [hs,S12.c_mul,S12.c_mul,S12.c_sub,S12.c_sub,S12.c_mul,S12.c_mul,S12.c_zero]
  have h5:=wi_5
  have h3:=wi_3
  generalize S12.c unS = u at *
  generalize S12.wi = x at *
  generalize S12.w3 = a at *
  generalize S12.w5 = b at *
  generalize S12.c ⟨px,0⟩ = p
  generalize S12.c ⟨py,0⟩ = q
  generalize S12.c m = r
  generalize S12.c tx = s
  generalize S12.c ty = t
  have e:q * (1 * 1 * 1) - t * (x * x * x) - r * x * (p * (1 * 1) - s * (x * x)) = q + (r * s - t) * (x * x * x) - r * p * x:=by grind
  rw [e,h3,h5]
  grind
 rw [hl]
 have e:=S12.split (lnS px py tx ty m)
 rw [e]
 show S12.c ⟨py,0⟩ + S12.c 0 * S12.w1 + S12.c 0 * S12.w2 + S12.c ((m * tx - ty) * unS) * S12.w3 + S12.c 0 * S12.w4 + S12.c (F2p.ng' (F2p.sc m px) * unS) * S12.w5 = _
 rw [S12.c_zero,Rg.zero_mul,Rg.zero_mul,Rg.zero_mul]
 generalize S12.c ⟨py,0⟩ = a
 generalize S12.c ((m * tx - ty) * unS) * S12.w3 = b
 generalize S12.c (F2p.ng' (F2p.sc m px) * unS) * S12.w5 = d
 grind
variable {q:F2p × F2p} {p:Fp × Fp}
abbrev cT (Q:Option (F2p × F2p)):Option (S12 × S12):=cp uT Q
abbrev cF (P:Option (Fp × Fp)):Option (S12 × S12):=cp uF P
def Wk (q:F2p × F2p) (p:Fp × Fp) (n:Nat) (s:WS):Prop:=ET.mul n (some q) = some (s.tx,s.ty)/\Go.Rq.nL s.f = SK.Fn n (cT (some q)) (cF (some p))
theorem aT {Q:Option (F2p × F2p)} (h:ET.on Q):SK.A (cT Q):=⟨Q,h,rfl⟩
theorem bF {P:Option (Fp × Fp)} (h:EF.on P):SK.B (cF P):=⟨P,h,rfl⟩
theorem nL_line {t u:F2p × F2p} {m:F2p} (ht:ET.on (some t)) (hu:ET.on (some u)) (ho:¬ Opp t u) (hs:ET.Sl t u m):Go.Rq.nL (lnS p.1 p.2 t.1 t.2 m) = SK.L (cT (some t)) (cT (some u)) (cF (some p)):=by
 have h:=SK.L_sl (x:=(S12.c ⟨p.1,0⟩ * (1 * 1),S12.c ⟨p.2,0⟩ * (1 * 1 * 1))) (cp_on uT ht) (cp_on uT hu) (fun h=>ho ((cp_opp uT).2 h)) (cp_sl uT hs)
 rw [lnS_eq]
 exact h.symm
theorem tw_ok {n:Nat} {s:WS} (hq:ET.on (some q)) (hp:EF.on (some p)) (h:Wk q p n s) (hn:ET.mul (n + n) (some q) ≠ none):Wk q p (n + n) (twW p.1 p.2 s):=by
 obtain ⟨h1,h2⟩:=h
 have ht:ET.on (some (s.tx,s.ty)):=by rw [<-h1];exact ET.on_mul hq n
 have hd:ET.mul (n + n) (some q) = ET.add (some (s.tx,s.ty)) (some (s.tx,s.ty)):=by rw [ET.mul_add hq,h1]
 have ho:¬ Opp (s.tx,s.ty) (s.tx,s.ty):=fun ho=>hn (by rw [hd,ET.add_opp ho])
 have hsl:=ET.slope_ok ht ht ho
 have he:ET.slope (s.tx,s.ty) (s.tx,s.ty) = slS ((s.tx * s.tx + s.tx * s.tx) + s.tx * s.tx) (s.ty + s.ty):=by
  unfold EC.slope slS
  rw [if_pos rfl,ep]
  show (s.tx * s.tx + s.tx * s.tx + s.tx * s.tx + 0) * F2p.inv' (s.ty + s.ty) = _
  rw [Rg.add_zero]
 rw [he] at hsl
 refine ⟨?_,?_⟩
 ·rw [hd,ET.add_sl ht ht ho hsl];rfl
 ·show Go.Rq.nL ((s.f * s.f) * lnS p.1 p.2 s.tx s.ty _) = _
  rw [nL_mul,nL_mul,h2,nL_line ht ht ho hsl,SK.Fn_add (aT hq) (bF hp)]
  have e:EK.mul n (cT (some q)) = cT (some (s.tx,s.ty)):=by rw [<-h1];exact (cp_mul uT hq n).symm
  rw [e]
theorem ad_ok {n:Nat} {s:WS} (hq:ET.on (some q)) (hp:EF.on (some p)) (h:Wk q p (n + 1) s) (hn:ET.mul n (some q) ≠ none) (hn2:ET.mul (n + 2) (some q) ≠ none):Wk q p (n + 2) (adW p.1 p.2 q.1 q.2 s):=by
 obtain ⟨h1,h2⟩:=h
 have ht:ET.on (some (s.tx,s.ty)):=by rw [<-h1];exact ET.on_mul hq (n + 1)
 have hd:ET.mul (n + 2) (some q) = ET.add (some (s.tx,s.ty)) (some q):=by rw [<-h1];rfl
 have ho:¬ Opp (s.tx,s.ty) q:=fun ho=>hn2 (by rw [hd,ET.add_opp ho])
 have hx:s.tx ≠ q.1:=fun e=>by
  have hy:s.ty = q.2:=by
   have a1:s.ty * s.ty = s.tx * s.tx * s.tx + 0 * s.tx + bT:=ht
   have a2:q.2 * q.2 = q.1 * q.1 * q.1 + 0 * q.1 + bT:=hq
   rw [e,<-a2] at a1
   have a3:(s.ty - q.2) * (s.ty + q.2) = 0:=by grind
   rcases F2p.dom a3 with h | h
   ·grind
   ·exact absurd ⟨e,h⟩ ho
  apply hn
  have e1:ET.mul (n + 1) (some q) = some q:=by rw [h1,e,hy]
  have e2:ET.add (ET.mul n (some q)) (some q) = some q:=e1
  have e3:ET.grp.add ⟨some q,hq⟩ ⟨ET.mul n (some q),ET.on_mul hq n⟩ = ET.grp.add ⟨some q,hq⟩ ET.grp.o:=Subtype.ext (by
   show ET.add (some q) (ET.mul n (some q)) = ET.add (some q) none
   rw [ET.add_comm hq (ET.on_mul hq n),e2];rfl)
  exact congrArg Subtype.val (ET.grp.cancel e3)
 have hsl:=ET.slope_ok ht hq ho
 have he:ET.slope (s.tx,s.ty) q = slS (q.2 - s.ty) (q.1 - s.tx):=by
  unfold EC.slope slS
  rw [if_neg hx,ep];rfl
 rw [he] at hsl
 refine ⟨?_,?_⟩
 ·rw [hd,ET.add_sl ht hq ho hsl];rfl
 ·show Go.Rq.nL (s.f * lnS p.1 p.2 s.tx s.ty _) = SK.Fn (n + 1) _ _ * SK.L (EK.mul (n + 1) (cT (some q))) _ _
  rw [nL_mul,h2,nL_line ht hq ho hsl]
  have e:EK.mul (n + 1) (cT (some q)) = cT (some (s.tx,s.ty)):=by rw [<-h1];exact (cp_mul uT hq (n + 1)).symm
  rw [e]
theorem nz' {n r:Nat} (hinv:∀ n,¬ r ∣ n->∃ m,n * m % r = 1 % r) (hq:ET.on (some q)) (hr:ET.mul r (some q) = none) (h0:0 < n) (h1:n < r):ET.mul n (some q) ≠ none:=fun e=>by
 let P:ET.Pt:=⟨some q,hq⟩
 have e1:ET.grp.nm r P = ET.grp.o:=Subtype.ext ((ET.nm_val P r).trans hr)
 have e2:ET.grp.nm n P = ET.grp.o:=Subtype.ext ((ET.nm_val P n).trans e)
 have hd:r ∣ n:=Gr.prime_dvd ET.grp hinv e1 (fun e=>by have:=congrArg Subtype.val e;cases this) e2
 have:=Nat.le_of_dvd h0 hd
 omega
theorem nz {n:Nat} (hq:ET.on (some q)) (hr:ET.mul rO (some q) = none) (h0:0 < n) (h1:n < rO):ET.mul n (some q) ≠ none:=nz' rO_inv hq hr h0 h1
theorem wk_ok (hq:ET.on (some q)) (hp:EF.on (some p)) (hr:ET.mul rO (some q) = none):∀ k n:Nat,2 ^ k <= n->n < 2 ^ (k + 1)->n + 1 < rO->Wk q p n (wkT p.1 p.2 q.1 q.2 k n)
 | 0,n,h1,h2,_=>by
  have:n = 1:=by omega
  subst this
  refine ⟨rfl,?_⟩
  show Go.Rq.nL 1 = 1 * SK.L none _ _
  rw [SK.L0,Rg.mul_one]
  exact Rg.one_pow _
 | k + 1,n,h1,h2,h3=>by
  have e1:2 ^ (k + 1) = 2 * 2 ^ k:=by rw [Nat.pow_succ];omega
  have e2:2 ^ (k + 1 + 1) = 2 * 2 ^ (k + 1):=by rw [Nat.pow_succ];omega
  have hp0:0 < 2 ^ k:=Nat.pow_pos (by decide)
  have ih:=wk_ok hq hp hr k (n / 2) (by omega) (by omega) (by omega)
  have hn0:0 < n / 2:=by omega
  have h4:=tw_ok hq hp ih (nz hq hr (by omega) (by omega))
  show Wk q p n (if n % 2 = 1 then _ else _)
  by_cases hb:n % 2 = 1
  ·rw [if_pos hb]
   have e3:n = (n / 2 + n / 2 - 1) + 2:=by omega
   have e4:n / 2 + n / 2 = (n / 2 + n / 2 - 1) + 1:=by omega
   rw [e4] at h4
   have h5:=ad_ok hq hp h4 (nz hq hr (by omega) (by omega)) (nz hq hr (by omega) (by omega))
   rw [<-e3] at h5
   exact h5
  ·rw [if_neg hb]
   have e3:n / 2 + n / 2 = n:=by omega
   rw [e3] at h4
   exact h4
theorem nU_uA:nU = uA:=by kernel_rfl
theorem nU_lo:2 ^ 63 <= nU:=by rw [nU_val];decide
theorem nU_hi:nU < 2 ^ 64:=by rw [nU_val];decide
theorem nU_r:nU + 1 < rO:=by rw [nU_val];decide +kernel
theorem turns_neP {z:S12} (h:z ≠ 0) (n:Nat):S12.turns n z ≠ 0:=by
 induction n with
 | zero=>exact h
 | succ n ih=>exact fun e=>ih (S12.turn_inj e)
theorem N_turns {N:S12->S12} (h:∀ z,N (S12.turn z) = S12.turn (N z)) (z:S12):∀ n,N (S12.turns n z) = S12.turns n (N z)
 | 0=>rfl
 | n + 1=>by
  show N (S12.turn (S12.turns n z)) = S12.turn (S12.turns n (N z))
  rw [h,N_turns h z n]
theorem mlF_ne {Q:Option (F2p × F2p)} {P:Option (Fp × Fp)} (hQ:ET.on Q) (hP:EF.on P):mlF Q P ≠ 0:=fun e=>by
 have h:=SK.Fn_neg (aT hQ) (bF hP) uA
 have e:SK.Fn uA (cT Q) (cF P) = 0:=e
 rw [e,Rg.zero_mul] at h
 exact oneK_ne h.symm
def eP (Q:Option (F2p × F2p)) (P:Option (Fp × Fp)):S12:=S12.turns 6 (mlF Q P)
theorem pair_n {N:S12->S12} (hN:∀ z,N (S12.turn z) = S12.turn (N z)) (h0:N 0 = 0) (hl:∀ a,a ≠ 0->lastS a = N a) {f F:S12} (h2:N f = F) (hF:F ≠ 0):lastS (S12.conj f) = S12.turns 6 F/\S12.conj f ≠ 0:=by
 have hn:f ≠ 0:=fun e=>hF (by rw [<-h2,e,h0])
 have hc:S12.conj f ≠ 0:=by rw [conj_t6];exact turns_neP hn 6
 refine ⟨?_,hc⟩
 rw [hl _ hc,conj_t6,N_turns hN,h2]
theorem pair_val {q:F2p × F2p} {p:Fp × Fp} (hq:G2s (some q)) (hp:EF.on (some p)):lastS (walkS p.1 p.2 q.1 q.2) = eP (some q) (some p)/\walkS p.1 p.2 q.1 q.2 ≠ 0:=by
 have h:=(wk_ok hq.1 hp hq.2 63 nU nU_lo nU_hi nU_r).2
 have h2:Go.Rq.nL (wkT p.1 p.2 q.1 q.2 63 nU).f = mlF (some q) (some p):=h.trans (congrArg (fun n:Nat=>SK.Fn n (cT (some q)) (cF (some p))) nU_uA)
 exact pair_n nL_turn nL_0 (fun a ha=>lastS_nL ha) h2 (mlF_ne hq.1 hp)
end Go.Proofs.YtnjocbcjejpklaaGreat
namespace Go.Rq
open Go
namespace EC
variable {F:Type} [i:CR F] (C:EC F)
def Rp (P:J3 F):Option (F × F)->Prop
 | none=>P.z = 0
 | some p=>P.z ≠ 0/\P.x = p.1 * (P.z * P.z)/\P.y = p.2 * (P.z * P.z * P.z)
include C in
theorem one_ne0:(1:F) ≠ 0:=fun e=>C.two (by rw [e];grind)
include C in
theorem rp_raise (x y:F):Rp (⟨x,y,1⟩:J3 F) (some (x,y)):=⟨C.one_ne0,by show x = x * (1 * 1);grind,by show y = y * (1 * 1 * 1);grind⟩
include C in
theorem ne_mul2 {x y:F} (hx:x ≠ 0) (hy:y ≠ 0):x * y ≠ 0:=fun e=>(C.dom e).elim hx hy
theorem dbl_x {x y z l:F} (h:l * (y + y) = x * x + x * x + x * x):(J3.dbl ⟨x * (z * z),y * (z * z * z),z⟩).x = (l * l - x - x) * ((y + y) * (z * z * z * z) * ((y + y) * (z * z * z * z))):=by
 have hm:x * (z * z) * (x * (z * z)) + x * (z * z) * (x * (z * z)) + x * (z * z) * (x * (z * z)) = l * (y + y) * (z * z * z * z):=by rw [h];grind
 simp only [J3.dbl,hm]
 grind
theorem dbl_z {x y z:F}:(J3.dbl ⟨x * (z * z),y * (z * z * z),z⟩).z = (y + y) * (z * z * z * z):=by
 simp only [J3.dbl]
 grind
theorem dbl_y {x y z l:F} (h:l * (y + y) = x * x + x * x + x * x):(J3.dbl ⟨x * (z * z),y * (z * z * z),z⟩).y = (l * (x - (l * l - x - x)) - y) * ((y + y) * (z * z * z * z) * ((y + y) * (z * z * z * z)) * ((y + y) * (z * z * z * z))):=by
 have hx:=dbl_x (z:=z) h
 have hm:x * (z * z) * (x * (z * z)) + x * (z * z) * (x * (z * z)) + x * (z * z) * (x * (z * z)) = l * (y + y) * (z * z * z * z):=by rw [h];grind
 simp only [J3.dbl,hm] at hx ⊢
 rw [hx]
 generalize l * l - x - x = k
 grind
variable [DecidableEq F]
theorem dbl_rp (ha:C.a = 0) {X:Option (F × F)} (hX:C.on X) {P:J3 F} (h:Rp P X):Rp (J3.dbl P) (C.add X X):=by
 cases X with
 | none =>
  have h:P.z = 0:=h
  show P.y * P.z + P.y * P.z = 0
  rw [h];grind
 | some p =>
  obtain ⟨hz,hx,hy⟩:=h
  obtain ⟨X,Y,Z⟩:=P
  simp only at hz hx hy
  subst hx;subst hy
  rcases C.add_cases hX hX with ⟨ho,e⟩ | ⟨ho,l,hl,e⟩
  ·rw [e]
   show (J3.dbl _).z = 0
   rw [dbl_z,ho.2];grind
  ·rw [e]
   have h2:l * (p.2 + p.2) = p.1 * p.1 + p.1 * p.1 + p.1 * p.1:=by have:=hl.2;rw [ha] at this;grind
   have hn:p.2 + p.2 ≠ 0:=fun e=>ho ⟨rfl,e⟩
   refine ⟨?_,?_,?_⟩
   ·rw [dbl_z]
    exact C.ne_mul2 hn (C.ne_mul2 (C.ne_mul2 (C.ne_mul2 hz hz) hz) hz)
   ·rw [dbl_x h2,dbl_z];rfl
   ·rw [dbl_y h2,dbl_z];rfl
theorem gen_z {x y z u v w:F}:(J3.gen ⟨x * (z * z),y * (z * z * z),z⟩ ⟨u * (w * w),v * (w * w * w),w⟩).z = (u - x) * (z * w * (z * w) * (z * w)):=by
 simp only [J3.gen];grind
theorem gen_x {x y z u v w l:F} (h:v - y = l * (u - x)):(J3.gen ⟨x * (z * z),y * (z * z * z),z⟩ ⟨u * (w * w),v * (w * w * w),w⟩).x = (l * l - x - u) * ((u - x) * (z * w * (z * w) * (z * w)) * ((u - x) * (z * w * (z * w) * (z * w)))):=by
 have hr:v * (w * w * w) * (z * z * z) - y * (z * z * z) * (w * w * w) = l * (u - x) * (z * w * (z * w) * (z * w)):=by rw [<-h];grind
 have hh:u * (w * w) * (z * z) - x * (z * z) * (w * w) = (u - x) * (z * w * (z * w)):=by grind
 simp only [J3.gen,hr,hh]
 generalize hd:u - x = d
 have hu:u = x + d:=by grind
 subst hu
 grind
theorem gen_y {x y z u v w l:F} (h:v - y = l * (u - x)):(J3.gen ⟨x * (z * z),y * (z * z * z),z⟩ ⟨u * (w * w),v * (w * w * w),w⟩).y = (l * (x - (l * l - x - u)) - y) * ((u - x) * (z * w * (z * w) * (z * w)) * ((u - x) * (z * w * (z * w) * (z * w))) * ((u - x) * (z * w * (z * w) * (z * w)))):=by
 have hx:=gen_x (z:=z) (w:=w) h
 have hr:v * (w * w * w) * (z * z * z) - y * (z * z * z) * (w * w * w) = l * (u - x) * (z * w * (z * w) * (z * w)):=by rw [<-h];grind
 have hh:u * (w * w) * (z * z) - x * (z * z) * (w * w) = (u - x) * (z * w * (z * w)):=by grind
 simp only [J3.gen,hr,hh] at hx ⊢
 rw [hx]
 generalize l * l - x - u = k
 generalize u - x = d
 grind
theorem add_rp (ha:C.a = 0) {X Y:Option (F × F)} (hX:C.on X) (hY:C.on Y) {P Q:J3 F} (h:Rp P X) (k:Rp Q Y):Rp (J3.add P Q) (C.add X Y):=by
 cases X with
 | none =>
  have h:P.z = 0:=h
  unfold J3.add
  rw [if_pos h];exact k
 | some p =>
  have hpz:P.z ≠ 0:=h.1
  cases Y with
  | none =>
   have k:Q.z = 0:=k
   unfold J3.add
   rw [if_neg hpz,if_pos k];exact h
  | some q =>
   have hqz:Q.z ≠ 0:=k.1
   unfold J3.add
   rw [if_neg hpz,if_neg hqz]
   have hh:J3.hh P Q = (q.1 - p.1) * (P.z * P.z * (Q.z * Q.z)):=by unfold J3.hh;rw [h.2.1,k.2.1];grind
   have hr:J3.rr P Q = (q.2 - p.2) * (P.z * P.z * P.z * (Q.z * Q.z * Q.z)):=by unfold J3.rr;rw [h.2.2,k.2.2];grind
   have n2:P.z * P.z * (Q.z * Q.z) ≠ 0:=C.ne_mul2 (C.ne_mul2 hpz hpz) (C.ne_mul2 hqz hqz)
   have n3:P.z * P.z * P.z * (Q.z * Q.z * Q.z) ≠ 0:=C.ne_mul2 (C.ne_mul2 (C.ne_mul2 hpz hpz) hpz) (C.ne_mul2 (C.ne_mul2 hqz hqz) hqz)
   by_cases hx:p.1 = q.1
   ·rw [if_pos (by rw [hh,hx];grind)]
    by_cases hy:p.2 = q.2
    ·rw [if_pos (by rw [hr,hy];grind)]
     have e:q = p:=Prod.ext hx.symm hy.symm
     rw [e]
     exact C.dbl_rp ha hX h
    ·rw [if_neg (by rw [hr];exact C.ne_mul2 (fun e=>hy (by grind)) n3)]
     have ho:Opp p q:=by
      refine ⟨hx,?_⟩
      have h1:p.2 * p.2 = p.1 * p.1 * p.1 + C.a * p.1 + C.b:=hX
      have h2:q.2 * q.2 = q.1 * q.1 * q.1 + C.a * q.1 + C.b:=hY
      rw [<-hx] at h2
      have h3:(p.2 - q.2) * (p.2 + q.2) = 0:=by grind
      rcases C.dom h3 with h4 | h4
      ·exact absurd (by grind) hy
      ·exact h4
     rw [C.add_opp ho]
     rfl
   ·rw [if_neg (by rw [hh];exact C.ne_mul2 (fun e=>hx (by grind)) n2)]
    obtain ⟨PX,PY,PZ⟩:=P
    obtain ⟨QX,QY,QZ⟩:=Q
    obtain ⟨_,h1,h2⟩:=h
    obtain ⟨_,k1,k2⟩:=k
    simp only at h1 h2 k1 k2 hpz hqz
    subst h1;subst h2;subst k1;subst k2
    have ho:¬ Opp p q:=fun o=>hx o.1
    have hl:=C.slope_ok hX hY ho
    rw [C.add_sl hX hY ho hl]
    generalize C.slope p q = l at hl
    have hs:q.2 - p.2 = l * (q.1 - p.1):=by have:=hl.1;grind
    refine ⟨?_,?_,?_⟩
    ·rw [gen_z]
     exact C.ne_mul2 (fun e=>hx (by grind)) (C.ne_mul2 (C.ne_mul2 (C.ne_mul2 hpz hqz) (C.ne_mul2 hpz hqz)) (C.ne_mul2 hpz hqz))
    ·rw [gen_x hs,gen_z];rfl
    ·rw [gen_y hs,gen_z];rfl
theorem times_rp (ha:C.a = 0) {X:Option (F × F)} (hX:C.on X) {P:J3 F} (h:Rp P X):∀ k n:Nat,n < 2 ^ k->Rp (J3.times P k n) (C.mul n X)
 | 0,n,hn=>by
  have:n = 0:=by simpa using hn
  subst this
  rfl
 | k + 1,n,hn=>by
  have ih:=times_rp ha hX h k (n / 2) (by rw [Nat.pow_succ] at hn;omega)
  have hd:=C.dbl_rp ha (C.on_mul hX _) ih
  rw [<-C.mul_add hX] at hd
  rw [J3.times]
  by_cases e:n % 2 = 1
  ·rw [if_pos e]
   have h2:=C.add_rp ha (C.on_mul hX _) hX hd h
   have e2:n = n / 2 + n / 2 + 1:=by omega
   have e3:C.mul n X = C.add (C.mul (n / 2 + n / 2) X) X:=(congrArg (fun n=>C.mul n X) e2).trans rfl
   rw [e3];exact h2
  ·rw [if_neg e]
   have e2:n / 2 + n / 2 = n:=by omega
   rw [e2] at hd;exact hd
end EC
namespace A2
variable {F:Type} [CR F] [DecidableEq F]
def pt (p:A2 F):Option (F × F):=bif p.z then none else some (p.x,p.y)
def of:Option (F × F)->A2 F
 | none=>⟨0,0,true⟩
 | some q=>⟨q.1,q.2,false⟩
theorem raise_rp (C:EC F) (p:A2 F):EC.Rp (raise p) (pt p):=by
 unfold raise pt
 cases p.z with
 | true=>rfl
 | false=>exact C.rp_raise _ _
theorem mulJ_rp (C:EC F) (ha:C.a = 0) {p:A2 F} (hp:C.on (pt p)) (n:Nat) (hn:n < 2 ^ blen n):EC.Rp (mulJ p n) (C.mul n (pt p)):=C.times_rp ha hp (raise_rp C p) _ _ hn
theorem on_pt (C:EC F) (ha:C.a = 0) {p:A2 F}:on C.b p = true↔(C.on (pt p)/\p = of (pt p)):=by
 obtain ⟨x,y,z⟩:=p
 unfold on pt
 cases z with
 | true =>
  show (decide (x = 0) && decide (y = 0)) = true↔(True/\(⟨x,y,true⟩:A2 F) = ⟨0,0,true⟩)
  simp
 | false =>
  show decide (y * y = x * x * x + C.b) = true↔(y * y = x * x * x + C.a * x + C.b/\(⟨x,y,false⟩:A2 F) = ⟨x,y,false⟩)
  rw [ha,decide_eq_true_iff]
  constructor
  ·intro h;exact ⟨by grind,rfl⟩
  ·intro h;have:=h.1;grind
theorem isIn_pt (C:EC F) (ha:C.a = 0) {p:A2 F} {r:Nat} (hr:r < 2 ^ blen r):isIn C.b r p = true↔(C.on (pt p)/\C.mul r (pt p) = none/\p = of (pt p)):=by
 unfold isIn
 rw [Bool.and_eq_true,on_pt C ha,decide_eq_true_iff]
 constructor
 ·rintro ⟨⟨h1,h2⟩,h3⟩
  refine ⟨h1,?_,h2⟩
  have h4:=mulJ_rp C ha h1 r hr
  cases e:C.mul r (pt p) with
  | none=>rfl
  | some q=>rw [e] at h4;exact absurd h3 h4.1
 ·rintro ⟨h1,h2,h3⟩
  refine ⟨⟨h1,h3⟩,?_⟩
  have h4:=mulJ_rp C ha h1 r hr
  rw [h2] at h4;exact h4
end A2
end Go.Rq
namespace Go.Proofs.YtnjocbcjejpklaaGreat
open Go.Rq Go EC
set_option maxRecDepth 100000
theorem rNm_rO:rNm = rO:=by decide +kernel
theorem rNm_bl:rNm < 2 ^ blen rNm:=by decide +kernel
theorem fourE_b:fourE = EF.b:=Fin.ext (by kernel_rfl)
theorem isIn_E (p:A2 Fp):A2.isIn fourE rNm p = true↔(EF.on (A2.pt p)/\EF.mul rO (A2.pt p) = none/\p = A2.of (A2.pt p)):=by
 rw [fourE_b,A2.isIn_pt EF rfl rNm_bl,rNm_rO]
theorem fourQ_b:fourQ = ET.b:=F2p.ext (Fin.ext (by kernel_rfl)) (Fin.ext (by kernel_rfl))
theorem isIn_Q (p:A2 F2p):A2.isIn fourQ rNm p = true↔(G2s (A2.pt p)/\p = A2.of (A2.pt p)):=by
 rw [fourQ_b,A2.isIn_pt ET rfl rNm_bl,rNm_rO,<-and_assoc];rfl
set_option maxHeartbeats 4000000
theorem rd_sl2 {P:Program} {T:TT} (hT:TTOk P T) {f:FuncId} {fn:Func} (hf:P.funcs[f]? = some fn) (hb:fn.body = some (bodyOf fn)) (hn:(fn.name == "runtime.NumGoroutine") = false)
  {b c:Nat} (hbc:Nat.beq b c = false) {x y:Blk} {pre:List AV} {v:AV} (hx:plainCs x.cells = true) (hy:plainCs y.cells = true) (lx:x.lo = 0) (ly:y.lo = 0) (hpre:pre.all vokB = true) (hv:vokB v = true) {h:Heap} (hgb:hget h b = some x) (hgc:hget h c = some y)
  (hwalk:AWqS P (Dm [some x,some y]) (flatC (bodyOf fn)) (FEndR2 T fn v x y) ⟨frame0 (pre ++ [.v1 (.sc (.sl 0 0 1 1)),.v1 (.sc (.sl 1 0 1 1))]) fn.ntmps,[some x,some y]⟩) :
  CallOk P f (pre ++ [.v1 (.sc (.sl b 0 1 1)),.v1 (.sc (.sl c 0 1 1))]) h v h:=by
 have hcb:Nat.beq c b = false:=by
  rw [<-Bool.not_eq_true,Nat.beq_eq]
  intro e
  rw [e,Nat.beq_refl] at hbc;cases hbc
 have hbb:bk [b,c] b = 0:=by simp [bk,idxN]
 have hcc:bk [b,c] c = 1:=by simp only [bk,idxN,hcb,Nat.beq_refl]
 have hbx:∀ m,bkBlk m x = x:=fun m=>by unfold bkBlk;rw [bkCells_plain hx]
 have hby:∀ m,bkBlk m y = y:=fun m=>by unfold bkBlk;rw [bkCells_plain hy]
 have hpk:pickH [b,c] h [b,c] = [some x,some y]:=by
  show [pickB [b,c] (hget h b),pickB [b,c] (hget h c)] = _
  rw [hgb,hgc]
  simp only [pickB,hbx,hby]
 have hLv:∀ i,i < 2->Lv [some x,some y] i:=fun i hi=>by
  rcases (show i = 0∨i = 1 by omega) with rfl | rfl
  ·exact ⟨x,rfl,by omega⟩
  ·exact ⟨y,rfl,by omega⟩
 have hheap:heapB [some x,some y] 0 [some x,some y] = true:=by
  simp only [heapB,Bool.and_eq_true]
  refine ⟨cellsB_plain hx,?_,cellsB_plain hy,?_,trivial⟩
  ·rw [lx];rfl
  ·rw [ly];rfl
 have hchk:∀ m n:Nat,Nat.beq m n = false->chkB [m,n] [some x,some y] = true:=fun m n hmn=>by
  unfold chkB nextB nextB
  rw [lx,ly]
  simp only [nodupB,notIn,hmn]
  rfl
 refine mem_walk hT hf hb hn [b,c] [] 0 [some x,some y] [some x,some y] (args':=pre ++ [.v1 (.sc (.sl 0 0 1 1)),.v1 (.sc (.sl 1 0 1 1))]) (vK:=v) (hchk b c hbc) hpk hheap ?_ ?_ hLv hheap (avB_plain hv) (fun i hi=>(hLv i (by simpa using hi)).dm) (hchk b c hbc) hpk (bkAV_plain hv) (fun t ht=>by simp at ht) (fun _ _ _=>rfl) ?_ (hnw:=by simp [noWinB,lx,ly])
 ·rw [bkAVs_app,bkAVs_plain hpre]
  show pre ++ [AV.v1 (.sc (.sl (bk [b,c] b) 0 1 1)),AV.v1 (.sc (.sl (bk [b,c] c) 0 1 1))] = _
  rw [hbb,hcc]
 ·rw [List.all_append,Bool.and_eq_true]
  refine ⟨List.all_eq_true.2 fun z hz=>avB_plain (List.all_eq_true.1 hpre z hz),?_⟩
  simp only [List.all_cons,List.all_nil,Bool.and_eq_true]
  exact ⟨rfl,rfl,trivial⟩
 ·refine hwalk.mono fun e s q=>?_
  have key:(hget s.h 0 = some x/\hget s.h 1 = some y/\∃ v',resA T s fn.results.toList = some v'/\vokB v' = true/\∀ ρ,v'.val ρ = v.val ρ)->chkB [0,1] (pickH [0,1] s.h [0,1]) = true/\heapB (pickH [0,1] s.h [0,1]) 0 (pickH [0,1] s.h [0,1]) = true/\SimH (pickH [0,1] s.h [0,1]) [some x,some y] /\
    ∃ v',resA T s fn.results.toList = some v'/\avB (pickH [0,1] s.h [0,1]) (bkAV [0,1] v') = true/\∀ ρ,(bkAV [0,1] v').val ρ = v.val ρ:=by
   intro ⟨q1,q1',v',q2,q3,q4⟩
   have e:pickH [0,1] s.h [0,1] = [some x,some y]:=by
    show [pickB [0,1] (hget s.h 0),pickB [0,1] (hget s.h 1)] = _
    rw [q1,q1']
    simp only [pickB,hbx,hby]
   rw [e]
   exact ⟨hchk 0 1 rfl,hheap,⟨⟨rfl,rfl,rfl,fun _=>rfl⟩,⟨rfl,rfl,rfl,fun _=>rfl⟩,trivial⟩,v',q2,by rw [bkAV_plain q3];exact avB_plain q3,fun ρ=>by rw [bkAV_plain q3];exact q4 ρ⟩
  cases e with
  | normal=>exact key q
  | ret=>exact key q
  | exit j=>exact q.elim
  | goto l=>exact q.elim
  | panic ch=>exact q.elim
  | outgrown=>exact q.elim
end Go.Proofs.YtnjocbcjejpklaaGreat
