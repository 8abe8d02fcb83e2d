/- reliquarylaw06.PairingBilinear answers true at every input, and leaves it as it was. Conditions: none. Printed by genpbil.py. -/
import Derived.Test.YtnjocbcjejpklaaGreatZbG
import Derived.Test.YtnjocbcjejpklaaGreatRows
import Derived.Carry
namespace Go.Proofs.YtnjocbcjejpklaaGreat
open Go.Rq Go Go.ChangeShapes Go.WideShapes Go.ChangeAt Go.RowKit
set_option maxRecDepth 100000
set_option linter.unusedVariables false
set_option linter.unusedSimpArgs false
def GPb:Ctx:=ctxL [(15,.pure cAwake6),(16,.pure cIn1),(17,.pure cIn2),(18,.pure adCE),(19,.pure adCQ),(21,.pure muCE),(23,.pure muCQ),(7,.pure cPair),(20,.pure (t122 S12.mul)),(25,.pure cTPow),(26,.pure cTWhole),(22,.pure cOf),(24,.pure cMul)]
theorem GPb_ok:CtxOk Tryz.prog GPb:=ctxL_cons okAwake6 <| ctxL_cons okIn1 <| ctxL_cons okIn2 <| ctxL_cons okAdE <| ctxL_cons okAdQ <| ctxL_cons okMuE <| ctxL_cons okMuQ <| ctxL_cons okPair <| ctxL_cons okTMul <| ctxL_cons okTPow <| ctxL_cons okTWhole <| ctxL_cons okOf <| ctxL_cons okMul ctxL_nil
theorem whL_vF:∀ l:List Fp,whL (l.map vF) = true
 | []=>rfl
 | x :: r=>by rw [List.map_cons,whL_t (by rw [nv_vF];exact x.isLt)];exact whL_vF r
theorem whL_n (s:S12):whL (nL s) = true:=whL_vF [s.p.u.x,s.p.u.y,s.q.u.x,s.q.u.y,s.p.v.x,s.p.v.y,s.q.v.x,s.q.v.y,s.p.w.x,s.p.w.y,s.q.w.x,s.q.w.y]
theorem nv_W (m:Nat):nv (wd (m % W)) = m % W:=by
 rw [nv_wd,Nat.mod_eq_of_lt]
 exact Nat.lt_trans (Nat.mod_lt _ (by decide)) (by rw [R_pow];decide +kernel)
theorem nv_WW (m n:Nat):nv (wd (nv (wd (m % W)) * nv (wd (n % W)) % R)) = (m % W) * (n % W):=by
 rw [nv_wd,Nat.mod_mod,nv_W,nv_W,Nat.mod_eq_of_lt]
 have h1:m % W < W:=Nat.mod_lt _ (by decide)
 have h2:n % W < W:=Nat.mod_lt _ (by decide)
 exact Nat.lt_of_lt_of_le (Nat.mul_lt_mul'' h1 h2) (by rw [R_pow];decide +kernel)
theorem bil_ab {aX aY bX bY c0 c1 c2 c3:Nat->Nat} {az bz cz:Bool} (ha:(lo1 aX aY && isE aX aY az) = true) (hb:(lo1 bX bY && isE bX bY bz) = true) (hc:(lo2 c0 c1 c2 c3 && isQ c0 c1 c2 c3 cz) = true):(prS (vF (suE2 aX aY bX bY az bz 1 1).x) (vF (suE2 aX aY bX bY az bz 1 1).y) c0 c1 c2 c3 (suE2 aX aY bX bY az bz 1 1).z cz) = (S12.mul (G12 (prS aX aY c0 c1 c2 c3 az cz)) (G12 (prS bX bY c0 c1 c2 c3 bz cz))):=by
 obtain ⟨h1,h2⟩:=inE_of (suE2_val ha hb) (G1s_add (inE_spec ha).2.1 (inE_spec hb).2.1)
 rw [prS_val h1 hc,h2,prS_val ha hc,prS_val hb hc,G12_eq,G12_eq]
 exact eP_1 (inQ_spec hc).2.1 (inE_spec ha).2.1.1 (inE_spec hb).2.1.1
theorem bil_cd {aX aY c0 c1 c2 c3 d0 d1 d2 d3:Nat->Nat} {az cz dz:Bool} (ha:(lo1 aX aY && isE aX aY az) = true) (hc:(lo2 c0 c1 c2 c3 && isQ c0 c1 c2 c3 cz) = true) (hd:(lo2 d0 d1 d2 d3 && isQ d0 d1 d2 d3 dz) = true):(prS aX aY (vF (suQ2 c0 c1 c2 c3 d0 d1 d2 d3 cz dz 1 1).x.x) (vF (suQ2 c0 c1 c2 c3 d0 d1 d2 d3 cz dz 1 1).x.y) (vF (suQ2 c0 c1 c2 c3 d0 d1 d2 d3 cz dz 1 1).y.x) (vF (suQ2 c0 c1 c2 c3 d0 d1 d2 d3 cz dz 1 1).y.y) az (suQ2 c0 c1 c2 c3 d0 d1 d2 d3 cz dz 1 1).z) = (S12.mul (G12 (prS aX aY c0 c1 c2 c3 az cz)) (G12 (prS aX aY d0 d1 d2 d3 az dz)))/\(prI aX aY (vF (suQ2 c0 c1 c2 c3 d0 d1 d2 d3 cz dz 1 1).x.x) (vF (suQ2 c0 c1 c2 c3 d0 d1 d2 d3 cz dz 1 1).x.y) (vF (suQ2 c0 c1 c2 c3 d0 d1 d2 d3 cz dz 1 1).y.x) (vF (suQ2 c0 c1 c2 c3 d0 d1 d2 d3 cz dz 1 1).y.y) az (suQ2 c0 c1 c2 c3 d0 d1 d2 d3 cz dz 1 1).z) = 0:=by
 obtain ⟨h1,h2⟩:=inQ_of (suQ2_val hc hd) (G2s_add (inQ_spec hc).2.1 (inQ_spec hd).2.1)
 refine ⟨?_,prI_val ha h1⟩
 rw [prS_val ha h1,h2,prS_val ha hc,prS_val ha hd,G12_eq,G12_eq]
 exact eP_2 (inQ_spec hc).2.1 (inQ_spec hd).2.1 (inE_spec ha).2.1.1
theorem bil_mn {aX aY c0 c1 c2 c3:Nat->Nat} {az cz:Bool} (m n:Nat) (ha:(lo1 aX aY && isE aX aY az) = true) (hc:(lo2 c0 c1 c2 c3 && isQ c0 c1 c2 c3 cz) = true):(prS (vF (suE1 aX aY az (nv (wd (m % W)))).x) (vF (suE1 aX aY az (nv (wd (m % W)))).y) (vF (suQ1 c0 c1 c2 c3 cz (nv (wd (n % W)))).x.x) (vF (suQ1 c0 c1 c2 c3 cz (nv (wd (n % W)))).x.y) (vF (suQ1 c0 c1 c2 c3 cz (nv (wd (n % W)))).y.x) (vF (suQ1 c0 c1 c2 c3 cz (nv (wd (n % W)))).y.y) (suE1 aX aY az (nv (wd (m % W)))).z (suQ1 c0 c1 c2 c3 cz (nv (wd (n % W)))).z) = ((G12 (prS aX aY c0 c1 c2 c3 az cz)) ^ nv (wd (nv (wd (m % W)) * nv (wd (n % W)) % R)))/\(prI (vF (suE1 aX aY az (nv (wd (m % W)))).x) (vF (suE1 aX aY az (nv (wd (m % W)))).y) (vF (suQ1 c0 c1 c2 c3 cz (nv (wd (n % W)))).x.x) (vF (suQ1 c0 c1 c2 c3 cz (nv (wd (n % W)))).x.y) (vF (suQ1 c0 c1 c2 c3 cz (nv (wd (n % W)))).y.x) (vF (suQ1 c0 c1 c2 c3 cz (nv (wd (n % W)))).y.y) (suE1 aX aY az (nv (wd (m % W)))).z (suQ1 c0 c1 c2 c3 cz (nv (wd (n % W)))).z) = 0:=by
 obtain ⟨h1,h2⟩:=inE_of (suE1_val ha (nv (wd (m % W)))) (G1s_mul (inE_spec ha).2.1 _)
 obtain ⟨k1,k2⟩:=inQ_of (suQ1_val hc (nv (wd (n % W)))) (G2s_mul (inQ_spec hc).2.1 _)
 refine ⟨?_,prI_val h1 k1⟩
 rw [prS_val h1 k1,h2,k2,prS_val ha hc,G12_eq,nv_WW,nv_W,nv_W]
 exact eP_mul (inQ_spec hc).2.1 (inE_spec ha).2.1.1 _ _
theorem pairingBilinear_calls (aX aY bX bY c0 c1 c2 c3 d0 d1 d2 d3:Nat->Nat) (az bz cz dz:Bool) (m n:Nat) (w:World) :
  Calls Tryz.prog 4 (([p1V aX aY az,p1V bX bY bz,p2V c0 c1 c2 c3 cz,p2V d0 d1 d2 d3 dz,.v1 (.sc (.w .u64 m)),.v1 (.sc (.w .u64 n))]:List AV).map (AV.val fun _=>0)).toArray w (fun e w'=>e = .returned (.bool true)/\StepW w w'):=by
 refine pure_calls tt_ok Tryz.func4 (by kernel_rfl) (by kernel_rfl) (v:=.v1 (.sc (.bo true))) (by kernel_rfl) ?_ w
 cases ha:(lo1 aX aY && isE aX aY az)
 ·refine evS_q mixed tt_ok GPb_ok 200 [⟨2,2,.lit (.bo true)⟩] ?_
  refine same (p:=(!(lo1 aX aY && isE aX aY az)) = true/\endT) ?_ (by kernel_rfl)
  exact ⟨by rw [ha];rfl,endT_ok⟩
 cases hb:(lo1 bX bY && isE bX bY bz)
 ·refine evS_q mixed tt_ok GPb_ok 200 [⟨2,2,.lit (.bo false)⟩,⟨2,6,.lit (.bo true)⟩] ?_
  refine same (p:=(!(lo1 aX aY && isE aX aY az)) = false/\(!(lo1 bX bY && isE bX bY bz)) = true/\endT) ?_ (by kernel_rfl)
  exact ⟨by rw [ha];rfl,by rw [hb];rfl,endT_ok⟩
 cases hc:(lo2 c0 c1 c2 c3 && isQ c0 c1 c2 c3 cz)
 ·refine evS_q mixed tt_ok GPb_ok 200 [⟨2,2,.lit (.bo false)⟩,⟨2,6,.lit (.bo false)⟩,⟨2,11,.lit (.bo true)⟩] ?_
  refine same (p:=(!(lo1 aX aY && isE aX aY az)) = false/\(!(lo1 bX bY && isE bX bY bz)) = false/\(!(lo2 c0 c1 c2 c3 && isQ c0 c1 c2 c3 cz)) = true/\endT) ?_ (by kernel_rfl)
  exact ⟨by rw [ha];rfl,by rw [hb];rfl,by rw [hc];rfl,endT_ok⟩
 cases hd:(lo2 d0 d1 d2 d3 && isQ d0 d1 d2 d3 dz)
 ·refine evS_q mixed tt_ok GPb_ok 200 [⟨2,2,.lit (.bo false)⟩,⟨2,6,.lit (.bo false)⟩,⟨2,11,.lit (.bo false)⟩,⟨2,16,.lit (.bo true)⟩] ?_
  refine same (p:=(!(lo1 aX aY && isE aX aY az)) = false/\(!(lo1 bX bY && isE bX bY bz)) = false/\(!(lo2 c0 c1 c2 c3 && isQ c0 c1 c2 c3 cz)) = false/\(!(lo2 d0 d1 d2 d3 && isQ d0 d1 d2 d3 dz)) = true/\endT) ?_ (by kernel_rfl)
  exact ⟨by rw [ha];rfl,by rw [hb];rfl,by rw [hc];rfl,by rw [hd];rfl,endT_ok⟩
 refine evS_q mixed tt_ok GPb_ok 200 [⟨2,2,.lit (.bo false)⟩,⟨2,6,.lit (.bo false)⟩,⟨2,11,.lit (.bo false)⟩,⟨2,16,.lit (.bo false)⟩,⟨11,1,.lit (.bo false)⟩,⟨11,4,.lit (.bo false)⟩,⟨11,11,.lit (.bo false)⟩,⟨11,18,.lit (.bo false)⟩,⟨17,3,.lit (.bo true)⟩,⟨17,10,.lit (.bo true)⟩,⟨17,14,.lit (.bo true)⟩] ?_
 refine same (p:=(!(lo1 aX aY && isE aX aY az)) = false/\(!(lo1 bX bY && isE bX bY bz)) = false/\(!(lo2 c0 c1 c2 c3 && isQ c0 c1 c2 c3 cz)) = false/\(!(lo2 d0 d1 d2 d3 && isQ d0 d1 d2 d3 dz)) = false/\(!ieq (prI aX aY c0 c1 c2 c3 az cz) 0) = false/\(!ieq (prI aX aY (vF (suQ2 c0 c1 c2 c3 d0 d1 d2 d3 cz dz 1 1).x.x) (vF (suQ2 c0 c1 c2 c3 d0 d1 d2 d3 cz dz 1 1).x.y) (vF (suQ2 c0 c1 c2 c3 d0 d1 d2 d3 cz dz 1 1).y.x) (vF (suQ2 c0 c1 c2 c3 d0 d1 d2 d3 cz dz 1 1).y.y) az (suQ2 c0 c1 c2 c3 d0 d1 d2 d3 cz dz 1 1).z) 0) = false/\(!qL (nL (prS (vF (suE2 aX aY bX bY az bz 1 1).x) (vF (suE2 aX aY bX bY az bz 1 1).y) c0 c1 c2 c3 (suE2 aX aY bX bY az bz 1 1).z cz)) (nL (S12.mul (G12 (prS aX aY c0 c1 c2 c3 az cz)) (G12 (prS bX bY c0 c1 c2 c3 bz cz))))) = false/\(!qL (nL (prS aX aY (vF (suQ2 c0 c1 c2 c3 d0 d1 d2 d3 cz dz 1 1).x.x) (vF (suQ2 c0 c1 c2 c3 d0 d1 d2 d3 cz dz 1 1).x.y) (vF (suQ2 c0 c1 c2 c3 d0 d1 d2 d3 cz dz 1 1).y.x) (vF (suQ2 c0 c1 c2 c3 d0 d1 d2 d3 cz dz 1 1).y.y) az (suQ2 c0 c1 c2 c3 d0 d1 d2 d3 cz dz 1 1).z)) (nL (S12.mul (G12 (prS aX aY c0 c1 c2 c3 az cz)) (G12 (prS aX aY d0 d1 d2 d3 az dz))))) = false/\ieq (prI (vF (suE1 aX aY az (nv (wd (m % W)))).x) (vF (suE1 aX aY az (nv (wd (m % W)))).y) (vF (suQ1 c0 c1 c2 c3 cz (nv (wd (n % W)))).x.x) (vF (suQ1 c0 c1 c2 c3 cz (nv (wd (n % W)))).x.y) (vF (suQ1 c0 c1 c2 c3 cz (nv (wd (n % W)))).y.x) (vF (suQ1 c0 c1 c2 c3 cz (nv (wd (n % W)))).y.y) (suE1 aX aY az (nv (wd (m % W)))).z (suQ1 c0 c1 c2 c3 cz (nv (wd (n % W)))).z) 0 = true/\qL (nL (prS (vF (suE1 aX aY az (nv (wd (m % W)))).x) (vF (suE1 aX aY az (nv (wd (m % W)))).y) (vF (suQ1 c0 c1 c2 c3 cz (nv (wd (n % W)))).x.x) (vF (suQ1 c0 c1 c2 c3 cz (nv (wd (n % W)))).x.y) (vF (suQ1 c0 c1 c2 c3 cz (nv (wd (n % W)))).y.x) (vF (suQ1 c0 c1 c2 c3 cz (nv (wd (n % W)))).y.y) (suE1 aX aY az (nv (wd (m % W)))).z (suQ1 c0 c1 c2 c3 cz (nv (wd (n % W)))).z)) (nL ((G12 (prS aX aY c0 c1 c2 c3 az cz)) ^ nv (wd (nv (wd (m % W)) * nv (wd (n % W)) % R)))) = true/\whL (nL (prS (vF (suE1 aX aY az (nv (wd (m % W)))).x) (vF (suE1 aX aY az (nv (wd (m % W)))).y) (vF (suQ1 c0 c1 c2 c3 cz (nv (wd (n % W)))).x.x) (vF (suQ1 c0 c1 c2 c3 cz (nv (wd (n % W)))).x.y) (vF (suQ1 c0 c1 c2 c3 cz (nv (wd (n % W)))).y.x) (vF (suQ1 c0 c1 c2 c3 cz (nv (wd (n % W)))).y.y) (suE1 aX aY az (nv (wd (m % W)))).z (suQ1 c0 c1 c2 c3 cz (nv (wd (n % W)))).z)) = true/\endT) ?_ (by kernel_rfl)
 exact ⟨by rw [ha];rfl,by rw [hb];rfl,by rw [hc];rfl,by rw [hd];rfl,by rw [prI_val ha hc];rfl,by rw [(bil_cd (dz:=dz) ha hc hd).2];rfl,qn_not (bil_ab (bz:=bz) ha hb hc),qn_not (bil_cd (dz:=dz) ha hc hd).1,by rw [(bil_mn m n ha hc).2];rfl,qn_of (bil_mn m n ha hc).1,whL_n _,endT_ok⟩
theorem pairingBilinear_lifted (os:Os) (started:os.Started) (H:Type) (enc:TypeId × Value->H) :
  ReturnsInHanded {} Tryz.checked os 4 .any (Rows.pairingBilinearSpec.pre6 enc Tryz.prog Tryz.f4 Rows.pairingBilinearRow.domain false) (Rows.pairingBilinearSpec.post enc Tryz.prog Tryz.f4 false true false false):=by
 refine returnsInHanded_of_change (C:=Tryz.checked) Tryz.own started (by kernel_rfl) Tryz.func4
  (ChangeSpec.witness6 (enc:=enc) (C:=Tryz.checked) false ⟨#[],#[.agg #[.int .u64 0,.int .u64 0,.int .u64 0,.int .u64 0,.int .u64 0,.int .u64 0,.int .u64 0,.int .u64 0,.int .u64 0,.int .u64 0,.int .u64 0,.int .u64 0,.bool false],.agg #[.int .u64 0,.int .u64 0,.int .u64 0,.int .u64 0,.int .u64 0,.int .u64 0,.int .u64 0,.int .u64 0,.int .u64 0,.int .u64 0,.int .u64 0,.int .u64 0,.bool false],.agg #[.int .u64 0,.int .u64 0,.int .u64 0,.int .u64 0,.int .u64 0,.int .u64 0,.int .u64 0,.int .u64 0,.int .u64 0,.int .u64 0,.int .u64 0,.int .u64 0,.int .u64 0,.int .u64 0,.int .u64 0,.int .u64 0,.int .u64 0,.int .u64 0,.int .u64 0,.int .u64 0,.int .u64 0,.int .u64 0,.int .u64 0,.int .u64 0,.bool false],.agg #[.int .u64 0,.int .u64 0,.int .u64 0,.int .u64 0,.int .u64 0,.int .u64 0,.int .u64 0,.int .u64 0,.int .u64 0,.int .u64 0,.int .u64 0,.int .u64 0,.int .u64 0,.int .u64 0,.int .u64 0,.int .u64 0,.int .u64 0,.int .u64 0,.int .u64 0,.int .u64 0,.int .u64 0,.int .u64 0,.int .u64 0,.int .u64 0,.bool false],.int .u64 0,.int .u64 0],[]⟩ 8 (by kernel_rfl) (by kernel_rfl) (by kernel_rfl) (by kernel_rfl)) ?_
 intro Wd base args ds gs before hval0 hW _ _
 have hval:∀ (j:Nat) t v,Tryz.f4.params[j]? = some t->args[j]? = some v->Value.okWide Tryz.prog Wd .any base t v:=hval0
 have hW':=hW
 obtain ⟨p,q,hA0,hV,rfl,_,_⟩:=hW
 have hA:DataW.TrodAll enc Tryz.prog Wd 0 (fun _=>true) true Tryz.f4.params.toList args.toList ds p:=hA0
 rw [Tryz.params4] at hA hval
 obtain ⟨v0,v1,v2,v3,v4,v5,d0,d1,d2,d3,d4,d5,p0,p1,p2,p3,p4,p5,rfl,rfl,rfl,h0,h1,h2,h3,h4,h5⟩:=trodAll_six hA
 obtain ⟨rfl,rfl⟩:=trodVars_none hV
 obtain ⟨x0,y0,z0,rfl,rfl,t0⟩:=p1_open h0 (hval 0 26 v0 rfl rfl)
 obtain ⟨x1,y1,z1,rfl,rfl,t1⟩:=p1_open h1 (hval 1 26 v1 rfl rfl)
 obtain ⟨x2,u2,y2,s2,z2,rfl,rfl,t2⟩:=p2_open h2 (hval 2 30 v2 rfl rfl)
 obtain ⟨x3,u3,y3,s3,z3,rfl,rfl,t3⟩:=p2_open h3 (hval 3 30 v3 rfl rfl)
 obtain ⟨z4,rfl,rfl,rfl,w4⟩:=open_int Tryz.underlying22 (hval 4 22 v4 rfl rfl) h4
 obtain ⟨x4,e4⟩:∃ y,z4 = Int.ofNat (y % W):=⟨_,(u64_lit w4).symm⟩
 subst e4
 obtain ⟨z5,rfl,rfl,rfl,w5⟩:=open_int Tryz.underlying22 (hval 5 22 v5 rfl rfl) h5
 obtain ⟨x5,e5⟩:∃ y,z5 = Int.ofNat (y % W):=⟨_,(u64_lit w5).symm⟩
 subst e5
 clear hA0 hval0
 simp only [List.append_nil] at hW'
 refine (pairingBilinear_calls x0 y0 x1 y1 x2 u2 y2 s2 x3 u3 y3 s3 z0 z1 z2 z3 x4 x5 Wd).mono fun e W' ⟨he,hw⟩=>?_
 subst he
 exact ⟨_,rfl,post_same (pa:=[]) (pv:=[]) hW' (fun _ _ _=>trodAll_mk1 (shut_bool Tryz.underlying4 true)) (fun sp _=>trodAll_mk6 (t0 _ _ _ _) (t1 _ _ _ _) (t2 _ _ _ _) (t3 _ _ _ _) (shut_int Tryz.underlying22 w4) (shut_int Tryz.underlying22 w5)) (fun _ _=>rfl) rfl hw (ok_one (by kernel_rfl) rfl (okWide_bool_mk Tryz.underlying4 true))⟩
theorem pairingBilinear_holds:Rows.PairingBilinearSaid :=
 OpenClaim.holds_of_wide 4 Tryz.f4 rfl rfl rfl rfl rfl rfl rfl ⟨rfl,rfl,rfl,rfl,rfl⟩ rfl rfl rfl rfl rfl (by kernel_rfl) Tryz.func4 (by kernel_rfl)
  (of_decide_eq_true (by kernel_rfl)) (by unfold Func.isWrapper;rw [if_neg (of_decide_eq_false (by kernel_rfl))];exact ⟨rfl,rfl⟩)
  (fun os started H enc _=>pairingBilinear_lifted os started H enc)
end Go.Proofs.YtnjocbcjejpklaaGreat
