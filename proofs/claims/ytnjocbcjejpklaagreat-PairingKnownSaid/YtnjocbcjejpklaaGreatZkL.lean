/- reliquarylaw06.PairingKnown answers true. Conditions: none. Printed by genpkn.py. -/
import Derived.Test.YtnjocbcjejpklaaGreatZkG
import Derived.Test.YtnjocbcjejpklaaGreatRows
import Derived.Carry
set_option linter.all false
namespace Go.Proofs.YtnjocbcjejpklaaGreat
open Go.Rq Go Go.ChangeShapes Go.WideShapes Go.ChangeAt Go.RowKit
set_option maxRecDepth 100000
set_option linter.unusedVariables false
set_option linter.unusedSimpArgs false
def GPk:Ctx:=ctxL [(15,.pure cAwake6),(31,.pure (cGen (.v1 (.sc (.bo true))))),(30,.pure (cGen gen1V)),(27,.pure (cGen gen2V)),(29,.pure cNeg1),(7,.pure cPair),(28,.rd cPrK),(11,.pure cLast),(22,.pure cOf),(32,.pure (c12 (n12 1)))]
theorem GPk_ok:CtxOk Tryz.prog GPk:=ctxL_cons okAwake6 <| ctxL_cons okTold <| ctxL_cons okGen1 <| ctxL_cons okGen2 <| ctxL_cons okNeg1 <| ctxL_cons okPair <| ctxL_cons okPrK <| ctxL_cons okLastP <| ctxL_cons okOf <| ctxL_cons okTOne ctxL_nil
theorem z12_f {s:S12} (h:s ≠ 0):z12 s = false:=by
 cases e:z12 s
 ·rfl
 ·exact absurd ((z12_iff s).1 e) h
theorem invE_f {s:S12} (h:s ≠ 0):invE s = 0:=by unfold invE;rw [z12_f h,cond_false]
theorem lastz_f {s:S12} (h:s ≠ 0):lastz s = lastS s:=by unfold lastz;rw [z12_f h,cond_false]
theorem two_conj (c:Nat->Nat):S12.conj (g12 c (fun _=>0) (fun _=>0) (fun _=>0) (fun _=>0) (fun _=>0) (fun _=>0) (fun _=>0) (fun _=>0) (fun _=>0) (fun _=>0) (fun _=>0)) = (g12 c (fun _=>0) (fun _=>0) (fun _=>0) (fun _=>0) (fun _=>0) (fun _=>0) (fun _=>0) (fun _=>0) (fun _=>0) (fun _=>0) (fun _=>0)):=by
 have h:∀ x:F2p,S12.conj (⟨⟨x,⟨gN (fun _=>0),gN (fun _=>0)⟩,⟨gN (fun _=>0),gN (fun _=>0)⟩⟩,⟨⟨gN (fun _=>0),gN (fun _=>0)⟩,⟨gN (fun _=>0),gN (fun _=>0)⟩,⟨gN (fun _=>0),gN (fun _=>0)⟩⟩⟩:S12) = ⟨⟨x,⟨gN (fun _=>0),gN (fun _=>0)⟩,⟨gN (fun _=>0),gN (fun _=>0)⟩⟩,⟨⟨gN (fun _=>0),gN (fun _=>0)⟩,⟨gN (fun _=>0),gN (fun _=>0)⟩,⟨gN (fun _=>0),gN (fun _=>0)⟩⟩⟩:=fun x=>by
  rw [gN_z]
  have:S12.conj (⟨⟨x,0,0⟩,0⟩:S12) = ⟨⟨x,0,0⟩,0⟩:=S12.ext rfl (Rg.sub_self (R:=S6) 0)
  exact this
 exact h _
theorem gN_two:gN (wd (2 % W)) = ofN 2:=by decide +kernel
theorem tw_ne:(g12 (wd (2 % W)) (fun _=>0) (fun _=>0) (fun _=>0) (fun _=>0) (fun _=>0) (fun _=>0) (fun _=>0) (fun _=>0) (fun _=>0) (fun _=>0) (fun _=>0)) ≠ 0:=fun h=>by
 have e:gN (wd (2 % W)) = 0:=congrArg (fun z:S12=>z.p.u.x) h
 rw [gN_two] at e
 exact absurd (congrArg Fin.val e) (by decide +kernel)
theorem z_in:(lo1 (fun _=>0) (fun _=>0) && isE (fun _=>0) (fun _=>0) true) = true:=by
 rw [Bool.and_eq_true]
 refine ⟨by decide +kernel,(isIn_E _).2 ⟨trivial,EF.mul_zero rO,?_⟩⟩
 rw [gN_z];rfl
theorem z_pair:(prS (fun _=>0) (fun _=>0) (vF (ofN hx.1)) (vF (ofN hx.2)) (vF (ofN hy.1)) (vF (ofN hy.2)) true false) = 1/\(prI (fun _=>0) (fun _=>0) (vF (ofN hx.1)) (vF (ofN hx.2)) (vF (ofN hy.1)) (vF (ofN hy.2)) true false) = 0:=⟨by rw [prS_val z_in g2_in.1];exact eP_at_none _,prI_val z_in g2_in.1⟩
theorem ng_R:(⟨gN (vF (ofN gx)),0 - gN (vF (ofN gy)),false⟩:A2 Fp) = A2.of (EC.neg Go.Rq.g1):=by rw [gN_vF,gN_vF];rfl
theorem G1s_neg {r:Nat} (h:EF.mul r Go.Rq.g1 = none):EF.mul r (EC.neg Go.Rq.g1) = none:=by
 have e:=EF.mul_dist g1_on (EF.on_neg g1_on) r
 rw [EF.add_neg,EC.mul_zero,h] at e
 exact e.symm
theorem ng_in:(lo1 (vF (gN (vF (ofN gx)))) (vF (0 - gN (vF (ofN gy)))) && isE (vF (gN (vF (ofN gx)))) (vF (0 - gN (vF (ofN gy)))) false) = true/\ptE (vF (gN (vF (ofN gx)))) (vF (0 - gN (vF (ofN gy)))) false = EC.neg Go.Rq.g1:=inE_of (R:=⟨gN (vF (ofN gx)),0 - gN (vF (ofN gy)),false⟩) (X:=EC.neg Go.Rq.g1) ng_R ⟨EF.on_neg g1_on,G1s_neg g1_ord⟩
theorem walk_one {px py x0 x1 y0 y3:Nat->Nat} {P:Option (Fp × Fp)} {Q:Option (F2p × F2p)} (h1:(lo1 px py && isE px py false) = true) (h2:(lo2 x0 x1 y0 y3 && isQ x0 x1 y0 y3 false) = true) (hP:ptE px py false = P) (hQ:ptQ x0 x1 y0 y3 false = Q):lastS (walkS (gN px) (gN py) ⟨gN x0,gN x1⟩ ⟨gN y0,gN y3⟩) = eP Q P/\walkS (gN px) (gN py) ⟨gN x0,gN x1⟩ ⟨gN y0,gN y3⟩ ≠ 0:=by
 subst hP hQ
 exact pair_val (q:=(⟨gN x0,gN x1⟩,⟨gN y0,gN y3⟩)) (p:=(gN px,gN py)) (inQ_spec h2).2.1 (inE_spec h1).2.1.1
theorem two_last {a b:S12} {s t:S12} (h1:lastS a = s) (h2:lastS b = t) (ha:a ≠ 0) (hb:b ≠ 0) (h:s * t = 1):lastS (S12.mul (S12.mul 1 a) b) = 1:=by
 rw [show S12.mul 1 a = a from Rg.one_mul (R:=S12) a]
 show lastS (a * b) = 1
 rw [last_mul ha hb,h1,h2]
 exact h
theorem ng_last:(lastS (S12.mul (S12.mul 1 (walkS (gN (vF (ofN gx))) (gN (vF (ofN gy))) ⟨gN (vF (ofN hx.1)),gN (vF (ofN hx.2))⟩ ⟨gN (vF (ofN hy.1)),gN (vF (ofN hy.2))⟩)) (walkS (gN (vF (gN (vF (ofN gx))))) (gN (vF (0 - gN (vF (ofN gy))))) ⟨gN (vF (ofN hx.1)),gN (vF (ofN hx.2))⟩ ⟨gN (vF (ofN hy.1)),gN (vF (ofN hy.2))⟩))) = 1:=by
 obtain ⟨a1,a2⟩:=walk_one g1_in.1 g2_in.1 g1_in.2 g2_in.2
 obtain ⟨b1,b2⟩:=walk_one ng_in.1 g2_in.1 ng_in.2 g2_in.2
 refine two_last a1 b1 a2 b2 ?_
 rw [<-eP_1 G2s_g2 g1_on (EF.on_neg g1_on),EF.add_neg]
 exact eP_at_none _
theorem t_on:EF.on (some (0,ofN 2)):=by
 show ofN 2 * ofN 2 = 0 * 0 * 0 + 0 * 0 + ofN 4
 decide +kernel
theorem t_slope:EF.slope (0,ofN 2) (0,ofN 2) = 0:=by
 unfold EC.slope
 rw [if_pos rfl]
 show (0 * 0 + 0 * 0 + 0 * 0 + 0:Fp) * _ = 0
 rw [show (0 * 0 + 0 * 0 + 0 * 0 + 0:Fp) = 0 by decide +kernel]
 exact Rg.zero_mul (R:=Fp) _
theorem t_two:EF.add (some (0,ofN 2)) (some (0,ofN 2)) = some (0,0 - ofN 2):=by
 show (if EC.Opp (0,ofN 2) (0,ofN 2) then none else some (EC.by' (EF.slope (0,ofN 2) (0,ofN 2)) (0,ofN 2) (0,ofN 2))) = _
 rw [if_neg (by decide +kernel),t_slope]
 decide +kernel
theorem t_three:EF.mul 3 (some (0,ofN 2)) = none:=by
 show EF.add (EF.add (some (0,ofN 2)) (some (0,ofN 2))) (some (0,ofN 2)) = none
 rw [t_two]
 have ho:EC.Opp ((0:Fp),0 - ofN 2) (0,ofN 2):=by decide +kernel
 show (if EC.Opp (0,0 - ofN 2) (0,ofN 2) then none else some (EC.by' (EF.slope (0,0 - ofN 2) (0,ofN 2)) (0,0 - ofN 2) (0,ofN 2))) = none
 exact if_pos ho
theorem t_ne {r:Nat} (h:∃ k,r = 3 * k + 1):EF.mul r (some (0,ofN 2)) ≠ none:=by
 obtain ⟨k,rfl⟩:=h
 intro e
 rw [EF.mul_add t_on,<-EF.mul_mul t_on,t_three,EC.mul_zero,EC.mul_one] at e
 cases e
theorem t_r:∃ k,rO = 3 * k + 1:=⟨rO / 3,by decide +kernel⟩
theorem t_in:isE (fun _=>0) (wd (2 % W)) false = false:=by
 rw [<-Bool.not_eq_true]
 intro h
 have h2:=((isIn_E _).1 h).2.1
 rw [gN_z,gN_two] at h2
 exact t_ne t_r h2
theorem t_pair:(prI (fun _=>0) (wd (2 % W)) (vF (ofN hx.1)) (vF (ofN hx.2)) (vF (ofN hy.1)) (vF (ofN hy.2)) false false) = 5:=by
 unfold prI prB
 rw [t_in,Bool.and_false,Bool.false_and]
 rfl
theorem pairingKnown_calls (w:World) :
  Calls Tryz.prog 5 (([]:List AV).map (AV.val fun _=>0)).toArray w (fun e w'=>e = .returned (.bool true)/\StepW w w'):=by
 refine pure_calls tt_ok Tryz.func5 (by kernel_rfl) (by kernel_rfl) (v:=.v1 (.sc (.bo true))) (by kernel_rfl) ?_ w
 refine evS_q mixed tt_ok GPk_ok 300 [⟨9,7,.lit (.bo true)⟩,⟨9,11,.lit (.bo true)⟩,⟨9,16,.lit (.bo true)⟩,⟨9,25,.lit (.bo true)⟩,⟨9,33,.lit (.bo true)⟩,⟨9,41,.lit (.bo true)⟩,⟨9,46,.lit (.bo true)⟩,⟨9,50,.lit (.bo true)⟩] ?_
 refine same (p:=lo1 (vF (ofN gx)) (vF (ofN gy)) = true/\A2.on fourE (⟨gN (vF (ofN gx)),gN (vF (ofN gy)),false⟩:A2 Fp) = true/\(lo1 (vF (ofN gx)) (vF (ofN gy)) && isE (vF (ofN gx)) (vF (ofN gy)) false) = true/\(lo1 (vF (gN (vF (ofN gx)))) (vF (0 - gN (vF (ofN gy)))) && isE (vF (gN (vF (ofN gx)))) (vF (0 - gN (vF (ofN gy)))) false) = true/\(lo2 (vF (ofN hx.1)) (vF (ofN hx.2)) (vF (ofN hy.1)) (vF (ofN hy.2)) && isQ (vF (ofN hx.1)) (vF (ofN hx.2)) (vF (ofN hy.1)) (vF (ofN hy.2)) false) = true/\(lo2 (vF (ofN hx.1)) (vF (ofN hx.2)) (vF (ofN hy.1)) (vF (ofN hy.2)) && isQ (vF (ofN hx.1)) (vF (ofN hx.2)) (vF (ofN hy.1)) (vF (ofN hy.2)) false) = true/\qL (nL (prS (fun _=>0) (fun _=>0) (vF (ofN hx.1)) (vF (ofN hx.2)) (vF (ofN hy.1)) (vF (ofN hy.2)) true false)) (nL 1) = true/\ieq (prI (fun _=>0) (fun _=>0) (vF (ofN hx.1)) (vF (ofN hx.2)) (vF (ofN hy.1)) (vF (ofN hy.2)) true false) 0 = true/\qL (nL (lastS 1)) (nL 1) = true/\qL (nL (lastS (S12.mul (S12.mul 1 (walkS (gN (vF (ofN gx))) (gN (vF (ofN gy))) ⟨gN (vF (ofN hx.1)),gN (vF (ofN hx.2))⟩ ⟨gN (vF (ofN hy.1)),gN (vF (ofN hy.2))⟩)) (walkS (gN (vF (gN (vF (ofN gx))))) (gN (vF (0 - gN (vF (ofN gy))))) ⟨gN (vF (ofN hx.1)),gN (vF (ofN hx.2))⟩ ⟨gN (vF (ofN hy.1)),gN (vF (ofN hy.2))⟩)))) (nL 1) = true/\ieq (prI (fun _=>0) (wd (2 % W)) (vF (ofN hx.1)) (vF (ofN hx.2)) (vF (ofN hy.1)) (vF (ofN hy.2)) false false) 5 = true/\ieq (invE (g12 (fun _=>0) (fun _=>0) (fun _=>0) (fun _=>0) (fun _=>0) (fun _=>0) (fun _=>0) (fun _=>0) (fun _=>0) (fun _=>0) (fun _=>0) (fun _=>0))) 6 = true/\qL (nL (lastz (g12 (wd (2 % W)) (fun _=>0) (fun _=>0) (fun _=>0) (fun _=>0) (fun _=>0) (fun _=>0) (fun _=>0) (fun _=>0) (fun _=>0) (fun _=>0) (fun _=>0)))) (nL 1) = true/\ieq (invE (g12 (wd (2 % W)) (fun _=>0) (fun _=>0) (fun _=>0) (fun _=>0) (fun _=>0) (fun _=>0) (fun _=>0) (fun _=>0) (fun _=>0) (fun _=>0) (fun _=>0))) 0 = true/\endT) ?_ (by kernel_rfl)
 have hg:=inE_spec g1_in.1
 exact ⟨hg.1,onE_of hg.2.1 hg.2.2,g1_in.1,ng_in.1,g2_in.1,g2_in.1,qn_of z_pair.1,by rw [z_pair.2];rfl,qn_of lastS_1,qn_of ng_last,by rw [t_pair];rfl,by rw [show (g12 (fun _=>0) (fun _=>0) (fun _=>0) (fun _=>0) (fun _=>0) (fun _=>0) (fun _=>0) (fun _=>0) (fun _=>0) (fun _=>0) (fun _=>0) (fun _=>0)) = zg12 from rfl,invE_0];rfl,qn_of (by rw [lastz_f tw_ne];exact last_conj tw_ne (two_conj _)),by rw [invE_f tw_ne];rfl,endT_ok⟩
theorem pairingKnown_lifted (os:Os) (started:os.Started) (H:Type) (enc:TypeId × Value->H) :
  ReturnsInHanded {} Tryz.checked os 5 .any (Rows.pairingKnownSpec.pre6 enc Tryz.prog Tryz.f5 Rows.pairingKnownRow.domain false) (Rows.pairingKnownSpec.post enc Tryz.prog Tryz.f5 false true false false):=by
 refine returnsInHanded_of_change (C:=Tryz.checked) Tryz.own started (by kernel_rfl) Tryz.func5
  (ChangeSpec.witness6 (enc:=enc) (C:=Tryz.checked) false ⟨#[],#[],[]⟩ 8 (by kernel_rfl) (by kernel_rfl) (by kernel_rfl) (by kernel_rfl)) ?_
 intro Wd base args ds gs before hval0 hW _ _
 have hval:∀ (j:Nat) t v,Tryz.f5.params[j]? = some t->args[j]? = some v->Value.okWide Tryz.prog Wd .any base t v:=hval0
 have hW':=hW
 obtain ⟨p,q,hA0,hV,rfl,_,_⟩:=hW
 have hA:DataW.TrodAll enc Tryz.prog Wd 0 (fun _=>true) true Tryz.f5.params.toList args.toList ds p:=hA0
 rw [Tryz.params5] at hA hval
 obtain ⟨rfl,rfl,rfl⟩:=trodAll_none hA
 obtain ⟨rfl,rfl⟩:=trodVars_none hV
 clear hA0 hval0
 refine (pairingKnown_calls  Wd).mono fun e W' ⟨he,hw⟩=>?_
 subst he
 exact ⟨_,rfl,post_same (pa:=[]) (pv:=[]) hW' (fun _ _ _=>trodAll_mk1 (shut_bool Tryz.underlying4 true)) (fun sp _=>trodAll_mk0) (fun _ _=>rfl) rfl hw (ok_one (by kernel_rfl) rfl (okWide_bool_mk Tryz.underlying4 true))⟩
theorem pairingKnown_holds:Rows.PairingKnownSaid :=
 OpenClaim.holds_of_wide 5 Tryz.f5 rfl rfl rfl rfl rfl rfl rfl ⟨rfl,rfl,rfl,rfl,rfl⟩ rfl rfl rfl rfl rfl (by kernel_rfl) Tryz.func5 (by kernel_rfl)
  (of_decide_eq_true (by kernel_rfl)) (by unfold Func.isWrapper;rw [if_neg (of_decide_eq_false (by kernel_rfl))];exact ⟨rfl,rfl⟩)
  (fun os started H enc _=>pairingKnown_lifted os started H enc)
end Go.Proofs.YtnjocbcjejpklaaGreat
