/- reliquarylaw06.PairingOrder answers true at every input, and leaves it as it was. Conditions: none. Printed by genpord.py. -/
import Derived.Test.YtnjocbcjejpklaaGreatZoG
import Derived.Test.YtnjocbcjejpklaaGreatRows
import Derived.Carry
set_option linter.all false
namespace Go.Proofs.YtnjocbcjejpklaaGreat
open Go.Rq Go Go.ChangeShapes Go.WideShapes Go.ChangeAt Go.RowKit
set_option maxRecDepth 100000
set_option linter.unusedVariables false
set_option linter.unusedSimpArgs false
def GPod:Ctx:=ctxL [(15,.pure cAwake6),(30,.pure (cGen gen1V)),(27,.pure (cGen gen2V)),(21,.pure muCE),(23,.pure muCQ),(7,.pure cPair),(25,.pure cTPow),(32,.pure (c12 (n12 1))),(33,.pure (cK orderF))]
theorem GPod_ok:CtxOk Tryz.prog GPod:=ctxL_cons okAwake6 <| ctxL_cons okGen1 <| ctxL_cons okGen2 <| ctxL_cons okMuE <| ctxL_cons okMuQ <| ctxL_cons okPair <| ctxL_cons okTPow <| ctxL_cons okTOne <| ctxL_cons okOrderF ctxL_nil
theorem g1_in:(lo1 (vF (ofN gx)) (vF (ofN gy)) && isE (vF (ofN gx)) (vF (ofN gy)) false) = true/\ptE (vF (ofN gx)) (vF (ofN gy)) false = Go.Rq.g1:=inE_of (R:=⟨ofN gx,ofN gy,false⟩) (X:=Go.Rq.g1) rfl ⟨g1_on,g1_ord⟩
theorem g2_in:(lo2 (vF (ofN hx.1)) (vF (ofN hx.2)) (vF (ofN hy.1)) (vF (ofN hy.2)) && isQ (vF (ofN hx.1)) (vF (ofN hx.2)) (vF (ofN hy.1)) (vF (ofN hy.2)) false) = true/\ptQ (vF (ofN hx.1)) (vF (ofN hx.2)) (vF (ofN hy.1)) (vF (ofN hy.2)) false = Go.Rq.g2:=inQ_of (R:=⟨qv hx,qv hy,false⟩) (X:=Go.Rq.g2) rfl G2s_g2
theorem gen_m (m:Nat):suE1 (vF (ofN gx)) (vF (ofN gy)) false m = A2.of (EF.mul m Go.Rq.g1):=by rw [suE1_val g1_in.1,g1_in.2]
theorem gen_n (n:Nat):suQ1 (vF (ofN hx.1)) (vF (ofN hx.2)) (vF (ofN hy.1)) (vF (ofN hy.2)) false n = A2.of (ET.mul n Go.Rq.g2):=by rw [suQ1_val g2_in.1,g2_in.2]
theorem eP_ne {r m n:Nat} (hinv:∀ n,¬ r ∣ n->∃ m,n * m % r = 1 % r) (hd:∀ a b,r ∣ a * b->r ∣ a∨r ∣ b) (h1:EF.mul r Go.Rq.g1 = none) (h2:ET.mul r Go.Rq.g2 = none) (hQ:G2s Go.Rq.g2) (he:eP Go.Rq.g2 Go.Rq.g1 ≠ 1) (h:eP (ET.mul n Go.Rq.g2) (EF.mul m Go.Rq.g1) = 1):EF.mul m Go.Rq.g1 = none∨ET.mul n Go.Rq.g2 = none:=by
 rw [eP_mul hQ g1_on] at h
 by_cases hr:r ∣ m * n
 ·rcases hd _ _ hr with ⟨k,rfl⟩ | ⟨k,rfl⟩
  ·left;rw [<-EF.mul_mul g1_on,h1,EC.mul_zero]
  ·right;rw [<-ET.mul_mul g2_on,h2,EC.mul_zero]
 ·exact absurd (one_of hinv (eP_r_n hQ g1_on h2) h hr) he
theorem eP_one (m n:Nat):eP (ET.mul n Go.Rq.g2) (EF.mul m Go.Rq.g1) = 1↔(EF.mul m Go.Rq.g1 = none∨ET.mul n Go.Rq.g2 = none):=by
 constructor
 ·exact eP_ne rO_inv rO_dvd g1_ord g2_ord G2s_g2 (fun e=>eN_ne (eP_gen.symm.trans e))
 ·rintro (h | h)
  ·rw [h];exact eP_at_none _
  ·rw [h];exact eP_none _
theorem gen_pair (m n:Nat->Nat):(prS (vF (suE1 (vF (ofN gx)) (vF (ofN gy)) false (nv m)).x) (vF (suE1 (vF (ofN gx)) (vF (ofN gy)) false (nv m)).y) (vF (suQ1 (vF (ofN hx.1)) (vF (ofN hx.2)) (vF (ofN hy.1)) (vF (ofN hy.2)) false (nv n)).x.x) (vF (suQ1 (vF (ofN hx.1)) (vF (ofN hx.2)) (vF (ofN hy.1)) (vF (ofN hy.2)) false (nv n)).x.y) (vF (suQ1 (vF (ofN hx.1)) (vF (ofN hx.2)) (vF (ofN hy.1)) (vF (ofN hy.2)) false (nv n)).y.x) (vF (suQ1 (vF (ofN hx.1)) (vF (ofN hx.2)) (vF (ofN hy.1)) (vF (ofN hy.2)) false (nv n)).y.y) (suE1 (vF (ofN gx)) (vF (ofN gy)) false (nv m)).z (suQ1 (vF (ofN hx.1)) (vF (ofN hx.2)) (vF (ofN hy.1)) (vF (ofN hy.2)) false (nv n)).z) = eP (ET.mul (nv n) Go.Rq.g2) (EF.mul (nv m) Go.Rq.g1)/\(prI (vF (suE1 (vF (ofN gx)) (vF (ofN gy)) false (nv m)).x) (vF (suE1 (vF (ofN gx)) (vF (ofN gy)) false (nv m)).y) (vF (suQ1 (vF (ofN hx.1)) (vF (ofN hx.2)) (vF (ofN hy.1)) (vF (ofN hy.2)) false (nv n)).x.x) (vF (suQ1 (vF (ofN hx.1)) (vF (ofN hx.2)) (vF (ofN hy.1)) (vF (ofN hy.2)) false (nv n)).x.y) (vF (suQ1 (vF (ofN hx.1)) (vF (ofN hx.2)) (vF (ofN hy.1)) (vF (ofN hy.2)) false (nv n)).y.x) (vF (suQ1 (vF (ofN hx.1)) (vF (ofN hx.2)) (vF (ofN hy.1)) (vF (ofN hy.2)) false (nv n)).y.y) (suE1 (vF (ofN gx)) (vF (ofN gy)) false (nv m)).z (suQ1 (vF (ofN hx.1)) (vF (ofN hx.2)) (vF (ofN hy.1)) (vF (ofN hy.2)) false (nv n)).z) = 0:=by
 obtain ⟨h1,h2⟩:=inE_of (gen_m (nv m)) (G1s_mul (Q:=Go.Rq.g1) ⟨g1_on,g1_ord⟩ _)
 obtain ⟨k1,k2⟩:=inQ_of (gen_n (nv n)) (G2s_mul (Q:=Go.Rq.g2) G2s_g2 _)
 exact ⟨by rw [prS_val h1 k1,h2,k2],prI_val h1 k1⟩
theorem nv_orderO:nv orderF = rO:=nv_order.trans rNm_rO
theorem gen_r (m n:Nat->Nat):(G12 (prS (vF (suE1 (vF (ofN gx)) (vF (ofN gy)) false (nv m)).x) (vF (suE1 (vF (ofN gx)) (vF (ofN gy)) false (nv m)).y) (vF (suQ1 (vF (ofN hx.1)) (vF (ofN hx.2)) (vF (ofN hy.1)) (vF (ofN hy.2)) false (nv n)).x.x) (vF (suQ1 (vF (ofN hx.1)) (vF (ofN hx.2)) (vF (ofN hy.1)) (vF (ofN hy.2)) false (nv n)).x.y) (vF (suQ1 (vF (ofN hx.1)) (vF (ofN hx.2)) (vF (ofN hy.1)) (vF (ofN hy.2)) false (nv n)).y.x) (vF (suQ1 (vF (ofN hx.1)) (vF (ofN hx.2)) (vF (ofN hy.1)) (vF (ofN hy.2)) false (nv n)).y.y) (suE1 (vF (ofN gx)) (vF (ofN gy)) false (nv m)).z (suQ1 (vF (ofN hx.1)) (vF (ofN hx.2)) (vF (ofN hy.1)) (vF (ofN hy.2)) false (nv n)).z) ^ nv orderF) = 1:=by
 rw [G12_eq,(gen_pair m n).1,nv_orderO]
 exact eP_r (G2s_mul (Q:=Go.Rq.g2) G2s_g2 _) (EF.on_mul g1_on _)
theorem of_z {F:Type} [CR F] [DecidableEq F] {X:Option (F × F)} (h:X = none):(A2.of X).z = true:=by rw [h];rfl
theorem of_nz {F:Type} [CR F] [DecidableEq F] {X:Option (F × F)} (h:X ≠ none):(A2.of X).z = false:=by
 cases X with
 | none=>exact absurd rfl h
 | some q=>rfl
theorem qn_f {s t:S12} (h:s ≠ t):qL (nL s) (nL t) = false:=by
 rw [<-Bool.not_eq_true]
 intro e
 apply h
 simp only [qL,Bool.and_eq_true,eqN_vF] at e
 obtain ⟨a0,a1,a2,a3,a4,a5,a6,a7,a8,a9,a10,a11,_⟩:=e
 exact S12.ext (S6.ext (F2p.ext a0 a1) (F2p.ext a4 a5) (F2p.ext a8 a9)) (S6.ext (F2p.ext a2 a3) (F2p.ext a6 a7) (F2p.ext a10 a11))
theorem pairingOrder_calls (m n:Nat->Nat) (w:World) :
  Calls Tryz.prog 6 (([.v1 (.agg [.ws .u64 6 m]),.v1 (.agg [.ws .u64 6 n])]:List AV).map (AV.val fun _=>0)).toArray w (fun e w'=>e = .returned (.bool true)/\StepW w w'):=by
 refine pure_calls tt_ok Tryz.func6 (by kernel_rfl) (by kernel_rfl) (v:=.v1 (.sc (.bo true))) (by kernel_rfl) ?_ w
 obtain ⟨hx1,hi⟩:=gen_pair m n
 have hr:=gen_r m n
 have ho:=eP_one (nv m) (nv n)
 by_cases ha:EF.mul (nv m) Go.Rq.g1 = none
 ·have hz:(suE1 (vF (ofN gx)) (vF (ofN gy)) false (nv m)).z = true:=by rw [gen_m];exact of_z ha
  have h1:(prS (vF (suE1 (vF (ofN gx)) (vF (ofN gy)) false (nv m)).x) (vF (suE1 (vF (ofN gx)) (vF (ofN gy)) false (nv m)).y) (vF (suQ1 (vF (ofN hx.1)) (vF (ofN hx.2)) (vF (ofN hy.1)) (vF (ofN hy.2)) false (nv n)).x.x) (vF (suQ1 (vF (ofN hx.1)) (vF (ofN hx.2)) (vF (ofN hy.1)) (vF (ofN hy.2)) false (nv n)).x.y) (vF (suQ1 (vF (ofN hx.1)) (vF (ofN hx.2)) (vF (ofN hy.1)) (vF (ofN hy.2)) false (nv n)).y.x) (vF (suQ1 (vF (ofN hx.1)) (vF (ofN hx.2)) (vF (ofN hy.1)) (vF (ofN hy.2)) false (nv n)).y.y) (suE1 (vF (ofN gx)) (vF (ofN gy)) false (nv m)).z (suQ1 (vF (ofN hx.1)) (vF (ofN hx.2)) (vF (ofN hy.1)) (vF (ofN hy.2)) false (nv n)).z) = 1:=hx1.trans (ho.2 (.inl ha))
  refine evS_q mixed tt_ok GPod_ok 200 [⟨5,3,.lit (.bo true)⟩,⟨5,10,.lit (.bo true)⟩,⟨5,15,.lit (.bo true)⟩,⟨5,17,.lit (.bo true)⟩,⟨5,20,.lit (.bo true)⟩] ?_
  refine same (p:=ieq (prI (vF (suE1 (vF (ofN gx)) (vF (ofN gy)) false (nv m)).x) (vF (suE1 (vF (ofN gx)) (vF (ofN gy)) false (nv m)).y) (vF (suQ1 (vF (ofN hx.1)) (vF (ofN hx.2)) (vF (ofN hy.1)) (vF (ofN hy.2)) false (nv n)).x.x) (vF (suQ1 (vF (ofN hx.1)) (vF (ofN hx.2)) (vF (ofN hy.1)) (vF (ofN hy.2)) false (nv n)).x.y) (vF (suQ1 (vF (ofN hx.1)) (vF (ofN hx.2)) (vF (ofN hy.1)) (vF (ofN hy.2)) false (nv n)).y.x) (vF (suQ1 (vF (ofN hx.1)) (vF (ofN hx.2)) (vF (ofN hy.1)) (vF (ofN hy.2)) false (nv n)).y.y) (suE1 (vF (ofN gx)) (vF (ofN gy)) false (nv m)).z (suQ1 (vF (ofN hx.1)) (vF (ofN hx.2)) (vF (ofN hy.1)) (vF (ofN hy.2)) false (nv n)).z) 0 = true/\qL (nL (G12 (prS (vF (suE1 (vF (ofN gx)) (vF (ofN gy)) false (nv m)).x) (vF (suE1 (vF (ofN gx)) (vF (ofN gy)) false (nv m)).y) (vF (suQ1 (vF (ofN hx.1)) (vF (ofN hx.2)) (vF (ofN hy.1)) (vF (ofN hy.2)) false (nv n)).x.x) (vF (suQ1 (vF (ofN hx.1)) (vF (ofN hx.2)) (vF (ofN hy.1)) (vF (ofN hy.2)) false (nv n)).x.y) (vF (suQ1 (vF (ofN hx.1)) (vF (ofN hx.2)) (vF (ofN hy.1)) (vF (ofN hy.2)) false (nv n)).y.x) (vF (suQ1 (vF (ofN hx.1)) (vF (ofN hx.2)) (vF (ofN hy.1)) (vF (ofN hy.2)) false (nv n)).y.y) (suE1 (vF (ofN gx)) (vF (ofN gy)) false (nv m)).z (suQ1 (vF (ofN hx.1)) (vF (ofN hx.2)) (vF (ofN hy.1)) (vF (ofN hy.2)) false (nv n)).z) ^ nv orderF)) (nL 1) = true/\qL (nL (prS (vF (suE1 (vF (ofN gx)) (vF (ofN gy)) false (nv m)).x) (vF (suE1 (vF (ofN gx)) (vF (ofN gy)) false (nv m)).y) (vF (suQ1 (vF (ofN hx.1)) (vF (ofN hx.2)) (vF (ofN hy.1)) (vF (ofN hy.2)) false (nv n)).x.x) (vF (suQ1 (vF (ofN hx.1)) (vF (ofN hx.2)) (vF (ofN hy.1)) (vF (ofN hy.2)) false (nv n)).x.y) (vF (suQ1 (vF (ofN hx.1)) (vF (ofN hx.2)) (vF (ofN hy.1)) (vF (ofN hy.2)) false (nv n)).y.x) (vF (suQ1 (vF (ofN hx.1)) (vF (ofN hx.2)) (vF (ofN hy.1)) (vF (ofN hy.2)) false (nv n)).y.y) (suE1 (vF (ofN gx)) (vF (ofN gy)) false (nv m)).z (suQ1 (vF (ofN hx.1)) (vF (ofN hx.2)) (vF (ofN hy.1)) (vF (ofN hy.2)) false (nv n)).z)) (nL 1) = true/\(suE1 (vF (ofN gx)) (vF (ofN gy)) false (nv m)).z = true/\endT) ?_ (by kernel_rfl)
  exact ⟨by rw [hi];rfl,qn_of hr,qn_of h1,hz,endT_ok⟩
 ·have hz:(suE1 (vF (ofN gx)) (vF (ofN gy)) false (nv m)).z = false:=by rw [gen_m];exact of_nz ha
  by_cases hb:ET.mul (nv n) Go.Rq.g2 = none
  ·have kz:(suQ1 (vF (ofN hx.1)) (vF (ofN hx.2)) (vF (ofN hy.1)) (vF (ofN hy.2)) false (nv n)).z = true:=by rw [gen_n];exact of_z hb
   have h1:(prS (vF (suE1 (vF (ofN gx)) (vF (ofN gy)) false (nv m)).x) (vF (suE1 (vF (ofN gx)) (vF (ofN gy)) false (nv m)).y) (vF (suQ1 (vF (ofN hx.1)) (vF (ofN hx.2)) (vF (ofN hy.1)) (vF (ofN hy.2)) false (nv n)).x.x) (vF (suQ1 (vF (ofN hx.1)) (vF (ofN hx.2)) (vF (ofN hy.1)) (vF (ofN hy.2)) false (nv n)).x.y) (vF (suQ1 (vF (ofN hx.1)) (vF (ofN hx.2)) (vF (ofN hy.1)) (vF (ofN hy.2)) false (nv n)).y.x) (vF (suQ1 (vF (ofN hx.1)) (vF (ofN hx.2)) (vF (ofN hy.1)) (vF (ofN hy.2)) false (nv n)).y.y) (suE1 (vF (ofN gx)) (vF (ofN gy)) false (nv m)).z (suQ1 (vF (ofN hx.1)) (vF (ofN hx.2)) (vF (ofN hy.1)) (vF (ofN hy.2)) false (nv n)).z) = 1:=hx1.trans (ho.2 (.inr hb))
   refine evS_q mixed tt_ok GPod_ok 200 [⟨5,3,.lit (.bo true)⟩,⟨5,10,.lit (.bo true)⟩,⟨5,15,.lit (.bo true)⟩,⟨5,17,.lit (.bo false)⟩,⟨5,20,.lit (.bo true)⟩] ?_
   refine same (p:=ieq (prI (vF (suE1 (vF (ofN gx)) (vF (ofN gy)) false (nv m)).x) (vF (suE1 (vF (ofN gx)) (vF (ofN gy)) false (nv m)).y) (vF (suQ1 (vF (ofN hx.1)) (vF (ofN hx.2)) (vF (ofN hy.1)) (vF (ofN hy.2)) false (nv n)).x.x) (vF (suQ1 (vF (ofN hx.1)) (vF (ofN hx.2)) (vF (ofN hy.1)) (vF (ofN hy.2)) false (nv n)).x.y) (vF (suQ1 (vF (ofN hx.1)) (vF (ofN hx.2)) (vF (ofN hy.1)) (vF (ofN hy.2)) false (nv n)).y.x) (vF (suQ1 (vF (ofN hx.1)) (vF (ofN hx.2)) (vF (ofN hy.1)) (vF (ofN hy.2)) false (nv n)).y.y) (suE1 (vF (ofN gx)) (vF (ofN gy)) false (nv m)).z (suQ1 (vF (ofN hx.1)) (vF (ofN hx.2)) (vF (ofN hy.1)) (vF (ofN hy.2)) false (nv n)).z) 0 = true/\qL (nL (G12 (prS (vF (suE1 (vF (ofN gx)) (vF (ofN gy)) false (nv m)).x) (vF (suE1 (vF (ofN gx)) (vF (ofN gy)) false (nv m)).y) (vF (suQ1 (vF (ofN hx.1)) (vF (ofN hx.2)) (vF (ofN hy.1)) (vF (ofN hy.2)) false (nv n)).x.x) (vF (suQ1 (vF (ofN hx.1)) (vF (ofN hx.2)) (vF (ofN hy.1)) (vF (ofN hy.2)) false (nv n)).x.y) (vF (suQ1 (vF (ofN hx.1)) (vF (ofN hx.2)) (vF (ofN hy.1)) (vF (ofN hy.2)) false (nv n)).y.x) (vF (suQ1 (vF (ofN hx.1)) (vF (ofN hx.2)) (vF (ofN hy.1)) (vF (ofN hy.2)) false (nv n)).y.y) (suE1 (vF (ofN gx)) (vF (ofN gy)) false (nv m)).z (suQ1 (vF (ofN hx.1)) (vF (ofN hx.2)) (vF (ofN hy.1)) (vF (ofN hy.2)) false (nv n)).z) ^ nv orderF)) (nL 1) = true/\qL (nL (prS (vF (suE1 (vF (ofN gx)) (vF (ofN gy)) false (nv m)).x) (vF (suE1 (vF (ofN gx)) (vF (ofN gy)) false (nv m)).y) (vF (suQ1 (vF (ofN hx.1)) (vF (ofN hx.2)) (vF (ofN hy.1)) (vF (ofN hy.2)) false (nv n)).x.x) (vF (suQ1 (vF (ofN hx.1)) (vF (ofN hx.2)) (vF (ofN hy.1)) (vF (ofN hy.2)) false (nv n)).x.y) (vF (suQ1 (vF (ofN hx.1)) (vF (ofN hx.2)) (vF (ofN hy.1)) (vF (ofN hy.2)) false (nv n)).y.x) (vF (suQ1 (vF (ofN hx.1)) (vF (ofN hx.2)) (vF (ofN hy.1)) (vF (ofN hy.2)) false (nv n)).y.y) (suE1 (vF (ofN gx)) (vF (ofN gy)) false (nv m)).z (suQ1 (vF (ofN hx.1)) (vF (ofN hx.2)) (vF (ofN hy.1)) (vF (ofN hy.2)) false (nv n)).z)) (nL 1) = true/\(suE1 (vF (ofN gx)) (vF (ofN gy)) false (nv m)).z = false/\(suQ1 (vF (ofN hx.1)) (vF (ofN hx.2)) (vF (ofN hy.1)) (vF (ofN hy.2)) false (nv n)).z = true/\endT) ?_ (by kernel_rfl)
   exact ⟨by rw [hi];rfl,qn_of hr,qn_of h1,hz,kz,endT_ok⟩
  ·have kz:(suQ1 (vF (ofN hx.1)) (vF (ofN hx.2)) (vF (ofN hy.1)) (vF (ofN hy.2)) false (nv n)).z = false:=by rw [gen_n];exact of_nz hb
   have h1:(prS (vF (suE1 (vF (ofN gx)) (vF (ofN gy)) false (nv m)).x) (vF (suE1 (vF (ofN gx)) (vF (ofN gy)) false (nv m)).y) (vF (suQ1 (vF (ofN hx.1)) (vF (ofN hx.2)) (vF (ofN hy.1)) (vF (ofN hy.2)) false (nv n)).x.x) (vF (suQ1 (vF (ofN hx.1)) (vF (ofN hx.2)) (vF (ofN hy.1)) (vF (ofN hy.2)) false (nv n)).x.y) (vF (suQ1 (vF (ofN hx.1)) (vF (ofN hx.2)) (vF (ofN hy.1)) (vF (ofN hy.2)) false (nv n)).y.x) (vF (suQ1 (vF (ofN hx.1)) (vF (ofN hx.2)) (vF (ofN hy.1)) (vF (ofN hy.2)) false (nv n)).y.y) (suE1 (vF (ofN gx)) (vF (ofN gy)) false (nv m)).z (suQ1 (vF (ofN hx.1)) (vF (ofN hx.2)) (vF (ofN hy.1)) (vF (ofN hy.2)) false (nv n)).z) ≠ 1:=fun e=>(ho.1 (hx1.symm.trans e)).elim ha hb
   refine evS_q mixed tt_ok GPod_ok 200 [⟨5,3,.lit (.bo true)⟩,⟨5,10,.lit (.bo true)⟩,⟨5,15,.lit (.bo false)⟩,⟨5,17,.lit (.bo false)⟩,⟨5,20,.lit (.bo false)⟩] ?_
   refine same (p:=ieq (prI (vF (suE1 (vF (ofN gx)) (vF (ofN gy)) false (nv m)).x) (vF (suE1 (vF (ofN gx)) (vF (ofN gy)) false (nv m)).y) (vF (suQ1 (vF (ofN hx.1)) (vF (ofN hx.2)) (vF (ofN hy.1)) (vF (ofN hy.2)) false (nv n)).x.x) (vF (suQ1 (vF (ofN hx.1)) (vF (ofN hx.2)) (vF (ofN hy.1)) (vF (ofN hy.2)) false (nv n)).x.y) (vF (suQ1 (vF (ofN hx.1)) (vF (ofN hx.2)) (vF (ofN hy.1)) (vF (ofN hy.2)) false (nv n)).y.x) (vF (suQ1 (vF (ofN hx.1)) (vF (ofN hx.2)) (vF (ofN hy.1)) (vF (ofN hy.2)) false (nv n)).y.y) (suE1 (vF (ofN gx)) (vF (ofN gy)) false (nv m)).z (suQ1 (vF (ofN hx.1)) (vF (ofN hx.2)) (vF (ofN hy.1)) (vF (ofN hy.2)) false (nv n)).z) 0 = true/\qL (nL (G12 (prS (vF (suE1 (vF (ofN gx)) (vF (ofN gy)) false (nv m)).x) (vF (suE1 (vF (ofN gx)) (vF (ofN gy)) false (nv m)).y) (vF (suQ1 (vF (ofN hx.1)) (vF (ofN hx.2)) (vF (ofN hy.1)) (vF (ofN hy.2)) false (nv n)).x.x) (vF (suQ1 (vF (ofN hx.1)) (vF (ofN hx.2)) (vF (ofN hy.1)) (vF (ofN hy.2)) false (nv n)).x.y) (vF (suQ1 (vF (ofN hx.1)) (vF (ofN hx.2)) (vF (ofN hy.1)) (vF (ofN hy.2)) false (nv n)).y.x) (vF (suQ1 (vF (ofN hx.1)) (vF (ofN hx.2)) (vF (ofN hy.1)) (vF (ofN hy.2)) false (nv n)).y.y) (suE1 (vF (ofN gx)) (vF (ofN gy)) false (nv m)).z (suQ1 (vF (ofN hx.1)) (vF (ofN hx.2)) (vF (ofN hy.1)) (vF (ofN hy.2)) false (nv n)).z) ^ nv orderF)) (nL 1) = true/\qL (nL (prS (vF (suE1 (vF (ofN gx)) (vF (ofN gy)) false (nv m)).x) (vF (suE1 (vF (ofN gx)) (vF (ofN gy)) false (nv m)).y) (vF (suQ1 (vF (ofN hx.1)) (vF (ofN hx.2)) (vF (ofN hy.1)) (vF (ofN hy.2)) false (nv n)).x.x) (vF (suQ1 (vF (ofN hx.1)) (vF (ofN hx.2)) (vF (ofN hy.1)) (vF (ofN hy.2)) false (nv n)).x.y) (vF (suQ1 (vF (ofN hx.1)) (vF (ofN hx.2)) (vF (ofN hy.1)) (vF (ofN hy.2)) false (nv n)).y.x) (vF (suQ1 (vF (ofN hx.1)) (vF (ofN hx.2)) (vF (ofN hy.1)) (vF (ofN hy.2)) false (nv n)).y.y) (suE1 (vF (ofN gx)) (vF (ofN gy)) false (nv m)).z (suQ1 (vF (ofN hx.1)) (vF (ofN hx.2)) (vF (ofN hy.1)) (vF (ofN hy.2)) false (nv n)).z)) (nL 1) = false/\(suE1 (vF (ofN gx)) (vF (ofN gy)) false (nv m)).z = false/\(suQ1 (vF (ofN hx.1)) (vF (ofN hx.2)) (vF (ofN hy.1)) (vF (ofN hy.2)) false (nv n)).z = false/\endT) ?_ (by kernel_rfl)
   exact ⟨by rw [hi];rfl,qn_of hr,qn_f h1,hz,kz,endT_ok⟩
theorem pairingOrder_lifted (os:Os) (started:os.Started) (H:Type) (enc:TypeId × Value->H) :
  ReturnsInHanded {} Tryz.checked os 6 .any (Rows.pairingOrderSpec.pre6 enc Tryz.prog Tryz.f6 Rows.pairingOrderRow.domain false) (Rows.pairingOrderSpec.post enc Tryz.prog Tryz.f6 false true false false):=by
 refine returnsInHanded_of_change (C:=Tryz.checked) Tryz.own started (by kernel_rfl) Tryz.func6
  (ChangeSpec.witness6 (enc:=enc) (C:=Tryz.checked) false ⟨#[],#[.agg #[.int .u64 0,.int .u64 0,.int .u64 0,.int .u64 0,.int .u64 0,.int .u64 0],.agg #[.int .u64 0,.int .u64 0,.int .u64 0,.int .u64 0,.int .u64 0,.int .u64 0]],[]⟩ 8 (by kernel_rfl) (by kernel_rfl) (by kernel_rfl) (by kernel_rfl)) ?_
 intro Wd base args ds gs before hval0 hW _ _
 have hval:∀ (j:Nat) t v,Tryz.f6.params[j]? = some t->args[j]? = some v->Value.okWide Tryz.prog Wd .any base t v:=hval0
 have hW':=hW
 obtain ⟨p,q,hA0,hV,rfl,_,_⟩:=hW
 have hA:DataW.TrodAll enc Tryz.prog Wd 0 (fun _=>true) true Tryz.f6.params.toList args.toList ds p:=hA0
 rw [Tryz.params6] at hA hval
 obtain ⟨v0,v1,d0,d1,p0,p1,rfl,rfl,rfl,h0,h1⟩:=trodAll_two hA
 obtain ⟨rfl,rfl⟩:=trodVars_none hV
 obtain ⟨x0,rfl,rfl,t0⟩:=num_open h0 (hval 0 24 v0 rfl rfl)
 obtain ⟨x1,rfl,rfl,t1⟩:=num_open h1 (hval 1 24 v1 rfl rfl)
 clear hA0 hval0
 simp only [List.append_nil] at hW'
 refine (pairingOrder_calls x0 x1 Wd).mono fun e W' ⟨he,hw⟩=>?_
 subst he
 exact ⟨_,rfl,post_same (pa:=[]) (pv:=[]) hW' (fun _ _ _=>trodAll_mk1 (shut_bool Tryz.underlying4 true)) (fun sp _=>trodAll_mk2 (t0 _ _ _ _) (t1 _ _ _ _)) (fun _ _=>rfl) rfl hw (ok_one (by kernel_rfl) rfl (okWide_bool_mk Tryz.underlying4 true))⟩
theorem pairingOrder_holds:Rows.PairingOrderSaid :=
 OpenClaim.holds_of_wide 6 Tryz.f6 rfl rfl rfl rfl rfl rfl rfl ⟨rfl,rfl,rfl,rfl,rfl⟩ rfl rfl rfl rfl rfl (by kernel_rfl) Tryz.func6 (by kernel_rfl)
  (of_decide_eq_true (by kernel_rfl)) (by unfold Func.isWrapper;rw [if_neg (of_decide_eq_false (by kernel_rfl))];exact ⟨rfl,rfl⟩)
  (fun os started H enc _=>pairingOrder_lifted os started H enc)
end Go.Proofs.YtnjocbcjejpklaaGreat
