/- Texts of the proof, joined. -/
import Derived.Test.YtnjocbcjejpklaaZrC
set_option linter.all false
namespace Go.Proofs.Ytnjocbcjejpklaa
open Go.Rq Go
set_option maxRecDepth 100000
def crs (a b c d p q:F2p):F2p:=(a + b) * (c + d) - p - q
def cCross (args:List AV) (h:Heap):Option (List Prop × AV) :=
 match args with
 | [.v1 (.sc (.it (.ofNat i))),.v1 (.sc (.it (.ofNat k))),.v1 (.agg [.ws .u64 6 p0,.ws .u64 6 p1]),.v1 (.agg [.ws .u64 6 q0,.ws .u64 6 q1]),.v1 (.sc (.pt x 0)),.v1 (.sc (.pt y 0))]=>match Nat.beq x y with
  | true=>none
  | false=>match hget h x with
   | some ⟨_,[.ws .u64 6 a0,.ws .u64 6 a1,.ws .u64 6 a2,.ws .u64 6 a3,.ws .u64 6 a4,.ws .u64 6 a5],0,0⟩=>match hget h y with
    | some ⟨_,[.ws .u64 6 b0,.ws .u64 6 b1,.ws .u64 6 b2,.ws .u64 6 b3,.ws .u64 6 b4,.ws .u64 6 b5],0,0⟩=>match i,k with
     | 1,2=>some ([nv a2 < pN,nv a3 < pN,nv a4 < pN,nv a5 < pN,nv b2 < pN,nv b3 < pN,nv b4 < pN,nv b5 < pN,nv p0 < pN,nv p1 < pN,nv q0 < pN,nv q1 < pN],f2 (eF (crs ⟨dF a2,dF a3⟩ ⟨dF a4,dF a5⟩ ⟨dF b2,dF b3⟩ ⟨dF b4,dF b5⟩ ⟨dF p0,dF p1⟩ ⟨dF q0,dF q1⟩).x) (eF (crs ⟨dF a2,dF a3⟩ ⟨dF a4,dF a5⟩ ⟨dF b2,dF b3⟩ ⟨dF b4,dF b5⟩ ⟨dF p0,dF p1⟩ ⟨dF q0,dF q1⟩).y))
     | 0,1=>some ([nv a0 < pN,nv a1 < pN,nv a2 < pN,nv a3 < pN,nv b0 < pN,nv b1 < pN,nv b2 < pN,nv b3 < pN,nv p0 < pN,nv p1 < pN,nv q0 < pN,nv q1 < pN],f2 (eF (crs ⟨dF a0,dF a1⟩ ⟨dF a2,dF a3⟩ ⟨dF b0,dF b1⟩ ⟨dF b2,dF b3⟩ ⟨dF p0,dF p1⟩ ⟨dF q0,dF q1⟩).x) (eF (crs ⟨dF a0,dF a1⟩ ⟨dF a2,dF a3⟩ ⟨dF b0,dF b1⟩ ⟨dF b2,dF b3⟩ ⟨dF p0,dF p1⟩ ⟨dF q0,dF q1⟩).y))
     | 0,2=>some ([nv a0 < pN,nv a1 < pN,nv a4 < pN,nv a5 < pN,nv b0 < pN,nv b1 < pN,nv b4 < pN,nv b5 < pN,nv p0 < pN,nv p1 < pN,nv q0 < pN,nv q1 < pN],f2 (eF (crs ⟨dF a0,dF a1⟩ ⟨dF a4,dF a5⟩ ⟨dF b0,dF b1⟩ ⟨dF b4,dF b5⟩ ⟨dF p0,dF p1⟩ ⟨dF q0,dF q1⟩).x) (eF (crs ⟨dF a0,dF a1⟩ ⟨dF a4,dF a5⟩ ⟨dF b0,dF b1⟩ ⟨dF b4,dF b5⟩ ⟨dF p0,dF p1⟩ ⟨dF q0,dF q1⟩).y))
     | _,_=>none
    | _=>none
   | _=>none
 | _=>none
def GCr:Ctx:=ctxL [(54,.pure (q2 add2x add2y)),(53,.pure (q2 sub2x sub2y)),(50,.pure (q2 mul2x mul2y))]
theorem GCr_ok:CtxOk Try.prog GCr:=ctxL_cons okAdd2 <| ctxL_cons okSub2 <| ctxL_cons okMul2 ctxL_nil
theorem cross12 {b c:Nat} (hbc:Nat.beq b c = false) {a0 a1 a2 a3 a4 a5 b0 b1 b2 b3 b4 b5 p0 p1 q0 q1:Nat->Nat} {y1 y2:TypeId} {h:Heap} (g1:hget h b = some ⟨y1,[q6 a0,q6 a1,q6 a2,q6 a3,q6 a4,q6 a5],0,0⟩) (g2:hget h c = some ⟨y2,[q6 b0,q6 b1,q6 b2,q6 b3,q6 b4,q6 b5],0,0⟩)
  (ha2:nv a2 < pN) (ha3:nv a3 < pN) (ha4:nv a4 < pN) (ha5:nv a5 < pN) (hb2:nv b2 < pN) (hb3:nv b3 < pN) (hb4:nv b4 < pN) (hb5:nv b5 < pN) (hp0:nv p0 < pN) (hp1:nv p1 < pN) (hq0:nv q0 < pN) (hq1:nv q1 < pN) :
  CallOk Try.prog 52 ([.v1 (.sc (.it (.ofNat 1))),.v1 (.sc (.it (.ofNat 2))),f2 p0 p1,f2 q0 q1] ++ [.v1 (.sc (.pt b 0)),.v1 (.sc (.pt c 0))]) h (f2 (eF (crs ⟨dF a2,dF a3⟩ ⟨dF a4,dF a5⟩ ⟨dF b2,dF b3⟩ ⟨dF b4,dF b5⟩ ⟨dF p0,dF p1⟩ ⟨dF q0,dF q1⟩).x) (eF (crs ⟨dF a2,dF a3⟩ ⟨dF a4,dF a5⟩ ⟨dF b2,dF b3⟩ ⟨dF b4,dF b5⟩ ⟨dF p0,dF p1⟩ ⟨dF q0,dF q1⟩).y)) h:=by
 refine rd_blk2 tt_ok Try.func52 (by kernel_rfl) (by kernel_rfl) hbc (x:=⟨y1,[q6 a0,q6 a1,q6 a2,q6 a3,q6 a4,q6 a5],0,0⟩) (y:=⟨y2,[q6 b0,q6 b1,q6 b2,q6 b3,q6 b4,q6 b5],0,0⟩) rfl rfl rfl rfl rfl rfl g1 g2 ?_
 refine evS_q mixed tt_ok GCr_ok 60 [] ?_
 refine same (p:=nv a2 < pN/\lp a3/\lp a4/\lp a5/\lp b2/\lp b3/\lp b4/\lp b5/\lp (eF (add2x (dF a2) (dF a3) (dF a4) (dF a5)))/\lp (eF (add2y (dF a2) (dF a3) (dF a4) (dF a5)))/\lp (eF (add2x (dF b2) (dF b3) (dF b4) (dF b5)))/\lp (eF (add2y (dF b2) (dF b3) (dF b4) (dF b5)))/\nv (eF (mul2x (dF (eF (add2x (dF a2) (dF a3) (dF a4) (dF a5)))) (dF (eF (add2y (dF a2) (dF a3) (dF a4) (dF a5)))) (dF (eF (add2x (dF b2) (dF b3) (dF b4) (dF b5)))) (dF (eF (add2y (dF b2) (dF b3) (dF b4) (dF b5)))))) < pN/\nv (eF (mul2y (dF (eF (add2x (dF a2) (dF a3) (dF a4) (dF a5)))) (dF (eF (add2y (dF a2) (dF a3) (dF a4) (dF a5)))) (dF (eF (add2x (dF b2) (dF b3) (dF b4) (dF b5)))) (dF (eF (add2y (dF b2) (dF b3) (dF b4) (dF b5)))))) < pN/\lp p0/\lp p1/\nv (eF (sub2x (dF (eF (mul2x (dF (eF (add2x (dF a2) (dF a3) (dF a4) (dF a5)))) (dF (eF (add2y (dF a2) (dF a3) (dF a4) (dF a5)))) (dF (eF (add2x (dF b2) (dF b3) (dF b4) (dF b5)))) (dF (eF (add2y (dF b2) (dF b3) (dF b4) (dF b5))))))) (dF (eF (mul2y (dF (eF (add2x (dF a2) (dF a3) (dF a4) (dF a5)))) (dF (eF (add2y (dF a2) (dF a3) (dF a4) (dF a5)))) (dF (eF (add2x (dF b2) (dF b3) (dF b4) (dF b5)))) (dF (eF (add2y (dF b2) (dF b3) (dF b4) (dF b5))))))) (dF p0) (dF p1))) < pN/\nv (eF (sub2y (dF (eF (mul2x (dF (eF (add2x (dF a2) (dF a3) (dF a4) (dF a5)))) (dF (eF (add2y (dF a2) (dF a3) (dF a4) (dF a5)))) (dF (eF (add2x (dF b2) (dF b3) (dF b4) (dF b5)))) (dF (eF (add2y (dF b2) (dF b3) (dF b4) (dF b5))))))) (dF (eF (mul2y (dF (eF (add2x (dF a2) (dF a3) (dF a4) (dF a5)))) (dF (eF (add2y (dF a2) (dF a3) (dF a4) (dF a5)))) (dF (eF (add2x (dF b2) (dF b3) (dF b4) (dF b5)))) (dF (eF (add2y (dF b2) (dF b3) (dF b4) (dF b5))))))) (dF p0) (dF p1))) < pN/\lp q0/\lp q1/\some (Blk.mk y1 [q6 a0,q6 a1,q6 a2,q6 a3,q6 a4,q6 a5] 0 0) = some (Blk.mk y1 [q6 a0,q6 a1,q6 a2,q6 a3,q6 a4,q6 a5] 0 0)/\some (Blk.mk y2 [q6 b0,q6 b1,q6 b2,q6 b3,q6 b4,q6 b5] 0 0) = some (Blk.mk y2 [q6 b0,q6 b1,q6 b2,q6 b3,q6 b4,q6 b5] 0 0) /\
  ∃ v',some (f2 (eF (sub2x (dF (eF (sub2x (dF (eF (mul2x (dF (eF (add2x (dF a2) (dF a3) (dF a4) (dF a5)))) (dF (eF (add2y (dF a2) (dF a3) (dF a4) (dF a5)))) (dF (eF (add2x (dF b2) (dF b3) (dF b4) (dF b5)))) (dF (eF (add2y (dF b2) (dF b3) (dF b4) (dF b5))))))) (dF (eF (mul2y (dF (eF (add2x (dF a2) (dF a3) (dF a4) (dF a5)))) (dF (eF (add2y (dF a2) (dF a3) (dF a4) (dF a5)))) (dF (eF (add2x (dF b2) (dF b3) (dF b4) (dF b5)))) (dF (eF (add2y (dF b2) (dF b3) (dF b4) (dF b5))))))) (dF p0) (dF p1)))) (dF (eF (sub2y (dF (eF (mul2x (dF (eF (add2x (dF a2) (dF a3) (dF a4) (dF a5)))) (dF (eF (add2y (dF a2) (dF a3) (dF a4) (dF a5)))) (dF (eF (add2x (dF b2) (dF b3) (dF b4) (dF b5)))) (dF (eF (add2y (dF b2) (dF b3) (dF b4) (dF b5))))))) (dF (eF (mul2y (dF (eF (add2x (dF a2) (dF a3) (dF a4) (dF a5)))) (dF (eF (add2y (dF a2) (dF a3) (dF a4) (dF a5)))) (dF (eF (add2x (dF b2) (dF b3) (dF b4) (dF b5)))) (dF (eF (add2y (dF b2) (dF b3) (dF b4) (dF b5))))))) (dF p0) (dF p1)))) (dF q0) (dF q1))) (eF (sub2y (dF (eF (sub2x (dF (eF (mul2x (dF (eF (add2x (dF a2) (dF a3) (dF a4) (dF a5)))) (dF (eF (add2y (dF a2) (dF a3) (dF a4) (dF a5)))) (dF (eF (add2x (dF b2) (dF b3) (dF b4) (dF b5)))) (dF (eF (add2y (dF b2) (dF b3) (dF b4) (dF b5))))))) (dF (eF (mul2y (dF (eF (add2x (dF a2) (dF a3) (dF a4) (dF a5)))) (dF (eF (add2y (dF a2) (dF a3) (dF a4) (dF a5)))) (dF (eF (add2x (dF b2) (dF b3) (dF b4) (dF b5)))) (dF (eF (add2y (dF b2) (dF b3) (dF b4) (dF b5))))))) (dF p0) (dF p1)))) (dF (eF (sub2y (dF (eF (mul2x (dF (eF (add2x (dF a2) (dF a3) (dF a4) (dF a5)))) (dF (eF (add2y (dF a2) (dF a3) (dF a4) (dF a5)))) (dF (eF (add2x (dF b2) (dF b3) (dF b4) (dF b5)))) (dF (eF (add2y (dF b2) (dF b3) (dF b4) (dF b5))))))) (dF (eF (mul2y (dF (eF (add2x (dF a2) (dF a3) (dF a4) (dF a5)))) (dF (eF (add2y (dF a2) (dF a3) (dF a4) (dF a5)))) (dF (eF (add2x (dF b2) (dF b3) (dF b4) (dF b5)))) (dF (eF (add2y (dF b2) (dF b3) (dF b4) (dF b5))))))) (dF p0) (dF p1)))) (dF q0) (dF q1)))) = some v'/\vokB v' = true/\∀ ρ,v'.val ρ = (f2 (eF (crs ⟨dF a2,dF a3⟩ ⟨dF a4,dF a5⟩ ⟨dF b2,dF b3⟩ ⟨dF b4,dF b5⟩ ⟨dF p0,dF p1⟩ ⟨dF q0,dF q1⟩).x) (eF (crs ⟨dF a2,dF a3⟩ ⟨dF a4,dF a5⟩ ⟨dF b2,dF b3⟩ ⟨dF b4,dF b5⟩ ⟨dF p0,dF p1⟩ ⟨dF q0,dF q1⟩).y)).val ρ) ?_ (by kernel_rfl)
 exact ⟨ha2,ha3,ha4,ha5,hb2,hb3,hb4,hb5,lt_eF _,lt_eF _,lt_eF _,lt_eF _,lt_eF _,lt_eF _,hp0,hp1,lt_eF _,lt_eF _,hq0,hq1,rfl,rfl,_,rfl,rfl,f2_val (nvE (by simp only [dF_eF];simp only [S6.mul,crs,xi,F2p.add_x,F2p.add_y,F2p.mul_x,F2p.mul_y,F2p.sub_x,F2p.sub_y,add2x,add2y,sub2x,sub2y,mul2x,mul2y,upx,upy])) (nvE (by simp only [dF_eF];simp only [S6.mul,crs,xi,F2p.add_x,F2p.add_y,F2p.mul_x,F2p.mul_y,F2p.sub_x,F2p.sub_y,add2x,add2y,sub2x,sub2y,mul2x,mul2y,upx,upy]))⟩
theorem cross01 {b c:Nat} (hbc:Nat.beq b c = false) {a0 a1 a2 a3 a4 a5 b0 b1 b2 b3 b4 b5 p0 p1 q0 q1:Nat->Nat} {y1 y2:TypeId} {h:Heap} (g1:hget h b = some ⟨y1,[q6 a0,q6 a1,q6 a2,q6 a3,q6 a4,q6 a5],0,0⟩) (g2:hget h c = some ⟨y2,[q6 b0,q6 b1,q6 b2,q6 b3,q6 b4,q6 b5],0,0⟩)
  (ha0:nv a0 < pN) (ha1:nv a1 < pN) (ha2:nv a2 < pN) (ha3:nv a3 < pN) (hb0:nv b0 < pN) (hb1:nv b1 < pN) (hb2:nv b2 < pN) (hb3:nv b3 < pN) (hp0:nv p0 < pN) (hp1:nv p1 < pN) (hq0:nv q0 < pN) (hq1:nv q1 < pN) :
  CallOk Try.prog 52 ([.v1 (.sc (.it (.ofNat 0))),.v1 (.sc (.it (.ofNat 1))),f2 p0 p1,f2 q0 q1] ++ [.v1 (.sc (.pt b 0)),.v1 (.sc (.pt c 0))]) h (f2 (eF (crs ⟨dF a0,dF a1⟩ ⟨dF a2,dF a3⟩ ⟨dF b0,dF b1⟩ ⟨dF b2,dF b3⟩ ⟨dF p0,dF p1⟩ ⟨dF q0,dF q1⟩).x) (eF (crs ⟨dF a0,dF a1⟩ ⟨dF a2,dF a3⟩ ⟨dF b0,dF b1⟩ ⟨dF b2,dF b3⟩ ⟨dF p0,dF p1⟩ ⟨dF q0,dF q1⟩).y)) h:=by
 refine rd_blk2 tt_ok Try.func52 (by kernel_rfl) (by kernel_rfl) hbc (x:=⟨y1,[q6 a0,q6 a1,q6 a2,q6 a3,q6 a4,q6 a5],0,0⟩) (y:=⟨y2,[q6 b0,q6 b1,q6 b2,q6 b3,q6 b4,q6 b5],0,0⟩) rfl rfl rfl rfl rfl rfl g1 g2 ?_
 refine evS_q mixed tt_ok GCr_ok 60 [] ?_
 refine same (p:=nv a0 < pN/\lp a1/\lp a2/\lp a3/\lp b0/\lp b1/\lp b2/\lp b3/\lp (eF (add2x (dF a0) (dF a1) (dF a2) (dF a3)))/\lp (eF (add2y (dF a0) (dF a1) (dF a2) (dF a3)))/\lp (eF (add2x (dF b0) (dF b1) (dF b2) (dF b3)))/\lp (eF (add2y (dF b0) (dF b1) (dF b2) (dF b3)))/\nv (eF (mul2x (dF (eF (add2x (dF a0) (dF a1) (dF a2) (dF a3)))) (dF (eF (add2y (dF a0) (dF a1) (dF a2) (dF a3)))) (dF (eF (add2x (dF b0) (dF b1) (dF b2) (dF b3)))) (dF (eF (add2y (dF b0) (dF b1) (dF b2) (dF b3)))))) < pN/\nv (eF (mul2y (dF (eF (add2x (dF a0) (dF a1) (dF a2) (dF a3)))) (dF (eF (add2y (dF a0) (dF a1) (dF a2) (dF a3)))) (dF (eF (add2x (dF b0) (dF b1) (dF b2) (dF b3)))) (dF (eF (add2y (dF b0) (dF b1) (dF b2) (dF b3)))))) < pN/\lp p0/\lp p1/\nv (eF (sub2x (dF (eF (mul2x (dF (eF (add2x (dF a0) (dF a1) (dF a2) (dF a3)))) (dF (eF (add2y (dF a0) (dF a1) (dF a2) (dF a3)))) (dF (eF (add2x (dF b0) (dF b1) (dF b2) (dF b3)))) (dF (eF (add2y (dF b0) (dF b1) (dF b2) (dF b3))))))) (dF (eF (mul2y (dF (eF (add2x (dF a0) (dF a1) (dF a2) (dF a3)))) (dF (eF (add2y (dF a0) (dF a1) (dF a2) (dF a3)))) (dF (eF (add2x (dF b0) (dF b1) (dF b2) (dF b3)))) (dF (eF (add2y (dF b0) (dF b1) (dF b2) (dF b3))))))) (dF p0) (dF p1))) < pN/\nv (eF (sub2y (dF (eF (mul2x (dF (eF (add2x (dF a0) (dF a1) (dF a2) (dF a3)))) (dF (eF (add2y (dF a0) (dF a1) (dF a2) (dF a3)))) (dF (eF (add2x (dF b0) (dF b1) (dF b2) (dF b3)))) (dF (eF (add2y (dF b0) (dF b1) (dF b2) (dF b3))))))) (dF (eF (mul2y (dF (eF (add2x (dF a0) (dF a1) (dF a2) (dF a3)))) (dF (eF (add2y (dF a0) (dF a1) (dF a2) (dF a3)))) (dF (eF (add2x (dF b0) (dF b1) (dF b2) (dF b3)))) (dF (eF (add2y (dF b0) (dF b1) (dF b2) (dF b3))))))) (dF p0) (dF p1))) < pN/\lp q0/\lp q1/\some (Blk.mk y1 [q6 a0,q6 a1,q6 a2,q6 a3,q6 a4,q6 a5] 0 0) = some (Blk.mk y1 [q6 a0,q6 a1,q6 a2,q6 a3,q6 a4,q6 a5] 0 0)/\some (Blk.mk y2 [q6 b0,q6 b1,q6 b2,q6 b3,q6 b4,q6 b5] 0 0) = some (Blk.mk y2 [q6 b0,q6 b1,q6 b2,q6 b3,q6 b4,q6 b5] 0 0) /\
  ∃ v',some (f2 (eF (sub2x (dF (eF (sub2x (dF (eF (mul2x (dF (eF (add2x (dF a0) (dF a1) (dF a2) (dF a3)))) (dF (eF (add2y (dF a0) (dF a1) (dF a2) (dF a3)))) (dF (eF (add2x (dF b0) (dF b1) (dF b2) (dF b3)))) (dF (eF (add2y (dF b0) (dF b1) (dF b2) (dF b3))))))) (dF (eF (mul2y (dF (eF (add2x (dF a0) (dF a1) (dF a2) (dF a3)))) (dF (eF (add2y (dF a0) (dF a1) (dF a2) (dF a3)))) (dF (eF (add2x (dF b0) (dF b1) (dF b2) (dF b3)))) (dF (eF (add2y (dF b0) (dF b1) (dF b2) (dF b3))))))) (dF p0) (dF p1)))) (dF (eF (sub2y (dF (eF (mul2x (dF (eF (add2x (dF a0) (dF a1) (dF a2) (dF a3)))) (dF (eF (add2y (dF a0) (dF a1) (dF a2) (dF a3)))) (dF (eF (add2x (dF b0) (dF b1) (dF b2) (dF b3)))) (dF (eF (add2y (dF b0) (dF b1) (dF b2) (dF b3))))))) (dF (eF (mul2y (dF (eF (add2x (dF a0) (dF a1) (dF a2) (dF a3)))) (dF (eF (add2y (dF a0) (dF a1) (dF a2) (dF a3)))) (dF (eF (add2x (dF b0) (dF b1) (dF b2) (dF b3)))) (dF (eF (add2y (dF b0) (dF b1) (dF b2) (dF b3))))))) (dF p0) (dF p1)))) (dF q0) (dF q1))) (eF (sub2y (dF (eF (sub2x (dF (eF (mul2x (dF (eF (add2x (dF a0) (dF a1) (dF a2) (dF a3)))) (dF (eF (add2y (dF a0) (dF a1) (dF a2) (dF a3)))) (dF (eF (add2x (dF b0) (dF b1) (dF b2) (dF b3)))) (dF (eF (add2y (dF b0) (dF b1) (dF b2) (dF b3))))))) (dF (eF (mul2y (dF (eF (add2x (dF a0) (dF a1) (dF a2) (dF a3)))) (dF (eF (add2y (dF a0) (dF a1) (dF a2) (dF a3)))) (dF (eF (add2x (dF b0) (dF b1) (dF b2) (dF b3)))) (dF (eF (add2y (dF b0) (dF b1) (dF b2) (dF b3))))))) (dF p0) (dF p1)))) (dF (eF (sub2y (dF (eF (mul2x (dF (eF (add2x (dF a0) (dF a1) (dF a2) (dF a3)))) (dF (eF (add2y (dF a0) (dF a1) (dF a2) (dF a3)))) (dF (eF (add2x (dF b0) (dF b1) (dF b2) (dF b3)))) (dF (eF (add2y (dF b0) (dF b1) (dF b2) (dF b3))))))) (dF (eF (mul2y (dF (eF (add2x (dF a0) (dF a1) (dF a2) (dF a3)))) (dF (eF (add2y (dF a0) (dF a1) (dF a2) (dF a3)))) (dF (eF (add2x (dF b0) (dF b1) (dF b2) (dF b3)))) (dF (eF (add2y (dF b0) (dF b1) (dF b2) (dF b3))))))) (dF p0) (dF p1)))) (dF q0) (dF q1)))) = some v'/\vokB v' = true/\∀ ρ,v'.val ρ = (f2 (eF (crs ⟨dF a0,dF a1⟩ ⟨dF a2,dF a3⟩ ⟨dF b0,dF b1⟩ ⟨dF b2,dF b3⟩ ⟨dF p0,dF p1⟩ ⟨dF q0,dF q1⟩).x) (eF (crs ⟨dF a0,dF a1⟩ ⟨dF a2,dF a3⟩ ⟨dF b0,dF b1⟩ ⟨dF b2,dF b3⟩ ⟨dF p0,dF p1⟩ ⟨dF q0,dF q1⟩).y)).val ρ) ?_ (by kernel_rfl)
 exact ⟨ha0,ha1,ha2,ha3,hb0,hb1,hb2,hb3,lt_eF _,lt_eF _,lt_eF _,lt_eF _,lt_eF _,lt_eF _,hp0,hp1,lt_eF _,lt_eF _,hq0,hq1,rfl,rfl,_,rfl,rfl,f2_val (nvE (by simp only [dF_eF];simp only [S6.mul,crs,xi,F2p.add_x,F2p.add_y,F2p.mul_x,F2p.mul_y,F2p.sub_x,F2p.sub_y,add2x,add2y,sub2x,sub2y,mul2x,mul2y,upx,upy])) (nvE (by simp only [dF_eF];simp only [S6.mul,crs,xi,F2p.add_x,F2p.add_y,F2p.mul_x,F2p.mul_y,F2p.sub_x,F2p.sub_y,add2x,add2y,sub2x,sub2y,mul2x,mul2y,upx,upy]))⟩
theorem cross02 {b c:Nat} (hbc:Nat.beq b c = false) {a0 a1 a2 a3 a4 a5 b0 b1 b2 b3 b4 b5 p0 p1 q0 q1:Nat->Nat} {y1 y2:TypeId} {h:Heap} (g1:hget h b = some ⟨y1,[q6 a0,q6 a1,q6 a2,q6 a3,q6 a4,q6 a5],0,0⟩) (g2:hget h c = some ⟨y2,[q6 b0,q6 b1,q6 b2,q6 b3,q6 b4,q6 b5],0,0⟩)
  (ha0:nv a0 < pN) (ha1:nv a1 < pN) (ha4:nv a4 < pN) (ha5:nv a5 < pN) (hb0:nv b0 < pN) (hb1:nv b1 < pN) (hb4:nv b4 < pN) (hb5:nv b5 < pN) (hp0:nv p0 < pN) (hp1:nv p1 < pN) (hq0:nv q0 < pN) (hq1:nv q1 < pN) :
  CallOk Try.prog 52 ([.v1 (.sc (.it (.ofNat 0))),.v1 (.sc (.it (.ofNat 2))),f2 p0 p1,f2 q0 q1] ++ [.v1 (.sc (.pt b 0)),.v1 (.sc (.pt c 0))]) h (f2 (eF (crs ⟨dF a0,dF a1⟩ ⟨dF a4,dF a5⟩ ⟨dF b0,dF b1⟩ ⟨dF b4,dF b5⟩ ⟨dF p0,dF p1⟩ ⟨dF q0,dF q1⟩).x) (eF (crs ⟨dF a0,dF a1⟩ ⟨dF a4,dF a5⟩ ⟨dF b0,dF b1⟩ ⟨dF b4,dF b5⟩ ⟨dF p0,dF p1⟩ ⟨dF q0,dF q1⟩).y)) h:=by
 refine rd_blk2 tt_ok Try.func52 (by kernel_rfl) (by kernel_rfl) hbc (x:=⟨y1,[q6 a0,q6 a1,q6 a2,q6 a3,q6 a4,q6 a5],0,0⟩) (y:=⟨y2,[q6 b0,q6 b1,q6 b2,q6 b3,q6 b4,q6 b5],0,0⟩) rfl rfl rfl rfl rfl rfl g1 g2 ?_
 refine evS_q mixed tt_ok GCr_ok 60 [] ?_
 refine same (p:=nv a0 < pN/\lp a1/\lp a4/\lp a5/\lp b0/\lp b1/\lp b4/\lp b5/\lp (eF (add2x (dF a0) (dF a1) (dF a4) (dF a5)))/\lp (eF (add2y (dF a0) (dF a1) (dF a4) (dF a5)))/\lp (eF (add2x (dF b0) (dF b1) (dF b4) (dF b5)))/\lp (eF (add2y (dF b0) (dF b1) (dF b4) (dF b5)))/\nv (eF (mul2x (dF (eF (add2x (dF a0) (dF a1) (dF a4) (dF a5)))) (dF (eF (add2y (dF a0) (dF a1) (dF a4) (dF a5)))) (dF (eF (add2x (dF b0) (dF b1) (dF b4) (dF b5)))) (dF (eF (add2y (dF b0) (dF b1) (dF b4) (dF b5)))))) < pN/\nv (eF (mul2y (dF (eF (add2x (dF a0) (dF a1) (dF a4) (dF a5)))) (dF (eF (add2y (dF a0) (dF a1) (dF a4) (dF a5)))) (dF (eF (add2x (dF b0) (dF b1) (dF b4) (dF b5)))) (dF (eF (add2y (dF b0) (dF b1) (dF b4) (dF b5)))))) < pN/\lp p0/\lp p1/\nv (eF (sub2x (dF (eF (mul2x (dF (eF (add2x (dF a0) (dF a1) (dF a4) (dF a5)))) (dF (eF (add2y (dF a0) (dF a1) (dF a4) (dF a5)))) (dF (eF (add2x (dF b0) (dF b1) (dF b4) (dF b5)))) (dF (eF (add2y (dF b0) (dF b1) (dF b4) (dF b5))))))) (dF (eF (mul2y (dF (eF (add2x (dF a0) (dF a1) (dF a4) (dF a5)))) (dF (eF (add2y (dF a0) (dF a1) (dF a4) (dF a5)))) (dF (eF (add2x (dF b0) (dF b1) (dF b4) (dF b5)))) (dF (eF (add2y (dF b0) (dF b1) (dF b4) (dF b5))))))) (dF p0) (dF p1))) < pN/\nv (eF (sub2y (dF (eF (mul2x (dF (eF (add2x (dF a0) (dF a1) (dF a4) (dF a5)))) (dF (eF (add2y (dF a0) (dF a1) (dF a4) (dF a5)))) (dF (eF (add2x (dF b0) (dF b1) (dF b4) (dF b5)))) (dF (eF (add2y (dF b0) (dF b1) (dF b4) (dF b5))))))) (dF (eF (mul2y (dF (eF (add2x (dF a0) (dF a1) (dF a4) (dF a5)))) (dF (eF (add2y (dF a0) (dF a1) (dF a4) (dF a5)))) (dF (eF (add2x (dF b0) (dF b1) (dF b4) (dF b5)))) (dF (eF (add2y (dF b0) (dF b1) (dF b4) (dF b5))))))) (dF p0) (dF p1))) < pN/\lp q0/\lp q1/\some (Blk.mk y1 [q6 a0,q6 a1,q6 a2,q6 a3,q6 a4,q6 a5] 0 0) = some (Blk.mk y1 [q6 a0,q6 a1,q6 a2,q6 a3,q6 a4,q6 a5] 0 0)/\some (Blk.mk y2 [q6 b0,q6 b1,q6 b2,q6 b3,q6 b4,q6 b5] 0 0) = some (Blk.mk y2 [q6 b0,q6 b1,q6 b2,q6 b3,q6 b4,q6 b5] 0 0) /\
  ∃ v',some (f2 (eF (sub2x (dF (eF (sub2x (dF (eF (mul2x (dF (eF (add2x (dF a0) (dF a1) (dF a4) (dF a5)))) (dF (eF (add2y (dF a0) (dF a1) (dF a4) (dF a5)))) (dF (eF (add2x (dF b0) (dF b1) (dF b4) (dF b5)))) (dF (eF (add2y (dF b0) (dF b1) (dF b4) (dF b5))))))) (dF (eF (mul2y (dF (eF (add2x (dF a0) (dF a1) (dF a4) (dF a5)))) (dF (eF (add2y (dF a0) (dF a1) (dF a4) (dF a5)))) (dF (eF (add2x (dF b0) (dF b1) (dF b4) (dF b5)))) (dF (eF (add2y (dF b0) (dF b1) (dF b4) (dF b5))))))) (dF p0) (dF p1)))) (dF (eF (sub2y (dF (eF (mul2x (dF (eF (add2x (dF a0) (dF a1) (dF a4) (dF a5)))) (dF (eF (add2y (dF a0) (dF a1) (dF a4) (dF a5)))) (dF (eF (add2x (dF b0) (dF b1) (dF b4) (dF b5)))) (dF (eF (add2y (dF b0) (dF b1) (dF b4) (dF b5))))))) (dF (eF (mul2y (dF (eF (add2x (dF a0) (dF a1) (dF a4) (dF a5)))) (dF (eF (add2y (dF a0) (dF a1) (dF a4) (dF a5)))) (dF (eF (add2x (dF b0) (dF b1) (dF b4) (dF b5)))) (dF (eF (add2y (dF b0) (dF b1) (dF b4) (dF b5))))))) (dF p0) (dF p1)))) (dF q0) (dF q1))) (eF (sub2y (dF (eF (sub2x (dF (eF (mul2x (dF (eF (add2x (dF a0) (dF a1) (dF a4) (dF a5)))) (dF (eF (add2y (dF a0) (dF a1) (dF a4) (dF a5)))) (dF (eF (add2x (dF b0) (dF b1) (dF b4) (dF b5)))) (dF (eF (add2y (dF b0) (dF b1) (dF b4) (dF b5))))))) (dF (eF (mul2y (dF (eF (add2x (dF a0) (dF a1) (dF a4) (dF a5)))) (dF (eF (add2y (dF a0) (dF a1) (dF a4) (dF a5)))) (dF (eF (add2x (dF b0) (dF b1) (dF b4) (dF b5)))) (dF (eF (add2y (dF b0) (dF b1) (dF b4) (dF b5))))))) (dF p0) (dF p1)))) (dF (eF (sub2y (dF (eF (mul2x (dF (eF (add2x (dF a0) (dF a1) (dF a4) (dF a5)))) (dF (eF (add2y (dF a0) (dF a1) (dF a4) (dF a5)))) (dF (eF (add2x (dF b0) (dF b1) (dF b4) (dF b5)))) (dF (eF (add2y (dF b0) (dF b1) (dF b4) (dF b5))))))) (dF (eF (mul2y (dF (eF (add2x (dF a0) (dF a1) (dF a4) (dF a5)))) (dF (eF (add2y (dF a0) (dF a1) (dF a4) (dF a5)))) (dF (eF (add2x (dF b0) (dF b1) (dF b4) (dF b5)))) (dF (eF (add2y (dF b0) (dF b1) (dF b4) (dF b5))))))) (dF p0) (dF p1)))) (dF q0) (dF q1)))) = some v'/\vokB v' = true/\∀ ρ,v'.val ρ = (f2 (eF (crs ⟨dF a0,dF a1⟩ ⟨dF a4,dF a5⟩ ⟨dF b0,dF b1⟩ ⟨dF b4,dF b5⟩ ⟨dF p0,dF p1⟩ ⟨dF q0,dF q1⟩).x) (eF (crs ⟨dF a0,dF a1⟩ ⟨dF a4,dF a5⟩ ⟨dF b0,dF b1⟩ ⟨dF b4,dF b5⟩ ⟨dF p0,dF p1⟩ ⟨dF q0,dF q1⟩).y)).val ρ) ?_ (by kernel_rfl)
 exact ⟨ha0,ha1,ha4,ha5,hb0,hb1,hb4,hb5,lt_eF _,lt_eF _,lt_eF _,lt_eF _,lt_eF _,lt_eF _,hp0,hp1,lt_eF _,lt_eF _,hq0,hq1,rfl,rfl,_,rfl,rfl,f2_val (nvE (by simp only [dF_eF];simp only [S6.mul,crs,xi,F2p.add_x,F2p.add_y,F2p.mul_x,F2p.mul_y,F2p.sub_x,F2p.sub_y,add2x,add2y,sub2x,sub2y,mul2x,mul2y,upx,upy])) (nvE (by simp only [dF_eF];simp only [S6.mul,crs,xi,F2p.add_x,F2p.add_y,F2p.mul_x,F2p.mul_y,F2p.sub_x,F2p.sub_y,add2x,add2y,sub2x,sub2y,mul2x,mul2y,upx,upy]))⟩
theorem okCross:(CallC.rd cCross).Ok Try.prog 52:=by
 refine ⟨fun args h pre v e hp=>?_,fun args h slot blk hs ha=>?_⟩
 ·unfold cCross at e
  split at e
  ·rename_i i k p0 p1 q0 q1 x y
   split at e
   ·cases e
   ·rename_i hxy
    split at e
    ·rename_i g1
     split at e
     ·rename_i g2
      split at e
      ·cases e
       exact cross12 hxy g1 g2 (hp _ (by simp)) (hp _ (by simp)) (hp _ (by simp)) (hp _ (by simp)) (hp _ (by simp)) (hp _ (by simp)) (hp _ (by simp)) (hp _ (by simp)) (hp _ (by simp)) (hp _ (by simp)) (hp _ (by simp)) (hp _ (by simp))
      ·cases e
       exact cross01 hxy g1 g2 (hp _ (by simp)) (hp _ (by simp)) (hp _ (by simp)) (hp _ (by simp)) (hp _ (by simp)) (hp _ (by simp)) (hp _ (by simp)) (hp _ (by simp)) (hp _ (by simp)) (hp _ (by simp)) (hp _ (by simp)) (hp _ (by simp))
      ·cases e
       exact cross02 hxy g1 g2 (hp _ (by simp)) (hp _ (by simp)) (hp _ (by simp)) (hp _ (by simp)) (hp _ (by simp)) (hp _ (by simp)) (hp _ (by simp)) (hp _ (by simp)) (hp _ (by simp)) (hp _ (by simp)) (hp _ (by simp)) (hp _ (by simp))
      ·cases e
     ·cases e
    ·cases e
  ·cases e
 ·unfold cCross
  split
  ·rename_i i k p0 p1 q0 q1 x y
   have ne:∀ b,Dm h b->b ≠ slot:=fun b hb e=>by
    obtain ⟨z,hz⟩:=hb
    rw [e,(isHole_lt hs).2] at hz;cases hz
   have hx:Dm h x:=ha (.v1 (.sc (.pt x 0))) (by simp)
   have hy:Dm h y:=ha (.v1 (.sc (.pt y 0))) (by simp)
   rw [hget_hset_ne (ne x hx),hget_hset_ne (ne y hy)]
  ·rfl
def GSm:Ctx:=ctxL [(54,.pure (q2 add2x add2y)),(50,.pure (q2 mul2x mul2y)),(55,.pure (q1 upx upy)),(52,.rd cCross)]
theorem GSm_ok:CtxOk Try.prog GSm:=ctxL_cons okAdd2 <| ctxL_cons okMul2 <| ctxL_cons okUp <| ctxL_cons okCross ctxL_nil
theorem okSmul:(CallC.pure (k62 S6.mul)).Ok Try.prog 28:=by
 refine k62_ok Try.func28 (by kernel_rfl) (by kernel_rfl) fun a0 a1 a2 a3 a4 a5 b0 b1 b2 b3 b4 b5 ha0 ha1 ha2 ha3 ha4 ha5 hb0 hb1 hb2 hb3 hb4 hb5=>evS_q mixed tt_ok GSm_ok 100 [] ?_
 refine same (p:=nv a0 < pN/\lp a1/\lp b0/\lp b1/\lp a2/\lp a3/\lp b2/\lp b3/\lp a4/\lp a5/\lp b4/\lp b5/\lp a2/\lp a3/\lp a4/\lp a5/\lp b2/\lp b3/\lp b4/\lp b5/\lp (eF (mul2x (dF a2) (dF a3) (dF b2) (dF b3)))/\lp (eF (mul2y (dF a2) (dF a3) (dF b2) (dF b3)))/\lp (eF (mul2x (dF a4) (dF a5) (dF b4) (dF b5)))/\lp (eF (mul2y (dF a4) (dF a5) (dF b4) (dF b5)))/\lp (eF (crs ⟨dF a2,dF a3⟩ ⟨dF a4,dF a5⟩ ⟨dF b2,dF b3⟩ ⟨dF b4,dF b5⟩ ⟨dF (eF (mul2x (dF a2) (dF a3) (dF b2) (dF b3))),dF (eF (mul2y (dF a2) (dF a3) (dF b2) (dF b3)))⟩ ⟨dF (eF (mul2x (dF a4) (dF a5) (dF b4) (dF b5))),dF (eF (mul2y (dF a4) (dF a5) (dF b4) (dF b5)))⟩).x)/\lp (eF (crs ⟨dF a2,dF a3⟩ ⟨dF a4,dF a5⟩ ⟨dF b2,dF b3⟩ ⟨dF b4,dF b5⟩ ⟨dF (eF (mul2x (dF a2) (dF a3) (dF b2) (dF b3))),dF (eF (mul2y (dF a2) (dF a3) (dF b2) (dF b3)))⟩ ⟨dF (eF (mul2x (dF a4) (dF a5) (dF b4) (dF b5))),dF (eF (mul2y (dF a4) (dF a5) (dF b4) (dF b5)))⟩).y)/\lp (eF (mul2x (dF a0) (dF a1) (dF b0) (dF b1)))/\lp (eF (mul2y (dF a0) (dF a1) (dF b0) (dF b1)))/\nv (eF (upx (dF (eF (crs ⟨dF a2,dF a3⟩ ⟨dF a4,dF a5⟩ ⟨dF b2,dF b3⟩ ⟨dF b4,dF b5⟩ ⟨dF (eF (mul2x (dF a2) (dF a3) (dF b2) (dF b3))),dF (eF (mul2y (dF a2) (dF a3) (dF b2) (dF b3)))⟩ ⟨dF (eF (mul2x (dF a4) (dF a5) (dF b4) (dF b5))),dF (eF (mul2y (dF a4) (dF a5) (dF b4) (dF b5)))⟩).x)) (dF (eF (crs ⟨dF a2,dF a3⟩ ⟨dF a4,dF a5⟩ ⟨dF b2,dF b3⟩ ⟨dF b4,dF b5⟩ ⟨dF (eF (mul2x (dF a2) (dF a3) (dF b2) (dF b3))),dF (eF (mul2y (dF a2) (dF a3) (dF b2) (dF b3)))⟩ ⟨dF (eF (mul2x (dF a4) (dF a5) (dF b4) (dF b5))),dF (eF (mul2y (dF a4) (dF a5) (dF b4) (dF b5)))⟩).y)))) < pN/\nv (eF (upy (dF (eF (crs ⟨dF a2,dF a3⟩ ⟨dF a4,dF a5⟩ ⟨dF b2,dF b3⟩ ⟨dF b4,dF b5⟩ ⟨dF (eF (mul2x (dF a2) (dF a3) (dF b2) (dF b3))),dF (eF (mul2y (dF a2) (dF a3) (dF b2) (dF b3)))⟩ ⟨dF (eF (mul2x (dF a4) (dF a5) (dF b4) (dF b5))),dF (eF (mul2y (dF a4) (dF a5) (dF b4) (dF b5)))⟩).x)) (dF (eF (crs ⟨dF a2,dF a3⟩ ⟨dF a4,dF a5⟩ ⟨dF b2,dF b3⟩ ⟨dF b4,dF b5⟩ ⟨dF (eF (mul2x (dF a2) (dF a3) (dF b2) (dF b3))),dF (eF (mul2y (dF a2) (dF a3) (dF b2) (dF b3)))⟩ ⟨dF (eF (mul2x (dF a4) (dF a5) (dF b4) (dF b5))),dF (eF (mul2y (dF a4) (dF a5) (dF b4) (dF b5)))⟩).y)))) < pN/\lp a0/\lp a1/\lp a2/\lp a3/\lp b0/\lp b1/\lp b2/\lp b3/\lp (eF (mul2x (dF a0) (dF a1) (dF b0) (dF b1)))/\lp (eF (mul2y (dF a0) (dF a1) (dF b0) (dF b1)))/\lp (eF (mul2x (dF a2) (dF a3) (dF b2) (dF b3)))/\lp (eF (mul2y (dF a2) (dF a3) (dF b2) (dF b3)))/\lp (eF (mul2x (dF a4) (dF a5) (dF b4) (dF b5)))/\lp (eF (mul2y (dF a4) (dF a5) (dF b4) (dF b5)))/\lp (eF (crs ⟨dF a0,dF a1⟩ ⟨dF a2,dF a3⟩ ⟨dF b0,dF b1⟩ ⟨dF b2,dF b3⟩ ⟨dF (eF (mul2x (dF a0) (dF a1) (dF b0) (dF b1))),dF (eF (mul2y (dF a0) (dF a1) (dF b0) (dF b1)))⟩ ⟨dF (eF (mul2x (dF a2) (dF a3) (dF b2) (dF b3))),dF (eF (mul2y (dF a2) (dF a3) (dF b2) (dF b3)))⟩).x)/\lp (eF (crs ⟨dF a0,dF a1⟩ ⟨dF a2,dF a3⟩ ⟨dF b0,dF b1⟩ ⟨dF b2,dF b3⟩ ⟨dF (eF (mul2x (dF a0) (dF a1) (dF b0) (dF b1))),dF (eF (mul2y (dF a0) (dF a1) (dF b0) (dF b1)))⟩ ⟨dF (eF (mul2x (dF a2) (dF a3) (dF b2) (dF b3))),dF (eF (mul2y (dF a2) (dF a3) (dF b2) (dF b3)))⟩).y)/\nv (eF (upx (dF (eF (mul2x (dF a4) (dF a5) (dF b4) (dF b5)))) (dF (eF (mul2y (dF a4) (dF a5) (dF b4) (dF b5)))))) < pN/\nv (eF (upy (dF (eF (mul2x (dF a4) (dF a5) (dF b4) (dF b5)))) (dF (eF (mul2y (dF a4) (dF a5) (dF b4) (dF b5)))))) < pN/\lp a0/\lp a1/\lp a4/\lp a5/\lp b0/\lp b1/\lp b4/\lp b5/\lp (eF (mul2x (dF a0) (dF a1) (dF b0) (dF b1)))/\lp (eF (mul2y (dF a0) (dF a1) (dF b0) (dF b1)))/\lp (eF (mul2x (dF a4) (dF a5) (dF b4) (dF b5)))/\lp (eF (mul2y (dF a4) (dF a5) (dF b4) (dF b5)))/\lp (eF (crs ⟨dF a0,dF a1⟩ ⟨dF a4,dF a5⟩ ⟨dF b0,dF b1⟩ ⟨dF b4,dF b5⟩ ⟨dF (eF (mul2x (dF a0) (dF a1) (dF b0) (dF b1))),dF (eF (mul2y (dF a0) (dF a1) (dF b0) (dF b1)))⟩ ⟨dF (eF (mul2x (dF a4) (dF a5) (dF b4) (dF b5))),dF (eF (mul2y (dF a4) (dF a5) (dF b4) (dF b5)))⟩).x)/\lp (eF (crs ⟨dF a0,dF a1⟩ ⟨dF a4,dF a5⟩ ⟨dF b0,dF b1⟩ ⟨dF b4,dF b5⟩ ⟨dF (eF (mul2x (dF a0) (dF a1) (dF b0) (dF b1))),dF (eF (mul2y (dF a0) (dF a1) (dF b0) (dF b1)))⟩ ⟨dF (eF (mul2x (dF a4) (dF a5) (dF b4) (dF b5))),dF (eF (mul2y (dF a4) (dF a5) (dF b4) (dF b5)))⟩).y)/\lp (eF (mul2x (dF a2) (dF a3) (dF b2) (dF b3)))/\lp (eF (mul2y (dF a2) (dF a3) (dF b2) (dF b3)))/\endN (.v1 (v6 (eF (add2x (dF (eF (mul2x (dF a0) (dF a1) (dF b0) (dF b1)))) (dF (eF (mul2y (dF a0) (dF a1) (dF b0) (dF b1)))) (dF (eF (upx (dF (eF (crs ⟨dF a2,dF a3⟩ ⟨dF a4,dF a5⟩ ⟨dF b2,dF b3⟩ ⟨dF b4,dF b5⟩ ⟨dF (eF (mul2x (dF a2) (dF a3) (dF b2) (dF b3))),dF (eF (mul2y (dF a2) (dF a3) (dF b2) (dF b3)))⟩ ⟨dF (eF (mul2x (dF a4) (dF a5) (dF b4) (dF b5))),dF (eF (mul2y (dF a4) (dF a5) (dF b4) (dF b5)))⟩).x)) (dF (eF (crs ⟨dF a2,dF a3⟩ ⟨dF a4,dF a5⟩ ⟨dF b2,dF b3⟩ ⟨dF b4,dF b5⟩ ⟨dF (eF (mul2x (dF a2) (dF a3) (dF b2) (dF b3))),dF (eF (mul2y (dF a2) (dF a3) (dF b2) (dF b3)))⟩ ⟨dF (eF (mul2x (dF a4) (dF a5) (dF b4) (dF b5))),dF (eF (mul2y (dF a4) (dF a5) (dF b4) (dF b5)))⟩).y))))) (dF (eF (upy (dF (eF (crs ⟨dF a2,dF a3⟩ ⟨dF a4,dF a5⟩ ⟨dF b2,dF b3⟩ ⟨dF b4,dF b5⟩ ⟨dF (eF (mul2x (dF a2) (dF a3) (dF b2) (dF b3))),dF (eF (mul2y (dF a2) (dF a3) (dF b2) (dF b3)))⟩ ⟨dF (eF (mul2x (dF a4) (dF a5) (dF b4) (dF b5))),dF (eF (mul2y (dF a4) (dF a5) (dF b4) (dF b5)))⟩).x)) (dF (eF (crs ⟨dF a2,dF a3⟩ ⟨dF a4,dF a5⟩ ⟨dF b2,dF b3⟩ ⟨dF b4,dF b5⟩ ⟨dF (eF (mul2x (dF a2) (dF a3) (dF b2) (dF b3))),dF (eF (mul2y (dF a2) (dF a3) (dF b2) (dF b3)))⟩ ⟨dF (eF (mul2x (dF a4) (dF a5) (dF b4) (dF b5))),dF (eF (mul2y (dF a4) (dF a5) (dF b4) (dF b5)))⟩).y))))))) (eF (add2y (dF (eF (mul2x (dF a0) (dF a1) (dF b0) (dF b1)))) (dF (eF (mul2y (dF a0) (dF a1) (dF b0) (dF b1)))) (dF (eF (upx (dF (eF (crs ⟨dF a2,dF a3⟩ ⟨dF a4,dF a5⟩ ⟨dF b2,dF b3⟩ ⟨dF b4,dF b5⟩ ⟨dF (eF (mul2x (dF a2) (dF a3) (dF b2) (dF b3))),dF (eF (mul2y (dF a2) (dF a3) (dF b2) (dF b3)))⟩ ⟨dF (eF (mul2x (dF a4) (dF a5) (dF b4) (dF b5))),dF (eF (mul2y (dF a4) (dF a5) (dF b4) (dF b5)))⟩).x)) (dF (eF (crs ⟨dF a2,dF a3⟩ ⟨dF a4,dF a5⟩ ⟨dF b2,dF b3⟩ ⟨dF b4,dF b5⟩ ⟨dF (eF (mul2x (dF a2) (dF a3) (dF b2) (dF b3))),dF (eF (mul2y (dF a2) (dF a3) (dF b2) (dF b3)))⟩ ⟨dF (eF (mul2x (dF a4) (dF a5) (dF b4) (dF b5))),dF (eF (mul2y (dF a4) (dF a5) (dF b4) (dF b5)))⟩).y))))) (dF (eF (upy (dF (eF (crs ⟨dF a2,dF a3⟩ ⟨dF a4,dF a5⟩ ⟨dF b2,dF b3⟩ ⟨dF b4,dF b5⟩ ⟨dF (eF (mul2x (dF a2) (dF a3) (dF b2) (dF b3))),dF (eF (mul2y (dF a2) (dF a3) (dF b2) (dF b3)))⟩ ⟨dF (eF (mul2x (dF a4) (dF a5) (dF b4) (dF b5))),dF (eF (mul2y (dF a4) (dF a5) (dF b4) (dF b5)))⟩).x)) (dF (eF (crs ⟨dF a2,dF a3⟩ ⟨dF a4,dF a5⟩ ⟨dF b2,dF b3⟩ ⟨dF b4,dF b5⟩ ⟨dF (eF (mul2x (dF a2) (dF a3) (dF b2) (dF b3))),dF (eF (mul2y (dF a2) (dF a3) (dF b2) (dF b3)))⟩ ⟨dF (eF (mul2x (dF a4) (dF a5) (dF b4) (dF b5))),dF (eF (mul2y (dF a4) (dF a5) (dF b4) (dF b5)))⟩).y))))))) (eF (add2x (dF (eF (crs ⟨dF a0,dF a1⟩ ⟨dF a2,dF a3⟩ ⟨dF b0,dF b1⟩ ⟨dF b2,dF b3⟩ ⟨dF (eF (mul2x (dF a0) (dF a1) (dF b0) (dF b1))),dF (eF (mul2y (dF a0) (dF a1) (dF b0) (dF b1)))⟩ ⟨dF (eF (mul2x (dF a2) (dF a3) (dF b2) (dF b3))),dF (eF (mul2y (dF a2) (dF a3) (dF b2) (dF b3)))⟩).x)) (dF (eF (crs ⟨dF a0,dF a1⟩ ⟨dF a2,dF a3⟩ ⟨dF b0,dF b1⟩ ⟨dF b2,dF b3⟩ ⟨dF (eF (mul2x (dF a0) (dF a1) (dF b0) (dF b1))),dF (eF (mul2y (dF a0) (dF a1) (dF b0) (dF b1)))⟩ ⟨dF (eF (mul2x (dF a2) (dF a3) (dF b2) (dF b3))),dF (eF (mul2y (dF a2) (dF a3) (dF b2) (dF b3)))⟩).y)) (dF (eF (upx (dF (eF (mul2x (dF a4) (dF a5) (dF b4) (dF b5)))) (dF (eF (mul2y (dF a4) (dF a5) (dF b4) (dF b5))))))) (dF (eF (upy (dF (eF (mul2x (dF a4) (dF a5) (dF b4) (dF b5)))) (dF (eF (mul2y (dF a4) (dF a5) (dF b4) (dF b5))))))))) (eF (add2y (dF (eF (crs ⟨dF a0,dF a1⟩ ⟨dF a2,dF a3⟩ ⟨dF b0,dF b1⟩ ⟨dF b2,dF b3⟩ ⟨dF (eF (mul2x (dF a0) (dF a1) (dF b0) (dF b1))),dF (eF (mul2y (dF a0) (dF a1) (dF b0) (dF b1)))⟩ ⟨dF (eF (mul2x (dF a2) (dF a3) (dF b2) (dF b3))),dF (eF (mul2y (dF a2) (dF a3) (dF b2) (dF b3)))⟩).x)) (dF (eF (crs ⟨dF a0,dF a1⟩ ⟨dF a2,dF a3⟩ ⟨dF b0,dF b1⟩ ⟨dF b2,dF b3⟩ ⟨dF (eF (mul2x (dF a0) (dF a1) (dF b0) (dF b1))),dF (eF (mul2y (dF a0) (dF a1) (dF b0) (dF b1)))⟩ ⟨dF (eF (mul2x (dF a2) (dF a3) (dF b2) (dF b3))),dF (eF (mul2y (dF a2) (dF a3) (dF b2) (dF b3)))⟩).y)) (dF (eF (upx (dF (eF (mul2x (dF a4) (dF a5) (dF b4) (dF b5)))) (dF (eF (mul2y (dF a4) (dF a5) (dF b4) (dF b5))))))) (dF (eF (upy (dF (eF (mul2x (dF a4) (dF a5) (dF b4) (dF b5)))) (dF (eF (mul2y (dF a4) (dF a5) (dF b4) (dF b5))))))))) (eF (add2x (dF (eF (crs ⟨dF a0,dF a1⟩ ⟨dF a4,dF a5⟩ ⟨dF b0,dF b1⟩ ⟨dF b4,dF b5⟩ ⟨dF (eF (mul2x (dF a0) (dF a1) (dF b0) (dF b1))),dF (eF (mul2y (dF a0) (dF a1) (dF b0) (dF b1)))⟩ ⟨dF (eF (mul2x (dF a4) (dF a5) (dF b4) (dF b5))),dF (eF (mul2y (dF a4) (dF a5) (dF b4) (dF b5)))⟩).x)) (dF (eF (crs ⟨dF a0,dF a1⟩ ⟨dF a4,dF a5⟩ ⟨dF b0,dF b1⟩ ⟨dF b4,dF b5⟩ ⟨dF (eF (mul2x (dF a0) (dF a1) (dF b0) (dF b1))),dF (eF (mul2y (dF a0) (dF a1) (dF b0) (dF b1)))⟩ ⟨dF (eF (mul2x (dF a4) (dF a5) (dF b4) (dF b5))),dF (eF (mul2y (dF a4) (dF a5) (dF b4) (dF b5)))⟩).y)) (dF (eF (mul2x (dF a2) (dF a3) (dF b2) (dF b3)))) (dF (eF (mul2y (dF a2) (dF a3) (dF b2) (dF b3)))))) (eF (add2y (dF (eF (crs ⟨dF a0,dF a1⟩ ⟨dF a4,dF a5⟩ ⟨dF b0,dF b1⟩ ⟨dF b4,dF b5⟩ ⟨dF (eF (mul2x (dF a0) (dF a1) (dF b0) (dF b1))),dF (eF (mul2y (dF a0) (dF a1) (dF b0) (dF b1)))⟩ ⟨dF (eF (mul2x (dF a4) (dF a5) (dF b4) (dF b5))),dF (eF (mul2y (dF a4) (dF a5) (dF b4) (dF b5)))⟩).x)) (dF (eF (crs ⟨dF a0,dF a1⟩ ⟨dF a4,dF a5⟩ ⟨dF b0,dF b1⟩ ⟨dF b4,dF b5⟩ ⟨dF (eF (mul2x (dF a0) (dF a1) (dF b0) (dF b1))),dF (eF (mul2y (dF a0) (dF a1) (dF b0) (dF b1)))⟩ ⟨dF (eF (mul2x (dF a4) (dF a5) (dF b4) (dF b5))),dF (eF (mul2y (dF a4) (dF a5) (dF b4) (dF b5)))⟩).y)) (dF (eF (mul2x (dF a2) (dF a3) (dF b2) (dF b3)))) (dF (eF (mul2y (dF a2) (dF a3) (dF b2) (dF b3)))))))) (.v1 (e6 (S6.mul (d6 a0 a1 a2 a3 a4 a5) (d6 b0 b1 b2 b3 b4 b5))))) ?_ (by kernel_rfl)
 exact ⟨ha0,ha1,hb0,hb1,ha2,ha3,hb2,hb3,ha4,ha5,hb4,hb5,ha2,ha3,ha4,ha5,hb2,hb3,hb4,hb5,lt_eF _,lt_eF _,lt_eF _,lt_eF _,lt_eF _,lt_eF _,lt_eF _,lt_eF _,lt_eF _,lt_eF _,ha0,ha1,ha2,ha3,hb0,hb1,hb2,hb3,lt_eF _,lt_eF _,lt_eF _,lt_eF _,lt_eF _,lt_eF _,lt_eF _,lt_eF _,lt_eF _,lt_eF _,ha0,ha1,ha4,ha5,hb0,hb1,hb4,hb5,lt_eF _,lt_eF _,lt_eF _,lt_eF _,lt_eF _,lt_eF _,lt_eF _,lt_eF _,endN_6 (nvE (by simp only [dF_eF];simp only [S6.mul,crs,xi,F2p.add_x,F2p.add_y,F2p.mul_x,F2p.mul_y,F2p.sub_x,F2p.sub_y,add2x,add2y,sub2x,sub2y,mul2x,mul2y,upx,upy];grind)) (nvE (by simp only [dF_eF];simp only [S6.mul,crs,xi,F2p.add_x,F2p.add_y,F2p.mul_x,F2p.mul_y,F2p.sub_x,F2p.sub_y,add2x,add2y,sub2x,sub2y,mul2x,mul2y,upx,upy];grind)) (nvE (by simp only [dF_eF];simp only [S6.mul,crs,xi,F2p.add_x,F2p.add_y,F2p.mul_x,F2p.mul_y,F2p.sub_x,F2p.sub_y,add2x,add2y,sub2x,sub2y,mul2x,mul2y,upx,upy];grind)) (nvE (by simp only [dF_eF];simp only [S6.mul,crs,xi,F2p.add_x,F2p.add_y,F2p.mul_x,F2p.mul_y,F2p.sub_x,F2p.sub_y,add2x,add2y,sub2x,sub2y,mul2x,mul2y,upx,upy];grind)) (nvE (by simp only [dF_eF];simp only [S6.mul,crs,xi,F2p.add_x,F2p.add_y,F2p.mul_x,F2p.mul_y,F2p.sub_x,F2p.sub_y,add2x,add2y,sub2x,sub2y,mul2x,mul2y,upx,upy];grind)) (nvE (by simp only [dF_eF];simp only [S6.mul,crs,xi,F2p.add_x,F2p.add_y,F2p.mul_x,F2p.mul_y,F2p.sub_x,F2p.sub_y,add2x,add2y,sub2x,sub2y,mul2x,mul2y,upx,upy];grind))⟩
end Go.Proofs.Ytnjocbcjejpklaa
namespace Go.Proofs.Ytnjocbcjejpklaa
open Go.Rq Go
set_option maxRecDepth 100000
abbrev v12 (a0 a1 a2 a3 a4 a5 a6 a7 a8 a9 a10 a11:Nat->Nat):V1:=.agg [q6 a0,q6 a1,q6 a2,q6 a3,q6 a4,q6 a5,q6 a6,q6 a7,q6 a8,q6 a9,q6 a10,q6 a11]
def cHal:List AV->Option (List Prop × AV)
 | [.v1 (.agg [.ws .u64 6 a0,.ws .u64 6 a1,.ws .u64 6 a2,.ws .u64 6 a3,.ws .u64 6 a4,.ws .u64 6 a5,.ws .u64 6 a6,.ws .u64 6 a7,.ws .u64 6 a8,.ws .u64 6 a9,.ws .u64 6 a10,.ws .u64 6 a11])]=>some ([],.tup [v6 a0 a1 a4 a5 a8 a9,v6 a2 a3 a6 a7 a10 a11])
 | _=>none
def cWho:List AV->Option (List Prop × AV)
 | [.v1 (.agg [.ws .u64 6 a0,.ws .u64 6 a1,.ws .u64 6 a2,.ws .u64 6 a3,.ws .u64 6 a4,.ws .u64 6 a5]),.v1 (.agg [.ws .u64 6 b0,.ws .u64 6 b1,.ws .u64 6 b2,.ws .u64 6 b3,.ws .u64 6 b4,.ws .u64 6 b5])]=>some ([],.v1 (v12 a0 a1 b0 b1 a2 a3 b2 b3 a4 a5 b4 b5))
 | _=>none
theorem okHal:(CallC.pure cHal).Ok Try.prog 27:=by
 intro args pre v e _
 unfold cHal at e
 split at e
 ·rename_i a0 a1 a2 a3 a4 a5 a6 a7 a8 a9 a10 a11
  cases e
  refine pure_walk' tt_ok Try.func27 (by kernel_rfl) (by kernel_rfl) (by rfl) (by rfl) ?_
  refine evS_q mixed tt_ok G0_ok 60 [] ?_
  exact same (p:=endN (.tup [v6 a0 a1 a4 a5 a8 a9,v6 a2 a3 a6 a7 a10 a11]) (.tup [v6 a0 a1 a4 a5 a8 a9,v6 a2 a3 a6 a7 a10 a11])) ⟨_,rfl,fun _=>rfl⟩ (by kernel_rfl)
 ·cases e
theorem okWho:(CallC.pure cWho).Ok Try.prog 30:=by
 intro args pre v e _
 unfold cWho at e
 split at e
 ·rename_i a0 a1 a2 a3 a4 a5 b0 b1 b2 b3 b4 b5
  cases e
  refine pure_walk' tt_ok Try.func30 (by kernel_rfl) (by kernel_rfl) (by rfl) (by rfl) ?_
  refine evS_q mixed tt_ok G0_ok 60 [] ?_
  exact same (p:=endN (.v1 (v12 a0 a1 b0 b1 a2 a3 b2 b3 a4 a5 b4 b5)) (.v1 (v12 a0 a1 b0 b1 a2 a3 b2 b3 a4 a5 b4 b5))) ⟨_,rfl,fun _=>rfl⟩ (by kernel_rfl)
 ·cases e
end Go.Proofs.Ytnjocbcjejpklaa
namespace Go.Proofs.Ytnjocbcjejpklaa
open Go.Rq Go
set_option maxRecDepth 100000
abbrev D6 (s:S6):S6:=d6 (eF s.u.x) (eF s.u.y) (eF s.v.x) (eF s.v.y) (eF s.w.x) (eF s.w.y)
theorem D6_eq (s:S6):D6 s = s:=by simp only [D6,d6,dF_eF]
theorem S6.kar (p q r s:S6):S6.sub (S6.sub (S6.mul (S6.add p q) (S6.add r s)) (S6.mul p r)) (S6.mul q s) = S6.add (S6.mul p s) (S6.mul q r):=by
 unfold S6.sub S6.mul S6.add
 simp only [xi_mul,S6.mk.injEq]
 generalize kx = k
 refine ⟨?_,?_,?_⟩ <;> grind
abbrev d12 (a0 a1 a2 a3 a4 a5 a6 a7 a8 a9 a10 a11:Nat->Nat):S12:=⟨d6 a0 a1 a4 a5 a8 a9,d6 a2 a3 a6 a7 a10 a11⟩
abbrev e12 (s:S12):V1:=v12 (eF s.p.u.x) (eF s.p.u.y) (eF s.q.u.x) (eF s.q.u.y) (eF s.p.v.x) (eF s.p.v.y) (eF s.q.v.x) (eF s.q.v.y) (eF s.p.w.x) (eF s.p.w.y) (eF s.q.w.x) (eF s.q.w.y)
theorem v12_val {a0 a1 a2 a3 a4 a5 a6 a7 a8 a9 a10 a11 a0' a1' a2' a3' a4' a5' a6' a7' a8' a9' a10' a11':Nat->Nat} (h0:nv a0 = nv a0') (h1:nv a1 = nv a1') (h2:nv a2 = nv a2') (h3:nv a3 = nv a3') (h4:nv a4 = nv a4') (h5:nv a5 = nv a5') (h6:nv a6 = nv a6') (h7:nv a7 = nv a7') (h8:nv a8 = nv a8') (h9:nv a9 = nv a9') (h10:nv a10 = nv a10') (h11:nv a11 = nv a11') (ρ:Ren):(v12 a0 a1 a2 a3 a4 a5 a6 a7 a8 a9 a10 a11).val ρ = (v12 a0' a1' a2' a3' a4' a5' a6' a7' a8' a9' a10' a11').val ρ:=by
 show Value.agg (cvals ρ _).toArray = Value.agg (cvals ρ _).toArray
 simp only [cvals]
 rw [ws_cell ρ h0,ws_cell ρ h1,ws_cell ρ h2,ws_cell ρ h3,ws_cell ρ h4,ws_cell ρ h5,ws_cell ρ h6,ws_cell ρ h7,ws_cell ρ h8,ws_cell ρ h9,ws_cell ρ h10,ws_cell ρ h11]
def k122 (F:S12->S12->S12):List AV->Option (List Prop × AV)
 | [.v1 (.agg [.ws .u64 6 a0,.ws .u64 6 a1,.ws .u64 6 a2,.ws .u64 6 a3,.ws .u64 6 a4,.ws .u64 6 a5,.ws .u64 6 a6,.ws .u64 6 a7,.ws .u64 6 a8,.ws .u64 6 a9,.ws .u64 6 a10,.ws .u64 6 a11]),.v1 (.agg [.ws .u64 6 b0,.ws .u64 6 b1,.ws .u64 6 b2,.ws .u64 6 b3,.ws .u64 6 b4,.ws .u64 6 b5,.ws .u64 6 b6,.ws .u64 6 b7,.ws .u64 6 b8,.ws .u64 6 b9,.ws .u64 6 b10,.ws .u64 6 b11])]=>some ([nv a0 < pN,nv a1 < pN,nv a2 < pN,nv a3 < pN,nv a4 < pN,nv a5 < pN,nv a6 < pN,nv a7 < pN,nv a8 < pN,nv a9 < pN,nv a10 < pN,nv a11 < pN,nv b0 < pN,nv b1 < pN,nv b2 < pN,nv b3 < pN,nv b4 < pN,nv b5 < pN,nv b6 < pN,nv b7 < pN,nv b8 < pN,nv b9 < pN,nv b10 < pN,nv b11 < pN],.v1 (e12 (F (d12 a0 a1 a2 a3 a4 a5 a6 a7 a8 a9 a10 a11) (d12 b0 b1 b2 b3 b4 b5 b6 b7 b8 b9 b10 b11))))
 | _=>none
def GMl:Ctx:=ctxL [(27,.pure cHal),(30,.pure cWho),(28,.pure (k62 S6.mul)),(29,.pure (k62 S6.add)),(32,.pure (k62 S6.sub)),(31,.pure (k61 S6.next))]
theorem GMl_ok:CtxOk Try.prog GMl:=ctxL_cons okHal <| ctxL_cons okWho <| ctxL_cons okSmul <| ctxL_cons okSadd <| ctxL_cons okSsub <| ctxL_cons okSnext ctxL_nil
theorem okMul12:(CallC.pure (k122 S12.mul)).Ok Try.prog 14:=by
 intro args pre v e hp
 unfold k122 at e
 split at e
 ·rename_i a0 a1 a2 a3 a4 a5 a6 a7 a8 a9 a10 a11 b0 b1 b2 b3 b4 b5 b6 b7 b8 b9 b10 b11
  cases e
  have ha0:nv a0 < pN:=hp _ (by simp)
  have ha1:nv a1 < pN:=hp _ (by simp)
  have ha2:nv a2 < pN:=hp _ (by simp)
  have ha3:nv a3 < pN:=hp _ (by simp)
  have ha4:nv a4 < pN:=hp _ (by simp)
  have ha5:nv a5 < pN:=hp _ (by simp)
  have ha6:nv a6 < pN:=hp _ (by simp)
  have ha7:nv a7 < pN:=hp _ (by simp)
  have ha8:nv a8 < pN:=hp _ (by simp)
  have ha9:nv a9 < pN:=hp _ (by simp)
  have ha10:nv a10 < pN:=hp _ (by simp)
  have ha11:nv a11 < pN:=hp _ (by simp)
  have hb0:nv b0 < pN:=hp _ (by simp)
  have hb1:nv b1 < pN:=hp _ (by simp)
  have hb2:nv b2 < pN:=hp _ (by simp)
  have hb3:nv b3 < pN:=hp _ (by simp)
  have hb4:nv b4 < pN:=hp _ (by simp)
  have hb5:nv b5 < pN:=hp _ (by simp)
  have hb6:nv b6 < pN:=hp _ (by simp)
  have hb7:nv b7 < pN:=hp _ (by simp)
  have hb8:nv b8 < pN:=hp _ (by simp)
  have hb9:nv b9 < pN:=hp _ (by simp)
  have hb10:nv b10 < pN:=hp _ (by simp)
  have hb11:nv b11 < pN:=hp _ (by simp)
  have hlo:(S6.add (D6 (S6.mul (d6 a0 a1 a4 a5 a8 a9) (d6 b0 b1 b4 b5 b8 b9))) (D6 (S6.next (D6 (S6.mul (d6 a2 a3 a6 a7 a10 a11) (d6 b2 b3 b6 b7 b10 b11)))))) = (S12.mul (d12 a0 a1 a2 a3 a4 a5 a6 a7 a8 a9 a10 a11) (d12 b0 b1 b2 b3 b4 b5 b6 b7 b8 b9 b10 b11)).p:=by simp only [D6_eq];rfl
  have hhi:(S6.sub (D6 (S6.sub (D6 (S6.mul (D6 (S6.add (d6 a0 a1 a4 a5 a8 a9) (d6 a2 a3 a6 a7 a10 a11))) (D6 (S6.add (d6 b0 b1 b4 b5 b8 b9) (d6 b2 b3 b6 b7 b10 b11))))) (D6 (S6.mul (d6 a0 a1 a4 a5 a8 a9) (d6 b0 b1 b4 b5 b8 b9))))) (D6 (S6.mul (d6 a2 a3 a6 a7 a10 a11) (d6 b2 b3 b6 b7 b10 b11)))) = (S12.mul (d12 a0 a1 a2 a3 a4 a5 a6 a7 a8 a9 a10 a11) (d12 b0 b1 b2 b3 b4 b5 b6 b7 b8 b9 b10 b11)).q:=by simp only [D6_eq];exact S6.kar _ _ _ _
  refine pure_walk' tt_ok Try.func14 (by kernel_rfl) (by kernel_rfl) (by rfl) (by rfl) ?_
  refine evS_q mixed tt_ok GMl_ok 60 [] ?_
  refine same (p:=nv a0 < pN/\lp a1/\lp a4/\lp a5/\lp a8/\lp a9/\lp b0/\lp b1/\lp b4/\lp b5/\lp b8/\lp b9/\lp a2/\lp a3/\lp a6/\lp a7/\lp a10/\lp a11/\lp b2/\lp b3/\lp b6/\lp b7/\lp b10/\lp b11/\lp a0/\lp a1/\lp a4/\lp a5/\lp a8/\lp a9/\lp a2/\lp a3/\lp a6/\lp a7/\lp a10/\lp a11/\lp b0/\lp b1/\lp b4/\lp b5/\lp b8/\lp b9/\lp b2/\lp b3/\lp b6/\lp b7/\lp b10/\lp b11/\lp (eF (S6.add (d6 a0 a1 a4 a5 a8 a9) (d6 a2 a3 a6 a7 a10 a11)).u.x)/\lp (eF (S6.add (d6 a0 a1 a4 a5 a8 a9) (d6 a2 a3 a6 a7 a10 a11)).u.y)/\lp (eF (S6.add (d6 a0 a1 a4 a5 a8 a9) (d6 a2 a3 a6 a7 a10 a11)).v.x)/\lp (eF (S6.add (d6 a0 a1 a4 a5 a8 a9) (d6 a2 a3 a6 a7 a10 a11)).v.y)/\lp (eF (S6.add (d6 a0 a1 a4 a5 a8 a9) (d6 a2 a3 a6 a7 a10 a11)).w.x)/\lp (eF (S6.add (d6 a0 a1 a4 a5 a8 a9) (d6 a2 a3 a6 a7 a10 a11)).w.y)/\lp (eF (S6.add (d6 b0 b1 b4 b5 b8 b9) (d6 b2 b3 b6 b7 b10 b11)).u.x)/\lp (eF (S6.add (d6 b0 b1 b4 b5 b8 b9) (d6 b2 b3 b6 b7 b10 b11)).u.y)/\lp (eF (S6.add (d6 b0 b1 b4 b5 b8 b9) (d6 b2 b3 b6 b7 b10 b11)).v.x)/\lp (eF (S6.add (d6 b0 b1 b4 b5 b8 b9) (d6 b2 b3 b6 b7 b10 b11)).v.y)/\lp (eF (S6.add (d6 b0 b1 b4 b5 b8 b9) (d6 b2 b3 b6 b7 b10 b11)).w.x)/\lp (eF (S6.add (d6 b0 b1 b4 b5 b8 b9) (d6 b2 b3 b6 b7 b10 b11)).w.y)/\lp (eF (S6.mul (d6 a2 a3 a6 a7 a10 a11) (d6 b2 b3 b6 b7 b10 b11)).u.x)/\lp (eF (S6.mul (d6 a2 a3 a6 a7 a10 a11) (d6 b2 b3 b6 b7 b10 b11)).u.y)/\lp (eF (S6.mul (d6 a2 a3 a6 a7 a10 a11) (d6 b2 b3 b6 b7 b10 b11)).v.x)/\lp (eF (S6.mul (d6 a2 a3 a6 a7 a10 a11) (d6 b2 b3 b6 b7 b10 b11)).v.y)/\lp (eF (S6.mul (d6 a2 a3 a6 a7 a10 a11) (d6 b2 b3 b6 b7 b10 b11)).w.x)/\lp (eF (S6.mul (d6 a2 a3 a6 a7 a10 a11) (d6 b2 b3 b6 b7 b10 b11)).w.y)/\lp (eF (S6.mul (d6 a0 a1 a4 a5 a8 a9) (d6 b0 b1 b4 b5 b8 b9)).u.x)/\lp (eF (S6.mul (d6 a0 a1 a4 a5 a8 a9) (d6 b0 b1 b4 b5 b8 b9)).u.y)/\lp (eF (S6.mul (d6 a0 a1 a4 a5 a8 a9) (d6 b0 b1 b4 b5 b8 b9)).v.x)/\lp (eF (S6.mul (d6 a0 a1 a4 a5 a8 a9) (d6 b0 b1 b4 b5 b8 b9)).v.y)/\lp (eF (S6.mul (d6 a0 a1 a4 a5 a8 a9) (d6 b0 b1 b4 b5 b8 b9)).w.x)/\lp (eF (S6.mul (d6 a0 a1 a4 a5 a8 a9) (d6 b0 b1 b4 b5 b8 b9)).w.y)/\lp (eF (S6.next (D6 (S6.mul (d6 a2 a3 a6 a7 a10 a11) (d6 b2 b3 b6 b7 b10 b11)))).u.x)/\lp (eF (S6.next (D6 (S6.mul (d6 a2 a3 a6 a7 a10 a11) (d6 b2 b3 b6 b7 b10 b11)))).u.y)/\lp (eF (S6.next (D6 (S6.mul (d6 a2 a3 a6 a7 a10 a11) (d6 b2 b3 b6 b7 b10 b11)))).v.x)/\lp (eF (S6.next (D6 (S6.mul (d6 a2 a3 a6 a7 a10 a11) (d6 b2 b3 b6 b7 b10 b11)))).v.y)/\lp (eF (S6.next (D6 (S6.mul (d6 a2 a3 a6 a7 a10 a11) (d6 b2 b3 b6 b7 b10 b11)))).w.x)/\lp (eF (S6.next (D6 (S6.mul (d6 a2 a3 a6 a7 a10 a11) (d6 b2 b3 b6 b7 b10 b11)))).w.y)/\lp (eF (S6.mul (D6 (S6.add (d6 a0 a1 a4 a5 a8 a9) (d6 a2 a3 a6 a7 a10 a11))) (D6 (S6.add (d6 b0 b1 b4 b5 b8 b9) (d6 b2 b3 b6 b7 b10 b11)))).u.x)/\lp (eF (S6.mul (D6 (S6.add (d6 a0 a1 a4 a5 a8 a9) (d6 a2 a3 a6 a7 a10 a11))) (D6 (S6.add (d6 b0 b1 b4 b5 b8 b9) (d6 b2 b3 b6 b7 b10 b11)))).u.y)/\lp (eF (S6.mul (D6 (S6.add (d6 a0 a1 a4 a5 a8 a9) (d6 a2 a3 a6 a7 a10 a11))) (D6 (S6.add (d6 b0 b1 b4 b5 b8 b9) (d6 b2 b3 b6 b7 b10 b11)))).v.x)/\lp (eF (S6.mul (D6 (S6.add (d6 a0 a1 a4 a5 a8 a9) (d6 a2 a3 a6 a7 a10 a11))) (D6 (S6.add (d6 b0 b1 b4 b5 b8 b9) (d6 b2 b3 b6 b7 b10 b11)))).v.y)/\lp (eF (S6.mul (D6 (S6.add (d6 a0 a1 a4 a5 a8 a9) (d6 a2 a3 a6 a7 a10 a11))) (D6 (S6.add (d6 b0 b1 b4 b5 b8 b9) (d6 b2 b3 b6 b7 b10 b11)))).w.x)/\lp (eF (S6.mul (D6 (S6.add (d6 a0 a1 a4 a5 a8 a9) (d6 a2 a3 a6 a7 a10 a11))) (D6 (S6.add (d6 b0 b1 b4 b5 b8 b9) (d6 b2 b3 b6 b7 b10 b11)))).w.y)/\lp (eF (S6.mul (d6 a0 a1 a4 a5 a8 a9) (d6 b0 b1 b4 b5 b8 b9)).u.x)/\lp (eF (S6.mul (d6 a0 a1 a4 a5 a8 a9) (d6 b0 b1 b4 b5 b8 b9)).u.y)/\lp (eF (S6.mul (d6 a0 a1 a4 a5 a8 a9) (d6 b0 b1 b4 b5 b8 b9)).v.x)/\lp (eF (S6.mul (d6 a0 a1 a4 a5 a8 a9) (d6 b0 b1 b4 b5 b8 b9)).v.y)/\lp (eF (S6.mul (d6 a0 a1 a4 a5 a8 a9) (d6 b0 b1 b4 b5 b8 b9)).w.x)/\lp (eF (S6.mul (d6 a0 a1 a4 a5 a8 a9) (d6 b0 b1 b4 b5 b8 b9)).w.y)/\nv (eF (S6.sub (D6 (S6.mul (D6 (S6.add (d6 a0 a1 a4 a5 a8 a9) (d6 a2 a3 a6 a7 a10 a11))) (D6 (S6.add (d6 b0 b1 b4 b5 b8 b9) (d6 b2 b3 b6 b7 b10 b11))))) (D6 (S6.mul (d6 a0 a1 a4 a5 a8 a9) (d6 b0 b1 b4 b5 b8 b9)))).u.x) < pN/\nv (eF (S6.sub (D6 (S6.mul (D6 (S6.add (d6 a0 a1 a4 a5 a8 a9) (d6 a2 a3 a6 a7 a10 a11))) (D6 (S6.add (d6 b0 b1 b4 b5 b8 b9) (d6 b2 b3 b6 b7 b10 b11))))) (D6 (S6.mul (d6 a0 a1 a4 a5 a8 a9) (d6 b0 b1 b4 b5 b8 b9)))).u.y) < pN/\nv (eF (S6.sub (D6 (S6.mul (D6 (S6.add (d6 a0 a1 a4 a5 a8 a9) (d6 a2 a3 a6 a7 a10 a11))) (D6 (S6.add (d6 b0 b1 b4 b5 b8 b9) (d6 b2 b3 b6 b7 b10 b11))))) (D6 (S6.mul (d6 a0 a1 a4 a5 a8 a9) (d6 b0 b1 b4 b5 b8 b9)))).v.x) < pN/\nv (eF (S6.sub (D6 (S6.mul (D6 (S6.add (d6 a0 a1 a4 a5 a8 a9) (d6 a2 a3 a6 a7 a10 a11))) (D6 (S6.add (d6 b0 b1 b4 b5 b8 b9) (d6 b2 b3 b6 b7 b10 b11))))) (D6 (S6.mul (d6 a0 a1 a4 a5 a8 a9) (d6 b0 b1 b4 b5 b8 b9)))).v.y) < pN/\nv (eF (S6.sub (D6 (S6.mul (D6 (S6.add (d6 a0 a1 a4 a5 a8 a9) (d6 a2 a3 a6 a7 a10 a11))) (D6 (S6.add (d6 b0 b1 b4 b5 b8 b9) (d6 b2 b3 b6 b7 b10 b11))))) (D6 (S6.mul (d6 a0 a1 a4 a5 a8 a9) (d6 b0 b1 b4 b5 b8 b9)))).w.x) < pN/\nv (eF (S6.sub (D6 (S6.mul (D6 (S6.add (d6 a0 a1 a4 a5 a8 a9) (d6 a2 a3 a6 a7 a10 a11))) (D6 (S6.add (d6 b0 b1 b4 b5 b8 b9) (d6 b2 b3 b6 b7 b10 b11))))) (D6 (S6.mul (d6 a0 a1 a4 a5 a8 a9) (d6 b0 b1 b4 b5 b8 b9)))).w.y) < pN/\lp (eF (S6.mul (d6 a2 a3 a6 a7 a10 a11) (d6 b2 b3 b6 b7 b10 b11)).u.x)/\lp (eF (S6.mul (d6 a2 a3 a6 a7 a10 a11) (d6 b2 b3 b6 b7 b10 b11)).u.y)/\lp (eF (S6.mul (d6 a2 a3 a6 a7 a10 a11) (d6 b2 b3 b6 b7 b10 b11)).v.x)/\lp (eF (S6.mul (d6 a2 a3 a6 a7 a10 a11) (d6 b2 b3 b6 b7 b10 b11)).v.y)/\lp (eF (S6.mul (d6 a2 a3 a6 a7 a10 a11) (d6 b2 b3 b6 b7 b10 b11)).w.x)/\lp (eF (S6.mul (d6 a2 a3 a6 a7 a10 a11) (d6 b2 b3 b6 b7 b10 b11)).w.y)/\endN (.v1 (v12 (eF (S6.add (D6 (S6.mul (d6 a0 a1 a4 a5 a8 a9) (d6 b0 b1 b4 b5 b8 b9))) (D6 (S6.next (D6 (S6.mul (d6 a2 a3 a6 a7 a10 a11) (d6 b2 b3 b6 b7 b10 b11)))))).u.x) (eF (S6.add (D6 (S6.mul (d6 a0 a1 a4 a5 a8 a9) (d6 b0 b1 b4 b5 b8 b9))) (D6 (S6.next (D6 (S6.mul (d6 a2 a3 a6 a7 a10 a11) (d6 b2 b3 b6 b7 b10 b11)))))).u.y) (eF (S6.sub (D6 (S6.sub (D6 (S6.mul (D6 (S6.add (d6 a0 a1 a4 a5 a8 a9) (d6 a2 a3 a6 a7 a10 a11))) (D6 (S6.add (d6 b0 b1 b4 b5 b8 b9) (d6 b2 b3 b6 b7 b10 b11))))) (D6 (S6.mul (d6 a0 a1 a4 a5 a8 a9) (d6 b0 b1 b4 b5 b8 b9))))) (D6 (S6.mul (d6 a2 a3 a6 a7 a10 a11) (d6 b2 b3 b6 b7 b10 b11)))).u.x) (eF (S6.sub (D6 (S6.sub (D6 (S6.mul (D6 (S6.add (d6 a0 a1 a4 a5 a8 a9) (d6 a2 a3 a6 a7 a10 a11))) (D6 (S6.add (d6 b0 b1 b4 b5 b8 b9) (d6 b2 b3 b6 b7 b10 b11))))) (D6 (S6.mul (d6 a0 a1 a4 a5 a8 a9) (d6 b0 b1 b4 b5 b8 b9))))) (D6 (S6.mul (d6 a2 a3 a6 a7 a10 a11) (d6 b2 b3 b6 b7 b10 b11)))).u.y) (eF (S6.add (D6 (S6.mul (d6 a0 a1 a4 a5 a8 a9) (d6 b0 b1 b4 b5 b8 b9))) (D6 (S6.next (D6 (S6.mul (d6 a2 a3 a6 a7 a10 a11) (d6 b2 b3 b6 b7 b10 b11)))))).v.x) (eF (S6.add (D6 (S6.mul (d6 a0 a1 a4 a5 a8 a9) (d6 b0 b1 b4 b5 b8 b9))) (D6 (S6.next (D6 (S6.mul (d6 a2 a3 a6 a7 a10 a11) (d6 b2 b3 b6 b7 b10 b11)))))).v.y) (eF (S6.sub (D6 (S6.sub (D6 (S6.mul (D6 (S6.add (d6 a0 a1 a4 a5 a8 a9) (d6 a2 a3 a6 a7 a10 a11))) (D6 (S6.add (d6 b0 b1 b4 b5 b8 b9) (d6 b2 b3 b6 b7 b10 b11))))) (D6 (S6.mul (d6 a0 a1 a4 a5 a8 a9) (d6 b0 b1 b4 b5 b8 b9))))) (D6 (S6.mul (d6 a2 a3 a6 a7 a10 a11) (d6 b2 b3 b6 b7 b10 b11)))).v.x) (eF (S6.sub (D6 (S6.sub (D6 (S6.mul (D6 (S6.add (d6 a0 a1 a4 a5 a8 a9) (d6 a2 a3 a6 a7 a10 a11))) (D6 (S6.add (d6 b0 b1 b4 b5 b8 b9) (d6 b2 b3 b6 b7 b10 b11))))) (D6 (S6.mul (d6 a0 a1 a4 a5 a8 a9) (d6 b0 b1 b4 b5 b8 b9))))) (D6 (S6.mul (d6 a2 a3 a6 a7 a10 a11) (d6 b2 b3 b6 b7 b10 b11)))).v.y) (eF (S6.add (D6 (S6.mul (d6 a0 a1 a4 a5 a8 a9) (d6 b0 b1 b4 b5 b8 b9))) (D6 (S6.next (D6 (S6.mul (d6 a2 a3 a6 a7 a10 a11) (d6 b2 b3 b6 b7 b10 b11)))))).w.x) (eF (S6.add (D6 (S6.mul (d6 a0 a1 a4 a5 a8 a9) (d6 b0 b1 b4 b5 b8 b9))) (D6 (S6.next (D6 (S6.mul (d6 a2 a3 a6 a7 a10 a11) (d6 b2 b3 b6 b7 b10 b11)))))).w.y) (eF (S6.sub (D6 (S6.sub (D6 (S6.mul (D6 (S6.add (d6 a0 a1 a4 a5 a8 a9) (d6 a2 a3 a6 a7 a10 a11))) (D6 (S6.add (d6 b0 b1 b4 b5 b8 b9) (d6 b2 b3 b6 b7 b10 b11))))) (D6 (S6.mul (d6 a0 a1 a4 a5 a8 a9) (d6 b0 b1 b4 b5 b8 b9))))) (D6 (S6.mul (d6 a2 a3 a6 a7 a10 a11) (d6 b2 b3 b6 b7 b10 b11)))).w.x) (eF (S6.sub (D6 (S6.sub (D6 (S6.mul (D6 (S6.add (d6 a0 a1 a4 a5 a8 a9) (d6 a2 a3 a6 a7 a10 a11))) (D6 (S6.add (d6 b0 b1 b4 b5 b8 b9) (d6 b2 b3 b6 b7 b10 b11))))) (D6 (S6.mul (d6 a0 a1 a4 a5 a8 a9) (d6 b0 b1 b4 b5 b8 b9))))) (D6 (S6.mul (d6 a2 a3 a6 a7 a10 a11) (d6 b2 b3 b6 b7 b10 b11)))).w.y))) (.v1 (e12 (S12.mul (d12 a0 a1 a2 a3 a4 a5 a6 a7 a8 a9 a10 a11) (d12 b0 b1 b2 b3 b4 b5 b6 b7 b8 b9 b10 b11))))) ?_ (by kernel_rfl)
  exact ⟨ha0,ha1,ha4,ha5,ha8,ha9,hb0,hb1,hb4,hb5,hb8,hb9,ha2,ha3,ha6,ha7,ha10,ha11,hb2,hb3,hb6,hb7,hb10,hb11,ha0,ha1,ha4,ha5,ha8,ha9,ha2,ha3,ha6,ha7,ha10,ha11,hb0,hb1,hb4,hb5,hb8,hb9,hb2,hb3,hb6,hb7,hb10,hb11,lt_eF _,lt_eF _,lt_eF _,lt_eF _,lt_eF _,lt_eF _,lt_eF _,lt_eF _,lt_eF _,lt_eF _,lt_eF _,lt_eF _,lt_eF _,lt_eF _,lt_eF _,lt_eF _,lt_eF _,lt_eF _,lt_eF _,lt_eF _,lt_eF _,lt_eF _,lt_eF _,lt_eF _,lt_eF _,lt_eF _,lt_eF _,lt_eF _,lt_eF _,lt_eF _,lt_eF _,lt_eF _,lt_eF _,lt_eF _,lt_eF _,lt_eF _,lt_eF _,lt_eF _,lt_eF _,lt_eF _,lt_eF _,lt_eF _,lt_eF _,lt_eF _,lt_eF _,lt_eF _,lt_eF _,lt_eF _,lt_eF _,lt_eF _,lt_eF _,lt_eF _,lt_eF _,lt_eF _,_,rfl,v12_val (nvE (by rw [hlo])) (nvE (by rw [hlo])) (nvE (by rw [hhi])) (nvE (by rw [hhi])) (nvE (by rw [hlo])) (nvE (by rw [hlo])) (nvE (by rw [hhi])) (nvE (by rw [hhi])) (nvE (by rw [hlo])) (nvE (by rw [hlo])) (nvE (by rw [hhi])) (nvE (by rw [hhi]))⟩
 ·cases e
end Go.Proofs.Ytnjocbcjejpklaa
namespace Go.Proofs.Ytnjocbcjejpklaa
open Go.Rq Go
set_option maxRecDepth 100000
def gN (a:Nat->Nat):Fp:=ofN (nv a)
theorem gN_vF (z:Fp):gN (vF z) = z:=ofN_vF z
theorem nvV {x y:Fp} (h:x = y):nv (vF x) = nv (vF y):=by rw [h]
def cTo2:List AV->Option (List Prop × AV)
 | [.v1 (.agg [.ws .u64 6 a,.ws .u64 6 b])]=>some ([],f2 (eF (gN a)) (eF (gN b)))
 | _=>none
def cFrom2:List AV->Option (List Prop × AV)
 | [.v1 (.agg [.ws .u64 6 a,.ws .u64 6 b])]=>some ([nv a < pN,nv b < pN],f2 (vF (dF a)) (vF (dF b)))
 | _=>none
def GTf:Ctx:=ctxL [(42,.pure cTo),(47,.pure cFrom)]
theorem GTf_ok:CtxOk Try.prog GTf:=ctxL_cons okTo <| ctxL_cons okFrom ctxL_nil
theorem okTo2:(CallC.pure cTo2).Ok Try.prog 20:=by
 intro args pre v e _
 unfold cTo2 at e
 split at e
 ·rename_i a b
  cases e
  refine pure_walk' tt_ok Try.func20 (by kernel_rfl) (by kernel_rfl) (by rfl) (by rfl) ?_
  refine evS_q mixed tt_ok GTf_ok 60 [] ?_
  exact same (p:=endN (f2 (eF (ofN (nv a))) (eF (ofN (nv b)))) (f2 (eF (gN a)) (eF (gN b)))) (endN_f2 rfl rfl) (by kernel_rfl)
 ·cases e
theorem okFrom2:(CallC.pure cFrom2).Ok Try.prog 21:=by
 intro args pre v e hp
 unfold cFrom2 at e
 split at e
 ·rename_i a b
  cases e
  have ha:nv a < pN:=hp _ (by simp)
  have hb:nv b < pN:=hp _ (by simp)
  refine pure_walk' tt_ok Try.func21 (by kernel_rfl) (by kernel_rfl) (by rfl) (by rfl) ?_
  refine evS_q mixed tt_ok GTf_ok 60 [] ?_
  exact same (p:=nv a < pN/\nv b < pN/\endN (f2 (vF (dF a)) (vF (dF b))) (f2 (vF (dF a)) (vF (dF b)))) ⟨ha,hb,endN_f2 rfl rfl⟩ (by kernel_rfl)
 ·cases e
def inv2x (a b:Fp):Fp:=a * eInv (nor2 a b)
def inv2y (a b:Fp):Fp:=(0 - b) * eInv (nor2 a b)
def GI2:Ctx:=ctxL [(51,.pure (q1 cj2x cj2y)),(89,.pure (qn nor2)),(60,.pure (el1 eInv)),(88,.pure (qs sc2x sc2y))]
theorem GI2_ok:CtxOk Try.prog GI2:=ctxL_cons okConj2 <| ctxL_cons okNorm <| ctxL_cons okEInv <| ctxL_cons okScale ctxL_nil
theorem okMInv2:(CallC.pure (q1 inv2x inv2y)).Ok Try.prog 67:=by
 refine q1_ok Try.func67 (by kernel_rfl) (by kernel_rfl) fun a b ha hb=>evS_q mixed tt_ok GI2_ok 100 [] ?_
 refine same (p:=nv a < pN/\lp b/\lp a/\lp b/\nv (eF (nor2 (dF a) (dF b))) < pN /\
  nv (eF (cj2x (dF a) (dF b))) < pN/\lp (eF (cj2y (dF a) (dF b)))/\nv (eF (eInv (dF (eF (nor2 (dF a) (dF b)))))) < pN /\
  endN (f2 (eF (sc2x (dF (eF (cj2x (dF a) (dF b)))) (dF (eF (cj2y (dF a) (dF b)))) (dF (eF (eInv (dF (eF (nor2 (dF a) (dF b)))))))))
   (eF (sc2y (dF (eF (cj2x (dF a) (dF b)))) (dF (eF (cj2y (dF a) (dF b)))) (dF (eF (eInv (dF (eF (nor2 (dF a) (dF b)))))))))) (f2 (eF (inv2x (dF a) (dF b))) (eF (inv2y (dF a) (dF b))))) ?_ (by kernel_rfl)
 refine ⟨ha,hb,ha,hb,lt_eF _,lt_eF _,lt_eF _,lt_eF _,endN_f2 (nvE ?_) (nvE ?_)⟩
 ·rw [dF_eF,dF_eF,dF_eF,dF_eF];rfl
 ·rw [dF_eF,dF_eF,dF_eF,dF_eF];rfl
end Go.Proofs.Ytnjocbcjejpklaa
namespace Go.Proofs.Ytnjocbcjejpklaa
open Go.Rq Go
set_option maxRecDepth 100000
def cTo12:List AV->Option (List Prop × AV)
 | [.v1 (.agg [.ws .u64 6 a0,.ws .u64 6 a1,.ws .u64 6 a2,.ws .u64 6 a3,.ws .u64 6 a4,.ws .u64 6 a5,.ws .u64 6 a6,.ws .u64 6 a7,.ws .u64 6 a8,.ws .u64 6 a9,.ws .u64 6 a10,.ws .u64 6 a11])]=>some ([],.v1 (v12 (eF (gN a0)) (eF (gN a1)) (eF (gN a2)) (eF (gN a3)) (eF (gN a4)) (eF (gN a5)) (eF (gN a6)) (eF (gN a7)) (eF (gN a8)) (eF (gN a9)) (eF (gN a10)) (eF (gN a11))))
 | _=>none
def cFrom12:List AV->Option (List Prop × AV)
 | [.v1 (.agg [.ws .u64 6 a0,.ws .u64 6 a1,.ws .u64 6 a2,.ws .u64 6 a3,.ws .u64 6 a4,.ws .u64 6 a5,.ws .u64 6 a6,.ws .u64 6 a7,.ws .u64 6 a8,.ws .u64 6 a9,.ws .u64 6 a10,.ws .u64 6 a11])]=>some ([nv a0 < pN,nv a1 < pN,nv a2 < pN,nv a3 < pN,nv a4 < pN,nv a5 < pN,nv a6 < pN,nv a7 < pN,nv a8 < pN,nv a9 < pN,nv a10 < pN,nv a11 < pN],.v1 (v12 (vF (dF a0)) (vF (dF a1)) (vF (dF a2)) (vF (dF a3)) (vF (dF a4)) (vF (dF a5)) (vF (dF a6)) (vF (dF a7)) (vF (dF a8)) (vF (dF a9)) (vF (dF a10)) (vF (dF a11))))
 | _=>none
def GIo:Ctx:=ctxL [(20,.pure cTo2),(21,.pure cFrom2)]
theorem GIo_ok:CtxOk Try.prog GIo:=ctxL_cons okTo2 <| ctxL_cons okFrom2 ctxL_nil
theorem okTo12:(CallC.pure cTo12).Ok Try.prog 11:=by
 intro args pre v e _
 unfold cTo12 at e
 split at e
 ·rename_i a0 a1 a2 a3 a4 a5 a6 a7 a8 a9 a10 a11
  cases e
  refine pure_walk' tt_ok Try.func11 (by kernel_rfl) (by kernel_rfl) (by rfl) (by rfl) ?_
  refine evS_q mixed tt_ok GIo_ok 100 [] ?_
  exact same (p:=endN (.v1 (v12 (eF (gN a0)) (eF (gN a1)) (eF (gN a2)) (eF (gN a3)) (eF (gN a4)) (eF (gN a5)) (eF (gN a6)) (eF (gN a7)) (eF (gN a8)) (eF (gN a9)) (eF (gN a10)) (eF (gN a11)))) (.v1 (v12 (eF (gN a0)) (eF (gN a1)) (eF (gN a2)) (eF (gN a3)) (eF (gN a4)) (eF (gN a5)) (eF (gN a6)) (eF (gN a7)) (eF (gN a8)) (eF (gN a9)) (eF (gN a10)) (eF (gN a11))))) ⟨_,rfl,fun _=>rfl⟩ (by kernel_rfl)
 ·cases e
theorem okFrom12:(CallC.pure cFrom12).Ok Try.prog 12:=by
 intro args pre v e hp
 unfold cFrom12 at e
 split at e
 ·rename_i a0 a1 a2 a3 a4 a5 a6 a7 a8 a9 a10 a11
  cases e
  have ha0:nv a0 < pN:=hp _ (by simp)
  have ha1:nv a1 < pN:=hp _ (by simp)
  have ha2:nv a2 < pN:=hp _ (by simp)
  have ha3:nv a3 < pN:=hp _ (by simp)
  have ha4:nv a4 < pN:=hp _ (by simp)
  have ha5:nv a5 < pN:=hp _ (by simp)
  have ha6:nv a6 < pN:=hp _ (by simp)
  have ha7:nv a7 < pN:=hp _ (by simp)
  have ha8:nv a8 < pN:=hp _ (by simp)
  have ha9:nv a9 < pN:=hp _ (by simp)
  have ha10:nv a10 < pN:=hp _ (by simp)
  have ha11:nv a11 < pN:=hp _ (by simp)
  refine pure_walk' tt_ok Try.func12 (by kernel_rfl) (by kernel_rfl) (by rfl) (by rfl) ?_
  refine evS_q mixed tt_ok GIo_ok 100 [] ?_
  exact same (p:=nv a0 < pN/\nv a1 < pN/\nv a2 < pN/\nv a3 < pN/\nv a4 < pN/\nv a5 < pN/\nv a6 < pN/\nv a7 < pN/\nv a8 < pN/\nv a9 < pN/\nv a10 < pN/\nv a11 < pN/\endN (.v1 (v12 (vF (dF a0)) (vF (dF a1)) (vF (dF a2)) (vF (dF a3)) (vF (dF a4)) (vF (dF a5)) (vF (dF a6)) (vF (dF a7)) (vF (dF a8)) (vF (dF a9)) (vF (dF a10)) (vF (dF a11)))) (.v1 (v12 (vF (dF a0)) (vF (dF a1)) (vF (dF a2)) (vF (dF a3)) (vF (dF a4)) (vF (dF a5)) (vF (dF a6)) (vF (dF a7)) (vF (dF a8)) (vF (dF a9)) (vF (dF a10)) (vF (dF a11))))) ⟨ha0,ha1,ha2,ha3,ha4,ha5,ha6,ha7,ha8,ha9,ha10,ha11,_,rfl,fun _=>rfl⟩ (by kernel_rfl)
 ·cases e
end Go.Proofs.Ytnjocbcjejpklaa
namespace Go.Proofs.Ytnjocbcjejpklaa
open Go.Rq Go
set_option maxRecDepth 100000
abbrev g12 (a0 a1 a2 a3 a4 a5 a6 a7 a8 a9 a10 a11:Nat->Nat):S12:=⟨⟨⟨gN a0,gN a1⟩,⟨gN a4,gN a5⟩,⟨gN a8,gN a9⟩⟩,⟨⟨gN a2,gN a3⟩,⟨gN a6,gN a7⟩,⟨gN a10,gN a11⟩⟩⟩
abbrev n12 (s:S12):V1:=v12 (vF s.p.u.x) (vF s.p.u.y) (vF s.q.u.x) (vF s.q.u.y) (vF s.p.v.x) (vF s.p.v.y) (vF s.q.v.x) (vF s.q.v.y) (vF s.p.w.x) (vF s.p.w.y) (vF s.q.w.x) (vF s.q.w.y)
def t122 (F:S12->S12->S12):List AV->Option (List Prop × AV)
 | [.v1 (.agg [.ws .u64 6 a0,.ws .u64 6 a1,.ws .u64 6 a2,.ws .u64 6 a3,.ws .u64 6 a4,.ws .u64 6 a5,.ws .u64 6 a6,.ws .u64 6 a7,.ws .u64 6 a8,.ws .u64 6 a9,.ws .u64 6 a10,.ws .u64 6 a11]),.v1 (.agg [.ws .u64 6 b0,.ws .u64 6 b1,.ws .u64 6 b2,.ws .u64 6 b3,.ws .u64 6 b4,.ws .u64 6 b5,.ws .u64 6 b6,.ws .u64 6 b7,.ws .u64 6 b8,.ws .u64 6 b9,.ws .u64 6 b10,.ws .u64 6 b11])]=>some ([],.v1 (n12 (F (g12 a0 a1 a2 a3 a4 a5 a6 a7 a8 a9 a10 a11) (g12 b0 b1 b2 b3 b4 b5 b6 b7 b8 b9 b10 b11))))
 | _=>none
def GTm:Ctx:=ctxL [(11,.pure cTo12),(12,.pure cFrom12),(14,.pure (k122 S12.mul))]
theorem GTm_ok:CtxOk Try.prog GTm:=ctxL_cons okTo12 <| ctxL_cons okFrom12 <| ctxL_cons okMul12 ctxL_nil
theorem okTMul:(CallC.pure (t122 S12.mul)).Ok Try.prog 7:=by
 intro args pre v e _
 unfold t122 at e
 split at e
 ·rename_i a0 a1 a2 a3 a4 a5 a6 a7 a8 a9 a10 a11 b0 b1 b2 b3 b4 b5 b6 b7 b8 b9 b10 b11
  cases e
  have hX:(S12.mul (d12 (eF (gN a0)) (eF (gN a1)) (eF (gN a2)) (eF (gN a3)) (eF (gN a4)) (eF (gN a5)) (eF (gN a6)) (eF (gN a7)) (eF (gN a8)) (eF (gN a9)) (eF (gN a10)) (eF (gN a11))) (d12 (eF (gN b0)) (eF (gN b1)) (eF (gN b2)) (eF (gN b3)) (eF (gN b4)) (eF (gN b5)) (eF (gN b6)) (eF (gN b7)) (eF (gN b8)) (eF (gN b9)) (eF (gN b10)) (eF (gN b11)))) = S12.mul (g12 a0 a1 a2 a3 a4 a5 a6 a7 a8 a9 a10 a11) (g12 b0 b1 b2 b3 b4 b5 b6 b7 b8 b9 b10 b11):=by simp only [d12,d6,dF_eF]
  refine pure_walk' tt_ok Try.func7 (by kernel_rfl) (by kernel_rfl) (by rfl) (by rfl) ?_
  refine evS_q mixed tt_ok GTm_ok 100 [] ?_
  refine same (p:=nv (eF (gN a0)) < pN/\lp (eF (gN a1))/\lp (eF (gN a2))/\lp (eF (gN a3))/\lp (eF (gN a4))/\lp (eF (gN a5))/\lp (eF (gN a6))/\lp (eF (gN a7))/\lp (eF (gN a8))/\lp (eF (gN a9))/\lp (eF (gN a10))/\lp (eF (gN a11))/\lp (eF (gN b0))/\lp (eF (gN b1))/\lp (eF (gN b2))/\lp (eF (gN b3))/\lp (eF (gN b4))/\lp (eF (gN b5))/\lp (eF (gN b6))/\lp (eF (gN b7))/\lp (eF (gN b8))/\lp (eF (gN b9))/\lp (eF (gN b10))/\lp (eF (gN b11))/\lp (eF (S12.mul (d12 (eF (gN a0)) (eF (gN a1)) (eF (gN a2)) (eF (gN a3)) (eF (gN a4)) (eF (gN a5)) (eF (gN a6)) (eF (gN a7)) (eF (gN a8)) (eF (gN a9)) (eF (gN a10)) (eF (gN a11))) (d12 (eF (gN b0)) (eF (gN b1)) (eF (gN b2)) (eF (gN b3)) (eF (gN b4)) (eF (gN b5)) (eF (gN b6)) (eF (gN b7)) (eF (gN b8)) (eF (gN b9)) (eF (gN b10)) (eF (gN b11)))).p.u.x)/\lp (eF (S12.mul (d12 (eF (gN a0)) (eF (gN a1)) (eF (gN a2)) (eF (gN a3)) (eF (gN a4)) (eF (gN a5)) (eF (gN a6)) (eF (gN a7)) (eF (gN a8)) (eF (gN a9)) (eF (gN a10)) (eF (gN a11))) (d12 (eF (gN b0)) (eF (gN b1)) (eF (gN b2)) (eF (gN b3)) (eF (gN b4)) (eF (gN b5)) (eF (gN b6)) (eF (gN b7)) (eF (gN b8)) (eF (gN b9)) (eF (gN b10)) (eF (gN b11)))).p.u.y)/\lp (eF (S12.mul (d12 (eF (gN a0)) (eF (gN a1)) (eF (gN a2)) (eF (gN a3)) (eF (gN a4)) (eF (gN a5)) (eF (gN a6)) (eF (gN a7)) (eF (gN a8)) (eF (gN a9)) (eF (gN a10)) (eF (gN a11))) (d12 (eF (gN b0)) (eF (gN b1)) (eF (gN b2)) (eF (gN b3)) (eF (gN b4)) (eF (gN b5)) (eF (gN b6)) (eF (gN b7)) (eF (gN b8)) (eF (gN b9)) (eF (gN b10)) (eF (gN b11)))).q.u.x)/\lp (eF (S12.mul (d12 (eF (gN a0)) (eF (gN a1)) (eF (gN a2)) (eF (gN a3)) (eF (gN a4)) (eF (gN a5)) (eF (gN a6)) (eF (gN a7)) (eF (gN a8)) (eF (gN a9)) (eF (gN a10)) (eF (gN a11))) (d12 (eF (gN b0)) (eF (gN b1)) (eF (gN b2)) (eF (gN b3)) (eF (gN b4)) (eF (gN b5)) (eF (gN b6)) (eF (gN b7)) (eF (gN b8)) (eF (gN b9)) (eF (gN b10)) (eF (gN b11)))).q.u.y)/\lp (eF (S12.mul (d12 (eF (gN a0)) (eF (gN a1)) (eF (gN a2)) (eF (gN a3)) (eF (gN a4)) (eF (gN a5)) (eF (gN a6)) (eF (gN a7)) (eF (gN a8)) (eF (gN a9)) (eF (gN a10)) (eF (gN a11))) (d12 (eF (gN b0)) (eF (gN b1)) (eF (gN b2)) (eF (gN b3)) (eF (gN b4)) (eF (gN b5)) (eF (gN b6)) (eF (gN b7)) (eF (gN b8)) (eF (gN b9)) (eF (gN b10)) (eF (gN b11)))).p.v.x)/\lp (eF (S12.mul (d12 (eF (gN a0)) (eF (gN a1)) (eF (gN a2)) (eF (gN a3)) (eF (gN a4)) (eF (gN a5)) (eF (gN a6)) (eF (gN a7)) (eF (gN a8)) (eF (gN a9)) (eF (gN a10)) (eF (gN a11))) (d12 (eF (gN b0)) (eF (gN b1)) (eF (gN b2)) (eF (gN b3)) (eF (gN b4)) (eF (gN b5)) (eF (gN b6)) (eF (gN b7)) (eF (gN b8)) (eF (gN b9)) (eF (gN b10)) (eF (gN b11)))).p.v.y)/\lp (eF (S12.mul (d12 (eF (gN a0)) (eF (gN a1)) (eF (gN a2)) (eF (gN a3)) (eF (gN a4)) (eF (gN a5)) (eF (gN a6)) (eF (gN a7)) (eF (gN a8)) (eF (gN a9)) (eF (gN a10)) (eF (gN a11))) (d12 (eF (gN b0)) (eF (gN b1)) (eF (gN b2)) (eF (gN b3)) (eF (gN b4)) (eF (gN b5)) (eF (gN b6)) (eF (gN b7)) (eF (gN b8)) (eF (gN b9)) (eF (gN b10)) (eF (gN b11)))).q.v.x)/\lp (eF (S12.mul (d12 (eF (gN a0)) (eF (gN a1)) (eF (gN a2)) (eF (gN a3)) (eF (gN a4)) (eF (gN a5)) (eF (gN a6)) (eF (gN a7)) (eF (gN a8)) (eF (gN a9)) (eF (gN a10)) (eF (gN a11))) (d12 (eF (gN b0)) (eF (gN b1)) (eF (gN b2)) (eF (gN b3)) (eF (gN b4)) (eF (gN b5)) (eF (gN b6)) (eF (gN b7)) (eF (gN b8)) (eF (gN b9)) (eF (gN b10)) (eF (gN b11)))).q.v.y)/\lp (eF (S12.mul (d12 (eF (gN a0)) (eF (gN a1)) (eF (gN a2)) (eF (gN a3)) (eF (gN a4)) (eF (gN a5)) (eF (gN a6)) (eF (gN a7)) (eF (gN a8)) (eF (gN a9)) (eF (gN a10)) (eF (gN a11))) (d12 (eF (gN b0)) (eF (gN b1)) (eF (gN b2)) (eF (gN b3)) (eF (gN b4)) (eF (gN b5)) (eF (gN b6)) (eF (gN b7)) (eF (gN b8)) (eF (gN b9)) (eF (gN b10)) (eF (gN b11)))).p.w.x)/\lp (eF (S12.mul (d12 (eF (gN a0)) (eF (gN a1)) (eF (gN a2)) (eF (gN a3)) (eF (gN a4)) (eF (gN a5)) (eF (gN a6)) (eF (gN a7)) (eF (gN a8)) (eF (gN a9)) (eF (gN a10)) (eF (gN a11))) (d12 (eF (gN b0)) (eF (gN b1)) (eF (gN b2)) (eF (gN b3)) (eF (gN b4)) (eF (gN b5)) (eF (gN b6)) (eF (gN b7)) (eF (gN b8)) (eF (gN b9)) (eF (gN b10)) (eF (gN b11)))).p.w.y)/\lp (eF (S12.mul (d12 (eF (gN a0)) (eF (gN a1)) (eF (gN a2)) (eF (gN a3)) (eF (gN a4)) (eF (gN a5)) (eF (gN a6)) (eF (gN a7)) (eF (gN a8)) (eF (gN a9)) (eF (gN a10)) (eF (gN a11))) (d12 (eF (gN b0)) (eF (gN b1)) (eF (gN b2)) (eF (gN b3)) (eF (gN b4)) (eF (gN b5)) (eF (gN b6)) (eF (gN b7)) (eF (gN b8)) (eF (gN b9)) (eF (gN b10)) (eF (gN b11)))).q.w.x)/\lp (eF (S12.mul (d12 (eF (gN a0)) (eF (gN a1)) (eF (gN a2)) (eF (gN a3)) (eF (gN a4)) (eF (gN a5)) (eF (gN a6)) (eF (gN a7)) (eF (gN a8)) (eF (gN a9)) (eF (gN a10)) (eF (gN a11))) (d12 (eF (gN b0)) (eF (gN b1)) (eF (gN b2)) (eF (gN b3)) (eF (gN b4)) (eF (gN b5)) (eF (gN b6)) (eF (gN b7)) (eF (gN b8)) (eF (gN b9)) (eF (gN b10)) (eF (gN b11)))).q.w.y)/\endN (.v1 (v12 (vF (dF (eF (S12.mul (d12 (eF (gN a0)) (eF (gN a1)) (eF (gN a2)) (eF (gN a3)) (eF (gN a4)) (eF (gN a5)) (eF (gN a6)) (eF (gN a7)) (eF (gN a8)) (eF (gN a9)) (eF (gN a10)) (eF (gN a11))) (d12 (eF (gN b0)) (eF (gN b1)) (eF (gN b2)) (eF (gN b3)) (eF (gN b4)) (eF (gN b5)) (eF (gN b6)) (eF (gN b7)) (eF (gN b8)) (eF (gN b9)) (eF (gN b10)) (eF (gN b11)))).p.u.x))) (vF (dF (eF (S12.mul (d12 (eF (gN a0)) (eF (gN a1)) (eF (gN a2)) (eF (gN a3)) (eF (gN a4)) (eF (gN a5)) (eF (gN a6)) (eF (gN a7)) (eF (gN a8)) (eF (gN a9)) (eF (gN a10)) (eF (gN a11))) (d12 (eF (gN b0)) (eF (gN b1)) (eF (gN b2)) (eF (gN b3)) (eF (gN b4)) (eF (gN b5)) (eF (gN b6)) (eF (gN b7)) (eF (gN b8)) (eF (gN b9)) (eF (gN b10)) (eF (gN b11)))).p.u.y))) (vF (dF (eF (S12.mul (d12 (eF (gN a0)) (eF (gN a1)) (eF (gN a2)) (eF (gN a3)) (eF (gN a4)) (eF (gN a5)) (eF (gN a6)) (eF (gN a7)) (eF (gN a8)) (eF (gN a9)) (eF (gN a10)) (eF (gN a11))) (d12 (eF (gN b0)) (eF (gN b1)) (eF (gN b2)) (eF (gN b3)) (eF (gN b4)) (eF (gN b5)) (eF (gN b6)) (eF (gN b7)) (eF (gN b8)) (eF (gN b9)) (eF (gN b10)) (eF (gN b11)))).q.u.x))) (vF (dF (eF (S12.mul (d12 (eF (gN a0)) (eF (gN a1)) (eF (gN a2)) (eF (gN a3)) (eF (gN a4)) (eF (gN a5)) (eF (gN a6)) (eF (gN a7)) (eF (gN a8)) (eF (gN a9)) (eF (gN a10)) (eF (gN a11))) (d12 (eF (gN b0)) (eF (gN b1)) (eF (gN b2)) (eF (gN b3)) (eF (gN b4)) (eF (gN b5)) (eF (gN b6)) (eF (gN b7)) (eF (gN b8)) (eF (gN b9)) (eF (gN b10)) (eF (gN b11)))).q.u.y))) (vF (dF (eF (S12.mul (d12 (eF (gN a0)) (eF (gN a1)) (eF (gN a2)) (eF (gN a3)) (eF (gN a4)) (eF (gN a5)) (eF (gN a6)) (eF (gN a7)) (eF (gN a8)) (eF (gN a9)) (eF (gN a10)) (eF (gN a11))) (d12 (eF (gN b0)) (eF (gN b1)) (eF (gN b2)) (eF (gN b3)) (eF (gN b4)) (eF (gN b5)) (eF (gN b6)) (eF (gN b7)) (eF (gN b8)) (eF (gN b9)) (eF (gN b10)) (eF (gN b11)))).p.v.x))) (vF (dF (eF (S12.mul (d12 (eF (gN a0)) (eF (gN a1)) (eF (gN a2)) (eF (gN a3)) (eF (gN a4)) (eF (gN a5)) (eF (gN a6)) (eF (gN a7)) (eF (gN a8)) (eF (gN a9)) (eF (gN a10)) (eF (gN a11))) (d12 (eF (gN b0)) (eF (gN b1)) (eF (gN b2)) (eF (gN b3)) (eF (gN b4)) (eF (gN b5)) (eF (gN b6)) (eF (gN b7)) (eF (gN b8)) (eF (gN b9)) (eF (gN b10)) (eF (gN b11)))).p.v.y))) (vF (dF (eF (S12.mul (d12 (eF (gN a0)) (eF (gN a1)) (eF (gN a2)) (eF (gN a3)) (eF (gN a4)) (eF (gN a5)) (eF (gN a6)) (eF (gN a7)) (eF (gN a8)) (eF (gN a9)) (eF (gN a10)) (eF (gN a11))) (d12 (eF (gN b0)) (eF (gN b1)) (eF (gN b2)) (eF (gN b3)) (eF (gN b4)) (eF (gN b5)) (eF (gN b6)) (eF (gN b7)) (eF (gN b8)) (eF (gN b9)) (eF (gN b10)) (eF (gN b11)))).q.v.x))) (vF (dF (eF (S12.mul (d12 (eF (gN a0)) (eF (gN a1)) (eF (gN a2)) (eF (gN a3)) (eF (gN a4)) (eF (gN a5)) (eF (gN a6)) (eF (gN a7)) (eF (gN a8)) (eF (gN a9)) (eF (gN a10)) (eF (gN a11))) (d12 (eF (gN b0)) (eF (gN b1)) (eF (gN b2)) (eF (gN b3)) (eF (gN b4)) (eF (gN b5)) (eF (gN b6)) (eF (gN b7)) (eF (gN b8)) (eF (gN b9)) (eF (gN b10)) (eF (gN b11)))).q.v.y))) (vF (dF (eF (S12.mul (d12 (eF (gN a0)) (eF (gN a1)) (eF (gN a2)) (eF (gN a3)) (eF (gN a4)) (eF (gN a5)) (eF (gN a6)) (eF (gN a7)) (eF (gN a8)) (eF (gN a9)) (eF (gN a10)) (eF (gN a11))) (d12 (eF (gN b0)) (eF (gN b1)) (eF (gN b2)) (eF (gN b3)) (eF (gN b4)) (eF (gN b5)) (eF (gN b6)) (eF (gN b7)) (eF (gN b8)) (eF (gN b9)) (eF (gN b10)) (eF (gN b11)))).p.w.x))) (vF (dF (eF (S12.mul (d12 (eF (gN a0)) (eF (gN a1)) (eF (gN a2)) (eF (gN a3)) (eF (gN a4)) (eF (gN a5)) (eF (gN a6)) (eF (gN a7)) (eF (gN a8)) (eF (gN a9)) (eF (gN a10)) (eF (gN a11))) (d12 (eF (gN b0)) (eF (gN b1)) (eF (gN b2)) (eF (gN b3)) (eF (gN b4)) (eF (gN b5)) (eF (gN b6)) (eF (gN b7)) (eF (gN b8)) (eF (gN b9)) (eF (gN b10)) (eF (gN b11)))).p.w.y))) (vF (dF (eF (S12.mul (d12 (eF (gN a0)) (eF (gN a1)) (eF (gN a2)) (eF (gN a3)) (eF (gN a4)) (eF (gN a5)) (eF (gN a6)) (eF (gN a7)) (eF (gN a8)) (eF (gN a9)) (eF (gN a10)) (eF (gN a11))) (d12 (eF (gN b0)) (eF (gN b1)) (eF (gN b2)) (eF (gN b3)) (eF (gN b4)) (eF (gN b5)) (eF (gN b6)) (eF (gN b7)) (eF (gN b8)) (eF (gN b9)) (eF (gN b10)) (eF (gN b11)))).q.w.x))) (vF (dF (eF (S12.mul (d12 (eF (gN a0)) (eF (gN a1)) (eF (gN a2)) (eF (gN a3)) (eF (gN a4)) (eF (gN a5)) (eF (gN a6)) (eF (gN a7)) (eF (gN a8)) (eF (gN a9)) (eF (gN a10)) (eF (gN a11))) (d12 (eF (gN b0)) (eF (gN b1)) (eF (gN b2)) (eF (gN b3)) (eF (gN b4)) (eF (gN b5)) (eF (gN b6)) (eF (gN b7)) (eF (gN b8)) (eF (gN b9)) (eF (gN b10)) (eF (gN b11)))).q.w.y))))) (.v1 (n12 (S12.mul (g12 a0 a1 a2 a3 a4 a5 a6 a7 a8 a9 a10 a11) (g12 b0 b1 b2 b3 b4 b5 b6 b7 b8 b9 b10 b11))))) ?_ (by kernel_rfl)
  exact ⟨lt_eF _,lt_eF _,lt_eF _,lt_eF _,lt_eF _,lt_eF _,lt_eF _,lt_eF _,lt_eF _,lt_eF _,lt_eF _,lt_eF _,lt_eF _,lt_eF _,lt_eF _,lt_eF _,lt_eF _,lt_eF _,lt_eF _,lt_eF _,lt_eF _,lt_eF _,lt_eF _,lt_eF _,lt_eF _,lt_eF _,lt_eF _,lt_eF _,lt_eF _,lt_eF _,lt_eF _,lt_eF _,lt_eF _,lt_eF _,lt_eF _,lt_eF _,_,rfl,v12_val (nvV (by rw [dF_eF,hX])) (nvV (by rw [dF_eF,hX])) (nvV (by rw [dF_eF,hX])) (nvV (by rw [dF_eF,hX])) (nvV (by rw [dF_eF,hX])) (nvV (by rw [dF_eF,hX])) (nvV (by rw [dF_eF,hX])) (nvV (by rw [dF_eF,hX])) (nvV (by rw [dF_eF,hX])) (nvV (by rw [dF_eF,hX])) (nvV (by rw [dF_eF,hX])) (nvV (by rw [dF_eF,hX]))⟩
 ·cases e
end Go.Proofs.Ytnjocbcjejpklaa
namespace Go.Proofs.Ytnjocbcjejpklaa
open Go.Rq Go
abbrev vC12 (s:S12):List Cell:=[.ws .u64 6 (vF s.p.u.x),.ws .u64 6 (vF s.p.u.y),.ws .u64 6 (vF s.q.u.x),.ws .u64 6 (vF s.q.u.y),.ws .u64 6 (vF s.p.v.x),.ws .u64 6 (vF s.p.v.y),.ws .u64 6 (vF s.q.v.x),.ws .u64 6 (vF s.q.v.y),.ws .u64 6 (vF s.p.w.x),.ws .u64 6 (vF s.p.w.y),.ws .u64 6 (vF s.q.w.x),.ws .u64 6 (vF s.q.w.y)]
abbrev eC12 (s:S12):List Cell:=[.ws .u64 6 (eF s.p.u.x),.ws .u64 6 (eF s.p.u.y),.ws .u64 6 (eF s.q.u.x),.ws .u64 6 (eF s.q.u.y),.ws .u64 6 (eF s.p.v.x),.ws .u64 6 (eF s.p.v.y),.ws .u64 6 (eF s.q.v.x),.ws .u64 6 (eF s.q.v.y),.ws .u64 6 (eF s.p.w.x),.ws .u64 6 (eF s.p.w.y),.ws .u64 6 (eF s.q.w.x),.ws .u64 6 (eF s.q.w.y)]
abbrev vL12 (s:S12) (r:Prop):Prop:=nv (vF s.p.u.x) < pN/\nv (vF s.p.u.y) < pN/\nv (vF s.q.u.x) < pN/\nv (vF s.q.u.y) < pN/\nv (vF s.p.v.x) < pN/\nv (vF s.p.v.y) < pN/\nv (vF s.q.v.x) < pN/\nv (vF s.q.v.y) < pN/\nv (vF s.p.w.x) < pN/\nv (vF s.p.w.y) < pN/\nv (vF s.q.w.x) < pN/\nv (vF s.q.w.y) < pN/\r
abbrev eL12 (s:S12) (r:Prop):Prop:=nv (eF s.p.u.x) < pN/\nv (eF s.p.u.y) < pN/\nv (eF s.q.u.x) < pN/\nv (eF s.q.u.y) < pN/\nv (eF s.p.v.x) < pN/\nv (eF s.p.v.y) < pN/\nv (eF s.q.v.x) < pN/\nv (eF s.q.v.y) < pN/\nv (eF s.p.w.x) < pN/\nv (eF s.p.w.y) < pN/\nv (eF s.q.w.x) < pN/\nv (eF s.q.w.y) < pN/\r
abbrev g12v (s:S12):S12:=g12 (vF s.p.u.x) (vF s.p.u.y) (vF s.q.u.x) (vF s.q.u.y) (vF s.p.v.x) (vF s.p.v.y) (vF s.q.v.x) (vF s.q.v.y) (vF s.p.w.x) (vF s.p.w.y) (vF s.q.w.x) (vF s.q.w.y)
abbrev d12e (s:S12):S12:=d12 (eF s.p.u.x) (eF s.p.u.y) (eF s.q.u.x) (eF s.q.u.y) (eF s.p.v.x) (eF s.p.v.y) (eF s.q.v.x) (eF s.q.v.y) (eF s.p.w.x) (eF s.p.w.y) (eF s.q.w.x) (eF s.q.w.y)
end Go.Proofs.Ytnjocbcjejpklaa
namespace Go.Proofs.Ytnjocbcjejpklaa
open Go.Rq Go
set_option maxRecDepth 100000
def F2p.inv (a:F2p):F2p:=⟨inv2x a.x a.y,inv2y a.x a.y⟩
theorem r_upx {a b:Nat->Nat} {X:F2p} (h0:dF a = X.x) (h1:dF b = X.y):dF (eF (upx (dF a) (dF b))) = (xi X).x:=by rw [dF_eF,h0,h1];rfl
theorem r_upy {a b:Nat->Nat} {X:F2p} (h0:dF a = X.x) (h1:dF b = X.y):dF (eF (upy (dF a) (dF b))) = (xi X).y:=by rw [dF_eF,h0,h1];rfl
theorem r_invx {a b:Nat->Nat} {X:F2p} (h0:dF a = X.x) (h1:dF b = X.y):dF (eF (inv2x (dF a) (dF b))) = (F2p.inv X).x:=by rw [dF_eF,h0,h1];rfl
theorem r_invy {a b:Nat->Nat} {X:F2p} (h0:dF a = X.x) (h1:dF b = X.y):dF (eF (inv2y (dF a) (dF b))) = (F2p.inv X).y:=by rw [dF_eF,h0,h1];rfl
theorem r_mulx {a b c d:Nat->Nat} {X Y:F2p} (h0:dF a = X.x) (h1:dF b = X.y) (h2:dF c = Y.x) (h3:dF d = Y.y):dF (eF (mul2x (dF a) (dF b) (dF c) (dF d))) = (X * Y).x:=by rw [dF_eF,h0,h1,h2,h3];rfl
theorem r_muly {a b c d:Nat->Nat} {X Y:F2p} (h0:dF a = X.x) (h1:dF b = X.y) (h2:dF c = Y.x) (h3:dF d = Y.y):dF (eF (mul2y (dF a) (dF b) (dF c) (dF d))) = (X * Y).y:=by rw [dF_eF,h0,h1,h2,h3];rfl
theorem r_addx {a b c d:Nat->Nat} {X Y:F2p} (h0:dF a = X.x) (_:dF b = X.y) (h2:dF c = Y.x) (_:dF d = Y.y):dF (eF (add2x (dF a) (dF b) (dF c) (dF d))) = (X + Y).x:=by rw [dF_eF];unfold add2x;rw [h0,h2];rfl
theorem r_addy {a b c d:Nat->Nat} {X Y:F2p} (_:dF a = X.x) (h1:dF b = X.y) (_:dF c = Y.x) (h3:dF d = Y.y):dF (eF (add2y (dF a) (dF b) (dF c) (dF d))) = (X + Y).y:=by rw [dF_eF];unfold add2y;rw [h1,h3];rfl
theorem r_subx {a b c d:Nat->Nat} {X Y:F2p} (h0:dF a = X.x) (_:dF b = X.y) (h2:dF c = Y.x) (_:dF d = Y.y):dF (eF (sub2x (dF a) (dF b) (dF c) (dF d))) = (X - Y).x:=by rw [dF_eF];unfold sub2x;rw [h0,h2];rfl
theorem r_suby {a b c d:Nat->Nat} {X Y:F2p} (_:dF a = X.x) (h1:dF b = X.y) (_:dF c = Y.x) (h3:dF d = Y.y):dF (eF (sub2y (dF a) (dF b) (dF c) (dF d))) = (X - Y).y:=by rw [dF_eF];unfold sub2y;rw [h1,h3];rfl
theorem nv_of {a:Nat->Nat} {x:Fp} (h:nv a < pN) (e:dF a = x):nv a = nv (eF x):=by rw [<-e,eF_dF h]
def iv1 (z:S6):F2p:=z.u * z.u
abbrev iv1x (a0 a1 a2 a3 a4 a5:Nat->Nat):Nat->Nat:=eF (mul2x (dF a0) (dF a1) (dF a0) (dF a1))
abbrev iv1y (a0 a1 a2 a3 a4 a5:Nat->Nat):Nat->Nat:=eF (mul2y (dF a0) (dF a1) (dF a0) (dF a1))
theorem iv1x_d (a0 a1 a2 a3 a4 a5:Nat->Nat):dF (iv1x a0 a1 a2 a3 a4 a5) = (iv1 (d6 a0 a1 a2 a3 a4 a5)).x:=r_mulx rfl rfl rfl rfl
theorem iv1y_d (a0 a1 a2 a3 a4 a5:Nat->Nat):dF (iv1y a0 a1 a2 a3 a4 a5) = (iv1 (d6 a0 a1 a2 a3 a4 a5)).y:=r_muly rfl rfl rfl rfl
def iv2 (z:S6):F2p:=z.v * z.w
abbrev iv2x (a0 a1 a2 a3 a4 a5:Nat->Nat):Nat->Nat:=eF (mul2x (dF a2) (dF a3) (dF a4) (dF a5))
abbrev iv2y (a0 a1 a2 a3 a4 a5:Nat->Nat):Nat->Nat:=eF (mul2y (dF a2) (dF a3) (dF a4) (dF a5))
theorem iv2x_d (a0 a1 a2 a3 a4 a5:Nat->Nat):dF (iv2x a0 a1 a2 a3 a4 a5) = (iv2 (d6 a0 a1 a2 a3 a4 a5)).x:=r_mulx rfl rfl rfl rfl
theorem iv2y_d (a0 a1 a2 a3 a4 a5:Nat->Nat):dF (iv2y a0 a1 a2 a3 a4 a5) = (iv2 (d6 a0 a1 a2 a3 a4 a5)).y:=r_muly rfl rfl rfl rfl
def iv3 (z:S6):F2p:=xi (iv2 z)
abbrev iv3x (a0 a1 a2 a3 a4 a5:Nat->Nat):Nat->Nat:=eF (upx (dF (iv2x a0 a1 a2 a3 a4 a5)) (dF (iv2y a0 a1 a2 a3 a4 a5)))
abbrev iv3y (a0 a1 a2 a3 a4 a5:Nat->Nat):Nat->Nat:=eF (upy (dF (iv2x a0 a1 a2 a3 a4 a5)) (dF (iv2y a0 a1 a2 a3 a4 a5)))
theorem iv3x_d (a0 a1 a2 a3 a4 a5:Nat->Nat):dF (iv3x a0 a1 a2 a3 a4 a5) = (iv3 (d6 a0 a1 a2 a3 a4 a5)).x:=r_upx (iv2x_d a0 a1 a2 a3 a4 a5) (iv2y_d a0 a1 a2 a3 a4 a5)
theorem iv3y_d (a0 a1 a2 a3 a4 a5:Nat->Nat):dF (iv3y a0 a1 a2 a3 a4 a5) = (iv3 (d6 a0 a1 a2 a3 a4 a5)).y:=r_upy (iv2x_d a0 a1 a2 a3 a4 a5) (iv2y_d a0 a1 a2 a3 a4 a5)
def iv4 (z:S6):F2p:=(iv1 z) - (iv3 z)
abbrev iv4x (a0 a1 a2 a3 a4 a5:Nat->Nat):Nat->Nat:=eF (sub2x (dF (iv1x a0 a1 a2 a3 a4 a5)) (dF (iv1y a0 a1 a2 a3 a4 a5)) (dF (iv3x a0 a1 a2 a3 a4 a5)) (dF (iv3y a0 a1 a2 a3 a4 a5)))
abbrev iv4y (a0 a1 a2 a3 a4 a5:Nat->Nat):Nat->Nat:=eF (sub2y (dF (iv1x a0 a1 a2 a3 a4 a5)) (dF (iv1y a0 a1 a2 a3 a4 a5)) (dF (iv3x a0 a1 a2 a3 a4 a5)) (dF (iv3y a0 a1 a2 a3 a4 a5)))
theorem iv4x_d (a0 a1 a2 a3 a4 a5:Nat->Nat):dF (iv4x a0 a1 a2 a3 a4 a5) = (iv4 (d6 a0 a1 a2 a3 a4 a5)).x:=r_subx (iv1x_d a0 a1 a2 a3 a4 a5) (iv1y_d a0 a1 a2 a3 a4 a5) (iv3x_d a0 a1 a2 a3 a4 a5) (iv3y_d a0 a1 a2 a3 a4 a5)
theorem iv4y_d (a0 a1 a2 a3 a4 a5:Nat->Nat):dF (iv4y a0 a1 a2 a3 a4 a5) = (iv4 (d6 a0 a1 a2 a3 a4 a5)).y:=r_suby (iv1x_d a0 a1 a2 a3 a4 a5) (iv1y_d a0 a1 a2 a3 a4 a5) (iv3x_d a0 a1 a2 a3 a4 a5) (iv3y_d a0 a1 a2 a3 a4 a5)
def iv5 (z:S6):F2p:=z.w * z.w
abbrev iv5x (a0 a1 a2 a3 a4 a5:Nat->Nat):Nat->Nat:=eF (mul2x (dF a4) (dF a5) (dF a4) (dF a5))
abbrev iv5y (a0 a1 a2 a3 a4 a5:Nat->Nat):Nat->Nat:=eF (mul2y (dF a4) (dF a5) (dF a4) (dF a5))
theorem iv5x_d (a0 a1 a2 a3 a4 a5:Nat->Nat):dF (iv5x a0 a1 a2 a3 a4 a5) = (iv5 (d6 a0 a1 a2 a3 a4 a5)).x:=r_mulx rfl rfl rfl rfl
theorem iv5y_d (a0 a1 a2 a3 a4 a5:Nat->Nat):dF (iv5y a0 a1 a2 a3 a4 a5) = (iv5 (d6 a0 a1 a2 a3 a4 a5)).y:=r_muly rfl rfl rfl rfl
def iv6 (z:S6):F2p:=xi (iv5 z)
abbrev iv6x (a0 a1 a2 a3 a4 a5:Nat->Nat):Nat->Nat:=eF (upx (dF (iv5x a0 a1 a2 a3 a4 a5)) (dF (iv5y a0 a1 a2 a3 a4 a5)))
abbrev iv6y (a0 a1 a2 a3 a4 a5:Nat->Nat):Nat->Nat:=eF (upy (dF (iv5x a0 a1 a2 a3 a4 a5)) (dF (iv5y a0 a1 a2 a3 a4 a5)))
theorem iv6x_d (a0 a1 a2 a3 a4 a5:Nat->Nat):dF (iv6x a0 a1 a2 a3 a4 a5) = (iv6 (d6 a0 a1 a2 a3 a4 a5)).x:=r_upx (iv5x_d a0 a1 a2 a3 a4 a5) (iv5y_d a0 a1 a2 a3 a4 a5)
theorem iv6y_d (a0 a1 a2 a3 a4 a5:Nat->Nat):dF (iv6y a0 a1 a2 a3 a4 a5) = (iv6 (d6 a0 a1 a2 a3 a4 a5)).y:=r_upy (iv5x_d a0 a1 a2 a3 a4 a5) (iv5y_d a0 a1 a2 a3 a4 a5)
def iv7 (z:S6):F2p:=z.u * z.v
abbrev iv7x (a0 a1 a2 a3 a4 a5:Nat->Nat):Nat->Nat:=eF (mul2x (dF a0) (dF a1) (dF a2) (dF a3))
abbrev iv7y (a0 a1 a2 a3 a4 a5:Nat->Nat):Nat->Nat:=eF (mul2y (dF a0) (dF a1) (dF a2) (dF a3))
theorem iv7x_d (a0 a1 a2 a3 a4 a5:Nat->Nat):dF (iv7x a0 a1 a2 a3 a4 a5) = (iv7 (d6 a0 a1 a2 a3 a4 a5)).x:=r_mulx rfl rfl rfl rfl
theorem iv7y_d (a0 a1 a2 a3 a4 a5:Nat->Nat):dF (iv7y a0 a1 a2 a3 a4 a5) = (iv7 (d6 a0 a1 a2 a3 a4 a5)).y:=r_muly rfl rfl rfl rfl
def iv8 (z:S6):F2p:=(iv6 z) - (iv7 z)
abbrev iv8x (a0 a1 a2 a3 a4 a5:Nat->Nat):Nat->Nat:=eF (sub2x (dF (iv6x a0 a1 a2 a3 a4 a5)) (dF (iv6y a0 a1 a2 a3 a4 a5)) (dF (iv7x a0 a1 a2 a3 a4 a5)) (dF (iv7y a0 a1 a2 a3 a4 a5)))
abbrev iv8y (a0 a1 a2 a3 a4 a5:Nat->Nat):Nat->Nat:=eF (sub2y (dF (iv6x a0 a1 a2 a3 a4 a5)) (dF (iv6y a0 a1 a2 a3 a4 a5)) (dF (iv7x a0 a1 a2 a3 a4 a5)) (dF (iv7y a0 a1 a2 a3 a4 a5)))
theorem iv8x_d (a0 a1 a2 a3 a4 a5:Nat->Nat):dF (iv8x a0 a1 a2 a3 a4 a5) = (iv8 (d6 a0 a1 a2 a3 a4 a5)).x:=r_subx (iv6x_d a0 a1 a2 a3 a4 a5) (iv6y_d a0 a1 a2 a3 a4 a5) (iv7x_d a0 a1 a2 a3 a4 a5) (iv7y_d a0 a1 a2 a3 a4 a5)
theorem iv8y_d (a0 a1 a2 a3 a4 a5:Nat->Nat):dF (iv8y a0 a1 a2 a3 a4 a5) = (iv8 (d6 a0 a1 a2 a3 a4 a5)).y:=r_suby (iv6x_d a0 a1 a2 a3 a4 a5) (iv6y_d a0 a1 a2 a3 a4 a5) (iv7x_d a0 a1 a2 a3 a4 a5) (iv7y_d a0 a1 a2 a3 a4 a5)
def iv9 (z:S6):F2p:=z.v * z.v
abbrev iv9x (a0 a1 a2 a3 a4 a5:Nat->Nat):Nat->Nat:=eF (mul2x (dF a2) (dF a3) (dF a2) (dF a3))
abbrev iv9y (a0 a1 a2 a3 a4 a5:Nat->Nat):Nat->Nat:=eF (mul2y (dF a2) (dF a3) (dF a2) (dF a3))
theorem iv9x_d (a0 a1 a2 a3 a4 a5:Nat->Nat):dF (iv9x a0 a1 a2 a3 a4 a5) = (iv9 (d6 a0 a1 a2 a3 a4 a5)).x:=r_mulx rfl rfl rfl rfl
theorem iv9y_d (a0 a1 a2 a3 a4 a5:Nat->Nat):dF (iv9y a0 a1 a2 a3 a4 a5) = (iv9 (d6 a0 a1 a2 a3 a4 a5)).y:=r_muly rfl rfl rfl rfl
def iv10 (z:S6):F2p:=z.u * z.w
abbrev iv10x (a0 a1 a2 a3 a4 a5:Nat->Nat):Nat->Nat:=eF (mul2x (dF a0) (dF a1) (dF a4) (dF a5))
abbrev iv10y (a0 a1 a2 a3 a4 a5:Nat->Nat):Nat->Nat:=eF (mul2y (dF a0) (dF a1) (dF a4) (dF a5))
theorem iv10x_d (a0 a1 a2 a3 a4 a5:Nat->Nat):dF (iv10x a0 a1 a2 a3 a4 a5) = (iv10 (d6 a0 a1 a2 a3 a4 a5)).x:=r_mulx rfl rfl rfl rfl
theorem iv10y_d (a0 a1 a2 a3 a4 a5:Nat->Nat):dF (iv10y a0 a1 a2 a3 a4 a5) = (iv10 (d6 a0 a1 a2 a3 a4 a5)).y:=r_muly rfl rfl rfl rfl
def iv11 (z:S6):F2p:=(iv9 z) - (iv10 z)
abbrev iv11x (a0 a1 a2 a3 a4 a5:Nat->Nat):Nat->Nat:=eF (sub2x (dF (iv9x a0 a1 a2 a3 a4 a5)) (dF (iv9y a0 a1 a2 a3 a4 a5)) (dF (iv10x a0 a1 a2 a3 a4 a5)) (dF (iv10y a0 a1 a2 a3 a4 a5)))
abbrev iv11y (a0 a1 a2 a3 a4 a5:Nat->Nat):Nat->Nat:=eF (sub2y (dF (iv9x a0 a1 a2 a3 a4 a5)) (dF (iv9y a0 a1 a2 a3 a4 a5)) (dF (iv10x a0 a1 a2 a3 a4 a5)) (dF (iv10y a0 a1 a2 a3 a4 a5)))
theorem iv11x_d (a0 a1 a2 a3 a4 a5:Nat->Nat):dF (iv11x a0 a1 a2 a3 a4 a5) = (iv11 (d6 a0 a1 a2 a3 a4 a5)).x:=r_subx (iv9x_d a0 a1 a2 a3 a4 a5) (iv9y_d a0 a1 a2 a3 a4 a5) (iv10x_d a0 a1 a2 a3 a4 a5) (iv10y_d a0 a1 a2 a3 a4 a5)
theorem iv11y_d (a0 a1 a2 a3 a4 a5:Nat->Nat):dF (iv11y a0 a1 a2 a3 a4 a5) = (iv11 (d6 a0 a1 a2 a3 a4 a5)).y:=r_suby (iv9x_d a0 a1 a2 a3 a4 a5) (iv9y_d a0 a1 a2 a3 a4 a5) (iv10x_d a0 a1 a2 a3 a4 a5) (iv10y_d a0 a1 a2 a3 a4 a5)
def iv12 (z:S6):F2p:=z.u * (iv4 z)
abbrev iv12x (a0 a1 a2 a3 a4 a5:Nat->Nat):Nat->Nat:=eF (mul2x (dF a0) (dF a1) (dF (iv4x a0 a1 a2 a3 a4 a5)) (dF (iv4y a0 a1 a2 a3 a4 a5)))
abbrev iv12y (a0 a1 a2 a3 a4 a5:Nat->Nat):Nat->Nat:=eF (mul2y (dF a0) (dF a1) (dF (iv4x a0 a1 a2 a3 a4 a5)) (dF (iv4y a0 a1 a2 a3 a4 a5)))
theorem iv12x_d (a0 a1 a2 a3 a4 a5:Nat->Nat):dF (iv12x a0 a1 a2 a3 a4 a5) = (iv12 (d6 a0 a1 a2 a3 a4 a5)).x:=r_mulx rfl rfl (iv4x_d a0 a1 a2 a3 a4 a5) (iv4y_d a0 a1 a2 a3 a4 a5)
theorem iv12y_d (a0 a1 a2 a3 a4 a5:Nat->Nat):dF (iv12y a0 a1 a2 a3 a4 a5) = (iv12 (d6 a0 a1 a2 a3 a4 a5)).y:=r_muly rfl rfl (iv4x_d a0 a1 a2 a3 a4 a5) (iv4y_d a0 a1 a2 a3 a4 a5)
def iv13 (z:S6):F2p:=z.w * (iv8 z)
abbrev iv13x (a0 a1 a2 a3 a4 a5:Nat->Nat):Nat->Nat:=eF (mul2x (dF a4) (dF a5) (dF (iv8x a0 a1 a2 a3 a4 a5)) (dF (iv8y a0 a1 a2 a3 a4 a5)))
abbrev iv13y (a0 a1 a2 a3 a4 a5:Nat->Nat):Nat->Nat:=eF (mul2y (dF a4) (dF a5) (dF (iv8x a0 a1 a2 a3 a4 a5)) (dF (iv8y a0 a1 a2 a3 a4 a5)))
theorem iv13x_d (a0 a1 a2 a3 a4 a5:Nat->Nat):dF (iv13x a0 a1 a2 a3 a4 a5) = (iv13 (d6 a0 a1 a2 a3 a4 a5)).x:=r_mulx rfl rfl (iv8x_d a0 a1 a2 a3 a4 a5) (iv8y_d a0 a1 a2 a3 a4 a5)
theorem iv13y_d (a0 a1 a2 a3 a4 a5:Nat->Nat):dF (iv13y a0 a1 a2 a3 a4 a5) = (iv13 (d6 a0 a1 a2 a3 a4 a5)).y:=r_muly rfl rfl (iv8x_d a0 a1 a2 a3 a4 a5) (iv8y_d a0 a1 a2 a3 a4 a5)
def iv14 (z:S6):F2p:=z.v * (iv11 z)
abbrev iv14x (a0 a1 a2 a3 a4 a5:Nat->Nat):Nat->Nat:=eF (mul2x (dF a2) (dF a3) (dF (iv11x a0 a1 a2 a3 a4 a5)) (dF (iv11y a0 a1 a2 a3 a4 a5)))
abbrev iv14y (a0 a1 a2 a3 a4 a5:Nat->Nat):Nat->Nat:=eF (mul2y (dF a2) (dF a3) (dF (iv11x a0 a1 a2 a3 a4 a5)) (dF (iv11y a0 a1 a2 a3 a4 a5)))
theorem iv14x_d (a0 a1 a2 a3 a4 a5:Nat->Nat):dF (iv14x a0 a1 a2 a3 a4 a5) = (iv14 (d6 a0 a1 a2 a3 a4 a5)).x:=r_mulx rfl rfl (iv11x_d a0 a1 a2 a3 a4 a5) (iv11y_d a0 a1 a2 a3 a4 a5)
theorem iv14y_d (a0 a1 a2 a3 a4 a5:Nat->Nat):dF (iv14y a0 a1 a2 a3 a4 a5) = (iv14 (d6 a0 a1 a2 a3 a4 a5)).y:=r_muly rfl rfl (iv11x_d a0 a1 a2 a3 a4 a5) (iv11y_d a0 a1 a2 a3 a4 a5)
def iv15 (z:S6):F2p:=(iv13 z) + (iv14 z)
abbrev iv15x (a0 a1 a2 a3 a4 a5:Nat->Nat):Nat->Nat:=eF (add2x (dF (iv13x a0 a1 a2 a3 a4 a5)) (dF (iv13y a0 a1 a2 a3 a4 a5)) (dF (iv14x a0 a1 a2 a3 a4 a5)) (dF (iv14y a0 a1 a2 a3 a4 a5)))
abbrev iv15y (a0 a1 a2 a3 a4 a5:Nat->Nat):Nat->Nat:=eF (add2y (dF (iv13x a0 a1 a2 a3 a4 a5)) (dF (iv13y a0 a1 a2 a3 a4 a5)) (dF (iv14x a0 a1 a2 a3 a4 a5)) (dF (iv14y a0 a1 a2 a3 a4 a5)))
theorem iv15x_d (a0 a1 a2 a3 a4 a5:Nat->Nat):dF (iv15x a0 a1 a2 a3 a4 a5) = (iv15 (d6 a0 a1 a2 a3 a4 a5)).x:=r_addx (iv13x_d a0 a1 a2 a3 a4 a5) (iv13y_d a0 a1 a2 a3 a4 a5) (iv14x_d a0 a1 a2 a3 a4 a5) (iv14y_d a0 a1 a2 a3 a4 a5)
theorem iv15y_d (a0 a1 a2 a3 a4 a5:Nat->Nat):dF (iv15y a0 a1 a2 a3 a4 a5) = (iv15 (d6 a0 a1 a2 a3 a4 a5)).y:=r_addy (iv13x_d a0 a1 a2 a3 a4 a5) (iv13y_d a0 a1 a2 a3 a4 a5) (iv14x_d a0 a1 a2 a3 a4 a5) (iv14y_d a0 a1 a2 a3 a4 a5)
def iv16 (z:S6):F2p:=xi (iv15 z)
abbrev iv16x (a0 a1 a2 a3 a4 a5:Nat->Nat):Nat->Nat:=eF (upx (dF (iv15x a0 a1 a2 a3 a4 a5)) (dF (iv15y a0 a1 a2 a3 a4 a5)))
abbrev iv16y (a0 a1 a2 a3 a4 a5:Nat->Nat):Nat->Nat:=eF (upy (dF (iv15x a0 a1 a2 a3 a4 a5)) (dF (iv15y a0 a1 a2 a3 a4 a5)))
theorem iv16x_d (a0 a1 a2 a3 a4 a5:Nat->Nat):dF (iv16x a0 a1 a2 a3 a4 a5) = (iv16 (d6 a0 a1 a2 a3 a4 a5)).x:=r_upx (iv15x_d a0 a1 a2 a3 a4 a5) (iv15y_d a0 a1 a2 a3 a4 a5)
theorem iv16y_d (a0 a1 a2 a3 a4 a5:Nat->Nat):dF (iv16y a0 a1 a2 a3 a4 a5) = (iv16 (d6 a0 a1 a2 a3 a4 a5)).y:=r_upy (iv15x_d a0 a1 a2 a3 a4 a5) (iv15y_d a0 a1 a2 a3 a4 a5)
def iv17 (z:S6):F2p:=(iv12 z) + (iv16 z)
abbrev iv17x (a0 a1 a2 a3 a4 a5:Nat->Nat):Nat->Nat:=eF (add2x (dF (iv12x a0 a1 a2 a3 a4 a5)) (dF (iv12y a0 a1 a2 a3 a4 a5)) (dF (iv16x a0 a1 a2 a3 a4 a5)) (dF (iv16y a0 a1 a2 a3 a4 a5)))
abbrev iv17y (a0 a1 a2 a3 a4 a5:Nat->Nat):Nat->Nat:=eF (add2y (dF (iv12x a0 a1 a2 a3 a4 a5)) (dF (iv12y a0 a1 a2 a3 a4 a5)) (dF (iv16x a0 a1 a2 a3 a4 a5)) (dF (iv16y a0 a1 a2 a3 a4 a5)))
theorem iv17x_d (a0 a1 a2 a3 a4 a5:Nat->Nat):dF (iv17x a0 a1 a2 a3 a4 a5) = (iv17 (d6 a0 a1 a2 a3 a4 a5)).x:=r_addx (iv12x_d a0 a1 a2 a3 a4 a5) (iv12y_d a0 a1 a2 a3 a4 a5) (iv16x_d a0 a1 a2 a3 a4 a5) (iv16y_d a0 a1 a2 a3 a4 a5)
theorem iv17y_d (a0 a1 a2 a3 a4 a5:Nat->Nat):dF (iv17y a0 a1 a2 a3 a4 a5) = (iv17 (d6 a0 a1 a2 a3 a4 a5)).y:=r_addy (iv12x_d a0 a1 a2 a3 a4 a5) (iv12y_d a0 a1 a2 a3 a4 a5) (iv16x_d a0 a1 a2 a3 a4 a5) (iv16y_d a0 a1 a2 a3 a4 a5)
def iv18 (z:S6):F2p:=F2p.inv (iv17 z)
abbrev iv18x (a0 a1 a2 a3 a4 a5:Nat->Nat):Nat->Nat:=eF (inv2x (dF (iv17x a0 a1 a2 a3 a4 a5)) (dF (iv17y a0 a1 a2 a3 a4 a5)))
abbrev iv18y (a0 a1 a2 a3 a4 a5:Nat->Nat):Nat->Nat:=eF (inv2y (dF (iv17x a0 a1 a2 a3 a4 a5)) (dF (iv17y a0 a1 a2 a3 a4 a5)))
theorem iv18x_d (a0 a1 a2 a3 a4 a5:Nat->Nat):dF (iv18x a0 a1 a2 a3 a4 a5) = (iv18 (d6 a0 a1 a2 a3 a4 a5)).x:=r_invx (iv17x_d a0 a1 a2 a3 a4 a5) (iv17y_d a0 a1 a2 a3 a4 a5)
theorem iv18y_d (a0 a1 a2 a3 a4 a5:Nat->Nat):dF (iv18y a0 a1 a2 a3 a4 a5) = (iv18 (d6 a0 a1 a2 a3 a4 a5)).y:=r_invy (iv17x_d a0 a1 a2 a3 a4 a5) (iv17y_d a0 a1 a2 a3 a4 a5)
def iv19 (z:S6):F2p:=(iv4 z) * (iv18 z)
abbrev iv19x (a0 a1 a2 a3 a4 a5:Nat->Nat):Nat->Nat:=eF (mul2x (dF (iv4x a0 a1 a2 a3 a4 a5)) (dF (iv4y a0 a1 a2 a3 a4 a5)) (dF (iv18x a0 a1 a2 a3 a4 a5)) (dF (iv18y a0 a1 a2 a3 a4 a5)))
abbrev iv19y (a0 a1 a2 a3 a4 a5:Nat->Nat):Nat->Nat:=eF (mul2y (dF (iv4x a0 a1 a2 a3 a4 a5)) (dF (iv4y a0 a1 a2 a3 a4 a5)) (dF (iv18x a0 a1 a2 a3 a4 a5)) (dF (iv18y a0 a1 a2 a3 a4 a5)))
theorem iv19x_d (a0 a1 a2 a3 a4 a5:Nat->Nat):dF (iv19x a0 a1 a2 a3 a4 a5) = (iv19 (d6 a0 a1 a2 a3 a4 a5)).x:=r_mulx (iv4x_d a0 a1 a2 a3 a4 a5) (iv4y_d a0 a1 a2 a3 a4 a5) (iv18x_d a0 a1 a2 a3 a4 a5) (iv18y_d a0 a1 a2 a3 a4 a5)
theorem iv19y_d (a0 a1 a2 a3 a4 a5:Nat->Nat):dF (iv19y a0 a1 a2 a3 a4 a5) = (iv19 (d6 a0 a1 a2 a3 a4 a5)).y:=r_muly (iv4x_d a0 a1 a2 a3 a4 a5) (iv4y_d a0 a1 a2 a3 a4 a5) (iv18x_d a0 a1 a2 a3 a4 a5) (iv18y_d a0 a1 a2 a3 a4 a5)
def iv20 (z:S6):F2p:=(iv8 z) * (iv18 z)
abbrev iv20x (a0 a1 a2 a3 a4 a5:Nat->Nat):Nat->Nat:=eF (mul2x (dF (iv8x a0 a1 a2 a3 a4 a5)) (dF (iv8y a0 a1 a2 a3 a4 a5)) (dF (iv18x a0 a1 a2 a3 a4 a5)) (dF (iv18y a0 a1 a2 a3 a4 a5)))
abbrev iv20y (a0 a1 a2 a3 a4 a5:Nat->Nat):Nat->Nat:=eF (mul2y (dF (iv8x a0 a1 a2 a3 a4 a5)) (dF (iv8y a0 a1 a2 a3 a4 a5)) (dF (iv18x a0 a1 a2 a3 a4 a5)) (dF (iv18y a0 a1 a2 a3 a4 a5)))
theorem iv20x_d (a0 a1 a2 a3 a4 a5:Nat->Nat):dF (iv20x a0 a1 a2 a3 a4 a5) = (iv20 (d6 a0 a1 a2 a3 a4 a5)).x:=r_mulx (iv8x_d a0 a1 a2 a3 a4 a5) (iv8y_d a0 a1 a2 a3 a4 a5) (iv18x_d a0 a1 a2 a3 a4 a5) (iv18y_d a0 a1 a2 a3 a4 a5)
theorem iv20y_d (a0 a1 a2 a3 a4 a5:Nat->Nat):dF (iv20y a0 a1 a2 a3 a4 a5) = (iv20 (d6 a0 a1 a2 a3 a4 a5)).y:=r_muly (iv8x_d a0 a1 a2 a3 a4 a5) (iv8y_d a0 a1 a2 a3 a4 a5) (iv18x_d a0 a1 a2 a3 a4 a5) (iv18y_d a0 a1 a2 a3 a4 a5)
def iv21 (z:S6):F2p:=(iv11 z) * (iv18 z)
abbrev iv21x (a0 a1 a2 a3 a4 a5:Nat->Nat):Nat->Nat:=eF (mul2x (dF (iv11x a0 a1 a2 a3 a4 a5)) (dF (iv11y a0 a1 a2 a3 a4 a5)) (dF (iv18x a0 a1 a2 a3 a4 a5)) (dF (iv18y a0 a1 a2 a3 a4 a5)))
abbrev iv21y (a0 a1 a2 a3 a4 a5:Nat->Nat):Nat->Nat:=eF (mul2y (dF (iv11x a0 a1 a2 a3 a4 a5)) (dF (iv11y a0 a1 a2 a3 a4 a5)) (dF (iv18x a0 a1 a2 a3 a4 a5)) (dF (iv18y a0 a1 a2 a3 a4 a5)))
theorem iv21x_d (a0 a1 a2 a3 a4 a5:Nat->Nat):dF (iv21x a0 a1 a2 a3 a4 a5) = (iv21 (d6 a0 a1 a2 a3 a4 a5)).x:=r_mulx (iv11x_d a0 a1 a2 a3 a4 a5) (iv11y_d a0 a1 a2 a3 a4 a5) (iv18x_d a0 a1 a2 a3 a4 a5) (iv18y_d a0 a1 a2 a3 a4 a5)
theorem iv21y_d (a0 a1 a2 a3 a4 a5:Nat->Nat):dF (iv21y a0 a1 a2 a3 a4 a5) = (iv21 (d6 a0 a1 a2 a3 a4 a5)).y:=r_muly (iv11x_d a0 a1 a2 a3 a4 a5) (iv11y_d a0 a1 a2 a3 a4 a5) (iv18x_d a0 a1 a2 a3 a4 a5) (iv18y_d a0 a1 a2 a3 a4 a5)
def S6.inv (z:S6):S6:=⟨(iv19 z),(iv20 z),(iv21 z)⟩
def GSi:Ctx:=ctxL [(54,.pure (q2 add2x add2y)),(53,.pure (q2 sub2x sub2y)),(50,.pure (q2 mul2x mul2y)),(55,.pure (q1 upx upy)),(67,.pure (q1 inv2x inv2y))]
theorem GSi_ok:CtxOk Try.prog GSi:=ctxL_cons okAdd2 <| ctxL_cons okSub2 <| ctxL_cons okMul2 <| ctxL_cons okUp <| ctxL_cons okMInv2 ctxL_nil
theorem okSinv:(CallC.pure (k61 S6.inv)).Ok Try.prog 48:=by
 refine k61_ok Try.func48 (by kernel_rfl) (by kernel_rfl) fun a0 a1 a2 a3 a4 a5 ha0 ha1 ha2 ha3 ha4 ha5=>evS_q mixed tt_ok GSi_ok 100 [] ?_
 refine same (p:=nv a0 < pN/\lp a1/\lp a0/\lp a1/\lp a2/\lp a3/\lp a4/\lp a5/\lp (iv2x a0 a1 a2 a3 a4 a5)/\lp (iv2y a0 a1 a2 a3 a4 a5)/\lp (iv1x a0 a1 a2 a3 a4 a5)/\lp (iv1y a0 a1 a2 a3 a4 a5)/\lp (iv3x a0 a1 a2 a3 a4 a5)/\lp (iv3y a0 a1 a2 a3 a4 a5)/\lp a4/\lp a5/\lp a4/\lp a5/\lp (iv5x a0 a1 a2 a3 a4 a5)/\lp (iv5y a0 a1 a2 a3 a4 a5)/\lp a0/\lp a1/\lp a2/\lp a3/\lp (iv6x a0 a1 a2 a3 a4 a5)/\lp (iv6y a0 a1 a2 a3 a4 a5)/\lp (iv7x a0 a1 a2 a3 a4 a5)/\lp (iv7y a0 a1 a2 a3 a4 a5)/\lp a2/\lp a3/\lp a2/\lp a3/\lp a0/\lp a1/\lp a4/\lp a5/\lp (iv9x a0 a1 a2 a3 a4 a5)/\lp (iv9y a0 a1 a2 a3 a4 a5)/\lp (iv10x a0 a1 a2 a3 a4 a5)/\lp (iv10y a0 a1 a2 a3 a4 a5)/\lp a0/\lp a1/\lp (iv4x a0 a1 a2 a3 a4 a5)/\lp (iv4y a0 a1 a2 a3 a4 a5)/\lp a4/\lp a5/\lp (iv8x a0 a1 a2 a3 a4 a5)/\lp (iv8y a0 a1 a2 a3 a4 a5)/\lp a2/\lp a3/\lp (iv11x a0 a1 a2 a3 a4 a5)/\lp (iv11y a0 a1 a2 a3 a4 a5)/\lp (iv13x a0 a1 a2 a3 a4 a5)/\lp (iv13y a0 a1 a2 a3 a4 a5)/\lp (iv14x a0 a1 a2 a3 a4 a5)/\lp (iv14y a0 a1 a2 a3 a4 a5)/\lp (iv15x a0 a1 a2 a3 a4 a5)/\lp (iv15y a0 a1 a2 a3 a4 a5)/\lp (iv12x a0 a1 a2 a3 a4 a5)/\lp (iv12y a0 a1 a2 a3 a4 a5)/\lp (iv16x a0 a1 a2 a3 a4 a5)/\lp (iv16y a0 a1 a2 a3 a4 a5)/\lp (iv17x a0 a1 a2 a3 a4 a5)/\lp (iv17y a0 a1 a2 a3 a4 a5)/\lp (iv4x a0 a1 a2 a3 a4 a5)/\lp (iv4y a0 a1 a2 a3 a4 a5)/\lp (iv18x a0 a1 a2 a3 a4 a5)/\lp (iv18y a0 a1 a2 a3 a4 a5)/\lp (iv8x a0 a1 a2 a3 a4 a5)/\lp (iv8y a0 a1 a2 a3 a4 a5)/\lp (iv18x a0 a1 a2 a3 a4 a5)/\lp (iv18y a0 a1 a2 a3 a4 a5)/\lp (iv11x a0 a1 a2 a3 a4 a5)/\lp (iv11y a0 a1 a2 a3 a4 a5)/\lp (iv18x a0 a1 a2 a3 a4 a5)/\lp (iv18y a0 a1 a2 a3 a4 a5)/\endN (.v1 (v6 (iv19x a0 a1 a2 a3 a4 a5) (iv19y a0 a1 a2 a3 a4 a5) (iv20x a0 a1 a2 a3 a4 a5) (iv20y a0 a1 a2 a3 a4 a5) (iv21x a0 a1 a2 a3 a4 a5) (iv21y a0 a1 a2 a3 a4 a5))) (.v1 (e6 (S6.inv (d6 a0 a1 a2 a3 a4 a5))))) ?_ (by kernel_rfl)
 exact ⟨ha0,ha1,ha0,ha1,ha2,ha3,ha4,ha5,lt_eF _,lt_eF _,lt_eF _,lt_eF _,lt_eF _,lt_eF _,ha4,ha5,ha4,ha5,lt_eF _,lt_eF _,ha0,ha1,ha2,ha3,lt_eF _,lt_eF _,lt_eF _,lt_eF _,ha2,ha3,ha2,ha3,ha0,ha1,ha4,ha5,lt_eF _,lt_eF _,lt_eF _,lt_eF _,ha0,ha1,lt_eF _,lt_eF _,ha4,ha5,lt_eF _,lt_eF _,ha2,ha3,lt_eF _,lt_eF _,lt_eF _,lt_eF _,lt_eF _,lt_eF _,lt_eF _,lt_eF _,lt_eF _,lt_eF _,lt_eF _,lt_eF _,lt_eF _,lt_eF _,lt_eF _,lt_eF _,lt_eF _,lt_eF _,lt_eF _,lt_eF _,lt_eF _,lt_eF _,lt_eF _,lt_eF _,lt_eF _,lt_eF _,endN_6 (nv_of (lt_eF _) (iv19x_d a0 a1 a2 a3 a4 a5)) (nv_of (lt_eF _) (iv19y_d a0 a1 a2 a3 a4 a5)) (nv_of (lt_eF _) (iv20x_d a0 a1 a2 a3 a4 a5)) (nv_of (lt_eF _) (iv20y_d a0 a1 a2 a3 a4 a5)) (nv_of (lt_eF _) (iv21x_d a0 a1 a2 a3 a4 a5)) (nv_of (lt_eF _) (iv21y_d a0 a1 a2 a3 a4 a5))⟩
end Go.Proofs.Ytnjocbcjejpklaa
namespace Go.Proofs.Ytnjocbcjejpklaa
open Go.Rq Go
set_option maxRecDepth 100000
theorem nv_one:nv (wd (1 % W)) = 1:=by rw [nv_wd];decide
theorem eqW_beq (f g:Nat->Nat):(eqN W 6 f g && true) = Nat.beq (nv f) (nv g):=by
 rw [Bool.and_true]
 cases h:Nat.beq (nv f) (nv g)
 ·rw [<-Bool.not_eq_true,eqN_iff]
  intro e
  have:=nv_congr e
  rw [<-Nat.beq_eq,h] at this;cases this
 ·rw [eqN_iff]
  intro i hi
  rw [Nat.beq_eq] at h
  rw [<-wd_nv f i hi,<-wd_nv g i hi,h]
theorem enc_zero:enc 0 = 0:=by
 have:enc (dec 0) = 0:=enc_dec pN_pos
 rwa [dec_zero] at this
theorem enc_ne {x:Fp}:Nat.beq (enc x) 0 = Nat.beq x.val 0:=by
 rw [Bool.eq_iff_iff,Nat.beq_eq,Nat.beq_eq]
 constructor
 ·intro h
  have e:=dec_enc x
  rw [h,dec_zero] at e
  rw [<-e];rfl
 ·intro h
  have e:x = 0:=Fin.ext h
  rw [e,enc_zero]
theorem zero_vF:nv fz = nv (vF 0):=by rw [zero_nv,nv_vF];rfl
theorem okBase:(CallC.pure (cK primeF)).Ok Try.prog 79 :=
 cK_ok Try.func79 (by kernel_rfl) (by kernel_rfl) (same (p:=some (nm primeF) = some (nm primeF)) rfl (by kernel_rfl))
end Go.Proofs.Ytnjocbcjejpklaa
namespace Go.Proofs.Ytnjocbcjejpklaa
open Go.Rq Go
set_option maxRecDepth 100000
theorem dF_one:dF oneF = 1:=by unfold dF;rw [one_enc,dec_enc]
theorem dF_zero:dF fz = 0:=by unfold dF;rw [zero_nv,dec_zero]
end Go.Proofs.Ytnjocbcjejpklaa
namespace Go.Rq
open Go
def pwS (n a:Nat) (b:Bool) (r:Nat):Nat:=bif b then r * r % n * a % n else r * r % n
def pwN (n a:Nat):Nat->Nat->Nat
 | 0,_=>1 % n
 | k + 1,e=>pwS n a (Nat.beq (e % 2) 1) (pwN n a k (e / 2))
theorem pow_half {α:Type} [CR α] (x:α) (e:Nat):x ^ e = bif Nat.beq (e % 2) 1 then x ^ (e / 2) * x ^ (e / 2) * x else x ^ (e / 2) * x ^ (e / 2):=by
 cases h:Nat.beq (e % 2) 1
 ·have:e = e / 2 + e / 2:=by
   have:e % 2 ≠ 1:=fun e'=>by rw [<-Nat.beq_eq,h] at e';cases e'
   omega
  rw [cond_false,<-Rg.pow_add,<-this]
 ·have:e = e / 2 + e / 2 + 1:=by
   rw [Nat.beq_eq] at h
   omega
  rw [cond_true,<-Rg.pow_add,<-Rg.pow_succ,<-this]
theorem pwN_eq (a:Nat):∀ k e,e < 2 ^ k->ofN (pwN pN a k e) = ofN a ^ e
 | 0,e,h=>by
  have:e = 0:=by simpa using h
  subst this
  rw [Rg.pow_zero]
  show ofN (1 % pN) = 1
  rw [ofN_mod,ofN_one]
 | k + 1,e,h=>by
  have ih:=pwN_eq a k (e / 2) (by rw [Nat.pow_succ] at h;omega)
  rw [pow_half]
  show ofN (pwS pN a (Nat.beq (e % 2) 1) (pwN pN a k (e / 2))) = _
  unfold pwS
  cases Nat.beq (e % 2) 1
  ·rw [cond_false,cond_false,ofN_mod,ofN_mul,ih]
  ·rw [cond_true,cond_true,ofN_mod,ofN_mul,ofN_mod,ofN_mul,ih]
section
variable {α:Type} [CR α]
theorem cr_0 {z c:α}:((0:α) * 0 * 0 = c * (z * z * z)) = (0 = c * (z * z * z)):=by
 have:(0:α) * 0 * 0 = 0:=by grind
 rw [this]
theorem cr_01 {z c:α}:((0:α) * 0 = c * (z * z)) = (0 = c * (z * z)):=by
 have:(0:α) * 0 = 0:=by grind
 rw [this]
theorem cr_cub (x:α):x ^ 3 = x * x * x:=by rw [Rg.pow_succ,Rg.pow_two]
theorem cr_00 {y c:α}:(y * y * y = c * ((0:α) * 0 * 0)) = (y * y * y = 0):=by
 have:c * ((0:α) * 0 * 0) = 0:=by grind
 rw [this]
theorem cr_02 {y c:α}:(y * y = c * ((0:α) * 0)) = (y * y = 0):=by
 have:c * ((0:α) * 0) = 0:=by grind
 rw [this]
theorem cr_n (a b c d:α):(a * c - b * d) * (a * c - b * d) + (a * d + b * c) * (a * d + b * c) = (a * a + b * b) * (c * c + d * d):=by grind
theorem cr_zz:(0:α) * 0 + 0 * 0 = 0:=by grind
theorem cr_i1 (a b i:α):a * (a * i) - b * ((0 - b) * i) = (a * a + b * b) * i:=by grind
theorem cr_i2 (a b i:α):a * ((0 - b) * i) + b * (a * i) = 0:=by grind
theorem cr_i2' (a b i:α):a * ((0 - b) * i) + b * (a * i) = 0:=by grind
theorem cr_f1 {x y z k v w:α} (h1:y * y - x * z = w * 0) (h2:k * (z * z) - x * y = v * 0):y * y * y = k * (z * z * z):=by grind
theorem cr_f2 {x k u:α} (h:x * x - k * (0 * 0) = u * 0):x * x = 0:=by grind
theorem cr_f3 {u v w k:α} (h1:k * (w * w) - u * v = 0) (h2:v * v - u * w = 0):v * v * v = k * (w * w * w):=by grind
theorem cr_f4 {u k:α} (h:u * u - k * (0 * 0) = 0):u * u = 0:=by grind
theorem cr_k (k:α):(0:α) * ((0:α) * 0 - k * (1 * 0)) + k * (0 * (k * (0 * 0) - 0 * 1) + 1 * (1 * 1 - 0 * 0)) = k:=by grind
theorem cr_t1 {p q v:α} (h:p * p - q * q * v = 0):p * p = v * (q * q):=by grind
theorem cr_t2 (p q v i:α):p * (p * i) + q * ((0 - q) * i) * v = (p * p - q * q * v) * i:=by grind
end
theorem two_sq:ofN 2 ^ ((pN - 1) / 2) = ofN (pN - 1):=by
 rw [<-pwN_eq 2 E _ (by rw [<-R_pow];decide)]
 exact congrArg ofN (by kernel_rfl)
theorem two_cu:ofN 2 ^ ((pN - 1) / 3) = ofN 793479390729215512621379701633421447060886740281060493010456487427281649075476305620758731620350:=by
 rw [<-pwN_eq 2 E _ (by rw [<-R_pow];decide)]
 exact congrArg ofN (by kernel_rfl)
theorem fp_cube {y z:Fp} (h:y * y * y = ofN 2 * (z * z * z)):y = 0/\z = 0:=by
 have hz:z = 0:=Classical.byContradiction fun hz=>by
  have hy:y ≠ 0:=fun e=>by
   subst e
   rw [cr_0] at h
   rcases fp_dom h.symm with h | h
   ·exact absurd (congrArg Fin.val h) (by decide)
   ·rcases fp_dom h with h | h
    ·rcases fp_dom h with h | h <;> exact hz h
    ·exact hz h
  have e:pN - 1 = 3 * ((pN - 1) / 3):=by decide
  have h1:=fp_pow1 hy
  have h2:=fp_pow1 hz
  rw [e,pow_mul',cr_cub] at h1 h2
  rw [h,mul_pow',h2,two_cu,cr_one'] at h1
  exact absurd (congrArg Fin.val h1) (by decide)
 subst hz
 rw [cr_00] at h
 refine ⟨?_,rfl⟩
 rcases fp_dom h with h | h
 ·rcases fp_dom h with h | h <;> exact h
 ·exact h
theorem fp_squ {y z:Fp} (h:y * y = ofN 2 * (z * z)):y = 0/\z = 0:=by
 have hz:z = 0:=Classical.byContradiction fun hz=>by
  have hy:y ≠ 0:=fun e=>by
   subst e
   rw [cr_01] at h
   rcases fp_dom h.symm with h | h
   ·exact absurd (congrArg Fin.val h) (by decide)
   ·rcases fp_dom h with h | h <;> exact hz h
  have e:pN - 1 = 2 * ((pN - 1) / 2):=by decide
  have h1:=fp_pow1 hy
  have h2:=fp_pow1 hz
  rw [e,pow_mul',Rg.pow_two] at h1 h2
  rw [h,mul_pow',h2,two_sq,cr_one'] at h1
  exact absurd (congrArg Fin.val h1) (by decide)
 subst hz
 rw [cr_02] at h
 refine ⟨?_,rfl⟩
 rcases fp_dom h with h | h <;> exact h
namespace F2p
def nrm (a:F2p):Fp:=a.x * a.x + a.y * a.y
theorem nrm_mul (a b:F2p):nrm (a * b) = nrm a * nrm b:=by
 simp only [nrm,mul_x,mul_y]
 exact cr_n _ _ _ _
theorem nrm_0 {a:F2p} (h:nrm a = 0):a = 0:=by
 obtain ⟨h1,h2⟩:=fp_norm h
 exact F2p.ext h1 h2
theorem nrm_z:nrm 0 = 0:=cr_zz
theorem dom {a b:F2p} (h:a * b = 0):a = 0∨b = 0:=by
 have h1:=nrm_mul a b
 rw [h,nrm_z] at h1
 rcases fp_dom h1.symm with h | h
 ·exact .inl (nrm_0 h)
 ·exact .inr (nrm_0 h)
def inv' (a:F2p):F2p:=⟨a.x * nrm a ^ (pN - 2),(0 - a.y) * nrm a ^ (pN - 2)⟩
theorem mul_inv {a:F2p} (h:a ≠ 0):a * inv' a = 1:=by
 have h1:nrm a ≠ 0:=fun e=>h (nrm_0 e)
 have h2:=fp_inv h1
 refine F2p.ext ?_ ?_
 ·show a.x * (a.x * nrm a ^ (pN - 2)) - a.y * ((0 - a.y) * nrm a ^ (pN - 2)) = 1
  rw [cr_i1];exact h2
 ·show a.x * ((0 - a.y) * nrm a ^ (pN - 2)) + a.y * (a.x * nrm a ^ (pN - 2)) = 0
  exact cr_i2 _ _ _
theorem nrm_kx:nrm kx = ofN 2:=by
 show (1:Fp) * 1 + 1 * 1 = ofN 2
 exact Fin.ext (by kernel_rfl)
theorem cube {y z:F2p} (h:y * y * y = kx * (z * z * z)):y = 0/\z = 0:=by
 have h1:=congrArg nrm h
 simp only [nrm_mul,nrm_kx] at h1
 obtain ⟨h2,h3⟩:=fp_cube h1
 exact ⟨nrm_0 h2,nrm_0 h3⟩
theorem squ {y z:F2p} (h:y * y = kx * (z * z)):y = 0/\z = 0:=by
 have h1:=congrArg nrm h
 simp only [nrm_mul,nrm_kx] at h1
 obtain ⟨h2,h3⟩:=fp_squ h1
 exact ⟨nrm_0 h2,nrm_0 h3⟩
theorem sq0 {a:F2p} (h:a * a = 0):a = 0:=by rcases dom h with h | h <;> exact h
end F2p
namespace S6
def ax (a:S6):F2p:=a.u * a.u - kx * (a.v * a.w)
def ay (a:S6):F2p:=kx * (a.w * a.w) - a.u * a.v
def az (a:S6):F2p:=a.v * a.v - a.u * a.w
def nr (a:S6):F2p:=a.u * ax a + kx * (a.w * ay a + a.v * az a)
theorem nr_0 {a:S6} (h:nr a = 0):a = 0:=by
 have e1:ay a * ay a - ax a * az a = a.w * nr a:=by simp only [nr,ax,ay,az];generalize kx = k;grind
 have e2:kx * (az a * az a) - ax a * ay a = a.v * nr a:=by simp only [nr,ax,ay,az];generalize kx = k;grind
 have e3:ax a * ax a - kx * (ay a * az a) = a.u * nr a:=by simp only [nr,ax,ay,az];generalize kx = k;grind
 rw [h] at e1 e2 e3
 have f1:ay a * ay a * ay a = kx * (az a * az a * az a):=cr_f1 e1 e2
 obtain ⟨y0,z0⟩:=F2p.cube f1
 rw [y0,z0] at e3
 have x0:ax a = 0:=F2p.sq0 (cr_f2 e3)
 have g1:a.v * a.v * a.v = kx * (a.w * a.w * a.w):=cr_f3 y0 z0
 obtain ⟨v0,w0⟩:=F2p.cube g1
 have u0:a.u = 0:=F2p.sq0 (by
  have:a.u * a.u - kx * (a.v * a.w) = 0:=x0
  rw [v0,w0] at this
  exact cr_f4 this)
 exact S6.ext u0 v0 w0
def inv' (a:S6):S6:=⟨ax a * (nr a).inv',ay a * (nr a).inv',az a * (nr a).inv'⟩
theorem mul_inv {a:S6} (h:a ≠ 0):a * inv' a = 1:=by
 have h1:=F2p.mul_inv fun e=>h (nr_0 e)
 refine S6.ext ?_ ?_ ?_
 ·rw [mul_u]
  show a.u * (ax a * (nr a).inv') + (a.v * (az a * (nr a).inv') + a.w * (ay a * (nr a).inv')) * kx = 1
  rw [<-h1]
  generalize (nr a).inv' = i
  simp only [nr]
  generalize kx = k
  grind
 ·rw [mul_v]
  show a.u * (ay a * (nr a).inv') + a.v * (ax a * (nr a).inv') + a.w * (az a * (nr a).inv') * kx = 0
  generalize (nr a).inv' = i
  simp only [ax,ay,az]
  generalize kx = k
  grind
 ·rw [mul_w]
  show a.u * (az a * (nr a).inv') + a.w * (ax a * (nr a).inv') + a.v * (ay a * (nr a).inv') = 0
  generalize (nr a).inv' = i
  simp only [ax,ay,az]
  generalize kx = k
  grind
theorem nr_mul (a b:S6):nr (a * b) = nr a * nr b:=by
 simp only [nr,ax,ay,az,mul_u,mul_v,mul_w]
 generalize kx = k
 grind
theorem nr_vv:nr vv = kx:=by
 show (0:F2p) * ((0:F2p) * 0 - kx * (1 * 0)) + kx * (0 * (kx * (0 * 0) - 0 * 1) + 1 * (1 * 1 - 0 * 0)) = kx
 exact cr_k _
theorem squ {y z:S6} (h:y * y = vv * (z * z)):y = 0/\z = 0:=by
 have h1:=congrArg nr h
 simp only [nr_mul,nr_vv] at h1
 obtain ⟨h2,h3⟩:=F2p.squ h1
 exact ⟨nr_0 h2,nr_0 h3⟩
end S6
namespace S12
def nr (a:S12):S6:=a.p * a.p - a.q * a.q * S6.vv
theorem nr_0 {a:S12} (h:nr a = 0):a = 0:=by
 obtain ⟨h1,h2⟩:=S6.squ (cr_t1 h)
 exact S12.ext h1 h2
def inv' (a:S12):S12:=⟨a.p * (nr a).inv',(0 - a.q) * (nr a).inv'⟩
theorem mul_inv {a:S12} (h:a ≠ 0):a * inv' a = 1:=by
 have h1:=S6.mul_inv fun e=>h (nr_0 e)
 refine S12.ext ?_ ?_
 ·rw [mul_p]
  show a.p * (a.p * (nr a).inv') + a.q * ((0 - a.q) * (nr a).inv') * S6.vv = 1
  rw [<-h1]
  simp only [nr]
  exact cr_t2 _ _ _ _
 ·rw [mul_q]
  show a.p * ((0 - a.q) * (nr a).inv') + a.q * (a.p * (nr a).inv') = 0
  exact cr_i2' _ _ _
end S12
end Go.Rq
namespace Go.Rq
open Go
def F2p.cj (a:F2p):F2p:=⟨a.x,0 - a.y⟩
def tuN0:Nat:=1
def tuN1:Nat:=0
def tuN2:Nat:=3850754370037169011952147076051364057158807420970682438676050522613628423219637725072182697113062777891589506424760
def tuN3:Nat:=151655185184498381465642749684540099398075398968325446656007613510403227271200139370504932015952886146304766135027
def tuN4:Nat:=0
def tuN5:Nat:=4002409555221667392624310435006688643935503118305586438271171395842971157480381377015405980053539358417135540939436
def tuN6:Nat:=1028732146235106349975324479215795277384839936929757896155643118032610843298655225875571310552543014690878354869257
def tuN7:Nat:=1028732146235106349975324479215795277384839936929757896155643118032610843298655225875571310552543014690878354869257
def tuN8:Nat:=4002409555221667392624310435006688643935503118305586438271171395842971157480381377015405980053539358417135540939437
def tuN9:Nat:=0
def tuN10:Nat:=877076961050607968509681729531255177986764537961432449499635504522207616027455086505066378536590128544573588734230
def tuN11:Nat:=3125332594171059424908108096204648978570118281977575435832422631601824034463382777937621250592425535493320683825557
def tuK0:F2p:=⟨ofN tuN0,ofN tuN1⟩
def tuK1:F2p:=⟨ofN tuN2,ofN tuN3⟩
def tuK2:F2p:=⟨ofN tuN4,ofN tuN5⟩
def tuK3:F2p:=⟨ofN tuN6,ofN tuN7⟩
def tuK4:F2p:=⟨ofN tuN8,ofN tuN9⟩
def tuK5:F2p:=⟨ofN tuN10,ofN tuN11⟩
def S12.turn (z:S12):S12:=⟨⟨z.p.u.cj * tuK0,z.p.v.cj * tuK2,z.p.w.cj * tuK4⟩,⟨z.q.u.cj * tuK1,z.q.v.cj * tuK3,z.q.w.cj * tuK5⟩⟩
def S12.turns:Nat->S12->S12
 | 0,z=>z
 | n + 1,z=>S12.turn (S12.turns n z)
end Go.Rq
namespace Go.Proofs.Ytnjocbcjejpklaa
open Go.Rq Go
set_option maxRecDepth 100000
theorem zlt:nv fz < pN:=by rw [zero_nv];exact pN_pos
theorem d6_zero:d6 fz fz fz fz fz fz = 0:=by
 simp only [d6,dF_zero];rfl
def kOne (n:Nat):List AV->Option (List Prop × AV)
 | []=>some ([],.v1 (.agg (q6 oneF :: List.replicate n (q6 fun _=>0))))
 | _=>none
def GOn:Ctx:=ctxL [(61,.pure (cK oneF))]
theorem GOn_ok:CtxOk Try.prog GOn:=ctxL_cons okOne0 ctxL_nil
abbrev c2 (a b:Nat->Nat):List AV->Option (List Prop × AV)
 | []=>some ([],f2 a b)
 | _=>none
theorem okOne2:(CallC.pure (c2 oneF fz)).Ok Try.prog 41:=by
 intro args pre v e _
 unfold c2 at e
 split at e
 ·cases e
  refine pure_walk' tt_ok Try.func41 (by kernel_rfl) (by kernel_rfl) (by rfl) (by rfl) ?_
  refine evS_q mixed tt_ok GOn_ok 60 [] ?_
  exact same (p:=endN (f2 oneF fz) (f2 oneF fz)) ⟨_,rfl,fun _=>rfl⟩ (by kernel_rfl)
 ·cases e
def c12 (v:V1):List AV->Option (List Prop × AV)
 | []=>some ([],.v1 v)
 | _=>none
abbrev one12:V1:=v12 oneF fz fz fz fz fz fz fz fz fz fz fz
def GOt:Ctx:=ctxL [(41,.pure (c2 oneF fz))]
theorem GOt_ok:CtxOk Try.prog GOt:=ctxL_cons okOne2 ctxL_nil
theorem okOne12:(CallC.pure (c12 one12)).Ok Try.prog 18:=by
 intro args pre v e _
 unfold c12 at e
 split at e
 ·cases e
  refine pure_walk' tt_ok Try.func18 (by kernel_rfl) (by kernel_rfl) (by rfl) (by rfl) ?_
  refine evS_q mixed tt_ok GOt_ok 60 [] ?_
  exact same (p:=endN (.v1 one12) (.v1 one12)) ⟨_,rfl,fun _=>rfl⟩ (by kernel_rfl)
 ·cases e
def tuF0:Nat->Nat:=(upd (upd (upd (upd (upd (upd fz 0 8505329371266088957) 1 17002214543764226050) 2 6865905132761471162) 3 8632934651105793861) 4 6631298214892334189) 5 1582556514881692819)
def tuF1:Nat->Nat:=(upd (upd (upd (upd (upd (upd fz 0 0) 1 0) 2 0) 3 0) 4 0) 5 0)
def tuF2:Nat->Nat:=(upd (upd (upd (upd (upd (upd fz 0 506819140503852133) 1 14297063575771579155) 2 10946065744702939791) 3 11771194236670323182) 4 2081670087578406477) 5 644615147456521963)
def tuF3:Nat->Nat:=(upd (upd (upd (upd (upd (upd fz 0 12895611875574011462) 1 6359822009455181036) 2 14936352902570693524) 3 13914887797453940944) 4 3330433690892295817) 5 1229183470191017903)
def tuF4:Nat->Nat:=(upd (upd (upd (upd (upd (upd fz 0 0) 1 0) 2 0) 3 0) 4 0) 5 0)
def tuF5:Nat->Nat:=(upd (upd (upd (upd (upd (upd fz 0 14772873186050699377) 1 6749526151121446354) 2 6372666795664677781) 3 10283423008382700446) 4 286397964926079186) 5 1796971870900422465)
def tuF6:Nat->Nat:=(upd (upd (upd (upd (upd (upd fz 0 8921533702591418330) 1 15859389534032789116) 2 3389114680249073393) 3 15116930867080254631) 4 3288288975085550621) 5 1021049300055853010)
def tuF7:Nat->Nat:=(upd (upd (upd (upd (upd (upd fz 0 8921533702591418330) 1 15859389534032789116) 2 3389114680249073393) 3 15116930867080254631) 4 3288288975085550621) 5 1021049300055853010)
def tuF8:Nat->Nat:=(upd (upd (upd (upd (upd (upd fz 0 9875771541238924739) 1 3094855109658912213) 2 5802897354862067244) 3 11677019699073781796) 4 1505592401347711080) 5 1505729768134575418)
def tuF9:Nat->Nat:=(upd (upd (upd (upd (upd (upd fz 0 0) 1 0) 2 0) 3 0) 4 0) 5 0)
def tuF10:Nat->Nat:=(upd (upd (upd (upd (upd (upd fz 0 9428352843095270463) 1 11709709036094816655) 2 14335180424952013185) 3 8441381030041026197) 4 5369959062663957099) 5 1665664447512374973)
def tuF11:Nat->Nat:=(upd (upd (upd (upd (upd (upd fz 0 3974078172982593132) 1 8947176549131943536) 2 11547238222321620130) 3 17244701004083237929) 4 42144715806745195) 5 208134170135164893)
abbrev tu12:V1:=v12 tuF0 tuF1 tuF2 tuF3 tuF4 tuF5 tuF6 tuF7 tuF8 tuF9 tuF10 tuF11
theorem tu_nv0:nv tuF0 = 3380320199399472671518931668520476396067793891014375699959770179129436917079669831430077592723774664465579537268733:=by kernel_rfl
theorem tu_lt0:nv tuF0 < pN:=by rw [tu_nv0];decide
theorem tu_d0:dF tuF0 = ofN tuN0:=by
 unfold dF dec ofN ri tuN0
 rw [tu_nv0]
 exact Fin.ext (by kernel_rfl)
theorem tu_nv1:nv tuF1 = 0:=by kernel_rfl
theorem tu_lt1:nv tuF1 < pN:=by rw [tu_nv1];decide
theorem tu_d1:dF tuF1 = ofN tuN1:=by
 unfold dF dec ofN ri tuN1
 rw [tu_nv1]
 exact Fin.ext (by kernel_rfl)
theorem tu_nv2:nv tuF2 = 1376889598125376727959055341295674356654925039980005395128828212993454708588385020118431646457834669954221389501541:=by kernel_rfl
theorem tu_lt2:nv tuF2 < pN:=by rw [tu_nv2];decide
theorem tu_d2:dF tuF2 = ofN tuN2:=by
 unfold dF dec ofN ri tuN2
 rw [tu_nv2]
 exact Fin.ext (by kernel_rfl)
theorem tu_nv3:nv tuF3 = 2625519957096290665458734484440229799901957779959002490203229923130576941902452844324255982671180994083672883058246:=by kernel_rfl
theorem tu_lt3:nv tuF3 < pN:=by rw [tu_nv3];decide
theorem tu_d3:dF tuF3 = ofN tuN3:=by
 unfold dF dec ofN ri tuN3
 rw [tu_nv3]
 exact Fin.ext (by kernel_rfl)
theorem tu_nv4:nv tuF4 = 0:=by kernel_rfl
theorem tu_lt4:nv tuF4 < pN:=by rw [tu_nv4];decide
theorem tu_d4:dF tuF4 = ofN tuN4:=by
 unfold dF dec ofN ri tuN4
 rw [tu_nv4]
 exact Fin.ext (by kernel_rfl)
theorem tu_nv5:nv tuF5 = 3838308620157845674988348254171675463841990158783295489149568424364307477627266222040030802976299176456994858070129:=by kernel_rfl
theorem tu_lt5:nv tuF5 < pN:=by rw [tu_nv5];decide
theorem tu_d5:dF tuF5 = ofN tuN5:=by
 unfold dF dec ofN ri tuN5
 rw [tu_nv5]
 exact Fin.ext (by kernel_rfl)
theorem tu_nv6:nv tuF6 = 2180948067955421400650298037051525928469820541616793192330698326773792934210431556493050816229929877766056936935386:=by kernel_rfl
theorem tu_lt6:nv tuF6 < pN:=by rw [tu_nv6];decide
theorem tu_d6:dF tuF6 = ofN tuN6:=by
 unfold dF dec ofN ri tuN6
 rw [tu_nv6]
 exact Fin.ext (by kernel_rfl)
theorem tu_nv7:nv tuF7 = 2180948067955421400650298037051525928469820541616793192330698326773792934210431556493050816229929877766056936935386:=by kernel_rfl
theorem tu_lt7:nv tuF7 < pN:=by rw [tu_nv7];decide
theorem tu_d7:dF tuF7 = ofN tuN7:=by
 unfold dF dec ofN ri tuN7
 rw [tu_nv7]
 exact Fin.ext (by kernel_rfl)
theorem tu_nv8:nv tuF8 = 3216219264335650953089490096956247703352901229858663303777280467369712744216098189027420766571058176884680122779075:=by kernel_rfl
theorem tu_lt8:nv tuF8 < pN:=by rw [tu_nv8];decide
theorem tu_d8:dF tuF8 = ofN tuN8:=by
 unfold dF dec ofN ri tuN8
 rw [tu_nv8]
 exact Fin.ext (by kernel_rfl)
theorem tu_nv9:nv tuF9 = 0:=by kernel_rfl
theorem tu_lt9:nv tuF9 < pN:=by rw [tu_nv9];decide
theorem tu_d9:dF tuF9 = ofN tuN9:=by
 unfold dF dec ofN ri tuN9
 rw [tu_nv9]
 exact Fin.ext (by kernel_rfl)
theorem tu_nv10:nv tuF10 = 3557837666080798128609353378347200285124745581596798587459526539767247642798816576611482462687764547720278326436927:=by kernel_rfl
theorem tu_lt10:nv tuF10 < pN:=by rw [tu_nv10];decide
theorem tu_d10:dF tuF10 = ofN tuN10:=by
 unfold dF dec ofN ri tuN10
 rw [tu_nv10]
 exact Fin.ext (by kernel_rfl)
theorem tu_nv11:nv tuF11 = 444571889140869264808436447388703871432137238342209297872531596356784007692021287831205166441251116317615946122860:=by kernel_rfl
theorem tu_lt11:nv tuF11 < pN:=by rw [tu_nv11];decide
theorem tu_d11:dF tuF11 = ofN tuN11:=by
 unfold dF dec ofN ri tuN11
 rw [tu_nv11]
 exact Fin.ext (by kernel_rfl)
theorem okTurned:(CallC.pure (c12 tu12)).Ok Try.prog 49:=by
 intro args pre v e _
 unfold c12 at e
 split at e
 ·cases e
  refine pure_walk' tt_ok Try.func49 (by kernel_rfl) (by kernel_rfl) (by rfl) (by rfl) ?_
  refine evS_q mixed tt_ok G0_ok 200 [] ?_
  exact same (p:=endN (.v1 tu12) (.v1 tu12)) ⟨_,rfl,fun _=>rfl⟩ (by kernel_rfl)
 ·cases e
def k121 (F:S12->S12):List AV->Option (List Prop × AV)
 | [.v1 (.agg [.ws .u64 6 a0,.ws .u64 6 a1,.ws .u64 6 a2,.ws .u64 6 a3,.ws .u64 6 a4,.ws .u64 6 a5,.ws .u64 6 a6,.ws .u64 6 a7,.ws .u64 6 a8,.ws .u64 6 a9,.ws .u64 6 a10,.ws .u64 6 a11])]=>some ([nv a0 < pN,nv a1 < pN,nv a2 < pN,nv a3 < pN,nv a4 < pN,nv a5 < pN,nv a6 < pN,nv a7 < pN,nv a8 < pN,nv a9 < pN,nv a10 < pN,nv a11 < pN],.v1 (e12 (F (d12 a0 a1 a2 a3 a4 a5 a6 a7 a8 a9 a10 a11))))
 | _=>none
theorem k121_ok {F:S12->S12} {f:FuncId} {fn:Func} (hf:Try.prog.funcs[f]? = some fn) (hb:fn.body = some (bodyOf fn)) (hn:(fn.name == "runtime.NumGoroutine") = false)
  (h:∀ a0 a1 a2 a3 a4 a5 a6 a7 a8 a9 a10 a11:Nat->Nat,nv a0 < pN->nv a1 < pN->nv a2 < pN->nv a3 < pN->nv a4 < pN->nv a5 < pN->nv a6 < pN->nv a7 < pN->nv a8 < pN->nv a9 < pN->nv a10 < pN->nv a11 < pN->AWqS Try.prog (fun _=>False) (flatC (bodyOf fn)) (FEnd' tt fn (.v1 (e12 (F (d12 a0 a1 a2 a3 a4 a5 a6 a7 a8 a9 a10 a11))))) ⟨frame0 [.v1 (v12 a0 a1 a2 a3 a4 a5 a6 a7 a8 a9 a10 a11)] fn.ntmps,[]⟩):(CallC.pure (k121 F)).Ok Try.prog f:=by
 intro args pre v e hp
 unfold k121 at e
 split at e
 ·rename_i a0 a1 a2 a3 a4 a5 a6 a7 a8 a9 a10 a11
  cases e
  exact pure_walk' tt_ok hf hb hn (by rfl) (by rfl) (h a0 a1 a2 a3 a4 a5 a6 a7 a8 a9 a10 a11 (hp _ (by simp)) (hp _ (by simp)) (hp _ (by simp)) (hp _ (by simp)) (hp _ (by simp)) (hp _ (by simp)) (hp _ (by simp)) (hp _ (by simp)) (hp _ (by simp)) (hp _ (by simp)) (hp _ (by simp)) (hp _ (by simp)))
 ·cases e
def GIn:Ctx:=ctxL [(27,.pure cHal),(30,.pure cWho),(28,.pure (k62 S6.mul)),(32,.pure (k62 S6.sub)),(31,.pure (k61 S6.next)),(48,.pure (k61 S6.inv))]
theorem GIn_ok:CtxOk Try.prog GIn:=ctxL_cons okHal <| ctxL_cons okWho <| ctxL_cons okSmul <| ctxL_cons okSsub <| ctxL_cons okSnext <| ctxL_cons okSinv ctxL_nil
abbrev jv1 (a0 a1 a2 a3 a4 a5 a6 a7 a8 a9 a10 a11:Nat->Nat):S6:=S6.mul (d6 a0 a1 a4 a5 a8 a9) (d6 a0 a1 a4 a5 a8 a9)
def jv1d (z:S12):S6:=S6.mul z.p z.p
theorem jv1_d (a0 a1 a2 a3 a4 a5 a6 a7 a8 a9 a10 a11:Nat->Nat):jv1 a0 a1 a2 a3 a4 a5 a6 a7 a8 a9 a10 a11 = jv1d (d12 a0 a1 a2 a3 a4 a5 a6 a7 a8 a9 a10 a11):=by simp only [jv1,jv1d,D6_eq]
abbrev jv2 (a0 a1 a2 a3 a4 a5 a6 a7 a8 a9 a10 a11:Nat->Nat):S6:=S6.mul (d6 a2 a3 a6 a7 a10 a11) (d6 a2 a3 a6 a7 a10 a11)
def jv2d (z:S12):S6:=S6.mul z.q z.q
theorem jv2_d (a0 a1 a2 a3 a4 a5 a6 a7 a8 a9 a10 a11:Nat->Nat):jv2 a0 a1 a2 a3 a4 a5 a6 a7 a8 a9 a10 a11 = jv2d (d12 a0 a1 a2 a3 a4 a5 a6 a7 a8 a9 a10 a11):=by simp only [jv2,jv2d,D6_eq]
abbrev jv3 (a0 a1 a2 a3 a4 a5 a6 a7 a8 a9 a10 a11:Nat->Nat):S6:=S6.next (D6 (jv2 a0 a1 a2 a3 a4 a5 a6 a7 a8 a9 a10 a11))
def jv3d (z:S12):S6:=S6.next (jv2d z)
theorem jv3_d (a0 a1 a2 a3 a4 a5 a6 a7 a8 a9 a10 a11:Nat->Nat):jv3 a0 a1 a2 a3 a4 a5 a6 a7 a8 a9 a10 a11 = jv3d (d12 a0 a1 a2 a3 a4 a5 a6 a7 a8 a9 a10 a11):=by simp only [jv3,jv3d,D6_eq,jv2_d]
abbrev jv4 (a0 a1 a2 a3 a4 a5 a6 a7 a8 a9 a10 a11:Nat->Nat):S6:=S6.sub (D6 (jv1 a0 a1 a2 a3 a4 a5 a6 a7 a8 a9 a10 a11)) (D6 (jv3 a0 a1 a2 a3 a4 a5 a6 a7 a8 a9 a10 a11))
def jv4d (z:S12):S6:=S6.sub (jv1d z) (jv3d z)
theorem jv4_d (a0 a1 a2 a3 a4 a5 a6 a7 a8 a9 a10 a11:Nat->Nat):jv4 a0 a1 a2 a3 a4 a5 a6 a7 a8 a9 a10 a11 = jv4d (d12 a0 a1 a2 a3 a4 a5 a6 a7 a8 a9 a10 a11):=by simp only [jv4,jv4d,D6_eq,jv1_d,jv3_d]
abbrev jv5 (a0 a1 a2 a3 a4 a5 a6 a7 a8 a9 a10 a11:Nat->Nat):S6:=S6.inv (D6 (jv4 a0 a1 a2 a3 a4 a5 a6 a7 a8 a9 a10 a11))
def jv5d (z:S12):S6:=S6.inv (jv4d z)
theorem jv5_d (a0 a1 a2 a3 a4 a5 a6 a7 a8 a9 a10 a11:Nat->Nat):jv5 a0 a1 a2 a3 a4 a5 a6 a7 a8 a9 a10 a11 = jv5d (d12 a0 a1 a2 a3 a4 a5 a6 a7 a8 a9 a10 a11):=by simp only [jv5,jv5d,D6_eq,jv4_d]
abbrev jv6 (a0 a1 a2 a3 a4 a5 a6 a7 a8 a9 a10 a11:Nat->Nat):S6:=S6.mul (d6 a0 a1 a4 a5 a8 a9) (D6 (jv5 a0 a1 a2 a3 a4 a5 a6 a7 a8 a9 a10 a11))
def jv6d (z:S12):S6:=S6.mul z.p (jv5d z)
theorem jv6_d (a0 a1 a2 a3 a4 a5 a6 a7 a8 a9 a10 a11:Nat->Nat):jv6 a0 a1 a2 a3 a4 a5 a6 a7 a8 a9 a10 a11 = jv6d (d12 a0 a1 a2 a3 a4 a5 a6 a7 a8 a9 a10 a11):=by simp only [jv6,jv6d,D6_eq,jv5_d]
abbrev jv7 (a0 a1 a2 a3 a4 a5 a6 a7 a8 a9 a10 a11:Nat->Nat):S6:=S6.sub (d6 fz fz fz fz fz fz) (d6 a2 a3 a6 a7 a10 a11)
def jv7d (z:S12):S6:=S6.sub 0 z.q
theorem jv7_d (a0 a1 a2 a3 a4 a5 a6 a7 a8 a9 a10 a11:Nat->Nat):jv7 a0 a1 a2 a3 a4 a5 a6 a7 a8 a9 a10 a11 = jv7d (d12 a0 a1 a2 a3 a4 a5 a6 a7 a8 a9 a10 a11):=by simp only [jv7,jv7d,D6_eq,d6_zero]
abbrev jv8 (a0 a1 a2 a3 a4 a5 a6 a7 a8 a9 a10 a11:Nat->Nat):S6:=S6.mul (D6 (jv7 a0 a1 a2 a3 a4 a5 a6 a7 a8 a9 a10 a11)) (D6 (jv5 a0 a1 a2 a3 a4 a5 a6 a7 a8 a9 a10 a11))
def jv8d (z:S12):S6:=S6.mul (jv7d z) (jv5d z)
theorem jv8_d (a0 a1 a2 a3 a4 a5 a6 a7 a8 a9 a10 a11:Nat->Nat):jv8 a0 a1 a2 a3 a4 a5 a6 a7 a8 a9 a10 a11 = jv8d (d12 a0 a1 a2 a3 a4 a5 a6 a7 a8 a9 a10 a11):=by simp only [jv8,jv8d,D6_eq,jv7_d,jv5_d]
def S12.inv (z:S12):S12:=⟨(jv6d z),(jv8d z)⟩
theorem okInv12:(CallC.pure (k121 S12.inv)).Ok Try.prog 23:=by
 refine k121_ok Try.func23 (by kernel_rfl) (by kernel_rfl) fun a0 a1 a2 a3 a4 a5 a6 a7 a8 a9 a10 a11 ha0 ha1 ha2 ha3 ha4 ha5 ha6 ha7 ha8 ha9 ha10 ha11=>evS_q mixed tt_ok GIn_ok 100 [] ?_
 refine same (p:=nv a0 < pN/\lp a1/\lp a4/\lp a5/\lp a8/\lp a9/\lp a0/\lp a1/\lp a4/\lp a5/\lp a8/\lp a9/\lp a2/\lp a3/\lp a6/\lp a7/\lp a10/\lp a11/\lp a2/\lp a3/\lp a6/\lp a7/\lp a10/\lp a11/\lp (eF (jv2 a0 a1 a2 a3 a4 a5 a6 a7 a8 a9 a10 a11).u.x)/\lp (eF (jv2 a0 a1 a2 a3 a4 a5 a6 a7 a8 a9 a10 a11).u.y)/\lp (eF (jv2 a0 a1 a2 a3 a4 a5 a6 a7 a8 a9 a10 a11).v.x)/\lp (eF (jv2 a0 a1 a2 a3 a4 a5 a6 a7 a8 a9 a10 a11).v.y)/\lp (eF (jv2 a0 a1 a2 a3 a4 a5 a6 a7 a8 a9 a10 a11).w.x)/\lp (eF (jv2 a0 a1 a2 a3 a4 a5 a6 a7 a8 a9 a10 a11).w.y)/\lp (eF (jv1 a0 a1 a2 a3 a4 a5 a6 a7 a8 a9 a10 a11).u.x)/\lp (eF (jv1 a0 a1 a2 a3 a4 a5 a6 a7 a8 a9 a10 a11).u.y)/\lp (eF (jv1 a0 a1 a2 a3 a4 a5 a6 a7 a8 a9 a10 a11).v.x)/\lp (eF (jv1 a0 a1 a2 a3 a4 a5 a6 a7 a8 a9 a10 a11).v.y)/\lp (eF (jv1 a0 a1 a2 a3 a4 a5 a6 a7 a8 a9 a10 a11).w.x)/\lp (eF (jv1 a0 a1 a2 a3 a4 a5 a6 a7 a8 a9 a10 a11).w.y)/\lp (eF (jv3 a0 a1 a2 a3 a4 a5 a6 a7 a8 a9 a10 a11).u.x)/\lp (eF (jv3 a0 a1 a2 a3 a4 a5 a6 a7 a8 a9 a10 a11).u.y)/\lp (eF (jv3 a0 a1 a2 a3 a4 a5 a6 a7 a8 a9 a10 a11).v.x)/\lp (eF (jv3 a0 a1 a2 a3 a4 a5 a6 a7 a8 a9 a10 a11).v.y)/\lp (eF (jv3 a0 a1 a2 a3 a4 a5 a6 a7 a8 a9 a10 a11).w.x)/\lp (eF (jv3 a0 a1 a2 a3 a4 a5 a6 a7 a8 a9 a10 a11).w.y)/\lp (eF (jv4 a0 a1 a2 a3 a4 a5 a6 a7 a8 a9 a10 a11).u.x)/\lp (eF (jv4 a0 a1 a2 a3 a4 a5 a6 a7 a8 a9 a10 a11).u.y)/\lp (eF (jv4 a0 a1 a2 a3 a4 a5 a6 a7 a8 a9 a10 a11).v.x)/\lp (eF (jv4 a0 a1 a2 a3 a4 a5 a6 a7 a8 a9 a10 a11).v.y)/\lp (eF (jv4 a0 a1 a2 a3 a4 a5 a6 a7 a8 a9 a10 a11).w.x)/\lp (eF (jv4 a0 a1 a2 a3 a4 a5 a6 a7 a8 a9 a10 a11).w.y)/\lp a0/\lp a1/\lp a4/\lp a5/\lp a8/\lp a9/\lp (eF (jv5 a0 a1 a2 a3 a4 a5 a6 a7 a8 a9 a10 a11).u.x)/\lp (eF (jv5 a0 a1 a2 a3 a4 a5 a6 a7 a8 a9 a10 a11).u.y)/\lp (eF (jv5 a0 a1 a2 a3 a4 a5 a6 a7 a8 a9 a10 a11).v.x)/\lp (eF (jv5 a0 a1 a2 a3 a4 a5 a6 a7 a8 a9 a10 a11).v.y)/\lp (eF (jv5 a0 a1 a2 a3 a4 a5 a6 a7 a8 a9 a10 a11).w.x)/\lp (eF (jv5 a0 a1 a2 a3 a4 a5 a6 a7 a8 a9 a10 a11).w.y)/\lp fz/\lp fz/\lp fz/\lp fz/\lp fz/\lp fz/\lp a2/\lp a3/\lp a6/\lp a7/\lp a10/\lp a11/\lp (eF (jv7 a0 a1 a2 a3 a4 a5 a6 a7 a8 a9 a10 a11).u.x)/\lp (eF (jv7 a0 a1 a2 a3 a4 a5 a6 a7 a8 a9 a10 a11).u.y)/\lp (eF (jv7 a0 a1 a2 a3 a4 a5 a6 a7 a8 a9 a10 a11).v.x)/\lp (eF (jv7 a0 a1 a2 a3 a4 a5 a6 a7 a8 a9 a10 a11).v.y)/\lp (eF (jv7 a0 a1 a2 a3 a4 a5 a6 a7 a8 a9 a10 a11).w.x)/\lp (eF (jv7 a0 a1 a2 a3 a4 a5 a6 a7 a8 a9 a10 a11).w.y)/\lp (eF (jv5 a0 a1 a2 a3 a4 a5 a6 a7 a8 a9 a10 a11).u.x)/\lp (eF (jv5 a0 a1 a2 a3 a4 a5 a6 a7 a8 a9 a10 a11).u.y)/\lp (eF (jv5 a0 a1 a2 a3 a4 a5 a6 a7 a8 a9 a10 a11).v.x)/\lp (eF (jv5 a0 a1 a2 a3 a4 a5 a6 a7 a8 a9 a10 a11).v.y)/\lp (eF (jv5 a0 a1 a2 a3 a4 a5 a6 a7 a8 a9 a10 a11).w.x)/\lp (eF (jv5 a0 a1 a2 a3 a4 a5 a6 a7 a8 a9 a10 a11).w.y)/\endN (.v1 (v12 (eF (jv6 a0 a1 a2 a3 a4 a5 a6 a7 a8 a9 a10 a11).u.x) (eF (jv6 a0 a1 a2 a3 a4 a5 a6 a7 a8 a9 a10 a11).u.y) (eF (jv8 a0 a1 a2 a3 a4 a5 a6 a7 a8 a9 a10 a11).u.x) (eF (jv8 a0 a1 a2 a3 a4 a5 a6 a7 a8 a9 a10 a11).u.y) (eF (jv6 a0 a1 a2 a3 a4 a5 a6 a7 a8 a9 a10 a11).v.x) (eF (jv6 a0 a1 a2 a3 a4 a5 a6 a7 a8 a9 a10 a11).v.y) (eF (jv8 a0 a1 a2 a3 a4 a5 a6 a7 a8 a9 a10 a11).v.x) (eF (jv8 a0 a1 a2 a3 a4 a5 a6 a7 a8 a9 a10 a11).v.y) (eF (jv6 a0 a1 a2 a3 a4 a5 a6 a7 a8 a9 a10 a11).w.x) (eF (jv6 a0 a1 a2 a3 a4 a5 a6 a7 a8 a9 a10 a11).w.y) (eF (jv8 a0 a1 a2 a3 a4 a5 a6 a7 a8 a9 a10 a11).w.x) (eF (jv8 a0 a1 a2 a3 a4 a5 a6 a7 a8 a9 a10 a11).w.y))) (.v1 (e12 (S12.inv (d12 a0 a1 a2 a3 a4 a5 a6 a7 a8 a9 a10 a11))))) ?_ (by kernel_rfl)
 exact ⟨ha0,ha1,ha4,ha5,ha8,ha9,ha0,ha1,ha4,ha5,ha8,ha9,ha2,ha3,ha6,ha7,ha10,ha11,ha2,ha3,ha6,ha7,ha10,ha11,lt_eF _,lt_eF _,lt_eF _,lt_eF _,lt_eF _,lt_eF _,lt_eF _,lt_eF _,lt_eF _,lt_eF _,lt_eF _,lt_eF _,lt_eF _,lt_eF _,lt_eF _,lt_eF _,lt_eF _,lt_eF _,lt_eF _,lt_eF _,lt_eF _,lt_eF _,lt_eF _,lt_eF _,ha0,ha1,ha4,ha5,ha8,ha9,lt_eF _,lt_eF _,lt_eF _,lt_eF _,lt_eF _,lt_eF _,zlt,zlt,zlt,zlt,zlt,zlt,ha2,ha3,ha6,ha7,ha10,ha11,lt_eF _,lt_eF _,lt_eF _,lt_eF _,lt_eF _,lt_eF _,lt_eF _,lt_eF _,lt_eF _,lt_eF _,lt_eF _,lt_eF _,_,rfl,v12_val (nvE (by rw [jv6_d];rfl)) (nvE (by rw [jv6_d];rfl)) (nvE (by rw [jv8_d];rfl)) (nvE (by rw [jv8_d];rfl)) (nvE (by rw [jv6_d];rfl)) (nvE (by rw [jv6_d];rfl)) (nvE (by rw [jv8_d];rfl)) (nvE (by rw [jv8_d];rfl)) (nvE (by rw [jv6_d];rfl)) (nvE (by rw [jv6_d];rfl)) (nvE (by rw [jv8_d];rfl)) (nvE (by rw [jv8_d];rfl))⟩
abbrev cj1 (a0 a1 a2 a3 a4 a5 a6 a7 a8 a9 a10 a11:Nat->Nat):S6:=S6.sub (d6 fz fz fz fz fz fz) (d6 a2 a3 a6 a7 a10 a11)
def cj1d (z:S12):S6:=S6.sub 0 z.q
theorem cj1_d (a0 a1 a2 a3 a4 a5 a6 a7 a8 a9 a10 a11:Nat->Nat):cj1 a0 a1 a2 a3 a4 a5 a6 a7 a8 a9 a10 a11 = cj1d (d12 a0 a1 a2 a3 a4 a5 a6 a7 a8 a9 a10 a11):=by simp only [cj1,cj1d,D6_eq,d6_zero]
def S12.conj (z:S12):S12:=⟨z.p,(cj1d z)⟩
theorem okConj12:(CallC.pure (k121 S12.conj)).Ok Try.prog 22:=by
 refine k121_ok Try.func22 (by kernel_rfl) (by kernel_rfl) fun a0 a1 a2 a3 a4 a5 a6 a7 a8 a9 a10 a11 ha0 ha1 ha2 ha3 ha4 ha5 ha6 ha7 ha8 ha9 ha10 ha11=>evS_q mixed tt_ok GIn_ok 100 [] ?_
 refine same (p:=nv fz < pN/\lp fz/\lp fz/\lp fz/\lp fz/\lp fz/\lp a2/\lp a3/\lp a6/\lp a7/\lp a10/\lp a11/\endN (.v1 (v12 a0 a1 (eF (cj1 a0 a1 a2 a3 a4 a5 a6 a7 a8 a9 a10 a11).u.x) (eF (cj1 a0 a1 a2 a3 a4 a5 a6 a7 a8 a9 a10 a11).u.y) a4 a5 (eF (cj1 a0 a1 a2 a3 a4 a5 a6 a7 a8 a9 a10 a11).v.x) (eF (cj1 a0 a1 a2 a3 a4 a5 a6 a7 a8 a9 a10 a11).v.y) a8 a9 (eF (cj1 a0 a1 a2 a3 a4 a5 a6 a7 a8 a9 a10 a11).w.x) (eF (cj1 a0 a1 a2 a3 a4 a5 a6 a7 a8 a9 a10 a11).w.y))) (.v1 (e12 (S12.conj (d12 a0 a1 a2 a3 a4 a5 a6 a7 a8 a9 a10 a11))))) ?_ (by kernel_rfl)
 exact ⟨zlt,zlt,zlt,zlt,zlt,zlt,ha2,ha3,ha6,ha7,ha10,ha11,_,rfl,v12_val (nv_of ha0 rfl) (nv_of ha1 rfl) (nvE (by rw [cj1_d];rfl)) (nvE (by rw [cj1_d];rfl)) (nv_of ha4 rfl) (nv_of ha5 rfl) (nvE (by rw [cj1_d];rfl)) (nvE (by rw [cj1_d];rfl)) (nv_of ha8 rfl) (nv_of ha9 rfl) (nvE (by rw [cj1_d];rfl)) (nvE (by rw [cj1_d];rfl))⟩
end Go.Proofs.Ytnjocbcjejpklaa
namespace Go.Proofs.Ytnjocbcjejpklaa
open Go.Rq Go
set_option maxRecDepth 100000
def of12 (a0 a1 a2 a3 a4 a5 a6 a7 a8 a9 a10 a11:Nat->Nat):Nat->Nat->Nat
 | 0=>a0
 | 1=>a1
 | 2=>a2
 | 3=>a3
 | 4=>a4
 | 5=>a5
 | 6=>a6
 | 7=>a7
 | 8=>a8
 | 9=>a9
 | 10=>a10
 | _=>a11
def sel12 (s:S12):Nat->Nat->Nat:=of12 (eF s.p.u.x) (eF s.p.u.y) (eF s.q.u.x) (eF s.q.u.y) (eF s.p.v.x) (eF s.p.v.y) (eF s.q.v.x) (eF s.q.v.y) (eF s.p.w.x) (eF s.p.w.y) (eF s.q.w.x) (eF s.q.w.y)
abbrev cs12 (g:Nat->Nat->Nat):List Cell:=[q6 (g 0),q6 (g 1),q6 (g 2),q6 (g 3),q6 (g 4),q6 (g 5),q6 (g 6),q6 (g 7),q6 (g 8),q6 (g 9),q6 (g 10),q6 (g 11)]
abbrev D12 (g:Nat->Nat->Nat):S12:=d12 (g 0) (g 1) (g 2) (g 3) (g 4) (g 5) (g 6) (g 7) (g 8) (g 9) (g 10) (g 11)
abbrev b12 (g:Nat->Nat->Nat):Option Blk:=some ⟨49,cs12 g,0,0⟩
def Lt12 (g:Nat->Nat->Nat):Prop:=∀ i,i < 12->nv (g i) < pN
theorem D12_sel (s:S12):D12 (sel12 s) = s:=by
 simp only [D12,sel12,of12,d12,d6,dF_eF]
theorem lt_of12 {a0 a1 a2 a3 a4 a5 a6 a7 a8 a9 a10 a11:Nat->Nat} (h0:nv a0 < pN) (h1:nv a1 < pN) (h2:nv a2 < pN) (h3:nv a3 < pN) (h4:nv a4 < pN) (h5:nv a5 < pN) (h6:nv a6 < pN) (h7:nv a7 < pN) (h8:nv a8 < pN) (h9:nv a9 < pN) (h10:nv a10 < pN) (h11:nv a11 < pN):Lt12 (of12 a0 a1 a2 a3 a4 a5 a6 a7 a8 a9 a10 a11):=by
 intro i hi
 have:i = 0∨i = 1∨i = 2∨i = 3∨i = 4∨i = 5∨i = 6∨i = 7∨i = 8∨i = 9∨i = 10∨i = 11:=by omega
 rcases this with rfl | rfl | rfl | rfl | rfl | rfl | rfl | rfl | rfl | rfl | rfl | rfl
 ·exact h0
 ·exact h1
 ·exact h2
 ·exact h3
 ·exact h4
 ·exact h5
 ·exact h6
 ·exact h7
 ·exact h8
 ·exact h9
 ·exact h10
 ·exact h11
theorem lt_sel (s:S12):Lt12 (sel12 s):=lt_of12 (lt_eF _) (lt_eF _) (lt_eF _) (lt_eF _) (lt_eF _) (lt_eF _) (lt_eF _) (lt_eF _) (lt_eF _) (lt_eF _) (lt_eF _) (lt_eF _)
theorem endN_12 {g:Nat->Nat->Nat} {s:S12} (h:Lt12 g) (e:D12 g = s):endN (.v1 (.agg (cs12 g))) (.v1 (e12 s)):=by
 subst e
 exact ⟨_,rfl,v12_val (nv_of (h 0 (by decide)) rfl) (nv_of (h 1 (by decide)) rfl) (nv_of (h 2 (by decide)) rfl) (nv_of (h 3 (by decide)) rfl) (nv_of (h 4 (by decide)) rfl) (nv_of (h 5 (by decide)) rfl) (nv_of (h 6 (by decide)) rfl) (nv_of (h 7 (by decide)) rfl) (nv_of (h 8 (by decide)) rfl) (nv_of (h 9 (by decide)) rfl) (nv_of (h 10 (by decide)) rfl) (nv_of (h 11 (by decide)) rfl)⟩
theorem tw_x {a b c d:Nat->Nat} {K:F2p} (h2:dF c = K.x) (h3:dF d = K.y):dF (eF (mul2x (dF (eF (cj2x (dF a) (dF b)))) (dF (eF (cj2y (dF a) (dF b)))) (dF c) (dF d))) = (F2p.cj ⟨dF a,dF b⟩ * K).x:=by
 rw [dF_eF,dF_eF,dF_eF,h2,h3];rfl
theorem tw_y {a b c d:Nat->Nat} {K:F2p} (h2:dF c = K.x) (h3:dF d = K.y):dF (eF (mul2y (dF (eF (cj2x (dF a) (dF b)))) (dF (eF (cj2y (dF a) (dF b)))) (dF c) (dF d))) = (F2p.cj ⟨dF a,dF b⟩ * K).y:=by
 rw [dF_eF,dF_eF,dF_eF,h2,h3];rfl
abbrev nw12 (g:Nat->Nat->Nat):Nat->Nat->Nat:=of12 (eF (mul2x (dF (eF (cj2x (dF (g 0)) (dF (g 1))))) (dF (eF (cj2y (dF (g 0)) (dF (g 1))))) (dF tuF0) (dF tuF1))) (eF (mul2y (dF (eF (cj2x (dF (g 0)) (dF (g 1))))) (dF (eF (cj2y (dF (g 0)) (dF (g 1))))) (dF tuF0) (dF tuF1))) (eF (mul2x (dF (eF (cj2x (dF (g 2)) (dF (g 3))))) (dF (eF (cj2y (dF (g 2)) (dF (g 3))))) (dF tuF2) (dF tuF3))) (eF (mul2y (dF (eF (cj2x (dF (g 2)) (dF (g 3))))) (dF (eF (cj2y (dF (g 2)) (dF (g 3))))) (dF tuF2) (dF tuF3))) (eF (mul2x (dF (eF (cj2x (dF (g 4)) (dF (g 5))))) (dF (eF (cj2y (dF (g 4)) (dF (g 5))))) (dF tuF4) (dF tuF5))) (eF (mul2y (dF (eF (cj2x (dF (g 4)) (dF (g 5))))) (dF (eF (cj2y (dF (g 4)) (dF (g 5))))) (dF tuF4) (dF tuF5))) (eF (mul2x (dF (eF (cj2x (dF (g 6)) (dF (g 7))))) (dF (eF (cj2y (dF (g 6)) (dF (g 7))))) (dF tuF6) (dF tuF7))) (eF (mul2y (dF (eF (cj2x (dF (g 6)) (dF (g 7))))) (dF (eF (cj2y (dF (g 6)) (dF (g 7))))) (dF tuF6) (dF tuF7))) (eF (mul2x (dF (eF (cj2x (dF (g 8)) (dF (g 9))))) (dF (eF (cj2y (dF (g 8)) (dF (g 9))))) (dF tuF8) (dF tuF9))) (eF (mul2y (dF (eF (cj2x (dF (g 8)) (dF (g 9))))) (dF (eF (cj2y (dF (g 8)) (dF (g 9))))) (dF tuF8) (dF tuF9))) (eF (mul2x (dF (eF (cj2x (dF (g 10)) (dF (g 11))))) (dF (eF (cj2y (dF (g 10)) (dF (g 11))))) (dF tuF10) (dF tuF11))) (eF (mul2y (dF (eF (cj2x (dF (g 10)) (dF (g 11))))) (dF (eF (cj2y (dF (g 10)) (dF (g 11))))) (dF tuF10) (dF tuF11)))
theorem nw_lt (g:Nat->Nat->Nat):Lt12 (nw12 g):=lt_of12 (lt_eF _) (lt_eF _) (lt_eF _) (lt_eF _) (lt_eF _) (lt_eF _) (lt_eF _) (lt_eF _) (lt_eF _) (lt_eF _) (lt_eF _) (lt_eF _)
theorem nw_d (g:Nat->Nat->Nat):D12 (nw12 g) = (D12 g).turn:=by
 exact S12.ext (S6.ext (F2p.ext (tw_x tu_d0 tu_d1) (tw_y tu_d0 tu_d1)) (F2p.ext (tw_x tu_d4 tu_d5) (tw_y tu_d4 tu_d5)) (F2p.ext (tw_x tu_d8 tu_d9) (tw_y tu_d8 tu_d9))) (S6.ext (F2p.ext (tw_x tu_d2 tu_d3) (tw_y tu_d2 tu_d3)) (F2p.ext (tw_x tu_d6 tu_d7) (tw_y tu_d6 tu_d7)) (F2p.ext (tw_x tu_d10 tu_d11) (tw_y tu_d10 tu_d11)))
def cFr (args:List AV):Option (List Prop × AV) :=
 match args with
 | [.v1 (.agg [.ws .u64 6 a0,.ws .u64 6 a1,.ws .u64 6 a2,.ws .u64 6 a3,.ws .u64 6 a4,.ws .u64 6 a5,.ws .u64 6 a6,.ws .u64 6 a7,.ws .u64 6 a8,.ws .u64 6 a9,.ws .u64 6 a10,.ws .u64 6 a11]),.v1 (.sc (.it (.ofNat n)))]=>some ([n <= 12,nv a0 < pN,nv a1 < pN,nv a2 < pN,nv a3 < pN,nv a4 < pN,nv a5 < pN,nv a6 < pN,nv a7 < pN,nv a8 < pN,nv a9 < pN,nv a10 < pN,nv a11 < pN],.v1 (e12 (S12.turns n (d12 a0 a1 a2 a3 a4 a5 a6 a7 a8 a9 a10 a11))))
 | _=>none
def GFr:Ctx:=ctxL [(49,.pure (c12 tu12)),(51,.pure (q1 cj2x cj2y)),(50,.pure (q2 mul2x mul2y))]
theorem GFr_ok:CtxOk Try.prog GFr:=ctxL_cons okTurned <| ctxL_cons okConj2 <| ctxL_cons okMul2 ctxL_nil
abbrev zz12:Nat->Nat->Nat:=fun _ _=>0
abbrev tuG:Nat->Nat->Nat:=of12 tuF0 tuF1 tuF2 tuF3 tuF4 tuF5 tuF6 tuF7 tuF8 tuF9 tuF10 tuF11
def VFr (n k:Nat):List AV:=[pt 0 0,pt 1 0,pt 3 0,iv (Int.ofNat n),iv (Int.ofNat k)]
def HFr (g:Nat->Nat->Nat):Heap:=[b12 g,b12 zz12,none,b12 tuG]
def InvFr (n:Nat) (z:S12) (x:Nat × (Nat->Nat->Nat)):Prop:=x.1 <= n/\Lt12 x.2/\D12 x.2 = S12.turns x.1 z
theorem okFrob:(CallC.pure cFr).Ok Try.prog 24:=by
 intro args pre v e hp
 unfold cFr at e
 split at e
 ·rename_i a0 a1 a2 a3 a4 a5 a6 a7 a8 a9 a10 a11 n
  cases e
  have hn:n <= 12:=hp _ (by simp)
  have h0:nv a0 < pN:=hp _ (by simp)
  have h1:nv a1 < pN:=hp _ (by simp)
  have h2:nv a2 < pN:=hp _ (by simp)
  have h3:nv a3 < pN:=hp _ (by simp)
  have h4:nv a4 < pN:=hp _ (by simp)
  have h5:nv a5 < pN:=hp _ (by simp)
  have h6:nv a6 < pN:=hp _ (by simp)
  have h7:nv a7 < pN:=hp _ (by simp)
  have h8:nv a8 < pN:=hp _ (by simp)
  have h9:nv a9 < pN:=hp _ (by simp)
  have h10:nv a10 < pN:=hp _ (by simp)
  have h11:nv a11 < pN:=hp _ (by simp)
  refine pure_walk' tt_ok Try.func24 (by kernel_rfl) (by kernel_rfl) (by rfl) (by rfl) ?_
  refine loopF mixed tt_ok GFr_ok (by kernel_rfl) (ι:={x // InvFr n (d12 a0 a1 a2 a3 a4 a5 a6 a7 a8 a9 a10 a11) x}) [2,4,5,8,9] 27 4 (fun x=>VFr n x.1.1) (fun x=>HFr x.1.2) (fun x=>n - x.1.1) (fun x=>x.1.1 = n)
   (fun _=>rfl) (fun _=>by kernel_rfl) (fun _ _ h=>h.elim) 100 [] ?_ ?_ ?_
  ·refine same (p:=true = true/\∃ j:{x // InvFr n (d12 a0 a1 a2 a3 a4 a5 a6 a7 a8 a9 a10 a11) x},VFr n 0 = VFr n j.1.1/\HFr (of12 a0 a1 a2 a3 a4 a5 a6 a7 a8 a9 a10 a11) = HFr j.1.2) ?_ (by kernel_rfl)
   exact ⟨rfl,⟨(0,of12 a0 a1 a2 a3 a4 a5 a6 a7 a8 a9 a10 a11),Nat.zero_le _,lt_of12 h0 h1 h2 h3 h4 h5 h6 h7 h8 h9 h10 h11,rfl⟩,rfl,rfl⟩
  ·intro ⟨⟨k,g⟩,hk,hg,hd⟩ junk
   simp only at hk hg hd
   by_cases hlt:k < n
   ·have hge:ilt (Int.ofNat k) (Int.ofNat n) = true:=by rw [ilt_iff];exact Int.ofNat_lt.2 hlt
    have hs:wrapI (Int.ofNat k + 1) = Int.ofNat (k + 1):=by show wrapI (Int.ofNat (k + 1)) = _;exact wrapI_small (by omega)
    refine roundF mixed tt_ok GFr_ok 200 [⟨3,0,.lit (.bo true)⟩,⟨9,0,.lit (.it (Int.ofNat (k + 1)))⟩] ?_
    refine same (p:=ilt (Int.ofNat k) (Int.ofNat n) = true/\lp (g 0)/\lp (g 1)/\lp (eF (cj2x (dF (g 0)) (dF (g 1))))/\lp (eF (cj2y (dF (g 0)) (dF (g 1))))/\lp tuF0/\lp tuF1/\lp (g 2)/\lp (g 3)/\lp (eF (cj2x (dF (g 2)) (dF (g 3))))/\lp (eF (cj2y (dF (g 2)) (dF (g 3))))/\lp tuF2/\lp tuF3/\lp (g 4)/\lp (g 5)/\lp (eF (cj2x (dF (g 4)) (dF (g 5))))/\lp (eF (cj2y (dF (g 4)) (dF (g 5))))/\lp tuF4/\lp tuF5/\lp (g 6)/\lp (g 7)/\lp (eF (cj2x (dF (g 6)) (dF (g 7))))/\lp (eF (cj2y (dF (g 6)) (dF (g 7))))/\lp tuF6/\lp tuF7/\lp (g 8)/\lp (g 9)/\lp (eF (cj2x (dF (g 8)) (dF (g 9))))/\lp (eF (cj2y (dF (g 8)) (dF (g 9))))/\lp tuF8/\lp tuF9/\lp (g 10)/\lp (g 11)/\lp (eF (cj2x (dF (g 10)) (dF (g 11))))/\lp (eF (cj2y (dF (g 10)) (dF (g 11))))/\lp tuF10/\lp tuF11/\wrapI (Int.ofNat k + 1) = Int.ofNat (k + 1)/\true = true /\
     ∃ j:{x // InvFr n (d12 a0 a1 a2 a3 a4 a5 a6 a7 a8 a9 a10 a11) x},n - j.1.1 < n - k/\VFr n (k + 1) = VFr n j.1.1/\HFr (nw12 g) = HFr j.1.2) ?_ (by kernel_rfl)
    exact ⟨hge,hg 0 (by decide),hg 1 (by decide),lt_eF _,lt_eF _,tu_lt0,tu_lt1,hg 2 (by decide),hg 3 (by decide),lt_eF _,lt_eF _,tu_lt2,tu_lt3,hg 4 (by decide),hg 5 (by decide),lt_eF _,lt_eF _,tu_lt4,tu_lt5,hg 6 (by decide),hg 7 (by decide),lt_eF _,lt_eF _,tu_lt6,tu_lt7,hg 8 (by decide),hg 9 (by decide),lt_eF _,lt_eF _,tu_lt8,tu_lt9,hg 10 (by decide),hg 11 (by decide),lt_eF _,lt_eF _,tu_lt10,tu_lt11,hs,rfl,⟨(k + 1,nw12 g),hlt,nw_lt g,by simp only [nw_d,hd];rfl⟩,by simp only;omega,rfl,rfl⟩
   ·have hge:ilt (Int.ofNat k) (Int.ofNat n) = false:=by rw [<-Bool.not_eq_true,ilt_iff];exact fun h=>hlt (Int.ofNat_lt.1 h)
    refine roundF mixed tt_ok GFr_ok 200 [⟨3,0,.lit (.bo false)⟩] ?_
    refine same (p:=ilt (Int.ofNat k) (Int.ofNat n) = false/\true = true/\∃ j:{x // InvFr n (d12 a0 a1 a2 a3 a4 a5 a6 a7 a8 a9 a10 a11) x},j.1.1 = n/\VFr n k = VFr n j.1.1/\HFr g = HFr j.1.2) ?_ (by kernel_rfl)
    exact ⟨hge,rfl,⟨(k,g),hk,hg,hd⟩,by simp only;omega,rfl,rfl⟩
  ·intro ⟨⟨k,g⟩,hk,hg,hd⟩ junk h0
   simp only at hk hg hd h0
   subst h0
   refine same (p:=endN (.v1 (.agg (cs12 g))) (.v1 (e12 (S12.turns k (d12 a0 a1 a2 a3 a4 a5 a6 a7 a8 a9 a10 a11))))) ?_ (by kernel_rfl)
   exact endN_12 hg hd
 ·cases e
theorem S12.one_d:D12 (of12 oneF fz fz fz fz fz fz fz fz fz fz fz) = 1:=by
 simp only [D12,d12,d6,of12,dF_one,dF_zero]
 rfl
theorem lt_one12:Lt12 (of12 oneF fz fz fz fz fz fz fz fz fz fz fz):=lt_of12 (by rw [one_enc];exact enc_lt 1) zlt zlt zlt zlt zlt zlt zlt zlt zlt zlt zlt
def cPw (args:List AV):Option (List Prop × AV) :=
 match args with
 | [.v1 (.agg [.ws .u64 6 a0,.ws .u64 6 a1,.ws .u64 6 a2,.ws .u64 6 a3,.ws .u64 6 a4,.ws .u64 6 a5,.ws .u64 6 a6,.ws .u64 6 a7,.ws .u64 6 a8,.ws .u64 6 a9,.ws .u64 6 a10,.ws .u64 6 a11]),.v1 (.agg [.ws .u64 6 e])]=>some ([nv a0 < pN,nv a1 < pN,nv a2 < pN,nv a3 < pN,nv a4 < pN,nv a5 < pN,nv a6 < pN,nv a7 < pN,nv a8 < pN,nv a9 < pN,nv a10 < pN,nv a11 < pN],.v1 (e12 (d12 a0 a1 a2 a3 a4 a5 a6 a7 a8 a9 a10 a11 ^ nv e)))
 | _=>none
def GPw:Ctx:=ctxL [(18,.pure (c12 one12)),(14,.pure (k122 S12.mul))]
theorem GPw_ok:CtxOk Try.prog GPw:=ctxL_cons okOne12 <| ctxL_cons okMul12 ctxL_nil
abbrev bv (b:Bool):AV:=.v1 (.sc (.bo b))
def VPw (k:Nat) (b:Bool):List AV:=[pt 0 0,pt 1 0,pt 2 0,pt 4 0,bv b,iv (predI k)]
def HPw (a:Nat->Nat->Nat) (e:Nat->Nat) (g:Nat->Nat->Nat):Heap:=[b12 a,nb e,b12 zz12,none,b12 g]
structure PwD where
 k:Nat
 b:Bool
 g:Nat->Nat->Nat
structure InvPw (z:S12) (e:Nat) (x:PwD):Prop where
 hk:x.k <= 384
 hg:Lt12 x.g
 hd:D12 x.g = z ^ (e / 2 ^ x.k)
 hb:x.b = false->e / 2 ^ x.k = 0
theorem InvPw.of {z:S12} {e k:Nat} {b:Bool} {g:Nat->Nat->Nat} (hk:k <= 384) (hg:Lt12 g) (hd:D12 g = z ^ (e / 2 ^ k)) (hb:e / 2 ^ k = 0):InvPw z e ⟨k,b,g⟩:=⟨hk,hg,hd,fun _=>hb⟩
abbrev m12 (x y:Nat->Nat->Nat):Nat->Nat->Nat:=sel12 (S12.mul (D12 x) (D12 y))
theorem okPow12:(CallC.pure cPw).Ok Try.prog 25:=by
 intro args pre v e hp
 unfold cPw at e
 split at e
 ·rename_i a0 a1 a2 a3 a4 a5 a6 a7 a8 a9 a10 a11 e
  cases e
  rename_i e
  have h0:nv a0 < pN:=hp _ (by simp)
  have h1:nv a1 < pN:=hp _ (by simp)
  have h2:nv a2 < pN:=hp _ (by simp)
  have h3:nv a3 < pN:=hp _ (by simp)
  have h4:nv a4 < pN:=hp _ (by simp)
  have h5:nv a5 < pN:=hp _ (by simp)
  have h6:nv a6 < pN:=hp _ (by simp)
  have h7:nv a7 < pN:=hp _ (by simp)
  have h8:nv a8 < pN:=hp _ (by simp)
  have h9:nv a9 < pN:=hp _ (by simp)
  have h10:nv a10 < pN:=hp _ (by simp)
  have h11:nv a11 < pN:=hp _ (by simp)
  refine pure_walk' tt_ok Try.func25 (by kernel_rfl) (by kernel_rfl) (by rfl) (by rfl) ?_
  obtain ⟨a,ha⟩:∃ a,a = of12 a0 a1 a2 a3 a4 a5 a6 a7 a8 a9 a10 a11:=⟨_,rfl⟩
  have la:Lt12 a:=by rw [ha];exact lt_of12 h0 h1 h2 h3 h4 h5 h6 h7 h8 h9 h10 h11
  have da:d12 a0 a1 a2 a3 a4 a5 a6 a7 a8 a9 a10 a11 = D12 a:=by rw [ha];rfl
  have cv:(AV.v1 (.agg [q6 a0,q6 a1,q6 a2,q6 a3,q6 a4,q6 a5,q6 a6,q6 a7,q6 a8,q6 a9,q6 a10,q6 a11])) = .v1 (.agg (cs12 a)):=by rw [ha];rfl
  rw [da,cv]
  refine loopF mixed tt_ok GPw_ok (by kernel_rfl) (ι:={x // InvPw (D12 a) (nv e) x}) [2,3,4,5,6,7] 32 5 (fun x=>VPw x.1.k x.1.b) (fun x=>HPw a e x.1.g) (fun x=>x.1.k) (fun x=>x.1.k = 0)
   (fun _=>rfl) (fun _=>by kernel_rfl) (fun _ _ h=>h.elim) 100 [] ?_ ?_ ?_
  ·refine same (p:=true = true/\∃ j:{x // InvPw (D12 a) (nv e) x},VPw E false = VPw j.1.k j.1.b/\HPw a e (of12 oneF fz fz fz fz fz fz fz fz fz fz fz) = HPw a e j.1.g) ?_ (by kernel_rfl)
   have h0:nv e / 2 ^ E = 0:=Nat.div_eq_of_lt (by rw [<-R_pow];exact nv_lt e)
   have hi:InvPw (D12 a) (nv e) ⟨E,false,of12 oneF fz fz fz fz fz fz fz fz fz fz fz⟩:=InvPw.of (Nat.le_of_eq E_eq) lt_one12 (by rw [h0,Rg.pow_zero];exact S12.one_d) h0
   exact ⟨rfl,⟨_,hi⟩,rfl,rfl⟩
  ·intro ⟨⟨k,b,g⟩,⟨hk,hg,hd,hb⟩⟩ junk
   simp only at hk hg hd hb
   cases k with
   | zero =>
    refine roundF mixed tt_ok GPw_ok 60 [] ?_
    refine same (p:=true = true/\∃ j:{x // InvPw (D12 a) (nv e) x},j.1.k = 0/\VPw 0 b = VPw j.1.k j.1.b/\HPw a e g = HPw a e j.1.g) ?_ (by kernel_rfl)
    exact ⟨rfl,⟨⟨0,b,g⟩,hk,hg,hd,hb⟩,rfl,rfl,rfl⟩
   | succ k =>
    have hk:k < 384:=by omega
    have h64:k / 64 < 6:=by omega
    have hge:(!ilt (Int.ofNat k) 0) = true:=by rw [ilt_not (by simp)];rfl
    have hs:wrapI (Int.ofNat k - 1) = predI k:=predI_eq (by omega)
    have hn:=div_next (nv e) k
    have next:∀ (b':Bool) (g':Nat->Nat->Nat),Lt12 g'->D12 g' = D12 a ^ (nv e / 2 ^ k)->(b' = false->nv e / 2 ^ k = 0)->∃ j:{x // InvPw (D12 a) (nv e) x},j.1.k < k + 1/\VPw k b' = VPw j.1.k j.1.b/\HPw a e g' = HPw a e j.1.g :=
     fun b' g' l' d' z'=>⟨⟨⟨k,b',g'⟩,Nat.le_of_lt hk,l',d',z'⟩,Nat.lt_succ_self k,rfl,rfl⟩
    have sq:S12.mul (D12 g) (D12 g) = D12 a ^ (2 * (nv e / 2 ^ (k + 1))):=by rw [hd,Nat.two_mul,Rg.pow_add];rfl
    have d2:∀ x:S12,S12.mul x (D12 a) = x * D12 a:=fun _=>rfl
    cases hbit:Nat.beq (nv e / 2 ^ k % 2) 1
    ·have h0:nv e / 2 ^ k % 2 = 0:=by
      have:nv e / 2 ^ k % 2 ≠ 1:=fun e'=>by rw [<-Nat.beq_eq,hbit] at e';cases e'
      omega
     rw [h0,Nat.add_zero] at hn
     cases b
     ·refine roundF mixed tt_ok GPw_ok 100 [⟨4,1,.lit (.bo true)⟩,⟨6,1,.lit (.it (Int.ofNat (k/64)))⟩,⟨6,2,.sym⟩,⟨6,3,.sym⟩,⟨6,5,.lit (.it (Int.ofNat (k%64)))⟩,⟨9,1,.lit (.bo false)⟩,⟨5,1,.lit (.it (predI k))⟩] ?_
      refine same (p:=(!ilt (Int.ofNat k) 0) = true/\wrapI ((Int.ofNat k).tdiv 64) = Int.ofNat (k / 64)/\ix (k / 64) 6 ((Int.ofNat k).tmod 64 = Int.ofNat (k % 64) /\
       Nat.beq ((e (k / 64) % W / 2 ^ min (k % 64) 64 &&& 1) % W) (1 % W) = false/\wrapI (Int.ofNat k - 1) = predI k/\true = true /\
       ∃ j:{x // InvPw (D12 a) (nv e) x},j.1.k < k + 1/\VPw k false = VPw j.1.k j.1.b/\HPw a e g = HPw a e j.1.g)) ?_ (by kernel_rfl)
      refine ⟨hge,tdiv64 ⟨k,hk⟩,ix_of h64 ⟨tmod64 ⟨k,hk⟩,by rw [bit_beq e hk,hbit],hs,rfl,next _ _ hg ?_ ?_⟩⟩
      ·rw [hd,hn,hb rfl,Nat.mul_zero]
      ·intro _;rw [hn,hb rfl]
     ·refine roundF mixed tt_ok GPw_ok 100 [⟨4,1,.lit (.bo true)⟩,⟨6,1,.lit (.it (Int.ofNat (k/64)))⟩,⟨6,2,.sym⟩,⟨6,3,.sym⟩,⟨6,5,.lit (.it (Int.ofNat (k%64)))⟩,⟨9,1,.lit (.bo false)⟩,⟨5,1,.lit (.it (predI k))⟩] ?_
      refine same (p:=(!ilt (Int.ofNat k) 0) = true/\wrapI ((Int.ofNat k).tdiv 64) = Int.ofNat (k / 64)/\ix (k / 64) 6 ((Int.ofNat k).tmod 64 = Int.ofNat (k % 64)/\lp (g 0)/\lp (g 1)/\lp (g 2)/\lp (g 3)/\lp (g 4)/\lp (g 5)/\lp (g 6)/\lp (g 7)/\lp (g 8)/\lp (g 9)/\lp (g 10)/\lp (g 11)/\lp (g 0)/\lp (g 1)/\lp (g 2)/\lp (g 3)/\lp (g 4)/\lp (g 5)/\lp (g 6)/\lp (g 7)/\lp (g 8)/\lp (g 9)/\lp (g 10)/\lp (g 11) /\
       Nat.beq ((e (k / 64) % W / 2 ^ min (k % 64) 64 &&& 1) % W) (1 % W) = false/\wrapI (Int.ofNat k - 1) = predI k/\true = true /\
       ∃ j:{x // InvPw (D12 a) (nv e) x},j.1.k < k + 1/\VPw k true = VPw j.1.k j.1.b/\HPw a e (m12 g g) = HPw a e j.1.g)) ?_ (by kernel_rfl)
      refine ⟨hge,tdiv64 ⟨k,hk⟩,ix_of h64 ⟨tmod64 ⟨k,hk⟩,hg 0 (by decide),hg 1 (by decide),hg 2 (by decide),hg 3 (by decide),hg 4 (by decide),hg 5 (by decide),hg 6 (by decide),hg 7 (by decide),hg 8 (by decide),hg 9 (by decide),hg 10 (by decide),hg 11 (by decide),hg 0 (by decide),hg 1 (by decide),hg 2 (by decide),hg 3 (by decide),hg 4 (by decide),hg 5 (by decide),hg 6 (by decide),hg 7 (by decide),hg 8 (by decide),hg 9 (by decide),hg 10 (by decide),hg 11 (by decide),by rw [bit_beq e hk,hbit],hs,rfl,next _ _ (lt_sel _) ?_ ?_⟩⟩
      ·rw [D12_sel,sq,hn]
      ·intro h;cases h
    ·have h0:nv e / 2 ^ k % 2 = 1:=by rw [Nat.beq_eq] at hbit;exact hbit
     rw [h0] at hn
     cases b
     ·refine roundF mixed tt_ok GPw_ok 100 [⟨4,1,.lit (.bo true)⟩,⟨6,1,.lit (.it (Int.ofNat (k/64)))⟩,⟨6,2,.sym⟩,⟨6,3,.sym⟩,⟨6,5,.lit (.it (Int.ofNat (k%64)))⟩,⟨9,1,.lit (.bo true)⟩,⟨5,1,.lit (.it (predI k))⟩] ?_
      refine same (p:=(!ilt (Int.ofNat k) 0) = true/\wrapI ((Int.ofNat k).tdiv 64) = Int.ofNat (k / 64)/\ix (k / 64) 6 ((Int.ofNat k).tmod 64 = Int.ofNat (k % 64) /\
       Nat.beq ((e (k / 64) % W / 2 ^ min (k % 64) 64 &&& 1) % W) (1 % W) = true/\lp (g 0)/\lp (g 1)/\lp (g 2)/\lp (g 3)/\lp (g 4)/\lp (g 5)/\lp (g 6)/\lp (g 7)/\lp (g 8)/\lp (g 9)/\lp (g 10)/\lp (g 11)/\lp (a 0)/\lp (a 1)/\lp (a 2)/\lp (a 3)/\lp (a 4)/\lp (a 5)/\lp (a 6)/\lp (a 7)/\lp (a 8)/\lp (a 9)/\lp (a 10)/\lp (a 11)/\wrapI (Int.ofNat k - 1) = predI k/\true = true /\
       ∃ j:{x // InvPw (D12 a) (nv e) x},j.1.k < k + 1/\VPw k true = VPw j.1.k j.1.b/\HPw a e (m12 g a) = HPw a e j.1.g)) ?_ (by kernel_rfl)
      refine ⟨hge,tdiv64 ⟨k,hk⟩,ix_of h64 ⟨tmod64 ⟨k,hk⟩,by rw [bit_beq e hk,hbit],hg 0 (by decide),hg 1 (by decide),hg 2 (by decide),hg 3 (by decide),hg 4 (by decide),hg 5 (by decide),hg 6 (by decide),hg 7 (by decide),hg 8 (by decide),hg 9 (by decide),hg 10 (by decide),hg 11 (by decide),la 0 (by decide),la 1 (by decide),la 2 (by decide),la 3 (by decide),la 4 (by decide),la 5 (by decide),la 6 (by decide),la 7 (by decide),la 8 (by decide),la 9 (by decide),la 10 (by decide),la 11 (by decide),hs,rfl,next _ _ (lt_sel _) ?_ ?_⟩⟩
      ·rw [D12_sel,d2,hd,hn,hb rfl,Nat.mul_zero,Nat.zero_add,Rg.pow_zero,Rg.pow_one,Rg.one_mul]
      ·intro h;cases h
     ·refine roundF mixed tt_ok GPw_ok 100 [⟨4,1,.lit (.bo true)⟩,⟨6,1,.lit (.it (Int.ofNat (k/64)))⟩,⟨6,2,.sym⟩,⟨6,3,.sym⟩,⟨6,5,.lit (.it (Int.ofNat (k%64)))⟩,⟨9,1,.lit (.bo true)⟩,⟨5,1,.lit (.it (predI k))⟩] ?_
      refine same (p:=(!ilt (Int.ofNat k) 0) = true/\wrapI ((Int.ofNat k).tdiv 64) = Int.ofNat (k / 64)/\ix (k / 64) 6 ((Int.ofNat k).tmod 64 = Int.ofNat (k % 64)/\lp (g 0)/\lp (g 1)/\lp (g 2)/\lp (g 3)/\lp (g 4)/\lp (g 5)/\lp (g 6)/\lp (g 7)/\lp (g 8)/\lp (g 9)/\lp (g 10)/\lp (g 11)/\lp (g 0)/\lp (g 1)/\lp (g 2)/\lp (g 3)/\lp (g 4)/\lp (g 5)/\lp (g 6)/\lp (g 7)/\lp (g 8)/\lp (g 9)/\lp (g 10)/\lp (g 11) /\
       Nat.beq ((e (k / 64) % W / 2 ^ min (k % 64) 64 &&& 1) % W) (1 % W) = true/\lp ((m12 g g) 0)/\lp ((m12 g g) 1)/\lp ((m12 g g) 2)/\lp ((m12 g g) 3)/\lp ((m12 g g) 4)/\lp ((m12 g g) 5)/\lp ((m12 g g) 6)/\lp ((m12 g g) 7)/\lp ((m12 g g) 8)/\lp ((m12 g g) 9)/\lp ((m12 g g) 10)/\lp ((m12 g g) 11)/\lp (a 0)/\lp (a 1)/\lp (a 2)/\lp (a 3)/\lp (a 4)/\lp (a 5)/\lp (a 6)/\lp (a 7)/\lp (a 8)/\lp (a 9)/\lp (a 10)/\lp (a 11)/\wrapI (Int.ofNat k - 1) = predI k/\true = true /\
       ∃ j:{x // InvPw (D12 a) (nv e) x},j.1.k < k + 1/\VPw k true = VPw j.1.k j.1.b/\HPw a e (m12 (m12 g g) a) = HPw a e j.1.g)) ?_ (by kernel_rfl)
      refine ⟨hge,tdiv64 ⟨k,hk⟩,ix_of h64 ⟨tmod64 ⟨k,hk⟩,hg 0 (by decide),hg 1 (by decide),hg 2 (by decide),hg 3 (by decide),hg 4 (by decide),hg 5 (by decide),hg 6 (by decide),hg 7 (by decide),hg 8 (by decide),hg 9 (by decide),hg 10 (by decide),hg 11 (by decide),hg 0 (by decide),hg 1 (by decide),hg 2 (by decide),hg 3 (by decide),hg 4 (by decide),hg 5 (by decide),hg 6 (by decide),hg 7 (by decide),hg 8 (by decide),hg 9 (by decide),hg 10 (by decide),hg 11 (by decide),by rw [bit_beq e hk,hbit],lt_sel _ 0 (by decide),lt_sel _ 1 (by decide),lt_sel _ 2 (by decide),lt_sel _ 3 (by decide),lt_sel _ 4 (by decide),lt_sel _ 5 (by decide),lt_sel _ 6 (by decide),lt_sel _ 7 (by decide),lt_sel _ 8 (by decide),lt_sel _ 9 (by decide),lt_sel _ 10 (by decide),lt_sel _ 11 (by decide),la 0 (by decide),la 1 (by decide),la 2 (by decide),la 3 (by decide),la 4 (by decide),la 5 (by decide),la 6 (by decide),la 7 (by decide),la 8 (by decide),la 9 (by decide),la 10 (by decide),la 11 (by decide),hs,rfl,next _ _ (lt_sel _) ?_ ?_⟩⟩
      ·rw [D12_sel,D12_sel,d2,sq,hn];exact (Rg.pow_succ _ _).symm
      ·intro h;cases h
  ·intro ⟨⟨k,b,g⟩,⟨hk,hg,hd,hb⟩⟩ junk h0
   simp only at hk hg hd h0
   subst h0
   refine same (p:=endN (.v1 (.agg (cs12 g))) (.v1 (e12 (D12 a ^ nv e)))) ?_ (by kernel_rfl)
   rw [Nat.pow_zero,Nat.div_one] at hd
   exact endN_12 hg hd
 ·cases e
end Go.Proofs.Ytnjocbcjejpklaa
namespace Go.Rq
open Go
structure J3 (F:Type) where
 x:F
 y:F
 z:F
namespace J3
variable {F:Type} [CR F]
def dbl (p:J3 F):J3 F :=
 let yy:=p.y * p.y
 let s1:=p.x * yy
 let s2:=s1 + s1
 let s:=s2 + s2
 let m1:=p.x * p.x
 let m:=(m1 + m1) + m1
 let x:=m * m - (s + s)
 let e1:=yy * yy
 let e2:=e1 + e1
 let e3:=e2 + e2
 let z1:=p.y * p.z
 ⟨x,m * (s - x) - (e3 + e3),z1 + z1⟩
def nil:J3 F:=⟨1,1,0⟩
def gen (p q:J3 F):J3 F :=
 let pp:=p.z * p.z
 let qq:=q.z * q.z
 let u:=p.x * qq
 let v:=q.x * pp
 let s:=p.y * (qq * q.z)
 let t:=q.y * (pp * p.z)
 let h:=v - u
 let r:=t - s
 let hh:=h * h
 let hhh:=hh * h
 let w:=u * hh
 let x:=(r * r - hhh) - (w + w)
 ⟨x,r * (w - x) - s * hhh,h * (p.z * q.z)⟩
def hh (p q:J3 F):F:=q.x * (p.z * p.z) - p.x * (q.z * q.z)
def rr (p q:J3 F):F:=q.y * ((p.z * p.z) * p.z) - p.y * ((q.z * q.z) * q.z)
variable [DecidableEq F]
def add (p q:J3 F):J3 F:=if p.z = 0 then q else if q.z = 0 then p else if hh p q = 0 then (if rr p q = 0 then dbl p else nil) else gen p q
def times (p:J3 F):Nat->Nat->J3 F
 | 0,_=>nil
 | k + 1,n=>if n % 2 = 1 then add (dbl (times p k (n / 2))) p else dbl (times p k (n / 2))
end J3
structure A2 (F:Type) where
 x:F
 y:F
 z:Bool
namespace A2
variable {F:Type} [CR F] [DecidableEq F]
def on (b:F) (p:A2 F):Bool:=bif p.z then (decide (p.x = 0) && decide (p.y = 0)) else decide (p.y * p.y = p.x * p.x * p.x + b)
def raise (p:A2 F):J3 F:=bif p.z then J3.nil else ⟨p.x,p.y,1⟩
def lower (inv:F->F) (p:J3 F):A2 F:=if p.z = 0 then ⟨0,0,true⟩ else ⟨p.x * (inv p.z * inv p.z),p.y * ((inv p.z * inv p.z) * inv p.z),false⟩
def mulJ (p:A2 F) (n:Nat):J3 F:=J3.times (raise p) (blen n) n
def isIn (b:F) (r:Nat) (p:A2 F):Bool:=on b p && decide ((mulJ p r).z = 0)
end A2
instance:DecidableEq F2p:=fun a b =>
 if h1:a.x = b.x then (if h2:a.y = b.y then .isTrue (F2p.ext h1 h2) else .isFalse fun e=>h2 (by rw [e])) else .isFalse fun e=>h1 (by rw [e])
end Go.Rq
namespace Go.Proofs.Ytnjocbcjejpklaa
open Go.Rq Go
set_option maxRecDepth 100000
def asP (u cs:List Cell):Prop:=∀ ρ:Ren,(V1.agg u).val ρ = (V1.agg cs).val ρ
theorem cv_nil:∀ ρ:Ren,cvals ρ [] = cvals ρ []:=fun _=>rfl
theorem cv_cons {f g:Nat->Nat} {cs ds:List Cell} (h:nv f = nv g) (r:∀ ρ:Ren,cvals ρ cs = cvals ρ ds):∀ ρ:Ren,cvals ρ (q6 f :: cs) = cvals ρ (q6 g :: ds):=fun ρ=>by
 have e:=nm_val h ρ
 simp only [AV.val,V1.val,cvals,List.append_nil] at e
 simp only [cvals]
 rw [r ρ]
 congr 1
 exact congrArg Array.toList (Value.agg.inj e)
theorem cv_one {s:Sc} {cs ds:List Cell} (r:∀ ρ:Ren,cvals ρ cs = cvals ρ ds):∀ ρ:Ren,cvals ρ (.one s :: cs) = cvals ρ (.one s :: ds):=fun ρ=>by
 simp only [cvals];rw [r ρ]
theorem endC {cs ds:List Cell} (h:∀ ρ:Ren,cvals ρ cs = cvals ρ ds):endN (.v1 (.agg cs)) (.v1 (.agg ds)):=⟨_,rfl,fun ρ=>by simp only [AV.val,V1.val,h ρ]⟩
theorem lt_zero:nv fz < pN:=by rw [zero_nv];exact pN_pos
theorem enc_0:enc 0 = 0:=(enc_of pN_pos (by rw [ofN_zero];show (0:Fp) = 0 * rr;rw [Fin.mul_comm];exact (Rg.mul_zero rr).symm)).symm
theorem dF_0:dF fz = 0:=by
 unfold dF
 rw [zero_nv,<-enc_0,dec_enc]
theorem nv_eF0:nv (eF 0) = 0:=by rw [nv_eF,enc_0]
theorem nv_one1:nv oneF = nv (eF 1):=by rw [one_enc,nv_eF]
theorem lt_one:nv oneF < pN:=by rw [one_enc];exact enc_lt 1
theorem nv_d {a:Nat->Nat} (h:nv a < pN):nv a = nv (eF (dF a)):=(eF_dF h).symm
theorem dF_inj {a b:Nat->Nat} (ha:nv a < pN) (hb:nv b < pN) (e:dF a = dF b):nv a = nv b:=by rw [nv_d ha,nv_d hb,e]
theorem eqE {a b:Nat->Nat} (ha:nv a < pN) (hb:nv b < pN):(eqN W 6 a b && true) = decide (dF a = dF b):=by
 rw [eqW_beq,Bool.eq_iff_iff,Nat.beq_eq,decide_eq_true_eq]
 exact ⟨fun e=>by unfold dF;rw [e],dF_inj ha hb⟩
theorem eqE_t {a b:Nat->Nat} (ha:nv a < pN) (hb:nv b < pN) (e:dF a = dF b):(eqN W 6 a b && true) = true:=by rw [eqE ha hb,e];exact decide_eq_true rfl
theorem eqE_f {a b:Nat->Nat} (ha:nv a < pN) (hb:nv b < pN) (e:dF a ≠ dF b):(eqN W 6 a b && true) = false:=by rw [eqE ha hb];exact decide_eq_false e
theorem zE_t {a:Nat->Nat} (ha:nv a < pN) (e:dF a = 0):(eqN W 6 a fz && true) = true:=eqE_t ha lt_zero (by rw [e,dF_0])
theorem zE_f {a:Nat->Nat} (ha:nv a < pN) (e:dF a ≠ 0):(eqN W 6 a fz && true) = false:=eqE_f ha lt_zero (by rw [dF_0];exact e)
theorem eqQ {a b c d:Nat->Nat} (ha:nv a < pN) (hb:nv b < pN) (hc:nv c < pN) (hd:nv d < pN):(eqN W 6 a c && (eqN W 6 b d && true)) = decide ((⟨dF a,dF b⟩:F2p) = ⟨dF c,dF d⟩):=by
 rw [eqE hb hd]
 have:=eqE ha hc
 rw [Bool.and_true] at this
 rw [this,Bool.eq_iff_iff,Bool.and_eq_true,decide_eq_true_eq,decide_eq_true_eq,decide_eq_true_eq,F2p.mk.injEq]
theorem eqQ_t {a b c d:Nat->Nat} (ha:nv a < pN) (hb:nv b < pN) (hc:nv c < pN) (hd:nv d < pN) (e:(⟨dF a,dF b⟩:F2p) = ⟨dF c,dF d⟩):(eqN W 6 a c && (eqN W 6 b d && true)) = true:=by rw [eqQ ha hb hc hd];exact decide_eq_true e
theorem eqQ_f {a b c d:Nat->Nat} (ha:nv a < pN) (hb:nv b < pN) (hc:nv c < pN) (hd:nv d < pN) (e:(⟨dF a,dF b⟩:F2p) ≠ ⟨dF c,dF d⟩):(eqN W 6 a c && (eqN W 6 b d && true)) = false:=by rw [eqQ ha hb hc hd];exact decide_eq_false e
theorem zQ_t {a b:Nat->Nat} (ha:nv a < pN) (hb:nv b < pN) (e:(⟨dF a,dF b⟩:F2p) = 0):(eqN W 6 a fz && (eqN W 6 b fz && true)) = true:=eqQ_t ha hb lt_zero lt_zero (by rw [e,dF_0];rfl)
theorem zQ_f {a b:Nat->Nat} (ha:nv a < pN) (hb:nv b < pN) (e:(⟨dF a,dF b⟩:F2p) ≠ 0):(eqN W 6 a fz && (eqN W 6 b fz && true)) = false:=eqQ_f ha hb lt_zero lt_zero (by rw [dF_0];exact e)
def F2p.sc (a:F2p) (n:Fp):F2p:=⟨a.x * n,a.y * n⟩
def F2p.ng' (a:F2p):F2p:=⟨0 - a.x,0 - a.y⟩
abbrev cells12 (s:S12):List Cell:=(eC12 s)
theorem d12_eF (s:S12):d12 (eF s.p.u.x) (eF s.p.u.y) (eF s.q.u.x) (eF s.q.u.y) (eF s.p.v.x) (eF s.p.v.y) (eF s.q.v.x) (eF s.q.v.y) (eF s.p.w.x) (eF s.p.w.y) (eF s.q.w.x) (eF s.q.w.y) = s:=by
 unfold d12 d6
 simp only [dF_eF]
theorem asE {f g:Nat->Nat} (h:f = g):asP [q6 f] [q6 g]:=fun ρ=>by rw [h]
theorem asQ {f g f' g':Nat->Nat} (h:f = g) (h':f' = g'):asP [q6 f,q6 f'] [q6 g,q6 g']:=fun ρ=>by rw [h,h']
section
variable {A B C D:Nat->Nat}
theorem as_mulE {s u t:Fp} (a:dF A = s) (b:dF B = u) (h:t = s * u):asP [q6 (eF (eMul (dF A) (dF B)))] [q6 (eF t)]:=asE (by rw [a,b,h];rfl)
theorem as_addE {s u t:Fp} (a:dF A = s) (b:dF B = u) (h:t = s + u):asP [q6 (eF (eAdd (dF A) (dF B)))] [q6 (eF t)]:=asE (by rw [a,b,h];rfl)
theorem as_subE {s u t:Fp} (a:dF A = s) (b:dF B = u) (h:t = s - u):asP [q6 (eF (eSub (dF A) (dF B)))] [q6 (eF t)]:=asE (by rw [a,b,h];rfl)
theorem as_invE {s t:Fp} (a:dF A = s) (h:t = eInv s):asP [q6 (eF (eInv (dF A)))] [q6 (eF t)]:=asE (by rw [a,h])
theorem as_mulQ {s u t:F2p} (a:dF A = s.x) (b:dF B = s.y) (c:dF C = u.x) (d:dF D = u.y) (h:t = s * u):asP (eD4 mul2x mul2y (dF A) (dF B) (dF C) (dF D)) (eC2 t):=asQ (by rw [a,b,c,d,h];rfl) (by rw [a,b,c,d,h];rfl)
theorem as_addQ {s u t:F2p} (a:dF A = s.x) (b:dF B = s.y) (c:dF C = u.x) (d:dF D = u.y) (h:t = s + u):asP (eD4 add2x add2y (dF A) (dF B) (dF C) (dF D)) (eC2 t):=asQ (by rw [a,b,c,d,h];rfl) (by rw [a,b,c,d,h];rfl)
theorem as_subQ {s u t:F2p} (a:dF A = s.x) (b:dF B = s.y) (c:dF C = u.x) (d:dF D = u.y) (h:t = s - u):asP (eD4 sub2x sub2y (dF A) (dF B) (dF C) (dF D)) (eC2 t):=asQ (by rw [a,b,c,d,h];rfl) (by rw [a,b,c,d,h];rfl)
theorem as_invQ {s t:F2p} (a:dF A = s.x) (b:dF B = s.y) (h:t = F2p.inv s):asP [q6 (eF (inv2x (dF A) (dF B))),q6 (eF (inv2y (dF A) (dF B)))] (eC2 t):=asQ (by rw [a,b,h];rfl) (by rw [a,b,h];rfl)
theorem as_negQ {s t:F2p} (a:dF A = s.x) (b:dF B = s.y) (h:t = F2p.ng' s):asP [q6 (eF (neg2x (dF A) (dF B))),q6 (eF (neg2y (dF A) (dF B)))] (eC2 t):=asQ (by rw [a,b,h];rfl) (by rw [a,b,h];rfl)
theorem as_scaleQ {s t:F2p} {n:Fp} (a:dF A = s.x) (b:dF B = s.y) (c:dF C = n) (h:t = F2p.sc s n):asP [q6 (eF (sc2x (dF A) (dF B) (dF C))),q6 (eF (sc2y (dF A) (dF B) (dF C)))] (eC2 t):=asQ (by rw [a,b,c,h];rfl) (by rw [a,b,c,h];rfl)
end
def of3 (a b c:Nat->Nat):Nat->Nat->Nat
 | 0=>a
 | 1=>b
 | _=>c
def of6 (a b c d e f:Nat->Nat):Nat->Nat->Nat
 | 0=>a
 | 1=>b
 | 2=>c
 | 3=>d
 | 4=>e
 | _=>f
abbrev csE (g:Nat->Nat->Nat):List Cell:=[q6 (g 0),q6 (g 1),q6 (g 2)]
abbrev csQ (g:Nat->Nat->Nat):List Cell:=[q6 (g 0),q6 (g 1),q6 (g 2),q6 (g 3),q6 (g 4),q6 (g 5)]
def JvE (g:Nat->Nat->Nat):J3 Fp:=⟨dF (g 0),dF (g 1),dF (g 2)⟩
def JvQ (g:Nat->Nat->Nat):J3 F2p:=⟨⟨dF (g 0),dF (g 1)⟩,⟨dF (g 2),dF (g 3)⟩,⟨dF (g 4),dF (g 5)⟩⟩
def selE (p:J3 Fp):Nat->Nat->Nat:=of3 (eF p.x) (eF p.y) (eF p.z)
def selQ (p:J3 F2p):Nat->Nat->Nat:=of6 (eF p.x.x) (eF p.x.y) (eF p.y.x) (eF p.y.y) (eF p.z.x) (eF p.z.y)
theorem JvE_sel (p:J3 Fp):JvE (selE p) = p:=by
 show (⟨dF (eF p.x),dF (eF p.y),dF (eF p.z)⟩:J3 Fp) = p
 rw [dF_eF,dF_eF,dF_eF]
theorem JvQ_sel (p:J3 F2p):JvQ (selQ p) = p:=by
 show (⟨⟨dF (eF p.x.x),dF (eF p.x.y)⟩,⟨dF (eF p.y.x),dF (eF p.y.y)⟩,⟨dF (eF p.z.x),dF (eF p.z.y)⟩⟩:J3 F2p) = p
 rw [dF_eF,dF_eF,dF_eF,dF_eF,dF_eF,dF_eF]
def LtE (g:Nat->Nat->Nat):Prop:=nv (g 0) < pN/\nv (g 1) < pN/\nv (g 2) < pN
def LtQ (g:Nat->Nat->Nat):Prop:=nv (g 0) < pN/\nv (g 1) < pN/\nv (g 2) < pN/\nv (g 3) < pN/\nv (g 4) < pN/\nv (g 5) < pN
theorem LtE_of {a b c:Nat->Nat} (ha:nv a < pN) (hb:nv b < pN) (hc:nv c < pN):LtE (of3 a b c):=⟨ha,hb,hc⟩
theorem LtQ_of {a b c d e f:Nat->Nat} (ha:nv a < pN) (hb:nv b < pN) (hc:nv c < pN) (hd:nv d < pN) (he:nv e < pN) (hf:nv f < pN):LtQ (of6 a b c d e f):=⟨ha,hb,hc,hd,he,hf⟩
theorem on_f {F:Type} [CR F] [DecidableEq F] (b x y:F):A2.on b ⟨x,y,false⟩ = decide (y * y = x * x * x + b):=rfl
theorem on_t {F:Type} [CR F] [DecidableEq F] (b x y:F):A2.on b ⟨x,y,true⟩ = (decide (x = 0) && decide (y = 0)):=rfl
theorem JvE_of {a b c:Nat->Nat}:JvE (of3 a b c) = ⟨dF a,dF b,dF c⟩:=rfl
theorem JvQ_of {a b c d e f:Nat->Nat}:JvQ (of6 a b c d e f) = ⟨⟨dF a,dF b⟩,⟨dF c,dF d⟩,⟨dF e,dF f⟩⟩:=rfl
theorem LtE_sel (p:J3 Fp):LtE (selE p):=⟨lt_eF _,lt_eF _,lt_eF _⟩
theorem LtQ_sel (p:J3 F2p):LtQ (selQ p):=⟨lt_eF _,lt_eF _,lt_eF _,lt_eF _,lt_eF _,lt_eF _⟩
theorem one_Q:(⟨dF oneF,dF fz⟩:F2p) = 1:=by rw [dF_one,dF_0];rfl
theorem zero_Q:(⟨dF fz,dF fz⟩:F2p) = 0:=by rw [dF_0];rfl
theorem blen_le' (e:Nat->Nat):blen (nv e) <= 384:=by
 have:=nv_lt e;rw [R_pow] at this
 have:=blen_lt this;rw [E_eq] at this;exact this
theorem ilt_nn2 (k:Nat):(!ilt (Int.ofNat k) 0) = true:=by rw [ilt_not (by simp)];rfl
theorem endB {b c:Bool} (h:b = c):endN (.v1 (.sc (.bo b))) (.v1 (.sc (.bo c))):=⟨_,rfl,fun _=>by rw [h]⟩
theorem nilQ:(J3.nil:J3 F2p) = ⟨1,1,0⟩:=rfl
theorem nilE:(J3.nil:J3 Fp) = ⟨1,1,0⟩:=rfl
theorem q1x:nv oneF = nv (eF (1:F2p).x):=by rw [F2p.one_x];exact nv_one1
theorem q1y:nv fz = nv (eF (1:F2p).y):=by rw [F2p.one_y,nv_eF0,zero_nv]
theorem q0x:nv fz = nv (eF (0:F2p).x):=by rw [F2p.zero_x,nv_eF0,zero_nv]
theorem q0y:nv fz = nv (eF (0:F2p).y):=by rw [F2p.zero_y,nv_eF0,zero_nv]
theorem e0x:nv fz = nv (eF 0):=by rw [nv_eF0,zero_nv]
theorem nv_t {s t:Fp} (h:s = t):nv (eF s) = nv (eF t):=by rw [h]
theorem nv_tx {s t:F2p} (h:s = t):nv (eF s.x) = nv (eF t.x):=by rw [h]
theorem nv_ty {s t:F2p} (h:s = t):nv (eF s.y) = nv (eF t.y):=by rw [h]
end Go.Proofs.Ytnjocbcjejpklaa
namespace Go.Proofs.Ytnjocbcjejpklaa
open Go.Rq Go
set_option maxRecDepth 100000
set_option maxHeartbeats 4000000
abbrev fdE:List Cell:=[.one (.fn 57 []),.one (.fn 58 []),.one (.fn 59 []),.one (.fn 60 []),q6 oneF,q6 (eF (ofN (nv (wd (4 % W)))))]
def jE1 (F:J3 Fp->J3 Fp):List AV->Option (List Prop × AV)
 | [.v1 (.agg cs),.v1 (.agg [.ws .u64 6 x,.ws .u64 6 y,.ws .u64 6 z])]=>some ([cs = fdE,nv x < pN,nv y < pN,nv z < pN],.v1 (.agg [q6 (eF (F (⟨(dF x),(dF y),(dF z)⟩:J3 Fp)).x),q6 (eF (F (⟨(dF x),(dF y),(dF z)⟩:J3 Fp)).y),q6 (eF (F (⟨(dF x),(dF y),(dF z)⟩:J3 Fp)).z)]))
 | _=>none
def jE2 (F:J3 Fp->J3 Fp->J3 Fp):List AV->Option (List Prop × AV)
 | [.v1 (.agg cs),.v1 (.agg [.ws .u64 6 x,.ws .u64 6 y,.ws .u64 6 z]),.v1 (.agg [.ws .u64 6 u,.ws .u64 6 v,.ws .u64 6 w])]=>some ([cs = fdE,nv x < pN,nv y < pN,nv z < pN,nv u < pN,nv v < pN,nv w < pN],.v1 (.agg [q6 (eF (F (⟨(dF x),(dF y),(dF z)⟩:J3 Fp) (⟨(dF u),(dF v),(dF w)⟩:J3 Fp)).x),q6 (eF (F (⟨(dF x),(dF y),(dF z)⟩:J3 Fp) (⟨(dF u),(dF v),(dF w)⟩:J3 Fp)).y),q6 (eF (F (⟨(dF x),(dF y),(dF z)⟩:J3 Fp) (⟨(dF u),(dF v),(dF w)⟩:J3 Fp)).z)]))
 | _=>none
def GCE:List (Nat × CallC):=[(57,.pure (el2 eAdd)),(58,.pure (el2 eSub)),(59,.pure (cEMul)),(60,.pure (el1 eInv))]
theorem GCE_ok:CtxOk Try.prog (ctxL GCE):=ctxL_cons okEAdd <| ctxL_cons okESub <| ctxL_cons okEMul <| ctxL_cons okEInv ctxL_nil
theorem okTwE:(CallC.pure (jE1 J3.dbl)).Ok Try.prog 86:=by
 intro args pre v e hp
 unfold jE1 at e
 split at e
 rotate_left
 ·cases e
 rename_i cs x y z
 cases e
 have hcs:cs = fdE:=hp _ (by simp)
 subst hcs
 have hx:nv x < pN:=hp (nv x < pN) (by simp)
 have hy:nv y < pN:=hp (nv y < pN) (by simp)
 have hz:nv z < pN:=hp (nv z < pN) (by simp)
 refine pure_walk' tt_ok Try.func86 (by kernel_rfl) (by kernel_rfl) (by rfl) (by rfl) ?_
 obtain ⟨t1,ht1⟩:∃ q_:Fp,q_ = (dF y) * (dF y):=⟨_,rfl⟩
 obtain ⟨t2,ht2⟩:∃ q_:Fp,q_ = (dF x) * t1:=⟨_,rfl⟩
 obtain ⟨t3,ht3⟩:∃ q_:Fp,q_ = t2 + t2:=⟨_,rfl⟩
 obtain ⟨t4,ht4⟩:∃ q_:Fp,q_ = t3 + t3:=⟨_,rfl⟩
 obtain ⟨t5,ht5⟩:∃ q_:Fp,q_ = (dF x) * (dF x):=⟨_,rfl⟩
 obtain ⟨t6,ht6⟩:∃ q_:Fp,q_ = t5 + t5:=⟨_,rfl⟩
 obtain ⟨t7,ht7⟩:∃ q_:Fp,q_ = t6 + t5:=⟨_,rfl⟩
 obtain ⟨t8,ht8⟩:∃ q_:Fp,q_ = t7 * t7:=⟨_,rfl⟩
 obtain ⟨t9,ht9⟩:∃ q_:Fp,q_ = t4 + t4:=⟨_,rfl⟩
 obtain ⟨t10,ht10⟩:∃ q_:Fp,q_ = t8 - t9:=⟨_,rfl⟩
 obtain ⟨t11,ht11⟩:∃ q_:Fp,q_ = t1 * t1:=⟨_,rfl⟩
 obtain ⟨t12,ht12⟩:∃ q_:Fp,q_ = t11 + t11:=⟨_,rfl⟩
 obtain ⟨t13,ht13⟩:∃ q_:Fp,q_ = t12 + t12:=⟨_,rfl⟩
 obtain ⟨t14,ht14⟩:∃ q_:Fp,q_ = t13 + t13:=⟨_,rfl⟩
 obtain ⟨t15,ht15⟩:∃ q_:Fp,q_ = (dF y) * (dF z):=⟨_,rfl⟩
 obtain ⟨t16,ht16⟩:∃ q_:Fp,q_ = t4 - t10:=⟨_,rfl⟩
 obtain ⟨t17,ht17⟩:∃ q_:Fp,q_ = t7 * t16:=⟨_,rfl⟩
 obtain ⟨t18,ht18⟩:∃ q_:Fp,q_ = t17 - t14:=⟨_,rfl⟩
 obtain ⟨t19,ht19⟩:∃ q_:Fp,q_ = t15 + t15:=⟨_,rfl⟩
 refine evS_q mixed tt_ok GCE_ok 200 [⟨1,6,.as [q6 (eF t1)]⟩,⟨2,5,.as [q6 (eF t2)]⟩,⟨3,4,.as [q6 (eF t3)]⟩,⟨4,4,.as [q6 (eF t4)]⟩,⟨5,6,.as [q6 (eF t5)]⟩,⟨6,6,.as [q6 (eF t6)]⟩,⟨6,8,.as [q6 (eF t7)]⟩,⟨7,6,.as [q6 (eF t8)]⟩,⟨7,11,.as [q6 (eF t9)]⟩,⟨7,12,.as [q6 (eF t10)]⟩,⟨8,4,.as [q6 (eF t11)]⟩,⟨9,4,.as [q6 (eF t12)]⟩,⟨10,4,.as [q6 (eF t13)]⟩,⟨11,4,.as [q6 (eF t14)]⟩,⟨12,6,.as [q6 (eF t15)]⟩,⟨13,10,.as [q6 (eF t16)]⟩,⟨13,11,.as [q6 (eF t17)]⟩,⟨13,13,.as [q6 (eF t18)]⟩,⟨13,18,.as [q6 (eF t19)]⟩] ?_
 refine same (p:=asP [q6 (eF (eMul (dF y) (dF y)))] [q6 (eF t1)]/\lp y/\asP [q6 (eF (eMul (dF x) (dF (eF t1))))] [q6 (eF t2)]/\lp x/\asP [q6 (eF (eAdd (dF (eF t2)) (dF (eF t2))))] [q6 (eF t3)]/\lp (eF t2)/\lp (eF t2)/\asP [q6 (eF (eAdd (dF (eF t3)) (dF (eF t3))))] [q6 (eF t4)]/\lp (eF t3)/\lp (eF t3)/\asP [q6 (eF (eMul (dF x) (dF x)))] [q6 (eF t5)]/\lp x/\asP [q6 (eF (eAdd (dF (eF t5)) (dF (eF t5))))] [q6 (eF t6)]/\lp (eF t5)/\lp (eF t5)/\asP [q6 (eF (eAdd (dF (eF t6)) (dF (eF t5))))] [q6 (eF t7)]/\lp (eF t6)/\lp (eF t5)/\asP [q6 (eF (eMul (dF (eF t7)) (dF (eF t7))))] [q6 (eF t8)]/\lp (eF t7)/\asP [q6 (eF (eAdd (dF (eF t4)) (dF (eF t4))))] [q6 (eF t9)]/\lp (eF t4)/\lp (eF t4)/\asP [q6 (eF (eSub (dF (eF t8)) (dF (eF t9))))] [q6 (eF t10)]/\lp (eF t8)/\lp (eF t9)/\asP [q6 (eF (eMul (dF (eF t1)) (dF (eF t1))))] [q6 (eF t11)]/\lp (eF t1)/\asP [q6 (eF (eAdd (dF (eF t11)) (dF (eF t11))))] [q6 (eF t12)]/\lp (eF t11)/\lp (eF t11)/\asP [q6 (eF (eAdd (dF (eF t12)) (dF (eF t12))))] [q6 (eF t13)]/\lp (eF t12)/\lp (eF t12)/\asP [q6 (eF (eAdd (dF (eF t13)) (dF (eF t13))))] [q6 (eF t14)]/\lp (eF t13)/\lp (eF t13)/\asP [q6 (eF (eMul (dF y) (dF z)))] [q6 (eF t15)]/\lp y/\asP [q6 (eF (eSub (dF (eF t4)) (dF (eF t10))))] [q6 (eF t16)]/\lp (eF t4)/\lp (eF t10)/\asP [q6 (eF (eMul (dF (eF t7)) (dF (eF t16))))] [q6 (eF t17)]/\lp (eF t7)/\asP [q6 (eF (eSub (dF (eF t17)) (dF (eF t14))))] [q6 (eF t18)]/\lp (eF t17)/\lp (eF t14)/\asP [q6 (eF (eAdd (dF (eF t15)) (dF (eF t15))))] [q6 (eF t19)]/\lp (eF t15)/\lp (eF t15)/\endN (.v1 (.agg [q6 (eF t10),q6 (eF t18),q6 (eF t19)])) (.v1 (.agg [q6 (eF (J3.dbl (⟨(dF x),(dF y),(dF z)⟩:J3 Fp)).x),q6 (eF (J3.dbl (⟨(dF x),(dF y),(dF z)⟩:J3 Fp)).y),q6 (eF (J3.dbl (⟨(dF x),(dF y),(dF z)⟩:J3 Fp)).z)]))) ?_ (by kernel_rfl)
 exact ⟨as_mulE rfl rfl ht1,hy,as_mulE rfl (dF_eF _) ht2,hx,as_addE (dF_eF _) (dF_eF _) ht3,lt_eF _,lt_eF _,as_addE (dF_eF _) (dF_eF _) ht4,lt_eF _,lt_eF _,as_mulE rfl rfl ht5,hx,as_addE (dF_eF _) (dF_eF _) ht6,lt_eF _,lt_eF _,as_addE (dF_eF _) (dF_eF _) ht7,lt_eF _,lt_eF _,as_mulE (dF_eF _) (dF_eF _) ht8,lt_eF _,as_addE (dF_eF _) (dF_eF _) ht9,lt_eF _,lt_eF _,as_subE (dF_eF _) (dF_eF _) ht10,lt_eF _,lt_eF _,as_mulE (dF_eF _) (dF_eF _) ht11,lt_eF _,as_addE (dF_eF _) (dF_eF _) ht12,lt_eF _,lt_eF _,as_addE (dF_eF _) (dF_eF _) ht13,lt_eF _,lt_eF _,as_addE (dF_eF _) (dF_eF _) ht14,lt_eF _,lt_eF _,as_mulE rfl rfl ht15,hy,as_subE (dF_eF _) (dF_eF _) ht16,lt_eF _,lt_eF _,as_mulE (dF_eF _) (dF_eF _) ht17,lt_eF _,as_subE (dF_eF _) (dF_eF _) ht18,lt_eF _,lt_eF _,as_addE (dF_eF _) (dF_eF _) ht19,lt_eF _,lt_eF _,endC (cv_cons (nv_t (by subst ht19 ht18 ht17 ht16 ht15 ht14 ht13 ht12 ht11 ht10 ht9 ht8 ht7 ht6 ht5 ht4 ht3 ht2 ht1;rfl)) (cv_cons (nv_t (by subst ht19 ht18 ht17 ht16 ht15 ht14 ht13 ht12 ht11 ht10 ht9 ht8 ht7 ht6 ht5 ht4 ht3 ht2 ht1;rfl)) (cv_cons (nv_t (by subst ht19 ht18 ht17 ht16 ht15 ht14 ht13 ht12 ht11 ht10 ht9 ht8 ht7 ht6 ht5 ht4 ht3 ht2 ht1;rfl)) (cv_nil))))⟩
def GSE:List (Nat × CallC):=(86,.pure (jE1 J3.dbl)) :: GCE
theorem GSE_ok:CtxOk Try.prog (ctxL GSE):=ctxL_cons okTwE GCE_ok
theorem okSmE:(CallC.pure (jE2 J3.add)).Ok Try.prog 87:=by
 intro args pre v e hp
 unfold jE2 at e
 split at e
 rotate_left
 ·cases e
 rename_i cs x y z u v w
 cases e
 have hcs:cs = fdE:=hp _ (by simp)
 subst hcs
 have hx:nv x < pN:=hp (nv x < pN) (by simp)
 have hy:nv y < pN:=hp (nv y < pN) (by simp)
 have hz:nv z < pN:=hp (nv z < pN) (by simp)
 have hu:nv u < pN:=hp (nv u < pN) (by simp)
 have hv:nv v < pN:=hp (nv v < pN) (by simp)
 have hw:nv w < pN:=hp (nv w < pN) (by simp)
 refine pure_walk' tt_ok Try.func87 (by kernel_rfl) (by kernel_rfl) (by rfl) (by rfl) ?_
 by_cases hZZ:(dF z) = 0
 ·have hadd:J3.add (⟨(dF x),(dF y),(dF z)⟩:J3 Fp) (⟨(dF u),(dF v),(dF w)⟩:J3 Fp) = (⟨(dF u),(dF v),(dF w)⟩:J3 Fp):=if_pos hZZ
  rw [hadd]
  refine evS_q mixed tt_ok GSE_ok 100 [⟨2,3,.lit (.bo true)⟩] ?_
  refine same (p:=(eqN W 6 z fz && true) = true/\endN (.v1 (.agg [q6 u,q6 v,q6 w])) (.v1 (.agg [q6 (eF ((⟨(dF u),(dF v),(dF w)⟩:J3 Fp)).x),q6 (eF ((⟨(dF u),(dF v),(dF w)⟩:J3 Fp)).y),q6 (eF ((⟨(dF u),(dF v),(dF w)⟩:J3 Fp)).z)]))) ?_ (by kernel_rfl)
  exact ⟨zE_t hz hZZ,endC (cv_cons (nv_d hu) (cv_cons (nv_d hv) (cv_cons (nv_d hw) (cv_nil))))⟩
 ·by_cases hWW:(dF w) = 0
  ·have hadd:J3.add (⟨(dF x),(dF y),(dF z)⟩:J3 Fp) (⟨(dF u),(dF v),(dF w)⟩:J3 Fp) = (⟨(dF x),(dF y),(dF z)⟩:J3 Fp):=(if_neg hZZ).trans (if_pos hWW)
   rw [hadd]
   refine evS_q mixed tt_ok GSE_ok 100 [⟨2,3,.lit (.bo false)⟩,⟨4,3,.lit (.bo true)⟩] ?_
   refine same (p:=(eqN W 6 z fz && true) = false/\(eqN W 6 w fz && true) = true/\endN (.v1 (.agg [q6 x,q6 y,q6 z])) (.v1 (.agg [q6 (eF ((⟨(dF x),(dF y),(dF z)⟩:J3 Fp)).x),q6 (eF ((⟨(dF x),(dF y),(dF z)⟩:J3 Fp)).y),q6 (eF ((⟨(dF x),(dF y),(dF z)⟩:J3 Fp)).z)]))) ?_ (by kernel_rfl)
   exact ⟨zE_f hz hZZ,zE_t hw hWW,endC (cv_cons (nv_d hx) (cv_cons (nv_d hy) (cv_cons (nv_d hz) (cv_nil))))⟩
  ·have hadd0:J3.add (⟨(dF x),(dF y),(dF z)⟩:J3 Fp) (⟨(dF u),(dF v),(dF w)⟩:J3 Fp) = if J3.hh (⟨(dF x),(dF y),(dF z)⟩:J3 Fp) (⟨(dF u),(dF v),(dF w)⟩:J3 Fp) = 0 then (if J3.rr (⟨(dF x),(dF y),(dF z)⟩:J3 Fp) (⟨(dF u),(dF v),(dF w)⟩:J3 Fp) = 0 then J3.dbl (⟨(dF x),(dF y),(dF z)⟩:J3 Fp) else J3.nil) else J3.gen (⟨(dF x),(dF y),(dF z)⟩:J3 Fp) (⟨(dF u),(dF v),(dF w)⟩:J3 Fp):=(if_neg hZZ).trans (if_neg hWW)
   by_cases hh0:J3.hh (⟨(dF x),(dF y),(dF z)⟩:J3 Fp) (⟨(dF u),(dF v),(dF w)⟩:J3 Fp) = 0
   ·by_cases hr0:J3.rr (⟨(dF x),(dF y),(dF z)⟩:J3 Fp) (⟨(dF u),(dF v),(dF w)⟩:J3 Fp) = 0
    ·have hadd:J3.add (⟨(dF x),(dF y),(dF z)⟩:J3 Fp) (⟨(dF u),(dF v),(dF w)⟩:J3 Fp) = J3.dbl (⟨(dF x),(dF y),(dF z)⟩:J3 Fp):=hadd0.trans ((if_pos hh0).trans (if_pos hr0))
     rw [hadd]
     obtain ⟨t1,ht1⟩:∃ q_:Fp,q_ = (dF z) * (dF z):=⟨_,rfl⟩
     obtain ⟨t2,ht2⟩:∃ q_:Fp,q_ = (dF w) * (dF w):=⟨_,rfl⟩
     obtain ⟨t3,ht3⟩:∃ q_:Fp,q_ = (dF x) * t2:=⟨_,rfl⟩
     obtain ⟨t4,ht4⟩:∃ q_:Fp,q_ = (dF u) * t1:=⟨_,rfl⟩
     obtain ⟨t5,ht5⟩:∃ q_:Fp,q_ = t2 * (dF w):=⟨_,rfl⟩
     obtain ⟨t6,ht6⟩:∃ q_:Fp,q_ = (dF y) * t5:=⟨_,rfl⟩
     obtain ⟨t7,ht7⟩:∃ q_:Fp,q_ = t1 * (dF z):=⟨_,rfl⟩
     obtain ⟨t8,ht8⟩:∃ q_:Fp,q_ = (dF v) * t7:=⟨_,rfl⟩
     obtain ⟨t9,ht9⟩:∃ q_:Fp,q_ = t4 - t3:=⟨_,rfl⟩
     obtain ⟨t10,ht10⟩:∃ q_:Fp,q_ = t8 - t6:=⟨_,rfl⟩
     refine evS_q mixed tt_ok GSE_ok 200 [⟨2,3,.lit (.bo false)⟩,⟨4,3,.lit (.bo false)⟩,⟨6,6,.as [q6 (eF t1)]⟩,⟨6,13,.as [q6 (eF t2)]⟩,⟨7,5,.as [q6 (eF t3)]⟩,⟨7,11,.as [q6 (eF t4)]⟩,⟨8,9,.as [q6 (eF t5)]⟩,⟨8,10,.as [q6 (eF t6)]⟩,⟨8,20,.as [q6 (eF t7)]⟩,⟨8,21,.as [q6 (eF t8)]⟩,⟨9,4,.as [q6 (eF t9)]⟩,⟨9,9,.as [q6 (eF t10)]⟩,⟨10,2,.lit (.bo true)⟩,⟨11,2,.lit (.bo true)⟩] ?_
     refine same (p:=(eqN W 6 z fz && true) = false/\(eqN W 6 w fz && true) = false/\asP [q6 (eF (eMul (dF z) (dF z)))] [q6 (eF t1)]/\lp z/\asP [q6 (eF (eMul (dF w) (dF w)))] [q6 (eF t2)]/\lp w/\asP [q6 (eF (eMul (dF x) (dF (eF t2))))] [q6 (eF t3)]/\lp x/\asP [q6 (eF (eMul (dF u) (dF (eF t1))))] [q6 (eF t4)]/\lp u/\asP [q6 (eF (eMul (dF (eF t2)) (dF w)))] [q6 (eF t5)]/\lp (eF t2)/\asP [q6 (eF (eMul (dF y) (dF (eF t5))))] [q6 (eF t6)]/\lp y/\asP [q6 (eF (eMul (dF (eF t1)) (dF z)))] [q6 (eF t7)]/\lp (eF t1)/\asP [q6 (eF (eMul (dF v) (dF (eF t7))))] [q6 (eF t8)]/\lp v/\asP [q6 (eF (eSub (dF (eF t4)) (dF (eF t3))))] [q6 (eF t9)]/\lp (eF t4)/\lp (eF t3)/\asP [q6 (eF (eSub (dF (eF t8)) (dF (eF t6))))] [q6 (eF t10)]/\lp (eF t8)/\lp (eF t6)/\(eqN W 6 (eF t9) fz && true) = true/\(eqN W 6 (eF t10) fz && true) = true/\fdE = fdE/\lp x/\lp y/\lp z/\endN (.v1 (.agg [q6 (eF (J3.dbl (⟨(dF x),(dF y),(dF z)⟩:J3 Fp)).x),q6 (eF (J3.dbl (⟨(dF x),(dF y),(dF z)⟩:J3 Fp)).y),q6 (eF (J3.dbl (⟨(dF x),(dF y),(dF z)⟩:J3 Fp)).z)])) (.v1 (.agg [q6 (eF (J3.dbl (⟨(dF x),(dF y),(dF z)⟩:J3 Fp)).x),q6 (eF (J3.dbl (⟨(dF x),(dF y),(dF z)⟩:J3 Fp)).y),q6 (eF (J3.dbl (⟨(dF x),(dF y),(dF z)⟩:J3 Fp)).z)]))) ?_ (by kernel_rfl)
     exact ⟨zE_f hz hZZ,zE_f hw hWW,as_mulE rfl rfl ht1,hz,as_mulE rfl rfl ht2,hw,as_mulE rfl (dF_eF _) ht3,hx,as_mulE rfl (dF_eF _) ht4,hu,as_mulE (dF_eF _) rfl ht5,lt_eF _,as_mulE rfl (dF_eF _) ht6,hy,as_mulE (dF_eF _) rfl ht7,lt_eF _,as_mulE rfl (dF_eF _) ht8,hv,as_subE (dF_eF _) (dF_eF _) ht9,lt_eF _,lt_eF _,as_subE (dF_eF _) (dF_eF _) ht10,lt_eF _,lt_eF _,zE_t (lt_eF _) (by rw [dF_eF];subst ht10 ht9 ht8 ht7 ht6 ht5 ht4 ht3 ht2 ht1;exact hh0),zE_t (lt_eF _) (by rw [dF_eF];subst ht10 ht9 ht8 ht7 ht6 ht5 ht4 ht3 ht2 ht1;exact hr0),rfl,hx,hy,hz,_,rfl,fun _=>rfl⟩
    ·have hadd:J3.add (⟨(dF x),(dF y),(dF z)⟩:J3 Fp) (⟨(dF u),(dF v),(dF w)⟩:J3 Fp) = J3.nil:=hadd0.trans ((if_pos hh0).trans (if_neg hr0))
     rw [hadd,nilE]
     obtain ⟨t1,ht1⟩:∃ q_:Fp,q_ = (dF z) * (dF z):=⟨_,rfl⟩
     obtain ⟨t2,ht2⟩:∃ q_:Fp,q_ = (dF w) * (dF w):=⟨_,rfl⟩
     obtain ⟨t3,ht3⟩:∃ q_:Fp,q_ = (dF x) * t2:=⟨_,rfl⟩
     obtain ⟨t4,ht4⟩:∃ q_:Fp,q_ = (dF u) * t1:=⟨_,rfl⟩
     obtain ⟨t5,ht5⟩:∃ q_:Fp,q_ = t2 * (dF w):=⟨_,rfl⟩
     obtain ⟨t6,ht6⟩:∃ q_:Fp,q_ = (dF y) * t5:=⟨_,rfl⟩
     obtain ⟨t7,ht7⟩:∃ q_:Fp,q_ = t1 * (dF z):=⟨_,rfl⟩
     obtain ⟨t8,ht8⟩:∃ q_:Fp,q_ = (dF v) * t7:=⟨_,rfl⟩
     obtain ⟨t9,ht9⟩:∃ q_:Fp,q_ = t4 - t3:=⟨_,rfl⟩
     obtain ⟨t10,ht10⟩:∃ q_:Fp,q_ = t8 - t6:=⟨_,rfl⟩
     refine evS_q mixed tt_ok GSE_ok 200 [⟨2,3,.lit (.bo false)⟩,⟨4,3,.lit (.bo false)⟩,⟨6,6,.as [q6 (eF t1)]⟩,⟨6,13,.as [q6 (eF t2)]⟩,⟨7,5,.as [q6 (eF t3)]⟩,⟨7,11,.as [q6 (eF t4)]⟩,⟨8,9,.as [q6 (eF t5)]⟩,⟨8,10,.as [q6 (eF t6)]⟩,⟨8,20,.as [q6 (eF t7)]⟩,⟨8,21,.as [q6 (eF t8)]⟩,⟨9,4,.as [q6 (eF t9)]⟩,⟨9,9,.as [q6 (eF t10)]⟩,⟨10,2,.lit (.bo true)⟩,⟨11,2,.lit (.bo false)⟩] ?_
     refine same (p:=(eqN W 6 z fz && true) = false/\(eqN W 6 w fz && true) = false/\asP [q6 (eF (eMul (dF z) (dF z)))] [q6 (eF t1)]/\lp z/\asP [q6 (eF (eMul (dF w) (dF w)))] [q6 (eF t2)]/\lp w/\asP [q6 (eF (eMul (dF x) (dF (eF t2))))] [q6 (eF t3)]/\lp x/\asP [q6 (eF (eMul (dF u) (dF (eF t1))))] [q6 (eF t4)]/\lp u/\asP [q6 (eF (eMul (dF (eF t2)) (dF w)))] [q6 (eF t5)]/\lp (eF t2)/\asP [q6 (eF (eMul (dF y) (dF (eF t5))))] [q6 (eF t6)]/\lp y/\asP [q6 (eF (eMul (dF (eF t1)) (dF z)))] [q6 (eF t7)]/\lp (eF t1)/\asP [q6 (eF (eMul (dF v) (dF (eF t7))))] [q6 (eF t8)]/\lp v/\asP [q6 (eF (eSub (dF (eF t4)) (dF (eF t3))))] [q6 (eF t9)]/\lp (eF t4)/\lp (eF t3)/\asP [q6 (eF (eSub (dF (eF t8)) (dF (eF t6))))] [q6 (eF t10)]/\lp (eF t8)/\lp (eF t6)/\(eqN W 6 (eF t9) fz && true) = true/\(eqN W 6 (eF t10) fz && true) = false/\endN (.v1 (.agg [q6 oneF,q6 oneF,q6 fz])) (.v1 (.agg [q6 (eF ((⟨1,1,0⟩:J3 Fp)).x),q6 (eF ((⟨1,1,0⟩:J3 Fp)).y),q6 (eF ((⟨1,1,0⟩:J3 Fp)).z)]))) ?_ (by kernel_rfl)
     exact ⟨zE_f hz hZZ,zE_f hw hWW,as_mulE rfl rfl ht1,hz,as_mulE rfl rfl ht2,hw,as_mulE rfl (dF_eF _) ht3,hx,as_mulE rfl (dF_eF _) ht4,hu,as_mulE (dF_eF _) rfl ht5,lt_eF _,as_mulE rfl (dF_eF _) ht6,hy,as_mulE (dF_eF _) rfl ht7,lt_eF _,as_mulE rfl (dF_eF _) ht8,hv,as_subE (dF_eF _) (dF_eF _) ht9,lt_eF _,lt_eF _,as_subE (dF_eF _) (dF_eF _) ht10,lt_eF _,lt_eF _,zE_t (lt_eF _) (by rw [dF_eF];subst ht10 ht9 ht8 ht7 ht6 ht5 ht4 ht3 ht2 ht1;exact hh0),zE_f (lt_eF _) (by rw [dF_eF];subst ht10 ht9 ht8 ht7 ht6 ht5 ht4 ht3 ht2 ht1;exact hr0),endC (cv_cons nv_one1 (cv_cons nv_one1 (cv_cons e0x (cv_nil))))⟩
   ·have hadd:J3.add (⟨(dF x),(dF y),(dF z)⟩:J3 Fp) (⟨(dF u),(dF v),(dF w)⟩:J3 Fp) = J3.gen (⟨(dF x),(dF y),(dF z)⟩:J3 Fp) (⟨(dF u),(dF v),(dF w)⟩:J3 Fp):=hadd0.trans (if_neg hh0)
    rw [hadd]
    obtain ⟨t1,ht1⟩:∃ q_:Fp,q_ = (dF z) * (dF z):=⟨_,rfl⟩
    obtain ⟨t2,ht2⟩:∃ q_:Fp,q_ = (dF w) * (dF w):=⟨_,rfl⟩
    obtain ⟨t3,ht3⟩:∃ q_:Fp,q_ = (dF x) * t2:=⟨_,rfl⟩
    obtain ⟨t4,ht4⟩:∃ q_:Fp,q_ = (dF u) * t1:=⟨_,rfl⟩
    obtain ⟨t5,ht5⟩:∃ q_:Fp,q_ = t2 * (dF w):=⟨_,rfl⟩
    obtain ⟨t6,ht6⟩:∃ q_:Fp,q_ = (dF y) * t5:=⟨_,rfl⟩
    obtain ⟨t7,ht7⟩:∃ q_:Fp,q_ = t1 * (dF z):=⟨_,rfl⟩
    obtain ⟨t8,ht8⟩:∃ q_:Fp,q_ = (dF v) * t7:=⟨_,rfl⟩
    obtain ⟨t9,ht9⟩:∃ q_:Fp,q_ = t4 - t3:=⟨_,rfl⟩
    obtain ⟨t10,ht10⟩:∃ q_:Fp,q_ = t8 - t6:=⟨_,rfl⟩
    obtain ⟨t11,ht11⟩:∃ q_:Fp,q_ = t9 * t9:=⟨_,rfl⟩
    obtain ⟨t12,ht12⟩:∃ q_:Fp,q_ = t11 * t9:=⟨_,rfl⟩
    obtain ⟨t13,ht13⟩:∃ q_:Fp,q_ = t3 * t11:=⟨_,rfl⟩
    obtain ⟨t14,ht14⟩:∃ q_:Fp,q_ = t10 * t10:=⟨_,rfl⟩
    obtain ⟨t15,ht15⟩:∃ q_:Fp,q_ = t14 - t12:=⟨_,rfl⟩
    obtain ⟨t16,ht16⟩:∃ q_:Fp,q_ = t13 + t13:=⟨_,rfl⟩
    obtain ⟨t17,ht17⟩:∃ q_:Fp,q_ = t15 - t16:=⟨_,rfl⟩
    obtain ⟨t18,ht18⟩:∃ q_:Fp,q_ = t13 - t17:=⟨_,rfl⟩
    obtain ⟨t19,ht19⟩:∃ q_:Fp,q_ = t10 * t18:=⟨_,rfl⟩
    obtain ⟨t20,ht20⟩:∃ q_:Fp,q_ = t6 * t12:=⟨_,rfl⟩
    obtain ⟨t21,ht21⟩:∃ q_:Fp,q_ = t19 - t20:=⟨_,rfl⟩
    obtain ⟨t22,ht22⟩:∃ q_:Fp,q_ = (dF z) * (dF w):=⟨_,rfl⟩
    obtain ⟨t23,ht23⟩:∃ q_:Fp,q_ = t9 * t22:=⟨_,rfl⟩
    refine evS_q mixed tt_ok GSE_ok 300 [⟨2,3,.lit (.bo false)⟩,⟨4,3,.lit (.bo false)⟩,⟨6,6,.as [q6 (eF t1)]⟩,⟨6,13,.as [q6 (eF t2)]⟩,⟨7,5,.as [q6 (eF t3)]⟩,⟨7,11,.as [q6 (eF t4)]⟩,⟨8,9,.as [q6 (eF t5)]⟩,⟨8,10,.as [q6 (eF t6)]⟩,⟨8,20,.as [q6 (eF t7)]⟩,⟨8,21,.as [q6 (eF t8)]⟩,⟨9,4,.as [q6 (eF t9)]⟩,⟨9,9,.as [q6 (eF t10)]⟩,⟨10,2,.lit (.bo false)⟩,⟨14,4,.as [q6 (eF t11)]⟩,⟨15,4,.as [q6 (eF t12)]⟩,⟨16,4,.as [q6 (eF t13)]⟩,⟨17,8,.as [q6 (eF t14)]⟩,⟨17,10,.as [q6 (eF t15)]⟩,⟨17,15,.as [q6 (eF t16)]⟩,⟨17,16,.as [q6 (eF t17)]⟩,⟨18,10,.as [q6 (eF t18)]⟩,⟨18,11,.as [q6 (eF t19)]⟩,⟨18,16,.as [q6 (eF t20)]⟩,⟨18,17,.as [q6 (eF t21)]⟩,⟨18,27,.as [q6 (eF t22)]⟩,⟨18,28,.as [q6 (eF t23)]⟩] ?_
    refine same (p:=(eqN W 6 z fz && true) = false/\(eqN W 6 w fz && true) = false/\asP [q6 (eF (eMul (dF z) (dF z)))] [q6 (eF t1)]/\lp z/\asP [q6 (eF (eMul (dF w) (dF w)))] [q6 (eF t2)]/\lp w/\asP [q6 (eF (eMul (dF x) (dF (eF t2))))] [q6 (eF t3)]/\lp x/\asP [q6 (eF (eMul (dF u) (dF (eF t1))))] [q6 (eF t4)]/\lp u/\asP [q6 (eF (eMul (dF (eF t2)) (dF w)))] [q6 (eF t5)]/\lp (eF t2)/\asP [q6 (eF (eMul (dF y) (dF (eF t5))))] [q6 (eF t6)]/\lp y/\asP [q6 (eF (eMul (dF (eF t1)) (dF z)))] [q6 (eF t7)]/\lp (eF t1)/\asP [q6 (eF (eMul (dF v) (dF (eF t7))))] [q6 (eF t8)]/\lp v/\asP [q6 (eF (eSub (dF (eF t4)) (dF (eF t3))))] [q6 (eF t9)]/\lp (eF t4)/\lp (eF t3)/\asP [q6 (eF (eSub (dF (eF t8)) (dF (eF t6))))] [q6 (eF t10)]/\lp (eF t8)/\lp (eF t6)/\(eqN W 6 (eF t9) fz && true) = false/\asP [q6 (eF (eMul (dF (eF t9)) (dF (eF t9))))] [q6 (eF t11)]/\lp (eF t9)/\asP [q6 (eF (eMul (dF (eF t11)) (dF (eF t9))))] [q6 (eF t12)]/\lp (eF t11)/\asP [q6 (eF (eMul (dF (eF t3)) (dF (eF t11))))] [q6 (eF t13)]/\lp (eF t3)/\asP [q6 (eF (eMul (dF (eF t10)) (dF (eF t10))))] [q6 (eF t14)]/\lp (eF t10)/\asP [q6 (eF (eSub (dF (eF t14)) (dF (eF t12))))] [q6 (eF t15)]/\lp (eF t14)/\lp (eF t12)/\asP [q6 (eF (eAdd (dF (eF t13)) (dF (eF t13))))] [q6 (eF t16)]/\lp (eF t13)/\lp (eF t13)/\asP [q6 (eF (eSub (dF (eF t15)) (dF (eF t16))))] [q6 (eF t17)]/\lp (eF t15)/\lp (eF t16)/\asP [q6 (eF (eSub (dF (eF t13)) (dF (eF t17))))] [q6 (eF t18)]/\lp (eF t13)/\lp (eF t17)/\asP [q6 (eF (eMul (dF (eF t10)) (dF (eF t18))))] [q6 (eF t19)]/\lp (eF t10)/\asP [q6 (eF (eMul (dF (eF t6)) (dF (eF t12))))] [q6 (eF t20)]/\lp (eF t6)/\asP [q6 (eF (eSub (dF (eF t19)) (dF (eF t20))))] [q6 (eF t21)]/\lp (eF t19)/\lp (eF t20)/\asP [q6 (eF (eMul (dF z) (dF w)))] [q6 (eF t22)]/\lp z/\asP [q6 (eF (eMul (dF (eF t9)) (dF (eF t22))))] [q6 (eF t23)]/\lp (eF t9)/\endN (.v1 (.agg [q6 (eF t17),q6 (eF t21),q6 (eF t23)])) (.v1 (.agg [q6 (eF (J3.gen (⟨(dF x),(dF y),(dF z)⟩:J3 Fp) (⟨(dF u),(dF v),(dF w)⟩:J3 Fp)).x),q6 (eF (J3.gen (⟨(dF x),(dF y),(dF z)⟩:J3 Fp) (⟨(dF u),(dF v),(dF w)⟩:J3 Fp)).y),q6 (eF (J3.gen (⟨(dF x),(dF y),(dF z)⟩:J3 Fp) (⟨(dF u),(dF v),(dF w)⟩:J3 Fp)).z)]))) ?_ (by kernel_rfl)
    exact ⟨zE_f hz hZZ,zE_f hw hWW,as_mulE rfl rfl ht1,hz,as_mulE rfl rfl ht2,hw,as_mulE rfl (dF_eF _) ht3,hx,as_mulE rfl (dF_eF _) ht4,hu,as_mulE (dF_eF _) rfl ht5,lt_eF _,as_mulE rfl (dF_eF _) ht6,hy,as_mulE (dF_eF _) rfl ht7,lt_eF _,as_mulE rfl (dF_eF _) ht8,hv,as_subE (dF_eF _) (dF_eF _) ht9,lt_eF _,lt_eF _,as_subE (dF_eF _) (dF_eF _) ht10,lt_eF _,lt_eF _,zE_f (lt_eF _) (by rw [dF_eF];subst ht10 ht9 ht8 ht7 ht6 ht5 ht4 ht3 ht2 ht1;exact hh0),as_mulE (dF_eF _) (dF_eF _) ht11,lt_eF _,as_mulE (dF_eF _) (dF_eF _) ht12,lt_eF _,as_mulE (dF_eF _) (dF_eF _) ht13,lt_eF _,as_mulE (dF_eF _) (dF_eF _) ht14,lt_eF _,as_subE (dF_eF _) (dF_eF _) ht15,lt_eF _,lt_eF _,as_addE (dF_eF _) (dF_eF _) ht16,lt_eF _,lt_eF _,as_subE (dF_eF _) (dF_eF _) ht17,lt_eF _,lt_eF _,as_subE (dF_eF _) (dF_eF _) ht18,lt_eF _,lt_eF _,as_mulE (dF_eF _) (dF_eF _) ht19,lt_eF _,as_mulE (dF_eF _) (dF_eF _) ht20,lt_eF _,as_subE (dF_eF _) (dF_eF _) ht21,lt_eF _,lt_eF _,as_mulE rfl rfl ht22,hz,as_mulE (dF_eF _) (dF_eF _) ht23,lt_eF _,endC (cv_cons (nv_t (by subst ht23 ht22 ht21 ht20 ht19 ht18 ht17 ht16 ht15 ht14 ht13 ht12 ht11 ht10 ht9 ht8 ht7 ht6 ht5 ht4 ht3 ht2 ht1;rfl)) (cv_cons (nv_t (by subst ht23 ht22 ht21 ht20 ht19 ht18 ht17 ht16 ht15 ht14 ht13 ht12 ht11 ht10 ht9 ht8 ht7 ht6 ht5 ht4 ht3 ht2 ht1;rfl)) (cv_cons (nv_t (by subst ht23 ht22 ht21 ht20 ht19 ht18 ht17 ht16 ht15 ht14 ht13 ht12 ht11 ht10 ht9 ht8 ht7 ht6 ht5 ht4 ht3 ht2 ht1;rfl)) (cv_nil))))⟩
end Go.Proofs.Ytnjocbcjejpklaa
namespace Go.Proofs.Ytnjocbcjejpklaa
open Go.Rq Go
set_option maxRecDepth 100000
set_option maxHeartbeats 4000000
abbrev fdQ:List Cell:=[.one (.fn 54 []),.one (.fn 53 []),.one (.fn 50 []),.one (.fn 67 []),q6 oneF,q6 fz,q6 (eF (ofN (nv (wd (4 % W))))),q6 (eF (ofN (nv (wd (4 % W)))))]
def jQ1 (F:J3 F2p->J3 F2p):List AV->Option (List Prop × AV)
 | [.v1 (.agg cs),.v1 (.agg [.ws .u64 6 x0,.ws .u64 6 x1,.ws .u64 6 y0,.ws .u64 6 y1,.ws .u64 6 z0,.ws .u64 6 z1])]=>some ([cs = fdQ,nv x0 < pN,nv x1 < pN,nv y0 < pN,nv y1 < pN,nv z0 < pN,nv z1 < pN],.v1 (.agg [q6 (eF (F (⟨(⟨dF x0,dF x1⟩:F2p),(⟨dF y0,dF y1⟩:F2p),(⟨dF z0,dF z1⟩:F2p)⟩:J3 F2p)).x.x),q6 (eF (F (⟨(⟨dF x0,dF x1⟩:F2p),(⟨dF y0,dF y1⟩:F2p),(⟨dF z0,dF z1⟩:F2p)⟩:J3 F2p)).x.y),q6 (eF (F (⟨(⟨dF x0,dF x1⟩:F2p),(⟨dF y0,dF y1⟩:F2p),(⟨dF z0,dF z1⟩:F2p)⟩:J3 F2p)).y.x),q6 (eF (F (⟨(⟨dF x0,dF x1⟩:F2p),(⟨dF y0,dF y1⟩:F2p),(⟨dF z0,dF z1⟩:F2p)⟩:J3 F2p)).y.y),q6 (eF (F (⟨(⟨dF x0,dF x1⟩:F2p),(⟨dF y0,dF y1⟩:F2p),(⟨dF z0,dF z1⟩:F2p)⟩:J3 F2p)).z.x),q6 (eF (F (⟨(⟨dF x0,dF x1⟩:F2p),(⟨dF y0,dF y1⟩:F2p),(⟨dF z0,dF z1⟩:F2p)⟩:J3 F2p)).z.y)]))
 | _=>none
def jQ2 (F:J3 F2p->J3 F2p->J3 F2p):List AV->Option (List Prop × AV)
 | [.v1 (.agg cs),.v1 (.agg [.ws .u64 6 x0,.ws .u64 6 x1,.ws .u64 6 y0,.ws .u64 6 y1,.ws .u64 6 z0,.ws .u64 6 z1]),.v1 (.agg [.ws .u64 6 u0,.ws .u64 6 u1,.ws .u64 6 v0,.ws .u64 6 v1,.ws .u64 6 w0,.ws .u64 6 w1])]=>some ([cs = fdQ,nv x0 < pN,nv x1 < pN,nv y0 < pN,nv y1 < pN,nv z0 < pN,nv z1 < pN,nv u0 < pN,nv u1 < pN,nv v0 < pN,nv v1 < pN,nv w0 < pN,nv w1 < pN],.v1 (.agg [q6 (eF (F (⟨(⟨dF x0,dF x1⟩:F2p),(⟨dF y0,dF y1⟩:F2p),(⟨dF z0,dF z1⟩:F2p)⟩:J3 F2p) (⟨(⟨dF u0,dF u1⟩:F2p),(⟨dF v0,dF v1⟩:F2p),(⟨dF w0,dF w1⟩:F2p)⟩:J3 F2p)).x.x),q6 (eF (F (⟨(⟨dF x0,dF x1⟩:F2p),(⟨dF y0,dF y1⟩:F2p),(⟨dF z0,dF z1⟩:F2p)⟩:J3 F2p) (⟨(⟨dF u0,dF u1⟩:F2p),(⟨dF v0,dF v1⟩:F2p),(⟨dF w0,dF w1⟩:F2p)⟩:J3 F2p)).x.y),q6 (eF (F (⟨(⟨dF x0,dF x1⟩:F2p),(⟨dF y0,dF y1⟩:F2p),(⟨dF z0,dF z1⟩:F2p)⟩:J3 F2p) (⟨(⟨dF u0,dF u1⟩:F2p),(⟨dF v0,dF v1⟩:F2p),(⟨dF w0,dF w1⟩:F2p)⟩:J3 F2p)).y.x),q6 (eF (F (⟨(⟨dF x0,dF x1⟩:F2p),(⟨dF y0,dF y1⟩:F2p),(⟨dF z0,dF z1⟩:F2p)⟩:J3 F2p) (⟨(⟨dF u0,dF u1⟩:F2p),(⟨dF v0,dF v1⟩:F2p),(⟨dF w0,dF w1⟩:F2p)⟩:J3 F2p)).y.y),q6 (eF (F (⟨(⟨dF x0,dF x1⟩:F2p),(⟨dF y0,dF y1⟩:F2p),(⟨dF z0,dF z1⟩:F2p)⟩:J3 F2p) (⟨(⟨dF u0,dF u1⟩:F2p),(⟨dF v0,dF v1⟩:F2p),(⟨dF w0,dF w1⟩:F2p)⟩:J3 F2p)).z.x),q6 (eF (F (⟨(⟨dF x0,dF x1⟩:F2p),(⟨dF y0,dF y1⟩:F2p),(⟨dF z0,dF z1⟩:F2p)⟩:J3 F2p) (⟨(⟨dF u0,dF u1⟩:F2p),(⟨dF v0,dF v1⟩:F2p),(⟨dF w0,dF w1⟩:F2p)⟩:J3 F2p)).z.y)]))
 | _=>none
def GCQ:List (Nat × CallC):=[(54,.pure (q2 add2x add2y)),(53,.pure (q2 sub2x sub2y)),(50,.pure (q2 mul2x mul2y)),(67,.pure (q1 inv2x inv2y))]
theorem GCQ_ok:CtxOk Try.prog (ctxL GCQ):=ctxL_cons okAdd2 <| ctxL_cons okSub2 <| ctxL_cons okMul2 <| ctxL_cons okMInv2 ctxL_nil
theorem okTwQ:(CallC.pure (jQ1 J3.dbl)).Ok Try.prog 90:=by
 intro args pre v e hp
 unfold jQ1 at e
 split at e
 rotate_left
 ·cases e
 rename_i cs x0 x1 y0 y1 z0 z1
 cases e
 have hcs:cs = fdQ:=hp _ (by simp)
 subst hcs
 have hx0:nv x0 < pN:=hp (nv x0 < pN) (by simp)
 have hx1:nv x1 < pN:=hp (nv x1 < pN) (by simp)
 have hy0:nv y0 < pN:=hp (nv y0 < pN) (by simp)
 have hy1:nv y1 < pN:=hp (nv y1 < pN) (by simp)
 have hz0:nv z0 < pN:=hp (nv z0 < pN) (by simp)
 have hz1:nv z1 < pN:=hp (nv z1 < pN) (by simp)
 refine pure_walk' tt_ok Try.func90 (by kernel_rfl) (by kernel_rfl) (by rfl) (by rfl) ?_
 obtain ⟨t1,ht1⟩:∃ q_:F2p,q_ = (⟨dF y0,dF y1⟩:F2p) * (⟨dF y0,dF y1⟩:F2p):=⟨_,rfl⟩
 obtain ⟨t2,ht2⟩:∃ q_:F2p,q_ = (⟨dF x0,dF x1⟩:F2p) * t1:=⟨_,rfl⟩
 obtain ⟨t3,ht3⟩:∃ q_:F2p,q_ = t2 + t2:=⟨_,rfl⟩
 obtain ⟨t4,ht4⟩:∃ q_:F2p,q_ = t3 + t3:=⟨_,rfl⟩
 obtain ⟨t5,ht5⟩:∃ q_:F2p,q_ = (⟨dF x0,dF x1⟩:F2p) * (⟨dF x0,dF x1⟩:F2p):=⟨_,rfl⟩
 obtain ⟨t6,ht6⟩:∃ q_:F2p,q_ = t5 + t5:=⟨_,rfl⟩
 obtain ⟨t7,ht7⟩:∃ q_:F2p,q_ = t6 + t5:=⟨_,rfl⟩
 obtain ⟨t8,ht8⟩:∃ q_:F2p,q_ = t7 * t7:=⟨_,rfl⟩
 obtain ⟨t9,ht9⟩:∃ q_:F2p,q_ = t4 + t4:=⟨_,rfl⟩
 obtain ⟨t10,ht10⟩:∃ q_:F2p,q_ = t8 - t9:=⟨_,rfl⟩
 obtain ⟨t11,ht11⟩:∃ q_:F2p,q_ = t1 * t1:=⟨_,rfl⟩
 obtain ⟨t12,ht12⟩:∃ q_:F2p,q_ = t11 + t11:=⟨_,rfl⟩
 obtain ⟨t13,ht13⟩:∃ q_:F2p,q_ = t12 + t12:=⟨_,rfl⟩
 obtain ⟨t14,ht14⟩:∃ q_:F2p,q_ = t13 + t13:=⟨_,rfl⟩
 obtain ⟨t15,ht15⟩:∃ q_:F2p,q_ = (⟨dF y0,dF y1⟩:F2p) * (⟨dF z0,dF z1⟩:F2p):=⟨_,rfl⟩
 obtain ⟨t16,ht16⟩:∃ q_:F2p,q_ = t4 - t10:=⟨_,rfl⟩
 obtain ⟨t17,ht17⟩:∃ q_:F2p,q_ = t7 * t16:=⟨_,rfl⟩
 obtain ⟨t18,ht18⟩:∃ q_:F2p,q_ = t17 - t14:=⟨_,rfl⟩
 obtain ⟨t19,ht19⟩:∃ q_:F2p,q_ = t15 + t15:=⟨_,rfl⟩
 refine evS_q mixed tt_ok GCQ_ok 200 [⟨1,6,.as (eC2 t1)⟩,⟨2,5,.as (eC2 t2)⟩,⟨3,4,.as (eC2 t3)⟩,⟨4,4,.as (eC2 t4)⟩,⟨5,6,.as (eC2 t5)⟩,⟨6,6,.as (eC2 t6)⟩,⟨6,8,.as (eC2 t7)⟩,⟨7,6,.as (eC2 t8)⟩,⟨7,11,.as (eC2 t9)⟩,⟨7,12,.as (eC2 t10)⟩,⟨8,4,.as (eC2 t11)⟩,⟨9,4,.as (eC2 t12)⟩,⟨10,4,.as (eC2 t13)⟩,⟨11,4,.as (eC2 t14)⟩,⟨12,6,.as (eC2 t15)⟩,⟨13,10,.as (eC2 t16)⟩,⟨13,11,.as (eC2 t17)⟩,⟨13,13,.as (eC2 t18)⟩,⟨13,18,.as (eC2 t19)⟩] ?_
 refine same (p:=asP (eD4 mul2x mul2y (dF y0) (dF y1) (dF y0) (dF y1)) (eC2 t1)/\lp y0/\lp y1/\lp y0/\lp y1/\asP (eD4 mul2x mul2y (dF x0) (dF x1) (dF (eF t1.x)) (dF (eF t1.y))) (eC2 t2)/\lp x0/\lp x1/\lp (eF t1.x)/\lp (eF t1.y)/\asP (eD4 add2x add2y (dF (eF t2.x)) (dF (eF t2.y)) (dF (eF t2.x)) (dF (eF t2.y))) (eC2 t3)/\lp (eF t2.x)/\lp (eF t2.y)/\lp (eF t2.x)/\lp (eF t2.y)/\asP (eD4 add2x add2y (dF (eF t3.x)) (dF (eF t3.y)) (dF (eF t3.x)) (dF (eF t3.y))) (eC2 t4)/\lp (eF t3.x)/\lp (eF t3.y)/\lp (eF t3.x)/\lp (eF t3.y)/\asP (eD4 mul2x mul2y (dF x0) (dF x1) (dF x0) (dF x1)) (eC2 t5)/\lp x0/\lp x1/\lp x0/\lp x1/\asP (eD4 add2x add2y (dF (eF t5.x)) (dF (eF t5.y)) (dF (eF t5.x)) (dF (eF t5.y))) (eC2 t6)/\lp (eF t5.x)/\lp (eF t5.y)/\lp (eF t5.x)/\lp (eF t5.y)/\asP (eD4 add2x add2y (dF (eF t6.x)) (dF (eF t6.y)) (dF (eF t5.x)) (dF (eF t5.y))) (eC2 t7)/\lp (eF t6.x)/\lp (eF t6.y)/\lp (eF t5.x)/\lp (eF t5.y)/\asP (eD4 mul2x mul2y (dF (eF t7.x)) (dF (eF t7.y)) (dF (eF t7.x)) (dF (eF t7.y))) (eC2 t8)/\lp (eF t7.x)/\lp (eF t7.y)/\lp (eF t7.x)/\lp (eF t7.y)/\asP (eD4 add2x add2y (dF (eF t4.x)) (dF (eF t4.y)) (dF (eF t4.x)) (dF (eF t4.y))) (eC2 t9)/\lp (eF t4.x)/\lp (eF t4.y)/\lp (eF t4.x)/\lp (eF t4.y)/\asP (eD4 sub2x sub2y (dF (eF t8.x)) (dF (eF t8.y)) (dF (eF t9.x)) (dF (eF t9.y))) (eC2 t10)/\lp (eF t8.x)/\lp (eF t8.y)/\lp (eF t9.x)/\lp (eF t9.y)/\asP (eD4 mul2x mul2y (dF (eF t1.x)) (dF (eF t1.y)) (dF (eF t1.x)) (dF (eF t1.y))) (eC2 t11)/\lp (eF t1.x)/\lp (eF t1.y)/\lp (eF t1.x)/\lp (eF t1.y)/\asP (eD4 add2x add2y (dF (eF t11.x)) (dF (eF t11.y)) (dF (eF t11.x)) (dF (eF t11.y))) (eC2 t12)/\lp (eF t11.x)/\lp (eF t11.y)/\lp (eF t11.x)/\lp (eF t11.y)/\asP (eD4 add2x add2y (dF (eF t12.x)) (dF (eF t12.y)) (dF (eF t12.x)) (dF (eF t12.y))) (eC2 t13)/\lp (eF t12.x)/\lp (eF t12.y)/\lp (eF t12.x)/\lp (eF t12.y)/\asP (eD4 add2x add2y (dF (eF t13.x)) (dF (eF t13.y)) (dF (eF t13.x)) (dF (eF t13.y))) (eC2 t14)/\lp (eF t13.x)/\lp (eF t13.y)/\lp (eF t13.x)/\lp (eF t13.y)/\asP (eD4 mul2x mul2y (dF y0) (dF y1) (dF z0) (dF z1)) (eC2 t15)/\lp y0/\lp y1/\lp z0/\lp z1/\asP (eD4 sub2x sub2y (dF (eF t4.x)) (dF (eF t4.y)) (dF (eF t10.x)) (dF (eF t10.y))) (eC2 t16)/\lp (eF t4.x)/\lp (eF t4.y)/\lp (eF t10.x)/\lp (eF t10.y)/\asP (eD4 mul2x mul2y (dF (eF t7.x)) (dF (eF t7.y)) (dF (eF t16.x)) (dF (eF t16.y))) (eC2 t17)/\lp (eF t7.x)/\lp (eF t7.y)/\lp (eF t16.x)/\lp (eF t16.y)/\asP (eD4 sub2x sub2y (dF (eF t17.x)) (dF (eF t17.y)) (dF (eF t14.x)) (dF (eF t14.y))) (eC2 t18)/\lp (eF t17.x)/\lp (eF t17.y)/\lp (eF t14.x)/\lp (eF t14.y)/\asP (eD4 add2x add2y (dF (eF t15.x)) (dF (eF t15.y)) (dF (eF t15.x)) (dF (eF t15.y))) (eC2 t19)/\lp (eF t15.x)/\lp (eF t15.y)/\lp (eF t15.x)/\lp (eF t15.y)/\endN (.v1 (.agg [q6 (eF t10.x),q6 (eF t10.y),q6 (eF t18.x),q6 (eF t18.y),q6 (eF t19.x),q6 (eF t19.y)])) (.v1 (.agg [q6 (eF (J3.dbl (⟨(⟨dF x0,dF x1⟩:F2p),(⟨dF y0,dF y1⟩:F2p),(⟨dF z0,dF z1⟩:F2p)⟩:J3 F2p)).x.x),q6 (eF (J3.dbl (⟨(⟨dF x0,dF x1⟩:F2p),(⟨dF y0,dF y1⟩:F2p),(⟨dF z0,dF z1⟩:F2p)⟩:J3 F2p)).x.y),q6 (eF (J3.dbl (⟨(⟨dF x0,dF x1⟩:F2p),(⟨dF y0,dF y1⟩:F2p),(⟨dF z0,dF z1⟩:F2p)⟩:J3 F2p)).y.x),q6 (eF (J3.dbl (⟨(⟨dF x0,dF x1⟩:F2p),(⟨dF y0,dF y1⟩:F2p),(⟨dF z0,dF z1⟩:F2p)⟩:J3 F2p)).y.y),q6 (eF (J3.dbl (⟨(⟨dF x0,dF x1⟩:F2p),(⟨dF y0,dF y1⟩:F2p),(⟨dF z0,dF z1⟩:F2p)⟩:J3 F2p)).z.x),q6 (eF (J3.dbl (⟨(⟨dF x0,dF x1⟩:F2p),(⟨dF y0,dF y1⟩:F2p),(⟨dF z0,dF z1⟩:F2p)⟩:J3 F2p)).z.y)]))) ?_ (by kernel_rfl)
 exact ⟨as_mulQ rfl rfl rfl rfl ht1,hy0,hy1,hy0,hy1,as_mulQ rfl rfl (dF_eF _) (dF_eF _) ht2,hx0,hx1,lt_eF _,lt_eF _,as_addQ (dF_eF _) (dF_eF _) (dF_eF _) (dF_eF _) ht3,lt_eF _,lt_eF _,lt_eF _,lt_eF _,as_addQ (dF_eF _) (dF_eF _) (dF_eF _) (dF_eF _) ht4,lt_eF _,lt_eF _,lt_eF _,lt_eF _,as_mulQ rfl rfl rfl rfl ht5,hx0,hx1,hx0,hx1,as_addQ (dF_eF _) (dF_eF _) (dF_eF _) (dF_eF _) ht6,lt_eF _,lt_eF _,lt_eF _,lt_eF _,as_addQ (dF_eF _) (dF_eF _) (dF_eF _) (dF_eF _) ht7,lt_eF _,lt_eF _,lt_eF _,lt_eF _,as_mulQ (dF_eF _) (dF_eF _) (dF_eF _) (dF_eF _) ht8,lt_eF _,lt_eF _,lt_eF _,lt_eF _,as_addQ (dF_eF _) (dF_eF _) (dF_eF _) (dF_eF _) ht9,lt_eF _,lt_eF _,lt_eF _,lt_eF _,as_subQ (dF_eF _) (dF_eF _) (dF_eF _) (dF_eF _) ht10,lt_eF _,lt_eF _,lt_eF _,lt_eF _,as_mulQ (dF_eF _) (dF_eF _) (dF_eF _) (dF_eF _) ht11,lt_eF _,lt_eF _,lt_eF _,lt_eF _,as_addQ (dF_eF _) (dF_eF _) (dF_eF _) (dF_eF _) ht12,lt_eF _,lt_eF _,lt_eF _,lt_eF _,as_addQ (dF_eF _) (dF_eF _) (dF_eF _) (dF_eF _) ht13,lt_eF _,lt_eF _,lt_eF _,lt_eF _,as_addQ (dF_eF _) (dF_eF _) (dF_eF _) (dF_eF _) ht14,lt_eF _,lt_eF _,lt_eF _,lt_eF _,as_mulQ rfl rfl rfl rfl ht15,hy0,hy1,hz0,hz1,as_subQ (dF_eF _) (dF_eF _) (dF_eF _) (dF_eF _) ht16,lt_eF _,lt_eF _,lt_eF _,lt_eF _,as_mulQ (dF_eF _) (dF_eF _) (dF_eF _) (dF_eF _) ht17,lt_eF _,lt_eF _,lt_eF _,lt_eF _,as_subQ (dF_eF _) (dF_eF _) (dF_eF _) (dF_eF _) ht18,lt_eF _,lt_eF _,lt_eF _,lt_eF _,as_addQ (dF_eF _) (dF_eF _) (dF_eF _) (dF_eF _) ht19,lt_eF _,lt_eF _,lt_eF _,lt_eF _,endC (cv_cons (nv_tx (by subst ht19 ht18 ht17 ht16 ht15 ht14 ht13 ht12 ht11 ht10 ht9 ht8 ht7 ht6 ht5 ht4 ht3 ht2 ht1;rfl)) (cv_cons (nv_ty (by subst ht19 ht18 ht17 ht16 ht15 ht14 ht13 ht12 ht11 ht10 ht9 ht8 ht7 ht6 ht5 ht4 ht3 ht2 ht1;rfl)) (cv_cons (nv_tx (by subst ht19 ht18 ht17 ht16 ht15 ht14 ht13 ht12 ht11 ht10 ht9 ht8 ht7 ht6 ht5 ht4 ht3 ht2 ht1;rfl)) (cv_cons (nv_ty (by subst ht19 ht18 ht17 ht16 ht15 ht14 ht13 ht12 ht11 ht10 ht9 ht8 ht7 ht6 ht5 ht4 ht3 ht2 ht1;rfl)) (cv_cons (nv_tx (by subst ht19 ht18 ht17 ht16 ht15 ht14 ht13 ht12 ht11 ht10 ht9 ht8 ht7 ht6 ht5 ht4 ht3 ht2 ht1;rfl)) (cv_cons (nv_ty (by subst ht19 ht18 ht17 ht16 ht15 ht14 ht13 ht12 ht11 ht10 ht9 ht8 ht7 ht6 ht5 ht4 ht3 ht2 ht1;rfl)) (cv_nil)))))))⟩
def GSQ:List (Nat × CallC):=(90,.pure (jQ1 J3.dbl)) :: GCQ
theorem GSQ_ok:CtxOk Try.prog (ctxL GSQ):=ctxL_cons okTwQ GCQ_ok
theorem okSmQ:(CallC.pure (jQ2 J3.add)).Ok Try.prog 91:=by
 intro args pre v e hp
 unfold jQ2 at e
 split at e
 rotate_left
 ·cases e
 rename_i cs x0 x1 y0 y1 z0 z1 u0 u1 v0 v1 w0 w1
 cases e
 have hcs:cs = fdQ:=hp _ (by simp)
 subst hcs
 have hx0:nv x0 < pN:=hp (nv x0 < pN) (by simp)
 have hx1:nv x1 < pN:=hp (nv x1 < pN) (by simp)
 have hy0:nv y0 < pN:=hp (nv y0 < pN) (by simp)
 have hy1:nv y1 < pN:=hp (nv y1 < pN) (by simp)
 have hz0:nv z0 < pN:=hp (nv z0 < pN) (by simp)
 have hz1:nv z1 < pN:=hp (nv z1 < pN) (by simp)
 have hu0:nv u0 < pN:=hp (nv u0 < pN) (by simp)
 have hu1:nv u1 < pN:=hp (nv u1 < pN) (by simp)
 have hv0:nv v0 < pN:=hp (nv v0 < pN) (by simp)
 have hv1:nv v1 < pN:=hp (nv v1 < pN) (by simp)
 have hw0:nv w0 < pN:=hp (nv w0 < pN) (by simp)
 have hw1:nv w1 < pN:=hp (nv w1 < pN) (by simp)
 refine pure_walk' tt_ok Try.func91 (by kernel_rfl) (by kernel_rfl) (by rfl) (by rfl) ?_
 by_cases hZZ:(⟨dF z0,dF z1⟩:F2p) = 0
 ·have hadd:J3.add (⟨(⟨dF x0,dF x1⟩:F2p),(⟨dF y0,dF y1⟩:F2p),(⟨dF z0,dF z1⟩:F2p)⟩:J3 F2p) (⟨(⟨dF u0,dF u1⟩:F2p),(⟨dF v0,dF v1⟩:F2p),(⟨dF w0,dF w1⟩:F2p)⟩:J3 F2p) = (⟨(⟨dF u0,dF u1⟩:F2p),(⟨dF v0,dF v1⟩:F2p),(⟨dF w0,dF w1⟩:F2p)⟩:J3 F2p):=if_pos hZZ
  rw [hadd]
  refine evS_q mixed tt_ok GSQ_ok 100 [⟨2,3,.lit (.bo true)⟩] ?_
  refine same (p:=(eqN W 6 z0 fz && (eqN W 6 z1 fz && true)) = true/\endN (.v1 (.agg [q6 u0,q6 u1,q6 v0,q6 v1,q6 w0,q6 w1])) (.v1 (.agg [q6 (eF ((⟨(⟨dF u0,dF u1⟩:F2p),(⟨dF v0,dF v1⟩:F2p),(⟨dF w0,dF w1⟩:F2p)⟩:J3 F2p)).x.x),q6 (eF ((⟨(⟨dF u0,dF u1⟩:F2p),(⟨dF v0,dF v1⟩:F2p),(⟨dF w0,dF w1⟩:F2p)⟩:J3 F2p)).x.y),q6 (eF ((⟨(⟨dF u0,dF u1⟩:F2p),(⟨dF v0,dF v1⟩:F2p),(⟨dF w0,dF w1⟩:F2p)⟩:J3 F2p)).y.x),q6 (eF ((⟨(⟨dF u0,dF u1⟩:F2p),(⟨dF v0,dF v1⟩:F2p),(⟨dF w0,dF w1⟩:F2p)⟩:J3 F2p)).y.y),q6 (eF ((⟨(⟨dF u0,dF u1⟩:F2p),(⟨dF v0,dF v1⟩:F2p),(⟨dF w0,dF w1⟩:F2p)⟩:J3 F2p)).z.x),q6 (eF ((⟨(⟨dF u0,dF u1⟩:F2p),(⟨dF v0,dF v1⟩:F2p),(⟨dF w0,dF w1⟩:F2p)⟩:J3 F2p)).z.y)]))) ?_ (by kernel_rfl)
  exact ⟨zQ_t hz0 hz1 hZZ,endC (cv_cons (nv_d hu0) (cv_cons (nv_d hu1) (cv_cons (nv_d hv0) (cv_cons (nv_d hv1) (cv_cons (nv_d hw0) (cv_cons (nv_d hw1) (cv_nil)))))))⟩
 ·by_cases hWW:(⟨dF w0,dF w1⟩:F2p) = 0
  ·have hadd:J3.add (⟨(⟨dF x0,dF x1⟩:F2p),(⟨dF y0,dF y1⟩:F2p),(⟨dF z0,dF z1⟩:F2p)⟩:J3 F2p) (⟨(⟨dF u0,dF u1⟩:F2p),(⟨dF v0,dF v1⟩:F2p),(⟨dF w0,dF w1⟩:F2p)⟩:J3 F2p) = (⟨(⟨dF x0,dF x1⟩:F2p),(⟨dF y0,dF y1⟩:F2p),(⟨dF z0,dF z1⟩:F2p)⟩:J3 F2p):=(if_neg hZZ).trans (if_pos hWW)
   rw [hadd]
   refine evS_q mixed tt_ok GSQ_ok 100 [⟨2,3,.lit (.bo false)⟩,⟨4,3,.lit (.bo true)⟩] ?_
   refine same (p:=(eqN W 6 z0 fz && (eqN W 6 z1 fz && true)) = false/\(eqN W 6 w0 fz && (eqN W 6 w1 fz && true)) = true/\endN (.v1 (.agg [q6 x0,q6 x1,q6 y0,q6 y1,q6 z0,q6 z1])) (.v1 (.agg [q6 (eF ((⟨(⟨dF x0,dF x1⟩:F2p),(⟨dF y0,dF y1⟩:F2p),(⟨dF z0,dF z1⟩:F2p)⟩:J3 F2p)).x.x),q6 (eF ((⟨(⟨dF x0,dF x1⟩:F2p),(⟨dF y0,dF y1⟩:F2p),(⟨dF z0,dF z1⟩:F2p)⟩:J3 F2p)).x.y),q6 (eF ((⟨(⟨dF x0,dF x1⟩:F2p),(⟨dF y0,dF y1⟩:F2p),(⟨dF z0,dF z1⟩:F2p)⟩:J3 F2p)).y.x),q6 (eF ((⟨(⟨dF x0,dF x1⟩:F2p),(⟨dF y0,dF y1⟩:F2p),(⟨dF z0,dF z1⟩:F2p)⟩:J3 F2p)).y.y),q6 (eF ((⟨(⟨dF x0,dF x1⟩:F2p),(⟨dF y0,dF y1⟩:F2p),(⟨dF z0,dF z1⟩:F2p)⟩:J3 F2p)).z.x),q6 (eF ((⟨(⟨dF x0,dF x1⟩:F2p),(⟨dF y0,dF y1⟩:F2p),(⟨dF z0,dF z1⟩:F2p)⟩:J3 F2p)).z.y)]))) ?_ (by kernel_rfl)
   exact ⟨zQ_f hz0 hz1 hZZ,zQ_t hw0 hw1 hWW,endC (cv_cons (nv_d hx0) (cv_cons (nv_d hx1) (cv_cons (nv_d hy0) (cv_cons (nv_d hy1) (cv_cons (nv_d hz0) (cv_cons (nv_d hz1) (cv_nil)))))))⟩
  ·have hadd0:J3.add (⟨(⟨dF x0,dF x1⟩:F2p),(⟨dF y0,dF y1⟩:F2p),(⟨dF z0,dF z1⟩:F2p)⟩:J3 F2p) (⟨(⟨dF u0,dF u1⟩:F2p),(⟨dF v0,dF v1⟩:F2p),(⟨dF w0,dF w1⟩:F2p)⟩:J3 F2p) = if J3.hh (⟨(⟨dF x0,dF x1⟩:F2p),(⟨dF y0,dF y1⟩:F2p),(⟨dF z0,dF z1⟩:F2p)⟩:J3 F2p) (⟨(⟨dF u0,dF u1⟩:F2p),(⟨dF v0,dF v1⟩:F2p),(⟨dF w0,dF w1⟩:F2p)⟩:J3 F2p) = 0 then (if J3.rr (⟨(⟨dF x0,dF x1⟩:F2p),(⟨dF y0,dF y1⟩:F2p),(⟨dF z0,dF z1⟩:F2p)⟩:J3 F2p) (⟨(⟨dF u0,dF u1⟩:F2p),(⟨dF v0,dF v1⟩:F2p),(⟨dF w0,dF w1⟩:F2p)⟩:J3 F2p) = 0 then J3.dbl (⟨(⟨dF x0,dF x1⟩:F2p),(⟨dF y0,dF y1⟩:F2p),(⟨dF z0,dF z1⟩:F2p)⟩:J3 F2p) else J3.nil) else J3.gen (⟨(⟨dF x0,dF x1⟩:F2p),(⟨dF y0,dF y1⟩:F2p),(⟨dF z0,dF z1⟩:F2p)⟩:J3 F2p) (⟨(⟨dF u0,dF u1⟩:F2p),(⟨dF v0,dF v1⟩:F2p),(⟨dF w0,dF w1⟩:F2p)⟩:J3 F2p):=(if_neg hZZ).trans (if_neg hWW)
   by_cases hh0:J3.hh (⟨(⟨dF x0,dF x1⟩:F2p),(⟨dF y0,dF y1⟩:F2p),(⟨dF z0,dF z1⟩:F2p)⟩:J3 F2p) (⟨(⟨dF u0,dF u1⟩:F2p),(⟨dF v0,dF v1⟩:F2p),(⟨dF w0,dF w1⟩:F2p)⟩:J3 F2p) = 0
   ·by_cases hr0:J3.rr (⟨(⟨dF x0,dF x1⟩:F2p),(⟨dF y0,dF y1⟩:F2p),(⟨dF z0,dF z1⟩:F2p)⟩:J3 F2p) (⟨(⟨dF u0,dF u1⟩:F2p),(⟨dF v0,dF v1⟩:F2p),(⟨dF w0,dF w1⟩:F2p)⟩:J3 F2p) = 0
    ·have hadd:J3.add (⟨(⟨dF x0,dF x1⟩:F2p),(⟨dF y0,dF y1⟩:F2p),(⟨dF z0,dF z1⟩:F2p)⟩:J3 F2p) (⟨(⟨dF u0,dF u1⟩:F2p),(⟨dF v0,dF v1⟩:F2p),(⟨dF w0,dF w1⟩:F2p)⟩:J3 F2p) = J3.dbl (⟨(⟨dF x0,dF x1⟩:F2p),(⟨dF y0,dF y1⟩:F2p),(⟨dF z0,dF z1⟩:F2p)⟩:J3 F2p):=hadd0.trans ((if_pos hh0).trans (if_pos hr0))
     rw [hadd]
     obtain ⟨t1,ht1⟩:∃ q_:F2p,q_ = (⟨dF z0,dF z1⟩:F2p) * (⟨dF z0,dF z1⟩:F2p):=⟨_,rfl⟩
     obtain ⟨t2,ht2⟩:∃ q_:F2p,q_ = (⟨dF w0,dF w1⟩:F2p) * (⟨dF w0,dF w1⟩:F2p):=⟨_,rfl⟩
     obtain ⟨t3,ht3⟩:∃ q_:F2p,q_ = (⟨dF x0,dF x1⟩:F2p) * t2:=⟨_,rfl⟩
     obtain ⟨t4,ht4⟩:∃ q_:F2p,q_ = (⟨dF u0,dF u1⟩:F2p) * t1:=⟨_,rfl⟩
     obtain ⟨t5,ht5⟩:∃ q_:F2p,q_ = t2 * (⟨dF w0,dF w1⟩:F2p):=⟨_,rfl⟩
     obtain ⟨t6,ht6⟩:∃ q_:F2p,q_ = (⟨dF y0,dF y1⟩:F2p) * t5:=⟨_,rfl⟩
     obtain ⟨t7,ht7⟩:∃ q_:F2p,q_ = t1 * (⟨dF z0,dF z1⟩:F2p):=⟨_,rfl⟩
     obtain ⟨t8,ht8⟩:∃ q_:F2p,q_ = (⟨dF v0,dF v1⟩:F2p) * t7:=⟨_,rfl⟩
     obtain ⟨t9,ht9⟩:∃ q_:F2p,q_ = t4 - t3:=⟨_,rfl⟩
     obtain ⟨t10,ht10⟩:∃ q_:F2p,q_ = t8 - t6:=⟨_,rfl⟩
     refine evS_q mixed tt_ok GSQ_ok 200 [⟨2,3,.lit (.bo false)⟩,⟨4,3,.lit (.bo false)⟩,⟨6,6,.as (eC2 t1)⟩,⟨6,13,.as (eC2 t2)⟩,⟨7,5,.as (eC2 t3)⟩,⟨7,11,.as (eC2 t4)⟩,⟨8,9,.as (eC2 t5)⟩,⟨8,10,.as (eC2 t6)⟩,⟨8,20,.as (eC2 t7)⟩,⟨8,21,.as (eC2 t8)⟩,⟨9,4,.as (eC2 t9)⟩,⟨9,9,.as (eC2 t10)⟩,⟨10,2,.lit (.bo true)⟩,⟨11,2,.lit (.bo true)⟩] ?_
     refine same (p:=(eqN W 6 z0 fz && (eqN W 6 z1 fz && true)) = false/\(eqN W 6 w0 fz && (eqN W 6 w1 fz && true)) = false/\asP (eD4 mul2x mul2y (dF z0) (dF z1) (dF z0) (dF z1)) (eC2 t1)/\lp z0/\lp z1/\lp z0/\lp z1/\asP (eD4 mul2x mul2y (dF w0) (dF w1) (dF w0) (dF w1)) (eC2 t2)/\lp w0/\lp w1/\lp w0/\lp w1/\asP (eD4 mul2x mul2y (dF x0) (dF x1) (dF (eF t2.x)) (dF (eF t2.y))) (eC2 t3)/\lp x0/\lp x1/\lp (eF t2.x)/\lp (eF t2.y)/\asP (eD4 mul2x mul2y (dF u0) (dF u1) (dF (eF t1.x)) (dF (eF t1.y))) (eC2 t4)/\lp u0/\lp u1/\lp (eF t1.x)/\lp (eF t1.y)/\asP (eD4 mul2x mul2y (dF (eF t2.x)) (dF (eF t2.y)) (dF w0) (dF w1)) (eC2 t5)/\lp (eF t2.x)/\lp (eF t2.y)/\lp w0/\lp w1/\asP (eD4 mul2x mul2y (dF y0) (dF y1) (dF (eF t5.x)) (dF (eF t5.y))) (eC2 t6)/\lp y0/\lp y1/\lp (eF t5.x)/\lp (eF t5.y)/\asP (eD4 mul2x mul2y (dF (eF t1.x)) (dF (eF t1.y)) (dF z0) (dF z1)) (eC2 t7)/\lp (eF t1.x)/\lp (eF t1.y)/\lp z0/\lp z1/\asP (eD4 mul2x mul2y (dF v0) (dF v1) (dF (eF t7.x)) (dF (eF t7.y))) (eC2 t8)/\lp v0/\lp v1/\lp (eF t7.x)/\lp (eF t7.y)/\asP (eD4 sub2x sub2y (dF (eF t4.x)) (dF (eF t4.y)) (dF (eF t3.x)) (dF (eF t3.y))) (eC2 t9)/\lp (eF t4.x)/\lp (eF t4.y)/\lp (eF t3.x)/\lp (eF t3.y)/\asP (eD4 sub2x sub2y (dF (eF t8.x)) (dF (eF t8.y)) (dF (eF t6.x)) (dF (eF t6.y))) (eC2 t10)/\lp (eF t8.x)/\lp (eF t8.y)/\lp (eF t6.x)/\lp (eF t6.y)/\(eqN W 6 (eF t9.x) fz && (eqN W 6 (eF t9.y) fz && true)) = true/\(eqN W 6 (eF t10.x) fz && (eqN W 6 (eF t10.y) fz && true)) = true/\fdQ = fdQ/\lp x0/\lp x1/\lp y0/\lp y1/\lp z0/\lp z1/\endN (.v1 (.agg [q6 (eF (J3.dbl (⟨(⟨dF x0,dF x1⟩:F2p),(⟨dF y0,dF y1⟩:F2p),(⟨dF z0,dF z1⟩:F2p)⟩:J3 F2p)).x.x),q6 (eF (J3.dbl (⟨(⟨dF x0,dF x1⟩:F2p),(⟨dF y0,dF y1⟩:F2p),(⟨dF z0,dF z1⟩:F2p)⟩:J3 F2p)).x.y),q6 (eF (J3.dbl (⟨(⟨dF x0,dF x1⟩:F2p),(⟨dF y0,dF y1⟩:F2p),(⟨dF z0,dF z1⟩:F2p)⟩:J3 F2p)).y.x),q6 (eF (J3.dbl (⟨(⟨dF x0,dF x1⟩:F2p),(⟨dF y0,dF y1⟩:F2p),(⟨dF z0,dF z1⟩:F2p)⟩:J3 F2p)).y.y),q6 (eF (J3.dbl (⟨(⟨dF x0,dF x1⟩:F2p),(⟨dF y0,dF y1⟩:F2p),(⟨dF z0,dF z1⟩:F2p)⟩:J3 F2p)).z.x),q6 (eF (J3.dbl (⟨(⟨dF x0,dF x1⟩:F2p),(⟨dF y0,dF y1⟩:F2p),(⟨dF z0,dF z1⟩:F2p)⟩:J3 F2p)).z.y)])) (.v1 (.agg [q6 (eF (J3.dbl (⟨(⟨dF x0,dF x1⟩:F2p),(⟨dF y0,dF y1⟩:F2p),(⟨dF z0,dF z1⟩:F2p)⟩:J3 F2p)).x.x),q6 (eF (J3.dbl (⟨(⟨dF x0,dF x1⟩:F2p),(⟨dF y0,dF y1⟩:F2p),(⟨dF z0,dF z1⟩:F2p)⟩:J3 F2p)).x.y),q6 (eF (J3.dbl (⟨(⟨dF x0,dF x1⟩:F2p),(⟨dF y0,dF y1⟩:F2p),(⟨dF z0,dF z1⟩:F2p)⟩:J3 F2p)).y.x),q6 (eF (J3.dbl (⟨(⟨dF x0,dF x1⟩:F2p),(⟨dF y0,dF y1⟩:F2p),(⟨dF z0,dF z1⟩:F2p)⟩:J3 F2p)).y.y),q6 (eF (J3.dbl (⟨(⟨dF x0,dF x1⟩:F2p),(⟨dF y0,dF y1⟩:F2p),(⟨dF z0,dF z1⟩:F2p)⟩:J3 F2p)).z.x),q6 (eF (J3.dbl (⟨(⟨dF x0,dF x1⟩:F2p),(⟨dF y0,dF y1⟩:F2p),(⟨dF z0,dF z1⟩:F2p)⟩:J3 F2p)).z.y)]))) ?_ (by kernel_rfl)
     exact ⟨zQ_f hz0 hz1 hZZ,zQ_f hw0 hw1 hWW,as_mulQ rfl rfl rfl rfl ht1,hz0,hz1,hz0,hz1,as_mulQ rfl rfl rfl rfl ht2,hw0,hw1,hw0,hw1,as_mulQ rfl rfl (dF_eF _) (dF_eF _) ht3,hx0,hx1,lt_eF _,lt_eF _,as_mulQ rfl rfl (dF_eF _) (dF_eF _) ht4,hu0,hu1,lt_eF _,lt_eF _,as_mulQ (dF_eF _) (dF_eF _) rfl rfl ht5,lt_eF _,lt_eF _,hw0,hw1,as_mulQ rfl rfl (dF_eF _) (dF_eF _) ht6,hy0,hy1,lt_eF _,lt_eF _,as_mulQ (dF_eF _) (dF_eF _) rfl rfl ht7,lt_eF _,lt_eF _,hz0,hz1,as_mulQ rfl rfl (dF_eF _) (dF_eF _) ht8,hv0,hv1,lt_eF _,lt_eF _,as_subQ (dF_eF _) (dF_eF _) (dF_eF _) (dF_eF _) ht9,lt_eF _,lt_eF _,lt_eF _,lt_eF _,as_subQ (dF_eF _) (dF_eF _) (dF_eF _) (dF_eF _) ht10,lt_eF _,lt_eF _,lt_eF _,lt_eF _,zQ_t (lt_eF _) (lt_eF _) (by rw [dF_eF,dF_eF];subst ht10 ht9 ht8 ht7 ht6 ht5 ht4 ht3 ht2 ht1;exact hh0),zQ_t (lt_eF _) (lt_eF _) (by rw [dF_eF,dF_eF];subst ht10 ht9 ht8 ht7 ht6 ht5 ht4 ht3 ht2 ht1;exact hr0),rfl,hx0,hx1,hy0,hy1,hz0,hz1,_,rfl,fun _=>rfl⟩
    ·have hadd:J3.add (⟨(⟨dF x0,dF x1⟩:F2p),(⟨dF y0,dF y1⟩:F2p),(⟨dF z0,dF z1⟩:F2p)⟩:J3 F2p) (⟨(⟨dF u0,dF u1⟩:F2p),(⟨dF v0,dF v1⟩:F2p),(⟨dF w0,dF w1⟩:F2p)⟩:J3 F2p) = J3.nil:=hadd0.trans ((if_pos hh0).trans (if_neg hr0))
     rw [hadd,nilQ]
     obtain ⟨t1,ht1⟩:∃ q_:F2p,q_ = (⟨dF z0,dF z1⟩:F2p) * (⟨dF z0,dF z1⟩:F2p):=⟨_,rfl⟩
     obtain ⟨t2,ht2⟩:∃ q_:F2p,q_ = (⟨dF w0,dF w1⟩:F2p) * (⟨dF w0,dF w1⟩:F2p):=⟨_,rfl⟩
     obtain ⟨t3,ht3⟩:∃ q_:F2p,q_ = (⟨dF x0,dF x1⟩:F2p) * t2:=⟨_,rfl⟩
     obtain ⟨t4,ht4⟩:∃ q_:F2p,q_ = (⟨dF u0,dF u1⟩:F2p) * t1:=⟨_,rfl⟩
     obtain ⟨t5,ht5⟩:∃ q_:F2p,q_ = t2 * (⟨dF w0,dF w1⟩:F2p):=⟨_,rfl⟩
     obtain ⟨t6,ht6⟩:∃ q_:F2p,q_ = (⟨dF y0,dF y1⟩:F2p) * t5:=⟨_,rfl⟩
     obtain ⟨t7,ht7⟩:∃ q_:F2p,q_ = t1 * (⟨dF z0,dF z1⟩:F2p):=⟨_,rfl⟩
     obtain ⟨t8,ht8⟩:∃ q_:F2p,q_ = (⟨dF v0,dF v1⟩:F2p) * t7:=⟨_,rfl⟩
     obtain ⟨t9,ht9⟩:∃ q_:F2p,q_ = t4 - t3:=⟨_,rfl⟩
     obtain ⟨t10,ht10⟩:∃ q_:F2p,q_ = t8 - t6:=⟨_,rfl⟩
     refine evS_q mixed tt_ok GSQ_ok 200 [⟨2,3,.lit (.bo false)⟩,⟨4,3,.lit (.bo false)⟩,⟨6,6,.as (eC2 t1)⟩,⟨6,13,.as (eC2 t2)⟩,⟨7,5,.as (eC2 t3)⟩,⟨7,11,.as (eC2 t4)⟩,⟨8,9,.as (eC2 t5)⟩,⟨8,10,.as (eC2 t6)⟩,⟨8,20,.as (eC2 t7)⟩,⟨8,21,.as (eC2 t8)⟩,⟨9,4,.as (eC2 t9)⟩,⟨9,9,.as (eC2 t10)⟩,⟨10,2,.lit (.bo true)⟩,⟨11,2,.lit (.bo false)⟩] ?_
     refine same (p:=(eqN W 6 z0 fz && (eqN W 6 z1 fz && true)) = false/\(eqN W 6 w0 fz && (eqN W 6 w1 fz && true)) = false/\asP (eD4 mul2x mul2y (dF z0) (dF z1) (dF z0) (dF z1)) (eC2 t1)/\lp z0/\lp z1/\lp z0/\lp z1/\asP (eD4 mul2x mul2y (dF w0) (dF w1) (dF w0) (dF w1)) (eC2 t2)/\lp w0/\lp w1/\lp w0/\lp w1/\asP (eD4 mul2x mul2y (dF x0) (dF x1) (dF (eF t2.x)) (dF (eF t2.y))) (eC2 t3)/\lp x0/\lp x1/\lp (eF t2.x)/\lp (eF t2.y)/\asP (eD4 mul2x mul2y (dF u0) (dF u1) (dF (eF t1.x)) (dF (eF t1.y))) (eC2 t4)/\lp u0/\lp u1/\lp (eF t1.x)/\lp (eF t1.y)/\asP (eD4 mul2x mul2y (dF (eF t2.x)) (dF (eF t2.y)) (dF w0) (dF w1)) (eC2 t5)/\lp (eF t2.x)/\lp (eF t2.y)/\lp w0/\lp w1/\asP (eD4 mul2x mul2y (dF y0) (dF y1) (dF (eF t5.x)) (dF (eF t5.y))) (eC2 t6)/\lp y0/\lp y1/\lp (eF t5.x)/\lp (eF t5.y)/\asP (eD4 mul2x mul2y (dF (eF t1.x)) (dF (eF t1.y)) (dF z0) (dF z1)) (eC2 t7)/\lp (eF t1.x)/\lp (eF t1.y)/\lp z0/\lp z1/\asP (eD4 mul2x mul2y (dF v0) (dF v1) (dF (eF t7.x)) (dF (eF t7.y))) (eC2 t8)/\lp v0/\lp v1/\lp (eF t7.x)/\lp (eF t7.y)/\asP (eD4 sub2x sub2y (dF (eF t4.x)) (dF (eF t4.y)) (dF (eF t3.x)) (dF (eF t3.y))) (eC2 t9)/\lp (eF t4.x)/\lp (eF t4.y)/\lp (eF t3.x)/\lp (eF t3.y)/\asP (eD4 sub2x sub2y (dF (eF t8.x)) (dF (eF t8.y)) (dF (eF t6.x)) (dF (eF t6.y))) (eC2 t10)/\lp (eF t8.x)/\lp (eF t8.y)/\lp (eF t6.x)/\lp (eF t6.y)/\(eqN W 6 (eF t9.x) fz && (eqN W 6 (eF t9.y) fz && true)) = true/\(eqN W 6 (eF t10.x) fz && (eqN W 6 (eF t10.y) fz && true)) = false/\endN (.v1 (.agg [q6 oneF,q6 fz,q6 oneF,q6 fz,q6 fz,q6 fz])) (.v1 (.agg [q6 (eF ((⟨1,1,0⟩:J3 F2p)).x.x),q6 (eF ((⟨1,1,0⟩:J3 F2p)).x.y),q6 (eF ((⟨1,1,0⟩:J3 F2p)).y.x),q6 (eF ((⟨1,1,0⟩:J3 F2p)).y.y),q6 (eF ((⟨1,1,0⟩:J3 F2p)).z.x),q6 (eF ((⟨1,1,0⟩:J3 F2p)).z.y)]))) ?_ (by kernel_rfl)
     exact ⟨zQ_f hz0 hz1 hZZ,zQ_f hw0 hw1 hWW,as_mulQ rfl rfl rfl rfl ht1,hz0,hz1,hz0,hz1,as_mulQ rfl rfl rfl rfl ht2,hw0,hw1,hw0,hw1,as_mulQ rfl rfl (dF_eF _) (dF_eF _) ht3,hx0,hx1,lt_eF _,lt_eF _,as_mulQ rfl rfl (dF_eF _) (dF_eF _) ht4,hu0,hu1,lt_eF _,lt_eF _,as_mulQ (dF_eF _) (dF_eF _) rfl rfl ht5,lt_eF _,lt_eF _,hw0,hw1,as_mulQ rfl rfl (dF_eF _) (dF_eF _) ht6,hy0,hy1,lt_eF _,lt_eF _,as_mulQ (dF_eF _) (dF_eF _) rfl rfl ht7,lt_eF _,lt_eF _,hz0,hz1,as_mulQ rfl rfl (dF_eF _) (dF_eF _) ht8,hv0,hv1,lt_eF _,lt_eF _,as_subQ (dF_eF _) (dF_eF _) (dF_eF _) (dF_eF _) ht9,lt_eF _,lt_eF _,lt_eF _,lt_eF _,as_subQ (dF_eF _) (dF_eF _) (dF_eF _) (dF_eF _) ht10,lt_eF _,lt_eF _,lt_eF _,lt_eF _,zQ_t (lt_eF _) (lt_eF _) (by rw [dF_eF,dF_eF];subst ht10 ht9 ht8 ht7 ht6 ht5 ht4 ht3 ht2 ht1;exact hh0),zQ_f (lt_eF _) (lt_eF _) (by rw [dF_eF,dF_eF];subst ht10 ht9 ht8 ht7 ht6 ht5 ht4 ht3 ht2 ht1;exact hr0),endC (cv_cons q1x (cv_cons q1y (cv_cons q1x (cv_cons q1y (cv_cons q0x (cv_cons q0y (cv_nil)))))))⟩
   ·have hadd:J3.add (⟨(⟨dF x0,dF x1⟩:F2p),(⟨dF y0,dF y1⟩:F2p),(⟨dF z0,dF z1⟩:F2p)⟩:J3 F2p) (⟨(⟨dF u0,dF u1⟩:F2p),(⟨dF v0,dF v1⟩:F2p),(⟨dF w0,dF w1⟩:F2p)⟩:J3 F2p) = J3.gen (⟨(⟨dF x0,dF x1⟩:F2p),(⟨dF y0,dF y1⟩:F2p),(⟨dF z0,dF z1⟩:F2p)⟩:J3 F2p) (⟨(⟨dF u0,dF u1⟩:F2p),(⟨dF v0,dF v1⟩:F2p),(⟨dF w0,dF w1⟩:F2p)⟩:J3 F2p):=hadd0.trans (if_neg hh0)
    rw [hadd]
    obtain ⟨t1,ht1⟩:∃ q_:F2p,q_ = (⟨dF z0,dF z1⟩:F2p) * (⟨dF z0,dF z1⟩:F2p):=⟨_,rfl⟩
    obtain ⟨t2,ht2⟩:∃ q_:F2p,q_ = (⟨dF w0,dF w1⟩:F2p) * (⟨dF w0,dF w1⟩:F2p):=⟨_,rfl⟩
    obtain ⟨t3,ht3⟩:∃ q_:F2p,q_ = (⟨dF x0,dF x1⟩:F2p) * t2:=⟨_,rfl⟩
    obtain ⟨t4,ht4⟩:∃ q_:F2p,q_ = (⟨dF u0,dF u1⟩:F2p) * t1:=⟨_,rfl⟩
    obtain ⟨t5,ht5⟩:∃ q_:F2p,q_ = t2 * (⟨dF w0,dF w1⟩:F2p):=⟨_,rfl⟩
    obtain ⟨t6,ht6⟩:∃ q_:F2p,q_ = (⟨dF y0,dF y1⟩:F2p) * t5:=⟨_,rfl⟩
    obtain ⟨t7,ht7⟩:∃ q_:F2p,q_ = t1 * (⟨dF z0,dF z1⟩:F2p):=⟨_,rfl⟩
    obtain ⟨t8,ht8⟩:∃ q_:F2p,q_ = (⟨dF v0,dF v1⟩:F2p) * t7:=⟨_,rfl⟩
    obtain ⟨t9,ht9⟩:∃ q_:F2p,q_ = t4 - t3:=⟨_,rfl⟩
    obtain ⟨t10,ht10⟩:∃ q_:F2p,q_ = t8 - t6:=⟨_,rfl⟩
    obtain ⟨t11,ht11⟩:∃ q_:F2p,q_ = t9 * t9:=⟨_,rfl⟩
    obtain ⟨t12,ht12⟩:∃ q_:F2p,q_ = t11 * t9:=⟨_,rfl⟩
    obtain ⟨t13,ht13⟩:∃ q_:F2p,q_ = t3 * t11:=⟨_,rfl⟩
    obtain ⟨t14,ht14⟩:∃ q_:F2p,q_ = t10 * t10:=⟨_,rfl⟩
    obtain ⟨t15,ht15⟩:∃ q_:F2p,q_ = t14 - t12:=⟨_,rfl⟩
    obtain ⟨t16,ht16⟩:∃ q_:F2p,q_ = t13 + t13:=⟨_,rfl⟩
    obtain ⟨t17,ht17⟩:∃ q_:F2p,q_ = t15 - t16:=⟨_,rfl⟩
    obtain ⟨t18,ht18⟩:∃ q_:F2p,q_ = t13 - t17:=⟨_,rfl⟩
    obtain ⟨t19,ht19⟩:∃ q_:F2p,q_ = t10 * t18:=⟨_,rfl⟩
    obtain ⟨t20,ht20⟩:∃ q_:F2p,q_ = t6 * t12:=⟨_,rfl⟩
    obtain ⟨t21,ht21⟩:∃ q_:F2p,q_ = t19 - t20:=⟨_,rfl⟩
    obtain ⟨t22,ht22⟩:∃ q_:F2p,q_ = (⟨dF z0,dF z1⟩:F2p) * (⟨dF w0,dF w1⟩:F2p):=⟨_,rfl⟩
    obtain ⟨t23,ht23⟩:∃ q_:F2p,q_ = t9 * t22:=⟨_,rfl⟩
    refine evS_q mixed tt_ok GSQ_ok 300 [⟨2,3,.lit (.bo false)⟩,⟨4,3,.lit (.bo false)⟩,⟨6,6,.as (eC2 t1)⟩,⟨6,13,.as (eC2 t2)⟩,⟨7,5,.as (eC2 t3)⟩,⟨7,11,.as (eC2 t4)⟩,⟨8,9,.as (eC2 t5)⟩,⟨8,10,.as (eC2 t6)⟩,⟨8,20,.as (eC2 t7)⟩,⟨8,21,.as (eC2 t8)⟩,⟨9,4,.as (eC2 t9)⟩,⟨9,9,.as (eC2 t10)⟩,⟨10,2,.lit (.bo false)⟩,⟨14,4,.as (eC2 t11)⟩,⟨15,4,.as (eC2 t12)⟩,⟨16,4,.as (eC2 t13)⟩,⟨17,8,.as (eC2 t14)⟩,⟨17,10,.as (eC2 t15)⟩,⟨17,15,.as (eC2 t16)⟩,⟨17,16,.as (eC2 t17)⟩,⟨18,10,.as (eC2 t18)⟩,⟨18,11,.as (eC2 t19)⟩,⟨18,16,.as (eC2 t20)⟩,⟨18,17,.as (eC2 t21)⟩,⟨18,27,.as (eC2 t22)⟩,⟨18,28,.as (eC2 t23)⟩] ?_
    refine same (p:=(eqN W 6 z0 fz && (eqN W 6 z1 fz && true)) = false/\(eqN W 6 w0 fz && (eqN W 6 w1 fz && true)) = false/\asP (eD4 mul2x mul2y (dF z0) (dF z1) (dF z0) (dF z1)) (eC2 t1)/\lp z0/\lp z1/\lp z0/\lp z1/\asP (eD4 mul2x mul2y (dF w0) (dF w1) (dF w0) (dF w1)) (eC2 t2)/\lp w0/\lp w1/\lp w0/\lp w1/\asP (eD4 mul2x mul2y (dF x0) (dF x1) (dF (eF t2.x)) (dF (eF t2.y))) (eC2 t3)/\lp x0/\lp x1/\lp (eF t2.x)/\lp (eF t2.y)/\asP (eD4 mul2x mul2y (dF u0) (dF u1) (dF (eF t1.x)) (dF (eF t1.y))) (eC2 t4)/\lp u0/\lp u1/\lp (eF t1.x)/\lp (eF t1.y)/\asP (eD4 mul2x mul2y (dF (eF t2.x)) (dF (eF t2.y)) (dF w0) (dF w1)) (eC2 t5)/\lp (eF t2.x)/\lp (eF t2.y)/\lp w0/\lp w1/\asP (eD4 mul2x mul2y (dF y0) (dF y1) (dF (eF t5.x)) (dF (eF t5.y))) (eC2 t6)/\lp y0/\lp y1/\lp (eF t5.x)/\lp (eF t5.y)/\asP (eD4 mul2x mul2y (dF (eF t1.x)) (dF (eF t1.y)) (dF z0) (dF z1)) (eC2 t7)/\lp (eF t1.x)/\lp (eF t1.y)/\lp z0/\lp z1/\asP (eD4 mul2x mul2y (dF v0) (dF v1) (dF (eF t7.x)) (dF (eF t7.y))) (eC2 t8)/\lp v0/\lp v1/\lp (eF t7.x)/\lp (eF t7.y)/\asP (eD4 sub2x sub2y (dF (eF t4.x)) (dF (eF t4.y)) (dF (eF t3.x)) (dF (eF t3.y))) (eC2 t9)/\lp (eF t4.x)/\lp (eF t4.y)/\lp (eF t3.x)/\lp (eF t3.y)/\asP (eD4 sub2x sub2y (dF (eF t8.x)) (dF (eF t8.y)) (dF (eF t6.x)) (dF (eF t6.y))) (eC2 t10)/\lp (eF t8.x)/\lp (eF t8.y)/\lp (eF t6.x)/\lp (eF t6.y)/\(eqN W 6 (eF t9.x) fz && (eqN W 6 (eF t9.y) fz && true)) = false/\asP (eD4 mul2x mul2y (dF (eF t9.x)) (dF (eF t9.y)) (dF (eF t9.x)) (dF (eF t9.y))) (eC2 t11)/\lp (eF t9.x)/\lp (eF t9.y)/\lp (eF t9.x)/\lp (eF t9.y)/\asP (eD4 mul2x mul2y (dF (eF t11.x)) (dF (eF t11.y)) (dF (eF t9.x)) (dF (eF t9.y))) (eC2 t12)/\lp (eF t11.x)/\lp (eF t11.y)/\lp (eF t9.x)/\lp (eF t9.y)/\asP (eD4 mul2x mul2y (dF (eF t3.x)) (dF (eF t3.y)) (dF (eF t11.x)) (dF (eF t11.y))) (eC2 t13)/\lp (eF t3.x)/\lp (eF t3.y)/\lp (eF t11.x)/\lp (eF t11.y)/\asP (eD4 mul2x mul2y (dF (eF t10.x)) (dF (eF t10.y)) (dF (eF t10.x)) (dF (eF t10.y))) (eC2 t14)/\lp (eF t10.x)/\lp (eF t10.y)/\lp (eF t10.x)/\lp (eF t10.y)/\asP (eD4 sub2x sub2y (dF (eF t14.x)) (dF (eF t14.y)) (dF (eF t12.x)) (dF (eF t12.y))) (eC2 t15)/\lp (eF t14.x)/\lp (eF t14.y)/\lp (eF t12.x)/\lp (eF t12.y)/\asP (eD4 add2x add2y (dF (eF t13.x)) (dF (eF t13.y)) (dF (eF t13.x)) (dF (eF t13.y))) (eC2 t16)/\lp (eF t13.x)/\lp (eF t13.y)/\lp (eF t13.x)/\lp (eF t13.y)/\asP (eD4 sub2x sub2y (dF (eF t15.x)) (dF (eF t15.y)) (dF (eF t16.x)) (dF (eF t16.y))) (eC2 t17)/\lp (eF t15.x)/\lp (eF t15.y)/\lp (eF t16.x)/\lp (eF t16.y)/\asP (eD4 sub2x sub2y (dF (eF t13.x)) (dF (eF t13.y)) (dF (eF t17.x)) (dF (eF t17.y))) (eC2 t18)/\lp (eF t13.x)/\lp (eF t13.y)/\lp (eF t17.x)/\lp (eF t17.y)/\asP (eD4 mul2x mul2y (dF (eF t10.x)) (dF (eF t10.y)) (dF (eF t18.x)) (dF (eF t18.y))) (eC2 t19)/\lp (eF t10.x)/\lp (eF t10.y)/\lp (eF t18.x)/\lp (eF t18.y)/\asP (eD4 mul2x mul2y (dF (eF t6.x)) (dF (eF t6.y)) (dF (eF t12.x)) (dF (eF t12.y))) (eC2 t20)/\lp (eF t6.x)/\lp (eF t6.y)/\lp (eF t12.x)/\lp (eF t12.y)/\asP (eD4 sub2x sub2y (dF (eF t19.x)) (dF (eF t19.y)) (dF (eF t20.x)) (dF (eF t20.y))) (eC2 t21)/\lp (eF t19.x)/\lp (eF t19.y)/\lp (eF t20.x)/\lp (eF t20.y)/\asP (eD4 mul2x mul2y (dF z0) (dF z1) (dF w0) (dF w1)) (eC2 t22)/\lp z0/\lp z1/\lp w0/\lp w1/\asP (eD4 mul2x mul2y (dF (eF t9.x)) (dF (eF t9.y)) (dF (eF t22.x)) (dF (eF t22.y))) (eC2 t23)/\lp (eF t9.x)/\lp (eF t9.y)/\lp (eF t22.x)/\lp (eF t22.y)/\endN (.v1 (.agg [q6 (eF t17.x),q6 (eF t17.y),q6 (eF t21.x),q6 (eF t21.y),q6 (eF t23.x),q6 (eF t23.y)])) (.v1 (.agg [q6 (eF (J3.gen (⟨(⟨dF x0,dF x1⟩:F2p),(⟨dF y0,dF y1⟩:F2p),(⟨dF z0,dF z1⟩:F2p)⟩:J3 F2p) (⟨(⟨dF u0,dF u1⟩:F2p),(⟨dF v0,dF v1⟩:F2p),(⟨dF w0,dF w1⟩:F2p)⟩:J3 F2p)).x.x),q6 (eF (J3.gen (⟨(⟨dF x0,dF x1⟩:F2p),(⟨dF y0,dF y1⟩:F2p),(⟨dF z0,dF z1⟩:F2p)⟩:J3 F2p) (⟨(⟨dF u0,dF u1⟩:F2p),(⟨dF v0,dF v1⟩:F2p),(⟨dF w0,dF w1⟩:F2p)⟩:J3 F2p)).x.y),q6 (eF (J3.gen (⟨(⟨dF x0,dF x1⟩:F2p),(⟨dF y0,dF y1⟩:F2p),(⟨dF z0,dF z1⟩:F2p)⟩:J3 F2p) (⟨(⟨dF u0,dF u1⟩:F2p),(⟨dF v0,dF v1⟩:F2p),(⟨dF w0,dF w1⟩:F2p)⟩:J3 F2p)).y.x),q6 (eF (J3.gen (⟨(⟨dF x0,dF x1⟩:F2p),(⟨dF y0,dF y1⟩:F2p),(⟨dF z0,dF z1⟩:F2p)⟩:J3 F2p) (⟨(⟨dF u0,dF u1⟩:F2p),(⟨dF v0,dF v1⟩:F2p),(⟨dF w0,dF w1⟩:F2p)⟩:J3 F2p)).y.y),q6 (eF (J3.gen (⟨(⟨dF x0,dF x1⟩:F2p),(⟨dF y0,dF y1⟩:F2p),(⟨dF z0,dF z1⟩:F2p)⟩:J3 F2p) (⟨(⟨dF u0,dF u1⟩:F2p),(⟨dF v0,dF v1⟩:F2p),(⟨dF w0,dF w1⟩:F2p)⟩:J3 F2p)).z.x),q6 (eF (J3.gen (⟨(⟨dF x0,dF x1⟩:F2p),(⟨dF y0,dF y1⟩:F2p),(⟨dF z0,dF z1⟩:F2p)⟩:J3 F2p) (⟨(⟨dF u0,dF u1⟩:F2p),(⟨dF v0,dF v1⟩:F2p),(⟨dF w0,dF w1⟩:F2p)⟩:J3 F2p)).z.y)]))) ?_ (by kernel_rfl)
    exact ⟨zQ_f hz0 hz1 hZZ,zQ_f hw0 hw1 hWW,as_mulQ rfl rfl rfl rfl ht1,hz0,hz1,hz0,hz1,as_mulQ rfl rfl rfl rfl ht2,hw0,hw1,hw0,hw1,as_mulQ rfl rfl (dF_eF _) (dF_eF _) ht3,hx0,hx1,lt_eF _,lt_eF _,as_mulQ rfl rfl (dF_eF _) (dF_eF _) ht4,hu0,hu1,lt_eF _,lt_eF _,as_mulQ (dF_eF _) (dF_eF _) rfl rfl ht5,lt_eF _,lt_eF _,hw0,hw1,as_mulQ rfl rfl (dF_eF _) (dF_eF _) ht6,hy0,hy1,lt_eF _,lt_eF _,as_mulQ (dF_eF _) (dF_eF _) rfl rfl ht7,lt_eF _,lt_eF _,hz0,hz1,as_mulQ rfl rfl (dF_eF _) (dF_eF _) ht8,hv0,hv1,lt_eF _,lt_eF _,as_subQ (dF_eF _) (dF_eF _) (dF_eF _) (dF_eF _) ht9,lt_eF _,lt_eF _,lt_eF _,lt_eF _,as_subQ (dF_eF _) (dF_eF _) (dF_eF _) (dF_eF _) ht10,lt_eF _,lt_eF _,lt_eF _,lt_eF _,zQ_f (lt_eF _) (lt_eF _) (by rw [dF_eF,dF_eF];subst ht10 ht9 ht8 ht7 ht6 ht5 ht4 ht3 ht2 ht1;exact hh0),as_mulQ (dF_eF _) (dF_eF _) (dF_eF _) (dF_eF _) ht11,lt_eF _,lt_eF _,lt_eF _,lt_eF _,as_mulQ (dF_eF _) (dF_eF _) (dF_eF _) (dF_eF _) ht12,lt_eF _,lt_eF _,lt_eF _,lt_eF _,as_mulQ (dF_eF _) (dF_eF _) (dF_eF _) (dF_eF _) ht13,lt_eF _,lt_eF _,lt_eF _,lt_eF _,as_mulQ (dF_eF _) (dF_eF _) (dF_eF _) (dF_eF _) ht14,lt_eF _,lt_eF _,lt_eF _,lt_eF _,as_subQ (dF_eF _) (dF_eF _) (dF_eF _) (dF_eF _) ht15,lt_eF _,lt_eF _,lt_eF _,lt_eF _,as_addQ (dF_eF _) (dF_eF _) (dF_eF _) (dF_eF _) ht16,lt_eF _,lt_eF _,lt_eF _,lt_eF _,as_subQ (dF_eF _) (dF_eF _) (dF_eF _) (dF_eF _) ht17,lt_eF _,lt_eF _,lt_eF _,lt_eF _,as_subQ (dF_eF _) (dF_eF _) (dF_eF _) (dF_eF _) ht18,lt_eF _,lt_eF _,lt_eF _,lt_eF _,as_mulQ (dF_eF _) (dF_eF _) (dF_eF _) (dF_eF _) ht19,lt_eF _,lt_eF _,lt_eF _,lt_eF _,as_mulQ (dF_eF _) (dF_eF _) (dF_eF _) (dF_eF _) ht20,lt_eF _,lt_eF _,lt_eF _,lt_eF _,as_subQ (dF_eF _) (dF_eF _) (dF_eF _) (dF_eF _) ht21,lt_eF _,lt_eF _,lt_eF _,lt_eF _,as_mulQ rfl rfl rfl rfl ht22,hz0,hz1,hw0,hw1,as_mulQ (dF_eF _) (dF_eF _) (dF_eF _) (dF_eF _) ht23,lt_eF _,lt_eF _,lt_eF _,lt_eF _,endC (cv_cons (nv_tx (by subst ht23 ht22 ht21 ht20 ht19 ht18 ht17 ht16 ht15 ht14 ht13 ht12 ht11 ht10 ht9 ht8 ht7 ht6 ht5 ht4 ht3 ht2 ht1;rfl)) (cv_cons (nv_ty (by subst ht23 ht22 ht21 ht20 ht19 ht18 ht17 ht16 ht15 ht14 ht13 ht12 ht11 ht10 ht9 ht8 ht7 ht6 ht5 ht4 ht3 ht2 ht1;rfl)) (cv_cons (nv_tx (by subst ht23 ht22 ht21 ht20 ht19 ht18 ht17 ht16 ht15 ht14 ht13 ht12 ht11 ht10 ht9 ht8 ht7 ht6 ht5 ht4 ht3 ht2 ht1;rfl)) (cv_cons (nv_ty (by subst ht23 ht22 ht21 ht20 ht19 ht18 ht17 ht16 ht15 ht14 ht13 ht12 ht11 ht10 ht9 ht8 ht7 ht6 ht5 ht4 ht3 ht2 ht1;rfl)) (cv_cons (nv_tx (by subst ht23 ht22 ht21 ht20 ht19 ht18 ht17 ht16 ht15 ht14 ht13 ht12 ht11 ht10 ht9 ht8 ht7 ht6 ht5 ht4 ht3 ht2 ht1;rfl)) (cv_cons (nv_ty (by subst ht23 ht22 ht21 ht20 ht19 ht18 ht17 ht16 ht15 ht14 ht13 ht12 ht11 ht10 ht9 ht8 ht7 ht6 ht5 ht4 ht3 ht2 ht1;rfl)) (cv_nil)))))))⟩
end Go.Proofs.Ytnjocbcjejpklaa
namespace Go.Proofs.Ytnjocbcjejpklaa
open Go.Rq Go
set_option maxRecDepth 100000
set_option maxHeartbeats 4000000
abbrev fourE:Fp:=(ofN (nv (wd (4 % W))))
def onCE:List AV->Option (List Prop × AV)
 | [.v1 (.agg cs),.v1 (.agg [.ws .u64 6 x,.ws .u64 6 y,.one (.bo z)])]=>some ([cs = fdE,nv x < pN,nv y < pN],.v1 (.sc (.bo (A2.on fourE (⟨(dF x),(dF y),z⟩:A2 Fp)))))
 | _=>none
def raCE:List AV->Option (List Prop × AV)
 | [.v1 (.agg cs),.v1 (.agg [.ws .u64 6 x,.ws .u64 6 y,.one (.bo z)])]=>some ([cs = fdE,nv x < pN,nv y < pN],.v1 (.agg [q6 (eF (A2.raise (⟨(dF x),(dF y),z⟩:A2 Fp)).x),q6 (eF (A2.raise (⟨(dF x),(dF y),z⟩:A2 Fp)).y),q6 (eF (A2.raise (⟨(dF x),(dF y),z⟩:A2 Fp)).z)]))
 | _=>none
def loCE:List AV->Option (List Prop × AV)
 | [.v1 (.agg cs),.v1 (.agg [.ws .u64 6 x,.ws .u64 6 y,.ws .u64 6 z])]=>some ([cs = fdE,nv x < pN,nv y < pN,nv z < pN],.v1 (.agg [q6 (eF (A2.lower eInv (⟨(dF x),(dF y),(dF z)⟩:J3 Fp)).x),q6 (eF (A2.lower eInv (⟨(dF x),(dF y),(dF z)⟩:J3 Fp)).y),.one (.bo (A2.lower eInv (⟨(dF x),(dF y),(dF z)⟩:J3 Fp)).z)]))
 | _=>none
def tiCE:List AV->Option (List Prop × AV)
 | [.v1 (.agg cs),.v1 (.agg [.ws .u64 6 x,.ws .u64 6 y,.ws .u64 6 z]),.v1 (.agg [.ws .u64 6 n])]=>some ([cs = fdE,nv x < pN,nv y < pN,nv z < pN],.v1 (.agg [q6 (eF (J3.times (⟨(dF x),(dF y),(dF z)⟩:J3 Fp) (blen (nv n)) (nv n)).x),q6 (eF (J3.times (⟨(dF x),(dF y),(dF z)⟩:J3 Fp) (blen (nv n)) (nv n)).y),q6 (eF (J3.times (⟨(dF x),(dF y),(dF z)⟩:J3 Fp) (blen (nv n)) (nv n)).z)]))
 | _=>none
def inCE (r:Nat):List AV->Option (List Prop × AV)
 | [.v1 (.agg cs),.v1 (.agg [.ws .u64 6 x,.ws .u64 6 y,.one (.bo z)])]=>some ([cs = fdE,nv x < pN,nv y < pN],.v1 (.sc (.bo (A2.isIn fourE r (⟨(dF x),(dF y),z⟩:A2 Fp)))))
 | _=>none
theorem okOnE:(CallC.pure onCE).Ok Try.prog 62:=by
 intro args pre v e hp
 unfold onCE at e
 split at e
 rotate_left
 ·cases e
 rename_i cs x y z
 cases e
 have hcs:cs = fdE:=hp _ (by simp)
 subst hcs
 have hx:nv x < pN:=hp (nv x < pN) (by simp)
 have hy:nv y < pN:=hp (nv y < pN) (by simp)
 refine pure_walk' tt_ok Try.func62 (by kernel_rfl) (by kernel_rfl) (by rfl) (by rfl) ?_
 cases z
 ·skip
  obtain ⟨t1,ht1⟩:∃ q_:Fp,q_ = (dF y) * (dF y):=⟨_,rfl⟩
  obtain ⟨t2,ht2⟩:∃ q_:Fp,q_ = (dF x) * (dF x):=⟨_,rfl⟩
  obtain ⟨t3,ht3⟩:∃ q_:Fp,q_ = t2 * (dF x):=⟨_,rfl⟩
  obtain ⟨t4,ht4⟩:∃ q_:Fp,q_ = t3 + fourE:=⟨_,rfl⟩
  refine evS_q mixed tt_ok GCE_ok 100 [⟨4,6,.as [q6 (eF t1)]⟩,⟨4,17,.as [q6 (eF t2)]⟩,⟨4,20,.as [q6 (eF t3)]⟩,⟨4,23,.as [q6 (eF t4)]⟩] ?_
  refine same (p:=asP [q6 (eF (eMul (dF y) (dF y)))] [q6 (eF t1)]/\lp y/\asP [q6 (eF (eMul (dF x) (dF x)))] [q6 (eF t2)]/\lp x/\asP [q6 (eF (eMul (dF (eF t2)) (dF x)))] [q6 (eF t3)]/\lp (eF t2)/\asP [q6 (eF (eAdd (dF (eF t3)) (dF (eF (ofN (nv (wd (4 % W))))))))] [q6 (eF t4)]/\lp (eF t3)/\lp (eF (ofN (nv (wd (4 % W)))))/\endN (.v1 (.sc (.bo (eqN W 6 (eF t1) (eF t4) && true)))) (.v1 (.sc (.bo (A2.on fourE (⟨(dF x),(dF y),false⟩:A2 Fp)))))) ?_ (by kernel_rfl)
  exact ⟨as_mulE rfl rfl ht1,hy,as_mulE rfl rfl ht2,hx,as_mulE (dF_eF _) rfl ht3,lt_eF _,as_addE (dF_eF _) (dF_eF _) ht4,lt_eF _,(lt_eF _),endB (by rw [eqE (lt_eF _) (lt_eF _),dF_eF,dF_eF,on_f];exact decide_eq_decide.2 (by rw [ht4,ht3,ht2,ht1]))⟩
 ·by_cases hXX:(dF x) = 0
  ·by_cases hYY:(dF y) = 0
   ·skip
    refine evS_q mixed tt_ok GCE_ok 100 [⟨3,3,.lit (.bo true)⟩,⟨3,8,.lit (.bo true)⟩] ?_
    refine same (p:=(eqN W 6 x fz && true) = true/\(eqN W 6 y fz && true) = true/\endN (.v1 (.sc (.bo true))) (.v1 (.sc (.bo (A2.on fourE (⟨(dF x),(dF y),true⟩:A2 Fp)))))) ?_ (by kernel_rfl)
    exact ⟨zE_t hx hXX,zE_t hy hYY,endB (by rw [on_t,decide_eq_true hXX,decide_eq_true hYY];rfl)⟩
   ·skip
    refine evS_q mixed tt_ok GCE_ok 100 [⟨3,3,.lit (.bo true)⟩,⟨3,8,.lit (.bo false)⟩] ?_
    refine same (p:=(eqN W 6 x fz && true) = true/\(eqN W 6 y fz && true) = false/\endN (.v1 (.sc (.bo false))) (.v1 (.sc (.bo (A2.on fourE (⟨(dF x),(dF y),true⟩:A2 Fp)))))) ?_ (by kernel_rfl)
    exact ⟨zE_t hx hXX,zE_f hy hYY,endB (by rw [on_t,decide_eq_true hXX,decide_eq_false hYY];rfl)⟩
  ·skip
   refine evS_q mixed tt_ok GCE_ok 100 [⟨3,3,.lit (.bo false)⟩] ?_
   refine same (p:=(eqN W 6 x fz && true) = false/\endN (.v1 (.sc (.bo false))) (.v1 (.sc (.bo (A2.on fourE (⟨(dF x),(dF y),true⟩:A2 Fp)))))) ?_ (by kernel_rfl)
   exact ⟨zE_f hx hXX,endB (by rw [on_t,decide_eq_false hXX];rfl)⟩
theorem okRaE:(CallC.pure raCE).Ok Try.prog 65:=by
 intro args pre v e hp
 unfold raCE at e
 split at e
 rotate_left
 ·cases e
 rename_i cs x y z
 cases e
 have hcs:cs = fdE:=hp _ (by simp)
 subst hcs
 have hx:nv x < pN:=hp (nv x < pN) (by simp)
 have hy:nv y < pN:=hp (nv y < pN) (by simp)
 refine pure_walk' tt_ok Try.func65 (by kernel_rfl) (by kernel_rfl) (by rfl) (by rfl) ?_
 cases z
 ·rw [show A2.raise (⟨(dF x),(dF y),false⟩:A2 Fp) = (⟨(dF x),(dF y),1⟩:J3 Fp) from rfl]
  refine evS_q mixed tt_ok GCE_ok 100 [] ?_
  refine same (p:=endN (.v1 (.agg [q6 x,q6 y,q6 oneF])) (.v1 (.agg [q6 (eF ((⟨(dF x),(dF y),1⟩:J3 Fp)).x),q6 (eF ((⟨(dF x),(dF y),1⟩:J3 Fp)).y),q6 (eF ((⟨(dF x),(dF y),1⟩:J3 Fp)).z)]))) ?_ (by kernel_rfl)
  exact endC (cv_cons (nv_d hx) (cv_cons (nv_d hy) (cv_cons nv_one1 (cv_nil))))
 ·rw [show A2.raise (⟨(dF x),(dF y),true⟩:A2 Fp) = (⟨1,1,0⟩:J3 Fp) from rfl]
  refine evS_q mixed tt_ok GCE_ok 100 [] ?_
  refine same (p:=endN (.v1 (.agg [q6 oneF,q6 oneF,q6 fz])) (.v1 (.agg [q6 (eF ((⟨1,1,0⟩:J3 Fp)).x),q6 (eF ((⟨1,1,0⟩:J3 Fp)).y),q6 (eF ((⟨1,1,0⟩:J3 Fp)).z)]))) ?_ (by kernel_rfl)
  exact endC (cv_cons nv_one1 (cv_cons nv_one1 (cv_cons e0x (cv_nil))))
theorem okLoE:(CallC.pure loCE).Ok Try.prog 63:=by
 intro args pre v e hp
 unfold loCE at e
 split at e
 rotate_left
 ·cases e
 rename_i cs x y z
 cases e
 have hcs:cs = fdE:=hp _ (by simp)
 subst hcs
 have hx:nv x < pN:=hp (nv x < pN) (by simp)
 have hy:nv y < pN:=hp (nv y < pN) (by simp)
 have hz:nv z < pN:=hp (nv z < pN) (by simp)
 refine pure_walk' tt_ok Try.func63 (by kernel_rfl) (by kernel_rfl) (by rfl) (by rfl) ?_
 by_cases hZZ:(dF z) = 0
 ·have hlo:A2.lower eInv (⟨(dF x),(dF y),(dF z)⟩:J3 Fp) = ⟨0,0,true⟩:=if_pos hZZ
  rw [hlo]
  refine evS_q mixed tt_ok GCE_ok 100 [⟨2,3,.lit (.bo true)⟩] ?_
  refine same (p:=(eqN W 6 z fz && true) = true/\endN (.v1 (.agg [q6 fz,q6 fz,.one (.bo true)])) (.v1 (.agg [q6 (eF ((⟨0,0,true⟩:A2 Fp)).x),q6 (eF ((⟨0,0,true⟩:A2 Fp)).y),.one (.bo ((⟨0,0,true⟩:A2 Fp)).z)]))) ?_ (by kernel_rfl)
  exact ⟨zE_t hz hZZ,endC (cv_cons e0x (cv_cons e0x (cv_one cv_nil)))⟩
 ·have hlo:A2.lower eInv (⟨(dF x),(dF y),(dF z)⟩:J3 Fp) = (⟨(dF x) * (eInv (dF z) * eInv (dF z)),(dF y) * ((eInv (dF z) * eInv (dF z)) * eInv (dF z)),false⟩:A2 Fp):=if_neg hZZ
  rw [hlo]
  obtain ⟨t1,ht1⟩:∃ q_:Fp,q_ = eInv (dF z):=⟨_,rfl⟩
  obtain ⟨t2,ht2⟩:∃ q_:Fp,q_ = t1 * t1:=⟨_,rfl⟩
  obtain ⟨t3,ht3⟩:∃ q_:Fp,q_ = (dF x) * t2:=⟨_,rfl⟩
  obtain ⟨t4,ht4⟩:∃ q_:Fp,q_ = t2 * t1:=⟨_,rfl⟩
  obtain ⟨t5,ht5⟩:∃ q_:Fp,q_ = (dF y) * t4:=⟨_,rfl⟩
  refine evS_q mixed tt_ok GCE_ok 100 [⟨2,3,.lit (.bo false)⟩,⟨4,4,.as [q6 (eF t1)]⟩,⟨5,4,.as [q6 (eF t2)]⟩,⟨6,5,.as [q6 (eF t3)]⟩,⟨6,14,.as [q6 (eF t4)]⟩,⟨6,15,.as [q6 (eF t5)]⟩] ?_
  refine same (p:=(eqN W 6 z fz && true) = false/\asP [q6 (eF (eInv (dF z)))] [q6 (eF t1)]/\lp z/\asP [q6 (eF (eMul (dF (eF t1)) (dF (eF t1))))] [q6 (eF t2)]/\lp (eF t1)/\asP [q6 (eF (eMul (dF x) (dF (eF t2))))] [q6 (eF t3)]/\lp x/\asP [q6 (eF (eMul (dF (eF t2)) (dF (eF t1))))] [q6 (eF t4)]/\lp (eF t2)/\asP [q6 (eF (eMul (dF y) (dF (eF t4))))] [q6 (eF t5)]/\lp y/\endN (.v1 (.agg [q6 (eF t3),q6 (eF t5),.one (.bo false)])) (.v1 (.agg [q6 (eF ((dF x) * (eInv (dF z) * eInv (dF z)))),q6 (eF ((dF y) * ((eInv (dF z) * eInv (dF z)) * eInv (dF z)))),.one (.bo false)]))) ?_ (by kernel_rfl)
  exact ⟨zE_f hz hZZ,as_invE rfl ht1,hz,as_mulE (dF_eF _) (dF_eF _) ht2,lt_eF _,as_mulE rfl (dF_eF _) ht3,hx,as_mulE (dF_eF _) (dF_eF _) ht4,lt_eF _,as_mulE rfl (dF_eF _) ht5,hy,endC (cv_cons (nv_t (by rw [ht3,ht2,ht1])) (cv_cons (nv_t (by rw [ht5,ht4,ht2,ht1])) (cv_one cv_nil)))⟩
def GtiE:Ctx:=ctxL [(86,.pure (jE1 J3.dbl)),(87,.pure (jE2 J3.add)),(43,.pure cLen),(45,.pure cBit)]
theorem GtiE_ok:CtxOk Try.prog GtiE:=ctxL_cons okTwE <| ctxL_cons okSmE <| ctxL_cons okLen <| ctxL_cons okBit ctxL_nil
abbrev VtiE (k:Nat):List AV:=[pt 0 0,pt 1 0,pt 2 0,pt 3 0,pt 4 0,iv (predI k)]
abbrev HtiE (x y z n:Nat->Nat) (g:Nat->Nat->Nat):Heap:=[some ⟨74,fdE,0,0⟩,some ⟨102,[q6 x,q6 y,q6 z],0,0⟩,nb n,some ⟨102,csE (fun _ _=>0),0,0⟩,some ⟨102,csE g,0,0⟩,none]
def IntiE (P:J3 Fp) (n:Nat) (x:Nat × (Nat->Nat->Nat)):Prop:=x.1 <= blen n/\LtE x.2/\JvE x.2 = J3.times P (blen n - x.1) (n / 2 ^ x.1)
theorem nilvE:JvE (of3 oneF oneF fz) = J3.nil:=by
 rw [JvE_of,dF_one,dF_0];exact nilE.symm
theorem okTiE:(CallC.pure tiCE).Ok Try.prog 64:=by
 intro args pre v e hp
 unfold tiCE at e
 split at e
 rotate_left
 ·cases e
 rename_i cs x y z n
 cases e
 have hcs:cs = fdE:=hp _ (by simp)
 subst hcs
 have hx:nv x < pN:=hp (nv x < pN) (by simp)
 have hy:nv y < pN:=hp (nv y < pN) (by simp)
 have hz:nv z < pN:=hp (nv z < pN) (by simp)
 refine pure_walk' tt_ok Try.func64 (by kernel_rfl) (by kernel_rfl) (by rfl) (by rfl) ?_
 have hbl:=blen_le' n
 refine loopF mixed tt_ok GtiE_ok (by kernel_rfl) (ι:={x_ // IntiE (⟨(dF x),(dF y),(dF z)⟩:J3 Fp) (nv n) x_}) [3,4,5,6,7,8] 33 6 (fun x_=>VtiE x_.1.1) (fun x_=>HtiE x y z n x_.1.2) (fun x_=>x_.1.1) (fun x_=>x_.1.1 = 0)
  (fun _=>rfl) (fun _=>by kernel_rfl) (fun _ _ h=>h.elim) 60 [⟨2,2,.lit (.it (predI (blen (nv n))))⟩] ?_ ?_ ?_
 ·refine same (p:=wrapI (Int.ofNat (blen (nv n)) - 1) = predI (blen (nv n))/\true = true/\∃ j:{x_ // IntiE (⟨(dF x),(dF y),(dF z)⟩:J3 Fp) (nv n) x_},VtiE (blen (nv n)) = VtiE j.1.1/\HtiE x y z n (of3 oneF oneF fz) = HtiE x y z n j.1.2) ?_ (by kernel_rfl)
  refine ⟨predI_eq (by omega),rfl,⟨(blen (nv n),(of3 oneF oneF fz)),Nat.le_refl _,LtE_of lt_one lt_one lt_zero,?_⟩,rfl,rfl⟩
  simp only
  rw [nilvE,Nat.sub_self];rfl
 ·intro ⟨⟨k,g⟩,hk,hg,hv⟩ junk
  simp only at hk hv
  have hg:LtE g:=hg
  cases k with
  | zero =>
   refine roundF mixed tt_ok GtiE_ok 60 [] ?_
   refine same (p:=true = true/\∃ j:{x_ // IntiE (⟨(dF x),(dF y),(dF z)⟩:J3 Fp) (nv n) x_},j.1.1 = 0/\VtiE 0 = VtiE j.1.1/\HtiE x y z n g = HtiE x y z n j.1.2) ?_ (by kernel_rfl)
   exact ⟨rfl,⟨(0,g),hk,hg,hv⟩,rfl,rfl,rfl⟩
  | succ k =>
   have hs:wrapI (Int.ofNat k - 1) = predI k:=predI_eq (by omega)
   have hhalf:nv n / 2 ^ k / 2 = nv n / 2 ^ (k + 1):=by rw [Nat.div_div_eq_div_mul,Nat.pow_succ]
   have hnext:blen (nv n) - k = (blen (nv n) - (k + 1)) + 1:=by omega
   have next:∀ J:J3 Fp,J = J3.times (⟨(dF x),(dF y),(dF z)⟩:J3 Fp) (blen (nv n) - k) (nv n / 2 ^ k)->∃ j:{x_ // IntiE (⟨(dF x),(dF y),(dF z)⟩:J3 Fp) (nv n) x_},j.1.1 < k + 1/\VtiE k = VtiE j.1.1/\HtiE x y z n (selE J) = HtiE x y z n j.1.2 :=
    fun J h'=>⟨⟨(k,selE J),by simp only;omega,LtE_sel J,by simp only;rw [JvE_sel,h']⟩,by simp only;omega,rfl,rfl⟩
   have hbit:nv n / 2 ^ k % 2 = 0∨nv n / 2 ^ k % 2 = 1:=by omega
   rcases hbit with h0 | h0
   ·refine roundF mixed tt_ok GtiE_ok 60 [⟨3,1,.lit (.bo true)⟩,⟨6,3,.lit (.bo false)⟩,⟨4,1,.lit (.it (predI k))⟩] ?_
    refine same (p:=(!ilt (Int.ofNat k) 0) = true/\fdE = fdE/\lp (g 0)/\lp (g 1)/\lp (g 2)/\ieq (Int.ofNat (nv n / 2 ^ k % 2)) 1 = false/\wrapI (Int.ofNat k - 1) = predI k/\true = true /\
     ∃ j:{x_ // IntiE (⟨(dF x),(dF y),(dF z)⟩:J3 Fp) (nv n) x_},j.1.1 < k + 1/\VtiE k = VtiE j.1.1/\HtiE x y z n (selE (J3.dbl (JvE g))) = HtiE x y z n j.1.2) ?_ (by kernel_rfl)
    refine ⟨ilt_nn2 k,rfl,hg.1,hg.2.1,hg.2.2,by rw [h0];rfl,hs,rfl,next _ ?_⟩
    rw [hnext,J3.times,if_neg (by omega),hhalf,hv]
   ·refine roundF mixed tt_ok GtiE_ok 60 [⟨3,1,.lit (.bo true)⟩,⟨6,3,.lit (.bo true)⟩,⟨4,1,.lit (.it (predI k))⟩] ?_
    refine same (p:=(!ilt (Int.ofNat k) 0) = true/\fdE = fdE/\lp (g 0)/\lp (g 1)/\lp (g 2)/\ieq (Int.ofNat (nv n / 2 ^ k % 2)) 1 = true/\fdE = fdE/\lp ((selE (J3.dbl (JvE g))) 0)/\lp ((selE (J3.dbl (JvE g))) 1)/\lp ((selE (J3.dbl (JvE g))) 2)/\lp x/\lp y/\lp z/\wrapI (Int.ofNat k - 1) = predI k/\true = true /\
     ∃ j:{x_ // IntiE (⟨(dF x),(dF y),(dF z)⟩:J3 Fp) (nv n) x_},j.1.1 < k + 1/\VtiE k = VtiE j.1.1/\HtiE x y z n (selE (J3.add (JvE (selE (J3.dbl (JvE g)))) (⟨(dF x),(dF y),(dF z)⟩:J3 Fp))) = HtiE x y z n j.1.2) ?_ (by kernel_rfl)
    refine ⟨ilt_nn2 k,rfl,hg.1,hg.2.1,hg.2.2,by rw [h0];rfl,rfl,lt_eF _,lt_eF _,lt_eF _,hx,hy,hz,hs,rfl,next _ ?_⟩
    rw [JvE_sel,hnext,J3.times,if_pos h0,hhalf,hv]
 ·intro ⟨⟨k,g⟩,hk,hg,hv⟩ junk h0
  simp only at hk hv h0
  have hg:LtE g:=hg
  subst h0
  rw [Nat.sub_zero,Nat.pow_zero,Nat.div_one] at hv
  refine same (p:=endN (.v1 (.agg (csE g))) (.v1 (.agg [q6 (eF (J3.times (⟨(dF x),(dF y),(dF z)⟩:J3 Fp) (blen (nv n)) (nv n)).x),q6 (eF (J3.times (⟨(dF x),(dF y),(dF z)⟩:J3 Fp) (blen (nv n)) (nv n)).y),q6 (eF (J3.times (⟨(dF x),(dF y),(dF z)⟩:J3 Fp) (blen (nv n)) (nv n)).z)]))) ?_ (by kernel_rfl)
  rw [<-hv]
  exact endC (cv_cons (nv_d hg.1) (cv_cons (nv_d hg.2.1) (cv_cons (nv_d hg.2.2) cv_nil)))
def orderF:Nat->Nat:=upd (upd (upd (upd fz 0 18446744069414584321) 1 6034159408538082302) 2 3691218898639771653) 3 8353516859464449352
def rNm:Nat:=52435875175126190479447740508185965837690552500527637822603658699938581184513
theorem nv_order:nv orderF = rNm:=by kernel_rfl
theorem okOrderF:(CallC.pure (cK orderF)).Ok Try.prog 66 :=
 cK_ok Try.func66 (by kernel_rfl) (by kernel_rfl) (same (p:=some (nm orderF) = some (nm orderF)) rfl (by kernel_rfl))
theorem lower_z {F:Type} [CR F] [DecidableEq F] (inv:F->F) (p:J3 F):(A2.lower inv p).z = decide (p.z = 0):=by
 unfold A2.lower
 by_cases h:p.z = 0
 ·rw [if_pos h,decide_eq_true h]
 ·rw [if_neg h,decide_eq_false h]
def GinE:List (Nat × CallC):=[(62,.pure onCE),(65,.pure raCE),(64,.pure tiCE),(63,.pure loCE),(66,.pure (cK orderF))]
theorem GinE_ok:CtxOk Try.prog (ctxL GinE):=ctxL_cons okOnE <| ctxL_cons okRaE <| ctxL_cons okTiE <| ctxL_cons okLoE <| ctxL_cons okOrderF ctxL_nil
theorem okInE:(CallC.pure (inCE rNm)).Ok Try.prog 35:=by
 intro args pre v e hp
 unfold inCE at e
 split at e
 rotate_left
 ·cases e
 rename_i cs x y z
 cases e
 have hcs:cs = fdE:=hp _ (by simp)
 subst hcs
 have hx:nv x < pN:=hp (nv x < pN) (by simp)
 have hy:nv y < pN:=hp (nv y < pN) (by simp)
 refine pure_walk' tt_ok Try.func35 (by kernel_rfl) (by kernel_rfl) (by rfl) (by rfl) ?_
 cases ho:A2.on fourE (⟨(dF x),(dF y),z⟩:A2 Fp)
 ·refine evS_q mixed tt_ok GinE_ok 60 [⟨1,2,.lit (.bo false)⟩] (same (p:=A2.on fourE (⟨(dF x),(dF y),z⟩:A2 Fp) = false/\fdE = fdE/\lp x/\lp y/\endN (.v1 (.sc (.bo false))) (.v1 (.sc (.bo (A2.isIn fourE rNm (⟨(dF x),(dF y),z⟩:A2 Fp)))))) ?_ (by kernel_rfl))
  exact ⟨ho,rfl,hx,hy,endB (by unfold A2.isIn;rw [ho];rfl)⟩
 ·refine evS_q mixed tt_ok GinE_ok 60 [⟨1,2,.lit (.bo true)⟩] (same (p:=A2.on fourE (⟨(dF x),(dF y),z⟩:A2 Fp) = true/\fdE = fdE/\lp x/\lp y/\fdE = fdE/\lp x/\lp y/\fdE = fdE/\lp ((selE (A2.raise (⟨(dF x),(dF y),z⟩:A2 Fp))) 0)/\lp ((selE (A2.raise (⟨(dF x),(dF y),z⟩:A2 Fp))) 1)/\lp ((selE (A2.raise (⟨(dF x),(dF y),z⟩:A2 Fp))) 2)/\fdE = fdE/\nv ((selE (J3.times (JvE (selE (A2.raise (⟨(dF x),(dF y),z⟩:A2 Fp)))) (blen (nv orderF)) (nv orderF))) 0) < pN/\nv ((selE (J3.times (JvE (selE (A2.raise (⟨(dF x),(dF y),z⟩:A2 Fp)))) (blen (nv orderF)) (nv orderF))) 1) < pN/\nv ((selE (J3.times (JvE (selE (A2.raise (⟨(dF x),(dF y),z⟩:A2 Fp)))) (blen (nv orderF)) (nv orderF))) 2) < pN/\endN (.v1 (.sc (.bo (A2.lower eInv (JvE (selE (J3.times (JvE (selE (A2.raise (⟨(dF x),(dF y),z⟩:A2 Fp)))) (blen (nv orderF)) (nv orderF))))).z))) (.v1 (.sc (.bo (A2.isIn fourE rNm (⟨(dF x),(dF y),z⟩:A2 Fp)))))) ?_ (by kernel_rfl))
  refine ⟨ho,rfl,hx,hy,rfl,hx,hy,rfl,lt_eF _,lt_eF _,lt_eF _,rfl,lt_eF _,lt_eF _,lt_eF _,endB ?_⟩
  have e0:JvE (selE (A2.raise (⟨(dF x),(dF y),z⟩:A2 Fp))) = A2.raise (⟨(dF x),(dF y),z⟩:A2 Fp):=JvE_sel _
  have e1:J3.times (JvE (selE (A2.raise (⟨(dF x),(dF y),z⟩:A2 Fp)))) (blen (nv orderF)) (nv orderF) = J3.times (A2.raise (⟨(dF x),(dF y),z⟩:A2 Fp)) (blen (nv orderF)) (nv orderF):=congrArg (fun q=>J3.times q (blen (nv orderF)) (nv orderF)) e0
  have e2:JvE (selE (J3.times (JvE (selE (A2.raise (⟨(dF x),(dF y),z⟩:A2 Fp)))) (blen (nv orderF)) (nv orderF))) = J3.times (JvE (selE (A2.raise (⟨(dF x),(dF y),z⟩:A2 Fp)))) (blen (nv orderF)) (nv orderF):=JvE_sel _
  have e4:J3.times (A2.raise (⟨(dF x),(dF y),z⟩:A2 Fp)) (blen (nv orderF)) (nv orderF) = J3.times (A2.raise (⟨(dF x),(dF y),z⟩:A2 Fp)) (blen rNm) rNm:=by rw [nv_order]
  have e3:(A2.lower eInv (JvE (selE (J3.times (JvE (selE (A2.raise (⟨(dF x),(dF y),z⟩:A2 Fp)))) (blen (nv orderF)) (nv orderF))))).z = decide ((J3.times (A2.raise (⟨(dF x),(dF y),z⟩:A2 Fp)) (blen rNm) rNm).z = 0):=(lower_z eInv _).trans (congrArg (fun q:J3 Fp=>decide (q.z = 0)) (e2.trans (e1.trans e4)))
  refine e3.trans ?_
  unfold A2.isIn A2.mulJ
  rw [ho,Bool.true_and]
end Go.Proofs.Ytnjocbcjejpklaa
namespace Go.Proofs.Ytnjocbcjejpklaa
open Go.Rq Go
set_option maxRecDepth 100000
set_option maxHeartbeats 4000000
abbrev fourQ:F2p:=(⟨ofN (nv (wd (4 % W))),ofN (nv (wd (4 % W)))⟩:F2p)
def onCQ:List AV->Option (List Prop × AV)
 | [.v1 (.agg cs),.v1 (.agg [.ws .u64 6 x0,.ws .u64 6 x1,.ws .u64 6 y0,.ws .u64 6 y1,.one (.bo z)])]=>some ([cs = fdQ,nv x0 < pN,nv x1 < pN,nv y0 < pN,nv y1 < pN],.v1 (.sc (.bo (A2.on fourQ (⟨(⟨dF x0,dF x1⟩:F2p),(⟨dF y0,dF y1⟩:F2p),z⟩:A2 F2p)))))
 | _=>none
def raCQ:List AV->Option (List Prop × AV)
 | [.v1 (.agg cs),.v1 (.agg [.ws .u64 6 x0,.ws .u64 6 x1,.ws .u64 6 y0,.ws .u64 6 y1,.one (.bo z)])]=>some ([cs = fdQ,nv x0 < pN,nv x1 < pN,nv y0 < pN,nv y1 < pN],.v1 (.agg [q6 (eF (A2.raise (⟨(⟨dF x0,dF x1⟩:F2p),(⟨dF y0,dF y1⟩:F2p),z⟩:A2 F2p)).x.x),q6 (eF (A2.raise (⟨(⟨dF x0,dF x1⟩:F2p),(⟨dF y0,dF y1⟩:F2p),z⟩:A2 F2p)).x.y),q6 (eF (A2.raise (⟨(⟨dF x0,dF x1⟩:F2p),(⟨dF y0,dF y1⟩:F2p),z⟩:A2 F2p)).y.x),q6 (eF (A2.raise (⟨(⟨dF x0,dF x1⟩:F2p),(⟨dF y0,dF y1⟩:F2p),z⟩:A2 F2p)).y.y),q6 (eF (A2.raise (⟨(⟨dF x0,dF x1⟩:F2p),(⟨dF y0,dF y1⟩:F2p),z⟩:A2 F2p)).z.x),q6 (eF (A2.raise (⟨(⟨dF x0,dF x1⟩:F2p),(⟨dF y0,dF y1⟩:F2p),z⟩:A2 F2p)).z.y)]))
 | _=>none
def loCQ:List AV->Option (List Prop × AV)
 | [.v1 (.agg cs),.v1 (.agg [.ws .u64 6 x0,.ws .u64 6 x1,.ws .u64 6 y0,.ws .u64 6 y1,.ws .u64 6 z0,.ws .u64 6 z1])]=>some ([cs = fdQ,nv x0 < pN,nv x1 < pN,nv y0 < pN,nv y1 < pN,nv z0 < pN,nv z1 < pN],.v1 (.agg [q6 (eF (A2.lower F2p.inv (⟨(⟨dF x0,dF x1⟩:F2p),(⟨dF y0,dF y1⟩:F2p),(⟨dF z0,dF z1⟩:F2p)⟩:J3 F2p)).x.x),q6 (eF (A2.lower F2p.inv (⟨(⟨dF x0,dF x1⟩:F2p),(⟨dF y0,dF y1⟩:F2p),(⟨dF z0,dF z1⟩:F2p)⟩:J3 F2p)).x.y),q6 (eF (A2.lower F2p.inv (⟨(⟨dF x0,dF x1⟩:F2p),(⟨dF y0,dF y1⟩:F2p),(⟨dF z0,dF z1⟩:F2p)⟩:J3 F2p)).y.x),q6 (eF (A2.lower F2p.inv (⟨(⟨dF x0,dF x1⟩:F2p),(⟨dF y0,dF y1⟩:F2p),(⟨dF z0,dF z1⟩:F2p)⟩:J3 F2p)).y.y),.one (.bo (A2.lower F2p.inv (⟨(⟨dF x0,dF x1⟩:F2p),(⟨dF y0,dF y1⟩:F2p),(⟨dF z0,dF z1⟩:F2p)⟩:J3 F2p)).z)]))
 | _=>none
def tiCQ:List AV->Option (List Prop × AV)
 | [.v1 (.agg cs),.v1 (.agg [.ws .u64 6 x0,.ws .u64 6 x1,.ws .u64 6 y0,.ws .u64 6 y1,.ws .u64 6 z0,.ws .u64 6 z1]),.v1 (.agg [.ws .u64 6 n])]=>some ([cs = fdQ,nv x0 < pN,nv x1 < pN,nv y0 < pN,nv y1 < pN,nv z0 < pN,nv z1 < pN],.v1 (.agg [q6 (eF (J3.times (⟨(⟨dF x0,dF x1⟩:F2p),(⟨dF y0,dF y1⟩:F2p),(⟨dF z0,dF z1⟩:F2p)⟩:J3 F2p) (blen (nv n)) (nv n)).x.x),q6 (eF (J3.times (⟨(⟨dF x0,dF x1⟩:F2p),(⟨dF y0,dF y1⟩:F2p),(⟨dF z0,dF z1⟩:F2p)⟩:J3 F2p) (blen (nv n)) (nv n)).x.y),q6 (eF (J3.times (⟨(⟨dF x0,dF x1⟩:F2p),(⟨dF y0,dF y1⟩:F2p),(⟨dF z0,dF z1⟩:F2p)⟩:J3 F2p) (blen (nv n)) (nv n)).y.x),q6 (eF (J3.times (⟨(⟨dF x0,dF x1⟩:F2p),(⟨dF y0,dF y1⟩:F2p),(⟨dF z0,dF z1⟩:F2p)⟩:J3 F2p) (blen (nv n)) (nv n)).y.y),q6 (eF (J3.times (⟨(⟨dF x0,dF x1⟩:F2p),(⟨dF y0,dF y1⟩:F2p),(⟨dF z0,dF z1⟩:F2p)⟩:J3 F2p) (blen (nv n)) (nv n)).z.x),q6 (eF (J3.times (⟨(⟨dF x0,dF x1⟩:F2p),(⟨dF y0,dF y1⟩:F2p),(⟨dF z0,dF z1⟩:F2p)⟩:J3 F2p) (blen (nv n)) (nv n)).z.y)]))
 | _=>none
def inCQ (r:Nat):List AV->Option (List Prop × AV)
 | [.v1 (.agg cs),.v1 (.agg [.ws .u64 6 x0,.ws .u64 6 x1,.ws .u64 6 y0,.ws .u64 6 y1,.one (.bo z)])]=>some ([cs = fdQ,nv x0 < pN,nv x1 < pN,nv y0 < pN,nv y1 < pN],.v1 (.sc (.bo (A2.isIn fourQ r (⟨(⟨dF x0,dF x1⟩:F2p),(⟨dF y0,dF y1⟩:F2p),z⟩:A2 F2p)))))
 | _=>none
theorem okOnQ:(CallC.pure onCQ).Ok Try.prog 68:=by
 intro args pre v e hp
 unfold onCQ at e
 split at e
 rotate_left
 ·cases e
 rename_i cs x0 x1 y0 y1 z
 cases e
 have hcs:cs = fdQ:=hp _ (by simp)
 subst hcs
 have hx0:nv x0 < pN:=hp (nv x0 < pN) (by simp)
 have hx1:nv x1 < pN:=hp (nv x1 < pN) (by simp)
 have hy0:nv y0 < pN:=hp (nv y0 < pN) (by simp)
 have hy1:nv y1 < pN:=hp (nv y1 < pN) (by simp)
 refine pure_walk' tt_ok Try.func68 (by kernel_rfl) (by kernel_rfl) (by rfl) (by rfl) ?_
 cases z
 ·skip
  obtain ⟨t1,ht1⟩:∃ q_:F2p,q_ = (⟨dF y0,dF y1⟩:F2p) * (⟨dF y0,dF y1⟩:F2p):=⟨_,rfl⟩
  obtain ⟨t2,ht2⟩:∃ q_:F2p,q_ = (⟨dF x0,dF x1⟩:F2p) * (⟨dF x0,dF x1⟩:F2p):=⟨_,rfl⟩
  obtain ⟨t3,ht3⟩:∃ q_:F2p,q_ = t2 * (⟨dF x0,dF x1⟩:F2p):=⟨_,rfl⟩
  obtain ⟨t4,ht4⟩:∃ q_:F2p,q_ = t3 + fourQ:=⟨_,rfl⟩
  refine evS_q mixed tt_ok GCQ_ok 100 [⟨4,6,.as (eC2 t1)⟩,⟨4,17,.as (eC2 t2)⟩,⟨4,20,.as (eC2 t3)⟩,⟨4,23,.as (eC2 t4)⟩] ?_
  refine same (p:=asP (eD4 mul2x mul2y (dF y0) (dF y1) (dF y0) (dF y1)) (eC2 t1)/\lp y0/\lp y1/\lp y0/\lp y1/\asP (eD4 mul2x mul2y (dF x0) (dF x1) (dF x0) (dF x1)) (eC2 t2)/\lp x0/\lp x1/\lp x0/\lp x1/\asP (eD4 mul2x mul2y (dF (eF t2.x)) (dF (eF t2.y)) (dF x0) (dF x1)) (eC2 t3)/\lp (eF t2.x)/\lp (eF t2.y)/\lp x0/\lp x1/\asP [q6 (eF (add2x (dF (eF t3.x)) (dF (eF t3.y)) (dF (eF (ofN (nv (wd (4 % W)))))) (dF (eF (ofN (nv (wd (4 % W)))))))),q6 (eF (add2y (dF (eF t3.x)) (dF (eF t3.y)) (dF (eF (ofN (nv (wd (4 % W)))))) (dF (eF (ofN (nv (wd (4 % W))))))))] (eC2 t4)/\lp (eF t3.x)/\lp (eF t3.y)/\lp (eF (ofN (nv (wd (4 % W)))))/\lp (eF (ofN (nv (wd (4 % W)))))/\endN (.v1 (.sc (.bo (eqN W 6 (eF t1.x) (eF t4.x) && (eqN W 6 (eF t1.y) (eF t4.y) && true))))) (.v1 (.sc (.bo (A2.on fourQ (⟨(⟨dF x0,dF x1⟩:F2p),(⟨dF y0,dF y1⟩:F2p),false⟩:A2 F2p)))))) ?_ (by kernel_rfl)
  exact ⟨as_mulQ rfl rfl rfl rfl ht1,hy0,hy1,hy0,hy1,as_mulQ rfl rfl rfl rfl ht2,hx0,hx1,hx0,hx1,as_mulQ (dF_eF _) (dF_eF _) rfl rfl ht3,lt_eF _,lt_eF _,hx0,hx1,as_addQ (dF_eF _) (dF_eF _) (dF_eF _) (dF_eF _) ht4,lt_eF _,lt_eF _,(lt_eF _),(lt_eF _),endB (by rw [eqQ (lt_eF _) (lt_eF _) (lt_eF _) (lt_eF _),dF_eF,dF_eF,dF_eF,dF_eF,on_f];exact decide_eq_decide.2 (by rw [ht4,ht3,ht2,ht1]))⟩
 ·by_cases hXX:(⟨dF x0,dF x1⟩:F2p) = 0
  ·by_cases hYY:(⟨dF y0,dF y1⟩:F2p) = 0
   ·skip
    refine evS_q mixed tt_ok GCQ_ok 100 [⟨3,3,.lit (.bo true)⟩,⟨3,8,.lit (.bo true)⟩] ?_
    refine same (p:=(eqN W 6 x0 fz && (eqN W 6 x1 fz && true)) = true/\(eqN W 6 y0 fz && (eqN W 6 y1 fz && true)) = true/\endN (.v1 (.sc (.bo true))) (.v1 (.sc (.bo (A2.on fourQ (⟨(⟨dF x0,dF x1⟩:F2p),(⟨dF y0,dF y1⟩:F2p),true⟩:A2 F2p)))))) ?_ (by kernel_rfl)
    exact ⟨zQ_t hx0 hx1 hXX,zQ_t hy0 hy1 hYY,endB (by rw [on_t,decide_eq_true hXX,decide_eq_true hYY];rfl)⟩
   ·skip
    refine evS_q mixed tt_ok GCQ_ok 100 [⟨3,3,.lit (.bo true)⟩,⟨3,8,.lit (.bo false)⟩] ?_
    refine same (p:=(eqN W 6 x0 fz && (eqN W 6 x1 fz && true)) = true/\(eqN W 6 y0 fz && (eqN W 6 y1 fz && true)) = false/\endN (.v1 (.sc (.bo false))) (.v1 (.sc (.bo (A2.on fourQ (⟨(⟨dF x0,dF x1⟩:F2p),(⟨dF y0,dF y1⟩:F2p),true⟩:A2 F2p)))))) ?_ (by kernel_rfl)
    exact ⟨zQ_t hx0 hx1 hXX,zQ_f hy0 hy1 hYY,endB (by rw [on_t,decide_eq_true hXX,decide_eq_false hYY];rfl)⟩
  ·skip
   refine evS_q mixed tt_ok GCQ_ok 100 [⟨3,3,.lit (.bo false)⟩] ?_
   refine same (p:=(eqN W 6 x0 fz && (eqN W 6 x1 fz && true)) = false/\endN (.v1 (.sc (.bo false))) (.v1 (.sc (.bo (A2.on fourQ (⟨(⟨dF x0,dF x1⟩:F2p),(⟨dF y0,dF y1⟩:F2p),true⟩:A2 F2p)))))) ?_ (by kernel_rfl)
   exact ⟨zQ_f hx0 hx1 hXX,endB (by rw [on_t,decide_eq_false hXX];rfl)⟩
theorem okRaQ:(CallC.pure raCQ).Ok Try.prog 71:=by
 intro args pre v e hp
 unfold raCQ at e
 split at e
 rotate_left
 ·cases e
 rename_i cs x0 x1 y0 y1 z
 cases e
 have hcs:cs = fdQ:=hp _ (by simp)
 subst hcs
 have hx0:nv x0 < pN:=hp (nv x0 < pN) (by simp)
 have hx1:nv x1 < pN:=hp (nv x1 < pN) (by simp)
 have hy0:nv y0 < pN:=hp (nv y0 < pN) (by simp)
 have hy1:nv y1 < pN:=hp (nv y1 < pN) (by simp)
 refine pure_walk' tt_ok Try.func71 (by kernel_rfl) (by kernel_rfl) (by rfl) (by rfl) ?_
 cases z
 ·rw [show A2.raise (⟨(⟨dF x0,dF x1⟩:F2p),(⟨dF y0,dF y1⟩:F2p),false⟩:A2 F2p) = (⟨(⟨dF x0,dF x1⟩:F2p),(⟨dF y0,dF y1⟩:F2p),1⟩:J3 F2p) from rfl]
  refine evS_q mixed tt_ok GCQ_ok 100 [] ?_
  refine same (p:=endN (.v1 (.agg [q6 x0,q6 x1,q6 y0,q6 y1,q6 oneF,q6 fz])) (.v1 (.agg [q6 (eF ((⟨(⟨dF x0,dF x1⟩:F2p),(⟨dF y0,dF y1⟩:F2p),1⟩:J3 F2p)).x.x),q6 (eF ((⟨(⟨dF x0,dF x1⟩:F2p),(⟨dF y0,dF y1⟩:F2p),1⟩:J3 F2p)).x.y),q6 (eF ((⟨(⟨dF x0,dF x1⟩:F2p),(⟨dF y0,dF y1⟩:F2p),1⟩:J3 F2p)).y.x),q6 (eF ((⟨(⟨dF x0,dF x1⟩:F2p),(⟨dF y0,dF y1⟩:F2p),1⟩:J3 F2p)).y.y),q6 (eF ((⟨(⟨dF x0,dF x1⟩:F2p),(⟨dF y0,dF y1⟩:F2p),1⟩:J3 F2p)).z.x),q6 (eF ((⟨(⟨dF x0,dF x1⟩:F2p),(⟨dF y0,dF y1⟩:F2p),1⟩:J3 F2p)).z.y)]))) ?_ (by kernel_rfl)
  exact endC (cv_cons (nv_d hx0) (cv_cons (nv_d hx1) (cv_cons (nv_d hy0) (cv_cons (nv_d hy1) (cv_cons q1x (cv_cons q1y (cv_nil)))))))
 ·rw [show A2.raise (⟨(⟨dF x0,dF x1⟩:F2p),(⟨dF y0,dF y1⟩:F2p),true⟩:A2 F2p) = (⟨1,1,0⟩:J3 F2p) from rfl]
  refine evS_q mixed tt_ok GCQ_ok 100 [] ?_
  refine same (p:=endN (.v1 (.agg [q6 oneF,q6 fz,q6 oneF,q6 fz,q6 fz,q6 fz])) (.v1 (.agg [q6 (eF ((⟨1,1,0⟩:J3 F2p)).x.x),q6 (eF ((⟨1,1,0⟩:J3 F2p)).x.y),q6 (eF ((⟨1,1,0⟩:J3 F2p)).y.x),q6 (eF ((⟨1,1,0⟩:J3 F2p)).y.y),q6 (eF ((⟨1,1,0⟩:J3 F2p)).z.x),q6 (eF ((⟨1,1,0⟩:J3 F2p)).z.y)]))) ?_ (by kernel_rfl)
  exact endC (cv_cons q1x (cv_cons q1y (cv_cons q1x (cv_cons q1y (cv_cons q0x (cv_cons q0y (cv_nil)))))))
theorem okLoQ:(CallC.pure loCQ).Ok Try.prog 69:=by
 intro args pre v e hp
 unfold loCQ at e
 split at e
 rotate_left
 ·cases e
 rename_i cs x0 x1 y0 y1 z0 z1
 cases e
 have hcs:cs = fdQ:=hp _ (by simp)
 subst hcs
 have hx0:nv x0 < pN:=hp (nv x0 < pN) (by simp)
 have hx1:nv x1 < pN:=hp (nv x1 < pN) (by simp)
 have hy0:nv y0 < pN:=hp (nv y0 < pN) (by simp)
 have hy1:nv y1 < pN:=hp (nv y1 < pN) (by simp)
 have hz0:nv z0 < pN:=hp (nv z0 < pN) (by simp)
 have hz1:nv z1 < pN:=hp (nv z1 < pN) (by simp)
 refine pure_walk' tt_ok Try.func69 (by kernel_rfl) (by kernel_rfl) (by rfl) (by rfl) ?_
 by_cases hZZ:(⟨dF z0,dF z1⟩:F2p) = 0
 ·have hlo:A2.lower F2p.inv (⟨(⟨dF x0,dF x1⟩:F2p),(⟨dF y0,dF y1⟩:F2p),(⟨dF z0,dF z1⟩:F2p)⟩:J3 F2p) = ⟨0,0,true⟩:=if_pos hZZ
  rw [hlo]
  refine evS_q mixed tt_ok GCQ_ok 100 [⟨2,3,.lit (.bo true)⟩] ?_
  refine same (p:=(eqN W 6 z0 fz && (eqN W 6 z1 fz && true)) = true/\endN (.v1 (.agg [q6 fz,q6 fz,q6 fz,q6 fz,.one (.bo true)])) (.v1 (.agg [q6 (eF ((⟨0,0,true⟩:A2 F2p)).x.x),q6 (eF ((⟨0,0,true⟩:A2 F2p)).x.y),q6 (eF ((⟨0,0,true⟩:A2 F2p)).y.x),q6 (eF ((⟨0,0,true⟩:A2 F2p)).y.y),.one (.bo ((⟨0,0,true⟩:A2 F2p)).z)]))) ?_ (by kernel_rfl)
  exact ⟨zQ_t hz0 hz1 hZZ,endC (cv_cons q0x (cv_cons q0y (cv_cons q0x (cv_cons q0y (cv_one cv_nil)))))⟩
 ·have hlo:A2.lower F2p.inv (⟨(⟨dF x0,dF x1⟩:F2p),(⟨dF y0,dF y1⟩:F2p),(⟨dF z0,dF z1⟩:F2p)⟩:J3 F2p) = (⟨(⟨dF x0,dF x1⟩:F2p) * (F2p.inv (⟨dF z0,dF z1⟩:F2p) * F2p.inv (⟨dF z0,dF z1⟩:F2p)),(⟨dF y0,dF y1⟩:F2p) * ((F2p.inv (⟨dF z0,dF z1⟩:F2p) * F2p.inv (⟨dF z0,dF z1⟩:F2p)) * F2p.inv (⟨dF z0,dF z1⟩:F2p)),false⟩:A2 F2p):=if_neg hZZ
  rw [hlo]
  obtain ⟨t1,ht1⟩:∃ q_:F2p,q_ = F2p.inv (⟨dF z0,dF z1⟩:F2p):=⟨_,rfl⟩
  obtain ⟨t2,ht2⟩:∃ q_:F2p,q_ = t1 * t1:=⟨_,rfl⟩
  obtain ⟨t3,ht3⟩:∃ q_:F2p,q_ = (⟨dF x0,dF x1⟩:F2p) * t2:=⟨_,rfl⟩
  obtain ⟨t4,ht4⟩:∃ q_:F2p,q_ = t2 * t1:=⟨_,rfl⟩
  obtain ⟨t5,ht5⟩:∃ q_:F2p,q_ = (⟨dF y0,dF y1⟩:F2p) * t4:=⟨_,rfl⟩
  refine evS_q mixed tt_ok GCQ_ok 100 [⟨2,3,.lit (.bo false)⟩,⟨4,4,.as (eC2 t1)⟩,⟨5,4,.as (eC2 t2)⟩,⟨6,5,.as (eC2 t3)⟩,⟨6,14,.as (eC2 t4)⟩,⟨6,15,.as (eC2 t5)⟩] ?_
  refine same (p:=(eqN W 6 z0 fz && (eqN W 6 z1 fz && true)) = false/\asP [q6 (eF (inv2x (dF z0) (dF z1))),q6 (eF (inv2y (dF z0) (dF z1)))] (eC2 t1)/\lp z0/\lp z1/\asP (eD4 mul2x mul2y (dF (eF t1.x)) (dF (eF t1.y)) (dF (eF t1.x)) (dF (eF t1.y))) (eC2 t2)/\lp (eF t1.x)/\lp (eF t1.y)/\lp (eF t1.x)/\lp (eF t1.y)/\asP (eD4 mul2x mul2y (dF x0) (dF x1) (dF (eF t2.x)) (dF (eF t2.y))) (eC2 t3)/\lp x0/\lp x1/\lp (eF t2.x)/\lp (eF t2.y)/\asP (eD4 mul2x mul2y (dF (eF t2.x)) (dF (eF t2.y)) (dF (eF t1.x)) (dF (eF t1.y))) (eC2 t4)/\lp (eF t2.x)/\lp (eF t2.y)/\lp (eF t1.x)/\lp (eF t1.y)/\asP (eD4 mul2x mul2y (dF y0) (dF y1) (dF (eF t4.x)) (dF (eF t4.y))) (eC2 t5)/\lp y0/\lp y1/\lp (eF t4.x)/\lp (eF t4.y)/\endN (.v1 (.agg [q6 (eF t3.x),q6 (eF t3.y),q6 (eF t5.x),q6 (eF t5.y),.one (.bo false)])) (.v1 (.agg [q6 (eF ((⟨dF x0,dF x1⟩:F2p) * (F2p.inv (⟨dF z0,dF z1⟩:F2p) * F2p.inv (⟨dF z0,dF z1⟩:F2p))).x),q6 (eF ((⟨dF x0,dF x1⟩:F2p) * (F2p.inv (⟨dF z0,dF z1⟩:F2p) * F2p.inv (⟨dF z0,dF z1⟩:F2p))).y),q6 (eF ((⟨dF y0,dF y1⟩:F2p) * ((F2p.inv (⟨dF z0,dF z1⟩:F2p) * F2p.inv (⟨dF z0,dF z1⟩:F2p)) * F2p.inv (⟨dF z0,dF z1⟩:F2p))).x),q6 (eF ((⟨dF y0,dF y1⟩:F2p) * ((F2p.inv (⟨dF z0,dF z1⟩:F2p) * F2p.inv (⟨dF z0,dF z1⟩:F2p)) * F2p.inv (⟨dF z0,dF z1⟩:F2p))).y),.one (.bo false)]))) ?_ (by kernel_rfl)
  exact ⟨zQ_f hz0 hz1 hZZ,as_invQ rfl rfl ht1,hz0,hz1,as_mulQ (dF_eF _) (dF_eF _) (dF_eF _) (dF_eF _) ht2,lt_eF _,lt_eF _,lt_eF _,lt_eF _,as_mulQ rfl rfl (dF_eF _) (dF_eF _) ht3,hx0,hx1,lt_eF _,lt_eF _,as_mulQ (dF_eF _) (dF_eF _) (dF_eF _) (dF_eF _) ht4,lt_eF _,lt_eF _,lt_eF _,lt_eF _,as_mulQ rfl rfl (dF_eF _) (dF_eF _) ht5,hy0,hy1,lt_eF _,lt_eF _,endC (cv_cons (nv_tx (by rw [ht3,ht2,ht1])) (cv_cons (nv_ty (by rw [ht3,ht2,ht1])) (cv_cons (nv_tx (by rw [ht5,ht4,ht2,ht1])) (cv_cons (nv_ty (by rw [ht5,ht4,ht2,ht1])) (cv_one cv_nil)))))⟩
def GtiQ:Ctx:=ctxL [(90,.pure (jQ1 J3.dbl)),(91,.pure (jQ2 J3.add)),(43,.pure cLen),(45,.pure cBit)]
theorem GtiQ_ok:CtxOk Try.prog GtiQ:=ctxL_cons okTwQ <| ctxL_cons okSmQ <| ctxL_cons okLen <| ctxL_cons okBit ctxL_nil
abbrev VtiQ (k:Nat):List AV:=[pt 0 0,pt 1 0,pt 2 0,pt 3 0,pt 4 0,iv (predI k)]
abbrev HtiQ (x0 x1 y0 y1 z0 z1 n:Nat->Nat) (g:Nat->Nat->Nat):Heap:=[some ⟨83,fdQ,0,0⟩,some ⟨108,[q6 x0,q6 x1,q6 y0,q6 y1,q6 z0,q6 z1],0,0⟩,nb n,some ⟨108,csQ (fun _ _=>0),0,0⟩,some ⟨108,csQ g,0,0⟩,none]
def IntiQ (P:J3 F2p) (n:Nat) (x:Nat × (Nat->Nat->Nat)):Prop:=x.1 <= blen n/\LtQ x.2/\JvQ x.2 = J3.times P (blen n - x.1) (n / 2 ^ x.1)
theorem nilvQ:JvQ (of6 oneF fz oneF fz fz fz) = J3.nil:=by
 rw [JvQ_of,one_Q,zero_Q];exact nilQ.symm
theorem okTiQ:(CallC.pure tiCQ).Ok Try.prog 70:=by
 intro args pre v e hp
 unfold tiCQ at e
 split at e
 rotate_left
 ·cases e
 rename_i cs x0 x1 y0 y1 z0 z1 n
 cases e
 have hcs:cs = fdQ:=hp _ (by simp)
 subst hcs
 have hx0:nv x0 < pN:=hp (nv x0 < pN) (by simp)
 have hx1:nv x1 < pN:=hp (nv x1 < pN) (by simp)
 have hy0:nv y0 < pN:=hp (nv y0 < pN) (by simp)
 have hy1:nv y1 < pN:=hp (nv y1 < pN) (by simp)
 have hz0:nv z0 < pN:=hp (nv z0 < pN) (by simp)
 have hz1:nv z1 < pN:=hp (nv z1 < pN) (by simp)
 refine pure_walk' tt_ok Try.func70 (by kernel_rfl) (by kernel_rfl) (by rfl) (by rfl) ?_
 have hbl:=blen_le' n
 refine loopF mixed tt_ok GtiQ_ok (by kernel_rfl) (ι:={x_ // IntiQ (⟨(⟨dF x0,dF x1⟩:F2p),(⟨dF y0,dF y1⟩:F2p),(⟨dF z0,dF z1⟩:F2p)⟩:J3 F2p) (nv n) x_}) [3,4,5,6,7,8] 33 6 (fun x_=>VtiQ x_.1.1) (fun x_=>HtiQ x0 x1 y0 y1 z0 z1 n x_.1.2) (fun x_=>x_.1.1) (fun x_=>x_.1.1 = 0)
  (fun _=>rfl) (fun _=>by kernel_rfl) (fun _ _ h=>h.elim) 60 [⟨2,2,.lit (.it (predI (blen (nv n))))⟩] ?_ ?_ ?_
 ·refine same (p:=wrapI (Int.ofNat (blen (nv n)) - 1) = predI (blen (nv n))/\true = true/\∃ j:{x_ // IntiQ (⟨(⟨dF x0,dF x1⟩:F2p),(⟨dF y0,dF y1⟩:F2p),(⟨dF z0,dF z1⟩:F2p)⟩:J3 F2p) (nv n) x_},VtiQ (blen (nv n)) = VtiQ j.1.1/\HtiQ x0 x1 y0 y1 z0 z1 n (of6 oneF fz oneF fz fz fz) = HtiQ x0 x1 y0 y1 z0 z1 n j.1.2) ?_ (by kernel_rfl)
  refine ⟨predI_eq (by omega),rfl,⟨(blen (nv n),(of6 oneF fz oneF fz fz fz)),Nat.le_refl _,LtQ_of lt_one lt_zero lt_one lt_zero lt_zero lt_zero,?_⟩,rfl,rfl⟩
  simp only
  rw [nilvQ,Nat.sub_self];rfl
 ·intro ⟨⟨k,g⟩,hk,hg,hv⟩ junk
  simp only at hk hv
  have hg:LtQ g:=hg
  cases k with
  | zero =>
   refine roundF mixed tt_ok GtiQ_ok 60 [] ?_
   refine same (p:=true = true/\∃ j:{x_ // IntiQ (⟨(⟨dF x0,dF x1⟩:F2p),(⟨dF y0,dF y1⟩:F2p),(⟨dF z0,dF z1⟩:F2p)⟩:J3 F2p) (nv n) x_},j.1.1 = 0/\VtiQ 0 = VtiQ j.1.1/\HtiQ x0 x1 y0 y1 z0 z1 n g = HtiQ x0 x1 y0 y1 z0 z1 n j.1.2) ?_ (by kernel_rfl)
   exact ⟨rfl,⟨(0,g),hk,hg,hv⟩,rfl,rfl,rfl⟩
  | succ k =>
   have hs:wrapI (Int.ofNat k - 1) = predI k:=predI_eq (by omega)
   have hhalf:nv n / 2 ^ k / 2 = nv n / 2 ^ (k + 1):=by rw [Nat.div_div_eq_div_mul,Nat.pow_succ]
   have hnext:blen (nv n) - k = (blen (nv n) - (k + 1)) + 1:=by omega
   have next:∀ J:J3 F2p,J = J3.times (⟨(⟨dF x0,dF x1⟩:F2p),(⟨dF y0,dF y1⟩:F2p),(⟨dF z0,dF z1⟩:F2p)⟩:J3 F2p) (blen (nv n) - k) (nv n / 2 ^ k)->∃ j:{x_ // IntiQ (⟨(⟨dF x0,dF x1⟩:F2p),(⟨dF y0,dF y1⟩:F2p),(⟨dF z0,dF z1⟩:F2p)⟩:J3 F2p) (nv n) x_},j.1.1 < k + 1/\VtiQ k = VtiQ j.1.1/\HtiQ x0 x1 y0 y1 z0 z1 n (selQ J) = HtiQ x0 x1 y0 y1 z0 z1 n j.1.2 :=
    fun J h'=>⟨⟨(k,selQ J),by simp only;omega,LtQ_sel J,by simp only;rw [JvQ_sel,h']⟩,by simp only;omega,rfl,rfl⟩
   have hbit:nv n / 2 ^ k % 2 = 0∨nv n / 2 ^ k % 2 = 1:=by omega
   rcases hbit with h0 | h0
   ·refine roundF mixed tt_ok GtiQ_ok 60 [⟨3,1,.lit (.bo true)⟩,⟨6,3,.lit (.bo false)⟩,⟨4,1,.lit (.it (predI k))⟩] ?_
    refine same (p:=(!ilt (Int.ofNat k) 0) = true/\fdQ = fdQ/\lp (g 0)/\lp (g 1)/\lp (g 2)/\lp (g 3)/\lp (g 4)/\lp (g 5)/\ieq (Int.ofNat (nv n / 2 ^ k % 2)) 1 = false/\wrapI (Int.ofNat k - 1) = predI k/\true = true /\
     ∃ j:{x_ // IntiQ (⟨(⟨dF x0,dF x1⟩:F2p),(⟨dF y0,dF y1⟩:F2p),(⟨dF z0,dF z1⟩:F2p)⟩:J3 F2p) (nv n) x_},j.1.1 < k + 1/\VtiQ k = VtiQ j.1.1/\HtiQ x0 x1 y0 y1 z0 z1 n (selQ (J3.dbl (JvQ g))) = HtiQ x0 x1 y0 y1 z0 z1 n j.1.2) ?_ (by kernel_rfl)
    refine ⟨ilt_nn2 k,rfl,hg.1,hg.2.1,hg.2.2.1,hg.2.2.2.1,hg.2.2.2.2.1,hg.2.2.2.2.2,by rw [h0];rfl,hs,rfl,next _ ?_⟩
    rw [hnext,J3.times,if_neg (by omega),hhalf,hv]
   ·refine roundF mixed tt_ok GtiQ_ok 60 [⟨3,1,.lit (.bo true)⟩,⟨6,3,.lit (.bo true)⟩,⟨4,1,.lit (.it (predI k))⟩] ?_
    refine same (p:=(!ilt (Int.ofNat k) 0) = true/\fdQ = fdQ/\lp (g 0)/\lp (g 1)/\lp (g 2)/\lp (g 3)/\lp (g 4)/\lp (g 5)/\ieq (Int.ofNat (nv n / 2 ^ k % 2)) 1 = true/\fdQ = fdQ/\lp ((selQ (J3.dbl (JvQ g))) 0)/\lp ((selQ (J3.dbl (JvQ g))) 1)/\lp ((selQ (J3.dbl (JvQ g))) 2)/\lp ((selQ (J3.dbl (JvQ g))) 3)/\lp ((selQ (J3.dbl (JvQ g))) 4)/\lp ((selQ (J3.dbl (JvQ g))) 5)/\lp x0/\lp x1/\lp y0/\lp y1/\lp z0/\lp z1/\wrapI (Int.ofNat k - 1) = predI k/\true = true /\
     ∃ j:{x_ // IntiQ (⟨(⟨dF x0,dF x1⟩:F2p),(⟨dF y0,dF y1⟩:F2p),(⟨dF z0,dF z1⟩:F2p)⟩:J3 F2p) (nv n) x_},j.1.1 < k + 1/\VtiQ k = VtiQ j.1.1/\HtiQ x0 x1 y0 y1 z0 z1 n (selQ (J3.add (JvQ (selQ (J3.dbl (JvQ g)))) (⟨(⟨dF x0,dF x1⟩:F2p),(⟨dF y0,dF y1⟩:F2p),(⟨dF z0,dF z1⟩:F2p)⟩:J3 F2p))) = HtiQ x0 x1 y0 y1 z0 z1 n j.1.2) ?_ (by kernel_rfl)
    refine ⟨ilt_nn2 k,rfl,hg.1,hg.2.1,hg.2.2.1,hg.2.2.2.1,hg.2.2.2.2.1,hg.2.2.2.2.2,by rw [h0];rfl,rfl,lt_eF _,lt_eF _,lt_eF _,lt_eF _,lt_eF _,lt_eF _,hx0,hx1,hy0,hy1,hz0,hz1,hs,rfl,next _ ?_⟩
    rw [JvQ_sel,hnext,J3.times,if_pos h0,hhalf,hv]
 ·intro ⟨⟨k,g⟩,hk,hg,hv⟩ junk h0
  simp only at hk hv h0
  have hg:LtQ g:=hg
  subst h0
  rw [Nat.sub_zero,Nat.pow_zero,Nat.div_one] at hv
  refine same (p:=endN (.v1 (.agg (csQ g))) (.v1 (.agg [q6 (eF (J3.times (⟨(⟨dF x0,dF x1⟩:F2p),(⟨dF y0,dF y1⟩:F2p),(⟨dF z0,dF z1⟩:F2p)⟩:J3 F2p) (blen (nv n)) (nv n)).x.x),q6 (eF (J3.times (⟨(⟨dF x0,dF x1⟩:F2p),(⟨dF y0,dF y1⟩:F2p),(⟨dF z0,dF z1⟩:F2p)⟩:J3 F2p) (blen (nv n)) (nv n)).x.y),q6 (eF (J3.times (⟨(⟨dF x0,dF x1⟩:F2p),(⟨dF y0,dF y1⟩:F2p),(⟨dF z0,dF z1⟩:F2p)⟩:J3 F2p) (blen (nv n)) (nv n)).y.x),q6 (eF (J3.times (⟨(⟨dF x0,dF x1⟩:F2p),(⟨dF y0,dF y1⟩:F2p),(⟨dF z0,dF z1⟩:F2p)⟩:J3 F2p) (blen (nv n)) (nv n)).y.y),q6 (eF (J3.times (⟨(⟨dF x0,dF x1⟩:F2p),(⟨dF y0,dF y1⟩:F2p),(⟨dF z0,dF z1⟩:F2p)⟩:J3 F2p) (blen (nv n)) (nv n)).z.x),q6 (eF (J3.times (⟨(⟨dF x0,dF x1⟩:F2p),(⟨dF y0,dF y1⟩:F2p),(⟨dF z0,dF z1⟩:F2p)⟩:J3 F2p) (blen (nv n)) (nv n)).z.y)]))) ?_ (by kernel_rfl)
  rw [<-hv]
  exact endC (cv_cons (nv_d hg.1) (cv_cons (nv_d hg.2.1) (cv_cons (nv_d hg.2.2.1) (cv_cons (nv_d hg.2.2.2.1) (cv_cons (nv_d hg.2.2.2.2.1) (cv_cons (nv_d hg.2.2.2.2.2) cv_nil))))))
def GinQ:List (Nat × CallC):=[(68,.pure onCQ),(71,.pure raCQ),(70,.pure tiCQ),(69,.pure loCQ),(66,.pure (cK orderF))]
theorem GinQ_ok:CtxOk Try.prog (ctxL GinQ):=ctxL_cons okOnQ <| ctxL_cons okRaQ <| ctxL_cons okTiQ <| ctxL_cons okLoQ <| ctxL_cons okOrderF ctxL_nil
theorem okInQ:(CallC.pure (inCQ rNm)).Ok Try.prog 39:=by
 intro args pre v e hp
 unfold inCQ at e
 split at e
 rotate_left
 ·cases e
 rename_i cs x0 x1 y0 y1 z
 cases e
 have hcs:cs = fdQ:=hp _ (by simp)
 subst hcs
 have hx0:nv x0 < pN:=hp (nv x0 < pN) (by simp)
 have hx1:nv x1 < pN:=hp (nv x1 < pN) (by simp)
 have hy0:nv y0 < pN:=hp (nv y0 < pN) (by simp)
 have hy1:nv y1 < pN:=hp (nv y1 < pN) (by simp)
 refine pure_walk' tt_ok Try.func39 (by kernel_rfl) (by kernel_rfl) (by rfl) (by rfl) ?_
 cases ho:A2.on fourQ (⟨(⟨dF x0,dF x1⟩:F2p),(⟨dF y0,dF y1⟩:F2p),z⟩:A2 F2p)
 ·refine evS_q mixed tt_ok GinQ_ok 60 [⟨1,2,.lit (.bo false)⟩] (same (p:=A2.on fourQ (⟨(⟨dF x0,dF x1⟩:F2p),(⟨dF y0,dF y1⟩:F2p),z⟩:A2 F2p) = false/\fdQ = fdQ/\lp x0/\lp x1/\lp y0/\lp y1/\endN (.v1 (.sc (.bo false))) (.v1 (.sc (.bo (A2.isIn fourQ rNm (⟨(⟨dF x0,dF x1⟩:F2p),(⟨dF y0,dF y1⟩:F2p),z⟩:A2 F2p)))))) ?_ (by kernel_rfl))
  exact ⟨ho,rfl,hx0,hx1,hy0,hy1,endB (by unfold A2.isIn;rw [ho];rfl)⟩
 ·refine evS_q mixed tt_ok GinQ_ok 60 [⟨1,2,.lit (.bo true)⟩] (same (p:=A2.on fourQ (⟨(⟨dF x0,dF x1⟩:F2p),(⟨dF y0,dF y1⟩:F2p),z⟩:A2 F2p) = true/\fdQ = fdQ/\lp x0/\lp x1/\lp y0/\lp y1/\fdQ = fdQ/\lp x0/\lp x1/\lp y0/\lp y1/\fdQ = fdQ/\lp ((selQ (A2.raise (⟨(⟨dF x0,dF x1⟩:F2p),(⟨dF y0,dF y1⟩:F2p),z⟩:A2 F2p))) 0)/\lp ((selQ (A2.raise (⟨(⟨dF x0,dF x1⟩:F2p),(⟨dF y0,dF y1⟩:F2p),z⟩:A2 F2p))) 1)/\lp ((selQ (A2.raise (⟨(⟨dF x0,dF x1⟩:F2p),(⟨dF y0,dF y1⟩:F2p),z⟩:A2 F2p))) 2)/\lp ((selQ (A2.raise (⟨(⟨dF x0,dF x1⟩:F2p),(⟨dF y0,dF y1⟩:F2p),z⟩:A2 F2p))) 3)/\lp ((selQ (A2.raise (⟨(⟨dF x0,dF x1⟩:F2p),(⟨dF y0,dF y1⟩:F2p),z⟩:A2 F2p))) 4)/\lp ((selQ (A2.raise (⟨(⟨dF x0,dF x1⟩:F2p),(⟨dF y0,dF y1⟩:F2p),z⟩:A2 F2p))) 5)/\fdQ = fdQ/\nv ((selQ (J3.times (JvQ (selQ (A2.raise (⟨(⟨dF x0,dF x1⟩:F2p),(⟨dF y0,dF y1⟩:F2p),z⟩:A2 F2p)))) (blen (nv orderF)) (nv orderF))) 0) < pN/\nv ((selQ (J3.times (JvQ (selQ (A2.raise (⟨(⟨dF x0,dF x1⟩:F2p),(⟨dF y0,dF y1⟩:F2p),z⟩:A2 F2p)))) (blen (nv orderF)) (nv orderF))) 1) < pN/\nv ((selQ (J3.times (JvQ (selQ (A2.raise (⟨(⟨dF x0,dF x1⟩:F2p),(⟨dF y0,dF y1⟩:F2p),z⟩:A2 F2p)))) (blen (nv orderF)) (nv orderF))) 2) < pN/\nv ((selQ (J3.times (JvQ (selQ (A2.raise (⟨(⟨dF x0,dF x1⟩:F2p),(⟨dF y0,dF y1⟩:F2p),z⟩:A2 F2p)))) (blen (nv orderF)) (nv orderF))) 3) < pN/\nv ((selQ (J3.times (JvQ (selQ (A2.raise (⟨(⟨dF x0,dF x1⟩:F2p),(⟨dF y0,dF y1⟩:F2p),z⟩:A2 F2p)))) (blen (nv orderF)) (nv orderF))) 4) < pN/\nv ((selQ (J3.times (JvQ (selQ (A2.raise (⟨(⟨dF x0,dF x1⟩:F2p),(⟨dF y0,dF y1⟩:F2p),z⟩:A2 F2p)))) (blen (nv orderF)) (nv orderF))) 5) < pN/\endN (.v1 (.sc (.bo (A2.lower F2p.inv (JvQ (selQ (J3.times (JvQ (selQ (A2.raise (⟨(⟨dF x0,dF x1⟩:F2p),(⟨dF y0,dF y1⟩:F2p),z⟩:A2 F2p)))) (blen (nv orderF)) (nv orderF))))).z))) (.v1 (.sc (.bo (A2.isIn fourQ rNm (⟨(⟨dF x0,dF x1⟩:F2p),(⟨dF y0,dF y1⟩:F2p),z⟩:A2 F2p)))))) ?_ (by kernel_rfl))
  refine ⟨ho,rfl,hx0,hx1,hy0,hy1,rfl,hx0,hx1,hy0,hy1,rfl,lt_eF _,lt_eF _,lt_eF _,lt_eF _,lt_eF _,lt_eF _,rfl,lt_eF _,lt_eF _,lt_eF _,lt_eF _,lt_eF _,lt_eF _,endB ?_⟩
  have e0:JvQ (selQ (A2.raise (⟨(⟨dF x0,dF x1⟩:F2p),(⟨dF y0,dF y1⟩:F2p),z⟩:A2 F2p))) = A2.raise (⟨(⟨dF x0,dF x1⟩:F2p),(⟨dF y0,dF y1⟩:F2p),z⟩:A2 F2p):=JvQ_sel _
  have e1:J3.times (JvQ (selQ (A2.raise (⟨(⟨dF x0,dF x1⟩:F2p),(⟨dF y0,dF y1⟩:F2p),z⟩:A2 F2p)))) (blen (nv orderF)) (nv orderF) = J3.times (A2.raise (⟨(⟨dF x0,dF x1⟩:F2p),(⟨dF y0,dF y1⟩:F2p),z⟩:A2 F2p)) (blen (nv orderF)) (nv orderF):=congrArg (fun q=>J3.times q (blen (nv orderF)) (nv orderF)) e0
  have e2:JvQ (selQ (J3.times (JvQ (selQ (A2.raise (⟨(⟨dF x0,dF x1⟩:F2p),(⟨dF y0,dF y1⟩:F2p),z⟩:A2 F2p)))) (blen (nv orderF)) (nv orderF))) = J3.times (JvQ (selQ (A2.raise (⟨(⟨dF x0,dF x1⟩:F2p),(⟨dF y0,dF y1⟩:F2p),z⟩:A2 F2p)))) (blen (nv orderF)) (nv orderF):=JvQ_sel _
  have e4:J3.times (A2.raise (⟨(⟨dF x0,dF x1⟩:F2p),(⟨dF y0,dF y1⟩:F2p),z⟩:A2 F2p)) (blen (nv orderF)) (nv orderF) = J3.times (A2.raise (⟨(⟨dF x0,dF x1⟩:F2p),(⟨dF y0,dF y1⟩:F2p),z⟩:A2 F2p)) (blen rNm) rNm:=by rw [nv_order]
  have e3:(A2.lower F2p.inv (JvQ (selQ (J3.times (JvQ (selQ (A2.raise (⟨(⟨dF x0,dF x1⟩:F2p),(⟨dF y0,dF y1⟩:F2p),z⟩:A2 F2p)))) (blen (nv orderF)) (nv orderF))))).z = decide ((J3.times (A2.raise (⟨(⟨dF x0,dF x1⟩:F2p),(⟨dF y0,dF y1⟩:F2p),z⟩:A2 F2p)) (blen rNm) rNm).z = 0):=(lower_z F2p.inv _).trans (congrArg (fun q:J3 F2p=>decide (q.z = 0)) (e2.trans (e1.trans e4)))
  refine e3.trans ?_
  unfold A2.isIn A2.mulJ
  rw [ho,Bool.true_and]
end Go.Proofs.Ytnjocbcjejpklaa
namespace Go.Proofs.Ytnjocbcjejpklaa
open Go.Rq Go
set_option maxRecDepth 100000
set_option maxHeartbeats 4000000
def blB (a:Nat->Nat):Bool:=Nat.blt (nv a) pN
def cBl:List AV->Option (List Prop × AV)
 | [.v1 (.agg [.ws .u64 6 a])]=>some ([],.v1 (.sc (.bo (blB a))))
 | _=>none
def GBl:Ctx:=ctxL [(79,.pure (cK primeF)),(78,.pure cCmp)]
theorem GBl_ok:CtxOk Try.prog GBl:=ctxL_cons okBase <| ctxL_cons okCmp ctxL_nil
theorem cmp_bl (a:Nat->Nat):ilt (cmpI (nv a) (nv primeF)) 0 = blB a:=by
 unfold blB cmpI
 rw [nv_prime]
 cases Nat.blt (nv a) pN
 ·cases Nat.blt pN (nv a) <;> rfl
 ·rfl
theorem okBl:(CallC.pure cBl).Ok Try.prog 56:=by
 intro args pre v e hp
 unfold cBl at e
 split at e
 rotate_left
 ·cases e
 rename_i a
 cases e
 refine pure_walk' tt_ok Try.func56 (by kernel_rfl) (by kernel_rfl) (by rfl) (by rfl) ?_
 refine evS_q mixed tt_ok GBl_ok 60 [] (same (p:=endN (.v1 (.sc (.bo (ilt (cmpI (nv a) (nv primeF)) 0)))) (.v1 (.sc (.bo (blB a))))) ?_ (by kernel_rfl))
 exact endB (cmp_bl a)
def GB1:Ctx:=ctxL [(56,.pure cBl)]
theorem GB1_ok:CtxOk Try.prog GB1:=ctxL_cons okBl ctxL_nil
def cB1:List AV->Option (List Prop × AV)
 | [.v1 (.agg [.ws .u64 6 x,.ws .u64 6 y,.one (.bo z)])]=>some ([],.v1 (.sc (.bo (blB x && blB y))))
 | _=>none
theorem okB1:(CallC.pure cB1).Ok Try.prog 33:=by
 intro args pre v e hp
 unfold cB1 at e
 split at e
 rotate_left
 ·cases e
 rename_i x y z
 cases e
 refine pure_walk' tt_ok Try.func33 (by kernel_rfl) (by kernel_rfl) (by rfl) (by rfl) ?_
 cases h:blB x
 ·refine evS_q mixed tt_ok GB1_ok 60 [⟨1,2,.lit (.bo false)⟩] (same (p:=blB x = false/\endN (.v1 (.sc (.bo false))) (.v1 (.sc (.bo (false && blB y))))) ?_ (by kernel_rfl))
  exact ⟨h,endB rfl⟩
 ·refine evS_q mixed tt_ok GB1_ok 60 [⟨1,2,.lit (.bo true)⟩] (same (p:=blB x = true/\endN (.v1 (.sc (.bo (blB y)))) (.v1 (.sc (.bo (true && blB y))))) ?_ (by kernel_rfl))
  exact ⟨h,endB rfl⟩
def cB2:List AV->Option (List Prop × AV)
 | [.v1 (.agg [.ws .u64 6 x0,.ws .u64 6 x1,.ws .u64 6 y0,.ws .u64 6 y1,.one (.bo z)])]=>some ([],.v1 (.sc (.bo (blB x0 && (blB x1 && (blB y0 && blB y1))))))
 | _=>none
theorem okB2:(CallC.pure cB2).Ok Try.prog 37:=by
 intro args pre v e hp
 unfold cB2 at e
 split at e
 rotate_left
 ·cases e
 rename_i x0 x1 y0 y1 z
 cases e
 refine pure_walk' tt_ok Try.func37 (by kernel_rfl) (by kernel_rfl) (by rfl) (by rfl) ?_
 cases h:blB x0
 ·refine evS_q mixed tt_ok GB1_ok 60 [⟨1,3,.lit (.bo false)⟩] (same (p:=blB x0 = false/\endN (.v1 (.sc (.bo false))) (.v1 (.sc (.bo (false && (blB x1 && (blB y0 && blB y1))))))) ?_ (by kernel_rfl))
  exact ⟨h,endB rfl⟩
 ·cases h2:blB x1
  ·refine evS_q mixed tt_ok GB1_ok 60 [⟨1,3,.lit (.bo true)⟩,⟨1,8,.lit (.bo false)⟩] (same (p:=blB x0 = true/\blB x1 = false/\endN (.v1 (.sc (.bo false))) (.v1 (.sc (.bo (true && (false && (blB y0 && blB y1))))))) ?_ (by kernel_rfl))
   exact ⟨h,h2,endB rfl⟩
  ·cases h3:blB y0
   ·refine evS_q mixed tt_ok GB1_ok 60 [⟨1,3,.lit (.bo true)⟩,⟨1,8,.lit (.bo true)⟩,⟨1,14,.lit (.bo false)⟩] (same (p:=blB x0 = true/\blB x1 = true/\blB y0 = false/\endN (.v1 (.sc (.bo false))) (.v1 (.sc (.bo (true && (true && (false && blB y1))))))) ?_ (by kernel_rfl))
    exact ⟨h,h2,h3,endB rfl⟩
   ·refine evS_q mixed tt_ok GB1_ok 60 [⟨1,3,.lit (.bo true)⟩,⟨1,8,.lit (.bo true)⟩,⟨1,14,.lit (.bo true)⟩] (same (p:=blB x0 = true/\blB x1 = true/\blB y0 = true/\endN (.v1 (.sc (.bo (blB y1)))) (.v1 (.sc (.bo (true && (true && (true && blB y1))))))) ?_ (by kernel_rfl))
    exact ⟨h,h2,h3,endB rfl⟩
def cFld (cs:List Cell):List AV->Option (List Prop × AV)
 | []=>some ([],.v1 (.agg cs))
 | _=>none
def GF1:Ctx:=ctxL [(61,.pure (cK oneF)),(15,.pure cOf),(42,.pure cTo),(41,.pure (c2 oneF fz))]
theorem GF1_ok:CtxOk Try.prog GF1:=ctxL_cons okOne0 <| ctxL_cons okOf <| ctxL_cons okTo <| ctxL_cons okOne2 ctxL_nil
theorem okFirst:(CallC.pure (cFld fdE)).Ok Try.prog 34:=by
 intro args pre v e hp
 unfold cFld at e
 split at e
 rotate_left
 ·cases e
 cases e
 have hno:∀ h,CallOk Try.prog 34 [] h (.v1 (.agg fdE)) h:=by
  refine pure_walk' tt_ok Try.func34 (by kernel_rfl) (by kernel_rfl) (by rfl) (by kernel_rfl) ?_
  refine evS_q mixed tt_ok GF1_ok 60 [] (same (p:=endN (.v1 (.agg fdE)) (.v1 (.agg fdE))) ⟨_,rfl,fun _=>rfl⟩ (by kernel_rfl))
 exact hno
end Go.Proofs.Ytnjocbcjejpklaa
