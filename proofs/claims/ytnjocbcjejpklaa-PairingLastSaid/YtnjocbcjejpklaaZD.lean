/- Joined: T9 T10 T11 T12 T13 T14 T15 T16 T17 T18 T19. -/
import Derived.Test.YtnjocbcjejpklaaZC
import Derived.Test.YtnjocbcjejpklaaZB
/- Products of numbers of three parts. Printed by genmul6.py. -/
namespace Go.Proofs.Ytnjocbcjejpklaa
open Go.Rq Go
set_option maxRecDepth 100000
set_option linter.unusedSimpArgs false

def crs (a b c d p q : F2p) : F2p := (a + b) * (c + d) - p - q

def cCross (args : List AV) (h : Heap) : Option (List Prop × AV) :=
  match args with
  | [.v1 (.sc (.it (.ofNat i))), .v1 (.sc (.it (.ofNat k))), .v1 (.agg [.ws .u64 6 p0, .ws .u64 6 p1]), .v1 (.agg [.ws .u64 6 q0, .ws .u64 6 q1]), .v1 (.sc (.pt x 0)), .v1 (.sc (.pt y 0))] => match Nat.beq x y with
    | true => none
    | false => match hget h x with
      | some ⟨_, [.ws .u64 6 a0, .ws .u64 6 a1, .ws .u64 6 a2, .ws .u64 6 a3, .ws .u64 6 a4, .ws .u64 6 a5], 0, 0⟩ => match hget h y with
        | some ⟨_, [.ws .u64 6 b0, .ws .u64 6 b1, .ws .u64 6 b2, .ws .u64 6 b3, .ws .u64 6 b4, .ws .u64 6 b5], 0, 0⟩ => match i, k with
          | 1, 2 => some ([nv a2 < pN, nv a3 < pN, nv a4 < pN, nv a5 < pN, nv b2 < pN, nv b3 < pN, nv b4 < pN, nv b5 < pN, nv p0 < pN, nv p1 < pN, nv q0 < pN, nv q1 < pN], f2 (eF (crs ⟨dF a2, dF a3⟩ ⟨dF a4, dF a5⟩ ⟨dF b2, dF b3⟩ ⟨dF b4, dF b5⟩ ⟨dF p0, dF p1⟩ ⟨dF q0, dF q1⟩).x) (eF (crs ⟨dF a2, dF a3⟩ ⟨dF a4, dF a5⟩ ⟨dF b2, dF b3⟩ ⟨dF b4, dF b5⟩ ⟨dF p0, dF p1⟩ ⟨dF q0, dF q1⟩).y))
          | 0, 1 => some ([nv a0 < pN, nv a1 < pN, nv a2 < pN, nv a3 < pN, nv b0 < pN, nv b1 < pN, nv b2 < pN, nv b3 < pN, nv p0 < pN, nv p1 < pN, nv q0 < pN, nv q1 < pN], f2 (eF (crs ⟨dF a0, dF a1⟩ ⟨dF a2, dF a3⟩ ⟨dF b0, dF b1⟩ ⟨dF b2, dF b3⟩ ⟨dF p0, dF p1⟩ ⟨dF q0, dF q1⟩).x) (eF (crs ⟨dF a0, dF a1⟩ ⟨dF a2, dF a3⟩ ⟨dF b0, dF b1⟩ ⟨dF b2, dF b3⟩ ⟨dF p0, dF p1⟩ ⟨dF q0, dF q1⟩).y))
          | 0, 2 => some ([nv a0 < pN, nv a1 < pN, nv a4 < pN, nv a5 < pN, nv b0 < pN, nv b1 < pN, nv b4 < pN, nv b5 < pN, nv p0 < pN, nv p1 < pN, nv q0 < pN, nv q1 < pN], f2 (eF (crs ⟨dF a0, dF a1⟩ ⟨dF a4, dF a5⟩ ⟨dF b0, dF b1⟩ ⟨dF b4, dF b5⟩ ⟨dF p0, dF p1⟩ ⟨dF q0, dF q1⟩).x) (eF (crs ⟨dF a0, dF a1⟩ ⟨dF a4, dF a5⟩ ⟨dF b0, dF b1⟩ ⟨dF b4, dF b5⟩ ⟨dF p0, dF p1⟩ ⟨dF q0, dF q1⟩).y))
          | _, _ => none
        | _ => none
      | _ => none
  | _ => none
def GCr : Ctx := ctxL [(54, .pure (q2 add2x add2y)), (53, .pure (q2 sub2x sub2y)), (50, .pure (q2 mul2x mul2y))]
theorem GCr_ok : CtxOk Try.prog GCr := ctxL_cons okAdd2 <| ctxL_cons okSub2 <| ctxL_cons okMul2 ctxL_nil
theorem cross12 {b c : Nat} (hbc : Nat.beq b c = false) {a0 a1 a2 a3 a4 a5 b0 b1 b2 b3 b4 b5 p0 p1 q0 q1 : Nat → Nat} {y1 y2 : TypeId} {h : Heap} (g1 : hget h b = some ⟨y1, [.ws .u64 6 a0, .ws .u64 6 a1, .ws .u64 6 a2, .ws .u64 6 a3, .ws .u64 6 a4, .ws .u64 6 a5], 0, 0⟩) (g2 : hget h c = some ⟨y2, [.ws .u64 6 b0, .ws .u64 6 b1, .ws .u64 6 b2, .ws .u64 6 b3, .ws .u64 6 b4, .ws .u64 6 b5], 0, 0⟩)
    (ha2 : nv a2 < pN) (ha3 : nv a3 < pN) (ha4 : nv a4 < pN) (ha5 : nv a5 < pN) (hb2 : nv b2 < pN) (hb3 : nv b3 < pN) (hb4 : nv b4 < pN) (hb5 : nv b5 < pN) (hp0 : nv p0 < pN) (hp1 : nv p1 < pN) (hq0 : nv q0 < pN) (hq1 : nv q1 < pN) :
    CallOk Try.prog 52 ([.v1 (.sc (.it (.ofNat 1))), .v1 (.sc (.it (.ofNat 2))), f2 p0 p1, f2 q0 q1] ++ [.v1 (.sc (.pt b 0)), .v1 (.sc (.pt c 0))]) h (f2 (eF (crs ⟨dF a2, dF a3⟩ ⟨dF a4, dF a5⟩ ⟨dF b2, dF b3⟩ ⟨dF b4, dF b5⟩ ⟨dF p0, dF p1⟩ ⟨dF q0, dF q1⟩).x) (eF (crs ⟨dF a2, dF a3⟩ ⟨dF a4, dF a5⟩ ⟨dF b2, dF b3⟩ ⟨dF b4, dF b5⟩ ⟨dF p0, dF p1⟩ ⟨dF q0, dF q1⟩).y)) h := by
  refine rd_blk2 tt_ok Try.func52 (by kernel_rfl) (by kernel_rfl) hbc (x := ⟨y1, [.ws .u64 6 a0, .ws .u64 6 a1, .ws .u64 6 a2, .ws .u64 6 a3, .ws .u64 6 a4, .ws .u64 6 a5], 0, 0⟩) (y := ⟨y2, [.ws .u64 6 b0, .ws .u64 6 b1, .ws .u64 6 b2, .ws .u64 6 b3, .ws .u64 6 b4, .ws .u64 6 b5], 0, 0⟩) rfl rfl rfl rfl rfl rfl g1 g2 ?_
  refine evS_q mixed tt_ok GCr_ok 60 [] ?_
  refine same (p := nv a2 < pN ∧ nv a3 < pN ∧ nv a4 < pN ∧ nv a5 < pN ∧ nv b2 < pN ∧ nv b3 < pN ∧ nv b4 < pN ∧ nv b5 < pN ∧ nv (eF (add2x (dF a2) (dF a3) (dF a4) (dF a5))) < pN ∧ nv (eF (add2y (dF a2) (dF a3) (dF a4) (dF a5))) < pN ∧ nv (eF (add2x (dF b2) (dF b3) (dF b4) (dF b5))) < pN ∧ nv (eF (add2y (dF b2) (dF b3) (dF b4) (dF b5))) < pN ∧ nv (eF (mul2x (dF (eF (add2x (dF a2) (dF a3) (dF a4) (dF a5)))) (dF (eF (add2y (dF a2) (dF a3) (dF a4) (dF a5)))) (dF (eF (add2x (dF b2) (dF b3) (dF b4) (dF b5)))) (dF (eF (add2y (dF b2) (dF b3) (dF b4) (dF b5)))))) < pN ∧ nv (eF (mul2y (dF (eF (add2x (dF a2) (dF a3) (dF a4) (dF a5)))) (dF (eF (add2y (dF a2) (dF a3) (dF a4) (dF a5)))) (dF (eF (add2x (dF b2) (dF b3) (dF b4) (dF b5)))) (dF (eF (add2y (dF b2) (dF b3) (dF b4) (dF b5)))))) < pN ∧ nv p0 < pN ∧ nv p1 < pN ∧ nv (eF (sub2x (dF (eF (mul2x (dF (eF (add2x (dF a2) (dF a3) (dF a4) (dF a5)))) (dF (eF (add2y (dF a2) (dF a3) (dF a4) (dF a5)))) (dF (eF (add2x (dF b2) (dF b3) (dF b4) (dF b5)))) (dF (eF (add2y (dF b2) (dF b3) (dF b4) (dF b5))))))) (dF (eF (mul2y (dF (eF (add2x (dF a2) (dF a3) (dF a4) (dF a5)))) (dF (eF (add2y (dF a2) (dF a3) (dF a4) (dF a5)))) (dF (eF (add2x (dF b2) (dF b3) (dF b4) (dF b5)))) (dF (eF (add2y (dF b2) (dF b3) (dF b4) (dF b5))))))) (dF p0) (dF p1))) < pN ∧ nv (eF (sub2y (dF (eF (mul2x (dF (eF (add2x (dF a2) (dF a3) (dF a4) (dF a5)))) (dF (eF (add2y (dF a2) (dF a3) (dF a4) (dF a5)))) (dF (eF (add2x (dF b2) (dF b3) (dF b4) (dF b5)))) (dF (eF (add2y (dF b2) (dF b3) (dF b4) (dF b5))))))) (dF (eF (mul2y (dF (eF (add2x (dF a2) (dF a3) (dF a4) (dF a5)))) (dF (eF (add2y (dF a2) (dF a3) (dF a4) (dF a5)))) (dF (eF (add2x (dF b2) (dF b3) (dF b4) (dF b5)))) (dF (eF (add2y (dF b2) (dF b3) (dF b4) (dF b5))))))) (dF p0) (dF p1))) < pN ∧ nv q0 < pN ∧ nv q1 < pN ∧ some (Blk.mk y1 [.ws .u64 6 a0, .ws .u64 6 a1, .ws .u64 6 a2, .ws .u64 6 a3, .ws .u64 6 a4, .ws .u64 6 a5] 0 0) = some (Blk.mk y1 [.ws .u64 6 a0, .ws .u64 6 a1, .ws .u64 6 a2, .ws .u64 6 a3, .ws .u64 6 a4, .ws .u64 6 a5] 0 0) ∧ some (Blk.mk y2 [.ws .u64 6 b0, .ws .u64 6 b1, .ws .u64 6 b2, .ws .u64 6 b3, .ws .u64 6 b4, .ws .u64 6 b5] 0 0) = some (Blk.mk y2 [.ws .u64 6 b0, .ws .u64 6 b1, .ws .u64 6 b2, .ws .u64 6 b3, .ws .u64 6 b4, .ws .u64 6 b5] 0 0) ∧
    ∃ v', some (f2 (eF (sub2x (dF (eF (sub2x (dF (eF (mul2x (dF (eF (add2x (dF a2) (dF a3) (dF a4) (dF a5)))) (dF (eF (add2y (dF a2) (dF a3) (dF a4) (dF a5)))) (dF (eF (add2x (dF b2) (dF b3) (dF b4) (dF b5)))) (dF (eF (add2y (dF b2) (dF b3) (dF b4) (dF b5))))))) (dF (eF (mul2y (dF (eF (add2x (dF a2) (dF a3) (dF a4) (dF a5)))) (dF (eF (add2y (dF a2) (dF a3) (dF a4) (dF a5)))) (dF (eF (add2x (dF b2) (dF b3) (dF b4) (dF b5)))) (dF (eF (add2y (dF b2) (dF b3) (dF b4) (dF b5))))))) (dF p0) (dF p1)))) (dF (eF (sub2y (dF (eF (mul2x (dF (eF (add2x (dF a2) (dF a3) (dF a4) (dF a5)))) (dF (eF (add2y (dF a2) (dF a3) (dF a4) (dF a5)))) (dF (eF (add2x (dF b2) (dF b3) (dF b4) (dF b5)))) (dF (eF (add2y (dF b2) (dF b3) (dF b4) (dF b5))))))) (dF (eF (mul2y (dF (eF (add2x (dF a2) (dF a3) (dF a4) (dF a5)))) (dF (eF (add2y (dF a2) (dF a3) (dF a4) (dF a5)))) (dF (eF (add2x (dF b2) (dF b3) (dF b4) (dF b5)))) (dF (eF (add2y (dF b2) (dF b3) (dF b4) (dF b5))))))) (dF p0) (dF p1)))) (dF q0) (dF q1))) (eF (sub2y (dF (eF (sub2x (dF (eF (mul2x (dF (eF (add2x (dF a2) (dF a3) (dF a4) (dF a5)))) (dF (eF (add2y (dF a2) (dF a3) (dF a4) (dF a5)))) (dF (eF (add2x (dF b2) (dF b3) (dF b4) (dF b5)))) (dF (eF (add2y (dF b2) (dF b3) (dF b4) (dF b5))))))) (dF (eF (mul2y (dF (eF (add2x (dF a2) (dF a3) (dF a4) (dF a5)))) (dF (eF (add2y (dF a2) (dF a3) (dF a4) (dF a5)))) (dF (eF (add2x (dF b2) (dF b3) (dF b4) (dF b5)))) (dF (eF (add2y (dF b2) (dF b3) (dF b4) (dF b5))))))) (dF p0) (dF p1)))) (dF (eF (sub2y (dF (eF (mul2x (dF (eF (add2x (dF a2) (dF a3) (dF a4) (dF a5)))) (dF (eF (add2y (dF a2) (dF a3) (dF a4) (dF a5)))) (dF (eF (add2x (dF b2) (dF b3) (dF b4) (dF b5)))) (dF (eF (add2y (dF b2) (dF b3) (dF b4) (dF b5))))))) (dF (eF (mul2y (dF (eF (add2x (dF a2) (dF a3) (dF a4) (dF a5)))) (dF (eF (add2y (dF a2) (dF a3) (dF a4) (dF a5)))) (dF (eF (add2x (dF b2) (dF b3) (dF b4) (dF b5)))) (dF (eF (add2y (dF b2) (dF b3) (dF b4) (dF b5))))))) (dF p0) (dF p1)))) (dF q0) (dF q1)))) = some v' ∧ vokB v' = true ∧ ∀ ρ, v'.val ρ = (f2 (eF (crs ⟨dF a2, dF a3⟩ ⟨dF a4, dF a5⟩ ⟨dF b2, dF b3⟩ ⟨dF b4, dF b5⟩ ⟨dF p0, dF p1⟩ ⟨dF q0, dF q1⟩).x) (eF (crs ⟨dF a2, dF a3⟩ ⟨dF a4, dF a5⟩ ⟨dF b2, dF b3⟩ ⟨dF b4, dF b5⟩ ⟨dF p0, dF p1⟩ ⟨dF q0, dF q1⟩).y)).val ρ) ?_ (by kernel_rfl)
  exact ⟨ha2, ha3, ha4, ha5, hb2, hb3, hb4, hb5, lt_eF _, lt_eF _, lt_eF _, lt_eF _, lt_eF _, lt_eF _, hp0, hp1, lt_eF _, lt_eF _, hq0, hq1, rfl, rfl, _, rfl, rfl, f2_val (nvE (by simp only [dF_eF]; simp only [S6.mul, crs, xi, F2p.add_x, F2p.add_y, F2p.mul_x, F2p.mul_y, F2p.sub_x, F2p.sub_y, add2x, add2y, sub2x, sub2y, mul2x, mul2y, upx, upy])) (nvE (by simp only [dF_eF]; simp only [S6.mul, crs, xi, F2p.add_x, F2p.add_y, F2p.mul_x, F2p.mul_y, F2p.sub_x, F2p.sub_y, add2x, add2y, sub2x, sub2y, mul2x, mul2y, upx, upy]))⟩
theorem cross01 {b c : Nat} (hbc : Nat.beq b c = false) {a0 a1 a2 a3 a4 a5 b0 b1 b2 b3 b4 b5 p0 p1 q0 q1 : Nat → Nat} {y1 y2 : TypeId} {h : Heap} (g1 : hget h b = some ⟨y1, [.ws .u64 6 a0, .ws .u64 6 a1, .ws .u64 6 a2, .ws .u64 6 a3, .ws .u64 6 a4, .ws .u64 6 a5], 0, 0⟩) (g2 : hget h c = some ⟨y2, [.ws .u64 6 b0, .ws .u64 6 b1, .ws .u64 6 b2, .ws .u64 6 b3, .ws .u64 6 b4, .ws .u64 6 b5], 0, 0⟩)
    (ha0 : nv a0 < pN) (ha1 : nv a1 < pN) (ha2 : nv a2 < pN) (ha3 : nv a3 < pN) (hb0 : nv b0 < pN) (hb1 : nv b1 < pN) (hb2 : nv b2 < pN) (hb3 : nv b3 < pN) (hp0 : nv p0 < pN) (hp1 : nv p1 < pN) (hq0 : nv q0 < pN) (hq1 : nv q1 < pN) :
    CallOk Try.prog 52 ([.v1 (.sc (.it (.ofNat 0))), .v1 (.sc (.it (.ofNat 1))), f2 p0 p1, f2 q0 q1] ++ [.v1 (.sc (.pt b 0)), .v1 (.sc (.pt c 0))]) h (f2 (eF (crs ⟨dF a0, dF a1⟩ ⟨dF a2, dF a3⟩ ⟨dF b0, dF b1⟩ ⟨dF b2, dF b3⟩ ⟨dF p0, dF p1⟩ ⟨dF q0, dF q1⟩).x) (eF (crs ⟨dF a0, dF a1⟩ ⟨dF a2, dF a3⟩ ⟨dF b0, dF b1⟩ ⟨dF b2, dF b3⟩ ⟨dF p0, dF p1⟩ ⟨dF q0, dF q1⟩).y)) h := by
  refine rd_blk2 tt_ok Try.func52 (by kernel_rfl) (by kernel_rfl) hbc (x := ⟨y1, [.ws .u64 6 a0, .ws .u64 6 a1, .ws .u64 6 a2, .ws .u64 6 a3, .ws .u64 6 a4, .ws .u64 6 a5], 0, 0⟩) (y := ⟨y2, [.ws .u64 6 b0, .ws .u64 6 b1, .ws .u64 6 b2, .ws .u64 6 b3, .ws .u64 6 b4, .ws .u64 6 b5], 0, 0⟩) rfl rfl rfl rfl rfl rfl g1 g2 ?_
  refine evS_q mixed tt_ok GCr_ok 60 [] ?_
  refine same (p := nv a0 < pN ∧ nv a1 < pN ∧ nv a2 < pN ∧ nv a3 < pN ∧ nv b0 < pN ∧ nv b1 < pN ∧ nv b2 < pN ∧ nv b3 < pN ∧ nv (eF (add2x (dF a0) (dF a1) (dF a2) (dF a3))) < pN ∧ nv (eF (add2y (dF a0) (dF a1) (dF a2) (dF a3))) < pN ∧ nv (eF (add2x (dF b0) (dF b1) (dF b2) (dF b3))) < pN ∧ nv (eF (add2y (dF b0) (dF b1) (dF b2) (dF b3))) < pN ∧ nv (eF (mul2x (dF (eF (add2x (dF a0) (dF a1) (dF a2) (dF a3)))) (dF (eF (add2y (dF a0) (dF a1) (dF a2) (dF a3)))) (dF (eF (add2x (dF b0) (dF b1) (dF b2) (dF b3)))) (dF (eF (add2y (dF b0) (dF b1) (dF b2) (dF b3)))))) < pN ∧ nv (eF (mul2y (dF (eF (add2x (dF a0) (dF a1) (dF a2) (dF a3)))) (dF (eF (add2y (dF a0) (dF a1) (dF a2) (dF a3)))) (dF (eF (add2x (dF b0) (dF b1) (dF b2) (dF b3)))) (dF (eF (add2y (dF b0) (dF b1) (dF b2) (dF b3)))))) < pN ∧ nv p0 < pN ∧ nv p1 < pN ∧ nv (eF (sub2x (dF (eF (mul2x (dF (eF (add2x (dF a0) (dF a1) (dF a2) (dF a3)))) (dF (eF (add2y (dF a0) (dF a1) (dF a2) (dF a3)))) (dF (eF (add2x (dF b0) (dF b1) (dF b2) (dF b3)))) (dF (eF (add2y (dF b0) (dF b1) (dF b2) (dF b3))))))) (dF (eF (mul2y (dF (eF (add2x (dF a0) (dF a1) (dF a2) (dF a3)))) (dF (eF (add2y (dF a0) (dF a1) (dF a2) (dF a3)))) (dF (eF (add2x (dF b0) (dF b1) (dF b2) (dF b3)))) (dF (eF (add2y (dF b0) (dF b1) (dF b2) (dF b3))))))) (dF p0) (dF p1))) < pN ∧ nv (eF (sub2y (dF (eF (mul2x (dF (eF (add2x (dF a0) (dF a1) (dF a2) (dF a3)))) (dF (eF (add2y (dF a0) (dF a1) (dF a2) (dF a3)))) (dF (eF (add2x (dF b0) (dF b1) (dF b2) (dF b3)))) (dF (eF (add2y (dF b0) (dF b1) (dF b2) (dF b3))))))) (dF (eF (mul2y (dF (eF (add2x (dF a0) (dF a1) (dF a2) (dF a3)))) (dF (eF (add2y (dF a0) (dF a1) (dF a2) (dF a3)))) (dF (eF (add2x (dF b0) (dF b1) (dF b2) (dF b3)))) (dF (eF (add2y (dF b0) (dF b1) (dF b2) (dF b3))))))) (dF p0) (dF p1))) < pN ∧ nv q0 < pN ∧ nv q1 < pN ∧ some (Blk.mk y1 [.ws .u64 6 a0, .ws .u64 6 a1, .ws .u64 6 a2, .ws .u64 6 a3, .ws .u64 6 a4, .ws .u64 6 a5] 0 0) = some (Blk.mk y1 [.ws .u64 6 a0, .ws .u64 6 a1, .ws .u64 6 a2, .ws .u64 6 a3, .ws .u64 6 a4, .ws .u64 6 a5] 0 0) ∧ some (Blk.mk y2 [.ws .u64 6 b0, .ws .u64 6 b1, .ws .u64 6 b2, .ws .u64 6 b3, .ws .u64 6 b4, .ws .u64 6 b5] 0 0) = some (Blk.mk y2 [.ws .u64 6 b0, .ws .u64 6 b1, .ws .u64 6 b2, .ws .u64 6 b3, .ws .u64 6 b4, .ws .u64 6 b5] 0 0) ∧
    ∃ v', some (f2 (eF (sub2x (dF (eF (sub2x (dF (eF (mul2x (dF (eF (add2x (dF a0) (dF a1) (dF a2) (dF a3)))) (dF (eF (add2y (dF a0) (dF a1) (dF a2) (dF a3)))) (dF (eF (add2x (dF b0) (dF b1) (dF b2) (dF b3)))) (dF (eF (add2y (dF b0) (dF b1) (dF b2) (dF b3))))))) (dF (eF (mul2y (dF (eF (add2x (dF a0) (dF a1) (dF a2) (dF a3)))) (dF (eF (add2y (dF a0) (dF a1) (dF a2) (dF a3)))) (dF (eF (add2x (dF b0) (dF b1) (dF b2) (dF b3)))) (dF (eF (add2y (dF b0) (dF b1) (dF b2) (dF b3))))))) (dF p0) (dF p1)))) (dF (eF (sub2y (dF (eF (mul2x (dF (eF (add2x (dF a0) (dF a1) (dF a2) (dF a3)))) (dF (eF (add2y (dF a0) (dF a1) (dF a2) (dF a3)))) (dF (eF (add2x (dF b0) (dF b1) (dF b2) (dF b3)))) (dF (eF (add2y (dF b0) (dF b1) (dF b2) (dF b3))))))) (dF (eF (mul2y (dF (eF (add2x (dF a0) (dF a1) (dF a2) (dF a3)))) (dF (eF (add2y (dF a0) (dF a1) (dF a2) (dF a3)))) (dF (eF (add2x (dF b0) (dF b1) (dF b2) (dF b3)))) (dF (eF (add2y (dF b0) (dF b1) (dF b2) (dF b3))))))) (dF p0) (dF p1)))) (dF q0) (dF q1))) (eF (sub2y (dF (eF (sub2x (dF (eF (mul2x (dF (eF (add2x (dF a0) (dF a1) (dF a2) (dF a3)))) (dF (eF (add2y (dF a0) (dF a1) (dF a2) (dF a3)))) (dF (eF (add2x (dF b0) (dF b1) (dF b2) (dF b3)))) (dF (eF (add2y (dF b0) (dF b1) (dF b2) (dF b3))))))) (dF (eF (mul2y (dF (eF (add2x (dF a0) (dF a1) (dF a2) (dF a3)))) (dF (eF (add2y (dF a0) (dF a1) (dF a2) (dF a3)))) (dF (eF (add2x (dF b0) (dF b1) (dF b2) (dF b3)))) (dF (eF (add2y (dF b0) (dF b1) (dF b2) (dF b3))))))) (dF p0) (dF p1)))) (dF (eF (sub2y (dF (eF (mul2x (dF (eF (add2x (dF a0) (dF a1) (dF a2) (dF a3)))) (dF (eF (add2y (dF a0) (dF a1) (dF a2) (dF a3)))) (dF (eF (add2x (dF b0) (dF b1) (dF b2) (dF b3)))) (dF (eF (add2y (dF b0) (dF b1) (dF b2) (dF b3))))))) (dF (eF (mul2y (dF (eF (add2x (dF a0) (dF a1) (dF a2) (dF a3)))) (dF (eF (add2y (dF a0) (dF a1) (dF a2) (dF a3)))) (dF (eF (add2x (dF b0) (dF b1) (dF b2) (dF b3)))) (dF (eF (add2y (dF b0) (dF b1) (dF b2) (dF b3))))))) (dF p0) (dF p1)))) (dF q0) (dF q1)))) = some v' ∧ vokB v' = true ∧ ∀ ρ, v'.val ρ = (f2 (eF (crs ⟨dF a0, dF a1⟩ ⟨dF a2, dF a3⟩ ⟨dF b0, dF b1⟩ ⟨dF b2, dF b3⟩ ⟨dF p0, dF p1⟩ ⟨dF q0, dF q1⟩).x) (eF (crs ⟨dF a0, dF a1⟩ ⟨dF a2, dF a3⟩ ⟨dF b0, dF b1⟩ ⟨dF b2, dF b3⟩ ⟨dF p0, dF p1⟩ ⟨dF q0, dF q1⟩).y)).val ρ) ?_ (by kernel_rfl)
  exact ⟨ha0, ha1, ha2, ha3, hb0, hb1, hb2, hb3, lt_eF _, lt_eF _, lt_eF _, lt_eF _, lt_eF _, lt_eF _, hp0, hp1, lt_eF _, lt_eF _, hq0, hq1, rfl, rfl, _, rfl, rfl, f2_val (nvE (by simp only [dF_eF]; simp only [S6.mul, crs, xi, F2p.add_x, F2p.add_y, F2p.mul_x, F2p.mul_y, F2p.sub_x, F2p.sub_y, add2x, add2y, sub2x, sub2y, mul2x, mul2y, upx, upy])) (nvE (by simp only [dF_eF]; simp only [S6.mul, crs, xi, F2p.add_x, F2p.add_y, F2p.mul_x, F2p.mul_y, F2p.sub_x, F2p.sub_y, add2x, add2y, sub2x, sub2y, mul2x, mul2y, upx, upy]))⟩
theorem cross02 {b c : Nat} (hbc : Nat.beq b c = false) {a0 a1 a2 a3 a4 a5 b0 b1 b2 b3 b4 b5 p0 p1 q0 q1 : Nat → Nat} {y1 y2 : TypeId} {h : Heap} (g1 : hget h b = some ⟨y1, [.ws .u64 6 a0, .ws .u64 6 a1, .ws .u64 6 a2, .ws .u64 6 a3, .ws .u64 6 a4, .ws .u64 6 a5], 0, 0⟩) (g2 : hget h c = some ⟨y2, [.ws .u64 6 b0, .ws .u64 6 b1, .ws .u64 6 b2, .ws .u64 6 b3, .ws .u64 6 b4, .ws .u64 6 b5], 0, 0⟩)
    (ha0 : nv a0 < pN) (ha1 : nv a1 < pN) (ha4 : nv a4 < pN) (ha5 : nv a5 < pN) (hb0 : nv b0 < pN) (hb1 : nv b1 < pN) (hb4 : nv b4 < pN) (hb5 : nv b5 < pN) (hp0 : nv p0 < pN) (hp1 : nv p1 < pN) (hq0 : nv q0 < pN) (hq1 : nv q1 < pN) :
    CallOk Try.prog 52 ([.v1 (.sc (.it (.ofNat 0))), .v1 (.sc (.it (.ofNat 2))), f2 p0 p1, f2 q0 q1] ++ [.v1 (.sc (.pt b 0)), .v1 (.sc (.pt c 0))]) h (f2 (eF (crs ⟨dF a0, dF a1⟩ ⟨dF a4, dF a5⟩ ⟨dF b0, dF b1⟩ ⟨dF b4, dF b5⟩ ⟨dF p0, dF p1⟩ ⟨dF q0, dF q1⟩).x) (eF (crs ⟨dF a0, dF a1⟩ ⟨dF a4, dF a5⟩ ⟨dF b0, dF b1⟩ ⟨dF b4, dF b5⟩ ⟨dF p0, dF p1⟩ ⟨dF q0, dF q1⟩).y)) h := by
  refine rd_blk2 tt_ok Try.func52 (by kernel_rfl) (by kernel_rfl) hbc (x := ⟨y1, [.ws .u64 6 a0, .ws .u64 6 a1, .ws .u64 6 a2, .ws .u64 6 a3, .ws .u64 6 a4, .ws .u64 6 a5], 0, 0⟩) (y := ⟨y2, [.ws .u64 6 b0, .ws .u64 6 b1, .ws .u64 6 b2, .ws .u64 6 b3, .ws .u64 6 b4, .ws .u64 6 b5], 0, 0⟩) rfl rfl rfl rfl rfl rfl g1 g2 ?_
  refine evS_q mixed tt_ok GCr_ok 60 [] ?_
  refine same (p := nv a0 < pN ∧ nv a1 < pN ∧ nv a4 < pN ∧ nv a5 < pN ∧ nv b0 < pN ∧ nv b1 < pN ∧ nv b4 < pN ∧ nv b5 < pN ∧ nv (eF (add2x (dF a0) (dF a1) (dF a4) (dF a5))) < pN ∧ nv (eF (add2y (dF a0) (dF a1) (dF a4) (dF a5))) < pN ∧ nv (eF (add2x (dF b0) (dF b1) (dF b4) (dF b5))) < pN ∧ nv (eF (add2y (dF b0) (dF b1) (dF b4) (dF b5))) < pN ∧ nv (eF (mul2x (dF (eF (add2x (dF a0) (dF a1) (dF a4) (dF a5)))) (dF (eF (add2y (dF a0) (dF a1) (dF a4) (dF a5)))) (dF (eF (add2x (dF b0) (dF b1) (dF b4) (dF b5)))) (dF (eF (add2y (dF b0) (dF b1) (dF b4) (dF b5)))))) < pN ∧ nv (eF (mul2y (dF (eF (add2x (dF a0) (dF a1) (dF a4) (dF a5)))) (dF (eF (add2y (dF a0) (dF a1) (dF a4) (dF a5)))) (dF (eF (add2x (dF b0) (dF b1) (dF b4) (dF b5)))) (dF (eF (add2y (dF b0) (dF b1) (dF b4) (dF b5)))))) < pN ∧ nv p0 < pN ∧ nv p1 < pN ∧ nv (eF (sub2x (dF (eF (mul2x (dF (eF (add2x (dF a0) (dF a1) (dF a4) (dF a5)))) (dF (eF (add2y (dF a0) (dF a1) (dF a4) (dF a5)))) (dF (eF (add2x (dF b0) (dF b1) (dF b4) (dF b5)))) (dF (eF (add2y (dF b0) (dF b1) (dF b4) (dF b5))))))) (dF (eF (mul2y (dF (eF (add2x (dF a0) (dF a1) (dF a4) (dF a5)))) (dF (eF (add2y (dF a0) (dF a1) (dF a4) (dF a5)))) (dF (eF (add2x (dF b0) (dF b1) (dF b4) (dF b5)))) (dF (eF (add2y (dF b0) (dF b1) (dF b4) (dF b5))))))) (dF p0) (dF p1))) < pN ∧ nv (eF (sub2y (dF (eF (mul2x (dF (eF (add2x (dF a0) (dF a1) (dF a4) (dF a5)))) (dF (eF (add2y (dF a0) (dF a1) (dF a4) (dF a5)))) (dF (eF (add2x (dF b0) (dF b1) (dF b4) (dF b5)))) (dF (eF (add2y (dF b0) (dF b1) (dF b4) (dF b5))))))) (dF (eF (mul2y (dF (eF (add2x (dF a0) (dF a1) (dF a4) (dF a5)))) (dF (eF (add2y (dF a0) (dF a1) (dF a4) (dF a5)))) (dF (eF (add2x (dF b0) (dF b1) (dF b4) (dF b5)))) (dF (eF (add2y (dF b0) (dF b1) (dF b4) (dF b5))))))) (dF p0) (dF p1))) < pN ∧ nv q0 < pN ∧ nv q1 < pN ∧ some (Blk.mk y1 [.ws .u64 6 a0, .ws .u64 6 a1, .ws .u64 6 a2, .ws .u64 6 a3, .ws .u64 6 a4, .ws .u64 6 a5] 0 0) = some (Blk.mk y1 [.ws .u64 6 a0, .ws .u64 6 a1, .ws .u64 6 a2, .ws .u64 6 a3, .ws .u64 6 a4, .ws .u64 6 a5] 0 0) ∧ some (Blk.mk y2 [.ws .u64 6 b0, .ws .u64 6 b1, .ws .u64 6 b2, .ws .u64 6 b3, .ws .u64 6 b4, .ws .u64 6 b5] 0 0) = some (Blk.mk y2 [.ws .u64 6 b0, .ws .u64 6 b1, .ws .u64 6 b2, .ws .u64 6 b3, .ws .u64 6 b4, .ws .u64 6 b5] 0 0) ∧
    ∃ v', some (f2 (eF (sub2x (dF (eF (sub2x (dF (eF (mul2x (dF (eF (add2x (dF a0) (dF a1) (dF a4) (dF a5)))) (dF (eF (add2y (dF a0) (dF a1) (dF a4) (dF a5)))) (dF (eF (add2x (dF b0) (dF b1) (dF b4) (dF b5)))) (dF (eF (add2y (dF b0) (dF b1) (dF b4) (dF b5))))))) (dF (eF (mul2y (dF (eF (add2x (dF a0) (dF a1) (dF a4) (dF a5)))) (dF (eF (add2y (dF a0) (dF a1) (dF a4) (dF a5)))) (dF (eF (add2x (dF b0) (dF b1) (dF b4) (dF b5)))) (dF (eF (add2y (dF b0) (dF b1) (dF b4) (dF b5))))))) (dF p0) (dF p1)))) (dF (eF (sub2y (dF (eF (mul2x (dF (eF (add2x (dF a0) (dF a1) (dF a4) (dF a5)))) (dF (eF (add2y (dF a0) (dF a1) (dF a4) (dF a5)))) (dF (eF (add2x (dF b0) (dF b1) (dF b4) (dF b5)))) (dF (eF (add2y (dF b0) (dF b1) (dF b4) (dF b5))))))) (dF (eF (mul2y (dF (eF (add2x (dF a0) (dF a1) (dF a4) (dF a5)))) (dF (eF (add2y (dF a0) (dF a1) (dF a4) (dF a5)))) (dF (eF (add2x (dF b0) (dF b1) (dF b4) (dF b5)))) (dF (eF (add2y (dF b0) (dF b1) (dF b4) (dF b5))))))) (dF p0) (dF p1)))) (dF q0) (dF q1))) (eF (sub2y (dF (eF (sub2x (dF (eF (mul2x (dF (eF (add2x (dF a0) (dF a1) (dF a4) (dF a5)))) (dF (eF (add2y (dF a0) (dF a1) (dF a4) (dF a5)))) (dF (eF (add2x (dF b0) (dF b1) (dF b4) (dF b5)))) (dF (eF (add2y (dF b0) (dF b1) (dF b4) (dF b5))))))) (dF (eF (mul2y (dF (eF (add2x (dF a0) (dF a1) (dF a4) (dF a5)))) (dF (eF (add2y (dF a0) (dF a1) (dF a4) (dF a5)))) (dF (eF (add2x (dF b0) (dF b1) (dF b4) (dF b5)))) (dF (eF (add2y (dF b0) (dF b1) (dF b4) (dF b5))))))) (dF p0) (dF p1)))) (dF (eF (sub2y (dF (eF (mul2x (dF (eF (add2x (dF a0) (dF a1) (dF a4) (dF a5)))) (dF (eF (add2y (dF a0) (dF a1) (dF a4) (dF a5)))) (dF (eF (add2x (dF b0) (dF b1) (dF b4) (dF b5)))) (dF (eF (add2y (dF b0) (dF b1) (dF b4) (dF b5))))))) (dF (eF (mul2y (dF (eF (add2x (dF a0) (dF a1) (dF a4) (dF a5)))) (dF (eF (add2y (dF a0) (dF a1) (dF a4) (dF a5)))) (dF (eF (add2x (dF b0) (dF b1) (dF b4) (dF b5)))) (dF (eF (add2y (dF b0) (dF b1) (dF b4) (dF b5))))))) (dF p0) (dF p1)))) (dF q0) (dF q1)))) = some v' ∧ vokB v' = true ∧ ∀ ρ, v'.val ρ = (f2 (eF (crs ⟨dF a0, dF a1⟩ ⟨dF a4, dF a5⟩ ⟨dF b0, dF b1⟩ ⟨dF b4, dF b5⟩ ⟨dF p0, dF p1⟩ ⟨dF q0, dF q1⟩).x) (eF (crs ⟨dF a0, dF a1⟩ ⟨dF a4, dF a5⟩ ⟨dF b0, dF b1⟩ ⟨dF b4, dF b5⟩ ⟨dF p0, dF p1⟩ ⟨dF q0, dF q1⟩).y)).val ρ) ?_ (by kernel_rfl)
  exact ⟨ha0, ha1, ha4, ha5, hb0, hb1, hb4, hb5, lt_eF _, lt_eF _, lt_eF _, lt_eF _, lt_eF _, lt_eF _, hp0, hp1, lt_eF _, lt_eF _, hq0, hq1, rfl, rfl, _, rfl, rfl, f2_val (nvE (by simp only [dF_eF]; simp only [S6.mul, crs, xi, F2p.add_x, F2p.add_y, F2p.mul_x, F2p.mul_y, F2p.sub_x, F2p.sub_y, add2x, add2y, sub2x, sub2y, mul2x, mul2y, upx, upy])) (nvE (by simp only [dF_eF]; simp only [S6.mul, crs, xi, F2p.add_x, F2p.add_y, F2p.mul_x, F2p.mul_y, F2p.sub_x, F2p.sub_y, add2x, add2y, sub2x, sub2y, mul2x, mul2y, upx, upy]))⟩
theorem okCross : (CallC.rd cCross).Ok Try.prog 52 := by
  refine ⟨fun args h pre v e hp => ?_, fun args h slot blk hs ha => ?_⟩
  · unfold cCross at e
    split at e
    · rename_i i k p0 p1 q0 q1 x y
      split at e
      · cases e
      · rename_i hxy
        split at e
        · rename_i g1
          split at e
          · rename_i g2
            split at e
            · cases e
              exact cross12 hxy g1 g2 (hp _ (by simp)) (hp _ (by simp)) (hp _ (by simp)) (hp _ (by simp)) (hp _ (by simp)) (hp _ (by simp)) (hp _ (by simp)) (hp _ (by simp)) (hp _ (by simp)) (hp _ (by simp)) (hp _ (by simp)) (hp _ (by simp))
            · cases e
              exact cross01 hxy g1 g2 (hp _ (by simp)) (hp _ (by simp)) (hp _ (by simp)) (hp _ (by simp)) (hp _ (by simp)) (hp _ (by simp)) (hp _ (by simp)) (hp _ (by simp)) (hp _ (by simp)) (hp _ (by simp)) (hp _ (by simp)) (hp _ (by simp))
            · cases e
              exact cross02 hxy g1 g2 (hp _ (by simp)) (hp _ (by simp)) (hp _ (by simp)) (hp _ (by simp)) (hp _ (by simp)) (hp _ (by simp)) (hp _ (by simp)) (hp _ (by simp)) (hp _ (by simp)) (hp _ (by simp)) (hp _ (by simp)) (hp _ (by simp))
            · cases e
          · cases e
        · cases e
    · cases e
  · unfold cCross
    split
    · rename_i i k p0 p1 q0 q1 x y
      have ne : ∀ b, Dm h b → b ≠ slot := fun b hb e => by
        obtain ⟨z, hz⟩ := hb
        rw [e, (isHole_lt hs).2] at hz; cases hz
      have hx : Dm h x := ha (.v1 (.sc (.pt x 0))) (by simp)
      have hy : Dm h y := ha (.v1 (.sc (.pt y 0))) (by simp)
      rw [hget_hset_ne (ne x hx), hget_hset_ne (ne y hy)]
    · rfl
def GSm : Ctx := ctxL [(54, .pure (q2 add2x add2y)), (50, .pure (q2 mul2x mul2y)), (55, .pure (q1 upx upy)), (52, .rd cCross)]
theorem GSm_ok : CtxOk Try.prog GSm := ctxL_cons okAdd2 <| ctxL_cons okMul2 <| ctxL_cons okUp <| ctxL_cons okCross ctxL_nil
theorem okSmul : (CallC.pure (k62 S6.mul)).Ok Try.prog 28 := by
  refine k62_ok Try.func28 (by kernel_rfl) (by kernel_rfl) fun a0 a1 a2 a3 a4 a5 b0 b1 b2 b3 b4 b5 ha0 ha1 ha2 ha3 ha4 ha5 hb0 hb1 hb2 hb3 hb4 hb5 => evS_q mixed tt_ok GSm_ok 100 [] ?_
  refine same (p := nv a0 < pN ∧ nv a1 < pN ∧ nv b0 < pN ∧ nv b1 < pN ∧ nv a2 < pN ∧ nv a3 < pN ∧ nv b2 < pN ∧ nv b3 < pN ∧ nv a4 < pN ∧ nv a5 < pN ∧ nv b4 < pN ∧ nv b5 < pN ∧ nv a2 < pN ∧ nv a3 < pN ∧ nv a4 < pN ∧ nv a5 < pN ∧ nv b2 < pN ∧ nv b3 < pN ∧ nv b4 < pN ∧ nv b5 < pN ∧ nv (eF (mul2x (dF a2) (dF a3) (dF b2) (dF b3))) < pN ∧ nv (eF (mul2y (dF a2) (dF a3) (dF b2) (dF b3))) < pN ∧ nv (eF (mul2x (dF a4) (dF a5) (dF b4) (dF b5))) < pN ∧ nv (eF (mul2y (dF a4) (dF a5) (dF b4) (dF b5))) < pN ∧ nv (eF (crs ⟨dF a2, dF a3⟩ ⟨dF a4, dF a5⟩ ⟨dF b2, dF b3⟩ ⟨dF b4, dF b5⟩ ⟨dF (eF (mul2x (dF a2) (dF a3) (dF b2) (dF b3))), dF (eF (mul2y (dF a2) (dF a3) (dF b2) (dF b3)))⟩ ⟨dF (eF (mul2x (dF a4) (dF a5) (dF b4) (dF b5))), dF (eF (mul2y (dF a4) (dF a5) (dF b4) (dF b5)))⟩).x) < pN ∧ nv (eF (crs ⟨dF a2, dF a3⟩ ⟨dF a4, dF a5⟩ ⟨dF b2, dF b3⟩ ⟨dF b4, dF b5⟩ ⟨dF (eF (mul2x (dF a2) (dF a3) (dF b2) (dF b3))), dF (eF (mul2y (dF a2) (dF a3) (dF b2) (dF b3)))⟩ ⟨dF (eF (mul2x (dF a4) (dF a5) (dF b4) (dF b5))), dF (eF (mul2y (dF a4) (dF a5) (dF b4) (dF b5)))⟩).y) < pN ∧ nv (eF (mul2x (dF a0) (dF a1) (dF b0) (dF b1))) < pN ∧ nv (eF (mul2y (dF a0) (dF a1) (dF b0) (dF b1))) < pN ∧ nv (eF (upx (dF (eF (crs ⟨dF a2, dF a3⟩ ⟨dF a4, dF a5⟩ ⟨dF b2, dF b3⟩ ⟨dF b4, dF b5⟩ ⟨dF (eF (mul2x (dF a2) (dF a3) (dF b2) (dF b3))), dF (eF (mul2y (dF a2) (dF a3) (dF b2) (dF b3)))⟩ ⟨dF (eF (mul2x (dF a4) (dF a5) (dF b4) (dF b5))), dF (eF (mul2y (dF a4) (dF a5) (dF b4) (dF b5)))⟩).x)) (dF (eF (crs ⟨dF a2, dF a3⟩ ⟨dF a4, dF a5⟩ ⟨dF b2, dF b3⟩ ⟨dF b4, dF b5⟩ ⟨dF (eF (mul2x (dF a2) (dF a3) (dF b2) (dF b3))), dF (eF (mul2y (dF a2) (dF a3) (dF b2) (dF b3)))⟩ ⟨dF (eF (mul2x (dF a4) (dF a5) (dF b4) (dF b5))), dF (eF (mul2y (dF a4) (dF a5) (dF b4) (dF b5)))⟩).y)))) < pN ∧ nv (eF (upy (dF (eF (crs ⟨dF a2, dF a3⟩ ⟨dF a4, dF a5⟩ ⟨dF b2, dF b3⟩ ⟨dF b4, dF b5⟩ ⟨dF (eF (mul2x (dF a2) (dF a3) (dF b2) (dF b3))), dF (eF (mul2y (dF a2) (dF a3) (dF b2) (dF b3)))⟩ ⟨dF (eF (mul2x (dF a4) (dF a5) (dF b4) (dF b5))), dF (eF (mul2y (dF a4) (dF a5) (dF b4) (dF b5)))⟩).x)) (dF (eF (crs ⟨dF a2, dF a3⟩ ⟨dF a4, dF a5⟩ ⟨dF b2, dF b3⟩ ⟨dF b4, dF b5⟩ ⟨dF (eF (mul2x (dF a2) (dF a3) (dF b2) (dF b3))), dF (eF (mul2y (dF a2) (dF a3) (dF b2) (dF b3)))⟩ ⟨dF (eF (mul2x (dF a4) (dF a5) (dF b4) (dF b5))), dF (eF (mul2y (dF a4) (dF a5) (dF b4) (dF b5)))⟩).y)))) < pN ∧ nv a0 < pN ∧ nv a1 < pN ∧ nv a2 < pN ∧ nv a3 < pN ∧ nv b0 < pN ∧ nv b1 < pN ∧ nv b2 < pN ∧ nv b3 < pN ∧ nv (eF (mul2x (dF a0) (dF a1) (dF b0) (dF b1))) < pN ∧ nv (eF (mul2y (dF a0) (dF a1) (dF b0) (dF b1))) < pN ∧ nv (eF (mul2x (dF a2) (dF a3) (dF b2) (dF b3))) < pN ∧ nv (eF (mul2y (dF a2) (dF a3) (dF b2) (dF b3))) < pN ∧ nv (eF (mul2x (dF a4) (dF a5) (dF b4) (dF b5))) < pN ∧ nv (eF (mul2y (dF a4) (dF a5) (dF b4) (dF b5))) < pN ∧ nv (eF (crs ⟨dF a0, dF a1⟩ ⟨dF a2, dF a3⟩ ⟨dF b0, dF b1⟩ ⟨dF b2, dF b3⟩ ⟨dF (eF (mul2x (dF a0) (dF a1) (dF b0) (dF b1))), dF (eF (mul2y (dF a0) (dF a1) (dF b0) (dF b1)))⟩ ⟨dF (eF (mul2x (dF a2) (dF a3) (dF b2) (dF b3))), dF (eF (mul2y (dF a2) (dF a3) (dF b2) (dF b3)))⟩).x) < pN ∧ nv (eF (crs ⟨dF a0, dF a1⟩ ⟨dF a2, dF a3⟩ ⟨dF b0, dF b1⟩ ⟨dF b2, dF b3⟩ ⟨dF (eF (mul2x (dF a0) (dF a1) (dF b0) (dF b1))), dF (eF (mul2y (dF a0) (dF a1) (dF b0) (dF b1)))⟩ ⟨dF (eF (mul2x (dF a2) (dF a3) (dF b2) (dF b3))), dF (eF (mul2y (dF a2) (dF a3) (dF b2) (dF b3)))⟩).y) < pN ∧ nv (eF (upx (dF (eF (mul2x (dF a4) (dF a5) (dF b4) (dF b5)))) (dF (eF (mul2y (dF a4) (dF a5) (dF b4) (dF b5)))))) < pN ∧ nv (eF (upy (dF (eF (mul2x (dF a4) (dF a5) (dF b4) (dF b5)))) (dF (eF (mul2y (dF a4) (dF a5) (dF b4) (dF b5)))))) < pN ∧ nv a0 < pN ∧ nv a1 < pN ∧ nv a4 < pN ∧ nv a5 < pN ∧ nv b0 < pN ∧ nv b1 < pN ∧ nv b4 < pN ∧ nv b5 < pN ∧ nv (eF (mul2x (dF a0) (dF a1) (dF b0) (dF b1))) < pN ∧ nv (eF (mul2y (dF a0) (dF a1) (dF b0) (dF b1))) < pN ∧ nv (eF (mul2x (dF a4) (dF a5) (dF b4) (dF b5))) < pN ∧ nv (eF (mul2y (dF a4) (dF a5) (dF b4) (dF b5))) < pN ∧ nv (eF (crs ⟨dF a0, dF a1⟩ ⟨dF a4, dF a5⟩ ⟨dF b0, dF b1⟩ ⟨dF b4, dF b5⟩ ⟨dF (eF (mul2x (dF a0) (dF a1) (dF b0) (dF b1))), dF (eF (mul2y (dF a0) (dF a1) (dF b0) (dF b1)))⟩ ⟨dF (eF (mul2x (dF a4) (dF a5) (dF b4) (dF b5))), dF (eF (mul2y (dF a4) (dF a5) (dF b4) (dF b5)))⟩).x) < pN ∧ nv (eF (crs ⟨dF a0, dF a1⟩ ⟨dF a4, dF a5⟩ ⟨dF b0, dF b1⟩ ⟨dF b4, dF b5⟩ ⟨dF (eF (mul2x (dF a0) (dF a1) (dF b0) (dF b1))), dF (eF (mul2y (dF a0) (dF a1) (dF b0) (dF b1)))⟩ ⟨dF (eF (mul2x (dF a4) (dF a5) (dF b4) (dF b5))), dF (eF (mul2y (dF a4) (dF a5) (dF b4) (dF b5)))⟩).y) < pN ∧ nv (eF (mul2x (dF a2) (dF a3) (dF b2) (dF b3))) < pN ∧ nv (eF (mul2y (dF a2) (dF a3) (dF b2) (dF b3))) < pN ∧ endN (.v1 (v6 (eF (add2x (dF (eF (mul2x (dF a0) (dF a1) (dF b0) (dF b1)))) (dF (eF (mul2y (dF a0) (dF a1) (dF b0) (dF b1)))) (dF (eF (upx (dF (eF (crs ⟨dF a2, dF a3⟩ ⟨dF a4, dF a5⟩ ⟨dF b2, dF b3⟩ ⟨dF b4, dF b5⟩ ⟨dF (eF (mul2x (dF a2) (dF a3) (dF b2) (dF b3))), dF (eF (mul2y (dF a2) (dF a3) (dF b2) (dF b3)))⟩ ⟨dF (eF (mul2x (dF a4) (dF a5) (dF b4) (dF b5))), dF (eF (mul2y (dF a4) (dF a5) (dF b4) (dF b5)))⟩).x)) (dF (eF (crs ⟨dF a2, dF a3⟩ ⟨dF a4, dF a5⟩ ⟨dF b2, dF b3⟩ ⟨dF b4, dF b5⟩ ⟨dF (eF (mul2x (dF a2) (dF a3) (dF b2) (dF b3))), dF (eF (mul2y (dF a2) (dF a3) (dF b2) (dF b3)))⟩ ⟨dF (eF (mul2x (dF a4) (dF a5) (dF b4) (dF b5))), dF (eF (mul2y (dF a4) (dF a5) (dF b4) (dF b5)))⟩).y))))) (dF (eF (upy (dF (eF (crs ⟨dF a2, dF a3⟩ ⟨dF a4, dF a5⟩ ⟨dF b2, dF b3⟩ ⟨dF b4, dF b5⟩ ⟨dF (eF (mul2x (dF a2) (dF a3) (dF b2) (dF b3))), dF (eF (mul2y (dF a2) (dF a3) (dF b2) (dF b3)))⟩ ⟨dF (eF (mul2x (dF a4) (dF a5) (dF b4) (dF b5))), dF (eF (mul2y (dF a4) (dF a5) (dF b4) (dF b5)))⟩).x)) (dF (eF (crs ⟨dF a2, dF a3⟩ ⟨dF a4, dF a5⟩ ⟨dF b2, dF b3⟩ ⟨dF b4, dF b5⟩ ⟨dF (eF (mul2x (dF a2) (dF a3) (dF b2) (dF b3))), dF (eF (mul2y (dF a2) (dF a3) (dF b2) (dF b3)))⟩ ⟨dF (eF (mul2x (dF a4) (dF a5) (dF b4) (dF b5))), dF (eF (mul2y (dF a4) (dF a5) (dF b4) (dF b5)))⟩).y))))))) (eF (add2y (dF (eF (mul2x (dF a0) (dF a1) (dF b0) (dF b1)))) (dF (eF (mul2y (dF a0) (dF a1) (dF b0) (dF b1)))) (dF (eF (upx (dF (eF (crs ⟨dF a2, dF a3⟩ ⟨dF a4, dF a5⟩ ⟨dF b2, dF b3⟩ ⟨dF b4, dF b5⟩ ⟨dF (eF (mul2x (dF a2) (dF a3) (dF b2) (dF b3))), dF (eF (mul2y (dF a2) (dF a3) (dF b2) (dF b3)))⟩ ⟨dF (eF (mul2x (dF a4) (dF a5) (dF b4) (dF b5))), dF (eF (mul2y (dF a4) (dF a5) (dF b4) (dF b5)))⟩).x)) (dF (eF (crs ⟨dF a2, dF a3⟩ ⟨dF a4, dF a5⟩ ⟨dF b2, dF b3⟩ ⟨dF b4, dF b5⟩ ⟨dF (eF (mul2x (dF a2) (dF a3) (dF b2) (dF b3))), dF (eF (mul2y (dF a2) (dF a3) (dF b2) (dF b3)))⟩ ⟨dF (eF (mul2x (dF a4) (dF a5) (dF b4) (dF b5))), dF (eF (mul2y (dF a4) (dF a5) (dF b4) (dF b5)))⟩).y))))) (dF (eF (upy (dF (eF (crs ⟨dF a2, dF a3⟩ ⟨dF a4, dF a5⟩ ⟨dF b2, dF b3⟩ ⟨dF b4, dF b5⟩ ⟨dF (eF (mul2x (dF a2) (dF a3) (dF b2) (dF b3))), dF (eF (mul2y (dF a2) (dF a3) (dF b2) (dF b3)))⟩ ⟨dF (eF (mul2x (dF a4) (dF a5) (dF b4) (dF b5))), dF (eF (mul2y (dF a4) (dF a5) (dF b4) (dF b5)))⟩).x)) (dF (eF (crs ⟨dF a2, dF a3⟩ ⟨dF a4, dF a5⟩ ⟨dF b2, dF b3⟩ ⟨dF b4, dF b5⟩ ⟨dF (eF (mul2x (dF a2) (dF a3) (dF b2) (dF b3))), dF (eF (mul2y (dF a2) (dF a3) (dF b2) (dF b3)))⟩ ⟨dF (eF (mul2x (dF a4) (dF a5) (dF b4) (dF b5))), dF (eF (mul2y (dF a4) (dF a5) (dF b4) (dF b5)))⟩).y))))))) (eF (add2x (dF (eF (crs ⟨dF a0, dF a1⟩ ⟨dF a2, dF a3⟩ ⟨dF b0, dF b1⟩ ⟨dF b2, dF b3⟩ ⟨dF (eF (mul2x (dF a0) (dF a1) (dF b0) (dF b1))), dF (eF (mul2y (dF a0) (dF a1) (dF b0) (dF b1)))⟩ ⟨dF (eF (mul2x (dF a2) (dF a3) (dF b2) (dF b3))), dF (eF (mul2y (dF a2) (dF a3) (dF b2) (dF b3)))⟩).x)) (dF (eF (crs ⟨dF a0, dF a1⟩ ⟨dF a2, dF a3⟩ ⟨dF b0, dF b1⟩ ⟨dF b2, dF b3⟩ ⟨dF (eF (mul2x (dF a0) (dF a1) (dF b0) (dF b1))), dF (eF (mul2y (dF a0) (dF a1) (dF b0) (dF b1)))⟩ ⟨dF (eF (mul2x (dF a2) (dF a3) (dF b2) (dF b3))), dF (eF (mul2y (dF a2) (dF a3) (dF b2) (dF b3)))⟩).y)) (dF (eF (upx (dF (eF (mul2x (dF a4) (dF a5) (dF b4) (dF b5)))) (dF (eF (mul2y (dF a4) (dF a5) (dF b4) (dF b5))))))) (dF (eF (upy (dF (eF (mul2x (dF a4) (dF a5) (dF b4) (dF b5)))) (dF (eF (mul2y (dF a4) (dF a5) (dF b4) (dF b5))))))))) (eF (add2y (dF (eF (crs ⟨dF a0, dF a1⟩ ⟨dF a2, dF a3⟩ ⟨dF b0, dF b1⟩ ⟨dF b2, dF b3⟩ ⟨dF (eF (mul2x (dF a0) (dF a1) (dF b0) (dF b1))), dF (eF (mul2y (dF a0) (dF a1) (dF b0) (dF b1)))⟩ ⟨dF (eF (mul2x (dF a2) (dF a3) (dF b2) (dF b3))), dF (eF (mul2y (dF a2) (dF a3) (dF b2) (dF b3)))⟩).x)) (dF (eF (crs ⟨dF a0, dF a1⟩ ⟨dF a2, dF a3⟩ ⟨dF b0, dF b1⟩ ⟨dF b2, dF b3⟩ ⟨dF (eF (mul2x (dF a0) (dF a1) (dF b0) (dF b1))), dF (eF (mul2y (dF a0) (dF a1) (dF b0) (dF b1)))⟩ ⟨dF (eF (mul2x (dF a2) (dF a3) (dF b2) (dF b3))), dF (eF (mul2y (dF a2) (dF a3) (dF b2) (dF b3)))⟩).y)) (dF (eF (upx (dF (eF (mul2x (dF a4) (dF a5) (dF b4) (dF b5)))) (dF (eF (mul2y (dF a4) (dF a5) (dF b4) (dF b5))))))) (dF (eF (upy (dF (eF (mul2x (dF a4) (dF a5) (dF b4) (dF b5)))) (dF (eF (mul2y (dF a4) (dF a5) (dF b4) (dF b5))))))))) (eF (add2x (dF (eF (crs ⟨dF a0, dF a1⟩ ⟨dF a4, dF a5⟩ ⟨dF b0, dF b1⟩ ⟨dF b4, dF b5⟩ ⟨dF (eF (mul2x (dF a0) (dF a1) (dF b0) (dF b1))), dF (eF (mul2y (dF a0) (dF a1) (dF b0) (dF b1)))⟩ ⟨dF (eF (mul2x (dF a4) (dF a5) (dF b4) (dF b5))), dF (eF (mul2y (dF a4) (dF a5) (dF b4) (dF b5)))⟩).x)) (dF (eF (crs ⟨dF a0, dF a1⟩ ⟨dF a4, dF a5⟩ ⟨dF b0, dF b1⟩ ⟨dF b4, dF b5⟩ ⟨dF (eF (mul2x (dF a0) (dF a1) (dF b0) (dF b1))), dF (eF (mul2y (dF a0) (dF a1) (dF b0) (dF b1)))⟩ ⟨dF (eF (mul2x (dF a4) (dF a5) (dF b4) (dF b5))), dF (eF (mul2y (dF a4) (dF a5) (dF b4) (dF b5)))⟩).y)) (dF (eF (mul2x (dF a2) (dF a3) (dF b2) (dF b3)))) (dF (eF (mul2y (dF a2) (dF a3) (dF b2) (dF b3)))))) (eF (add2y (dF (eF (crs ⟨dF a0, dF a1⟩ ⟨dF a4, dF a5⟩ ⟨dF b0, dF b1⟩ ⟨dF b4, dF b5⟩ ⟨dF (eF (mul2x (dF a0) (dF a1) (dF b0) (dF b1))), dF (eF (mul2y (dF a0) (dF a1) (dF b0) (dF b1)))⟩ ⟨dF (eF (mul2x (dF a4) (dF a5) (dF b4) (dF b5))), dF (eF (mul2y (dF a4) (dF a5) (dF b4) (dF b5)))⟩).x)) (dF (eF (crs ⟨dF a0, dF a1⟩ ⟨dF a4, dF a5⟩ ⟨dF b0, dF b1⟩ ⟨dF b4, dF b5⟩ ⟨dF (eF (mul2x (dF a0) (dF a1) (dF b0) (dF b1))), dF (eF (mul2y (dF a0) (dF a1) (dF b0) (dF b1)))⟩ ⟨dF (eF (mul2x (dF a4) (dF a5) (dF b4) (dF b5))), dF (eF (mul2y (dF a4) (dF a5) (dF b4) (dF b5)))⟩).y)) (dF (eF (mul2x (dF a2) (dF a3) (dF b2) (dF b3)))) (dF (eF (mul2y (dF a2) (dF a3) (dF b2) (dF b3)))))))) (.v1 (e6 (S6.mul (d6 a0 a1 a2 a3 a4 a5) (d6 b0 b1 b2 b3 b4 b5))))) ?_ (by kernel_rfl)
  exact ⟨ha0, ha1, hb0, hb1, ha2, ha3, hb2, hb3, ha4, ha5, hb4, hb5, ha2, ha3, ha4, ha5, hb2, hb3, hb4, hb5, lt_eF _, lt_eF _, lt_eF _, lt_eF _, lt_eF _, lt_eF _, lt_eF _, lt_eF _, lt_eF _, lt_eF _, ha0, ha1, ha2, ha3, hb0, hb1, hb2, hb3, lt_eF _, lt_eF _, lt_eF _, lt_eF _, lt_eF _, lt_eF _, lt_eF _, lt_eF _, lt_eF _, lt_eF _, ha0, ha1, ha4, ha5, hb0, hb1, hb4, hb5, lt_eF _, lt_eF _, lt_eF _, lt_eF _, lt_eF _, lt_eF _, lt_eF _, lt_eF _, endN_6 (nvE (by simp only [dF_eF]; simp only [S6.mul, crs, xi, F2p.add_x, F2p.add_y, F2p.mul_x, F2p.mul_y, F2p.sub_x, F2p.sub_y, add2x, add2y, sub2x, sub2y, mul2x, mul2y, upx, upy]; grind)) (nvE (by simp only [dF_eF]; simp only [S6.mul, crs, xi, F2p.add_x, F2p.add_y, F2p.mul_x, F2p.mul_y, F2p.sub_x, F2p.sub_y, add2x, add2y, sub2x, sub2y, mul2x, mul2y, upx, upy]; grind)) (nvE (by simp only [dF_eF]; simp only [S6.mul, crs, xi, F2p.add_x, F2p.add_y, F2p.mul_x, F2p.mul_y, F2p.sub_x, F2p.sub_y, add2x, add2y, sub2x, sub2y, mul2x, mul2y, upx, upy]; grind)) (nvE (by simp only [dF_eF]; simp only [S6.mul, crs, xi, F2p.add_x, F2p.add_y, F2p.mul_x, F2p.mul_y, F2p.sub_x, F2p.sub_y, add2x, add2y, sub2x, sub2y, mul2x, mul2y, upx, upy]; grind)) (nvE (by simp only [dF_eF]; simp only [S6.mul, crs, xi, F2p.add_x, F2p.add_y, F2p.mul_x, F2p.mul_y, F2p.sub_x, F2p.sub_y, add2x, add2y, sub2x, sub2y, mul2x, mul2y, upx, upy]; grind)) (nvE (by simp only [dF_eF]; simp only [S6.mul, crs, xi, F2p.add_x, F2p.add_y, F2p.mul_x, F2p.mul_y, F2p.sub_x, F2p.sub_y, add2x, add2y, sub2x, sub2y, mul2x, mul2y, upx, upy]; grind))⟩
end Go.Proofs.Ytnjocbcjejpklaa

/- Numbers of twelve parts: halves, whole. Printed by genf12.py. -/
namespace Go.Proofs.Ytnjocbcjejpklaa
open Go.Rq Go
set_option maxRecDepth 100000

abbrev v12 (a0 a1 a2 a3 a4 a5 a6 a7 a8 a9 a10 a11 : Nat → Nat) : V1 := .agg [.ws .u64 6 a0, .ws .u64 6 a1, .ws .u64 6 a2, .ws .u64 6 a3, .ws .u64 6 a4, .ws .u64 6 a5, .ws .u64 6 a6, .ws .u64 6 a7, .ws .u64 6 a8, .ws .u64 6 a9, .ws .u64 6 a10, .ws .u64 6 a11]
def cHal : List AV → Option (List Prop × AV)
  | [.v1 (.agg [.ws .u64 6 a0, .ws .u64 6 a1, .ws .u64 6 a2, .ws .u64 6 a3, .ws .u64 6 a4, .ws .u64 6 a5, .ws .u64 6 a6, .ws .u64 6 a7, .ws .u64 6 a8, .ws .u64 6 a9, .ws .u64 6 a10, .ws .u64 6 a11])] => some ([], .tup [v6 a0 a1 a4 a5 a8 a9, v6 a2 a3 a6 a7 a10 a11])
  | _ => none
def cWho : List AV → Option (List Prop × AV)
  | [.v1 (.agg [.ws .u64 6 a0, .ws .u64 6 a1, .ws .u64 6 a2, .ws .u64 6 a3, .ws .u64 6 a4, .ws .u64 6 a5]), .v1 (.agg [.ws .u64 6 b0, .ws .u64 6 b1, .ws .u64 6 b2, .ws .u64 6 b3, .ws .u64 6 b4, .ws .u64 6 b5])] => some ([], .v1 (v12 a0 a1 b0 b1 a2 a3 b2 b3 a4 a5 b4 b5))
  | _ => none
theorem okHal : (CallC.pure cHal).Ok Try.prog 27 := by
  intro args pre v e _
  unfold cHal at e
  split at e
  · rename_i a0 a1 a2 a3 a4 a5 a6 a7 a8 a9 a10 a11
    cases e
    refine pure_walk' tt_ok Try.func27 (by kernel_rfl) (by kernel_rfl) (by rfl) (by rfl) ?_
    refine evS_q mixed tt_ok G0_ok 60 [] ?_
    exact same (p := endN (.tup [v6 a0 a1 a4 a5 a8 a9, v6 a2 a3 a6 a7 a10 a11]) (.tup [v6 a0 a1 a4 a5 a8 a9, v6 a2 a3 a6 a7 a10 a11])) ⟨_, rfl, fun _ => rfl⟩ (by kernel_rfl)
  · cases e
theorem okWho : (CallC.pure cWho).Ok Try.prog 30 := by
  intro args pre v e _
  unfold cWho at e
  split at e
  · rename_i a0 a1 a2 a3 a4 a5 b0 b1 b2 b3 b4 b5
    cases e
    refine pure_walk' tt_ok Try.func30 (by kernel_rfl) (by kernel_rfl) (by rfl) (by rfl) ?_
    refine evS_q mixed tt_ok G0_ok 60 [] ?_
    exact same (p := endN (.v1 (v12 a0 a1 b0 b1 a2 a3 b2 b3 a4 a5 b4 b5)) (.v1 (v12 a0 a1 b0 b1 a2 a3 b2 b3 a4 a5 b4 b5))) ⟨_, rfl, fun _ => rfl⟩ (by kernel_rfl)
  · cases e
end Go.Proofs.Ytnjocbcjejpklaa

/- Products of numbers of twelve parts. Printed by genmul12.py. -/
namespace Go.Proofs.Ytnjocbcjejpklaa
open Go.Rq Go
set_option maxRecDepth 100000

abbrev D6 (s : S6) : S6 := d6 (eF s.u.x) (eF s.u.y) (eF s.v.x) (eF s.v.y) (eF s.w.x) (eF s.w.y)
theorem D6_eq (s : S6) : D6 s = s := by simp only [D6, d6, dF_eF]
theorem S6.kar (p q r s : S6) : S6.sub (S6.sub (S6.mul (S6.add p q) (S6.add r s)) (S6.mul p r)) (S6.mul q s) = S6.add (S6.mul p s) (S6.mul q r) := by
  unfold S6.sub S6.mul S6.add
  simp only [xi_mul, S6.mk.injEq]
  generalize kx = k
  refine ⟨?_, ?_, ?_⟩ <;> grind
abbrev d12 (a0 a1 a2 a3 a4 a5 a6 a7 a8 a9 a10 a11 : Nat → Nat) : S12 := ⟨d6 a0 a1 a4 a5 a8 a9, d6 a2 a3 a6 a7 a10 a11⟩
abbrev e12 (s : S12) : V1 := v12 (eF s.p.u.x) (eF s.p.u.y) (eF s.q.u.x) (eF s.q.u.y) (eF s.p.v.x) (eF s.p.v.y) (eF s.q.v.x) (eF s.q.v.y) (eF s.p.w.x) (eF s.p.w.y) (eF s.q.w.x) (eF s.q.w.y)
theorem v12_val {a0 a1 a2 a3 a4 a5 a6 a7 a8 a9 a10 a11 a0' a1' a2' a3' a4' a5' a6' a7' a8' a9' a10' a11' : Nat → Nat} (h0 : nv a0 = nv a0') (h1 : nv a1 = nv a1') (h2 : nv a2 = nv a2') (h3 : nv a3 = nv a3') (h4 : nv a4 = nv a4') (h5 : nv a5 = nv a5') (h6 : nv a6 = nv a6') (h7 : nv a7 = nv a7') (h8 : nv a8 = nv a8') (h9 : nv a9 = nv a9') (h10 : nv a10 = nv a10') (h11 : nv a11 = nv a11') (ρ : Ren) : (v12 a0 a1 a2 a3 a4 a5 a6 a7 a8 a9 a10 a11).val ρ = (v12 a0' a1' a2' a3' a4' a5' a6' a7' a8' a9' a10' a11').val ρ := by
  show Value.agg (cvals ρ _).toArray = Value.agg (cvals ρ _).toArray
  simp only [cvals]
  rw [ws_cell ρ h0, ws_cell ρ h1, ws_cell ρ h2, ws_cell ρ h3, ws_cell ρ h4, ws_cell ρ h5, ws_cell ρ h6, ws_cell ρ h7, ws_cell ρ h8, ws_cell ρ h9, ws_cell ρ h10, ws_cell ρ h11]
def k122 (F : S12 → S12 → S12) : List AV → Option (List Prop × AV)
  | [.v1 (.agg [.ws .u64 6 a0, .ws .u64 6 a1, .ws .u64 6 a2, .ws .u64 6 a3, .ws .u64 6 a4, .ws .u64 6 a5, .ws .u64 6 a6, .ws .u64 6 a7, .ws .u64 6 a8, .ws .u64 6 a9, .ws .u64 6 a10, .ws .u64 6 a11]), .v1 (.agg [.ws .u64 6 b0, .ws .u64 6 b1, .ws .u64 6 b2, .ws .u64 6 b3, .ws .u64 6 b4, .ws .u64 6 b5, .ws .u64 6 b6, .ws .u64 6 b7, .ws .u64 6 b8, .ws .u64 6 b9, .ws .u64 6 b10, .ws .u64 6 b11])] => some ([nv a0 < pN, nv a1 < pN, nv a2 < pN, nv a3 < pN, nv a4 < pN, nv a5 < pN, nv a6 < pN, nv a7 < pN, nv a8 < pN, nv a9 < pN, nv a10 < pN, nv a11 < pN, nv b0 < pN, nv b1 < pN, nv b2 < pN, nv b3 < pN, nv b4 < pN, nv b5 < pN, nv b6 < pN, nv b7 < pN, nv b8 < pN, nv b9 < pN, nv b10 < pN, nv b11 < pN], .v1 (e12 (F (d12 a0 a1 a2 a3 a4 a5 a6 a7 a8 a9 a10 a11) (d12 b0 b1 b2 b3 b4 b5 b6 b7 b8 b9 b10 b11))))
  | _ => none
def GMl : Ctx := ctxL [(27, .pure cHal), (30, .pure cWho), (28, .pure (k62 S6.mul)), (29, .pure (k62 S6.add)), (32, .pure (k62 S6.sub)), (31, .pure (k61 S6.next))]
theorem GMl_ok : CtxOk Try.prog GMl := ctxL_cons okHal <| ctxL_cons okWho <| ctxL_cons okSmul <| ctxL_cons okSadd <| ctxL_cons okSsub <| ctxL_cons okSnext ctxL_nil
theorem okMul12 : (CallC.pure (k122 S12.mul)).Ok Try.prog 14 := by
  intro args pre v e hp
  unfold k122 at e
  split at e
  · rename_i a0 a1 a2 a3 a4 a5 a6 a7 a8 a9 a10 a11 b0 b1 b2 b3 b4 b5 b6 b7 b8 b9 b10 b11
    cases e
    have ha0 : nv a0 < pN := hp _ (by simp)
    have ha1 : nv a1 < pN := hp _ (by simp)
    have ha2 : nv a2 < pN := hp _ (by simp)
    have ha3 : nv a3 < pN := hp _ (by simp)
    have ha4 : nv a4 < pN := hp _ (by simp)
    have ha5 : nv a5 < pN := hp _ (by simp)
    have ha6 : nv a6 < pN := hp _ (by simp)
    have ha7 : nv a7 < pN := hp _ (by simp)
    have ha8 : nv a8 < pN := hp _ (by simp)
    have ha9 : nv a9 < pN := hp _ (by simp)
    have ha10 : nv a10 < pN := hp _ (by simp)
    have ha11 : nv a11 < pN := hp _ (by simp)
    have hb0 : nv b0 < pN := hp _ (by simp)
    have hb1 : nv b1 < pN := hp _ (by simp)
    have hb2 : nv b2 < pN := hp _ (by simp)
    have hb3 : nv b3 < pN := hp _ (by simp)
    have hb4 : nv b4 < pN := hp _ (by simp)
    have hb5 : nv b5 < pN := hp _ (by simp)
    have hb6 : nv b6 < pN := hp _ (by simp)
    have hb7 : nv b7 < pN := hp _ (by simp)
    have hb8 : nv b8 < pN := hp _ (by simp)
    have hb9 : nv b9 < pN := hp _ (by simp)
    have hb10 : nv b10 < pN := hp _ (by simp)
    have hb11 : nv b11 < pN := hp _ (by simp)
    have hlo : (S6.add (D6 (S6.mul (d6 a0 a1 a4 a5 a8 a9) (d6 b0 b1 b4 b5 b8 b9))) (D6 (S6.next (D6 (S6.mul (d6 a2 a3 a6 a7 a10 a11) (d6 b2 b3 b6 b7 b10 b11)))))) = (S12.mul (d12 a0 a1 a2 a3 a4 a5 a6 a7 a8 a9 a10 a11) (d12 b0 b1 b2 b3 b4 b5 b6 b7 b8 b9 b10 b11)).p := by simp only [D6_eq]; rfl
    have hhi : (S6.sub (D6 (S6.sub (D6 (S6.mul (D6 (S6.add (d6 a0 a1 a4 a5 a8 a9) (d6 a2 a3 a6 a7 a10 a11))) (D6 (S6.add (d6 b0 b1 b4 b5 b8 b9) (d6 b2 b3 b6 b7 b10 b11))))) (D6 (S6.mul (d6 a0 a1 a4 a5 a8 a9) (d6 b0 b1 b4 b5 b8 b9))))) (D6 (S6.mul (d6 a2 a3 a6 a7 a10 a11) (d6 b2 b3 b6 b7 b10 b11)))) = (S12.mul (d12 a0 a1 a2 a3 a4 a5 a6 a7 a8 a9 a10 a11) (d12 b0 b1 b2 b3 b4 b5 b6 b7 b8 b9 b10 b11)).q := by simp only [D6_eq]; exact S6.kar _ _ _ _
    refine pure_walk' tt_ok Try.func14 (by kernel_rfl) (by kernel_rfl) (by rfl) (by rfl) ?_
    refine evS_q mixed tt_ok GMl_ok 60 [] ?_
    refine same (p := nv a0 < pN ∧ nv a1 < pN ∧ nv a4 < pN ∧ nv a5 < pN ∧ nv a8 < pN ∧ nv a9 < pN ∧ nv b0 < pN ∧ nv b1 < pN ∧ nv b4 < pN ∧ nv b5 < pN ∧ nv b8 < pN ∧ nv b9 < pN ∧ nv a2 < pN ∧ nv a3 < pN ∧ nv a6 < pN ∧ nv a7 < pN ∧ nv a10 < pN ∧ nv a11 < pN ∧ nv b2 < pN ∧ nv b3 < pN ∧ nv b6 < pN ∧ nv b7 < pN ∧ nv b10 < pN ∧ nv b11 < pN ∧ nv a0 < pN ∧ nv a1 < pN ∧ nv a4 < pN ∧ nv a5 < pN ∧ nv a8 < pN ∧ nv a9 < pN ∧ nv a2 < pN ∧ nv a3 < pN ∧ nv a6 < pN ∧ nv a7 < pN ∧ nv a10 < pN ∧ nv a11 < pN ∧ nv b0 < pN ∧ nv b1 < pN ∧ nv b4 < pN ∧ nv b5 < pN ∧ nv b8 < pN ∧ nv b9 < pN ∧ nv b2 < pN ∧ nv b3 < pN ∧ nv b6 < pN ∧ nv b7 < pN ∧ nv b10 < pN ∧ nv b11 < pN ∧ nv (eF (S6.add (d6 a0 a1 a4 a5 a8 a9) (d6 a2 a3 a6 a7 a10 a11)).u.x) < pN ∧ nv (eF (S6.add (d6 a0 a1 a4 a5 a8 a9) (d6 a2 a3 a6 a7 a10 a11)).u.y) < pN ∧ nv (eF (S6.add (d6 a0 a1 a4 a5 a8 a9) (d6 a2 a3 a6 a7 a10 a11)).v.x) < pN ∧ nv (eF (S6.add (d6 a0 a1 a4 a5 a8 a9) (d6 a2 a3 a6 a7 a10 a11)).v.y) < pN ∧ nv (eF (S6.add (d6 a0 a1 a4 a5 a8 a9) (d6 a2 a3 a6 a7 a10 a11)).w.x) < pN ∧ nv (eF (S6.add (d6 a0 a1 a4 a5 a8 a9) (d6 a2 a3 a6 a7 a10 a11)).w.y) < pN ∧ nv (eF (S6.add (d6 b0 b1 b4 b5 b8 b9) (d6 b2 b3 b6 b7 b10 b11)).u.x) < pN ∧ nv (eF (S6.add (d6 b0 b1 b4 b5 b8 b9) (d6 b2 b3 b6 b7 b10 b11)).u.y) < pN ∧ nv (eF (S6.add (d6 b0 b1 b4 b5 b8 b9) (d6 b2 b3 b6 b7 b10 b11)).v.x) < pN ∧ nv (eF (S6.add (d6 b0 b1 b4 b5 b8 b9) (d6 b2 b3 b6 b7 b10 b11)).v.y) < pN ∧ nv (eF (S6.add (d6 b0 b1 b4 b5 b8 b9) (d6 b2 b3 b6 b7 b10 b11)).w.x) < pN ∧ nv (eF (S6.add (d6 b0 b1 b4 b5 b8 b9) (d6 b2 b3 b6 b7 b10 b11)).w.y) < pN ∧ nv (eF (S6.mul (d6 a2 a3 a6 a7 a10 a11) (d6 b2 b3 b6 b7 b10 b11)).u.x) < pN ∧ nv (eF (S6.mul (d6 a2 a3 a6 a7 a10 a11) (d6 b2 b3 b6 b7 b10 b11)).u.y) < pN ∧ nv (eF (S6.mul (d6 a2 a3 a6 a7 a10 a11) (d6 b2 b3 b6 b7 b10 b11)).v.x) < pN ∧ nv (eF (S6.mul (d6 a2 a3 a6 a7 a10 a11) (d6 b2 b3 b6 b7 b10 b11)).v.y) < pN ∧ nv (eF (S6.mul (d6 a2 a3 a6 a7 a10 a11) (d6 b2 b3 b6 b7 b10 b11)).w.x) < pN ∧ nv (eF (S6.mul (d6 a2 a3 a6 a7 a10 a11) (d6 b2 b3 b6 b7 b10 b11)).w.y) < pN ∧ nv (eF (S6.mul (d6 a0 a1 a4 a5 a8 a9) (d6 b0 b1 b4 b5 b8 b9)).u.x) < pN ∧ nv (eF (S6.mul (d6 a0 a1 a4 a5 a8 a9) (d6 b0 b1 b4 b5 b8 b9)).u.y) < pN ∧ nv (eF (S6.mul (d6 a0 a1 a4 a5 a8 a9) (d6 b0 b1 b4 b5 b8 b9)).v.x) < pN ∧ nv (eF (S6.mul (d6 a0 a1 a4 a5 a8 a9) (d6 b0 b1 b4 b5 b8 b9)).v.y) < pN ∧ nv (eF (S6.mul (d6 a0 a1 a4 a5 a8 a9) (d6 b0 b1 b4 b5 b8 b9)).w.x) < pN ∧ nv (eF (S6.mul (d6 a0 a1 a4 a5 a8 a9) (d6 b0 b1 b4 b5 b8 b9)).w.y) < pN ∧ nv (eF (S6.next (D6 (S6.mul (d6 a2 a3 a6 a7 a10 a11) (d6 b2 b3 b6 b7 b10 b11)))).u.x) < pN ∧ nv (eF (S6.next (D6 (S6.mul (d6 a2 a3 a6 a7 a10 a11) (d6 b2 b3 b6 b7 b10 b11)))).u.y) < pN ∧ nv (eF (S6.next (D6 (S6.mul (d6 a2 a3 a6 a7 a10 a11) (d6 b2 b3 b6 b7 b10 b11)))).v.x) < pN ∧ nv (eF (S6.next (D6 (S6.mul (d6 a2 a3 a6 a7 a10 a11) (d6 b2 b3 b6 b7 b10 b11)))).v.y) < pN ∧ nv (eF (S6.next (D6 (S6.mul (d6 a2 a3 a6 a7 a10 a11) (d6 b2 b3 b6 b7 b10 b11)))).w.x) < pN ∧ nv (eF (S6.next (D6 (S6.mul (d6 a2 a3 a6 a7 a10 a11) (d6 b2 b3 b6 b7 b10 b11)))).w.y) < pN ∧ nv (eF (S6.mul (D6 (S6.add (d6 a0 a1 a4 a5 a8 a9) (d6 a2 a3 a6 a7 a10 a11))) (D6 (S6.add (d6 b0 b1 b4 b5 b8 b9) (d6 b2 b3 b6 b7 b10 b11)))).u.x) < pN ∧ nv (eF (S6.mul (D6 (S6.add (d6 a0 a1 a4 a5 a8 a9) (d6 a2 a3 a6 a7 a10 a11))) (D6 (S6.add (d6 b0 b1 b4 b5 b8 b9) (d6 b2 b3 b6 b7 b10 b11)))).u.y) < pN ∧ nv (eF (S6.mul (D6 (S6.add (d6 a0 a1 a4 a5 a8 a9) (d6 a2 a3 a6 a7 a10 a11))) (D6 (S6.add (d6 b0 b1 b4 b5 b8 b9) (d6 b2 b3 b6 b7 b10 b11)))).v.x) < pN ∧ nv (eF (S6.mul (D6 (S6.add (d6 a0 a1 a4 a5 a8 a9) (d6 a2 a3 a6 a7 a10 a11))) (D6 (S6.add (d6 b0 b1 b4 b5 b8 b9) (d6 b2 b3 b6 b7 b10 b11)))).v.y) < pN ∧ nv (eF (S6.mul (D6 (S6.add (d6 a0 a1 a4 a5 a8 a9) (d6 a2 a3 a6 a7 a10 a11))) (D6 (S6.add (d6 b0 b1 b4 b5 b8 b9) (d6 b2 b3 b6 b7 b10 b11)))).w.x) < pN ∧ nv (eF (S6.mul (D6 (S6.add (d6 a0 a1 a4 a5 a8 a9) (d6 a2 a3 a6 a7 a10 a11))) (D6 (S6.add (d6 b0 b1 b4 b5 b8 b9) (d6 b2 b3 b6 b7 b10 b11)))).w.y) < pN ∧ nv (eF (S6.mul (d6 a0 a1 a4 a5 a8 a9) (d6 b0 b1 b4 b5 b8 b9)).u.x) < pN ∧ nv (eF (S6.mul (d6 a0 a1 a4 a5 a8 a9) (d6 b0 b1 b4 b5 b8 b9)).u.y) < pN ∧ nv (eF (S6.mul (d6 a0 a1 a4 a5 a8 a9) (d6 b0 b1 b4 b5 b8 b9)).v.x) < pN ∧ nv (eF (S6.mul (d6 a0 a1 a4 a5 a8 a9) (d6 b0 b1 b4 b5 b8 b9)).v.y) < pN ∧ nv (eF (S6.mul (d6 a0 a1 a4 a5 a8 a9) (d6 b0 b1 b4 b5 b8 b9)).w.x) < pN ∧ nv (eF (S6.mul (d6 a0 a1 a4 a5 a8 a9) (d6 b0 b1 b4 b5 b8 b9)).w.y) < pN ∧ nv (eF (S6.sub (D6 (S6.mul (D6 (S6.add (d6 a0 a1 a4 a5 a8 a9) (d6 a2 a3 a6 a7 a10 a11))) (D6 (S6.add (d6 b0 b1 b4 b5 b8 b9) (d6 b2 b3 b6 b7 b10 b11))))) (D6 (S6.mul (d6 a0 a1 a4 a5 a8 a9) (d6 b0 b1 b4 b5 b8 b9)))).u.x) < pN ∧ nv (eF (S6.sub (D6 (S6.mul (D6 (S6.add (d6 a0 a1 a4 a5 a8 a9) (d6 a2 a3 a6 a7 a10 a11))) (D6 (S6.add (d6 b0 b1 b4 b5 b8 b9) (d6 b2 b3 b6 b7 b10 b11))))) (D6 (S6.mul (d6 a0 a1 a4 a5 a8 a9) (d6 b0 b1 b4 b5 b8 b9)))).u.y) < pN ∧ nv (eF (S6.sub (D6 (S6.mul (D6 (S6.add (d6 a0 a1 a4 a5 a8 a9) (d6 a2 a3 a6 a7 a10 a11))) (D6 (S6.add (d6 b0 b1 b4 b5 b8 b9) (d6 b2 b3 b6 b7 b10 b11))))) (D6 (S6.mul (d6 a0 a1 a4 a5 a8 a9) (d6 b0 b1 b4 b5 b8 b9)))).v.x) < pN ∧ nv (eF (S6.sub (D6 (S6.mul (D6 (S6.add (d6 a0 a1 a4 a5 a8 a9) (d6 a2 a3 a6 a7 a10 a11))) (D6 (S6.add (d6 b0 b1 b4 b5 b8 b9) (d6 b2 b3 b6 b7 b10 b11))))) (D6 (S6.mul (d6 a0 a1 a4 a5 a8 a9) (d6 b0 b1 b4 b5 b8 b9)))).v.y) < pN ∧ nv (eF (S6.sub (D6 (S6.mul (D6 (S6.add (d6 a0 a1 a4 a5 a8 a9) (d6 a2 a3 a6 a7 a10 a11))) (D6 (S6.add (d6 b0 b1 b4 b5 b8 b9) (d6 b2 b3 b6 b7 b10 b11))))) (D6 (S6.mul (d6 a0 a1 a4 a5 a8 a9) (d6 b0 b1 b4 b5 b8 b9)))).w.x) < pN ∧ nv (eF (S6.sub (D6 (S6.mul (D6 (S6.add (d6 a0 a1 a4 a5 a8 a9) (d6 a2 a3 a6 a7 a10 a11))) (D6 (S6.add (d6 b0 b1 b4 b5 b8 b9) (d6 b2 b3 b6 b7 b10 b11))))) (D6 (S6.mul (d6 a0 a1 a4 a5 a8 a9) (d6 b0 b1 b4 b5 b8 b9)))).w.y) < pN ∧ nv (eF (S6.mul (d6 a2 a3 a6 a7 a10 a11) (d6 b2 b3 b6 b7 b10 b11)).u.x) < pN ∧ nv (eF (S6.mul (d6 a2 a3 a6 a7 a10 a11) (d6 b2 b3 b6 b7 b10 b11)).u.y) < pN ∧ nv (eF (S6.mul (d6 a2 a3 a6 a7 a10 a11) (d6 b2 b3 b6 b7 b10 b11)).v.x) < pN ∧ nv (eF (S6.mul (d6 a2 a3 a6 a7 a10 a11) (d6 b2 b3 b6 b7 b10 b11)).v.y) < pN ∧ nv (eF (S6.mul (d6 a2 a3 a6 a7 a10 a11) (d6 b2 b3 b6 b7 b10 b11)).w.x) < pN ∧ nv (eF (S6.mul (d6 a2 a3 a6 a7 a10 a11) (d6 b2 b3 b6 b7 b10 b11)).w.y) < pN ∧ endN (.v1 (v12 (eF (S6.add (D6 (S6.mul (d6 a0 a1 a4 a5 a8 a9) (d6 b0 b1 b4 b5 b8 b9))) (D6 (S6.next (D6 (S6.mul (d6 a2 a3 a6 a7 a10 a11) (d6 b2 b3 b6 b7 b10 b11)))))).u.x) (eF (S6.add (D6 (S6.mul (d6 a0 a1 a4 a5 a8 a9) (d6 b0 b1 b4 b5 b8 b9))) (D6 (S6.next (D6 (S6.mul (d6 a2 a3 a6 a7 a10 a11) (d6 b2 b3 b6 b7 b10 b11)))))).u.y) (eF (S6.sub (D6 (S6.sub (D6 (S6.mul (D6 (S6.add (d6 a0 a1 a4 a5 a8 a9) (d6 a2 a3 a6 a7 a10 a11))) (D6 (S6.add (d6 b0 b1 b4 b5 b8 b9) (d6 b2 b3 b6 b7 b10 b11))))) (D6 (S6.mul (d6 a0 a1 a4 a5 a8 a9) (d6 b0 b1 b4 b5 b8 b9))))) (D6 (S6.mul (d6 a2 a3 a6 a7 a10 a11) (d6 b2 b3 b6 b7 b10 b11)))).u.x) (eF (S6.sub (D6 (S6.sub (D6 (S6.mul (D6 (S6.add (d6 a0 a1 a4 a5 a8 a9) (d6 a2 a3 a6 a7 a10 a11))) (D6 (S6.add (d6 b0 b1 b4 b5 b8 b9) (d6 b2 b3 b6 b7 b10 b11))))) (D6 (S6.mul (d6 a0 a1 a4 a5 a8 a9) (d6 b0 b1 b4 b5 b8 b9))))) (D6 (S6.mul (d6 a2 a3 a6 a7 a10 a11) (d6 b2 b3 b6 b7 b10 b11)))).u.y) (eF (S6.add (D6 (S6.mul (d6 a0 a1 a4 a5 a8 a9) (d6 b0 b1 b4 b5 b8 b9))) (D6 (S6.next (D6 (S6.mul (d6 a2 a3 a6 a7 a10 a11) (d6 b2 b3 b6 b7 b10 b11)))))).v.x) (eF (S6.add (D6 (S6.mul (d6 a0 a1 a4 a5 a8 a9) (d6 b0 b1 b4 b5 b8 b9))) (D6 (S6.next (D6 (S6.mul (d6 a2 a3 a6 a7 a10 a11) (d6 b2 b3 b6 b7 b10 b11)))))).v.y) (eF (S6.sub (D6 (S6.sub (D6 (S6.mul (D6 (S6.add (d6 a0 a1 a4 a5 a8 a9) (d6 a2 a3 a6 a7 a10 a11))) (D6 (S6.add (d6 b0 b1 b4 b5 b8 b9) (d6 b2 b3 b6 b7 b10 b11))))) (D6 (S6.mul (d6 a0 a1 a4 a5 a8 a9) (d6 b0 b1 b4 b5 b8 b9))))) (D6 (S6.mul (d6 a2 a3 a6 a7 a10 a11) (d6 b2 b3 b6 b7 b10 b11)))).v.x) (eF (S6.sub (D6 (S6.sub (D6 (S6.mul (D6 (S6.add (d6 a0 a1 a4 a5 a8 a9) (d6 a2 a3 a6 a7 a10 a11))) (D6 (S6.add (d6 b0 b1 b4 b5 b8 b9) (d6 b2 b3 b6 b7 b10 b11))))) (D6 (S6.mul (d6 a0 a1 a4 a5 a8 a9) (d6 b0 b1 b4 b5 b8 b9))))) (D6 (S6.mul (d6 a2 a3 a6 a7 a10 a11) (d6 b2 b3 b6 b7 b10 b11)))).v.y) (eF (S6.add (D6 (S6.mul (d6 a0 a1 a4 a5 a8 a9) (d6 b0 b1 b4 b5 b8 b9))) (D6 (S6.next (D6 (S6.mul (d6 a2 a3 a6 a7 a10 a11) (d6 b2 b3 b6 b7 b10 b11)))))).w.x) (eF (S6.add (D6 (S6.mul (d6 a0 a1 a4 a5 a8 a9) (d6 b0 b1 b4 b5 b8 b9))) (D6 (S6.next (D6 (S6.mul (d6 a2 a3 a6 a7 a10 a11) (d6 b2 b3 b6 b7 b10 b11)))))).w.y) (eF (S6.sub (D6 (S6.sub (D6 (S6.mul (D6 (S6.add (d6 a0 a1 a4 a5 a8 a9) (d6 a2 a3 a6 a7 a10 a11))) (D6 (S6.add (d6 b0 b1 b4 b5 b8 b9) (d6 b2 b3 b6 b7 b10 b11))))) (D6 (S6.mul (d6 a0 a1 a4 a5 a8 a9) (d6 b0 b1 b4 b5 b8 b9))))) (D6 (S6.mul (d6 a2 a3 a6 a7 a10 a11) (d6 b2 b3 b6 b7 b10 b11)))).w.x) (eF (S6.sub (D6 (S6.sub (D6 (S6.mul (D6 (S6.add (d6 a0 a1 a4 a5 a8 a9) (d6 a2 a3 a6 a7 a10 a11))) (D6 (S6.add (d6 b0 b1 b4 b5 b8 b9) (d6 b2 b3 b6 b7 b10 b11))))) (D6 (S6.mul (d6 a0 a1 a4 a5 a8 a9) (d6 b0 b1 b4 b5 b8 b9))))) (D6 (S6.mul (d6 a2 a3 a6 a7 a10 a11) (d6 b2 b3 b6 b7 b10 b11)))).w.y))) (.v1 (e12 (S12.mul (d12 a0 a1 a2 a3 a4 a5 a6 a7 a8 a9 a10 a11) (d12 b0 b1 b2 b3 b4 b5 b6 b7 b8 b9 b10 b11))))) ?_ (by kernel_rfl)
    exact ⟨ha0, ha1, ha4, ha5, ha8, ha9, hb0, hb1, hb4, hb5, hb8, hb9, ha2, ha3, ha6, ha7, ha10, ha11, hb2, hb3, hb6, hb7, hb10, hb11, ha0, ha1, ha4, ha5, ha8, ha9, ha2, ha3, ha6, ha7, ha10, ha11, hb0, hb1, hb4, hb5, hb8, hb9, hb2, hb3, hb6, hb7, hb10, hb11, lt_eF _, lt_eF _, lt_eF _, lt_eF _, lt_eF _, lt_eF _, lt_eF _, lt_eF _, lt_eF _, lt_eF _, lt_eF _, lt_eF _, lt_eF _, lt_eF _, lt_eF _, lt_eF _, lt_eF _, lt_eF _, lt_eF _, lt_eF _, lt_eF _, lt_eF _, lt_eF _, lt_eF _, lt_eF _, lt_eF _, lt_eF _, lt_eF _, lt_eF _, lt_eF _, lt_eF _, lt_eF _, lt_eF _, lt_eF _, lt_eF _, lt_eF _, lt_eF _, lt_eF _, lt_eF _, lt_eF _, lt_eF _, lt_eF _, lt_eF _, lt_eF _, lt_eF _, lt_eF _, lt_eF _, lt_eF _, lt_eF _, lt_eF _, lt_eF _, lt_eF _, lt_eF _, lt_eF _, _, rfl, v12_val (nvE (by rw [hlo])) (nvE (by rw [hlo])) (nvE (by rw [hhi])) (nvE (by rw [hhi])) (nvE (by rw [hlo])) (nvE (by rw [hlo])) (nvE (by rw [hhi])) (nvE (by rw [hhi])) (nvE (by rw [hlo])) (nvE (by rw [hlo])) (nvE (by rw [hhi])) (nvE (by rw [hhi]))⟩
  · cases e
end Go.Proofs.Ytnjocbcjejpklaa

/- Numbers of twelve parts: in and out. Printed by genio12.py. -/
namespace Go.Proofs.Ytnjocbcjejpklaa
open Go.Rq Go
set_option maxRecDepth 100000

def cTo12 : List AV → Option (List Prop × AV)
  | [.v1 (.agg [.ws .u64 6 a0, .ws .u64 6 a1, .ws .u64 6 a2, .ws .u64 6 a3, .ws .u64 6 a4, .ws .u64 6 a5, .ws .u64 6 a6, .ws .u64 6 a7, .ws .u64 6 a8, .ws .u64 6 a9, .ws .u64 6 a10, .ws .u64 6 a11])] => some ([], .v1 (v12 (eF (gN a0)) (eF (gN a1)) (eF (gN a2)) (eF (gN a3)) (eF (gN a4)) (eF (gN a5)) (eF (gN a6)) (eF (gN a7)) (eF (gN a8)) (eF (gN a9)) (eF (gN a10)) (eF (gN a11))))
  | _ => none
def cFrom12 : List AV → Option (List Prop × AV)
  | [.v1 (.agg [.ws .u64 6 a0, .ws .u64 6 a1, .ws .u64 6 a2, .ws .u64 6 a3, .ws .u64 6 a4, .ws .u64 6 a5, .ws .u64 6 a6, .ws .u64 6 a7, .ws .u64 6 a8, .ws .u64 6 a9, .ws .u64 6 a10, .ws .u64 6 a11])] => some ([nv a0 < pN, nv a1 < pN, nv a2 < pN, nv a3 < pN, nv a4 < pN, nv a5 < pN, nv a6 < pN, nv a7 < pN, nv a8 < pN, nv a9 < pN, nv a10 < pN, nv a11 < pN], .v1 (v12 (vF (dF a0)) (vF (dF a1)) (vF (dF a2)) (vF (dF a3)) (vF (dF a4)) (vF (dF a5)) (vF (dF a6)) (vF (dF a7)) (vF (dF a8)) (vF (dF a9)) (vF (dF a10)) (vF (dF a11))))
  | _ => none
def GIo : Ctx := ctxL [(20, .pure cTo2), (21, .pure cFrom2)]
theorem GIo_ok : CtxOk Try.prog GIo := ctxL_cons okTo2 <| ctxL_cons okFrom2 ctxL_nil
theorem okTo12 : (CallC.pure cTo12).Ok Try.prog 11 := by
  intro args pre v e _
  unfold cTo12 at e
  split at e
  · rename_i a0 a1 a2 a3 a4 a5 a6 a7 a8 a9 a10 a11
    cases e
    refine pure_walk' tt_ok Try.func11 (by kernel_rfl) (by kernel_rfl) (by rfl) (by rfl) ?_
    refine evS_q mixed tt_ok GIo_ok 100 [] ?_
    exact same (p := endN (.v1 (v12 (eF (gN a0)) (eF (gN a1)) (eF (gN a2)) (eF (gN a3)) (eF (gN a4)) (eF (gN a5)) (eF (gN a6)) (eF (gN a7)) (eF (gN a8)) (eF (gN a9)) (eF (gN a10)) (eF (gN a11)))) (.v1 (v12 (eF (gN a0)) (eF (gN a1)) (eF (gN a2)) (eF (gN a3)) (eF (gN a4)) (eF (gN a5)) (eF (gN a6)) (eF (gN a7)) (eF (gN a8)) (eF (gN a9)) (eF (gN a10)) (eF (gN a11))))) ⟨_, rfl, fun _ => rfl⟩ (by kernel_rfl)
  · cases e
theorem okFrom12 : (CallC.pure cFrom12).Ok Try.prog 12 := by
  intro args pre v e hp
  unfold cFrom12 at e
  split at e
  · rename_i a0 a1 a2 a3 a4 a5 a6 a7 a8 a9 a10 a11
    cases e
    have ha0 : nv a0 < pN := hp _ (by simp)
    have ha1 : nv a1 < pN := hp _ (by simp)
    have ha2 : nv a2 < pN := hp _ (by simp)
    have ha3 : nv a3 < pN := hp _ (by simp)
    have ha4 : nv a4 < pN := hp _ (by simp)
    have ha5 : nv a5 < pN := hp _ (by simp)
    have ha6 : nv a6 < pN := hp _ (by simp)
    have ha7 : nv a7 < pN := hp _ (by simp)
    have ha8 : nv a8 < pN := hp _ (by simp)
    have ha9 : nv a9 < pN := hp _ (by simp)
    have ha10 : nv a10 < pN := hp _ (by simp)
    have ha11 : nv a11 < pN := hp _ (by simp)
    refine pure_walk' tt_ok Try.func12 (by kernel_rfl) (by kernel_rfl) (by rfl) (by rfl) ?_
    refine evS_q mixed tt_ok GIo_ok 100 [] ?_
    exact same (p := nv a0 < pN ∧ nv a1 < pN ∧ nv a2 < pN ∧ nv a3 < pN ∧ nv a4 < pN ∧ nv a5 < pN ∧ nv a6 < pN ∧ nv a7 < pN ∧ nv a8 < pN ∧ nv a9 < pN ∧ nv a10 < pN ∧ nv a11 < pN ∧ endN (.v1 (v12 (vF (dF a0)) (vF (dF a1)) (vF (dF a2)) (vF (dF a3)) (vF (dF a4)) (vF (dF a5)) (vF (dF a6)) (vF (dF a7)) (vF (dF a8)) (vF (dF a9)) (vF (dF a10)) (vF (dF a11)))) (.v1 (v12 (vF (dF a0)) (vF (dF a1)) (vF (dF a2)) (vF (dF a3)) (vF (dF a4)) (vF (dF a5)) (vF (dF a6)) (vF (dF a7)) (vF (dF a8)) (vF (dF a9)) (vF (dF a10)) (vF (dF a11))))) ⟨ha0, ha1, ha2, ha3, ha4, ha5, ha6, ha7, ha8, ha9, ha10, ha11, _, rfl, fun _ => rfl⟩ (by kernel_rfl)
  · cases e
end Go.Proofs.Ytnjocbcjejpklaa

/- The tower's products. Printed by gentmul.py. -/
namespace Go.Proofs.Ytnjocbcjejpklaa
open Go.Rq Go
set_option maxRecDepth 100000

abbrev g12 (a0 a1 a2 a3 a4 a5 a6 a7 a8 a9 a10 a11 : Nat → Nat) : S12 := ⟨⟨⟨gN a0, gN a1⟩, ⟨gN a4, gN a5⟩, ⟨gN a8, gN a9⟩⟩, ⟨⟨gN a2, gN a3⟩, ⟨gN a6, gN a7⟩, ⟨gN a10, gN a11⟩⟩⟩
abbrev n12 (s : S12) : V1 := v12 (vF s.p.u.x) (vF s.p.u.y) (vF s.q.u.x) (vF s.q.u.y) (vF s.p.v.x) (vF s.p.v.y) (vF s.q.v.x) (vF s.q.v.y) (vF s.p.w.x) (vF s.p.w.y) (vF s.q.w.x) (vF s.q.w.y)
def t122 (F : S12 → S12 → S12) : List AV → Option (List Prop × AV)
  | [.v1 (.agg [.ws .u64 6 a0, .ws .u64 6 a1, .ws .u64 6 a2, .ws .u64 6 a3, .ws .u64 6 a4, .ws .u64 6 a5, .ws .u64 6 a6, .ws .u64 6 a7, .ws .u64 6 a8, .ws .u64 6 a9, .ws .u64 6 a10, .ws .u64 6 a11]), .v1 (.agg [.ws .u64 6 b0, .ws .u64 6 b1, .ws .u64 6 b2, .ws .u64 6 b3, .ws .u64 6 b4, .ws .u64 6 b5, .ws .u64 6 b6, .ws .u64 6 b7, .ws .u64 6 b8, .ws .u64 6 b9, .ws .u64 6 b10, .ws .u64 6 b11])] => some ([], .v1 (n12 (F (g12 a0 a1 a2 a3 a4 a5 a6 a7 a8 a9 a10 a11) (g12 b0 b1 b2 b3 b4 b5 b6 b7 b8 b9 b10 b11))))
  | _ => none
def GTm : Ctx := ctxL [(11, .pure cTo12), (12, .pure cFrom12), (14, .pure (k122 S12.mul))]
theorem GTm_ok : CtxOk Try.prog GTm := ctxL_cons okTo12 <| ctxL_cons okFrom12 <| ctxL_cons okMul12 ctxL_nil
theorem okTMul : (CallC.pure (t122 S12.mul)).Ok Try.prog 7 := by
  intro args pre v e _
  unfold t122 at e
  split at e
  · rename_i a0 a1 a2 a3 a4 a5 a6 a7 a8 a9 a10 a11 b0 b1 b2 b3 b4 b5 b6 b7 b8 b9 b10 b11
    cases e
    have hX : (S12.mul (d12 (eF (gN a0)) (eF (gN a1)) (eF (gN a2)) (eF (gN a3)) (eF (gN a4)) (eF (gN a5)) (eF (gN a6)) (eF (gN a7)) (eF (gN a8)) (eF (gN a9)) (eF (gN a10)) (eF (gN a11))) (d12 (eF (gN b0)) (eF (gN b1)) (eF (gN b2)) (eF (gN b3)) (eF (gN b4)) (eF (gN b5)) (eF (gN b6)) (eF (gN b7)) (eF (gN b8)) (eF (gN b9)) (eF (gN b10)) (eF (gN b11)))) = S12.mul (g12 a0 a1 a2 a3 a4 a5 a6 a7 a8 a9 a10 a11) (g12 b0 b1 b2 b3 b4 b5 b6 b7 b8 b9 b10 b11) := by simp only [d12, d6, dF_eF]
    refine pure_walk' tt_ok Try.func7 (by kernel_rfl) (by kernel_rfl) (by rfl) (by rfl) ?_
    refine evS_q mixed tt_ok GTm_ok 100 [] ?_
    refine same (p := nv (eF (gN a0)) < pN ∧ nv (eF (gN a1)) < pN ∧ nv (eF (gN a2)) < pN ∧ nv (eF (gN a3)) < pN ∧ nv (eF (gN a4)) < pN ∧ nv (eF (gN a5)) < pN ∧ nv (eF (gN a6)) < pN ∧ nv (eF (gN a7)) < pN ∧ nv (eF (gN a8)) < pN ∧ nv (eF (gN a9)) < pN ∧ nv (eF (gN a10)) < pN ∧ nv (eF (gN a11)) < pN ∧ nv (eF (gN b0)) < pN ∧ nv (eF (gN b1)) < pN ∧ nv (eF (gN b2)) < pN ∧ nv (eF (gN b3)) < pN ∧ nv (eF (gN b4)) < pN ∧ nv (eF (gN b5)) < pN ∧ nv (eF (gN b6)) < pN ∧ nv (eF (gN b7)) < pN ∧ nv (eF (gN b8)) < pN ∧ nv (eF (gN b9)) < pN ∧ nv (eF (gN b10)) < pN ∧ nv (eF (gN b11)) < pN ∧ nv (eF (S12.mul (d12 (eF (gN a0)) (eF (gN a1)) (eF (gN a2)) (eF (gN a3)) (eF (gN a4)) (eF (gN a5)) (eF (gN a6)) (eF (gN a7)) (eF (gN a8)) (eF (gN a9)) (eF (gN a10)) (eF (gN a11))) (d12 (eF (gN b0)) (eF (gN b1)) (eF (gN b2)) (eF (gN b3)) (eF (gN b4)) (eF (gN b5)) (eF (gN b6)) (eF (gN b7)) (eF (gN b8)) (eF (gN b9)) (eF (gN b10)) (eF (gN b11)))).p.u.x) < pN ∧ nv (eF (S12.mul (d12 (eF (gN a0)) (eF (gN a1)) (eF (gN a2)) (eF (gN a3)) (eF (gN a4)) (eF (gN a5)) (eF (gN a6)) (eF (gN a7)) (eF (gN a8)) (eF (gN a9)) (eF (gN a10)) (eF (gN a11))) (d12 (eF (gN b0)) (eF (gN b1)) (eF (gN b2)) (eF (gN b3)) (eF (gN b4)) (eF (gN b5)) (eF (gN b6)) (eF (gN b7)) (eF (gN b8)) (eF (gN b9)) (eF (gN b10)) (eF (gN b11)))).p.u.y) < pN ∧ nv (eF (S12.mul (d12 (eF (gN a0)) (eF (gN a1)) (eF (gN a2)) (eF (gN a3)) (eF (gN a4)) (eF (gN a5)) (eF (gN a6)) (eF (gN a7)) (eF (gN a8)) (eF (gN a9)) (eF (gN a10)) (eF (gN a11))) (d12 (eF (gN b0)) (eF (gN b1)) (eF (gN b2)) (eF (gN b3)) (eF (gN b4)) (eF (gN b5)) (eF (gN b6)) (eF (gN b7)) (eF (gN b8)) (eF (gN b9)) (eF (gN b10)) (eF (gN b11)))).q.u.x) < pN ∧ nv (eF (S12.mul (d12 (eF (gN a0)) (eF (gN a1)) (eF (gN a2)) (eF (gN a3)) (eF (gN a4)) (eF (gN a5)) (eF (gN a6)) (eF (gN a7)) (eF (gN a8)) (eF (gN a9)) (eF (gN a10)) (eF (gN a11))) (d12 (eF (gN b0)) (eF (gN b1)) (eF (gN b2)) (eF (gN b3)) (eF (gN b4)) (eF (gN b5)) (eF (gN b6)) (eF (gN b7)) (eF (gN b8)) (eF (gN b9)) (eF (gN b10)) (eF (gN b11)))).q.u.y) < pN ∧ nv (eF (S12.mul (d12 (eF (gN a0)) (eF (gN a1)) (eF (gN a2)) (eF (gN a3)) (eF (gN a4)) (eF (gN a5)) (eF (gN a6)) (eF (gN a7)) (eF (gN a8)) (eF (gN a9)) (eF (gN a10)) (eF (gN a11))) (d12 (eF (gN b0)) (eF (gN b1)) (eF (gN b2)) (eF (gN b3)) (eF (gN b4)) (eF (gN b5)) (eF (gN b6)) (eF (gN b7)) (eF (gN b8)) (eF (gN b9)) (eF (gN b10)) (eF (gN b11)))).p.v.x) < pN ∧ nv (eF (S12.mul (d12 (eF (gN a0)) (eF (gN a1)) (eF (gN a2)) (eF (gN a3)) (eF (gN a4)) (eF (gN a5)) (eF (gN a6)) (eF (gN a7)) (eF (gN a8)) (eF (gN a9)) (eF (gN a10)) (eF (gN a11))) (d12 (eF (gN b0)) (eF (gN b1)) (eF (gN b2)) (eF (gN b3)) (eF (gN b4)) (eF (gN b5)) (eF (gN b6)) (eF (gN b7)) (eF (gN b8)) (eF (gN b9)) (eF (gN b10)) (eF (gN b11)))).p.v.y) < pN ∧ nv (eF (S12.mul (d12 (eF (gN a0)) (eF (gN a1)) (eF (gN a2)) (eF (gN a3)) (eF (gN a4)) (eF (gN a5)) (eF (gN a6)) (eF (gN a7)) (eF (gN a8)) (eF (gN a9)) (eF (gN a10)) (eF (gN a11))) (d12 (eF (gN b0)) (eF (gN b1)) (eF (gN b2)) (eF (gN b3)) (eF (gN b4)) (eF (gN b5)) (eF (gN b6)) (eF (gN b7)) (eF (gN b8)) (eF (gN b9)) (eF (gN b10)) (eF (gN b11)))).q.v.x) < pN ∧ nv (eF (S12.mul (d12 (eF (gN a0)) (eF (gN a1)) (eF (gN a2)) (eF (gN a3)) (eF (gN a4)) (eF (gN a5)) (eF (gN a6)) (eF (gN a7)) (eF (gN a8)) (eF (gN a9)) (eF (gN a10)) (eF (gN a11))) (d12 (eF (gN b0)) (eF (gN b1)) (eF (gN b2)) (eF (gN b3)) (eF (gN b4)) (eF (gN b5)) (eF (gN b6)) (eF (gN b7)) (eF (gN b8)) (eF (gN b9)) (eF (gN b10)) (eF (gN b11)))).q.v.y) < pN ∧ nv (eF (S12.mul (d12 (eF (gN a0)) (eF (gN a1)) (eF (gN a2)) (eF (gN a3)) (eF (gN a4)) (eF (gN a5)) (eF (gN a6)) (eF (gN a7)) (eF (gN a8)) (eF (gN a9)) (eF (gN a10)) (eF (gN a11))) (d12 (eF (gN b0)) (eF (gN b1)) (eF (gN b2)) (eF (gN b3)) (eF (gN b4)) (eF (gN b5)) (eF (gN b6)) (eF (gN b7)) (eF (gN b8)) (eF (gN b9)) (eF (gN b10)) (eF (gN b11)))).p.w.x) < pN ∧ nv (eF (S12.mul (d12 (eF (gN a0)) (eF (gN a1)) (eF (gN a2)) (eF (gN a3)) (eF (gN a4)) (eF (gN a5)) (eF (gN a6)) (eF (gN a7)) (eF (gN a8)) (eF (gN a9)) (eF (gN a10)) (eF (gN a11))) (d12 (eF (gN b0)) (eF (gN b1)) (eF (gN b2)) (eF (gN b3)) (eF (gN b4)) (eF (gN b5)) (eF (gN b6)) (eF (gN b7)) (eF (gN b8)) (eF (gN b9)) (eF (gN b10)) (eF (gN b11)))).p.w.y) < pN ∧ nv (eF (S12.mul (d12 (eF (gN a0)) (eF (gN a1)) (eF (gN a2)) (eF (gN a3)) (eF (gN a4)) (eF (gN a5)) (eF (gN a6)) (eF (gN a7)) (eF (gN a8)) (eF (gN a9)) (eF (gN a10)) (eF (gN a11))) (d12 (eF (gN b0)) (eF (gN b1)) (eF (gN b2)) (eF (gN b3)) (eF (gN b4)) (eF (gN b5)) (eF (gN b6)) (eF (gN b7)) (eF (gN b8)) (eF (gN b9)) (eF (gN b10)) (eF (gN b11)))).q.w.x) < pN ∧ nv (eF (S12.mul (d12 (eF (gN a0)) (eF (gN a1)) (eF (gN a2)) (eF (gN a3)) (eF (gN a4)) (eF (gN a5)) (eF (gN a6)) (eF (gN a7)) (eF (gN a8)) (eF (gN a9)) (eF (gN a10)) (eF (gN a11))) (d12 (eF (gN b0)) (eF (gN b1)) (eF (gN b2)) (eF (gN b3)) (eF (gN b4)) (eF (gN b5)) (eF (gN b6)) (eF (gN b7)) (eF (gN b8)) (eF (gN b9)) (eF (gN b10)) (eF (gN b11)))).q.w.y) < pN ∧ endN (.v1 (v12 (vF (dF (eF (S12.mul (d12 (eF (gN a0)) (eF (gN a1)) (eF (gN a2)) (eF (gN a3)) (eF (gN a4)) (eF (gN a5)) (eF (gN a6)) (eF (gN a7)) (eF (gN a8)) (eF (gN a9)) (eF (gN a10)) (eF (gN a11))) (d12 (eF (gN b0)) (eF (gN b1)) (eF (gN b2)) (eF (gN b3)) (eF (gN b4)) (eF (gN b5)) (eF (gN b6)) (eF (gN b7)) (eF (gN b8)) (eF (gN b9)) (eF (gN b10)) (eF (gN b11)))).p.u.x))) (vF (dF (eF (S12.mul (d12 (eF (gN a0)) (eF (gN a1)) (eF (gN a2)) (eF (gN a3)) (eF (gN a4)) (eF (gN a5)) (eF (gN a6)) (eF (gN a7)) (eF (gN a8)) (eF (gN a9)) (eF (gN a10)) (eF (gN a11))) (d12 (eF (gN b0)) (eF (gN b1)) (eF (gN b2)) (eF (gN b3)) (eF (gN b4)) (eF (gN b5)) (eF (gN b6)) (eF (gN b7)) (eF (gN b8)) (eF (gN b9)) (eF (gN b10)) (eF (gN b11)))).p.u.y))) (vF (dF (eF (S12.mul (d12 (eF (gN a0)) (eF (gN a1)) (eF (gN a2)) (eF (gN a3)) (eF (gN a4)) (eF (gN a5)) (eF (gN a6)) (eF (gN a7)) (eF (gN a8)) (eF (gN a9)) (eF (gN a10)) (eF (gN a11))) (d12 (eF (gN b0)) (eF (gN b1)) (eF (gN b2)) (eF (gN b3)) (eF (gN b4)) (eF (gN b5)) (eF (gN b6)) (eF (gN b7)) (eF (gN b8)) (eF (gN b9)) (eF (gN b10)) (eF (gN b11)))).q.u.x))) (vF (dF (eF (S12.mul (d12 (eF (gN a0)) (eF (gN a1)) (eF (gN a2)) (eF (gN a3)) (eF (gN a4)) (eF (gN a5)) (eF (gN a6)) (eF (gN a7)) (eF (gN a8)) (eF (gN a9)) (eF (gN a10)) (eF (gN a11))) (d12 (eF (gN b0)) (eF (gN b1)) (eF (gN b2)) (eF (gN b3)) (eF (gN b4)) (eF (gN b5)) (eF (gN b6)) (eF (gN b7)) (eF (gN b8)) (eF (gN b9)) (eF (gN b10)) (eF (gN b11)))).q.u.y))) (vF (dF (eF (S12.mul (d12 (eF (gN a0)) (eF (gN a1)) (eF (gN a2)) (eF (gN a3)) (eF (gN a4)) (eF (gN a5)) (eF (gN a6)) (eF (gN a7)) (eF (gN a8)) (eF (gN a9)) (eF (gN a10)) (eF (gN a11))) (d12 (eF (gN b0)) (eF (gN b1)) (eF (gN b2)) (eF (gN b3)) (eF (gN b4)) (eF (gN b5)) (eF (gN b6)) (eF (gN b7)) (eF (gN b8)) (eF (gN b9)) (eF (gN b10)) (eF (gN b11)))).p.v.x))) (vF (dF (eF (S12.mul (d12 (eF (gN a0)) (eF (gN a1)) (eF (gN a2)) (eF (gN a3)) (eF (gN a4)) (eF (gN a5)) (eF (gN a6)) (eF (gN a7)) (eF (gN a8)) (eF (gN a9)) (eF (gN a10)) (eF (gN a11))) (d12 (eF (gN b0)) (eF (gN b1)) (eF (gN b2)) (eF (gN b3)) (eF (gN b4)) (eF (gN b5)) (eF (gN b6)) (eF (gN b7)) (eF (gN b8)) (eF (gN b9)) (eF (gN b10)) (eF (gN b11)))).p.v.y))) (vF (dF (eF (S12.mul (d12 (eF (gN a0)) (eF (gN a1)) (eF (gN a2)) (eF (gN a3)) (eF (gN a4)) (eF (gN a5)) (eF (gN a6)) (eF (gN a7)) (eF (gN a8)) (eF (gN a9)) (eF (gN a10)) (eF (gN a11))) (d12 (eF (gN b0)) (eF (gN b1)) (eF (gN b2)) (eF (gN b3)) (eF (gN b4)) (eF (gN b5)) (eF (gN b6)) (eF (gN b7)) (eF (gN b8)) (eF (gN b9)) (eF (gN b10)) (eF (gN b11)))).q.v.x))) (vF (dF (eF (S12.mul (d12 (eF (gN a0)) (eF (gN a1)) (eF (gN a2)) (eF (gN a3)) (eF (gN a4)) (eF (gN a5)) (eF (gN a6)) (eF (gN a7)) (eF (gN a8)) (eF (gN a9)) (eF (gN a10)) (eF (gN a11))) (d12 (eF (gN b0)) (eF (gN b1)) (eF (gN b2)) (eF (gN b3)) (eF (gN b4)) (eF (gN b5)) (eF (gN b6)) (eF (gN b7)) (eF (gN b8)) (eF (gN b9)) (eF (gN b10)) (eF (gN b11)))).q.v.y))) (vF (dF (eF (S12.mul (d12 (eF (gN a0)) (eF (gN a1)) (eF (gN a2)) (eF (gN a3)) (eF (gN a4)) (eF (gN a5)) (eF (gN a6)) (eF (gN a7)) (eF (gN a8)) (eF (gN a9)) (eF (gN a10)) (eF (gN a11))) (d12 (eF (gN b0)) (eF (gN b1)) (eF (gN b2)) (eF (gN b3)) (eF (gN b4)) (eF (gN b5)) (eF (gN b6)) (eF (gN b7)) (eF (gN b8)) (eF (gN b9)) (eF (gN b10)) (eF (gN b11)))).p.w.x))) (vF (dF (eF (S12.mul (d12 (eF (gN a0)) (eF (gN a1)) (eF (gN a2)) (eF (gN a3)) (eF (gN a4)) (eF (gN a5)) (eF (gN a6)) (eF (gN a7)) (eF (gN a8)) (eF (gN a9)) (eF (gN a10)) (eF (gN a11))) (d12 (eF (gN b0)) (eF (gN b1)) (eF (gN b2)) (eF (gN b3)) (eF (gN b4)) (eF (gN b5)) (eF (gN b6)) (eF (gN b7)) (eF (gN b8)) (eF (gN b9)) (eF (gN b10)) (eF (gN b11)))).p.w.y))) (vF (dF (eF (S12.mul (d12 (eF (gN a0)) (eF (gN a1)) (eF (gN a2)) (eF (gN a3)) (eF (gN a4)) (eF (gN a5)) (eF (gN a6)) (eF (gN a7)) (eF (gN a8)) (eF (gN a9)) (eF (gN a10)) (eF (gN a11))) (d12 (eF (gN b0)) (eF (gN b1)) (eF (gN b2)) (eF (gN b3)) (eF (gN b4)) (eF (gN b5)) (eF (gN b6)) (eF (gN b7)) (eF (gN b8)) (eF (gN b9)) (eF (gN b10)) (eF (gN b11)))).q.w.x))) (vF (dF (eF (S12.mul (d12 (eF (gN a0)) (eF (gN a1)) (eF (gN a2)) (eF (gN a3)) (eF (gN a4)) (eF (gN a5)) (eF (gN a6)) (eF (gN a7)) (eF (gN a8)) (eF (gN a9)) (eF (gN a10)) (eF (gN a11))) (d12 (eF (gN b0)) (eF (gN b1)) (eF (gN b2)) (eF (gN b3)) (eF (gN b4)) (eF (gN b5)) (eF (gN b6)) (eF (gN b7)) (eF (gN b8)) (eF (gN b9)) (eF (gN b10)) (eF (gN b11)))).q.w.y))))) (.v1 (n12 (S12.mul (g12 a0 a1 a2 a3 a4 a5 a6 a7 a8 a9 a10 a11) (g12 b0 b1 b2 b3 b4 b5 b6 b7 b8 b9 b10 b11))))) ?_ (by kernel_rfl)
    exact ⟨lt_eF _, lt_eF _, lt_eF _, lt_eF _, lt_eF _, lt_eF _, lt_eF _, lt_eF _, lt_eF _, lt_eF _, lt_eF _, lt_eF _, lt_eF _, lt_eF _, lt_eF _, lt_eF _, lt_eF _, lt_eF _, lt_eF _, lt_eF _, lt_eF _, lt_eF _, lt_eF _, lt_eF _, lt_eF _, lt_eF _, lt_eF _, lt_eF _, lt_eF _, lt_eF _, lt_eF _, lt_eF _, lt_eF _, lt_eF _, lt_eF _, lt_eF _, _, rfl, v12_val (nvV (by rw [dF_eF, hX])) (nvV (by rw [dF_eF, hX])) (nvV (by rw [dF_eF, hX])) (nvV (by rw [dF_eF, hX])) (nvV (by rw [dF_eF, hX])) (nvV (by rw [dF_eF, hX])) (nvV (by rw [dF_eF, hX])) (nvV (by rw [dF_eF, hX])) (nvV (by rw [dF_eF, hX])) (nvV (by rw [dF_eF, hX])) (nvV (by rw [dF_eF, hX])) (nvV (by rw [dF_eF, hX]))⟩
  · cases e
end Go.Proofs.Ytnjocbcjejpklaa

/- The inverse of a number of three parts. Printed by gent14.py. -/
namespace Go.Proofs.Ytnjocbcjejpklaa
open Go.Rq Go
set_option maxRecDepth 100000
set_option linter.unusedVariables false
set_option linter.unusedSimpArgs false

def F2p.inv (a : F2p) : F2p := ⟨inv2x a.x a.y, inv2y a.x a.y⟩
theorem r_upx {a b : Nat → Nat} {X : F2p} (h0 : dF a = X.x) (h1 : dF b = X.y) : dF (eF (upx (dF a) (dF b))) = (xi X).x := by rw [dF_eF, h0, h1]; rfl
theorem r_upy {a b : Nat → Nat} {X : F2p} (h0 : dF a = X.x) (h1 : dF b = X.y) : dF (eF (upy (dF a) (dF b))) = (xi X).y := by rw [dF_eF, h0, h1]; rfl
theorem r_invx {a b : Nat → Nat} {X : F2p} (h0 : dF a = X.x) (h1 : dF b = X.y) : dF (eF (inv2x (dF a) (dF b))) = (F2p.inv X).x := by rw [dF_eF, h0, h1]; rfl
theorem r_invy {a b : Nat → Nat} {X : F2p} (h0 : dF a = X.x) (h1 : dF b = X.y) : dF (eF (inv2y (dF a) (dF b))) = (F2p.inv X).y := by rw [dF_eF, h0, h1]; rfl
theorem r_mulx {a b c d : Nat → Nat} {X Y : F2p} (h0 : dF a = X.x) (h1 : dF b = X.y) (h2 : dF c = Y.x) (h3 : dF d = Y.y) : dF (eF (mul2x (dF a) (dF b) (dF c) (dF d))) = (X * Y).x := by rw [dF_eF, h0, h1, h2, h3]; rfl
theorem r_muly {a b c d : Nat → Nat} {X Y : F2p} (h0 : dF a = X.x) (h1 : dF b = X.y) (h2 : dF c = Y.x) (h3 : dF d = Y.y) : dF (eF (mul2y (dF a) (dF b) (dF c) (dF d))) = (X * Y).y := by rw [dF_eF, h0, h1, h2, h3]; rfl
theorem r_addx {a b c d : Nat → Nat} {X Y : F2p} (h0 : dF a = X.x) (_ : dF b = X.y) (h2 : dF c = Y.x) (_ : dF d = Y.y) : dF (eF (add2x (dF a) (dF b) (dF c) (dF d))) = (X + Y).x := by rw [dF_eF]; unfold add2x; rw [h0, h2]; rfl
theorem r_addy {a b c d : Nat → Nat} {X Y : F2p} (_ : dF a = X.x) (h1 : dF b = X.y) (_ : dF c = Y.x) (h3 : dF d = Y.y) : dF (eF (add2y (dF a) (dF b) (dF c) (dF d))) = (X + Y).y := by rw [dF_eF]; unfold add2y; rw [h1, h3]; rfl
theorem r_subx {a b c d : Nat → Nat} {X Y : F2p} (h0 : dF a = X.x) (_ : dF b = X.y) (h2 : dF c = Y.x) (_ : dF d = Y.y) : dF (eF (sub2x (dF a) (dF b) (dF c) (dF d))) = (X - Y).x := by rw [dF_eF]; unfold sub2x; rw [h0, h2]; rfl
theorem r_suby {a b c d : Nat → Nat} {X Y : F2p} (_ : dF a = X.x) (h1 : dF b = X.y) (_ : dF c = Y.x) (h3 : dF d = Y.y) : dF (eF (sub2y (dF a) (dF b) (dF c) (dF d))) = (X - Y).y := by rw [dF_eF]; unfold sub2y; rw [h1, h3]; rfl
theorem nv_of {a : Nat → Nat} {x : Fp} (h : nv a < pN) (e : dF a = x) : nv a = nv (eF x) := by rw [← e, eF_dF h]
def iv1 (z : S6) : F2p := z.u * z.u
abbrev iv1x (a0 a1 a2 a3 a4 a5 : Nat → Nat) : Nat → Nat := eF (mul2x (dF a0) (dF a1) (dF a0) (dF a1))
abbrev iv1y (a0 a1 a2 a3 a4 a5 : Nat → Nat) : Nat → Nat := eF (mul2y (dF a0) (dF a1) (dF a0) (dF a1))
theorem iv1x_d (a0 a1 a2 a3 a4 a5 : Nat → Nat) : dF (iv1x a0 a1 a2 a3 a4 a5) = (iv1 (d6 a0 a1 a2 a3 a4 a5)).x := r_mulx rfl rfl rfl rfl
theorem iv1y_d (a0 a1 a2 a3 a4 a5 : Nat → Nat) : dF (iv1y a0 a1 a2 a3 a4 a5) = (iv1 (d6 a0 a1 a2 a3 a4 a5)).y := r_muly rfl rfl rfl rfl
def iv2 (z : S6) : F2p := z.v * z.w
abbrev iv2x (a0 a1 a2 a3 a4 a5 : Nat → Nat) : Nat → Nat := eF (mul2x (dF a2) (dF a3) (dF a4) (dF a5))
abbrev iv2y (a0 a1 a2 a3 a4 a5 : Nat → Nat) : Nat → Nat := eF (mul2y (dF a2) (dF a3) (dF a4) (dF a5))
theorem iv2x_d (a0 a1 a2 a3 a4 a5 : Nat → Nat) : dF (iv2x a0 a1 a2 a3 a4 a5) = (iv2 (d6 a0 a1 a2 a3 a4 a5)).x := r_mulx rfl rfl rfl rfl
theorem iv2y_d (a0 a1 a2 a3 a4 a5 : Nat → Nat) : dF (iv2y a0 a1 a2 a3 a4 a5) = (iv2 (d6 a0 a1 a2 a3 a4 a5)).y := r_muly rfl rfl rfl rfl
def iv3 (z : S6) : F2p := xi (iv2 z)
abbrev iv3x (a0 a1 a2 a3 a4 a5 : Nat → Nat) : Nat → Nat := eF (upx (dF (iv2x a0 a1 a2 a3 a4 a5)) (dF (iv2y a0 a1 a2 a3 a4 a5)))
abbrev iv3y (a0 a1 a2 a3 a4 a5 : Nat → Nat) : Nat → Nat := eF (upy (dF (iv2x a0 a1 a2 a3 a4 a5)) (dF (iv2y a0 a1 a2 a3 a4 a5)))
theorem iv3x_d (a0 a1 a2 a3 a4 a5 : Nat → Nat) : dF (iv3x a0 a1 a2 a3 a4 a5) = (iv3 (d6 a0 a1 a2 a3 a4 a5)).x := r_upx (iv2x_d a0 a1 a2 a3 a4 a5) (iv2y_d a0 a1 a2 a3 a4 a5)
theorem iv3y_d (a0 a1 a2 a3 a4 a5 : Nat → Nat) : dF (iv3y a0 a1 a2 a3 a4 a5) = (iv3 (d6 a0 a1 a2 a3 a4 a5)).y := r_upy (iv2x_d a0 a1 a2 a3 a4 a5) (iv2y_d a0 a1 a2 a3 a4 a5)
def iv4 (z : S6) : F2p := (iv1 z) - (iv3 z)
abbrev iv4x (a0 a1 a2 a3 a4 a5 : Nat → Nat) : Nat → Nat := eF (sub2x (dF (iv1x a0 a1 a2 a3 a4 a5)) (dF (iv1y a0 a1 a2 a3 a4 a5)) (dF (iv3x a0 a1 a2 a3 a4 a5)) (dF (iv3y a0 a1 a2 a3 a4 a5)))
abbrev iv4y (a0 a1 a2 a3 a4 a5 : Nat → Nat) : Nat → Nat := eF (sub2y (dF (iv1x a0 a1 a2 a3 a4 a5)) (dF (iv1y a0 a1 a2 a3 a4 a5)) (dF (iv3x a0 a1 a2 a3 a4 a5)) (dF (iv3y a0 a1 a2 a3 a4 a5)))
theorem iv4x_d (a0 a1 a2 a3 a4 a5 : Nat → Nat) : dF (iv4x a0 a1 a2 a3 a4 a5) = (iv4 (d6 a0 a1 a2 a3 a4 a5)).x := r_subx (iv1x_d a0 a1 a2 a3 a4 a5) (iv1y_d a0 a1 a2 a3 a4 a5) (iv3x_d a0 a1 a2 a3 a4 a5) (iv3y_d a0 a1 a2 a3 a4 a5)
theorem iv4y_d (a0 a1 a2 a3 a4 a5 : Nat → Nat) : dF (iv4y a0 a1 a2 a3 a4 a5) = (iv4 (d6 a0 a1 a2 a3 a4 a5)).y := r_suby (iv1x_d a0 a1 a2 a3 a4 a5) (iv1y_d a0 a1 a2 a3 a4 a5) (iv3x_d a0 a1 a2 a3 a4 a5) (iv3y_d a0 a1 a2 a3 a4 a5)
def iv5 (z : S6) : F2p := z.w * z.w
abbrev iv5x (a0 a1 a2 a3 a4 a5 : Nat → Nat) : Nat → Nat := eF (mul2x (dF a4) (dF a5) (dF a4) (dF a5))
abbrev iv5y (a0 a1 a2 a3 a4 a5 : Nat → Nat) : Nat → Nat := eF (mul2y (dF a4) (dF a5) (dF a4) (dF a5))
theorem iv5x_d (a0 a1 a2 a3 a4 a5 : Nat → Nat) : dF (iv5x a0 a1 a2 a3 a4 a5) = (iv5 (d6 a0 a1 a2 a3 a4 a5)).x := r_mulx rfl rfl rfl rfl
theorem iv5y_d (a0 a1 a2 a3 a4 a5 : Nat → Nat) : dF (iv5y a0 a1 a2 a3 a4 a5) = (iv5 (d6 a0 a1 a2 a3 a4 a5)).y := r_muly rfl rfl rfl rfl
def iv6 (z : S6) : F2p := xi (iv5 z)
abbrev iv6x (a0 a1 a2 a3 a4 a5 : Nat → Nat) : Nat → Nat := eF (upx (dF (iv5x a0 a1 a2 a3 a4 a5)) (dF (iv5y a0 a1 a2 a3 a4 a5)))
abbrev iv6y (a0 a1 a2 a3 a4 a5 : Nat → Nat) : Nat → Nat := eF (upy (dF (iv5x a0 a1 a2 a3 a4 a5)) (dF (iv5y a0 a1 a2 a3 a4 a5)))
theorem iv6x_d (a0 a1 a2 a3 a4 a5 : Nat → Nat) : dF (iv6x a0 a1 a2 a3 a4 a5) = (iv6 (d6 a0 a1 a2 a3 a4 a5)).x := r_upx (iv5x_d a0 a1 a2 a3 a4 a5) (iv5y_d a0 a1 a2 a3 a4 a5)
theorem iv6y_d (a0 a1 a2 a3 a4 a5 : Nat → Nat) : dF (iv6y a0 a1 a2 a3 a4 a5) = (iv6 (d6 a0 a1 a2 a3 a4 a5)).y := r_upy (iv5x_d a0 a1 a2 a3 a4 a5) (iv5y_d a0 a1 a2 a3 a4 a5)
def iv7 (z : S6) : F2p := z.u * z.v
abbrev iv7x (a0 a1 a2 a3 a4 a5 : Nat → Nat) : Nat → Nat := eF (mul2x (dF a0) (dF a1) (dF a2) (dF a3))
abbrev iv7y (a0 a1 a2 a3 a4 a5 : Nat → Nat) : Nat → Nat := eF (mul2y (dF a0) (dF a1) (dF a2) (dF a3))
theorem iv7x_d (a0 a1 a2 a3 a4 a5 : Nat → Nat) : dF (iv7x a0 a1 a2 a3 a4 a5) = (iv7 (d6 a0 a1 a2 a3 a4 a5)).x := r_mulx rfl rfl rfl rfl
theorem iv7y_d (a0 a1 a2 a3 a4 a5 : Nat → Nat) : dF (iv7y a0 a1 a2 a3 a4 a5) = (iv7 (d6 a0 a1 a2 a3 a4 a5)).y := r_muly rfl rfl rfl rfl
def iv8 (z : S6) : F2p := (iv6 z) - (iv7 z)
abbrev iv8x (a0 a1 a2 a3 a4 a5 : Nat → Nat) : Nat → Nat := eF (sub2x (dF (iv6x a0 a1 a2 a3 a4 a5)) (dF (iv6y a0 a1 a2 a3 a4 a5)) (dF (iv7x a0 a1 a2 a3 a4 a5)) (dF (iv7y a0 a1 a2 a3 a4 a5)))
abbrev iv8y (a0 a1 a2 a3 a4 a5 : Nat → Nat) : Nat → Nat := eF (sub2y (dF (iv6x a0 a1 a2 a3 a4 a5)) (dF (iv6y a0 a1 a2 a3 a4 a5)) (dF (iv7x a0 a1 a2 a3 a4 a5)) (dF (iv7y a0 a1 a2 a3 a4 a5)))
theorem iv8x_d (a0 a1 a2 a3 a4 a5 : Nat → Nat) : dF (iv8x a0 a1 a2 a3 a4 a5) = (iv8 (d6 a0 a1 a2 a3 a4 a5)).x := r_subx (iv6x_d a0 a1 a2 a3 a4 a5) (iv6y_d a0 a1 a2 a3 a4 a5) (iv7x_d a0 a1 a2 a3 a4 a5) (iv7y_d a0 a1 a2 a3 a4 a5)
theorem iv8y_d (a0 a1 a2 a3 a4 a5 : Nat → Nat) : dF (iv8y a0 a1 a2 a3 a4 a5) = (iv8 (d6 a0 a1 a2 a3 a4 a5)).y := r_suby (iv6x_d a0 a1 a2 a3 a4 a5) (iv6y_d a0 a1 a2 a3 a4 a5) (iv7x_d a0 a1 a2 a3 a4 a5) (iv7y_d a0 a1 a2 a3 a4 a5)
def iv9 (z : S6) : F2p := z.v * z.v
abbrev iv9x (a0 a1 a2 a3 a4 a5 : Nat → Nat) : Nat → Nat := eF (mul2x (dF a2) (dF a3) (dF a2) (dF a3))
abbrev iv9y (a0 a1 a2 a3 a4 a5 : Nat → Nat) : Nat → Nat := eF (mul2y (dF a2) (dF a3) (dF a2) (dF a3))
theorem iv9x_d (a0 a1 a2 a3 a4 a5 : Nat → Nat) : dF (iv9x a0 a1 a2 a3 a4 a5) = (iv9 (d6 a0 a1 a2 a3 a4 a5)).x := r_mulx rfl rfl rfl rfl
theorem iv9y_d (a0 a1 a2 a3 a4 a5 : Nat → Nat) : dF (iv9y a0 a1 a2 a3 a4 a5) = (iv9 (d6 a0 a1 a2 a3 a4 a5)).y := r_muly rfl rfl rfl rfl
def iv10 (z : S6) : F2p := z.u * z.w
abbrev iv10x (a0 a1 a2 a3 a4 a5 : Nat → Nat) : Nat → Nat := eF (mul2x (dF a0) (dF a1) (dF a4) (dF a5))
abbrev iv10y (a0 a1 a2 a3 a4 a5 : Nat → Nat) : Nat → Nat := eF (mul2y (dF a0) (dF a1) (dF a4) (dF a5))
theorem iv10x_d (a0 a1 a2 a3 a4 a5 : Nat → Nat) : dF (iv10x a0 a1 a2 a3 a4 a5) = (iv10 (d6 a0 a1 a2 a3 a4 a5)).x := r_mulx rfl rfl rfl rfl
theorem iv10y_d (a0 a1 a2 a3 a4 a5 : Nat → Nat) : dF (iv10y a0 a1 a2 a3 a4 a5) = (iv10 (d6 a0 a1 a2 a3 a4 a5)).y := r_muly rfl rfl rfl rfl
def iv11 (z : S6) : F2p := (iv9 z) - (iv10 z)
abbrev iv11x (a0 a1 a2 a3 a4 a5 : Nat → Nat) : Nat → Nat := eF (sub2x (dF (iv9x a0 a1 a2 a3 a4 a5)) (dF (iv9y a0 a1 a2 a3 a4 a5)) (dF (iv10x a0 a1 a2 a3 a4 a5)) (dF (iv10y a0 a1 a2 a3 a4 a5)))
abbrev iv11y (a0 a1 a2 a3 a4 a5 : Nat → Nat) : Nat → Nat := eF (sub2y (dF (iv9x a0 a1 a2 a3 a4 a5)) (dF (iv9y a0 a1 a2 a3 a4 a5)) (dF (iv10x a0 a1 a2 a3 a4 a5)) (dF (iv10y a0 a1 a2 a3 a4 a5)))
theorem iv11x_d (a0 a1 a2 a3 a4 a5 : Nat → Nat) : dF (iv11x a0 a1 a2 a3 a4 a5) = (iv11 (d6 a0 a1 a2 a3 a4 a5)).x := r_subx (iv9x_d a0 a1 a2 a3 a4 a5) (iv9y_d a0 a1 a2 a3 a4 a5) (iv10x_d a0 a1 a2 a3 a4 a5) (iv10y_d a0 a1 a2 a3 a4 a5)
theorem iv11y_d (a0 a1 a2 a3 a4 a5 : Nat → Nat) : dF (iv11y a0 a1 a2 a3 a4 a5) = (iv11 (d6 a0 a1 a2 a3 a4 a5)).y := r_suby (iv9x_d a0 a1 a2 a3 a4 a5) (iv9y_d a0 a1 a2 a3 a4 a5) (iv10x_d a0 a1 a2 a3 a4 a5) (iv10y_d a0 a1 a2 a3 a4 a5)
def iv12 (z : S6) : F2p := z.u * (iv4 z)
abbrev iv12x (a0 a1 a2 a3 a4 a5 : Nat → Nat) : Nat → Nat := eF (mul2x (dF a0) (dF a1) (dF (iv4x a0 a1 a2 a3 a4 a5)) (dF (iv4y a0 a1 a2 a3 a4 a5)))
abbrev iv12y (a0 a1 a2 a3 a4 a5 : Nat → Nat) : Nat → Nat := eF (mul2y (dF a0) (dF a1) (dF (iv4x a0 a1 a2 a3 a4 a5)) (dF (iv4y a0 a1 a2 a3 a4 a5)))
theorem iv12x_d (a0 a1 a2 a3 a4 a5 : Nat → Nat) : dF (iv12x a0 a1 a2 a3 a4 a5) = (iv12 (d6 a0 a1 a2 a3 a4 a5)).x := r_mulx rfl rfl (iv4x_d a0 a1 a2 a3 a4 a5) (iv4y_d a0 a1 a2 a3 a4 a5)
theorem iv12y_d (a0 a1 a2 a3 a4 a5 : Nat → Nat) : dF (iv12y a0 a1 a2 a3 a4 a5) = (iv12 (d6 a0 a1 a2 a3 a4 a5)).y := r_muly rfl rfl (iv4x_d a0 a1 a2 a3 a4 a5) (iv4y_d a0 a1 a2 a3 a4 a5)
def iv13 (z : S6) : F2p := z.w * (iv8 z)
abbrev iv13x (a0 a1 a2 a3 a4 a5 : Nat → Nat) : Nat → Nat := eF (mul2x (dF a4) (dF a5) (dF (iv8x a0 a1 a2 a3 a4 a5)) (dF (iv8y a0 a1 a2 a3 a4 a5)))
abbrev iv13y (a0 a1 a2 a3 a4 a5 : Nat → Nat) : Nat → Nat := eF (mul2y (dF a4) (dF a5) (dF (iv8x a0 a1 a2 a3 a4 a5)) (dF (iv8y a0 a1 a2 a3 a4 a5)))
theorem iv13x_d (a0 a1 a2 a3 a4 a5 : Nat → Nat) : dF (iv13x a0 a1 a2 a3 a4 a5) = (iv13 (d6 a0 a1 a2 a3 a4 a5)).x := r_mulx rfl rfl (iv8x_d a0 a1 a2 a3 a4 a5) (iv8y_d a0 a1 a2 a3 a4 a5)
theorem iv13y_d (a0 a1 a2 a3 a4 a5 : Nat → Nat) : dF (iv13y a0 a1 a2 a3 a4 a5) = (iv13 (d6 a0 a1 a2 a3 a4 a5)).y := r_muly rfl rfl (iv8x_d a0 a1 a2 a3 a4 a5) (iv8y_d a0 a1 a2 a3 a4 a5)
def iv14 (z : S6) : F2p := z.v * (iv11 z)
abbrev iv14x (a0 a1 a2 a3 a4 a5 : Nat → Nat) : Nat → Nat := eF (mul2x (dF a2) (dF a3) (dF (iv11x a0 a1 a2 a3 a4 a5)) (dF (iv11y a0 a1 a2 a3 a4 a5)))
abbrev iv14y (a0 a1 a2 a3 a4 a5 : Nat → Nat) : Nat → Nat := eF (mul2y (dF a2) (dF a3) (dF (iv11x a0 a1 a2 a3 a4 a5)) (dF (iv11y a0 a1 a2 a3 a4 a5)))
theorem iv14x_d (a0 a1 a2 a3 a4 a5 : Nat → Nat) : dF (iv14x a0 a1 a2 a3 a4 a5) = (iv14 (d6 a0 a1 a2 a3 a4 a5)).x := r_mulx rfl rfl (iv11x_d a0 a1 a2 a3 a4 a5) (iv11y_d a0 a1 a2 a3 a4 a5)
theorem iv14y_d (a0 a1 a2 a3 a4 a5 : Nat → Nat) : dF (iv14y a0 a1 a2 a3 a4 a5) = (iv14 (d6 a0 a1 a2 a3 a4 a5)).y := r_muly rfl rfl (iv11x_d a0 a1 a2 a3 a4 a5) (iv11y_d a0 a1 a2 a3 a4 a5)
def iv15 (z : S6) : F2p := (iv13 z) + (iv14 z)
abbrev iv15x (a0 a1 a2 a3 a4 a5 : Nat → Nat) : Nat → Nat := eF (add2x (dF (iv13x a0 a1 a2 a3 a4 a5)) (dF (iv13y a0 a1 a2 a3 a4 a5)) (dF (iv14x a0 a1 a2 a3 a4 a5)) (dF (iv14y a0 a1 a2 a3 a4 a5)))
abbrev iv15y (a0 a1 a2 a3 a4 a5 : Nat → Nat) : Nat → Nat := eF (add2y (dF (iv13x a0 a1 a2 a3 a4 a5)) (dF (iv13y a0 a1 a2 a3 a4 a5)) (dF (iv14x a0 a1 a2 a3 a4 a5)) (dF (iv14y a0 a1 a2 a3 a4 a5)))
theorem iv15x_d (a0 a1 a2 a3 a4 a5 : Nat → Nat) : dF (iv15x a0 a1 a2 a3 a4 a5) = (iv15 (d6 a0 a1 a2 a3 a4 a5)).x := r_addx (iv13x_d a0 a1 a2 a3 a4 a5) (iv13y_d a0 a1 a2 a3 a4 a5) (iv14x_d a0 a1 a2 a3 a4 a5) (iv14y_d a0 a1 a2 a3 a4 a5)
theorem iv15y_d (a0 a1 a2 a3 a4 a5 : Nat → Nat) : dF (iv15y a0 a1 a2 a3 a4 a5) = (iv15 (d6 a0 a1 a2 a3 a4 a5)).y := r_addy (iv13x_d a0 a1 a2 a3 a4 a5) (iv13y_d a0 a1 a2 a3 a4 a5) (iv14x_d a0 a1 a2 a3 a4 a5) (iv14y_d a0 a1 a2 a3 a4 a5)
def iv16 (z : S6) : F2p := xi (iv15 z)
abbrev iv16x (a0 a1 a2 a3 a4 a5 : Nat → Nat) : Nat → Nat := eF (upx (dF (iv15x a0 a1 a2 a3 a4 a5)) (dF (iv15y a0 a1 a2 a3 a4 a5)))
abbrev iv16y (a0 a1 a2 a3 a4 a5 : Nat → Nat) : Nat → Nat := eF (upy (dF (iv15x a0 a1 a2 a3 a4 a5)) (dF (iv15y a0 a1 a2 a3 a4 a5)))
theorem iv16x_d (a0 a1 a2 a3 a4 a5 : Nat → Nat) : dF (iv16x a0 a1 a2 a3 a4 a5) = (iv16 (d6 a0 a1 a2 a3 a4 a5)).x := r_upx (iv15x_d a0 a1 a2 a3 a4 a5) (iv15y_d a0 a1 a2 a3 a4 a5)
theorem iv16y_d (a0 a1 a2 a3 a4 a5 : Nat → Nat) : dF (iv16y a0 a1 a2 a3 a4 a5) = (iv16 (d6 a0 a1 a2 a3 a4 a5)).y := r_upy (iv15x_d a0 a1 a2 a3 a4 a5) (iv15y_d a0 a1 a2 a3 a4 a5)
def iv17 (z : S6) : F2p := (iv12 z) + (iv16 z)
abbrev iv17x (a0 a1 a2 a3 a4 a5 : Nat → Nat) : Nat → Nat := eF (add2x (dF (iv12x a0 a1 a2 a3 a4 a5)) (dF (iv12y a0 a1 a2 a3 a4 a5)) (dF (iv16x a0 a1 a2 a3 a4 a5)) (dF (iv16y a0 a1 a2 a3 a4 a5)))
abbrev iv17y (a0 a1 a2 a3 a4 a5 : Nat → Nat) : Nat → Nat := eF (add2y (dF (iv12x a0 a1 a2 a3 a4 a5)) (dF (iv12y a0 a1 a2 a3 a4 a5)) (dF (iv16x a0 a1 a2 a3 a4 a5)) (dF (iv16y a0 a1 a2 a3 a4 a5)))
theorem iv17x_d (a0 a1 a2 a3 a4 a5 : Nat → Nat) : dF (iv17x a0 a1 a2 a3 a4 a5) = (iv17 (d6 a0 a1 a2 a3 a4 a5)).x := r_addx (iv12x_d a0 a1 a2 a3 a4 a5) (iv12y_d a0 a1 a2 a3 a4 a5) (iv16x_d a0 a1 a2 a3 a4 a5) (iv16y_d a0 a1 a2 a3 a4 a5)
theorem iv17y_d (a0 a1 a2 a3 a4 a5 : Nat → Nat) : dF (iv17y a0 a1 a2 a3 a4 a5) = (iv17 (d6 a0 a1 a2 a3 a4 a5)).y := r_addy (iv12x_d a0 a1 a2 a3 a4 a5) (iv12y_d a0 a1 a2 a3 a4 a5) (iv16x_d a0 a1 a2 a3 a4 a5) (iv16y_d a0 a1 a2 a3 a4 a5)
def iv18 (z : S6) : F2p := F2p.inv (iv17 z)
abbrev iv18x (a0 a1 a2 a3 a4 a5 : Nat → Nat) : Nat → Nat := eF (inv2x (dF (iv17x a0 a1 a2 a3 a4 a5)) (dF (iv17y a0 a1 a2 a3 a4 a5)))
abbrev iv18y (a0 a1 a2 a3 a4 a5 : Nat → Nat) : Nat → Nat := eF (inv2y (dF (iv17x a0 a1 a2 a3 a4 a5)) (dF (iv17y a0 a1 a2 a3 a4 a5)))
theorem iv18x_d (a0 a1 a2 a3 a4 a5 : Nat → Nat) : dF (iv18x a0 a1 a2 a3 a4 a5) = (iv18 (d6 a0 a1 a2 a3 a4 a5)).x := r_invx (iv17x_d a0 a1 a2 a3 a4 a5) (iv17y_d a0 a1 a2 a3 a4 a5)
theorem iv18y_d (a0 a1 a2 a3 a4 a5 : Nat → Nat) : dF (iv18y a0 a1 a2 a3 a4 a5) = (iv18 (d6 a0 a1 a2 a3 a4 a5)).y := r_invy (iv17x_d a0 a1 a2 a3 a4 a5) (iv17y_d a0 a1 a2 a3 a4 a5)
def iv19 (z : S6) : F2p := (iv4 z) * (iv18 z)
abbrev iv19x (a0 a1 a2 a3 a4 a5 : Nat → Nat) : Nat → Nat := eF (mul2x (dF (iv4x a0 a1 a2 a3 a4 a5)) (dF (iv4y a0 a1 a2 a3 a4 a5)) (dF (iv18x a0 a1 a2 a3 a4 a5)) (dF (iv18y a0 a1 a2 a3 a4 a5)))
abbrev iv19y (a0 a1 a2 a3 a4 a5 : Nat → Nat) : Nat → Nat := eF (mul2y (dF (iv4x a0 a1 a2 a3 a4 a5)) (dF (iv4y a0 a1 a2 a3 a4 a5)) (dF (iv18x a0 a1 a2 a3 a4 a5)) (dF (iv18y a0 a1 a2 a3 a4 a5)))
theorem iv19x_d (a0 a1 a2 a3 a4 a5 : Nat → Nat) : dF (iv19x a0 a1 a2 a3 a4 a5) = (iv19 (d6 a0 a1 a2 a3 a4 a5)).x := r_mulx (iv4x_d a0 a1 a2 a3 a4 a5) (iv4y_d a0 a1 a2 a3 a4 a5) (iv18x_d a0 a1 a2 a3 a4 a5) (iv18y_d a0 a1 a2 a3 a4 a5)
theorem iv19y_d (a0 a1 a2 a3 a4 a5 : Nat → Nat) : dF (iv19y a0 a1 a2 a3 a4 a5) = (iv19 (d6 a0 a1 a2 a3 a4 a5)).y := r_muly (iv4x_d a0 a1 a2 a3 a4 a5) (iv4y_d a0 a1 a2 a3 a4 a5) (iv18x_d a0 a1 a2 a3 a4 a5) (iv18y_d a0 a1 a2 a3 a4 a5)
def iv20 (z : S6) : F2p := (iv8 z) * (iv18 z)
abbrev iv20x (a0 a1 a2 a3 a4 a5 : Nat → Nat) : Nat → Nat := eF (mul2x (dF (iv8x a0 a1 a2 a3 a4 a5)) (dF (iv8y a0 a1 a2 a3 a4 a5)) (dF (iv18x a0 a1 a2 a3 a4 a5)) (dF (iv18y a0 a1 a2 a3 a4 a5)))
abbrev iv20y (a0 a1 a2 a3 a4 a5 : Nat → Nat) : Nat → Nat := eF (mul2y (dF (iv8x a0 a1 a2 a3 a4 a5)) (dF (iv8y a0 a1 a2 a3 a4 a5)) (dF (iv18x a0 a1 a2 a3 a4 a5)) (dF (iv18y a0 a1 a2 a3 a4 a5)))
theorem iv20x_d (a0 a1 a2 a3 a4 a5 : Nat → Nat) : dF (iv20x a0 a1 a2 a3 a4 a5) = (iv20 (d6 a0 a1 a2 a3 a4 a5)).x := r_mulx (iv8x_d a0 a1 a2 a3 a4 a5) (iv8y_d a0 a1 a2 a3 a4 a5) (iv18x_d a0 a1 a2 a3 a4 a5) (iv18y_d a0 a1 a2 a3 a4 a5)
theorem iv20y_d (a0 a1 a2 a3 a4 a5 : Nat → Nat) : dF (iv20y a0 a1 a2 a3 a4 a5) = (iv20 (d6 a0 a1 a2 a3 a4 a5)).y := r_muly (iv8x_d a0 a1 a2 a3 a4 a5) (iv8y_d a0 a1 a2 a3 a4 a5) (iv18x_d a0 a1 a2 a3 a4 a5) (iv18y_d a0 a1 a2 a3 a4 a5)
def iv21 (z : S6) : F2p := (iv11 z) * (iv18 z)
abbrev iv21x (a0 a1 a2 a3 a4 a5 : Nat → Nat) : Nat → Nat := eF (mul2x (dF (iv11x a0 a1 a2 a3 a4 a5)) (dF (iv11y a0 a1 a2 a3 a4 a5)) (dF (iv18x a0 a1 a2 a3 a4 a5)) (dF (iv18y a0 a1 a2 a3 a4 a5)))
abbrev iv21y (a0 a1 a2 a3 a4 a5 : Nat → Nat) : Nat → Nat := eF (mul2y (dF (iv11x a0 a1 a2 a3 a4 a5)) (dF (iv11y a0 a1 a2 a3 a4 a5)) (dF (iv18x a0 a1 a2 a3 a4 a5)) (dF (iv18y a0 a1 a2 a3 a4 a5)))
theorem iv21x_d (a0 a1 a2 a3 a4 a5 : Nat → Nat) : dF (iv21x a0 a1 a2 a3 a4 a5) = (iv21 (d6 a0 a1 a2 a3 a4 a5)).x := r_mulx (iv11x_d a0 a1 a2 a3 a4 a5) (iv11y_d a0 a1 a2 a3 a4 a5) (iv18x_d a0 a1 a2 a3 a4 a5) (iv18y_d a0 a1 a2 a3 a4 a5)
theorem iv21y_d (a0 a1 a2 a3 a4 a5 : Nat → Nat) : dF (iv21y a0 a1 a2 a3 a4 a5) = (iv21 (d6 a0 a1 a2 a3 a4 a5)).y := r_muly (iv11x_d a0 a1 a2 a3 a4 a5) (iv11y_d a0 a1 a2 a3 a4 a5) (iv18x_d a0 a1 a2 a3 a4 a5) (iv18y_d a0 a1 a2 a3 a4 a5)
def S6.inv (z : S6) : S6 := ⟨(iv19 z), (iv20 z), (iv21 z)⟩
def GSi : Ctx := ctxL [(54, .pure (q2 add2x add2y)), (53, .pure (q2 sub2x sub2y)), (50, .pure (q2 mul2x mul2y)), (55, .pure (q1 upx upy)), (67, .pure (q1 inv2x inv2y))]
theorem GSi_ok : CtxOk Try.prog GSi := ctxL_cons okAdd2 <| ctxL_cons okSub2 <| ctxL_cons okMul2 <| ctxL_cons okUp <| ctxL_cons okMInv2 ctxL_nil
theorem okSinv : (CallC.pure (k61 S6.inv)).Ok Try.prog 48 := by
  refine k61_ok Try.func48 (by kernel_rfl) (by kernel_rfl) fun a0 a1 a2 a3 a4 a5 ha0 ha1 ha2 ha3 ha4 ha5 => evS_q mixed tt_ok GSi_ok 100 [] ?_
  refine same (p := nv a0 < pN ∧ nv a1 < pN ∧ nv a0 < pN ∧ nv a1 < pN ∧ nv a2 < pN ∧ nv a3 < pN ∧ nv a4 < pN ∧ nv a5 < pN ∧ nv (iv2x a0 a1 a2 a3 a4 a5) < pN ∧ nv (iv2y a0 a1 a2 a3 a4 a5) < pN ∧ nv (iv1x a0 a1 a2 a3 a4 a5) < pN ∧ nv (iv1y a0 a1 a2 a3 a4 a5) < pN ∧ nv (iv3x a0 a1 a2 a3 a4 a5) < pN ∧ nv (iv3y a0 a1 a2 a3 a4 a5) < pN ∧ nv a4 < pN ∧ nv a5 < pN ∧ nv a4 < pN ∧ nv a5 < pN ∧ nv (iv5x a0 a1 a2 a3 a4 a5) < pN ∧ nv (iv5y a0 a1 a2 a3 a4 a5) < pN ∧ nv a0 < pN ∧ nv a1 < pN ∧ nv a2 < pN ∧ nv a3 < pN ∧ nv (iv6x a0 a1 a2 a3 a4 a5) < pN ∧ nv (iv6y a0 a1 a2 a3 a4 a5) < pN ∧ nv (iv7x a0 a1 a2 a3 a4 a5) < pN ∧ nv (iv7y a0 a1 a2 a3 a4 a5) < pN ∧ nv a2 < pN ∧ nv a3 < pN ∧ nv a2 < pN ∧ nv a3 < pN ∧ nv a0 < pN ∧ nv a1 < pN ∧ nv a4 < pN ∧ nv a5 < pN ∧ nv (iv9x a0 a1 a2 a3 a4 a5) < pN ∧ nv (iv9y a0 a1 a2 a3 a4 a5) < pN ∧ nv (iv10x a0 a1 a2 a3 a4 a5) < pN ∧ nv (iv10y a0 a1 a2 a3 a4 a5) < pN ∧ nv a0 < pN ∧ nv a1 < pN ∧ nv (iv4x a0 a1 a2 a3 a4 a5) < pN ∧ nv (iv4y a0 a1 a2 a3 a4 a5) < pN ∧ nv a4 < pN ∧ nv a5 < pN ∧ nv (iv8x a0 a1 a2 a3 a4 a5) < pN ∧ nv (iv8y a0 a1 a2 a3 a4 a5) < pN ∧ nv a2 < pN ∧ nv a3 < pN ∧ nv (iv11x a0 a1 a2 a3 a4 a5) < pN ∧ nv (iv11y a0 a1 a2 a3 a4 a5) < pN ∧ nv (iv13x a0 a1 a2 a3 a4 a5) < pN ∧ nv (iv13y a0 a1 a2 a3 a4 a5) < pN ∧ nv (iv14x a0 a1 a2 a3 a4 a5) < pN ∧ nv (iv14y a0 a1 a2 a3 a4 a5) < pN ∧ nv (iv15x a0 a1 a2 a3 a4 a5) < pN ∧ nv (iv15y a0 a1 a2 a3 a4 a5) < pN ∧ nv (iv12x a0 a1 a2 a3 a4 a5) < pN ∧ nv (iv12y a0 a1 a2 a3 a4 a5) < pN ∧ nv (iv16x a0 a1 a2 a3 a4 a5) < pN ∧ nv (iv16y a0 a1 a2 a3 a4 a5) < pN ∧ nv (iv17x a0 a1 a2 a3 a4 a5) < pN ∧ nv (iv17y a0 a1 a2 a3 a4 a5) < pN ∧ nv (iv4x a0 a1 a2 a3 a4 a5) < pN ∧ nv (iv4y a0 a1 a2 a3 a4 a5) < pN ∧ nv (iv18x a0 a1 a2 a3 a4 a5) < pN ∧ nv (iv18y a0 a1 a2 a3 a4 a5) < pN ∧ nv (iv8x a0 a1 a2 a3 a4 a5) < pN ∧ nv (iv8y a0 a1 a2 a3 a4 a5) < pN ∧ nv (iv18x a0 a1 a2 a3 a4 a5) < pN ∧ nv (iv18y a0 a1 a2 a3 a4 a5) < pN ∧ nv (iv11x a0 a1 a2 a3 a4 a5) < pN ∧ nv (iv11y a0 a1 a2 a3 a4 a5) < pN ∧ nv (iv18x a0 a1 a2 a3 a4 a5) < pN ∧ nv (iv18y a0 a1 a2 a3 a4 a5) < pN ∧ endN (.v1 (v6 (iv19x a0 a1 a2 a3 a4 a5) (iv19y a0 a1 a2 a3 a4 a5) (iv20x a0 a1 a2 a3 a4 a5) (iv20y a0 a1 a2 a3 a4 a5) (iv21x a0 a1 a2 a3 a4 a5) (iv21y a0 a1 a2 a3 a4 a5))) (.v1 (e6 (S6.inv (d6 a0 a1 a2 a3 a4 a5))))) ?_ (by kernel_rfl)
  exact ⟨ha0, ha1, ha0, ha1, ha2, ha3, ha4, ha5, lt_eF _, lt_eF _, lt_eF _, lt_eF _, lt_eF _, lt_eF _, ha4, ha5, ha4, ha5, lt_eF _, lt_eF _, ha0, ha1, ha2, ha3, lt_eF _, lt_eF _, lt_eF _, lt_eF _, ha2, ha3, ha2, ha3, ha0, ha1, ha4, ha5, lt_eF _, lt_eF _, lt_eF _, lt_eF _, ha0, ha1, lt_eF _, lt_eF _, ha4, ha5, lt_eF _, lt_eF _, ha2, ha3, lt_eF _, lt_eF _, lt_eF _, lt_eF _, lt_eF _, lt_eF _, lt_eF _, lt_eF _, lt_eF _, lt_eF _, lt_eF _, lt_eF _, lt_eF _, lt_eF _, lt_eF _, lt_eF _, lt_eF _, lt_eF _, lt_eF _, lt_eF _, lt_eF _, lt_eF _, lt_eF _, lt_eF _, lt_eF _, lt_eF _, endN_6 (nv_of (lt_eF _) (iv19x_d a0 a1 a2 a3 a4 a5)) (nv_of (lt_eF _) (iv19y_d a0 a1 a2 a3 a4 a5)) (nv_of (lt_eF _) (iv20x_d a0 a1 a2 a3 a4 a5)) (nv_of (lt_eF _) (iv20y_d a0 a1 a2 a3 a4 a5)) (nv_of (lt_eF _) (iv21x_d a0 a1 a2 a3 a4 a5)) (nv_of (lt_eF _) (iv21y_d a0 a1 a2 a3 a4 a5))⟩
end Go.Proofs.Ytnjocbcjejpklaa

/- Numbers of twelve parts: 1, what they are turned by, inverses, conjugates. Printed by gent15.py. -/
namespace Go.Proofs.Ytnjocbcjejpklaa
open Go.Rq Go
set_option maxRecDepth 100000
set_option linter.unusedVariables false
set_option linter.unusedSimpArgs false

theorem zlt : nv (fun _ => 0) < pN := by rw [zero_nv]; exact pN_pos
theorem d6_zero : d6 (fun _ => 0) (fun _ => 0) (fun _ => 0) (fun _ => 0) (fun _ => 0) (fun _ => 0) = 0 := by
  simp only [d6, dF_zero]; rfl
def kOne (n : Nat) : List AV → Option (List Prop × AV)
  | [] => some ([], .v1 (.agg (.ws .u64 6 oneF :: List.replicate n (.ws .u64 6 fun _ => 0))))
  | _ => none
def GOn : Ctx := ctxL [(61, .pure (cK oneF))]
theorem GOn_ok : CtxOk Try.prog GOn := ctxL_cons okOne0 ctxL_nil
abbrev c2 (a b : Nat → Nat) : List AV → Option (List Prop × AV)
  | [] => some ([], f2 a b)
  | _ => none
theorem okOne2 : (CallC.pure (c2 oneF (fun _ => 0))).Ok Try.prog 41 := by
  intro args pre v e _
  unfold c2 at e
  split at e
  · cases e
    refine pure_walk' tt_ok Try.func41 (by kernel_rfl) (by kernel_rfl) (by rfl) (by rfl) ?_
    refine evS_q mixed tt_ok GOn_ok 60 [] ?_
    exact same (p := endN (f2 oneF (fun _ => 0)) (f2 oneF (fun _ => 0))) ⟨_, rfl, fun _ => rfl⟩ (by kernel_rfl)
  · cases e
def c12 (v : V1) : List AV → Option (List Prop × AV)
  | [] => some ([], .v1 v)
  | _ => none
abbrev one12 : V1 := v12 oneF (fun _ => 0) (fun _ => 0) (fun _ => 0) (fun _ => 0) (fun _ => 0) (fun _ => 0) (fun _ => 0) (fun _ => 0) (fun _ => 0) (fun _ => 0) (fun _ => 0)
def GOt : Ctx := ctxL [(41, .pure (c2 oneF (fun _ => 0)))]
theorem GOt_ok : CtxOk Try.prog GOt := ctxL_cons okOne2 ctxL_nil
theorem okOne12 : (CallC.pure (c12 one12)).Ok Try.prog 18 := by
  intro args pre v e _
  unfold c12 at e
  split at e
  · cases e
    refine pure_walk' tt_ok Try.func18 (by kernel_rfl) (by kernel_rfl) (by rfl) (by rfl) ?_
    refine evS_q mixed tt_ok GOt_ok 60 [] ?_
    exact same (p := endN (.v1 one12) (.v1 one12)) ⟨_, rfl, fun _ => rfl⟩ (by kernel_rfl)
  · cases e
def tuF0 : Nat → Nat := (upd (upd (upd (upd (upd (upd (fun _ => 0) 0 8505329371266088957) 1 17002214543764226050) 2 6865905132761471162) 3 8632934651105793861) 4 6631298214892334189) 5 1582556514881692819)
def tuF1 : Nat → Nat := (upd (upd (upd (upd (upd (upd (fun _ => 0) 0 0) 1 0) 2 0) 3 0) 4 0) 5 0)
def tuF2 : Nat → Nat := (upd (upd (upd (upd (upd (upd (fun _ => 0) 0 506819140503852133) 1 14297063575771579155) 2 10946065744702939791) 3 11771194236670323182) 4 2081670087578406477) 5 644615147456521963)
def tuF3 : Nat → Nat := (upd (upd (upd (upd (upd (upd (fun _ => 0) 0 12895611875574011462) 1 6359822009455181036) 2 14936352902570693524) 3 13914887797453940944) 4 3330433690892295817) 5 1229183470191017903)
def tuF4 : Nat → Nat := (upd (upd (upd (upd (upd (upd (fun _ => 0) 0 0) 1 0) 2 0) 3 0) 4 0) 5 0)
def tuF5 : Nat → Nat := (upd (upd (upd (upd (upd (upd (fun _ => 0) 0 14772873186050699377) 1 6749526151121446354) 2 6372666795664677781) 3 10283423008382700446) 4 286397964926079186) 5 1796971870900422465)
def tuF6 : Nat → Nat := (upd (upd (upd (upd (upd (upd (fun _ => 0) 0 8921533702591418330) 1 15859389534032789116) 2 3389114680249073393) 3 15116930867080254631) 4 3288288975085550621) 5 1021049300055853010)
def tuF7 : Nat → Nat := (upd (upd (upd (upd (upd (upd (fun _ => 0) 0 8921533702591418330) 1 15859389534032789116) 2 3389114680249073393) 3 15116930867080254631) 4 3288288975085550621) 5 1021049300055853010)
def tuF8 : Nat → Nat := (upd (upd (upd (upd (upd (upd (fun _ => 0) 0 9875771541238924739) 1 3094855109658912213) 2 5802897354862067244) 3 11677019699073781796) 4 1505592401347711080) 5 1505729768134575418)
def tuF9 : Nat → Nat := (upd (upd (upd (upd (upd (upd (fun _ => 0) 0 0) 1 0) 2 0) 3 0) 4 0) 5 0)
def tuF10 : Nat → Nat := (upd (upd (upd (upd (upd (upd (fun _ => 0) 0 9428352843095270463) 1 11709709036094816655) 2 14335180424952013185) 3 8441381030041026197) 4 5369959062663957099) 5 1665664447512374973)
def tuF11 : Nat → Nat := (upd (upd (upd (upd (upd (upd (fun _ => 0) 0 3974078172982593132) 1 8947176549131943536) 2 11547238222321620130) 3 17244701004083237929) 4 42144715806745195) 5 208134170135164893)
abbrev tu12 : V1 := v12 tuF0 tuF1 tuF2 tuF3 tuF4 tuF5 tuF6 tuF7 tuF8 tuF9 tuF10 tuF11
theorem tu_nv0 : nv tuF0 = 3380320199399472671518931668520476396067793891014375699959770179129436917079669831430077592723774664465579537268733 := by kernel_rfl
theorem tu_lt0 : nv tuF0 < pN := by rw [tu_nv0]; decide
theorem tu_d0 : dF tuF0 = ofN tuN0 := by
  unfold dF dec ofN ri tuN0
  rw [tu_nv0]
  exact Fin.ext (by kernel_rfl)
theorem tu_nv1 : nv tuF1 = 0 := by kernel_rfl
theorem tu_lt1 : nv tuF1 < pN := by rw [tu_nv1]; decide
theorem tu_d1 : dF tuF1 = ofN tuN1 := by
  unfold dF dec ofN ri tuN1
  rw [tu_nv1]
  exact Fin.ext (by kernel_rfl)
theorem tu_nv2 : nv tuF2 = 1376889598125376727959055341295674356654925039980005395128828212993454708588385020118431646457834669954221389501541 := by kernel_rfl
theorem tu_lt2 : nv tuF2 < pN := by rw [tu_nv2]; decide
theorem tu_d2 : dF tuF2 = ofN tuN2 := by
  unfold dF dec ofN ri tuN2
  rw [tu_nv2]
  exact Fin.ext (by kernel_rfl)
theorem tu_nv3 : nv tuF3 = 2625519957096290665458734484440229799901957779959002490203229923130576941902452844324255982671180994083672883058246 := by kernel_rfl
theorem tu_lt3 : nv tuF3 < pN := by rw [tu_nv3]; decide
theorem tu_d3 : dF tuF3 = ofN tuN3 := by
  unfold dF dec ofN ri tuN3
  rw [tu_nv3]
  exact Fin.ext (by kernel_rfl)
theorem tu_nv4 : nv tuF4 = 0 := by kernel_rfl
theorem tu_lt4 : nv tuF4 < pN := by rw [tu_nv4]; decide
theorem tu_d4 : dF tuF4 = ofN tuN4 := by
  unfold dF dec ofN ri tuN4
  rw [tu_nv4]
  exact Fin.ext (by kernel_rfl)
theorem tu_nv5 : nv tuF5 = 3838308620157845674988348254171675463841990158783295489149568424364307477627266222040030802976299176456994858070129 := by kernel_rfl
theorem tu_lt5 : nv tuF5 < pN := by rw [tu_nv5]; decide
theorem tu_d5 : dF tuF5 = ofN tuN5 := by
  unfold dF dec ofN ri tuN5
  rw [tu_nv5]
  exact Fin.ext (by kernel_rfl)
theorem tu_nv6 : nv tuF6 = 2180948067955421400650298037051525928469820541616793192330698326773792934210431556493050816229929877766056936935386 := by kernel_rfl
theorem tu_lt6 : nv tuF6 < pN := by rw [tu_nv6]; decide
theorem tu_d6 : dF tuF6 = ofN tuN6 := by
  unfold dF dec ofN ri tuN6
  rw [tu_nv6]
  exact Fin.ext (by kernel_rfl)
theorem tu_nv7 : nv tuF7 = 2180948067955421400650298037051525928469820541616793192330698326773792934210431556493050816229929877766056936935386 := by kernel_rfl
theorem tu_lt7 : nv tuF7 < pN := by rw [tu_nv7]; decide
theorem tu_d7 : dF tuF7 = ofN tuN7 := by
  unfold dF dec ofN ri tuN7
  rw [tu_nv7]
  exact Fin.ext (by kernel_rfl)
theorem tu_nv8 : nv tuF8 = 3216219264335650953089490096956247703352901229858663303777280467369712744216098189027420766571058176884680122779075 := by kernel_rfl
theorem tu_lt8 : nv tuF8 < pN := by rw [tu_nv8]; decide
theorem tu_d8 : dF tuF8 = ofN tuN8 := by
  unfold dF dec ofN ri tuN8
  rw [tu_nv8]
  exact Fin.ext (by kernel_rfl)
theorem tu_nv9 : nv tuF9 = 0 := by kernel_rfl
theorem tu_lt9 : nv tuF9 < pN := by rw [tu_nv9]; decide
theorem tu_d9 : dF tuF9 = ofN tuN9 := by
  unfold dF dec ofN ri tuN9
  rw [tu_nv9]
  exact Fin.ext (by kernel_rfl)
theorem tu_nv10 : nv tuF10 = 3557837666080798128609353378347200285124745581596798587459526539767247642798816576611482462687764547720278326436927 := by kernel_rfl
theorem tu_lt10 : nv tuF10 < pN := by rw [tu_nv10]; decide
theorem tu_d10 : dF tuF10 = ofN tuN10 := by
  unfold dF dec ofN ri tuN10
  rw [tu_nv10]
  exact Fin.ext (by kernel_rfl)
theorem tu_nv11 : nv tuF11 = 444571889140869264808436447388703871432137238342209297872531596356784007692021287831205166441251116317615946122860 := by kernel_rfl
theorem tu_lt11 : nv tuF11 < pN := by rw [tu_nv11]; decide
theorem tu_d11 : dF tuF11 = ofN tuN11 := by
  unfold dF dec ofN ri tuN11
  rw [tu_nv11]
  exact Fin.ext (by kernel_rfl)
theorem okTurned : (CallC.pure (c12 tu12)).Ok Try.prog 49 := by
  intro args pre v e _
  unfold c12 at e
  split at e
  · cases e
    refine pure_walk' tt_ok Try.func49 (by kernel_rfl) (by kernel_rfl) (by rfl) (by rfl) ?_
    refine evS_q mixed tt_ok G0_ok 200 [] ?_
    exact same (p := endN (.v1 tu12) (.v1 tu12)) ⟨_, rfl, fun _ => rfl⟩ (by kernel_rfl)
  · cases e
def k121 (F : S12 → S12) : List AV → Option (List Prop × AV)
  | [.v1 (.agg [.ws .u64 6 a0, .ws .u64 6 a1, .ws .u64 6 a2, .ws .u64 6 a3, .ws .u64 6 a4, .ws .u64 6 a5, .ws .u64 6 a6, .ws .u64 6 a7, .ws .u64 6 a8, .ws .u64 6 a9, .ws .u64 6 a10, .ws .u64 6 a11])] => some ([nv a0 < pN, nv a1 < pN, nv a2 < pN, nv a3 < pN, nv a4 < pN, nv a5 < pN, nv a6 < pN, nv a7 < pN, nv a8 < pN, nv a9 < pN, nv a10 < pN, nv a11 < pN], .v1 (e12 (F (d12 a0 a1 a2 a3 a4 a5 a6 a7 a8 a9 a10 a11))))
  | _ => none
theorem k121_ok {F : S12 → S12} {f : FuncId} {fn : Func} (hf : Try.prog.funcs[f]? = some fn) (hb : fn.body = some (bodyOf fn)) (hn : (fn.name == "runtime.NumGoroutine") = false)
    (h : ∀ a0 a1 a2 a3 a4 a5 a6 a7 a8 a9 a10 a11 : Nat → Nat, nv a0 < pN → nv a1 < pN → nv a2 < pN → nv a3 < pN → nv a4 < pN → nv a5 < pN → nv a6 < pN → nv a7 < pN → nv a8 < pN → nv a9 < pN → nv a10 < pN → nv a11 < pN → AWqS Try.prog (fun _ => False) (flatC (bodyOf fn)) (FEnd' tt fn (.v1 (e12 (F (d12 a0 a1 a2 a3 a4 a5 a6 a7 a8 a9 a10 a11))))) ⟨frame0 [.v1 (v12 a0 a1 a2 a3 a4 a5 a6 a7 a8 a9 a10 a11)] fn.ntmps, []⟩) : (CallC.pure (k121 F)).Ok Try.prog f := by
  intro args pre v e hp
  unfold k121 at e
  split at e
  · rename_i a0 a1 a2 a3 a4 a5 a6 a7 a8 a9 a10 a11
    cases e
    exact pure_walk' tt_ok hf hb hn (by rfl) (by rfl) (h a0 a1 a2 a3 a4 a5 a6 a7 a8 a9 a10 a11 (hp _ (by simp)) (hp _ (by simp)) (hp _ (by simp)) (hp _ (by simp)) (hp _ (by simp)) (hp _ (by simp)) (hp _ (by simp)) (hp _ (by simp)) (hp _ (by simp)) (hp _ (by simp)) (hp _ (by simp)) (hp _ (by simp)))
  · cases e
def GIn : Ctx := ctxL [(27, .pure cHal), (30, .pure cWho), (28, .pure (k62 S6.mul)), (32, .pure (k62 S6.sub)), (31, .pure (k61 S6.next)), (48, .pure (k61 S6.inv))]
theorem GIn_ok : CtxOk Try.prog GIn := ctxL_cons okHal <| ctxL_cons okWho <| ctxL_cons okSmul <| ctxL_cons okSsub <| ctxL_cons okSnext <| ctxL_cons okSinv ctxL_nil
abbrev jv1 (a0 a1 a2 a3 a4 a5 a6 a7 a8 a9 a10 a11 : Nat → Nat) : S6 := S6.mul (d6 a0 a1 a4 a5 a8 a9) (d6 a0 a1 a4 a5 a8 a9)
def jv1d (z : S12) : S6 := S6.mul z.p z.p
theorem jv1_d (a0 a1 a2 a3 a4 a5 a6 a7 a8 a9 a10 a11 : Nat → Nat) : jv1 a0 a1 a2 a3 a4 a5 a6 a7 a8 a9 a10 a11 = jv1d (d12 a0 a1 a2 a3 a4 a5 a6 a7 a8 a9 a10 a11) := by simp only [jv1, jv1d, D6_eq]
abbrev jv2 (a0 a1 a2 a3 a4 a5 a6 a7 a8 a9 a10 a11 : Nat → Nat) : S6 := S6.mul (d6 a2 a3 a6 a7 a10 a11) (d6 a2 a3 a6 a7 a10 a11)
def jv2d (z : S12) : S6 := S6.mul z.q z.q
theorem jv2_d (a0 a1 a2 a3 a4 a5 a6 a7 a8 a9 a10 a11 : Nat → Nat) : jv2 a0 a1 a2 a3 a4 a5 a6 a7 a8 a9 a10 a11 = jv2d (d12 a0 a1 a2 a3 a4 a5 a6 a7 a8 a9 a10 a11) := by simp only [jv2, jv2d, D6_eq]
abbrev jv3 (a0 a1 a2 a3 a4 a5 a6 a7 a8 a9 a10 a11 : Nat → Nat) : S6 := S6.next (D6 (jv2 a0 a1 a2 a3 a4 a5 a6 a7 a8 a9 a10 a11))
def jv3d (z : S12) : S6 := S6.next (jv2d z)
theorem jv3_d (a0 a1 a2 a3 a4 a5 a6 a7 a8 a9 a10 a11 : Nat → Nat) : jv3 a0 a1 a2 a3 a4 a5 a6 a7 a8 a9 a10 a11 = jv3d (d12 a0 a1 a2 a3 a4 a5 a6 a7 a8 a9 a10 a11) := by simp only [jv3, jv3d, D6_eq, jv2_d]
abbrev jv4 (a0 a1 a2 a3 a4 a5 a6 a7 a8 a9 a10 a11 : Nat → Nat) : S6 := S6.sub (D6 (jv1 a0 a1 a2 a3 a4 a5 a6 a7 a8 a9 a10 a11)) (D6 (jv3 a0 a1 a2 a3 a4 a5 a6 a7 a8 a9 a10 a11))
def jv4d (z : S12) : S6 := S6.sub (jv1d z) (jv3d z)
theorem jv4_d (a0 a1 a2 a3 a4 a5 a6 a7 a8 a9 a10 a11 : Nat → Nat) : jv4 a0 a1 a2 a3 a4 a5 a6 a7 a8 a9 a10 a11 = jv4d (d12 a0 a1 a2 a3 a4 a5 a6 a7 a8 a9 a10 a11) := by simp only [jv4, jv4d, D6_eq, jv1_d, jv3_d]
abbrev jv5 (a0 a1 a2 a3 a4 a5 a6 a7 a8 a9 a10 a11 : Nat → Nat) : S6 := S6.inv (D6 (jv4 a0 a1 a2 a3 a4 a5 a6 a7 a8 a9 a10 a11))
def jv5d (z : S12) : S6 := S6.inv (jv4d z)
theorem jv5_d (a0 a1 a2 a3 a4 a5 a6 a7 a8 a9 a10 a11 : Nat → Nat) : jv5 a0 a1 a2 a3 a4 a5 a6 a7 a8 a9 a10 a11 = jv5d (d12 a0 a1 a2 a3 a4 a5 a6 a7 a8 a9 a10 a11) := by simp only [jv5, jv5d, D6_eq, jv4_d]
abbrev jv6 (a0 a1 a2 a3 a4 a5 a6 a7 a8 a9 a10 a11 : Nat → Nat) : S6 := S6.mul (d6 a0 a1 a4 a5 a8 a9) (D6 (jv5 a0 a1 a2 a3 a4 a5 a6 a7 a8 a9 a10 a11))
def jv6d (z : S12) : S6 := S6.mul z.p (jv5d z)
theorem jv6_d (a0 a1 a2 a3 a4 a5 a6 a7 a8 a9 a10 a11 : Nat → Nat) : jv6 a0 a1 a2 a3 a4 a5 a6 a7 a8 a9 a10 a11 = jv6d (d12 a0 a1 a2 a3 a4 a5 a6 a7 a8 a9 a10 a11) := by simp only [jv6, jv6d, D6_eq, jv5_d]
abbrev jv7 (a0 a1 a2 a3 a4 a5 a6 a7 a8 a9 a10 a11 : Nat → Nat) : S6 := S6.sub (d6 (fun _ => 0) (fun _ => 0) (fun _ => 0) (fun _ => 0) (fun _ => 0) (fun _ => 0)) (d6 a2 a3 a6 a7 a10 a11)
def jv7d (z : S12) : S6 := S6.sub 0 z.q
theorem jv7_d (a0 a1 a2 a3 a4 a5 a6 a7 a8 a9 a10 a11 : Nat → Nat) : jv7 a0 a1 a2 a3 a4 a5 a6 a7 a8 a9 a10 a11 = jv7d (d12 a0 a1 a2 a3 a4 a5 a6 a7 a8 a9 a10 a11) := by simp only [jv7, jv7d, D6_eq, d6_zero]
abbrev jv8 (a0 a1 a2 a3 a4 a5 a6 a7 a8 a9 a10 a11 : Nat → Nat) : S6 := S6.mul (D6 (jv7 a0 a1 a2 a3 a4 a5 a6 a7 a8 a9 a10 a11)) (D6 (jv5 a0 a1 a2 a3 a4 a5 a6 a7 a8 a9 a10 a11))
def jv8d (z : S12) : S6 := S6.mul (jv7d z) (jv5d z)
theorem jv8_d (a0 a1 a2 a3 a4 a5 a6 a7 a8 a9 a10 a11 : Nat → Nat) : jv8 a0 a1 a2 a3 a4 a5 a6 a7 a8 a9 a10 a11 = jv8d (d12 a0 a1 a2 a3 a4 a5 a6 a7 a8 a9 a10 a11) := by simp only [jv8, jv8d, D6_eq, jv7_d, jv5_d]
def S12.inv (z : S12) : S12 := ⟨(jv6d z), (jv8d z)⟩
theorem okInv12 : (CallC.pure (k121 S12.inv)).Ok Try.prog 23 := by
  refine k121_ok Try.func23 (by kernel_rfl) (by kernel_rfl) fun a0 a1 a2 a3 a4 a5 a6 a7 a8 a9 a10 a11 ha0 ha1 ha2 ha3 ha4 ha5 ha6 ha7 ha8 ha9 ha10 ha11 => evS_q mixed tt_ok GIn_ok 100 [] ?_
  refine same (p := nv a0 < pN ∧ nv a1 < pN ∧ nv a4 < pN ∧ nv a5 < pN ∧ nv a8 < pN ∧ nv a9 < pN ∧ nv a0 < pN ∧ nv a1 < pN ∧ nv a4 < pN ∧ nv a5 < pN ∧ nv a8 < pN ∧ nv a9 < pN ∧ nv a2 < pN ∧ nv a3 < pN ∧ nv a6 < pN ∧ nv a7 < pN ∧ nv a10 < pN ∧ nv a11 < pN ∧ nv a2 < pN ∧ nv a3 < pN ∧ nv a6 < pN ∧ nv a7 < pN ∧ nv a10 < pN ∧ nv a11 < pN ∧ nv (eF (jv2 a0 a1 a2 a3 a4 a5 a6 a7 a8 a9 a10 a11).u.x) < pN ∧ nv (eF (jv2 a0 a1 a2 a3 a4 a5 a6 a7 a8 a9 a10 a11).u.y) < pN ∧ nv (eF (jv2 a0 a1 a2 a3 a4 a5 a6 a7 a8 a9 a10 a11).v.x) < pN ∧ nv (eF (jv2 a0 a1 a2 a3 a4 a5 a6 a7 a8 a9 a10 a11).v.y) < pN ∧ nv (eF (jv2 a0 a1 a2 a3 a4 a5 a6 a7 a8 a9 a10 a11).w.x) < pN ∧ nv (eF (jv2 a0 a1 a2 a3 a4 a5 a6 a7 a8 a9 a10 a11).w.y) < pN ∧ nv (eF (jv1 a0 a1 a2 a3 a4 a5 a6 a7 a8 a9 a10 a11).u.x) < pN ∧ nv (eF (jv1 a0 a1 a2 a3 a4 a5 a6 a7 a8 a9 a10 a11).u.y) < pN ∧ nv (eF (jv1 a0 a1 a2 a3 a4 a5 a6 a7 a8 a9 a10 a11).v.x) < pN ∧ nv (eF (jv1 a0 a1 a2 a3 a4 a5 a6 a7 a8 a9 a10 a11).v.y) < pN ∧ nv (eF (jv1 a0 a1 a2 a3 a4 a5 a6 a7 a8 a9 a10 a11).w.x) < pN ∧ nv (eF (jv1 a0 a1 a2 a3 a4 a5 a6 a7 a8 a9 a10 a11).w.y) < pN ∧ nv (eF (jv3 a0 a1 a2 a3 a4 a5 a6 a7 a8 a9 a10 a11).u.x) < pN ∧ nv (eF (jv3 a0 a1 a2 a3 a4 a5 a6 a7 a8 a9 a10 a11).u.y) < pN ∧ nv (eF (jv3 a0 a1 a2 a3 a4 a5 a6 a7 a8 a9 a10 a11).v.x) < pN ∧ nv (eF (jv3 a0 a1 a2 a3 a4 a5 a6 a7 a8 a9 a10 a11).v.y) < pN ∧ nv (eF (jv3 a0 a1 a2 a3 a4 a5 a6 a7 a8 a9 a10 a11).w.x) < pN ∧ nv (eF (jv3 a0 a1 a2 a3 a4 a5 a6 a7 a8 a9 a10 a11).w.y) < pN ∧ nv (eF (jv4 a0 a1 a2 a3 a4 a5 a6 a7 a8 a9 a10 a11).u.x) < pN ∧ nv (eF (jv4 a0 a1 a2 a3 a4 a5 a6 a7 a8 a9 a10 a11).u.y) < pN ∧ nv (eF (jv4 a0 a1 a2 a3 a4 a5 a6 a7 a8 a9 a10 a11).v.x) < pN ∧ nv (eF (jv4 a0 a1 a2 a3 a4 a5 a6 a7 a8 a9 a10 a11).v.y) < pN ∧ nv (eF (jv4 a0 a1 a2 a3 a4 a5 a6 a7 a8 a9 a10 a11).w.x) < pN ∧ nv (eF (jv4 a0 a1 a2 a3 a4 a5 a6 a7 a8 a9 a10 a11).w.y) < pN ∧ nv a0 < pN ∧ nv a1 < pN ∧ nv a4 < pN ∧ nv a5 < pN ∧ nv a8 < pN ∧ nv a9 < pN ∧ nv (eF (jv5 a0 a1 a2 a3 a4 a5 a6 a7 a8 a9 a10 a11).u.x) < pN ∧ nv (eF (jv5 a0 a1 a2 a3 a4 a5 a6 a7 a8 a9 a10 a11).u.y) < pN ∧ nv (eF (jv5 a0 a1 a2 a3 a4 a5 a6 a7 a8 a9 a10 a11).v.x) < pN ∧ nv (eF (jv5 a0 a1 a2 a3 a4 a5 a6 a7 a8 a9 a10 a11).v.y) < pN ∧ nv (eF (jv5 a0 a1 a2 a3 a4 a5 a6 a7 a8 a9 a10 a11).w.x) < pN ∧ nv (eF (jv5 a0 a1 a2 a3 a4 a5 a6 a7 a8 a9 a10 a11).w.y) < pN ∧ nv (fun _ => 0) < pN ∧ nv (fun _ => 0) < pN ∧ nv (fun _ => 0) < pN ∧ nv (fun _ => 0) < pN ∧ nv (fun _ => 0) < pN ∧ nv (fun _ => 0) < pN ∧ nv a2 < pN ∧ nv a3 < pN ∧ nv a6 < pN ∧ nv a7 < pN ∧ nv a10 < pN ∧ nv a11 < pN ∧ nv (eF (jv7 a0 a1 a2 a3 a4 a5 a6 a7 a8 a9 a10 a11).u.x) < pN ∧ nv (eF (jv7 a0 a1 a2 a3 a4 a5 a6 a7 a8 a9 a10 a11).u.y) < pN ∧ nv (eF (jv7 a0 a1 a2 a3 a4 a5 a6 a7 a8 a9 a10 a11).v.x) < pN ∧ nv (eF (jv7 a0 a1 a2 a3 a4 a5 a6 a7 a8 a9 a10 a11).v.y) < pN ∧ nv (eF (jv7 a0 a1 a2 a3 a4 a5 a6 a7 a8 a9 a10 a11).w.x) < pN ∧ nv (eF (jv7 a0 a1 a2 a3 a4 a5 a6 a7 a8 a9 a10 a11).w.y) < pN ∧ nv (eF (jv5 a0 a1 a2 a3 a4 a5 a6 a7 a8 a9 a10 a11).u.x) < pN ∧ nv (eF (jv5 a0 a1 a2 a3 a4 a5 a6 a7 a8 a9 a10 a11).u.y) < pN ∧ nv (eF (jv5 a0 a1 a2 a3 a4 a5 a6 a7 a8 a9 a10 a11).v.x) < pN ∧ nv (eF (jv5 a0 a1 a2 a3 a4 a5 a6 a7 a8 a9 a10 a11).v.y) < pN ∧ nv (eF (jv5 a0 a1 a2 a3 a4 a5 a6 a7 a8 a9 a10 a11).w.x) < pN ∧ nv (eF (jv5 a0 a1 a2 a3 a4 a5 a6 a7 a8 a9 a10 a11).w.y) < pN ∧ endN (.v1 (v12 (eF (jv6 a0 a1 a2 a3 a4 a5 a6 a7 a8 a9 a10 a11).u.x) (eF (jv6 a0 a1 a2 a3 a4 a5 a6 a7 a8 a9 a10 a11).u.y) (eF (jv8 a0 a1 a2 a3 a4 a5 a6 a7 a8 a9 a10 a11).u.x) (eF (jv8 a0 a1 a2 a3 a4 a5 a6 a7 a8 a9 a10 a11).u.y) (eF (jv6 a0 a1 a2 a3 a4 a5 a6 a7 a8 a9 a10 a11).v.x) (eF (jv6 a0 a1 a2 a3 a4 a5 a6 a7 a8 a9 a10 a11).v.y) (eF (jv8 a0 a1 a2 a3 a4 a5 a6 a7 a8 a9 a10 a11).v.x) (eF (jv8 a0 a1 a2 a3 a4 a5 a6 a7 a8 a9 a10 a11).v.y) (eF (jv6 a0 a1 a2 a3 a4 a5 a6 a7 a8 a9 a10 a11).w.x) (eF (jv6 a0 a1 a2 a3 a4 a5 a6 a7 a8 a9 a10 a11).w.y) (eF (jv8 a0 a1 a2 a3 a4 a5 a6 a7 a8 a9 a10 a11).w.x) (eF (jv8 a0 a1 a2 a3 a4 a5 a6 a7 a8 a9 a10 a11).w.y))) (.v1 (e12 (S12.inv (d12 a0 a1 a2 a3 a4 a5 a6 a7 a8 a9 a10 a11))))) ?_ (by kernel_rfl)
  exact ⟨ha0, ha1, ha4, ha5, ha8, ha9, ha0, ha1, ha4, ha5, ha8, ha9, ha2, ha3, ha6, ha7, ha10, ha11, ha2, ha3, ha6, ha7, ha10, ha11, lt_eF _, lt_eF _, lt_eF _, lt_eF _, lt_eF _, lt_eF _, lt_eF _, lt_eF _, lt_eF _, lt_eF _, lt_eF _, lt_eF _, lt_eF _, lt_eF _, lt_eF _, lt_eF _, lt_eF _, lt_eF _, lt_eF _, lt_eF _, lt_eF _, lt_eF _, lt_eF _, lt_eF _, ha0, ha1, ha4, ha5, ha8, ha9, lt_eF _, lt_eF _, lt_eF _, lt_eF _, lt_eF _, lt_eF _, zlt, zlt, zlt, zlt, zlt, zlt, ha2, ha3, ha6, ha7, ha10, ha11, lt_eF _, lt_eF _, lt_eF _, lt_eF _, lt_eF _, lt_eF _, lt_eF _, lt_eF _, lt_eF _, lt_eF _, lt_eF _, lt_eF _, _, rfl, v12_val (nvE (by rw [jv6_d]; rfl)) (nvE (by rw [jv6_d]; rfl)) (nvE (by rw [jv8_d]; rfl)) (nvE (by rw [jv8_d]; rfl)) (nvE (by rw [jv6_d]; rfl)) (nvE (by rw [jv6_d]; rfl)) (nvE (by rw [jv8_d]; rfl)) (nvE (by rw [jv8_d]; rfl)) (nvE (by rw [jv6_d]; rfl)) (nvE (by rw [jv6_d]; rfl)) (nvE (by rw [jv8_d]; rfl)) (nvE (by rw [jv8_d]; rfl))⟩
abbrev cj1 (a0 a1 a2 a3 a4 a5 a6 a7 a8 a9 a10 a11 : Nat → Nat) : S6 := S6.sub (d6 (fun _ => 0) (fun _ => 0) (fun _ => 0) (fun _ => 0) (fun _ => 0) (fun _ => 0)) (d6 a2 a3 a6 a7 a10 a11)
def cj1d (z : S12) : S6 := S6.sub 0 z.q
theorem cj1_d (a0 a1 a2 a3 a4 a5 a6 a7 a8 a9 a10 a11 : Nat → Nat) : cj1 a0 a1 a2 a3 a4 a5 a6 a7 a8 a9 a10 a11 = cj1d (d12 a0 a1 a2 a3 a4 a5 a6 a7 a8 a9 a10 a11) := by simp only [cj1, cj1d, D6_eq, d6_zero]
def S12.conj (z : S12) : S12 := ⟨z.p, (cj1d z)⟩
theorem okConj12 : (CallC.pure (k121 S12.conj)).Ok Try.prog 22 := by
  refine k121_ok Try.func22 (by kernel_rfl) (by kernel_rfl) fun a0 a1 a2 a3 a4 a5 a6 a7 a8 a9 a10 a11 ha0 ha1 ha2 ha3 ha4 ha5 ha6 ha7 ha8 ha9 ha10 ha11 => evS_q mixed tt_ok GIn_ok 100 [] ?_
  refine same (p := nv (fun _ => 0) < pN ∧ nv (fun _ => 0) < pN ∧ nv (fun _ => 0) < pN ∧ nv (fun _ => 0) < pN ∧ nv (fun _ => 0) < pN ∧ nv (fun _ => 0) < pN ∧ nv a2 < pN ∧ nv a3 < pN ∧ nv a6 < pN ∧ nv a7 < pN ∧ nv a10 < pN ∧ nv a11 < pN ∧ endN (.v1 (v12 a0 a1 (eF (cj1 a0 a1 a2 a3 a4 a5 a6 a7 a8 a9 a10 a11).u.x) (eF (cj1 a0 a1 a2 a3 a4 a5 a6 a7 a8 a9 a10 a11).u.y) a4 a5 (eF (cj1 a0 a1 a2 a3 a4 a5 a6 a7 a8 a9 a10 a11).v.x) (eF (cj1 a0 a1 a2 a3 a4 a5 a6 a7 a8 a9 a10 a11).v.y) a8 a9 (eF (cj1 a0 a1 a2 a3 a4 a5 a6 a7 a8 a9 a10 a11).w.x) (eF (cj1 a0 a1 a2 a3 a4 a5 a6 a7 a8 a9 a10 a11).w.y))) (.v1 (e12 (S12.conj (d12 a0 a1 a2 a3 a4 a5 a6 a7 a8 a9 a10 a11))))) ?_ (by kernel_rfl)
  exact ⟨zlt, zlt, zlt, zlt, zlt, zlt, ha2, ha3, ha6, ha7, ha10, ha11, _, rfl, v12_val (nv_of ha0 rfl) (nv_of ha1 rfl) (nvE (by rw [cj1_d]; rfl)) (nvE (by rw [cj1_d]; rfl)) (nv_of ha4 rfl) (nv_of ha5 rfl) (nvE (by rw [cj1_d]; rfl)) (nvE (by rw [cj1_d]; rfl)) (nv_of ha8 rfl) (nv_of ha9 rfl) (nvE (by rw [cj1_d]; rfl)) (nvE (by rw [cj1_d]; rfl))⟩
end Go.Proofs.Ytnjocbcjejpklaa

/- Numbers of twelve parts: turned, powers. Printed by gent16.py. -/
namespace Go.Proofs.Ytnjocbcjejpklaa
open Go.Rq Go
set_option maxRecDepth 100000
set_option linter.unusedVariables false
set_option linter.unusedSimpArgs false

def of12 (a0 a1 a2 a3 a4 a5 a6 a7 a8 a9 a10 a11 : Nat → Nat) : Nat → Nat → Nat
  | 0 => a0
  | 1 => a1
  | 2 => a2
  | 3 => a3
  | 4 => a4
  | 5 => a5
  | 6 => a6
  | 7 => a7
  | 8 => a8
  | 9 => a9
  | 10 => a10
  | _ => a11
def sel12 (s : S12) : Nat → Nat → Nat := of12 (eF s.p.u.x) (eF s.p.u.y) (eF s.q.u.x) (eF s.q.u.y) (eF s.p.v.x) (eF s.p.v.y) (eF s.q.v.x) (eF s.q.v.y) (eF s.p.w.x) (eF s.p.w.y) (eF s.q.w.x) (eF s.q.w.y)
abbrev cs12 (g : Nat → Nat → Nat) : List Cell := [.ws .u64 6 (g 0), .ws .u64 6 (g 1), .ws .u64 6 (g 2), .ws .u64 6 (g 3), .ws .u64 6 (g 4), .ws .u64 6 (g 5), .ws .u64 6 (g 6), .ws .u64 6 (g 7), .ws .u64 6 (g 8), .ws .u64 6 (g 9), .ws .u64 6 (g 10), .ws .u64 6 (g 11)]
abbrev D12 (g : Nat → Nat → Nat) : S12 := d12 (g 0) (g 1) (g 2) (g 3) (g 4) (g 5) (g 6) (g 7) (g 8) (g 9) (g 10) (g 11)
abbrev b12 (g : Nat → Nat → Nat) : Option Blk := some ⟨49, cs12 g, 0, 0⟩
def Lt12 (g : Nat → Nat → Nat) : Prop := ∀ i, i < 12 → nv (g i) < pN
theorem D12_sel (s : S12) : D12 (sel12 s) = s := by
  simp only [D12, sel12, of12, d12, d6, dF_eF]
theorem lt_of12 {a0 a1 a2 a3 a4 a5 a6 a7 a8 a9 a10 a11 : Nat → Nat} (h0 : nv a0 < pN) (h1 : nv a1 < pN) (h2 : nv a2 < pN) (h3 : nv a3 < pN) (h4 : nv a4 < pN) (h5 : nv a5 < pN) (h6 : nv a6 < pN) (h7 : nv a7 < pN) (h8 : nv a8 < pN) (h9 : nv a9 < pN) (h10 : nv a10 < pN) (h11 : nv a11 < pN) : Lt12 (of12 a0 a1 a2 a3 a4 a5 a6 a7 a8 a9 a10 a11) := by
  intro i hi
  have : i = 0 ∨ i = 1 ∨ i = 2 ∨ i = 3 ∨ i = 4 ∨ i = 5 ∨ i = 6 ∨ i = 7 ∨ i = 8 ∨ i = 9 ∨ i = 10 ∨ i = 11 := by omega
  rcases this with rfl | rfl | rfl | rfl | rfl | rfl | rfl | rfl | rfl | rfl | rfl | rfl
  · exact h0
  · exact h1
  · exact h2
  · exact h3
  · exact h4
  · exact h5
  · exact h6
  · exact h7
  · exact h8
  · exact h9
  · exact h10
  · exact h11
theorem lt_sel (s : S12) : Lt12 (sel12 s) := lt_of12 (lt_eF _) (lt_eF _) (lt_eF _) (lt_eF _) (lt_eF _) (lt_eF _) (lt_eF _) (lt_eF _) (lt_eF _) (lt_eF _) (lt_eF _) (lt_eF _)
theorem lt12 {g : Nat → Nat → Nat} (h : Lt12 g) : nv (g 0) < pN ∧ nv (g 1) < pN ∧ nv (g 2) < pN ∧ nv (g 3) < pN ∧ nv (g 4) < pN ∧ nv (g 5) < pN ∧ nv (g 6) < pN ∧ nv (g 7) < pN ∧ nv (g 8) < pN ∧ nv (g 9) < pN ∧ nv (g 10) < pN ∧ nv (g 11) < pN := ⟨h 0 (by decide), h 1 (by decide), h 2 (by decide), h 3 (by decide), h 4 (by decide), h 5 (by decide), h 6 (by decide), h 7 (by decide), h 8 (by decide), h 9 (by decide), h 10 (by decide), h 11 (by decide)⟩
theorem endN_12 {g : Nat → Nat → Nat} {s : S12} (h : Lt12 g) (e : D12 g = s) : endN (.v1 (.agg (cs12 g))) (.v1 (e12 s)) := by
  subst e
  exact ⟨_, rfl, v12_val (nv_of (h 0 (by decide)) rfl) (nv_of (h 1 (by decide)) rfl) (nv_of (h 2 (by decide)) rfl) (nv_of (h 3 (by decide)) rfl) (nv_of (h 4 (by decide)) rfl) (nv_of (h 5 (by decide)) rfl) (nv_of (h 6 (by decide)) rfl) (nv_of (h 7 (by decide)) rfl) (nv_of (h 8 (by decide)) rfl) (nv_of (h 9 (by decide)) rfl) (nv_of (h 10 (by decide)) rfl) (nv_of (h 11 (by decide)) rfl)⟩

/-! turned -/
theorem tw_x {a b c d : Nat → Nat} {K : F2p} (h2 : dF c = K.x) (h3 : dF d = K.y) : dF (eF (mul2x (dF (eF (cj2x (dF a) (dF b)))) (dF (eF (cj2y (dF a) (dF b)))) (dF c) (dF d))) = (F2p.cj ⟨dF a, dF b⟩ * K).x := by
  rw [dF_eF, dF_eF, dF_eF, h2, h3]; rfl
theorem tw_y {a b c d : Nat → Nat} {K : F2p} (h2 : dF c = K.x) (h3 : dF d = K.y) : dF (eF (mul2y (dF (eF (cj2x (dF a) (dF b)))) (dF (eF (cj2y (dF a) (dF b)))) (dF c) (dF d))) = (F2p.cj ⟨dF a, dF b⟩ * K).y := by
  rw [dF_eF, dF_eF, dF_eF, h2, h3]; rfl
abbrev nw12 (g : Nat → Nat → Nat) : Nat → Nat → Nat := of12 (eF (mul2x (dF (eF (cj2x (dF (g 0)) (dF (g 1))))) (dF (eF (cj2y (dF (g 0)) (dF (g 1))))) (dF tuF0) (dF tuF1))) (eF (mul2y (dF (eF (cj2x (dF (g 0)) (dF (g 1))))) (dF (eF (cj2y (dF (g 0)) (dF (g 1))))) (dF tuF0) (dF tuF1))) (eF (mul2x (dF (eF (cj2x (dF (g 2)) (dF (g 3))))) (dF (eF (cj2y (dF (g 2)) (dF (g 3))))) (dF tuF2) (dF tuF3))) (eF (mul2y (dF (eF (cj2x (dF (g 2)) (dF (g 3))))) (dF (eF (cj2y (dF (g 2)) (dF (g 3))))) (dF tuF2) (dF tuF3))) (eF (mul2x (dF (eF (cj2x (dF (g 4)) (dF (g 5))))) (dF (eF (cj2y (dF (g 4)) (dF (g 5))))) (dF tuF4) (dF tuF5))) (eF (mul2y (dF (eF (cj2x (dF (g 4)) (dF (g 5))))) (dF (eF (cj2y (dF (g 4)) (dF (g 5))))) (dF tuF4) (dF tuF5))) (eF (mul2x (dF (eF (cj2x (dF (g 6)) (dF (g 7))))) (dF (eF (cj2y (dF (g 6)) (dF (g 7))))) (dF tuF6) (dF tuF7))) (eF (mul2y (dF (eF (cj2x (dF (g 6)) (dF (g 7))))) (dF (eF (cj2y (dF (g 6)) (dF (g 7))))) (dF tuF6) (dF tuF7))) (eF (mul2x (dF (eF (cj2x (dF (g 8)) (dF (g 9))))) (dF (eF (cj2y (dF (g 8)) (dF (g 9))))) (dF tuF8) (dF tuF9))) (eF (mul2y (dF (eF (cj2x (dF (g 8)) (dF (g 9))))) (dF (eF (cj2y (dF (g 8)) (dF (g 9))))) (dF tuF8) (dF tuF9))) (eF (mul2x (dF (eF (cj2x (dF (g 10)) (dF (g 11))))) (dF (eF (cj2y (dF (g 10)) (dF (g 11))))) (dF tuF10) (dF tuF11))) (eF (mul2y (dF (eF (cj2x (dF (g 10)) (dF (g 11))))) (dF (eF (cj2y (dF (g 10)) (dF (g 11))))) (dF tuF10) (dF tuF11)))
theorem nw_lt (g : Nat → Nat → Nat) : Lt12 (nw12 g) := lt_of12 (lt_eF _) (lt_eF _) (lt_eF _) (lt_eF _) (lt_eF _) (lt_eF _) (lt_eF _) (lt_eF _) (lt_eF _) (lt_eF _) (lt_eF _) (lt_eF _)
theorem nw_d (g : Nat → Nat → Nat) : D12 (nw12 g) = (D12 g).turn := by
  exact S12.ext (S6.ext (F2p.ext (tw_x tu_d0 tu_d1) (tw_y tu_d0 tu_d1)) (F2p.ext (tw_x tu_d4 tu_d5) (tw_y tu_d4 tu_d5)) (F2p.ext (tw_x tu_d8 tu_d9) (tw_y tu_d8 tu_d9))) (S6.ext (F2p.ext (tw_x tu_d2 tu_d3) (tw_y tu_d2 tu_d3)) (F2p.ext (tw_x tu_d6 tu_d7) (tw_y tu_d6 tu_d7)) (F2p.ext (tw_x tu_d10 tu_d11) (tw_y tu_d10 tu_d11)))
def cFr (args : List AV) : Option (List Prop × AV) :=
  match args with
  | [.v1 (.agg [.ws .u64 6 a0, .ws .u64 6 a1, .ws .u64 6 a2, .ws .u64 6 a3, .ws .u64 6 a4, .ws .u64 6 a5, .ws .u64 6 a6, .ws .u64 6 a7, .ws .u64 6 a8, .ws .u64 6 a9, .ws .u64 6 a10, .ws .u64 6 a11]), .v1 (.sc (.it (.ofNat n)))] => some ([n ≤ 12, nv a0 < pN, nv a1 < pN, nv a2 < pN, nv a3 < pN, nv a4 < pN, nv a5 < pN, nv a6 < pN, nv a7 < pN, nv a8 < pN, nv a9 < pN, nv a10 < pN, nv a11 < pN], .v1 (e12 (S12.turns n (d12 a0 a1 a2 a3 a4 a5 a6 a7 a8 a9 a10 a11))))
  | _ => none
def GFr : Ctx := ctxL [(49, .pure (c12 tu12)), (51, .pure (q1 cj2x cj2y)), (50, .pure (q2 mul2x mul2y))]
theorem GFr_ok : CtxOk Try.prog GFr := ctxL_cons okTurned <| ctxL_cons okConj2 <| ctxL_cons okMul2 ctxL_nil
abbrev zz12 : Nat → Nat → Nat := fun _ _ => 0
abbrev tuG : Nat → Nat → Nat := of12 tuF0 tuF1 tuF2 tuF3 tuF4 tuF5 tuF6 tuF7 tuF8 tuF9 tuF10 tuF11
def VFr (n k : Nat) : List AV := [pt 0 0, pt 1 0, pt 3 0, iv (Int.ofNat n), iv (Int.ofNat k)]
def HFr (g : Nat → Nat → Nat) : Heap := [b12 g, b12 zz12, none, b12 tuG]
def InvFr (n : Nat) (z : S12) (x : Nat × (Nat → Nat → Nat)) : Prop := x.1 ≤ n ∧ Lt12 x.2 ∧ D12 x.2 = S12.turns x.1 z
theorem okFrob : (CallC.pure cFr).Ok Try.prog 24 := by
  intro args pre v e hp
  unfold cFr at e
  split at e
  · rename_i a0 a1 a2 a3 a4 a5 a6 a7 a8 a9 a10 a11 n
    cases e
    have hn : n ≤ 12 := hp _ (by simp)
    have h0 : nv a0 < pN := hp _ (by simp)
    have h1 : nv a1 < pN := hp _ (by simp)
    have h2 : nv a2 < pN := hp _ (by simp)
    have h3 : nv a3 < pN := hp _ (by simp)
    have h4 : nv a4 < pN := hp _ (by simp)
    have h5 : nv a5 < pN := hp _ (by simp)
    have h6 : nv a6 < pN := hp _ (by simp)
    have h7 : nv a7 < pN := hp _ (by simp)
    have h8 : nv a8 < pN := hp _ (by simp)
    have h9 : nv a9 < pN := hp _ (by simp)
    have h10 : nv a10 < pN := hp _ (by simp)
    have h11 : nv a11 < pN := hp _ (by simp)
    refine pure_walk' tt_ok Try.func24 (by kernel_rfl) (by kernel_rfl) (by rfl) (by rfl) ?_
    refine loopF mixed tt_ok GFr_ok (by kernel_rfl) (ι := {x // InvFr n (d12 a0 a1 a2 a3 a4 a5 a6 a7 a8 a9 a10 a11) x}) [2,4,5,8,9] 27 4 (fun x => VFr n x.1.1) (fun x => HFr x.1.2) (fun x => n - x.1.1) (fun x => x.1.1 = n)
      (fun _ => rfl) (fun _ => by kernel_rfl) (fun _ _ h => h.elim) 100 [] ?_ ?_ ?_
    · refine same (p := true = true ∧ ∃ j : {x // InvFr n (d12 a0 a1 a2 a3 a4 a5 a6 a7 a8 a9 a10 a11) x}, VFr n 0 = VFr n j.1.1 ∧ HFr (of12 a0 a1 a2 a3 a4 a5 a6 a7 a8 a9 a10 a11) = HFr j.1.2) ?_ (by kernel_rfl)
      exact ⟨rfl, ⟨(0, of12 a0 a1 a2 a3 a4 a5 a6 a7 a8 a9 a10 a11), Nat.zero_le _, lt_of12 h0 h1 h2 h3 h4 h5 h6 h7 h8 h9 h10 h11, rfl⟩, rfl, rfl⟩
    · intro ⟨⟨k, g⟩, hk, hg, hd⟩ junk
      simp only at hk hg hd
      by_cases hlt : k < n
      · have hge : ilt (Int.ofNat k) (Int.ofNat n) = true := by rw [ilt_iff]; exact Int.ofNat_lt.2 hlt
        have hs : wrapI (Int.ofNat k + 1) = Int.ofNat (k + 1) := by show wrapI (Int.ofNat (k + 1)) = _; exact wrapI_small (by omega)
        refine roundF mixed tt_ok GFr_ok 200 [⟨3,0,.lit (.bo true)⟩,⟨9,0,.lit (.it (Int.ofNat (k + 1)))⟩] ?_
        refine same (p := ilt (Int.ofNat k) (Int.ofNat n) = true ∧ nv (g 0) < pN ∧ nv (g 1) < pN ∧ nv (eF (cj2x (dF (g 0)) (dF (g 1)))) < pN ∧ nv (eF (cj2y (dF (g 0)) (dF (g 1)))) < pN ∧ nv tuF0 < pN ∧ nv tuF1 < pN ∧ nv (g 2) < pN ∧ nv (g 3) < pN ∧ nv (eF (cj2x (dF (g 2)) (dF (g 3)))) < pN ∧ nv (eF (cj2y (dF (g 2)) (dF (g 3)))) < pN ∧ nv tuF2 < pN ∧ nv tuF3 < pN ∧ nv (g 4) < pN ∧ nv (g 5) < pN ∧ nv (eF (cj2x (dF (g 4)) (dF (g 5)))) < pN ∧ nv (eF (cj2y (dF (g 4)) (dF (g 5)))) < pN ∧ nv tuF4 < pN ∧ nv tuF5 < pN ∧ nv (g 6) < pN ∧ nv (g 7) < pN ∧ nv (eF (cj2x (dF (g 6)) (dF (g 7)))) < pN ∧ nv (eF (cj2y (dF (g 6)) (dF (g 7)))) < pN ∧ nv tuF6 < pN ∧ nv tuF7 < pN ∧ nv (g 8) < pN ∧ nv (g 9) < pN ∧ nv (eF (cj2x (dF (g 8)) (dF (g 9)))) < pN ∧ nv (eF (cj2y (dF (g 8)) (dF (g 9)))) < pN ∧ nv tuF8 < pN ∧ nv tuF9 < pN ∧ nv (g 10) < pN ∧ nv (g 11) < pN ∧ nv (eF (cj2x (dF (g 10)) (dF (g 11)))) < pN ∧ nv (eF (cj2y (dF (g 10)) (dF (g 11)))) < pN ∧ nv tuF10 < pN ∧ nv tuF11 < pN ∧ wrapI (Int.ofNat k + 1) = Int.ofNat (k + 1) ∧ true = true ∧
          ∃ j : {x // InvFr n (d12 a0 a1 a2 a3 a4 a5 a6 a7 a8 a9 a10 a11) x}, n - j.1.1 < n - k ∧ VFr n (k + 1) = VFr n j.1.1 ∧ HFr (nw12 g) = HFr j.1.2) ?_ (by kernel_rfl)
        exact ⟨hge, hg 0 (by decide), hg 1 (by decide), lt_eF _, lt_eF _, tu_lt0, tu_lt1, hg 2 (by decide), hg 3 (by decide), lt_eF _, lt_eF _, tu_lt2, tu_lt3, hg 4 (by decide), hg 5 (by decide), lt_eF _, lt_eF _, tu_lt4, tu_lt5, hg 6 (by decide), hg 7 (by decide), lt_eF _, lt_eF _, tu_lt6, tu_lt7, hg 8 (by decide), hg 9 (by decide), lt_eF _, lt_eF _, tu_lt8, tu_lt9, hg 10 (by decide), hg 11 (by decide), lt_eF _, lt_eF _, tu_lt10, tu_lt11, hs, rfl, ⟨(k + 1, nw12 g), hlt, nw_lt g, by simp only [nw_d, hd]; rfl⟩, by simp only; omega, rfl, rfl⟩
      · have hge : ilt (Int.ofNat k) (Int.ofNat n) = false := by rw [← Bool.not_eq_true, ilt_iff]; exact fun h => hlt (Int.ofNat_lt.1 h)
        refine roundF mixed tt_ok GFr_ok 200 [⟨3,0,.lit (.bo false)⟩] ?_
        refine same (p := ilt (Int.ofNat k) (Int.ofNat n) = false ∧ true = true ∧ ∃ j : {x // InvFr n (d12 a0 a1 a2 a3 a4 a5 a6 a7 a8 a9 a10 a11) x}, j.1.1 = n ∧ VFr n k = VFr n j.1.1 ∧ HFr g = HFr j.1.2) ?_ (by kernel_rfl)
        exact ⟨hge, rfl, ⟨(k, g), hk, hg, hd⟩, by simp only; omega, rfl, rfl⟩
    · intro ⟨⟨k, g⟩, hk, hg, hd⟩ junk h0
      simp only at hk hg hd h0
      subst h0
      refine same (p := endN (.v1 (.agg (cs12 g))) (.v1 (e12 (S12.turns k (d12 a0 a1 a2 a3 a4 a5 a6 a7 a8 a9 a10 a11))))) ?_ (by kernel_rfl)
      exact endN_12 hg hd
  · cases e

/-! Pow12 -/
theorem S12.one_d : D12 (of12 oneF (fun _ => 0) (fun _ => 0) (fun _ => 0) (fun _ => 0) (fun _ => 0) (fun _ => 0) (fun _ => 0) (fun _ => 0) (fun _ => 0) (fun _ => 0) (fun _ => 0)) = 1 := by
  simp only [D12, d12, d6, of12, dF_one, dF_zero]
  rfl
theorem lt_one12 : Lt12 (of12 oneF (fun _ => 0) (fun _ => 0) (fun _ => 0) (fun _ => 0) (fun _ => 0) (fun _ => 0) (fun _ => 0) (fun _ => 0) (fun _ => 0) (fun _ => 0) (fun _ => 0)) := lt_of12 (by rw [one_enc]; exact enc_lt 1) zlt zlt zlt zlt zlt zlt zlt zlt zlt zlt zlt
def cPw (args : List AV) : Option (List Prop × AV) :=
  match args with
  | [.v1 (.agg [.ws .u64 6 a0, .ws .u64 6 a1, .ws .u64 6 a2, .ws .u64 6 a3, .ws .u64 6 a4, .ws .u64 6 a5, .ws .u64 6 a6, .ws .u64 6 a7, .ws .u64 6 a8, .ws .u64 6 a9, .ws .u64 6 a10, .ws .u64 6 a11]), .v1 (.agg [.ws .u64 6 e])] => some ([nv a0 < pN, nv a1 < pN, nv a2 < pN, nv a3 < pN, nv a4 < pN, nv a5 < pN, nv a6 < pN, nv a7 < pN, nv a8 < pN, nv a9 < pN, nv a10 < pN, nv a11 < pN], .v1 (e12 (d12 a0 a1 a2 a3 a4 a5 a6 a7 a8 a9 a10 a11 ^ nv e)))
  | _ => none
def GPw : Ctx := ctxL [(18, .pure (c12 one12)), (14, .pure (k122 S12.mul))]
theorem GPw_ok : CtxOk Try.prog GPw := ctxL_cons okOne12 <| ctxL_cons okMul12 ctxL_nil
abbrev bv (b : Bool) : AV := .v1 (.sc (.bo b))
def VPw (k : Nat) (b : Bool) : List AV := [pt 0 0, pt 1 0, pt 2 0, pt 4 0, bv b, iv (predI k)]
def HPw (a : Nat → Nat → Nat) (e : Nat → Nat) (g : Nat → Nat → Nat) : Heap := [b12 a, nb e, b12 zz12, none, b12 g]
structure PwD where
  k : Nat
  b : Bool
  g : Nat → Nat → Nat
structure InvPw (z : S12) (e : Nat) (x : PwD) : Prop where
  hk : x.k ≤ 384
  hg : Lt12 x.g
  hd : D12 x.g = z ^ (e / 2 ^ x.k)
  hb : x.b = false → e / 2 ^ x.k = 0
theorem InvPw.of {z : S12} {e k : Nat} {b : Bool} {g : Nat → Nat → Nat} (hk : k ≤ 384) (hg : Lt12 g) (hd : D12 g = z ^ (e / 2 ^ k)) (hb : e / 2 ^ k = 0) : InvPw z e ⟨k, b, g⟩ := ⟨hk, hg, hd, fun _ => hb⟩
abbrev m12 (x y : Nat → Nat → Nat) : Nat → Nat → Nat := sel12 (S12.mul (D12 x) (D12 y))
theorem okPow12 : (CallC.pure cPw).Ok Try.prog 25 := by
  intro args pre v e hp
  unfold cPw at e
  split at e
  · rename_i a0 a1 a2 a3 a4 a5 a6 a7 a8 a9 a10 a11 e
    cases e
    rename_i e
    have h0 : nv a0 < pN := hp _ (by simp)
    have h1 : nv a1 < pN := hp _ (by simp)
    have h2 : nv a2 < pN := hp _ (by simp)
    have h3 : nv a3 < pN := hp _ (by simp)
    have h4 : nv a4 < pN := hp _ (by simp)
    have h5 : nv a5 < pN := hp _ (by simp)
    have h6 : nv a6 < pN := hp _ (by simp)
    have h7 : nv a7 < pN := hp _ (by simp)
    have h8 : nv a8 < pN := hp _ (by simp)
    have h9 : nv a9 < pN := hp _ (by simp)
    have h10 : nv a10 < pN := hp _ (by simp)
    have h11 : nv a11 < pN := hp _ (by simp)
    refine pure_walk' tt_ok Try.func25 (by kernel_rfl) (by kernel_rfl) (by rfl) (by rfl) ?_
    obtain ⟨a, ha⟩ : ∃ a, a = of12 a0 a1 a2 a3 a4 a5 a6 a7 a8 a9 a10 a11 := ⟨_, rfl⟩
    have la : Lt12 a := by rw [ha]; exact lt_of12 h0 h1 h2 h3 h4 h5 h6 h7 h8 h9 h10 h11
    have da : d12 a0 a1 a2 a3 a4 a5 a6 a7 a8 a9 a10 a11 = D12 a := by rw [ha]; rfl
    have cv : (AV.v1 (.agg [.ws .u64 6 a0, .ws .u64 6 a1, .ws .u64 6 a2, .ws .u64 6 a3, .ws .u64 6 a4, .ws .u64 6 a5, .ws .u64 6 a6, .ws .u64 6 a7, .ws .u64 6 a8, .ws .u64 6 a9, .ws .u64 6 a10, .ws .u64 6 a11])) = .v1 (.agg (cs12 a)) := by rw [ha]; rfl
    rw [da, cv]
    refine loopF mixed tt_ok GPw_ok (by kernel_rfl) (ι := {x // InvPw (D12 a) (nv e) x}) [2,3,4,5,6,7] 32 5 (fun x => VPw x.1.k x.1.b) (fun x => HPw a e x.1.g) (fun x => x.1.k) (fun x => x.1.k = 0)
      (fun _ => rfl) (fun _ => by kernel_rfl) (fun _ _ h => h.elim) 100 [] ?_ ?_ ?_
    · refine same (p := true = true ∧ ∃ j : {x // InvPw (D12 a) (nv e) x}, VPw E false = VPw j.1.k j.1.b ∧ HPw a e (of12 oneF (fun _ => 0) (fun _ => 0) (fun _ => 0) (fun _ => 0) (fun _ => 0) (fun _ => 0) (fun _ => 0) (fun _ => 0) (fun _ => 0) (fun _ => 0) (fun _ => 0)) = HPw a e j.1.g) ?_ (by kernel_rfl)
      have h0 : nv e / 2 ^ E = 0 := Nat.div_eq_of_lt (by rw [← R_pow]; exact nv_lt e)
      have hi : InvPw (D12 a) (nv e) ⟨E, false, of12 oneF (fun _ => 0) (fun _ => 0) (fun _ => 0) (fun _ => 0) (fun _ => 0) (fun _ => 0) (fun _ => 0) (fun _ => 0) (fun _ => 0) (fun _ => 0) (fun _ => 0)⟩ := InvPw.of (Nat.le_of_eq E_eq) lt_one12 (by rw [h0, Rg.pow_zero]; exact S12.one_d) h0
      exact ⟨rfl, ⟨_, hi⟩, rfl, rfl⟩
    · intro ⟨⟨k, b, g⟩, ⟨hk, hg, hd, hb⟩⟩ junk
      simp only at hk hg hd hb
      cases k with
      | zero =>
        refine roundF mixed tt_ok GPw_ok 60 [] ?_
        refine same (p := true = true ∧ ∃ j : {x // InvPw (D12 a) (nv e) x}, j.1.k = 0 ∧ VPw 0 b = VPw j.1.k j.1.b ∧ HPw a e g = HPw a e j.1.g) ?_ (by kernel_rfl)
        exact ⟨rfl, ⟨⟨0, b, g⟩, hk, hg, hd, hb⟩, rfl, rfl, rfl⟩
      | succ k =>
        have hk : k < 384 := by omega
        have h64 : k / 64 < 6 := by omega
        have hge : (!ilt (Int.ofNat k) 0) = true := by rw [ilt_not (by simp)]; rfl
        have hs : wrapI (Int.ofNat k - 1) = predI k := predI_eq (by omega)
        have hn := div_next (nv e) k
        have next : ∀ (b' : Bool) (g' : Nat → Nat → Nat), Lt12 g' → D12 g' = D12 a ^ (nv e / 2 ^ k) → (b' = false → nv e / 2 ^ k = 0) → ∃ j : {x // InvPw (D12 a) (nv e) x}, j.1.k < k + 1 ∧ VPw k b' = VPw j.1.k j.1.b ∧ HPw a e g' = HPw a e j.1.g :=
          fun b' g' l' d' z' => ⟨⟨⟨k, b', g'⟩, Nat.le_of_lt hk, l', d', z'⟩, Nat.lt_succ_self k, rfl, rfl⟩
        have sq : S12.mul (D12 g) (D12 g) = D12 a ^ (2 * (nv e / 2 ^ (k + 1))) := by rw [hd, Nat.two_mul, Rg.pow_add]; rfl
        have d2 : ∀ x : S12, S12.mul x (D12 a) = x * D12 a := fun _ => rfl
        cases hbit : Nat.beq (nv e / 2 ^ k % 2) 1
        · have h0 : nv e / 2 ^ k % 2 = 0 := by
            have : nv e / 2 ^ k % 2 ≠ 1 := fun e' => by rw [← Nat.beq_eq, hbit] at e'; cases e'
            omega
          rw [h0, Nat.add_zero] at hn
          cases b
          · refine roundF mixed tt_ok GPw_ok 100 [⟨4,1,.lit (.bo true)⟩,⟨6,1,.lit (.it (Int.ofNat (k/64)))⟩,⟨6,2,.sym⟩,⟨6,3,.sym⟩,⟨6,5,.lit (.it (Int.ofNat (k%64)))⟩,⟨9,1,.lit (.bo false)⟩,⟨5,1,.lit (.it (predI k))⟩] ?_
            refine same (p := (!ilt (Int.ofNat k) 0) = true ∧ wrapI ((Int.ofNat k).tdiv 64) = Int.ofNat (k / 64) ∧ ix (k / 64) 6 ((Int.ofNat k).tmod 64 = Int.ofNat (k % 64) ∧ 
              Nat.beq ((e (k / 64) % W / 2 ^ min (k % 64) 64 &&& 1) % W) (1 % W) = false ∧ wrapI (Int.ofNat k - 1) = predI k ∧ true = true ∧
              ∃ j : {x // InvPw (D12 a) (nv e) x}, j.1.k < k + 1 ∧ VPw k false = VPw j.1.k j.1.b ∧ HPw a e g = HPw a e j.1.g)) ?_ (by kernel_rfl)
            refine ⟨hge, tdiv64 ⟨k, hk⟩, ix_of h64 ⟨tmod64 ⟨k, hk⟩, by rw [bit_beq e hk, hbit], hs, rfl, next _ _ hg ?_ ?_⟩⟩
            · rw [hd, hn, hb rfl, Nat.mul_zero]
            · intro _; rw [hn, hb rfl]
          · refine roundF mixed tt_ok GPw_ok 100 [⟨4,1,.lit (.bo true)⟩,⟨6,1,.lit (.it (Int.ofNat (k/64)))⟩,⟨6,2,.sym⟩,⟨6,3,.sym⟩,⟨6,5,.lit (.it (Int.ofNat (k%64)))⟩,⟨9,1,.lit (.bo false)⟩,⟨5,1,.lit (.it (predI k))⟩] ?_
            refine same (p := (!ilt (Int.ofNat k) 0) = true ∧ wrapI ((Int.ofNat k).tdiv 64) = Int.ofNat (k / 64) ∧ ix (k / 64) 6 ((Int.ofNat k).tmod 64 = Int.ofNat (k % 64) ∧ nv (g 0) < pN ∧ nv (g 1) < pN ∧ nv (g 2) < pN ∧ nv (g 3) < pN ∧ nv (g 4) < pN ∧ nv (g 5) < pN ∧ nv (g 6) < pN ∧ nv (g 7) < pN ∧ nv (g 8) < pN ∧ nv (g 9) < pN ∧ nv (g 10) < pN ∧ nv (g 11) < pN ∧ nv (g 0) < pN ∧ nv (g 1) < pN ∧ nv (g 2) < pN ∧ nv (g 3) < pN ∧ nv (g 4) < pN ∧ nv (g 5) < pN ∧ nv (g 6) < pN ∧ nv (g 7) < pN ∧ nv (g 8) < pN ∧ nv (g 9) < pN ∧ nv (g 10) < pN ∧ nv (g 11) < pN ∧ 
              Nat.beq ((e (k / 64) % W / 2 ^ min (k % 64) 64 &&& 1) % W) (1 % W) = false ∧ wrapI (Int.ofNat k - 1) = predI k ∧ true = true ∧
              ∃ j : {x // InvPw (D12 a) (nv e) x}, j.1.k < k + 1 ∧ VPw k true = VPw j.1.k j.1.b ∧ HPw a e (m12 g g) = HPw a e j.1.g)) ?_ (by kernel_rfl)
            refine ⟨hge, tdiv64 ⟨k, hk⟩, ix_of h64 ⟨tmod64 ⟨k, hk⟩, hg 0 (by decide), hg 1 (by decide), hg 2 (by decide), hg 3 (by decide), hg 4 (by decide), hg 5 (by decide), hg 6 (by decide), hg 7 (by decide), hg 8 (by decide), hg 9 (by decide), hg 10 (by decide), hg 11 (by decide), hg 0 (by decide), hg 1 (by decide), hg 2 (by decide), hg 3 (by decide), hg 4 (by decide), hg 5 (by decide), hg 6 (by decide), hg 7 (by decide), hg 8 (by decide), hg 9 (by decide), hg 10 (by decide), hg 11 (by decide), by rw [bit_beq e hk, hbit], hs, rfl, next _ _ (lt_sel _) ?_ ?_⟩⟩
            · rw [D12_sel, sq, hn]
            · intro h; cases h
        · have h0 : nv e / 2 ^ k % 2 = 1 := by rw [Nat.beq_eq] at hbit; exact hbit
          rw [h0] at hn
          cases b
          · refine roundF mixed tt_ok GPw_ok 100 [⟨4,1,.lit (.bo true)⟩,⟨6,1,.lit (.it (Int.ofNat (k/64)))⟩,⟨6,2,.sym⟩,⟨6,3,.sym⟩,⟨6,5,.lit (.it (Int.ofNat (k%64)))⟩,⟨9,1,.lit (.bo true)⟩,⟨5,1,.lit (.it (predI k))⟩] ?_
            refine same (p := (!ilt (Int.ofNat k) 0) = true ∧ wrapI ((Int.ofNat k).tdiv 64) = Int.ofNat (k / 64) ∧ ix (k / 64) 6 ((Int.ofNat k).tmod 64 = Int.ofNat (k % 64) ∧ 
              Nat.beq ((e (k / 64) % W / 2 ^ min (k % 64) 64 &&& 1) % W) (1 % W) = true ∧ nv (g 0) < pN ∧ nv (g 1) < pN ∧ nv (g 2) < pN ∧ nv (g 3) < pN ∧ nv (g 4) < pN ∧ nv (g 5) < pN ∧ nv (g 6) < pN ∧ nv (g 7) < pN ∧ nv (g 8) < pN ∧ nv (g 9) < pN ∧ nv (g 10) < pN ∧ nv (g 11) < pN ∧ nv (a 0) < pN ∧ nv (a 1) < pN ∧ nv (a 2) < pN ∧ nv (a 3) < pN ∧ nv (a 4) < pN ∧ nv (a 5) < pN ∧ nv (a 6) < pN ∧ nv (a 7) < pN ∧ nv (a 8) < pN ∧ nv (a 9) < pN ∧ nv (a 10) < pN ∧ nv (a 11) < pN ∧ wrapI (Int.ofNat k - 1) = predI k ∧ true = true ∧
              ∃ j : {x // InvPw (D12 a) (nv e) x}, j.1.k < k + 1 ∧ VPw k true = VPw j.1.k j.1.b ∧ HPw a e (m12 g a) = HPw a e j.1.g)) ?_ (by kernel_rfl)
            refine ⟨hge, tdiv64 ⟨k, hk⟩, ix_of h64 ⟨tmod64 ⟨k, hk⟩, by rw [bit_beq e hk, hbit], hg 0 (by decide), hg 1 (by decide), hg 2 (by decide), hg 3 (by decide), hg 4 (by decide), hg 5 (by decide), hg 6 (by decide), hg 7 (by decide), hg 8 (by decide), hg 9 (by decide), hg 10 (by decide), hg 11 (by decide), la 0 (by decide), la 1 (by decide), la 2 (by decide), la 3 (by decide), la 4 (by decide), la 5 (by decide), la 6 (by decide), la 7 (by decide), la 8 (by decide), la 9 (by decide), la 10 (by decide), la 11 (by decide), hs, rfl, next _ _ (lt_sel _) ?_ ?_⟩⟩
            · rw [D12_sel, d2, hd, hn, hb rfl, Nat.mul_zero, Nat.zero_add, Rg.pow_zero, Rg.pow_one, Rg.one_mul]
            · intro h; cases h
          · refine roundF mixed tt_ok GPw_ok 100 [⟨4,1,.lit (.bo true)⟩,⟨6,1,.lit (.it (Int.ofNat (k/64)))⟩,⟨6,2,.sym⟩,⟨6,3,.sym⟩,⟨6,5,.lit (.it (Int.ofNat (k%64)))⟩,⟨9,1,.lit (.bo true)⟩,⟨5,1,.lit (.it (predI k))⟩] ?_
            refine same (p := (!ilt (Int.ofNat k) 0) = true ∧ wrapI ((Int.ofNat k).tdiv 64) = Int.ofNat (k / 64) ∧ ix (k / 64) 6 ((Int.ofNat k).tmod 64 = Int.ofNat (k % 64) ∧ nv (g 0) < pN ∧ nv (g 1) < pN ∧ nv (g 2) < pN ∧ nv (g 3) < pN ∧ nv (g 4) < pN ∧ nv (g 5) < pN ∧ nv (g 6) < pN ∧ nv (g 7) < pN ∧ nv (g 8) < pN ∧ nv (g 9) < pN ∧ nv (g 10) < pN ∧ nv (g 11) < pN ∧ nv (g 0) < pN ∧ nv (g 1) < pN ∧ nv (g 2) < pN ∧ nv (g 3) < pN ∧ nv (g 4) < pN ∧ nv (g 5) < pN ∧ nv (g 6) < pN ∧ nv (g 7) < pN ∧ nv (g 8) < pN ∧ nv (g 9) < pN ∧ nv (g 10) < pN ∧ nv (g 11) < pN ∧ 
              Nat.beq ((e (k / 64) % W / 2 ^ min (k % 64) 64 &&& 1) % W) (1 % W) = true ∧ nv ((m12 g g) 0) < pN ∧ nv ((m12 g g) 1) < pN ∧ nv ((m12 g g) 2) < pN ∧ nv ((m12 g g) 3) < pN ∧ nv ((m12 g g) 4) < pN ∧ nv ((m12 g g) 5) < pN ∧ nv ((m12 g g) 6) < pN ∧ nv ((m12 g g) 7) < pN ∧ nv ((m12 g g) 8) < pN ∧ nv ((m12 g g) 9) < pN ∧ nv ((m12 g g) 10) < pN ∧ nv ((m12 g g) 11) < pN ∧ nv (a 0) < pN ∧ nv (a 1) < pN ∧ nv (a 2) < pN ∧ nv (a 3) < pN ∧ nv (a 4) < pN ∧ nv (a 5) < pN ∧ nv (a 6) < pN ∧ nv (a 7) < pN ∧ nv (a 8) < pN ∧ nv (a 9) < pN ∧ nv (a 10) < pN ∧ nv (a 11) < pN ∧ wrapI (Int.ofNat k - 1) = predI k ∧ true = true ∧
              ∃ j : {x // InvPw (D12 a) (nv e) x}, j.1.k < k + 1 ∧ VPw k true = VPw j.1.k j.1.b ∧ HPw a e (m12 (m12 g g) a) = HPw a e j.1.g)) ?_ (by kernel_rfl)
            refine ⟨hge, tdiv64 ⟨k, hk⟩, ix_of h64 ⟨tmod64 ⟨k, hk⟩, hg 0 (by decide), hg 1 (by decide), hg 2 (by decide), hg 3 (by decide), hg 4 (by decide), hg 5 (by decide), hg 6 (by decide), hg 7 (by decide), hg 8 (by decide), hg 9 (by decide), hg 10 (by decide), hg 11 (by decide), hg 0 (by decide), hg 1 (by decide), hg 2 (by decide), hg 3 (by decide), hg 4 (by decide), hg 5 (by decide), hg 6 (by decide), hg 7 (by decide), hg 8 (by decide), hg 9 (by decide), hg 10 (by decide), hg 11 (by decide), by rw [bit_beq e hk, hbit], lt_sel _ 0 (by decide), lt_sel _ 1 (by decide), lt_sel _ 2 (by decide), lt_sel _ 3 (by decide), lt_sel _ 4 (by decide), lt_sel _ 5 (by decide), lt_sel _ 6 (by decide), lt_sel _ 7 (by decide), lt_sel _ 8 (by decide), lt_sel _ 9 (by decide), lt_sel _ 10 (by decide), lt_sel _ 11 (by decide), la 0 (by decide), la 1 (by decide), la 2 (by decide), la 3 (by decide), la 4 (by decide), la 5 (by decide), la 6 (by decide), la 7 (by decide), la 8 (by decide), la 9 (by decide), la 10 (by decide), la 11 (by decide), hs, rfl, next _ _ (lt_sel _) ?_ ?_⟩⟩
            · rw [D12_sel, D12_sel, d2, sq, hn]; exact (Rg.pow_succ _ _).symm
            · intro h; cases h
    · intro ⟨⟨k, b, g⟩, ⟨hk, hg, hd, hb⟩⟩ junk h0
      simp only at hk hg hd h0
      subst h0
      refine same (p := endN (.v1 (.agg (cs12 g))) (.v1 (e12 (D12 a ^ nv e)))) ?_ (by kernel_rfl)
      rw [Nat.pow_zero, Nat.div_one] at hd
      exact endN_12 hg hd
  · cases e
end Go.Proofs.Ytnjocbcjejpklaa

/- What the tower tells of numbers of twelve parts. Printed by gent17.py. -/
namespace Go.Proofs.Ytnjocbcjejpklaa
open Go.Rq Go
set_option maxRecDepth 100000
set_option linter.unusedVariables false
set_option linter.unusedSimpArgs false

theorem dG12 (a0 a1 a2 a3 a4 a5 a6 a7 a8 a9 a10 a11 : Nat → Nat) : d12 (eF (gN a0)) (eF (gN a1)) (eF (gN a2)) (eF (gN a3)) (eF (gN a4)) (eF (gN a5)) (eF (gN a6)) (eF (gN a7)) (eF (gN a8)) (eF (gN a9)) (eF (gN a10)) (eF (gN a11)) = g12 a0 a1 a2 a3 a4 a5 a6 a7 a8 a9 a10 a11 := by simp only [d12, d6, dF_eF]
theorem endV {s t : S12} {c : V1} (h : t = s) (e : c = v12 (vF (dF (eF t.p.u.x))) (vF (dF (eF t.p.u.y))) (vF (dF (eF t.q.u.x))) (vF (dF (eF t.q.u.y))) (vF (dF (eF t.p.v.x))) (vF (dF (eF t.p.v.y))) (vF (dF (eF t.q.v.x))) (vF (dF (eF t.q.v.y))) (vF (dF (eF t.p.w.x))) (vF (dF (eF t.p.w.y))) (vF (dF (eF t.q.w.x))) (vF (dF (eF t.q.w.y)))) : endN (.v1 c) (.v1 (n12 s)) := by
  subst h; subst e
  exact ⟨_, rfl, v12_val (nvV (dF_eF _)) (nvV (dF_eF _)) (nvV (dF_eF _)) (nvV (dF_eF _)) (nvV (dF_eF _)) (nvV (dF_eF _)) (nvV (dF_eF _)) (nvV (dF_eF _)) (nvV (dF_eF _)) (nvV (dF_eF _)) (nvV (dF_eF _)) (nvV (dF_eF _))⟩
def t121 (F : S12 → S12) : List AV → Option (List Prop × AV)
  | [.v1 (.agg [.ws .u64 6 a0, .ws .u64 6 a1, .ws .u64 6 a2, .ws .u64 6 a3, .ws .u64 6 a4, .ws .u64 6 a5, .ws .u64 6 a6, .ws .u64 6 a7, .ws .u64 6 a8, .ws .u64 6 a9, .ws .u64 6 a10, .ws .u64 6 a11])] => some ([], .v1 (n12 (F (g12 a0 a1 a2 a3 a4 a5 a6 a7 a8 a9 a10 a11))))
  | _ => none
theorem t121_ok {F : S12 → S12} {f : FuncId} {fn : Func} (hf : Try.prog.funcs[f]? = some fn) (hb : fn.body = some (bodyOf fn)) (hn : (fn.name == "runtime.NumGoroutine") = false)
    (h : ∀ a0 a1 a2 a3 a4 a5 a6 a7 a8 a9 a10 a11 : Nat → Nat, AWqS Try.prog (fun _ => False) (flatC (bodyOf fn)) (FEnd' tt fn (.v1 (n12 (F (g12 a0 a1 a2 a3 a4 a5 a6 a7 a8 a9 a10 a11))))) ⟨frame0 [.v1 (v12 a0 a1 a2 a3 a4 a5 a6 a7 a8 a9 a10 a11)] fn.ntmps, []⟩) : (CallC.pure (t121 F)).Ok Try.prog f := by
  intro args pre v e hp
  unfold t121 at e
  split at e
  · rename_i a0 a1 a2 a3 a4 a5 a6 a7 a8 a9 a10 a11
    cases e
    exact pure_walk' tt_ok hf hb hn (by rfl) (by rfl) (h a0 a1 a2 a3 a4 a5 a6 a7 a8 a9 a10 a11)
  · cases e
theorem t122_ok {F : S12 → S12 → S12} {f : FuncId} {fn : Func} (hf : Try.prog.funcs[f]? = some fn) (hb : fn.body = some (bodyOf fn)) (hn : (fn.name == "runtime.NumGoroutine") = false)
    (h : ∀ a0 a1 a2 a3 a4 a5 a6 a7 a8 a9 a10 a11 b0 b1 b2 b3 b4 b5 b6 b7 b8 b9 b10 b11 : Nat → Nat, AWqS Try.prog (fun _ => False) (flatC (bodyOf fn)) (FEnd' tt fn (.v1 (n12 (F (g12 a0 a1 a2 a3 a4 a5 a6 a7 a8 a9 a10 a11) (g12 b0 b1 b2 b3 b4 b5 b6 b7 b8 b9 b10 b11))))) ⟨frame0 [.v1 (v12 a0 a1 a2 a3 a4 a5 a6 a7 a8 a9 a10 a11), .v1 (v12 b0 b1 b2 b3 b4 b5 b6 b7 b8 b9 b10 b11)] fn.ntmps, []⟩) : (CallC.pure (t122 F)).Ok Try.prog f := by
  intro args pre v e hp
  unfold t122 at e
  split at e
  · rename_i a0 a1 a2 a3 a4 a5 a6 a7 a8 a9 a10 a11 b0 b1 b2 b3 b4 b5 b6 b7 b8 b9 b10 b11
    cases e
    exact pure_walk' tt_ok hf hb hn (by rfl) (by rfl) (h a0 a1 a2 a3 a4 a5 a6 a7 a8 a9 a10 a11 b0 b1 b2 b3 b4 b5 b6 b7 b8 b9 b10 b11)
  · cases e

/-! One -/
theorem nv_vF1 : nv (wd (1 % W)) = nv (vF 1) := by rw [nv_vF]; exact nv_one
def GTo1 : Ctx := ctxL [(15, .pure cOf)]
theorem GTo1_ok : CtxOk Try.prog GTo1 := ctxL_cons okOf ctxL_nil
theorem okTOne : (CallC.pure (c12 (n12 1))).Ok Try.prog 8 := by
  intro args pre v e _
  unfold c12 at e
  split at e
  · cases e
    refine pure_walk' tt_ok Try.func8 (by kernel_rfl) (by kernel_rfl) (by rfl) (by rfl) ?_
    refine evS_q mixed tt_ok GTo1_ok 60 [] ?_
    refine same (p := endN (.v1 (v12 (wd (1 % W)) (fun _ => 0) (fun _ => 0) (fun _ => 0) (fun _ => 0) (fun _ => 0) (fun _ => 0) (fun _ => 0) (fun _ => 0) (fun _ => 0) (fun _ => 0) (fun _ => 0))) (.v1 (n12 1))) ?_ (by kernel_rfl)
    exact ⟨_, rfl, v12_val nv_vF1 zero_vF zero_vF zero_vF zero_vF zero_vF zero_vF zero_vF zero_vF zero_vF zero_vF zero_vF⟩
  · cases e

/-! each, Add, Sub -/
def S12.add' (a b : S12) : S12 := ⟨⟨a.p.u + b.p.u, a.p.v + b.p.v, a.p.w + b.p.w⟩, ⟨a.q.u + b.q.u, a.q.v + b.q.v, a.q.w + b.q.w⟩⟩
def S12.sub' (a b : S12) : S12 := ⟨⟨a.p.u - b.p.u, a.p.v - b.p.v, a.p.w - b.p.w⟩, ⟨a.q.u - b.q.u, a.q.v - b.q.v, a.q.w - b.q.w⟩⟩
theorem S12.add_eq (a b : S12) : S12.add' a b = a + b := rfl
theorem S12.sub_eq (a b : S12) : S12.sub' a b = a - b := rfl
def cEach (args : List AV) : Option (List Prop × AV) :=
  match args with
  | [.v1 (.agg [.ws .u64 6 a0, .ws .u64 6 a1, .ws .u64 6 a2, .ws .u64 6 a3, .ws .u64 6 a4, .ws .u64 6 a5, .ws .u64 6 a6, .ws .u64 6 a7, .ws .u64 6 a8, .ws .u64 6 a9, .ws .u64 6 a10, .ws .u64 6 a11]), .v1 (.agg [.ws .u64 6 b0, .ws .u64 6 b1, .ws .u64 6 b2, .ws .u64 6 b3, .ws .u64 6 b4, .ws .u64 6 b5, .ws .u64 6 b6, .ws .u64 6 b7, .ws .u64 6 b8, .ws .u64 6 b9, .ws .u64 6 b10, .ws .u64 6 b11]), .v1 (.sc (.fn f []))] => match Nat.beq f 54 with
    | true => some ([], .v1 (n12 (S12.add' (g12 a0 a1 a2 a3 a4 a5 a6 a7 a8 a9 a10 a11) (g12 b0 b1 b2 b3 b4 b5 b6 b7 b8 b9 b10 b11))))
    | false => match Nat.beq f 53 with
      | true => some ([], .v1 (n12 (S12.sub' (g12 a0 a1 a2 a3 a4 a5 a6 a7 a8 a9 a10 a11) (g12 b0 b1 b2 b3 b4 b5 b6 b7 b8 b9 b10 b11))))
      | false => none
  | _ => none
def GEa : Ctx := ctxL [(11, .pure cTo12), (12, .pure cFrom12), (54, .pure (q2 add2x add2y)), (53, .pure (q2 sub2x sub2y))]
theorem GEa_ok : CtxOk Try.prog GEa := ctxL_cons okTo12 <| ctxL_cons okFrom12 <| ctxL_cons okAdd2 <| ctxL_cons okSub2 ctxL_nil
def GAs : Ctx := ctxL []
theorem GAs_ok : CtxOk Try.prog GAs := ctxL_nil
def GUCj : Ctx := ctxL [(11, .pure cTo12), (12, .pure cFrom12), (22, .pure (k121 S12.conj))]
theorem GUCj_ok : CtxOk Try.prog GUCj := ctxL_cons okTo12 <| ctxL_cons okFrom12 <| ctxL_cons okConj12 ctxL_nil
/-! Pow, Frob -/
def cTPow (args : List AV) : Option (List Prop × AV) :=
  match args with
  | [.v1 (.agg [.ws .u64 6 a0, .ws .u64 6 a1, .ws .u64 6 a2, .ws .u64 6 a3, .ws .u64 6 a4, .ws .u64 6 a5, .ws .u64 6 a6, .ws .u64 6 a7, .ws .u64 6 a8, .ws .u64 6 a9, .ws .u64 6 a10, .ws .u64 6 a11]), .v1 (.agg [.ws .u64 6 e])] => some ([], .v1 (n12 (g12 a0 a1 a2 a3 a4 a5 a6 a7 a8 a9 a10 a11 ^ nv e)))
  | _ => none
def GTp : Ctx := ctxL [(11, .pure cTo12), (12, .pure cFrom12), (25, .pure cPw)]
theorem GTp_ok : CtxOk Try.prog GTp := ctxL_cons okTo12 <| ctxL_cons okFrom12 <| ctxL_cons okPow12 ctxL_nil
theorem tmod_low (n : Int) : -12 < n.tmod 12 := by
  cases n with
  | ofNat k =>
    have h : (Int.ofNat k).tmod 12 = Int.ofNat (k % 12) := rfl
    rw [h]; simp only [Int.ofNat_eq_natCast]; omega
  | negSucc k =>
    have h : (Int.negSucc k).tmod 12 = -(((k + 1) % 12 : Nat) : Int) := rfl
    rw [h]; omega
def mq (n : Int) : Nat := ((n.tmod 12 + 12).tmod 12).toNat
theorem mq_lt (n : Int) : mq n < 12 := by
  unfold mq
  have h1 := Int.tmod_lt_of_pos n (show (0 : Int) < 12 by omega)
  have h2 := tmod_low n
  rw [Int.tmod_eq_emod_of_nonneg (by omega)]
  omega
theorem mq_eq (n : Int) : (wrapI (n.tmod 12 + 12)).tmod 12 = Int.ofNat (mq n) := by
  have h1 := Int.tmod_lt_of_pos n (show (0 : Int) < 12 by omega)
  have h2 := tmod_low n
  obtain ⟨k, hk⟩ : ∃ k : Nat, n.tmod 12 + 12 = Int.ofNat k := ⟨(n.tmod 12 + 12).toNat, by simp only [Int.ofNat_eq_natCast]; omega⟩
  unfold mq
  rw [hk]
  have hk' : k < 24 := by simp only [Int.ofNat_eq_natCast] at hk; omega
  rw [wrapI_small (by omega)]
  rw [Int.tmod_eq_emod_of_nonneg (by simp)]
  simp only [Int.ofNat_eq_natCast]
  omega
def cTFrob (args : List AV) : Option (List Prop × AV) :=
  match args with
  | [.v1 (.agg [.ws .u64 6 a0, .ws .u64 6 a1, .ws .u64 6 a2, .ws .u64 6 a3, .ws .u64 6 a4, .ws .u64 6 a5, .ws .u64 6 a6, .ws .u64 6 a7, .ws .u64 6 a8, .ws .u64 6 a9, .ws .u64 6 a10, .ws .u64 6 a11]), .v1 (.sc (.it n))] => some ([], .v1 (n12 (S12.turns (mq n) (g12 a0 a1 a2 a3 a4 a5 a6 a7 a8 a9 a10 a11))))
  | _ => none
def GTf12 : Ctx := ctxL [(11, .pure cTo12), (12, .pure cFrom12), (24, .pure cFr)]
theorem GTf12_ok : CtxOk Try.prog GTf12 := ctxL_cons okTo12 <| ctxL_cons okFrom12 <| ctxL_cons okFrob ctxL_nil
/-! Inv -/
def z12 (s : S12) : Bool := Nat.beq s.p.u.x.val 0 && (Nat.beq s.p.u.y.val 0 && (Nat.beq s.q.u.x.val 0 && (Nat.beq s.q.u.y.val 0 && (Nat.beq s.p.v.x.val 0 && (Nat.beq s.p.v.y.val 0 && (Nat.beq s.q.v.x.val 0 && (Nat.beq s.q.v.y.val 0 && (Nat.beq s.p.w.x.val 0 && (Nat.beq s.p.w.y.val 0 && (Nat.beq s.q.w.x.val 0 && (Nat.beq s.q.w.y.val 0)))))))))))
theorem z12_iff (s : S12) : z12 s = true ↔ s = 0 := by
  unfold z12
  simp only [Bool.and_eq_true, Nat.beq_eq]
  constructor
  · intro ⟨h0, h1, h2, h3, h4, h5, h6, h7, h8, h9, h10, h11⟩
    exact S12.ext (S6.ext (F2p.ext (Fin.ext h0) (Fin.ext h1)) (F2p.ext (Fin.ext h4) (Fin.ext h5)) (F2p.ext (Fin.ext h8) (Fin.ext h9))) (S6.ext (F2p.ext (Fin.ext h2) (Fin.ext h3)) (F2p.ext (Fin.ext h6) (Fin.ext h7)) (F2p.ext (Fin.ext h10) (Fin.ext h11)))
  · intro h
    subst h
    exact ⟨rfl, rfl, rfl, rfl, rfl, rfl, rfl, rfl, rfl, rfl, rfl, rfl⟩
def S12.invz (s : S12) : S12 := bif z12 s then 0 else S12.inv s
def invE (s : S12) : Int := bif z12 s then 6 else 0
def cTInv (args : List AV) : Option (List Prop × AV) :=
  match args with
  | [.v1 (.agg [.ws .u64 6 a0, .ws .u64 6 a1, .ws .u64 6 a2, .ws .u64 6 a3, .ws .u64 6 a4, .ws .u64 6 a5, .ws .u64 6 a6, .ws .u64 6 a7, .ws .u64 6 a8, .ws .u64 6 a9, .ws .u64 6 a10, .ws .u64 6 a11])] => some ([], .tup [n12 (S12.invz (g12 a0 a1 a2 a3 a4 a5 a6 a7 a8 a9 a10 a11)), .sc (.it (invE (g12 a0 a1 a2 a3 a4 a5 a6 a7 a8 a9 a10 a11)))])
  | _ => none
theorem eqz (x : Fp) : eqN W 6 (eF x) (fun _ => 0) = Nat.beq x.val 0 := by
  have h := eqW_beq (eF x) (fun _ => 0)
  rw [Bool.and_true, zero_nv, nv_eF, enc_ne] at h
  exact h
theorem endPI {s t : S12} {c : V1} {i j : Int} (h : t = s) (e : c = v12 (vF (dF (eF t.p.u.x))) (vF (dF (eF t.p.u.y))) (vF (dF (eF t.q.u.x))) (vF (dF (eF t.q.u.y))) (vF (dF (eF t.p.v.x))) (vF (dF (eF t.p.v.y))) (vF (dF (eF t.q.v.x))) (vF (dF (eF t.q.v.y))) (vF (dF (eF t.p.w.x))) (vF (dF (eF t.p.w.y))) (vF (dF (eF t.q.w.x))) (vF (dF (eF t.q.w.y)))) (k : i = j) : endN (.tup [c, .sc (.it i)]) (.tup [n12 s, .sc (.it j)]) := by
  subst h; subst e; subst k
  refine ⟨_, rfl, fun ρ => ?_⟩
  have := v12_val (nvV (dF_eF t.p.u.x)) (nvV (dF_eF t.p.u.y)) (nvV (dF_eF t.q.u.x)) (nvV (dF_eF t.q.u.y)) (nvV (dF_eF t.p.v.x)) (nvV (dF_eF t.p.v.y)) (nvV (dF_eF t.q.v.x)) (nvV (dF_eF t.q.v.y)) (nvV (dF_eF t.p.w.x)) (nvV (dF_eF t.p.w.y)) (nvV (dF_eF t.q.w.x)) (nvV (dF_eF t.q.w.y)) ρ
  simp only [AV.val, List.map_cons, List.map_nil, this]
def GTi12 : Ctx := ctxL [(11, .pure cTo12), (12, .pure cFrom12), (23, .pure (k121 S12.inv))]
theorem GTi12_ok : CtxOk Try.prog GTi12 := ctxL_cons okTo12 <| ctxL_cons okFrom12 <| ctxL_cons okInv12 ctxL_nil
/-! Whole -/
def whL : List (Nat → Nat) → Bool
  | [] => true
  | a :: r => Nat.blt (nv a) pN && whL r
def cTWhole (args : List AV) : Option (List Prop × AV) :=
  match args with
  | [.v1 (.agg [.ws .u64 6 a0, .ws .u64 6 a1, .ws .u64 6 a2, .ws .u64 6 a3, .ws .u64 6 a4, .ws .u64 6 a5, .ws .u64 6 a6, .ws .u64 6 a7, .ws .u64 6 a8, .ws .u64 6 a9, .ws .u64 6 a10, .ws .u64 6 a11])] => some ([], .v1 (.sc (.bo (whL [a0, a1, a2, a3, a4, a5, a6, a7, a8, a9, a10, a11]))))
  | _ => none
theorem cmp_ge (x y : Nat) : (!ilt (cmpI x y) 0) = !Nat.blt x y := by rw [cmp_lt']
theorem blt_ff {x : Nat → Nat} (h : nv x < pN) : (!ilt (cmpI (nv x) (nv primeF)) 0) = false := by
  rw [cmp_ge, nv_prime, Bool.not_eq_false', Nat.blt_eq]; exact h
theorem blt_tt {x : Nat → Nat} (h : ¬ nv x < pN) : (!ilt (cmpI (nv x) (nv primeF)) 0) = true := by
  rw [cmp_ge, nv_prime, Bool.not_eq_true', ← Bool.not_eq_true, Nat.blt_eq]; exact h
theorem whL_t {a : Nat → Nat} {r : List (Nat → Nat)} (h : nv a < pN) : whL (a :: r) = whL r := by
  show (Nat.blt (nv a) pN && whL r) = whL r
  have hb : Nat.blt (nv a) pN = true := by rw [Nat.blt_eq]; exact h
  rw [hb, Bool.true_and]
theorem whL_f {a : Nat → Nat} {r : List (Nat → Nat)} (h : ¬ nv a < pN) : whL (a :: r) = false := by
  show (Nat.blt (nv a) pN && whL r) = false
  rw [← Nat.blt_eq, Bool.not_eq_true] at h
  rw [h, Bool.false_and]
def GTw : Ctx := ctxL [(79, .pure (cK primeF)), (78, .pure cCmp)]
theorem GTw_ok : CtxOk Try.prog GTw := ctxL_cons okBase <| ctxL_cons okCmp ctxL_nil
end Go.Proofs.Ytnjocbcjejpklaa

/- The tower's contracts, in terms of numbers of two and of twelve parts; awake. Printed by gent18.py. -/
namespace Go.Proofs.Ytnjocbcjejpklaa
open Go.Rq Go
set_option maxRecDepth 100000
set_option linter.unusedVariables false
set_option linter.unusedSimpArgs false

abbrev g2 (a b : Nat → Nat) : F2p := ⟨gN a, gN b⟩
abbrev n2 (s : F2p) : V1 := .agg [.ws .u64 6 (vF s.x), .ws .u64 6 (vF s.y)]
abbrev G2 (s : F2p) : F2p := g2 (vF s.x) (vF s.y)
theorem G2_eq (s : F2p) : G2 s = s := F2p.ext (gN_vF _) (gN_vF _)
abbrev G12 (s : S12) : S12 := g12 (vF s.p.u.x) (vF s.p.u.y) (vF s.q.u.x) (vF s.q.u.y) (vF s.p.v.x) (vF s.p.v.y) (vF s.q.v.x) (vF s.q.v.y) (vF s.p.w.x) (vF s.p.w.y) (vF s.q.w.x) (vF s.q.w.y)
theorem G12_eq (s : S12) : G12 s = s := by simp only [G12, g12, gN_vF]
def u1 (F : F2p → F2p) : List AV → Option (List Prop × AV)
  | [.v1 (.agg [.ws .u64 6 a, .ws .u64 6 b])] => some ([], .v1 (n2 (F (g2 a b))))
  | _ => none
def u2 (F : F2p → F2p → F2p) : List AV → Option (List Prop × AV)
  | [.v1 (.agg [.ws .u64 6 a, .ws .u64 6 b]), .v1 (.agg [.ws .u64 6 c, .ws .u64 6 d])] => some ([], .v1 (n2 (F (g2 a b) (g2 c d))))
  | _ => none
def F2p.ng (a : F2p) : F2p := ⟨0 - a.x, 0 - a.y⟩
def F2p.invz (a : F2p) : F2p := ⟨iX a.x a.y, iY a.x a.y⟩
def F2p.invE (a : F2p) : Int := iE a.x a.y
def F2p.rt (a : F2p) : F2p := ⟨rvX a.x a.y, rvY a.x a.y⟩
def F2p.rtE (a : F2p) : Int := rvE a.x a.y
def uI : List AV → Option (List Prop × AV)
  | [.v1 (.agg [.ws .u64 6 a, .ws .u64 6 b])] => some ([], .tup [n2 (F2p.invz (g2 a b)), .sc (.it (F2p.invE (g2 a b)))])
  | _ => none
def uR : List AV → Option (List Prop × AV)
  | [.v1 (.agg [.ws .u64 6 a, .ws .u64 6 b])] => some ([], .tup [n2 (F2p.rt (g2 a b)), .sc (.it (F2p.rtE (g2 a b)))])
  | _ => none
/-! comparisons -/
def qL : List (Nat → Nat) → List (Nat → Nat) → Bool
  | a :: r, b :: s => eqN W 6 a b && qL r s
  | _, _ => true
abbrev nL (s : S12) : List (Nat → Nat) := [vF s.p.u.x, vF s.p.u.y, vF s.q.u.x, vF s.q.u.y, vF s.p.v.x, vF s.p.v.y, vF s.q.v.x, vF s.q.v.y, vF s.p.w.x, vF s.p.w.y, vF s.q.w.x, vF s.q.w.y]
abbrev nL2 (s : F2p) : List (Nat → Nat) := [vF s.x, vF s.y]
theorem eqN_nv {f g : Nat → Nat} (h : nv f = nv g) : eqN W 6 f g = true := by
  have := eqW_beq f g
  rw [Bool.and_true] at this
  rw [this, Nat.beq_eq]; exact h
theorem eqN_vF (x y : Fp) : eqN W 6 (vF x) (vF y) = true ↔ x = y := by
  have := eqW_beq (vF x) (vF y)
  rw [Bool.and_true] at this
  rw [this, Nat.beq_eq, nv_vF, nv_vF]
  exact ⟨fun h => Fin.ext h, fun h => by rw [h]⟩
theorem eqN_vFz (x : Fp) : eqN W 6 (vF x) (fun _ => 0) = Nat.beq x.val 0 := by
  have := eqW_beq (vF x) (fun _ => 0)
  rw [Bool.and_true] at this
  rw [this, nv_vF, zero_nv]
theorem qn_of {s t : S12} (h : s = t) : qL (nL s) (nL t) = true := by
  subst h
  simp only [qL, (eqN_vF _ _).2 rfl, Bool.and_true]
theorem qn_not {s t : S12} (h : s = t) : (!qL (nL s) (nL t)) = false := by rw [qn_of h]; rfl
theorem q2_of {s t : F2p} (h : s = t) : qL (nL2 s) (nL2 t) = true := by
  subst h
  simp only [qL, (eqN_vF _ _).2 rfl, Bool.and_true]
theorem q2_not {s t : F2p} (h : s = t) : (!qL (nL2 s) (nL2 t)) = false := by rw [q2_of h]; rfl
theorem q2_iff {s t : F2p} : qL (nL2 s) (nL2 t) = true ↔ s = t := by
  constructor
  · intro h
    simp only [qL, Bool.and_true, Bool.and_eq_true, eqN_vF] at h
    exact F2p.ext h.1 h.2
  · exact q2_of
abbrev zL2 : List (Nat → Nat) := [(fun _ => 0), (fun _ => 0)]
abbrev zL12 : List (Nat → Nat) := [(fun _ => 0), (fun _ => 0), (fun _ => 0), (fun _ => 0), (fun _ => 0), (fun _ => 0), (fun _ => 0), (fun _ => 0), (fun _ => 0), (fun _ => 0), (fun _ => 0), (fun _ => 0)]
theorem q2_z (s : F2p) : qL (nL2 s) zL2 = z2 s.x s.y := by
  simp only [qL, Bool.and_true, eqN_vFz]; rfl
theorem qn_z (s : S12) : qL (nL s) zL12 = z12 s := by
  simp only [qL, Bool.and_true, eqN_vFz]; rfl
theorem qL_nv2 {a b c d : Nat → Nat} (h : nv a = nv c) (k : nv b = nv d) : qL [a, b] [c, d] = true := by
  simp only [qL, eqN_nv h, eqN_nv k, Bool.and_true]

theorem cr_rd {α : Type} [CR α] (x y z : α) : (x + y) * z = x * z + y * z := by grind
theorem cr_sa {α : Type} [CR α] (x y : α) : x - y + y = x := by grind
theorem wrap_in {z : Int} (h1 : -9223372036854775808 ≤ z) (h2 : z < 9223372036854775808) : wrapI z = z := by
  rw [wrapI_eq, wrap_i64]; omega

/-! small numbers -/
def cSmall : List AV → Option (List Prop × AV)
  | [.v1 (.sc (.w .u64 a)), .v1 (.sc (.w .u64 b))] => some ([], f2 (wd (a % W)) (wd (b % W)))
  | _ => none
def GSl : Ctx := ctxL [(15, .pure cOf)]
theorem GSl_ok : CtxOk Try.prog GSl := ctxL_cons okOf ctxL_nil
abbrev wL : V1 := v12 (fun _ => 0) (fun _ => 0) (wd (1 % W)) (wd (0 % W)) (fun _ => 0) (fun _ => 0) (fun _ => 0) (fun _ => 0) (fun _ => 0) (fun _ => 0) (fun _ => 0) (fun _ => 0)
def GWl : Ctx := ctxL []
theorem GWl_ok : CtxOk Try.prog GWl := ctxL_nil
/-! awake -/
theorem ePow_eq (x : Fp) : ∀ n, ePow x n = x ^ n
  | 0 => (Rg.pow_zero x).symm
  | n + 1 => by rw [Rg.pow_succ, ← ePow_eq x n]; rfl
theorem nv_sm (k : Nat) (h : k < W) : nv (wd (k % W)) = k := by
  rw [nv_wd, Nat.mod_eq_of_lt h]
  exact Nat.mod_eq_of_lt (Nat.lt_trans h (by decide))
theorem gN_sm (k : Nat) (h : k < W) : gN (wd (k % W)) = ofN k := by unfold gN; rw [nv_sm k h]
def cAwake3 : List AV → Option (List Prop × AV)
  | [] => some ([], .v1 (.sc (.bo true)))
  | _ => none
def GA3 : Ctx := ctxL [(15, .pure cOf)]
theorem GA3_ok : CtxOk Try.prog GA3 := ctxL_cons okOf ctxL_nil
abbrev endT : Prop := ∃ v', some (AV.v1 (.sc (.bo true))) = some v' ∧ ∀ ρ, v'.val ρ = (AV.v1 (.sc (.bo true))).val ρ
theorem endT_ok : endT := ⟨_, rfl, fun _ => rfl⟩
theorem gN_z : gN (fun _ => 0) = 0 := by unfold gN; rw [zero_nv]; rfl
theorem rtC_four : rtC (ofN 4) = ofN (pN - 2) := by
  unfold rtC
  rw [ePow_eq, ← pwN_eq 4 E _ (by rw [← R_pow]; decide)]
  exact congrArg ofN (by kernel_rfl)
theorem rt_of {a b : Fp} {r : R3} (h : r2 a b = r) : F2p.rt ⟨a, b⟩ = ⟨r.x, r.y⟩ ∧ F2p.rtE ⟨a, b⟩ = r.e := by
  subst h
  exact ⟨rfl, rfl⟩
theorem rt_four : F2p.rt ⟨ofN 4, ofN 0⟩ = ⟨ofN 2, ofN 0⟩ ∧ F2p.rtE ⟨ofN 4, ofN 0⟩ = 0 := by
  have h1 : rtOk (ofN 4) = true := by
    rw [rtOk_iff, rtC_four]
    exact Fin.ext (by kernel_rfl)
  have hz : Nat.beq (ofN 0).val 0 = true := by kernel_rfl
  have h2 : r2 (ofN 4) (ofN 0) = r2l (ofN (pN - 2)) 0 := by
    unfold r2
    rw [hz, cond_true, h1, cond_true, rtC_four]
  have h3 := rt_of h2
  rw [h3.1, h3.2, r2l_x, r2l_y, r2l_e]
  exact ⟨F2p.ext (Fin.ext (by kernel_rfl)) (Fin.ext (by kernel_rfl)), rfl⟩
theorem w1_six : S12.w1 ^ 6 = S12.c kx := by
  rw [Rg.pow_succ, Rg.pow_succ, Rg.pow_succ, Rg.pow_succ, Rg.pow_two, S12.w_2, Rg.mul_comm S12.w2, S12.w_3, Rg.mul_comm S12.w3, S12.w_4, Rg.mul_comm S12.w4, S12.w_5, Rg.mul_comm S12.w5, S12.w_6]
theorem nv_v (k : Nat) (h : k < W) : nv (vF (ofN k)) = nv (wd (k % W)) := by
  rw [nv_sm k h, nv_vF, ofN_val, Nat.mod_eq_of_lt (Nat.lt_trans h (by decide))]
end Go.Proofs.Ytnjocbcjejpklaa

/- Elements of two and of twelve parts that are handed in, opened. -/
namespace Go.Proofs.Ytnjocbcjejpklaa
open Go.Rq Go
set_option maxRecDepth 100000

theorem flat22 : FlatTy Try.prog 22 [.i .u64] := .int Try.underlying22
theorem flat24 : FlatTy Try.prog 24 (List.replicate 6 (.i .u64)) := .arr Try.underlying24 flat22 (by kernel_rfl) (by kernel_rfl)
theorem flat26 : FlatTy Try.prog 26 (List.replicate 6 (.i .u64) ++ (List.replicate 6 (.i .u64) ++ [])) := .arr Try.underlying26 flat24 (by kernel_rfl) (by kernel_rfl)
theorem flat39 : FlatTy Try.prog 28 (List.replicate 6 (.i .u64) ++ (List.replicate 6 (.i .u64) ++ (List.replicate 6 (.i .u64) ++ (List.replicate 6 (.i .u64) ++ (List.replicate 6 (.i .u64) ++ (List.replicate 6 (.i .u64) ++
    (List.replicate 6 (.i .u64) ++ (List.replicate 6 (.i .u64) ++ (List.replicate 6 (.i .u64) ++ (List.replicate 6 (.i .u64) ++ (List.replicate 6 (.i .u64) ++ (List.replicate 6 (.i .u64) ++ [])))))))))))) :=
  .arr Try.underlying28 flat26 (by kernel_rfl) (by kernel_rfl)
theorem agg_of {P : Program} {Wd : World} {b0 : Nat} {t e : TypeId} {n : Nat} {v : Value} (hu : P.underlying t = some (.array n e)) (hv : Value.okWide P Wd .any b0 t v) : ∃ cs, v = .agg cs := by
  have := hv
  simp [Value.okWide, hu] at this
  obtain ⟨cs, h1, _⟩ := this
  exact ⟨cs, h1⟩
theorem e2_open {H : Type} {enc : TypeId × Value → H} {Wd : World} {base b0 : Nat} {sp : Nat → Bool} {hd : Bool} {v : Value} {d : DataW H} {p : List MemPlace}
    (h : DataW.Trod enc Try.prog Wd base sp hd 26 v d p) (hv : Value.okWide Try.prog Wd .any b0 26 v) :
    ∃ a b : Nat → Nat, v = (AV.v1 (.agg [.ws .u64 6 a, .ws .u64 6 b])).val (fun _ => 0) ∧ p = [] ∧ ∀ (W' : World) (b : Nat) (sp : Nat → Bool) (hd : Bool), DataW.Trod enc Try.prog W' b sp hd 26 v d [] := by
  obtain ⟨cs, rfl⟩ := agg_of Try.underlying26 hv
  obtain ⟨hc, hp, ht⟩ := flat26.trod h
  obtain ⟨a, r1, e1, hc⟩ := CsOk.u64 hc
  obtain ⟨b, r2, e2, hc⟩ := CsOk.u64 hc
  have e3 := CsOk.nil hc
  refine ⟨a, b, ?_, hp, ht⟩
  subst e3 e2
  have : cs = ((Cell.ws .u64 6 a).vals (fun _ => 0) ++ ((Cell.ws .u64 6 b).vals (fun _ => 0) ++ [])).toArray := by
    apply Array.ext'
    simp only [Value.cells] at e1
    rw [e1]
  rw [this]
  rfl
theorem e12_open {H : Type} {enc : TypeId × Value → H} {Wd : World} {base b0 : Nat} {sp : Nat → Bool} {hd : Bool} {v : Value} {d : DataW H} {p : List MemPlace}
    (h : DataW.Trod enc Try.prog Wd base sp hd 28 v d p) (hv : Value.okWide Try.prog Wd .any b0 28 v) :
    ∃ a0 a1 a2 a3 a4 a5 a6 a7 a8 a9 a10 a11 : Nat → Nat, v = (AV.v1 (v12 a0 a1 a2 a3 a4 a5 a6 a7 a8 a9 a10 a11)).val (fun _ => 0) ∧ p = [] ∧ ∀ (W' : World) (b : Nat) (sp : Nat → Bool) (hd : Bool), DataW.Trod enc Try.prog W' b sp hd 28 v d [] := by
  obtain ⟨cs, rfl⟩ := agg_of Try.underlying28 hv
  obtain ⟨hc, hp, ht⟩ := flat39.trod h
  obtain ⟨a0, r0, e0, hc⟩ := CsOk.u64 hc
  obtain ⟨a1, r1, e1, hc⟩ := CsOk.u64 hc
  obtain ⟨a2, r2, e2, hc⟩ := CsOk.u64 hc
  obtain ⟨a3, r3, e3, hc⟩ := CsOk.u64 hc
  obtain ⟨a4, r4, e4, hc⟩ := CsOk.u64 hc
  obtain ⟨a5, r5, e5, hc⟩ := CsOk.u64 hc
  obtain ⟨a6, r6, e6, hc⟩ := CsOk.u64 hc
  obtain ⟨a7, r7, e7, hc⟩ := CsOk.u64 hc
  obtain ⟨a8, r8, e8, hc⟩ := CsOk.u64 hc
  obtain ⟨a9, r9, e9, hc⟩ := CsOk.u64 hc
  obtain ⟨a10, r10, e10, hc⟩ := CsOk.u64 hc
  obtain ⟨a11, r11, e11, hc⟩ := CsOk.u64 hc
  have e12 := CsOk.nil hc
  refine ⟨a0, a1, a2, a3, a4, a5, a6, a7, a8, a9, a10, a11, ?_, hp, ht⟩
  subst e12 e11 e10 e9 e8 e7 e6 e5 e4 e3 e2 e1
  have hcs : cs = (cvals (fun _ => 0) [.ws .u64 6 a0, .ws .u64 6 a1, .ws .u64 6 a2, .ws .u64 6 a3, .ws .u64 6 a4, .ws .u64 6 a5, .ws .u64 6 a6, .ws .u64 6 a7, .ws .u64 6 a8, .ws .u64 6 a9, .ws .u64 6 a10, .ws .u64 6 a11]).toArray := by
    apply Array.ext'
    simp only [Value.cells] at e0
    rw [e0]
    rfl
  rw [hcs]
  rfl
end Go.Proofs.Ytnjocbcjejpklaa
