/- reliquarylaw10.CipherBack answers true at every input, and leaves it as it was. Conditions: none. -/
import Derived.Test.YtndmoidenbfflaaRows
import Derived.Test.YtndmoidenbfflaaZE
import Derived.Test.YtndmoidenbfflaaWY
import Derived.ProofKit
import Derived.Carry
import Derived.ChangeMaps5
namespace Go.Proofs.Ytndmoidenbfflaa
open Go.Rq Go Go.ChangeShapes Go.WideShapes Go.ChangeAt Go.RowKit Go.ChangeMaps
set_option linter.unusedVariables false
set_option linter.unusedSimpArgs false
set_option maxRecDepth 100000
set_option maxHeartbeats 4000000
theorem early1_nnnn {x : Int} {w1 w2 w3 w4 : Option Addr} (h : 0 ≠ 32) : AWqS Try.prog (Dm []) (flatC (bodyOf Try.f6)) (fun e s => FEndM tt Try.f6 (upto 0 ([] : Heap).length) (.v1 (.sc (.bo true))) [] e s) ⟨frame0 [emS w1, emS w2, emS w3, emS w4, iv x] Try.f6.ntmps, []⟩ :=
  evS_q mixed tt_ok (gCb_ok 0) 300 [⟨2,2,.lit (.bo true)⟩] (same (p := (!ieq (Int.ofNat 0) (Int.ofNat 32)) = true ∧ endM [] [] [] (.v1 (.sc (.bo true))) (.v1 (.sc (.bo true)))) ⟨nieq_t h, endM_same rfl rfl⟩ (by kernel_rfl))
theorem early1_nnnw {t4 o4 c4 K : Nat} {x : Int} {q : Nat → Nat} {v4 : WrapV} {w1 w2 w3 : Option Addr} (h : 0 ≠ 32) : AWqS Try.prog (Dm [wB t4 o4 K q v4]) (flatC (bodyOf Try.f6)) (fun e s => FEndM tt Try.f6 (upto 0 ([wB t4 o4 K q v4] : Heap).length) (.v1 (.sc (.bo true))) [wB t4 o4 K q v4] e s) ⟨frame0 [emS w1, emS w2, emS w3, .v1 (.sc (.sl 0 o4 K c4)), iv x] Try.f6.ntmps, [wB t4 o4 K q v4]⟩ :=
  evS_q mixed tt_ok (gCb_ok 0) 300 [⟨2,2,.lit (.bo true)⟩] (same (p := (!ieq (Int.ofNat 0) (Int.ofNat 32)) = true ∧ endM [0] [wB t4 o4 K q v4] [wB t4 o4 K q v4] (.v1 (.sc (.bo true))) (.v1 (.sc (.bo true)))) ⟨nieq_t h, endM_same rfl rfl⟩ (by kernel_rfl))
theorem early1_nnwn {t3 o3 c3 N : Nat} {x : Int} {b : Nat → Nat} {v3 : WrapV} {w1 w2 w4 : Option Addr} (h : 0 ≠ 32) : AWqS Try.prog (Dm [wB t3 o3 N b v3]) (flatC (bodyOf Try.f6)) (fun e s => FEndM tt Try.f6 (upto 0 ([wB t3 o3 N b v3] : Heap).length) (.v1 (.sc (.bo true))) [wB t3 o3 N b v3] e s) ⟨frame0 [emS w1, emS w2, .v1 (.sc (.sl 0 o3 N c3)), emS w4, iv x] Try.f6.ntmps, [wB t3 o3 N b v3]⟩ :=
  evS_q mixed tt_ok (gCb_ok 0) 300 [⟨2,2,.lit (.bo true)⟩] (same (p := (!ieq (Int.ofNat 0) (Int.ofNat 32)) = true ∧ endM [0] [wB t3 o3 N b v3] [wB t3 o3 N b v3] (.v1 (.sc (.bo true))) (.v1 (.sc (.bo true)))) ⟨nieq_t h, endM_same rfl rfl⟩ (by kernel_rfl))
theorem early1_nnww {t3 o3 c3 t4 o4 c4 N K : Nat} {x : Int} {b q : Nat → Nat} {v3 v4 : WrapV} {w1 w2 : Option Addr} (h : 0 ≠ 32) : AWqS Try.prog (Dm [wB t3 o3 N b v3, wB t4 o4 K q v4]) (flatC (bodyOf Try.f6)) (fun e s => FEndM tt Try.f6 (upto 0 ([wB t3 o3 N b v3, wB t4 o4 K q v4] : Heap).length) (.v1 (.sc (.bo true))) [wB t3 o3 N b v3, wB t4 o4 K q v4] e s) ⟨frame0 [emS w1, emS w2, .v1 (.sc (.sl 0 o3 N c3)), .v1 (.sc (.sl 1 o4 K c4)), iv x] Try.f6.ntmps, [wB t3 o3 N b v3, wB t4 o4 K q v4]⟩ :=
  evS_q mixed tt_ok (gCb_ok 0) 300 [⟨2,2,.lit (.bo true)⟩] (same (p := (!ieq (Int.ofNat 0) (Int.ofNat 32)) = true ∧ endM [0, 1] [wB t3 o3 N b v3, wB t4 o4 K q v4] [wB t3 o3 N b v3, wB t4 o4 K q v4] (.v1 (.sc (.bo true))) (.v1 (.sc (.bo true)))) ⟨nieq_t h, endM_same rfl rfl⟩ (by kernel_rfl))
theorem early1_nwnn {t2 o2 c2 n2 : Nat} {x : Int} {g : Nat → Nat} {v2 : WrapV} {w1 w3 w4 : Option Addr} (h : 0 ≠ 32) : AWqS Try.prog (Dm [wB t2 o2 n2 g v2]) (flatC (bodyOf Try.f6)) (fun e s => FEndM tt Try.f6 (upto 0 ([wB t2 o2 n2 g v2] : Heap).length) (.v1 (.sc (.bo true))) [wB t2 o2 n2 g v2] e s) ⟨frame0 [emS w1, .v1 (.sc (.sl 0 o2 n2 c2)), emS w3, emS w4, iv x] Try.f6.ntmps, [wB t2 o2 n2 g v2]⟩ :=
  evS_q mixed tt_ok (gCb_ok 0) 300 [⟨2,2,.lit (.bo true)⟩] (same (p := (!ieq (Int.ofNat 0) (Int.ofNat 32)) = true ∧ endM [0] [wB t2 o2 n2 g v2] [wB t2 o2 n2 g v2] (.v1 (.sc (.bo true))) (.v1 (.sc (.bo true)))) ⟨nieq_t h, endM_same rfl rfl⟩ (by kernel_rfl))
theorem early1_nwnw {t2 o2 c2 t4 o4 c4 n2 K : Nat} {x : Int} {g q : Nat → Nat} {v2 v4 : WrapV} {w1 w3 : Option Addr} (h : 0 ≠ 32) : AWqS Try.prog (Dm [wB t2 o2 n2 g v2, wB t4 o4 K q v4]) (flatC (bodyOf Try.f6)) (fun e s => FEndM tt Try.f6 (upto 0 ([wB t2 o2 n2 g v2, wB t4 o4 K q v4] : Heap).length) (.v1 (.sc (.bo true))) [wB t2 o2 n2 g v2, wB t4 o4 K q v4] e s) ⟨frame0 [emS w1, .v1 (.sc (.sl 0 o2 n2 c2)), emS w3, .v1 (.sc (.sl 1 o4 K c4)), iv x] Try.f6.ntmps, [wB t2 o2 n2 g v2, wB t4 o4 K q v4]⟩ :=
  evS_q mixed tt_ok (gCb_ok 0) 300 [⟨2,2,.lit (.bo true)⟩] (same (p := (!ieq (Int.ofNat 0) (Int.ofNat 32)) = true ∧ endM [0, 1] [wB t2 o2 n2 g v2, wB t4 o4 K q v4] [wB t2 o2 n2 g v2, wB t4 o4 K q v4] (.v1 (.sc (.bo true))) (.v1 (.sc (.bo true)))) ⟨nieq_t h, endM_same rfl rfl⟩ (by kernel_rfl))
theorem early1_nwwn {t2 o2 c2 t3 o3 c3 n2 N : Nat} {x : Int} {g b : Nat → Nat} {v2 v3 : WrapV} {w1 w4 : Option Addr} (h : 0 ≠ 32) : AWqS Try.prog (Dm [wB t2 o2 n2 g v2, wB t3 o3 N b v3]) (flatC (bodyOf Try.f6)) (fun e s => FEndM tt Try.f6 (upto 0 ([wB t2 o2 n2 g v2, wB t3 o3 N b v3] : Heap).length) (.v1 (.sc (.bo true))) [wB t2 o2 n2 g v2, wB t3 o3 N b v3] e s) ⟨frame0 [emS w1, .v1 (.sc (.sl 0 o2 n2 c2)), .v1 (.sc (.sl 1 o3 N c3)), emS w4, iv x] Try.f6.ntmps, [wB t2 o2 n2 g v2, wB t3 o3 N b v3]⟩ :=
  evS_q mixed tt_ok (gCb_ok 0) 300 [⟨2,2,.lit (.bo true)⟩] (same (p := (!ieq (Int.ofNat 0) (Int.ofNat 32)) = true ∧ endM [0, 1] [wB t2 o2 n2 g v2, wB t3 o3 N b v3] [wB t2 o2 n2 g v2, wB t3 o3 N b v3] (.v1 (.sc (.bo true))) (.v1 (.sc (.bo true)))) ⟨nieq_t h, endM_same rfl rfl⟩ (by kernel_rfl))
theorem early1_nwww {t2 o2 c2 t3 o3 c3 t4 o4 c4 n2 N K : Nat} {x : Int} {g b q : Nat → Nat} {v2 v3 v4 : WrapV} {w1 : Option Addr} (h : 0 ≠ 32) : AWqS Try.prog (Dm [wB t2 o2 n2 g v2, wB t3 o3 N b v3, wB t4 o4 K q v4]) (flatC (bodyOf Try.f6)) (fun e s => FEndM tt Try.f6 (upto 0 ([wB t2 o2 n2 g v2, wB t3 o3 N b v3, wB t4 o4 K q v4] : Heap).length) (.v1 (.sc (.bo true))) [wB t2 o2 n2 g v2, wB t3 o3 N b v3, wB t4 o4 K q v4] e s) ⟨frame0 [emS w1, .v1 (.sc (.sl 0 o2 n2 c2)), .v1 (.sc (.sl 1 o3 N c3)), .v1 (.sc (.sl 2 o4 K c4)), iv x] Try.f6.ntmps, [wB t2 o2 n2 g v2, wB t3 o3 N b v3, wB t4 o4 K q v4]⟩ :=
  evS_q mixed tt_ok (gCb_ok 0) 300 [⟨2,2,.lit (.bo true)⟩] (same (p := (!ieq (Int.ofNat 0) (Int.ofNat 32)) = true ∧ endM [0, 1, 2] [wB t2 o2 n2 g v2, wB t3 o3 N b v3, wB t4 o4 K q v4] [wB t2 o2 n2 g v2, wB t3 o3 N b v3, wB t4 o4 K q v4] (.v1 (.sc (.bo true))) (.v1 (.sc (.bo true)))) ⟨nieq_t h, endM_same rfl rfl⟩ (by kernel_rfl))
theorem early1_wnnn {t1 o1 c1 n1 : Nat} {x : Int} {f : Nat → Nat} {v1 : WrapV} {w2 w3 w4 : Option Addr} (h : n1 ≠ 32) : AWqS Try.prog (Dm [wB t1 o1 n1 f v1]) (flatC (bodyOf Try.f6)) (fun e s => FEndM tt Try.f6 (upto 0 ([wB t1 o1 n1 f v1] : Heap).length) (.v1 (.sc (.bo true))) [wB t1 o1 n1 f v1] e s) ⟨frame0 [.v1 (.sc (.sl 0 o1 n1 c1)), emS w2, emS w3, emS w4, iv x] Try.f6.ntmps, [wB t1 o1 n1 f v1]⟩ :=
  evS_q mixed tt_ok (gCb_ok 0) 300 [⟨2,2,.lit (.bo true)⟩] (same (p := (!ieq (Int.ofNat n1) (Int.ofNat 32)) = true ∧ endM [0] [wB t1 o1 n1 f v1] [wB t1 o1 n1 f v1] (.v1 (.sc (.bo true))) (.v1 (.sc (.bo true)))) ⟨nieq_t h, endM_same rfl rfl⟩ (by kernel_rfl))
theorem early1_wnnw {t1 o1 c1 t4 o4 c4 n1 K : Nat} {x : Int} {f q : Nat → Nat} {v1 v4 : WrapV} {w2 w3 : Option Addr} (h : n1 ≠ 32) : AWqS Try.prog (Dm [wB t1 o1 n1 f v1, wB t4 o4 K q v4]) (flatC (bodyOf Try.f6)) (fun e s => FEndM tt Try.f6 (upto 0 ([wB t1 o1 n1 f v1, wB t4 o4 K q v4] : Heap).length) (.v1 (.sc (.bo true))) [wB t1 o1 n1 f v1, wB t4 o4 K q v4] e s) ⟨frame0 [.v1 (.sc (.sl 0 o1 n1 c1)), emS w2, emS w3, .v1 (.sc (.sl 1 o4 K c4)), iv x] Try.f6.ntmps, [wB t1 o1 n1 f v1, wB t4 o4 K q v4]⟩ :=
  evS_q mixed tt_ok (gCb_ok 0) 300 [⟨2,2,.lit (.bo true)⟩] (same (p := (!ieq (Int.ofNat n1) (Int.ofNat 32)) = true ∧ endM [0, 1] [wB t1 o1 n1 f v1, wB t4 o4 K q v4] [wB t1 o1 n1 f v1, wB t4 o4 K q v4] (.v1 (.sc (.bo true))) (.v1 (.sc (.bo true)))) ⟨nieq_t h, endM_same rfl rfl⟩ (by kernel_rfl))
theorem early1_wnwn {t1 o1 c1 t3 o3 c3 n1 N : Nat} {x : Int} {f b : Nat → Nat} {v1 v3 : WrapV} {w2 w4 : Option Addr} (h : n1 ≠ 32) : AWqS Try.prog (Dm [wB t1 o1 n1 f v1, wB t3 o3 N b v3]) (flatC (bodyOf Try.f6)) (fun e s => FEndM tt Try.f6 (upto 0 ([wB t1 o1 n1 f v1, wB t3 o3 N b v3] : Heap).length) (.v1 (.sc (.bo true))) [wB t1 o1 n1 f v1, wB t3 o3 N b v3] e s) ⟨frame0 [.v1 (.sc (.sl 0 o1 n1 c1)), emS w2, .v1 (.sc (.sl 1 o3 N c3)), emS w4, iv x] Try.f6.ntmps, [wB t1 o1 n1 f v1, wB t3 o3 N b v3]⟩ :=
  evS_q mixed tt_ok (gCb_ok 0) 300 [⟨2,2,.lit (.bo true)⟩] (same (p := (!ieq (Int.ofNat n1) (Int.ofNat 32)) = true ∧ endM [0, 1] [wB t1 o1 n1 f v1, wB t3 o3 N b v3] [wB t1 o1 n1 f v1, wB t3 o3 N b v3] (.v1 (.sc (.bo true))) (.v1 (.sc (.bo true)))) ⟨nieq_t h, endM_same rfl rfl⟩ (by kernel_rfl))
theorem early1_wnww {t1 o1 c1 t3 o3 c3 t4 o4 c4 n1 N K : Nat} {x : Int} {f b q : Nat → Nat} {v1 v3 v4 : WrapV} {w2 : Option Addr} (h : n1 ≠ 32) : AWqS Try.prog (Dm [wB t1 o1 n1 f v1, wB t3 o3 N b v3, wB t4 o4 K q v4]) (flatC (bodyOf Try.f6)) (fun e s => FEndM tt Try.f6 (upto 0 ([wB t1 o1 n1 f v1, wB t3 o3 N b v3, wB t4 o4 K q v4] : Heap).length) (.v1 (.sc (.bo true))) [wB t1 o1 n1 f v1, wB t3 o3 N b v3, wB t4 o4 K q v4] e s) ⟨frame0 [.v1 (.sc (.sl 0 o1 n1 c1)), emS w2, .v1 (.sc (.sl 1 o3 N c3)), .v1 (.sc (.sl 2 o4 K c4)), iv x] Try.f6.ntmps, [wB t1 o1 n1 f v1, wB t3 o3 N b v3, wB t4 o4 K q v4]⟩ :=
  evS_q mixed tt_ok (gCb_ok 0) 300 [⟨2,2,.lit (.bo true)⟩] (same (p := (!ieq (Int.ofNat n1) (Int.ofNat 32)) = true ∧ endM [0, 1, 2] [wB t1 o1 n1 f v1, wB t3 o3 N b v3, wB t4 o4 K q v4] [wB t1 o1 n1 f v1, wB t3 o3 N b v3, wB t4 o4 K q v4] (.v1 (.sc (.bo true))) (.v1 (.sc (.bo true)))) ⟨nieq_t h, endM_same rfl rfl⟩ (by kernel_rfl))
theorem early1_wwnn {t1 o1 c1 t2 o2 c2 n1 n2 : Nat} {x : Int} {f g : Nat → Nat} {v1 v2 : WrapV} {w3 w4 : Option Addr} (h : n1 ≠ 32) : AWqS Try.prog (Dm [wB t1 o1 n1 f v1, wB t2 o2 n2 g v2]) (flatC (bodyOf Try.f6)) (fun e s => FEndM tt Try.f6 (upto 0 ([wB t1 o1 n1 f v1, wB t2 o2 n2 g v2] : Heap).length) (.v1 (.sc (.bo true))) [wB t1 o1 n1 f v1, wB t2 o2 n2 g v2] e s) ⟨frame0 [.v1 (.sc (.sl 0 o1 n1 c1)), .v1 (.sc (.sl 1 o2 n2 c2)), emS w3, emS w4, iv x] Try.f6.ntmps, [wB t1 o1 n1 f v1, wB t2 o2 n2 g v2]⟩ :=
  evS_q mixed tt_ok (gCb_ok 0) 300 [⟨2,2,.lit (.bo true)⟩] (same (p := (!ieq (Int.ofNat n1) (Int.ofNat 32)) = true ∧ endM [0, 1] [wB t1 o1 n1 f v1, wB t2 o2 n2 g v2] [wB t1 o1 n1 f v1, wB t2 o2 n2 g v2] (.v1 (.sc (.bo true))) (.v1 (.sc (.bo true)))) ⟨nieq_t h, endM_same rfl rfl⟩ (by kernel_rfl))
theorem early1_wwnw {t1 o1 c1 t2 o2 c2 t4 o4 c4 n1 n2 K : Nat} {x : Int} {f g q : Nat → Nat} {v1 v2 v4 : WrapV} {w3 : Option Addr} (h : n1 ≠ 32) : AWqS Try.prog (Dm [wB t1 o1 n1 f v1, wB t2 o2 n2 g v2, wB t4 o4 K q v4]) (flatC (bodyOf Try.f6)) (fun e s => FEndM tt Try.f6 (upto 0 ([wB t1 o1 n1 f v1, wB t2 o2 n2 g v2, wB t4 o4 K q v4] : Heap).length) (.v1 (.sc (.bo true))) [wB t1 o1 n1 f v1, wB t2 o2 n2 g v2, wB t4 o4 K q v4] e s) ⟨frame0 [.v1 (.sc (.sl 0 o1 n1 c1)), .v1 (.sc (.sl 1 o2 n2 c2)), emS w3, .v1 (.sc (.sl 2 o4 K c4)), iv x] Try.f6.ntmps, [wB t1 o1 n1 f v1, wB t2 o2 n2 g v2, wB t4 o4 K q v4]⟩ :=
  evS_q mixed tt_ok (gCb_ok 0) 300 [⟨2,2,.lit (.bo true)⟩] (same (p := (!ieq (Int.ofNat n1) (Int.ofNat 32)) = true ∧ endM [0, 1, 2] [wB t1 o1 n1 f v1, wB t2 o2 n2 g v2, wB t4 o4 K q v4] [wB t1 o1 n1 f v1, wB t2 o2 n2 g v2, wB t4 o4 K q v4] (.v1 (.sc (.bo true))) (.v1 (.sc (.bo true)))) ⟨nieq_t h, endM_same rfl rfl⟩ (by kernel_rfl))
theorem early1_wwwn {t1 o1 c1 t2 o2 c2 t3 o3 c3 n1 n2 N : Nat} {x : Int} {f g b : Nat → Nat} {v1 v2 v3 : WrapV} {w4 : Option Addr} (h : n1 ≠ 32) : AWqS Try.prog (Dm [wB t1 o1 n1 f v1, wB t2 o2 n2 g v2, wB t3 o3 N b v3]) (flatC (bodyOf Try.f6)) (fun e s => FEndM tt Try.f6 (upto 0 ([wB t1 o1 n1 f v1, wB t2 o2 n2 g v2, wB t3 o3 N b v3] : Heap).length) (.v1 (.sc (.bo true))) [wB t1 o1 n1 f v1, wB t2 o2 n2 g v2, wB t3 o3 N b v3] e s) ⟨frame0 [.v1 (.sc (.sl 0 o1 n1 c1)), .v1 (.sc (.sl 1 o2 n2 c2)), .v1 (.sc (.sl 2 o3 N c3)), emS w4, iv x] Try.f6.ntmps, [wB t1 o1 n1 f v1, wB t2 o2 n2 g v2, wB t3 o3 N b v3]⟩ :=
  evS_q mixed tt_ok (gCb_ok 0) 300 [⟨2,2,.lit (.bo true)⟩] (same (p := (!ieq (Int.ofNat n1) (Int.ofNat 32)) = true ∧ endM [0, 1, 2] [wB t1 o1 n1 f v1, wB t2 o2 n2 g v2, wB t3 o3 N b v3] [wB t1 o1 n1 f v1, wB t2 o2 n2 g v2, wB t3 o3 N b v3] (.v1 (.sc (.bo true))) (.v1 (.sc (.bo true)))) ⟨nieq_t h, endM_same rfl rfl⟩ (by kernel_rfl))
theorem early1_wwww {t1 o1 c1 t2 o2 c2 t3 o3 c3 t4 o4 c4 n1 n2 N K : Nat} {x : Int} {f g b q : Nat → Nat} {v1 v2 v3 v4 : WrapV} (h : n1 ≠ 32) : AWqS Try.prog (Dm [wB t1 o1 n1 f v1, wB t2 o2 n2 g v2, wB t3 o3 N b v3, wB t4 o4 K q v4]) (flatC (bodyOf Try.f6)) (fun e s => FEndM tt Try.f6 (upto 0 ([wB t1 o1 n1 f v1, wB t2 o2 n2 g v2, wB t3 o3 N b v3, wB t4 o4 K q v4] : Heap).length) (.v1 (.sc (.bo true))) [wB t1 o1 n1 f v1, wB t2 o2 n2 g v2, wB t3 o3 N b v3, wB t4 o4 K q v4] e s) ⟨frame0 [.v1 (.sc (.sl 0 o1 n1 c1)), .v1 (.sc (.sl 1 o2 n2 c2)), .v1 (.sc (.sl 2 o3 N c3)), .v1 (.sc (.sl 3 o4 K c4)), iv x] Try.f6.ntmps, [wB t1 o1 n1 f v1, wB t2 o2 n2 g v2, wB t3 o3 N b v3, wB t4 o4 K q v4]⟩ :=
  evS_q mixed tt_ok (gCb_ok 0) 300 [⟨2,2,.lit (.bo true)⟩] (same (p := (!ieq (Int.ofNat n1) (Int.ofNat 32)) = true ∧ endM [0, 1, 2, 3] [wB t1 o1 n1 f v1, wB t2 o2 n2 g v2, wB t3 o3 N b v3, wB t4 o4 K q v4] [wB t1 o1 n1 f v1, wB t2 o2 n2 g v2, wB t3 o3 N b v3, wB t4 o4 K q v4] (.v1 (.sc (.bo true))) (.v1 (.sc (.bo true)))) ⟨nieq_t h, endM_same rfl rfl⟩ (by kernel_rfl))
theorem early2_wnnn {t1 o1 c1 : Nat} {x : Int} {f : Nat → Nat} {v1 : WrapV} {w2 w3 w4 : Option Addr} (h : 0 ≠ 12) : AWqS Try.prog (Dm [wB t1 o1 32 f v1]) (flatC (bodyOf Try.f6)) (fun e s => FEndM tt Try.f6 (upto 0 ([wB t1 o1 32 f v1] : Heap).length) (.v1 (.sc (.bo true))) [wB t1 o1 32 f v1] e s) ⟨frame0 [.v1 (.sc (.sl 0 o1 32 c1)), emS w2, emS w3, emS w4, iv x] Try.f6.ntmps, [wB t1 o1 32 f v1]⟩ :=
  evS_q mixed tt_ok (gCb_ok 0) 300 [⟨2,2,.lit (.bo false)⟩,⟨2,6,.lit (.bo true)⟩] (same (p := (!ieq (Int.ofNat 32) (Int.ofNat 32)) = false ∧ (!ieq (Int.ofNat 0) (Int.ofNat 12)) = true ∧ endM [0] [wB t1 o1 32 f v1] [wB t1 o1 32 f v1] (.v1 (.sc (.bo true))) (.v1 (.sc (.bo true)))) ⟨nieq_f rfl, nieq_t h, endM_same rfl rfl⟩ (by kernel_rfl))
theorem early2_wnnw {t1 o1 c1 t4 o4 c4 K : Nat} {x : Int} {f q : Nat → Nat} {v1 v4 : WrapV} {w2 w3 : Option Addr} (h : 0 ≠ 12) : AWqS Try.prog (Dm [wB t1 o1 32 f v1, wB t4 o4 K q v4]) (flatC (bodyOf Try.f6)) (fun e s => FEndM tt Try.f6 (upto 0 ([wB t1 o1 32 f v1, wB t4 o4 K q v4] : Heap).length) (.v1 (.sc (.bo true))) [wB t1 o1 32 f v1, wB t4 o4 K q v4] e s) ⟨frame0 [.v1 (.sc (.sl 0 o1 32 c1)), emS w2, emS w3, .v1 (.sc (.sl 1 o4 K c4)), iv x] Try.f6.ntmps, [wB t1 o1 32 f v1, wB t4 o4 K q v4]⟩ :=
  evS_q mixed tt_ok (gCb_ok 0) 300 [⟨2,2,.lit (.bo false)⟩,⟨2,6,.lit (.bo true)⟩] (same (p := (!ieq (Int.ofNat 32) (Int.ofNat 32)) = false ∧ (!ieq (Int.ofNat 0) (Int.ofNat 12)) = true ∧ endM [0, 1] [wB t1 o1 32 f v1, wB t4 o4 K q v4] [wB t1 o1 32 f v1, wB t4 o4 K q v4] (.v1 (.sc (.bo true))) (.v1 (.sc (.bo true)))) ⟨nieq_f rfl, nieq_t h, endM_same rfl rfl⟩ (by kernel_rfl))
theorem early2_wnwn {t1 o1 c1 t3 o3 c3 N : Nat} {x : Int} {f b : Nat → Nat} {v1 v3 : WrapV} {w2 w4 : Option Addr} (h : 0 ≠ 12) : AWqS Try.prog (Dm [wB t1 o1 32 f v1, wB t3 o3 N b v3]) (flatC (bodyOf Try.f6)) (fun e s => FEndM tt Try.f6 (upto 0 ([wB t1 o1 32 f v1, wB t3 o3 N b v3] : Heap).length) (.v1 (.sc (.bo true))) [wB t1 o1 32 f v1, wB t3 o3 N b v3] e s) ⟨frame0 [.v1 (.sc (.sl 0 o1 32 c1)), emS w2, .v1 (.sc (.sl 1 o3 N c3)), emS w4, iv x] Try.f6.ntmps, [wB t1 o1 32 f v1, wB t3 o3 N b v3]⟩ :=
  evS_q mixed tt_ok (gCb_ok 0) 300 [⟨2,2,.lit (.bo false)⟩,⟨2,6,.lit (.bo true)⟩] (same (p := (!ieq (Int.ofNat 32) (Int.ofNat 32)) = false ∧ (!ieq (Int.ofNat 0) (Int.ofNat 12)) = true ∧ endM [0, 1] [wB t1 o1 32 f v1, wB t3 o3 N b v3] [wB t1 o1 32 f v1, wB t3 o3 N b v3] (.v1 (.sc (.bo true))) (.v1 (.sc (.bo true)))) ⟨nieq_f rfl, nieq_t h, endM_same rfl rfl⟩ (by kernel_rfl))
theorem early2_wnww {t1 o1 c1 t3 o3 c3 t4 o4 c4 N K : Nat} {x : Int} {f b q : Nat → Nat} {v1 v3 v4 : WrapV} {w2 : Option Addr} (h : 0 ≠ 12) : AWqS Try.prog (Dm [wB t1 o1 32 f v1, wB t3 o3 N b v3, wB t4 o4 K q v4]) (flatC (bodyOf Try.f6)) (fun e s => FEndM tt Try.f6 (upto 0 ([wB t1 o1 32 f v1, wB t3 o3 N b v3, wB t4 o4 K q v4] : Heap).length) (.v1 (.sc (.bo true))) [wB t1 o1 32 f v1, wB t3 o3 N b v3, wB t4 o4 K q v4] e s) ⟨frame0 [.v1 (.sc (.sl 0 o1 32 c1)), emS w2, .v1 (.sc (.sl 1 o3 N c3)), .v1 (.sc (.sl 2 o4 K c4)), iv x] Try.f6.ntmps, [wB t1 o1 32 f v1, wB t3 o3 N b v3, wB t4 o4 K q v4]⟩ :=
  evS_q mixed tt_ok (gCb_ok 0) 300 [⟨2,2,.lit (.bo false)⟩,⟨2,6,.lit (.bo true)⟩] (same (p := (!ieq (Int.ofNat 32) (Int.ofNat 32)) = false ∧ (!ieq (Int.ofNat 0) (Int.ofNat 12)) = true ∧ endM [0, 1, 2] [wB t1 o1 32 f v1, wB t3 o3 N b v3, wB t4 o4 K q v4] [wB t1 o1 32 f v1, wB t3 o3 N b v3, wB t4 o4 K q v4] (.v1 (.sc (.bo true))) (.v1 (.sc (.bo true)))) ⟨nieq_f rfl, nieq_t h, endM_same rfl rfl⟩ (by kernel_rfl))
theorem early2_wwnn {t1 o1 c1 t2 o2 c2 n2 : Nat} {x : Int} {f g : Nat → Nat} {v1 v2 : WrapV} {w3 w4 : Option Addr} (h : n2 ≠ 12) : AWqS Try.prog (Dm [wB t1 o1 32 f v1, wB t2 o2 n2 g v2]) (flatC (bodyOf Try.f6)) (fun e s => FEndM tt Try.f6 (upto 0 ([wB t1 o1 32 f v1, wB t2 o2 n2 g v2] : Heap).length) (.v1 (.sc (.bo true))) [wB t1 o1 32 f v1, wB t2 o2 n2 g v2] e s) ⟨frame0 [.v1 (.sc (.sl 0 o1 32 c1)), .v1 (.sc (.sl 1 o2 n2 c2)), emS w3, emS w4, iv x] Try.f6.ntmps, [wB t1 o1 32 f v1, wB t2 o2 n2 g v2]⟩ :=
  evS_q mixed tt_ok (gCb_ok 0) 300 [⟨2,2,.lit (.bo false)⟩,⟨2,6,.lit (.bo true)⟩] (same (p := (!ieq (Int.ofNat 32) (Int.ofNat 32)) = false ∧ (!ieq (Int.ofNat n2) (Int.ofNat 12)) = true ∧ endM [0, 1] [wB t1 o1 32 f v1, wB t2 o2 n2 g v2] [wB t1 o1 32 f v1, wB t2 o2 n2 g v2] (.v1 (.sc (.bo true))) (.v1 (.sc (.bo true)))) ⟨nieq_f rfl, nieq_t h, endM_same rfl rfl⟩ (by kernel_rfl))
theorem early2_wwnw {t1 o1 c1 t2 o2 c2 t4 o4 c4 n2 K : Nat} {x : Int} {f g q : Nat → Nat} {v1 v2 v4 : WrapV} {w3 : Option Addr} (h : n2 ≠ 12) : AWqS Try.prog (Dm [wB t1 o1 32 f v1, wB t2 o2 n2 g v2, wB t4 o4 K q v4]) (flatC (bodyOf Try.f6)) (fun e s => FEndM tt Try.f6 (upto 0 ([wB t1 o1 32 f v1, wB t2 o2 n2 g v2, wB t4 o4 K q v4] : Heap).length) (.v1 (.sc (.bo true))) [wB t1 o1 32 f v1, wB t2 o2 n2 g v2, wB t4 o4 K q v4] e s) ⟨frame0 [.v1 (.sc (.sl 0 o1 32 c1)), .v1 (.sc (.sl 1 o2 n2 c2)), emS w3, .v1 (.sc (.sl 2 o4 K c4)), iv x] Try.f6.ntmps, [wB t1 o1 32 f v1, wB t2 o2 n2 g v2, wB t4 o4 K q v4]⟩ :=
  evS_q mixed tt_ok (gCb_ok 0) 300 [⟨2,2,.lit (.bo false)⟩,⟨2,6,.lit (.bo true)⟩] (same (p := (!ieq (Int.ofNat 32) (Int.ofNat 32)) = false ∧ (!ieq (Int.ofNat n2) (Int.ofNat 12)) = true ∧ endM [0, 1, 2] [wB t1 o1 32 f v1, wB t2 o2 n2 g v2, wB t4 o4 K q v4] [wB t1 o1 32 f v1, wB t2 o2 n2 g v2, wB t4 o4 K q v4] (.v1 (.sc (.bo true))) (.v1 (.sc (.bo true)))) ⟨nieq_f rfl, nieq_t h, endM_same rfl rfl⟩ (by kernel_rfl))
theorem early2_wwwn {t1 o1 c1 t2 o2 c2 t3 o3 c3 n2 N : Nat} {x : Int} {f g b : Nat → Nat} {v1 v2 v3 : WrapV} {w4 : Option Addr} (h : n2 ≠ 12) : AWqS Try.prog (Dm [wB t1 o1 32 f v1, wB t2 o2 n2 g v2, wB t3 o3 N b v3]) (flatC (bodyOf Try.f6)) (fun e s => FEndM tt Try.f6 (upto 0 ([wB t1 o1 32 f v1, wB t2 o2 n2 g v2, wB t3 o3 N b v3] : Heap).length) (.v1 (.sc (.bo true))) [wB t1 o1 32 f v1, wB t2 o2 n2 g v2, wB t3 o3 N b v3] e s) ⟨frame0 [.v1 (.sc (.sl 0 o1 32 c1)), .v1 (.sc (.sl 1 o2 n2 c2)), .v1 (.sc (.sl 2 o3 N c3)), emS w4, iv x] Try.f6.ntmps, [wB t1 o1 32 f v1, wB t2 o2 n2 g v2, wB t3 o3 N b v3]⟩ :=
  evS_q mixed tt_ok (gCb_ok 0) 300 [⟨2,2,.lit (.bo false)⟩,⟨2,6,.lit (.bo true)⟩] (same (p := (!ieq (Int.ofNat 32) (Int.ofNat 32)) = false ∧ (!ieq (Int.ofNat n2) (Int.ofNat 12)) = true ∧ endM [0, 1, 2] [wB t1 o1 32 f v1, wB t2 o2 n2 g v2, wB t3 o3 N b v3] [wB t1 o1 32 f v1, wB t2 o2 n2 g v2, wB t3 o3 N b v3] (.v1 (.sc (.bo true))) (.v1 (.sc (.bo true)))) ⟨nieq_f rfl, nieq_t h, endM_same rfl rfl⟩ (by kernel_rfl))
theorem early2_wwww {t1 o1 c1 t2 o2 c2 t3 o3 c3 t4 o4 c4 n2 N K : Nat} {x : Int} {f g b q : Nat → Nat} {v1 v2 v3 v4 : WrapV} (h : n2 ≠ 12) : AWqS Try.prog (Dm [wB t1 o1 32 f v1, wB t2 o2 n2 g v2, wB t3 o3 N b v3, wB t4 o4 K q v4]) (flatC (bodyOf Try.f6)) (fun e s => FEndM tt Try.f6 (upto 0 ([wB t1 o1 32 f v1, wB t2 o2 n2 g v2, wB t3 o3 N b v3, wB t4 o4 K q v4] : Heap).length) (.v1 (.sc (.bo true))) [wB t1 o1 32 f v1, wB t2 o2 n2 g v2, wB t3 o3 N b v3, wB t4 o4 K q v4] e s) ⟨frame0 [.v1 (.sc (.sl 0 o1 32 c1)), .v1 (.sc (.sl 1 o2 n2 c2)), .v1 (.sc (.sl 2 o3 N c3)), .v1 (.sc (.sl 3 o4 K c4)), iv x] Try.f6.ntmps, [wB t1 o1 32 f v1, wB t2 o2 n2 g v2, wB t3 o3 N b v3, wB t4 o4 K q v4]⟩ :=
  evS_q mixed tt_ok (gCb_ok 0) 300 [⟨2,2,.lit (.bo false)⟩,⟨2,6,.lit (.bo true)⟩] (same (p := (!ieq (Int.ofNat 32) (Int.ofNat 32)) = false ∧ (!ieq (Int.ofNat n2) (Int.ofNat 12)) = true ∧ endM [0, 1, 2, 3] [wB t1 o1 32 f v1, wB t2 o2 n2 g v2, wB t3 o3 N b v3, wB t4 o4 K q v4] [wB t1 o1 32 f v1, wB t2 o2 n2 g v2, wB t3 o3 N b v3, wB t4 o4 K q v4] (.v1 (.sc (.bo true))) (.v1 (.sc (.bo true)))) ⟨nieq_f rfl, nieq_t h, endM_same rfl rfl⟩ (by kernel_rfl))
theorem early3_wwwn {t1 o1 c1 t2 o2 c2 t3 o3 c3 N : Nat} {x : Int} {f g b : Nat → Nat} {v1 v2 v3 : WrapV} {w4 : Option Addr} (h : 2000 < N) : AWqS Try.prog (Dm [wB t1 o1 32 f v1, wB t2 o2 12 g v2, wB t3 o3 N b v3]) (flatC (bodyOf Try.f6)) (fun e s => FEndM tt Try.f6 (upto 0 ([wB t1 o1 32 f v1, wB t2 o2 12 g v2, wB t3 o3 N b v3] : Heap).length) (.v1 (.sc (.bo true))) [wB t1 o1 32 f v1, wB t2 o2 12 g v2, wB t3 o3 N b v3] e s) ⟨frame0 [.v1 (.sc (.sl 0 o1 32 c1)), .v1 (.sc (.sl 1 o2 12 c2)), .v1 (.sc (.sl 2 o3 N c3)), emS w4, iv x] Try.f6.ntmps, [wB t1 o1 32 f v1, wB t2 o2 12 g v2, wB t3 o3 N b v3]⟩ :=
  evS_q mixed tt_ok (gCb_ok 0) 300 [⟨2,2,.lit (.bo false)⟩,⟨2,6,.lit (.bo false)⟩,⟨2,11,.lit (.bo true)⟩] (same (p := (!ieq (Int.ofNat 32) (Int.ofNat 32)) = false ∧ (!ieq (Int.ofNat 12) (Int.ofNat 12)) = false ∧ ilt 2000 (Int.ofNat N) = true ∧ endM [0, 1, 2] [wB t1 o1 32 f v1, wB t2 o2 12 g v2, wB t3 o3 N b v3] [wB t1 o1 32 f v1, wB t2 o2 12 g v2, wB t3 o3 N b v3] (.v1 (.sc (.bo true))) (.v1 (.sc (.bo true)))) ⟨nieq_f rfl, nieq_f rfl, ilt_t (i := 2000) h, endM_same rfl rfl⟩ (by kernel_rfl))
theorem early3_wwww {t1 o1 c1 t2 o2 c2 t3 o3 c3 t4 o4 c4 N K : Nat} {x : Int} {f g b q : Nat → Nat} {v1 v2 v3 v4 : WrapV} (h : 2000 < N) : AWqS Try.prog (Dm [wB t1 o1 32 f v1, wB t2 o2 12 g v2, wB t3 o3 N b v3, wB t4 o4 K q v4]) (flatC (bodyOf Try.f6)) (fun e s => FEndM tt Try.f6 (upto 0 ([wB t1 o1 32 f v1, wB t2 o2 12 g v2, wB t3 o3 N b v3, wB t4 o4 K q v4] : Heap).length) (.v1 (.sc (.bo true))) [wB t1 o1 32 f v1, wB t2 o2 12 g v2, wB t3 o3 N b v3, wB t4 o4 K q v4] e s) ⟨frame0 [.v1 (.sc (.sl 0 o1 32 c1)), .v1 (.sc (.sl 1 o2 12 c2)), .v1 (.sc (.sl 2 o3 N c3)), .v1 (.sc (.sl 3 o4 K c4)), iv x] Try.f6.ntmps, [wB t1 o1 32 f v1, wB t2 o2 12 g v2, wB t3 o3 N b v3, wB t4 o4 K q v4]⟩ :=
  evS_q mixed tt_ok (gCb_ok 0) 300 [⟨2,2,.lit (.bo false)⟩,⟨2,6,.lit (.bo false)⟩,⟨2,11,.lit (.bo true)⟩] (same (p := (!ieq (Int.ofNat 32) (Int.ofNat 32)) = false ∧ (!ieq (Int.ofNat 12) (Int.ofNat 12)) = false ∧ ilt 2000 (Int.ofNat N) = true ∧ endM [0, 1, 2, 3] [wB t1 o1 32 f v1, wB t2 o2 12 g v2, wB t3 o3 N b v3, wB t4 o4 K q v4] [wB t1 o1 32 f v1, wB t2 o2 12 g v2, wB t3 o3 N b v3, wB t4 o4 K q v4] (.v1 (.sc (.bo true))) (.v1 (.sc (.bo true)))) ⟨nieq_f rfl, nieq_f rfl, ilt_t (i := 2000) h, endM_same rfl rfl⟩ (by kernel_rfl))
theorem early4_wwnw {t1 o1 c1 t2 o2 c2 t4 o4 c4 K : Nat} {x : Int} {f g q : Nat → Nat} {v1 v2 v4 : WrapV} {w3 : Option Addr} (hN : 0 ≤ 2000) (h : 2000 < K) : AWqS Try.prog (Dm [wB t1 o1 32 f v1, wB t2 o2 12 g v2, wB t4 o4 K q v4]) (flatC (bodyOf Try.f6)) (fun e s => FEndM tt Try.f6 (upto 0 ([wB t1 o1 32 f v1, wB t2 o2 12 g v2, wB t4 o4 K q v4] : Heap).length) (.v1 (.sc (.bo true))) [wB t1 o1 32 f v1, wB t2 o2 12 g v2, wB t4 o4 K q v4] e s) ⟨frame0 [.v1 (.sc (.sl 0 o1 32 c1)), .v1 (.sc (.sl 1 o2 12 c2)), emS w3, .v1 (.sc (.sl 2 o4 K c4)), iv x] Try.f6.ntmps, [wB t1 o1 32 f v1, wB t2 o2 12 g v2, wB t4 o4 K q v4]⟩ :=
  evS_q mixed tt_ok (gCb_ok 0) 300 [⟨2,2,.lit (.bo false)⟩,⟨2,6,.lit (.bo false)⟩,⟨2,11,.lit (.bo false)⟩,⟨2,16,.lit (.bo true)⟩] (same (p := (!ieq (Int.ofNat 32) (Int.ofNat 32)) = false ∧ (!ieq (Int.ofNat 12) (Int.ofNat 12)) = false ∧ ilt 2000 (Int.ofNat 0) = false ∧ ilt 2000 (Int.ofNat K) = true ∧ endM [0, 1, 2] [wB t1 o1 32 f v1, wB t2 o2 12 g v2, wB t4 o4 K q v4] [wB t1 o1 32 f v1, wB t2 o2 12 g v2, wB t4 o4 K q v4] (.v1 (.sc (.bo true))) (.v1 (.sc (.bo true)))) ⟨nieq_f rfl, nieq_f rfl, ilt_f (i := 2000) (by omega), ilt_t (i := 2000) h, endM_same rfl rfl⟩ (by kernel_rfl))
theorem early4_wwww {t1 o1 c1 t2 o2 c2 t3 o3 c3 t4 o4 c4 N K : Nat} {x : Int} {f g b q : Nat → Nat} {v1 v2 v3 v4 : WrapV} (hN : N ≤ 2000) (h : 2000 < K) : AWqS Try.prog (Dm [wB t1 o1 32 f v1, wB t2 o2 12 g v2, wB t3 o3 N b v3, wB t4 o4 K q v4]) (flatC (bodyOf Try.f6)) (fun e s => FEndM tt Try.f6 (upto 0 ([wB t1 o1 32 f v1, wB t2 o2 12 g v2, wB t3 o3 N b v3, wB t4 o4 K q v4] : Heap).length) (.v1 (.sc (.bo true))) [wB t1 o1 32 f v1, wB t2 o2 12 g v2, wB t3 o3 N b v3, wB t4 o4 K q v4] e s) ⟨frame0 [.v1 (.sc (.sl 0 o1 32 c1)), .v1 (.sc (.sl 1 o2 12 c2)), .v1 (.sc (.sl 2 o3 N c3)), .v1 (.sc (.sl 3 o4 K c4)), iv x] Try.f6.ntmps, [wB t1 o1 32 f v1, wB t2 o2 12 g v2, wB t3 o3 N b v3, wB t4 o4 K q v4]⟩ :=
  evS_q mixed tt_ok (gCb_ok 0) 300 [⟨2,2,.lit (.bo false)⟩,⟨2,6,.lit (.bo false)⟩,⟨2,11,.lit (.bo false)⟩,⟨2,16,.lit (.bo true)⟩] (same (p := (!ieq (Int.ofNat 32) (Int.ofNat 32)) = false ∧ (!ieq (Int.ofNat 12) (Int.ofNat 12)) = false ∧ ilt 2000 (Int.ofNat N) = false ∧ ilt 2000 (Int.ofNat K) = true ∧ endM [0, 1, 2, 3] [wB t1 o1 32 f v1, wB t2 o2 12 g v2, wB t3 o3 N b v3, wB t4 o4 K q v4] [wB t1 o1 32 f v1, wB t2 o2 12 g v2, wB t3 o3 N b v3, wB t4 o4 K q v4] (.v1 (.sc (.bo true))) (.v1 (.sc (.bo true)))) ⟨nieq_f rfl, nieq_f rfl, ilt_f (i := 2000) (by omega), ilt_t (i := 2000) h, endM_same rfl rfl⟩ (by kernel_rfl))
theorem same_q {f g q r B : Nat → Nat} {N : Nat} (h : sameT f g 0 q N B) : sameT f g 0 r N B := fun i hi => by
  rw [seaN_q (r := q)]
  exact h i hi
theorem cipherBack_calls (x : Int) (Wd : World) {n1 n2 N K : Nat} {f g b q : Nat → Nat} {y1 y2 y3 y4 : Value} (h1 : (Sh.vs n1 f).Sem Wd (fun _ => True) y1) (h2 : (Sh.vs n2 g).Sem Wd (fun _ => True) y2) (h3 : (Sh.vs N b).Sem Wd (fun _ => True) y3) (h4 : (Sh.vs K q).Sem Wd (fun _ => True) y4) :
    Calls Try.prog 6 #[y1, y2, y3, y4, .int .i64 x] Wd (fun e w' => e = .returned (.bool true) ∧ StepW Wd w') := by
  refine views_calls tt_ok Try.func6 (by kernel_rfl) [.vs n1 f, .vs n2 g, .vs N b, .vs K q, .pl (iv x)] (xs := [y1, y2, y3, y4, .int .i64 x]) ⟨h1, h2, h3, h4, ⟨rfl, rfl⟩, trivial⟩ (v := .v1 (.sc (.bo true))) rfl fun a Wn hi => ?_
  rcases hi with _ | _ | ⟨w1, h01, hi⟩ | ⟨t1, o1, c1, v1, kc1, hi⟩ | _
  · skip
    rcases hi with _ | _ | ⟨w2, h02, hi⟩ | ⟨t2, o2, c2, v2, kc2, hi⟩ | _
    · skip
      rcases hi with _ | _ | ⟨w3, h03, hi⟩ | ⟨t3, o3, c3, v3, kc3, hi⟩ | _
      · skip
        rcases hi with _ | _ | ⟨w4, h04, hi⟩ | ⟨t4, o4, c4, v4, kc4, hi⟩ | _
        · skip
          subst h01
          subst h02
          subst h03
          subst h04
          rcases hi with _ | hi | _ | _ | _
          cases hi
          exact early1_nnnn (by decide)
        · skip
          subst h01
          subst h02
          subst h03
          rcases hi with _ | hi | _ | _ | _
          cases hi
          exact early1_nnnw (by decide)
      · skip
        rcases hi with _ | _ | ⟨w4, h04, hi⟩ | ⟨t4, o4, c4, v4, kc4, hi⟩ | _
        · skip
          subst h01
          subst h02
          subst h04
          rcases hi with _ | hi | _ | _ | _
          cases hi
          exact early1_nnwn (by decide)
        · skip
          subst h01
          subst h02
          rcases hi with _ | hi | _ | _ | _
          cases hi
          exact early1_nnww (by decide)
    · skip
      rcases hi with _ | _ | ⟨w3, h03, hi⟩ | ⟨t3, o3, c3, v3, kc3, hi⟩ | _
      · skip
        rcases hi with _ | _ | ⟨w4, h04, hi⟩ | ⟨t4, o4, c4, v4, kc4, hi⟩ | _
        · skip
          subst h01
          subst h03
          subst h04
          rcases hi with _ | hi | _ | _ | _
          cases hi
          exact early1_nwnn (by decide)
        · skip
          subst h01
          subst h03
          rcases hi with _ | hi | _ | _ | _
          cases hi
          exact early1_nwnw (by decide)
      · skip
        rcases hi with _ | _ | ⟨w4, h04, hi⟩ | ⟨t4, o4, c4, v4, kc4, hi⟩ | _
        · skip
          subst h01
          subst h04
          rcases hi with _ | hi | _ | _ | _
          cases hi
          exact early1_nwwn (by decide)
        · skip
          subst h01
          rcases hi with _ | hi | _ | _ | _
          cases hi
          exact early1_nwww (by decide)
  · skip
    rcases hi with _ | _ | ⟨w2, h02, hi⟩ | ⟨t2, o2, c2, v2, kc2, hi⟩ | _
    · skip
      rcases hi with _ | _ | ⟨w3, h03, hi⟩ | ⟨t3, o3, c3, v3, kc3, hi⟩ | _
      · skip
        rcases hi with _ | _ | ⟨w4, h04, hi⟩ | ⟨t4, o4, c4, v4, kc4, hi⟩ | _
        · skip
          subst h02
          subst h03
          subst h04
          rcases hi with _ | hi | _ | _ | _
          cases hi
          by_cases e1 : n1 = 32
          rotate_left
          · exact early1_wnnn e1
          subst e1
          exact early2_wnnn (by decide)
        · skip
          subst h02
          subst h03
          rcases hi with _ | hi | _ | _ | _
          cases hi
          by_cases e1 : n1 = 32
          rotate_left
          · exact early1_wnnw e1
          subst e1
          exact early2_wnnw (by decide)
      · skip
        rcases hi with _ | _ | ⟨w4, h04, hi⟩ | ⟨t4, o4, c4, v4, kc4, hi⟩ | _
        · skip
          subst h02
          subst h04
          rcases hi with _ | hi | _ | _ | _
          cases hi
          by_cases e1 : n1 = 32
          rotate_left
          · exact early1_wnwn e1
          subst e1
          exact early2_wnwn (by decide)
        · skip
          subst h02
          rcases hi with _ | hi | _ | _ | _
          cases hi
          by_cases e1 : n1 = 32
          rotate_left
          · exact early1_wnww e1
          subst e1
          exact early2_wnww (by decide)
    · skip
      rcases hi with _ | _ | ⟨w3, h03, hi⟩ | ⟨t3, o3, c3, v3, kc3, hi⟩ | _
      · skip
        rcases hi with _ | _ | ⟨w4, h04, hi⟩ | ⟨t4, o4, c4, v4, kc4, hi⟩ | _
        · skip
          subst h03
          subst h04
          rcases hi with _ | hi | _ | _ | _
          cases hi
          by_cases e1 : n1 = 32
          rotate_left
          · exact early1_wwnn e1
          subst e1
          by_cases e2 : n2 = 12
          rotate_left
          · exact early2_wwnn e2
          subst e2
          have hN : 0 ≤ 2000 := by decide
          have hK : 0 ≤ 2000 := by decide
          have hlt : pkN x (8 * (0 + 0) + 127 + 1) < 8 * (0 + 0) + 127 + 1 := pkN_lt (by omega)
          by_cases hc : pkN x (8 * (0 + 0) + 127 + 1) / 8 < 0 + 16
          · skip
            have hge : 0 ≤ pkN x (8 * (0 + 0) + 127 + 1) / 8 := by omega
            exact backB_nn1 kc1 kc2 hN hK rfl rfl rfl hc hge (tag_turned hge hc (by omega))
          · skip
            omega
        · skip
          subst h03
          rcases hi with _ | hi | _ | _ | _
          cases hi
          by_cases e1 : n1 = 32
          rotate_left
          · exact early1_wwnw e1
          subst e1
          by_cases e2 : n2 = 12
          rotate_left
          · exact early2_wwnw e2
          subst e2
          have hN : 0 ≤ 2000 := by decide
          by_cases e4 : 2000 < K
          · exact early4_wwnw hN e4
          have hK : K ≤ 2000 := by omega
          rcases K with _ | k
          · skip
            have hlt : pkN x (8 * (0 + 0) + 127 + 1) < 8 * (0 + 0) + 127 + 1 := pkN_lt (by omega)
            by_cases hc : pkN x (8 * (0 + 0) + 127 + 1) / 8 < 0 + 16
            · skip
              have hge : 0 ≤ pkN x (8 * (0 + 0) + 127 + 1) / 8 := by omega
              exact backB_n01 kc1 kc2 kc4 hN hK rfl rfl rfl hc hge (fun h => tag_turned hge hc (by omega) (same_q h))
            · skip
              omega
          · skip
            have hlt : pkN x (8 * (0 + (k + 1)) + 127 + 1) < 8 * (0 + (k + 1)) + 127 + 1 := pkN_lt (by omega)
            by_cases hc : pkN x (8 * (0 + (k + 1)) + 127 + 1) / 8 < 0 + 16
            · skip
              have hge : 0 ≤ pkN x (8 * (0 + (k + 1)) + 127 + 1) / 8 := by omega
              exact backB_nw1 kc1 kc2 kc4 hN hK rfl rfl rfl hc hge (tag_turned hge hc (by omega))
            · skip
              rcases Classical.em (sameT (fun j => f (o1 - o1 + j)) (fun j => g (o2 - o2 + j)) (k + 1) (flB (fun j => q (o4 - o4 + j)) (pkN x (8 * (0 + (k + 1)) + 127 + 1) / 8 - (0 + 16)) (pkN x (8 * (0 + (k + 1)) + 127 + 1) % 8)) 0 (seF (fun j => f (o1 - o1 + j)) (fun j => g (o2 - o2 + j)) 0 (fun _ => 0) (k + 1) (fun j => q (o4 - o4 + j)))) with hS | hS
              · exact backC_nw0 kc1 kc2 kc4 hN hK rfl rfl rfl (by omega) (by omega) hS
              · exact backC_nw1 kc1 kc2 kc4 hN hK rfl rfl rfl (by omega) (by omega) hS
      · skip
        rcases hi with _ | _ | ⟨w4, h04, hi⟩ | ⟨t4, o4, c4, v4, kc4, hi⟩ | _
        · skip
          subst h04
          rcases hi with _ | hi | _ | _ | _
          cases hi
          by_cases e1 : n1 = 32
          rotate_left
          · exact early1_wwwn e1
          subst e1
          by_cases e2 : n2 = 12
          rotate_left
          · exact early2_wwwn e2
          subst e2
          by_cases e3 : 2000 < N
          · exact early3_wwwn e3
          have hN : N ≤ 2000 := by omega
          have hK : 0 ≤ 2000 := by decide
          have hlt : pkN x (8 * (N + 0) + 127 + 1) < 8 * (N + 0) + 127 + 1 := pkN_lt (by omega)
          by_cases hc : pkN x (8 * (N + 0) + 127 + 1) / 8 < N + 16
          · skip
            by_cases hn : pkN x (8 * (N + 0) + 127 + 1) / 8 < N
            · rcases Classical.em (sameT (fun j => f (o1 - o1 + j)) (fun j => g (o2 - o2 + j)) 0 (fun _ => 0) N (flB (seF (fun j => f (o1 - o1 + j)) (fun j => g (o2 - o2 + j)) N (fun j => b (o3 - o3 + j)) 0 (fun _ => 0)) (pkN x (8 * (N + 0) + 127 + 1) / 8) (pkN x (8 * (N + 0) + 127 + 1) % 8))) with hS | hS
              · exact backA_wn0 kc1 kc2 kc3 hN hK rfl rfl rfl hc hn hS
              · exact backA_wn1 kc1 kc2 kc3 hN hK rfl rfl rfl hc hn hS
            · skip
              have hge : N ≤ pkN x (8 * (N + 0) + 127 + 1) / 8 := by omega
              exact backB_wn1 kc1 kc2 kc3 hN hK rfl rfl rfl hc hge (tag_turned hge hc (by omega))
          · skip
            omega
        · skip
          rcases hi with _ | hi | _ | _ | _
          cases hi
          by_cases e1 : n1 = 32
          rotate_left
          · exact early1_wwww e1
          subst e1
          by_cases e2 : n2 = 12
          rotate_left
          · exact early2_wwww e2
          subst e2
          by_cases e3 : 2000 < N
          · exact early3_wwww e3
          have hN : N ≤ 2000 := by omega
          by_cases e4 : 2000 < K
          · exact early4_wwww hN e4
          have hK : K ≤ 2000 := by omega
          rcases K with _ | k
          · skip
            have hlt : pkN x (8 * (N + 0) + 127 + 1) < 8 * (N + 0) + 127 + 1 := pkN_lt (by omega)
            by_cases hc : pkN x (8 * (N + 0) + 127 + 1) / 8 < N + 16
            · skip
              by_cases hn : pkN x (8 * (N + 0) + 127 + 1) / 8 < N
              · rcases Classical.em (sameT (fun j => f (o1 - o1 + j)) (fun j => g (o2 - o2 + j)) 0 (fun _ => 0) N (flB (seF (fun j => f (o1 - o1 + j)) (fun j => g (o2 - o2 + j)) N (fun j => b (o3 - o3 + j)) 0 (fun j => q (o4 - o4 + j))) (pkN x (8 * (N + 0) + 127 + 1) / 8) (pkN x (8 * (N + 0) + 127 + 1) % 8))) with hS | hS
                · exact backA_w00 kc1 kc2 kc3 kc4 hN hK rfl rfl rfl hc hn hS
                · exact backA_w01 kc1 kc2 kc3 kc4 hN hK rfl rfl rfl hc hn hS
              · skip
                have hge : N ≤ pkN x (8 * (N + 0) + 127 + 1) / 8 := by omega
                exact backB_w01 kc1 kc2 kc3 kc4 hN hK rfl rfl rfl hc hge (fun h => tag_turned hge hc (by omega) (same_q h))
            · skip
              omega
          · skip
            have hlt : pkN x (8 * (N + (k + 1)) + 127 + 1) < 8 * (N + (k + 1)) + 127 + 1 := pkN_lt (by omega)
            by_cases hc : pkN x (8 * (N + (k + 1)) + 127 + 1) / 8 < N + 16
            · skip
              by_cases hn : pkN x (8 * (N + (k + 1)) + 127 + 1) / 8 < N
              · rcases Classical.em (sameT (fun j => f (o1 - o1 + j)) (fun j => g (o2 - o2 + j)) (k + 1) (fun j => q (o4 - o4 + j)) N (flB (seF (fun j => f (o1 - o1 + j)) (fun j => g (o2 - o2 + j)) N (fun j => b (o3 - o3 + j)) (k + 1) (fun j => q (o4 - o4 + j))) (pkN x (8 * (N + (k + 1)) + 127 + 1) / 8) (pkN x (8 * (N + (k + 1)) + 127 + 1) % 8))) with hS | hS
                · exact backA_ww0 kc1 kc2 kc3 kc4 hN hK rfl rfl rfl hc hn hS
                · exact backA_ww1 kc1 kc2 kc3 kc4 hN hK rfl rfl rfl hc hn hS
              · skip
                have hge : N ≤ pkN x (8 * (N + (k + 1)) + 127 + 1) / 8 := by omega
                exact backB_ww1 kc1 kc2 kc3 kc4 hN hK rfl rfl rfl hc hge (tag_turned hge hc (by omega))
            · skip
              rcases Classical.em (sameT (fun j => f (o1 - o1 + j)) (fun j => g (o2 - o2 + j)) (k + 1) (flB (fun j => q (o4 - o4 + j)) (pkN x (8 * (N + (k + 1)) + 127 + 1) / 8 - (N + 16)) (pkN x (8 * (N + (k + 1)) + 127 + 1) % 8)) N (seF (fun j => f (o1 - o1 + j)) (fun j => g (o2 - o2 + j)) N (fun j => b (o3 - o3 + j)) (k + 1) (fun j => q (o4 - o4 + j)))) with hS | hS
              · exact backC_ww0 kc1 kc2 kc3 kc4 hN hK rfl rfl rfl (by omega) (by omega) hS
              · exact backC_ww1 kc1 kc2 kc3 kc4 hN hK rfl rfl rfl (by omega) (by omega) hS
theorem trodAll_five {H : Type} {enc : TypeId × Value → H} {w : World} {base : Nat} {spare : Nat → Bool} {held : Bool} {ta tb tc td te : TypeId} {args : Array Value} {ds : List (DataW H)} {ps : List MemPlace}
    (h : DataW.TrodAll enc Try.prog w base spare held [ta, tb, tc, td, te] args.toList ds ps) :
    ∃ va vb vc vd ve da db dc dd de pa pb pc pd pe, args = #[va, vb, vc, vd, ve] ∧ ds = [da, db, dc, dd, de] ∧ ps = pa ++ pb ++ pc ++ pd ++ pe ∧ DataW.Trod enc Try.prog w base spare held ta va da pa ∧ DataW.Trod enc Try.prog w base spare held tb vb db pb ∧
      DataW.Trod enc Try.prog w base spare held tc vc dc pc ∧ DataW.Trod enc Try.prog w base spare held td vd dd pd ∧ DataW.Trod enc Try.prog w base spare held te ve de pe := by
  obtain ⟨va, _, da, _, pa, _, ea, rfl, rfl, ha, k⟩ := trodAll_cons h
  obtain ⟨vb, _, db, _, pb, _, rfl, rfl, rfl, hb, k⟩ := trodAll_cons k
  obtain ⟨vc, _, dc, _, pc, _, rfl, rfl, rfl, hc, k⟩ := trodAll_cons k
  obtain ⟨vd, _, dd, _, pd, _, rfl, rfl, rfl, hd, k⟩ := trodAll_cons k
  obtain ⟨ve, _, de, _, pe, _, rfl, rfl, rfl, he, k⟩ := trodAll_cons k
  obtain ⟨rfl, rfl, rfl⟩ := trodAll_nil k
  exact ⟨va, vb, vc, vd, ve, da, db, dc, dd, de, pa, pb, pc, pd, pe, by cases args; simp_all, rfl, by simp, ha, hb, hc, hd, he⟩
theorem trodAll_mk5 {H : Type} {enc : TypeId × Value → H} {w : World} {base : Nat} {spare : Nat → Bool} {held : Bool} {ta tb tc td te : TypeId} {va vb vc vd ve : Value} {da db dc dd de : DataW H} {pa pb pc pd pe : List MemPlace}
    (ha : DataW.Trod enc Try.prog w base spare held ta va da pa) (hb : DataW.Trod enc Try.prog w base spare held tb vb db pb) (hc : DataW.Trod enc Try.prog w base spare held tc vc dc pc) (hd : DataW.Trod enc Try.prog w base spare held td vd dd pd) (he : DataW.Trod enc Try.prog w base spare held te ve de pe) :
    DataW.TrodAll enc Try.prog w base spare held [ta, tb, tc, td, te] [va, vb, vc, vd, ve] [da, db, dc, dd, de] (pa ++ (pb ++ (pc ++ (pd ++ pe)))) := ⟨pa, pb ++ (pc ++ (pd ++ pe)), ha, trodAll_mk4 hb hc hd he, rfl⟩
theorem cipherBack_lifted (os : Os) (started : os.Started) (H : Type) (enc : TypeId × Value → H) :
    ReturnsInHanded {} Try.checked os 6 .any (Rows.cipherBackSpec.pre6 enc Try.prog Try.f6 Rows.cipherBackRow.domain false) (Rows.cipherBackSpec.post enc Try.prog Try.f6 false true false false) := by
  refine returnsInHanded_of_change (C := Try.checked) Try.own started (by kernel_rfl) Try.func6
    (ChangeSpec.witness6 (enc := enc) (C := Try.checked) false ⟨#[], #[.slice none 0 0, .slice none 0 0, .slice none 0 0, .slice none 0 0, .int .i64 0], []⟩ 8 (by kernel_rfl) (by kernel_rfl) (by kernel_rfl) (by kernel_rfl)) ?_
  intro Wd base args ds gs before hval0 hW _ _
  have hval : ∀ (j : Nat) t v, Try.f6.params[j]? = some t → args[j]? = some v → Value.okWide Try.prog Wd .any base t v := hval0
  have hW' := hW
  obtain ⟨p, q, hA0, hV, rfl, _, _⟩ := hW
  have hA : DataW.TrodAll enc Try.prog Wd 0 (fun _ => true) true Try.f6.params.toList args.toList ds p := hA0
  rw [Try.params6] at hA hval
  obtain ⟨v0, v1, v2, v3, v4, d0, d1, d2, d3, d4, p0, p1, p2, p3, p4, rfl, rfl, rfl, h0, h1, h2, h3, h4⟩ := trodAll_five hA
  obtain ⟨rfl, rfl⟩ := trodVars_none hV
  obtain ⟨n0, f0, s0, t0⟩ := bytes_open h0 (hval 0 22 v0 rfl rfl)
  obtain ⟨n1, f1, s1, t1⟩ := bytes_open h1 (hval 1 22 v1 rfl rfl)
  obtain ⟨n2, f2, s2, t2⟩ := bytes_open h2 (hval 2 22 v2 rfl rfl)
  obtain ⟨n3, f3, s3, t3⟩ := bytes_open h3 (hval 3 22 v3 rfl rfl)
  obtain ⟨x4, rfl, rfl, rfl, w4⟩ := open_int Try.underlying3 (hval 4 3 v4 rfl rfl) h4
  clear hA0 hval0
  simp only [List.append_nil, List.nil_append] at hW'
  refine (cipherBack_calls x4 Wd s0 s1 s2 s3).mono fun e W' ⟨he, hw⟩ => ?_
  subst he
  exact ⟨_, rfl, post_same (pa := p0 ++ p1 ++ p2 ++ p3) (pv := []) hW' (fun _ _ _ => trodAll_mk1 (shut_bool Try.underlying4 true)) (fun sp hsp => by have hq := trodAll_mk5 (t0 _ hw sp (fun q hq => hsp q (by simp [hq]))) (t1 _ hw sp (fun q hq => hsp q (by simp [hq]))) (t2 _ hw sp (fun q hq => hsp q (by simp [hq]))) (t3 _ hw sp (fun q hq => hsp q (by simp [hq]))) (shut_int Try.underlying3 w4); simp only [List.append_nil, List.nil_append, ← List.append_assoc] at hq; exact hq) (fun _ _ => rfl) (by simp) hw (ok_one (by kernel_rfl) rfl (okWide_bool_mk Try.underlying4 true))⟩

theorem cipherBack_holds : Rows.CipherBackSaid :=
  OpenClaim.holds_of_wide 6 Try.f6 rfl rfl rfl rfl rfl rfl rfl ⟨rfl, rfl, rfl, rfl, rfl⟩ rfl rfl rfl rfl rfl (by kernel_rfl) Try.func6 (by kernel_rfl)
    (of_decide_eq_true (by kernel_rfl)) (by unfold Func.isWrapper; rw [if_neg (of_decide_eq_false (by kernel_rfl))]; exact ⟨rfl, rfl⟩)
    (fun os started H enc _ => cipherBack_lifted os started H enc)
end Go.Proofs.Ytndmoidenbfflaa
