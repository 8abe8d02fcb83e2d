/- reliquarylaw07.LittleBilinear answers true at every input, and leaves it as it was. Conditions: none. -/
import Derived.Test.YtafiafkeigdjhaaRows
import Derived.Test.YtafiafkeigdjhaaLGroup
import Derived.Test.YtafiafkeigdjhaaZB
import Derived.ProofKit
import Derived.Carry
namespace Go.Proofs.Ytafiafkeigdjhaa
open Go.Rq Go Go.ChangeShapes Go.WideShapes Go.ChangeAt Go.RowKit
set_option linter.unusedVariables false
def gBiB : List (Nat × CallC) := [(41, .pure (cAw)), (36, .pure (kInB))]
theorem gBiB_ok : CtxOk Try.prog (ctxL (gBiB)) := ctxL_cons okAw <| ctxL_cons okEInB ctxL_nil
def gBiN (s : Int) (p r c gx gy : Nat) : List (Nat × CallC) := [(41, .pure (cAw)), (36, .pure (kIn s p r c gx gy))]
theorem gBiN_ok {s : Int} {p r c gx gy : Nat} (hC : CuOk s p r c gx gy) : CtxOk Try.prog (ctxL (gBiN s p r c gx gy)) := ctxL_cons okAw <| ctxL_cons (okEIn hC) ctxL_nil
def gBiY (s : Int) (p r c gx gy : Nat) : List (Nat × CallC) := [(41, .pure (cAw)), (36, .pure (kIn s p r c gx gy)), (30, .pure (kAdd s p r c gx gy)), (19, .pure (kPair s p r c gx gy)), (20, .pure (kTimes s p r c gx gy)), (31, .pure (kMul s p r c gx gy)), (21, .pure (kPower s p r c gx gy)), (28, .pure (kOrder s p r c gx gy))]
theorem gBiY_ok {s : Int} {p r c gx gy : Nat} (hC : CuOk s p r c gx gy) : CtxOk Try.prog (ctxL (gBiY s p r c gx gy)) := ctxL_cons okAw <| ctxL_cons (okEIn hC) <| ctxL_cons (okEAdd hC) <| ctxL_cons (okEPair hC) <| ctxL_cons (okETimes hC) <| ctxL_cons (okEMul hC) <| ctxL_cons (okEPower hC) <| ctxL_cons (okEOrder hC) ctxL_nil
theorem bil_bad {t : Int} {x y : Nat} {z : Bool} {u v : Nat} {w : Bool} {d e : Nat} {f : Bool} {m n : Nat} (h1 : t ≠ 1) (h2 : t ≠ 2) : AWqS Try.prog (fun _ => False) (flatC (bodyOf Try.f7)) (FEnd' tt Try.f7 (.v1 (.sc (.bo true)))) ⟨frame0 [.v1 (.sc (.it t)), .v1 (.agg [.one (.w .u64 x), .one (.w .u64 y), .one (.bo z)]), .v1 (.agg [.one (.w .u64 u), .one (.w .u64 v), .one (.bo w)]), .v1 (.agg [.one (.w .u64 d), .one (.w .u64 e), .one (.bo f)]), .v1 (.sc (.w .u32 m)), .v1 (.sc (.w .u32 n))] Try.f7.ntmps, []⟩ := by
  refine evS_q mixed tt_ok gBiB_ok 100 [] (same (p := t ≠ 1 ∧ t ≠ 2 ∧ endT) ?_ (by kernel_rfl))
  exact ⟨h1, h2, endT_ok⟩
theorem bil_a {s : Int} {p r c gx gy : Nat} {t : Int} {x y : Nat} {z : Bool} {u v : Nat} {w : Bool} {d e : Nat} {f : Bool} {m n : Nat} (hC : CuOk s p r c gx gy) (hs : t = s) (hl : LwP p ⟨x, y, z⟩) (hm : LwP p ⟨u, v, w⟩) (hk : LwP p ⟨d, e, f⟩) (ha : inN p r ⟨x, y, z⟩ = false) : AWqS Try.prog (fun _ => False) (flatC (bodyOf Try.f7)) (FEnd' tt Try.f7 (.v1 (.sc (.bo true)))) ⟨frame0 [.v1 (.sc (.it t)), .v1 (.agg [.one (.w .u64 x), .one (.w .u64 y), .one (.bo z)]), .v1 (.agg [.one (.w .u64 u), .one (.w .u64 v), .one (.bo w)]), .v1 (.agg [.one (.w .u64 d), .one (.w .u64 e), .one (.bo f)]), .v1 (.sc (.w .u32 m)), .v1 (.sc (.w .u32 n))] Try.f7.ntmps, []⟩ := by
  refine evS_q mixed tt_ok (gBiN_ok hC) 100 [⟨2,3,.lit (.bo true)⟩] (same (p := t = s ∧ LwP p ⟨x, y, z⟩ ∧ (!inN p r ⟨x, y, z⟩) = true ∧ endT) ?_ (by kernel_rfl))
  exact ⟨hs, hl, by rw [ha]; rfl, endT_ok⟩
theorem bil_b {s : Int} {p r c gx gy : Nat} {t : Int} {x y : Nat} {z : Bool} {u v : Nat} {w : Bool} {d e : Nat} {f : Bool} {m n : Nat} (hC : CuOk s p r c gx gy) (hs : t = s) (hl : LwP p ⟨x, y, z⟩) (hm : LwP p ⟨u, v, w⟩) (hk : LwP p ⟨d, e, f⟩) (ha : inN p r ⟨x, y, z⟩ = true) (hb : inN p r ⟨u, v, w⟩ = false) : AWqS Try.prog (fun _ => False) (flatC (bodyOf Try.f7)) (FEnd' tt Try.f7 (.v1 (.sc (.bo true)))) ⟨frame0 [.v1 (.sc (.it t)), .v1 (.agg [.one (.w .u64 x), .one (.w .u64 y), .one (.bo z)]), .v1 (.agg [.one (.w .u64 u), .one (.w .u64 v), .one (.bo w)]), .v1 (.agg [.one (.w .u64 d), .one (.w .u64 e), .one (.bo f)]), .v1 (.sc (.w .u32 m)), .v1 (.sc (.w .u32 n))] Try.f7.ntmps, []⟩ := by
  refine evS_q mixed tt_ok (gBiN_ok hC) 100 [⟨2,3,.lit (.bo false)⟩,⟨2,8,.lit (.bo true)⟩] (same (p := t = s ∧ LwP p ⟨x, y, z⟩ ∧ (!inN p r ⟨x, y, z⟩) = false ∧ t = s ∧ LwP p ⟨u, v, w⟩ ∧ (!inN p r ⟨u, v, w⟩) = true ∧ endT) ?_ (by kernel_rfl))
  exact ⟨hs, hl, by rw [ha]; rfl, hs, hm, by rw [hb]; rfl, endT_ok⟩
theorem bil_c {s : Int} {p r c gx gy : Nat} {t : Int} {x y : Nat} {z : Bool} {u v : Nat} {w : Bool} {d e : Nat} {f : Bool} {m n : Nat} (hC : CuOk s p r c gx gy) (hs : t = s) (hl : LwP p ⟨x, y, z⟩) (hm : LwP p ⟨u, v, w⟩) (hk : LwP p ⟨d, e, f⟩) (ha : inN p r ⟨x, y, z⟩ = true) (hb : inN p r ⟨u, v, w⟩ = true) (hc : inN p r ⟨d, e, f⟩ = false) : AWqS Try.prog (fun _ => False) (flatC (bodyOf Try.f7)) (FEnd' tt Try.f7 (.v1 (.sc (.bo true)))) ⟨frame0 [.v1 (.sc (.it t)), .v1 (.agg [.one (.w .u64 x), .one (.w .u64 y), .one (.bo z)]), .v1 (.agg [.one (.w .u64 u), .one (.w .u64 v), .one (.bo w)]), .v1 (.agg [.one (.w .u64 d), .one (.w .u64 e), .one (.bo f)]), .v1 (.sc (.w .u32 m)), .v1 (.sc (.w .u32 n))] Try.f7.ntmps, []⟩ := by
  refine evS_q mixed tt_ok (gBiN_ok hC) 100 [⟨2,3,.lit (.bo false)⟩,⟨2,8,.lit (.bo false)⟩,⟨2,14,.lit (.bo true)⟩] (same (p := t = s ∧ LwP p ⟨x, y, z⟩ ∧ (!inN p r ⟨x, y, z⟩) = false ∧ t = s ∧ LwP p ⟨u, v, w⟩ ∧ (!inN p r ⟨u, v, w⟩) = false ∧ t = s ∧ LwP p ⟨d, e, f⟩ ∧ (!inN p r ⟨d, e, f⟩) = true ∧ endT) ?_ (by kernel_rfl))
  exact ⟨hs, hl, by rw [ha]; rfl, hs, hm, by rw [hb]; rfl, hs, hk, by rw [hc]; rfl, endT_ok⟩
theorem bil_f {s : Int} {p r c gx gy : Nat} {t : Int} {x y : Nat} {u v : Nat} {w : Bool} {d e : Nat} {f : Bool} {m n : Nat} [NeZero p] (hC : CuOk s p r c gx gy) (hs : t = s) (hl : LwP p ⟨x, y, false⟩) (hm : LwP p ⟨u, v, w⟩) (hk : LwP p ⟨d, e, f⟩) (ha : inN p r ⟨x, y, false⟩ = true) (hb : inN p r ⟨u, v, w⟩ = true) (hc : inN p r ⟨d, e, f⟩ = true) : AWqS Try.prog (fun _ => False) (flatC (bodyOf Try.f7)) (FEnd' tt Try.f7 (.v1 (.sc (.bo true)))) ⟨frame0 [.v1 (.sc (.it t)), .v1 (.agg [.one (.w .u64 x), .one (.w .u64 y), .one (.bo false)]), .v1 (.agg [.one (.w .u64 u), .one (.w .u64 v), .one (.bo w)]), .v1 (.agg [.one (.w .u64 d), .one (.w .u64 e), .one (.bo f)]), .v1 (.sc (.w .u32 m)), .v1 (.sc (.w .u32 n))] Try.f7.ntmps, []⟩ := by
  refine evS_q mixed tt_ok (gBiY_ok hC) 100 [⟨2,3,.lit (.bo false)⟩,⟨2,8,.lit (.bo false)⟩,⟨2,14,.lit (.bo false)⟩,⟨17,20,.lit (.bo true)⟩,⟨17,25,.lit (.bo true)⟩,⟨17,30,.lit (.bo true)⟩,⟨17,35,.lit (.bo true)⟩,⟨17,45,.lit (.bo true)⟩] (same (p := t = s ∧ LwP p ⟨x, y, false⟩ ∧ (!inN p r ⟨x, y, false⟩) = false ∧ t = s ∧ LwP p ⟨u, v, w⟩ ∧ (!inN p r ⟨u, v, w⟩) = false ∧ t = s ∧ LwP p ⟨d, e, f⟩ ∧ (!inN p r ⟨d, e, f⟩) = false ∧ t = s ∧ OnP p ⟨x, y, false⟩ ∧ OnP p ⟨u, v, w⟩ ∧ t = s ∧ inN p r (⟨x, y, false⟩) = true ∧ inN p r (⟨d, e, f⟩) = true ∧ t = s ∧ inN p r (⟨u, v, w⟩) = true ∧ inN p r (⟨d, e, f⟩) = true ∧ t = s ∧ inN p r (sumN p (⟨x, y, false⟩) (⟨u, v, w⟩)) = true ∧ inN p r (⟨d, e, f⟩) = true ∧ t = s ∧ inN p r (⟨d, e, f⟩) = true ∧ inN p r (⟨x, y, false⟩) = true ∧ t = s ∧ t = s ∧ OnP p ⟨x, y, false⟩ ∧ t = s ∧ OnP p ⟨d, e, f⟩ ∧ t = s ∧ inN p r (mulP p (⟨x, y, false⟩) (m % 4294967296 % W)) = true ∧ inN p r (mulP p (⟨d, e, f⟩) (n % 4294967296 % W)) = true ∧ t = s ∧ t = s ∧ t = s ∧ (eqN W 2 (pairN p r c (sumN p (⟨x, y, false⟩) (⟨u, v, w⟩)) (⟨d, e, f⟩)) (k2 p (rd2 p (pairN p r c (⟨x, y, false⟩) (⟨d, e, f⟩))) (rd2 p (pairN p r c (⟨u, v, w⟩) (⟨d, e, f⟩)))) && true) = true ∧ (eqN W 2 (pairN p r c (⟨d, e, f⟩) (⟨x, y, false⟩)) (pairN p r c (⟨x, y, false⟩) (⟨d, e, f⟩)) && true) = true ∧ (eqN W 2 (pairN p r c (mulP p (⟨x, y, false⟩) (m % 4294967296 % W)) (mulP p (⟨d, e, f⟩) (n % 4294967296 % W))) (pow2 p (rd2 p (pairN p r c (⟨x, y, false⟩) (⟨d, e, f⟩))) ((m % 4294967296 * (n % 4294967296)) % W)) && true) = true ∧ (eqN W 2 (pow2 p (rd2 p (pairN p r c (⟨x, y, false⟩) (⟨d, e, f⟩))) (r % W)) (oneB) && true) = true ∧ ((eqN W 2 (pairN p r c (⟨x, y, false⟩) (⟨d, e, f⟩)) oneB && true) == f) = true ∧ endT) ?_ (by kernel_rfl))
  exact ⟨hs, hl, by rw [ha]; rfl, hs, hm, by rw [hb]; rfl, hs, hk, by rw [hc]; rfl, hs, in_on ha, in_on hb, hs, ha, hc, hs, hb, hc, hs, in_sum hC ha hb, hc, hs, hc, ha, hs, hs, in_on ha, hs, in_on hc, hs, in_mul hC ha _, in_mul hC hc _, hs, hs, hs, bl_sum hC ha hb hc, bl_sym hC ha hc, by rw [u32_mul]; exact bl_mul hC ha hc _ _, by rw [Nat.mod_eq_of_lt hC.rw']; exact bl_one hC ha hc, by rw [bl_triv hC ha hc]; exact beq_self_eq_true f, endT_ok⟩
theorem bil_t {s : Int} {p r c gx gy : Nat} {t : Int} {x y : Nat} {u v : Nat} {w : Bool} {d e : Nat} {f : Bool} {m n : Nat} [NeZero p] (hC : CuOk s p r c gx gy) (hs : t = s) (hl : LwP p ⟨x, y, true⟩) (hm : LwP p ⟨u, v, w⟩) (hk : LwP p ⟨d, e, f⟩) (ha : inN p r ⟨x, y, true⟩ = true) (hb : inN p r ⟨u, v, w⟩ = true) (hc : inN p r ⟨d, e, f⟩ = true) : AWqS Try.prog (fun _ => False) (flatC (bodyOf Try.f7)) (FEnd' tt Try.f7 (.v1 (.sc (.bo true)))) ⟨frame0 [.v1 (.sc (.it t)), .v1 (.agg [.one (.w .u64 x), .one (.w .u64 y), .one (.bo true)]), .v1 (.agg [.one (.w .u64 u), .one (.w .u64 v), .one (.bo w)]), .v1 (.agg [.one (.w .u64 d), .one (.w .u64 e), .one (.bo f)]), .v1 (.sc (.w .u32 m)), .v1 (.sc (.w .u32 n))] Try.f7.ntmps, []⟩ := by
  refine evS_q mixed tt_ok (gBiY_ok hC) 100 [⟨2,3,.lit (.bo false)⟩,⟨2,8,.lit (.bo false)⟩,⟨2,14,.lit (.bo false)⟩,⟨17,20,.lit (.bo true)⟩,⟨17,25,.lit (.bo true)⟩,⟨17,30,.lit (.bo true)⟩,⟨17,35,.lit (.bo true)⟩,⟨17,45,.lit (.bo true)⟩] (same (p := t = s ∧ LwP p ⟨x, y, true⟩ ∧ (!inN p r ⟨x, y, true⟩) = false ∧ t = s ∧ LwP p ⟨u, v, w⟩ ∧ (!inN p r ⟨u, v, w⟩) = false ∧ t = s ∧ LwP p ⟨d, e, f⟩ ∧ (!inN p r ⟨d, e, f⟩) = false ∧ t = s ∧ OnP p ⟨x, y, true⟩ ∧ OnP p ⟨u, v, w⟩ ∧ t = s ∧ inN p r (⟨x, y, true⟩) = true ∧ inN p r (⟨d, e, f⟩) = true ∧ t = s ∧ inN p r (⟨u, v, w⟩) = true ∧ inN p r (⟨d, e, f⟩) = true ∧ t = s ∧ inN p r (sumN p (⟨x, y, true⟩) (⟨u, v, w⟩)) = true ∧ inN p r (⟨d, e, f⟩) = true ∧ t = s ∧ inN p r (⟨d, e, f⟩) = true ∧ inN p r (⟨x, y, true⟩) = true ∧ t = s ∧ t = s ∧ OnP p ⟨x, y, true⟩ ∧ t = s ∧ OnP p ⟨d, e, f⟩ ∧ t = s ∧ inN p r (mulP p (⟨x, y, true⟩) (m % 4294967296 % W)) = true ∧ inN p r (mulP p (⟨d, e, f⟩) (n % 4294967296 % W)) = true ∧ t = s ∧ t = s ∧ t = s ∧ (eqN W 2 (pairN p r c (sumN p (⟨x, y, true⟩) (⟨u, v, w⟩)) (⟨d, e, f⟩)) (k2 p (rd2 p (pairN p r c (⟨x, y, true⟩) (⟨d, e, f⟩))) (rd2 p (pairN p r c (⟨u, v, w⟩) (⟨d, e, f⟩)))) && true) = true ∧ (eqN W 2 (pairN p r c (⟨d, e, f⟩) (⟨x, y, true⟩)) (pairN p r c (⟨x, y, true⟩) (⟨d, e, f⟩)) && true) = true ∧ (eqN W 2 (pairN p r c (mulP p (⟨x, y, true⟩) (m % 4294967296 % W)) (mulP p (⟨d, e, f⟩) (n % 4294967296 % W))) (pow2 p (rd2 p (pairN p r c (⟨x, y, true⟩) (⟨d, e, f⟩))) ((m % 4294967296 * (n % 4294967296)) % W)) && true) = true ∧ (eqN W 2 (pow2 p (rd2 p (pairN p r c (⟨x, y, true⟩) (⟨d, e, f⟩))) (r % W)) (oneB) && true) = true ∧ ((eqN W 2 (pairN p r c (⟨x, y, true⟩) (⟨d, e, f⟩)) oneB && true) == true) = true ∧ endT) ?_ (by kernel_rfl))
  exact ⟨hs, hl, by rw [ha]; rfl, hs, hm, by rw [hb]; rfl, hs, hk, by rw [hc]; rfl, hs, in_on ha, in_on hb, hs, ha, hc, hs, hb, hc, hs, in_sum hC ha hb, hc, hs, hc, ha, hs, hs, in_on ha, hs, in_on hc, hs, in_mul hC ha _, in_mul hC hc _, hs, hs, hs, bl_sum hC ha hb hc, bl_sym hC ha hc, by rw [u32_mul]; exact bl_mul hC ha hc _ _, by rw [Nat.mod_eq_of_lt hC.rw']; exact bl_one hC ha hc, by rw [bl_triv hC ha hc]; rfl, endT_ok⟩
theorem littleBilinear_calls (t : Int) (x y : Nat) (z : Bool) (hx : x < W) (hy : y < W) (u v : Nat) (w : Bool) (hu : u < W) (hv : v < W) (d e : Nat) (f : Bool) (hd : d < W) (he : e < W) (m n : Nat) (Wd : World) :
    Calls Try.prog 7 ([.v1 (.sc (.it t)), .v1 (.agg [.one (.w .u64 x), .one (.w .u64 y), .one (.bo z)]), .v1 (.agg [.one (.w .u64 u), .one (.w .u64 v), .one (.bo w)]), .v1 (.agg [.one (.w .u64 d), .one (.w .u64 e), .one (.bo f)]), .v1 (.sc (.w .u32 m)), .v1 (.sc (.w .u32 n))].map (AV.val fun _ => 0)).toArray Wd (fun e w' => e = .returned (.bool true) ∧ StepW Wd w') := by
  refine pure_calls tt_ok Try.func7 (by kernel_rfl) (by kernel_rfl) (v := .v1 (.sc (.bo true))) (by kernel_rfl) ?_ Wd
  rcases cu_cases t with ⟨h1, h2⟩ | ⟨p, r, c, gx, gy, hC⟩
  · exact bil_bad h1 h2
  · haveI := hC.gp.nz
    have hm : LwP p ⟨u, v, w⟩ := ⟨hu, hv⟩
    have hk : LwP p ⟨d, e, f⟩ := ⟨hd, he⟩
    cases ha : inN p r ⟨x, y, z⟩
    · exact bil_a hC rfl ⟨hx, hy⟩ hm hk ha
    · cases hb : inN p r ⟨u, v, w⟩
      · exact bil_b hC rfl ⟨hx, hy⟩ hm hk ha hb
      · cases hc : inN p r ⟨d, e, f⟩
        · exact bil_c hC rfl ⟨hx, hy⟩ hm hk ha hb hc
        · cases z
          · exact bil_f hC rfl ⟨hx, hy⟩ hm hk ha hb hc
          · exact bil_t hC rfl ⟨hx, hy⟩ hm hk ha hb hc
theorem littleBilinear_lifted (os : Os) (started : os.Started) (H : Type) (enc : TypeId × Value → H) :
    ReturnsInHanded {} Try.checked os 7 .any (Rows.littleBilinearSpec.pre6 enc Try.prog Try.f7 Rows.littleBilinearRow.domain false) (Rows.littleBilinearSpec.post enc Try.prog Try.f7 false true false false) := by
  refine returnsInHanded_of_change (C := Try.checked) Try.own started (by kernel_rfl) Try.func7
    (ChangeSpec.witness6 (enc := enc) (C := Try.checked) false ⟨#[], #[.int .i64 0, .agg #[.int .u64 0, .int .u64 0, .bool false], .agg #[.int .u64 0, .int .u64 0, .bool false], .agg #[.int .u64 0, .int .u64 0, .bool false], .int .u32 0, .int .u32 0], []⟩ 8 (by kernel_rfl) (by kernel_rfl) (by kernel_rfl) (by kernel_rfl)) ?_
  intro Wd base args ds gs before hval0 hW _ _
  have hval : ∀ (j : Nat) t v, Try.f7.params[j]? = some t → args[j]? = some v → Value.okWide Try.prog Wd .any base t v := hval0
  have hW' := hW
  obtain ⟨p, q, hA0, hV, rfl, _, _⟩ := hW
  have hA : DataW.TrodAll enc Try.prog Wd 0 (fun _ => true) true Try.f7.params.toList args.toList ds p := hA0
  rw [Try.params7] at hA hval
  obtain ⟨v0, v1, v2, v3, v4, v5, d0, d1, d2, d3, d4, d5, p0, p1, p2, p3, p4, p5, rfl, rfl, rfl, h0, h1, h2, h3, h4, h5⟩ := trodAll_six hA
  obtain ⟨rfl, rfl⟩ := trodVars_none hV
  obtain ⟨x0, rfl, rfl, rfl, w0⟩ := open_int Try.underlying22 (hval 0 22 v0 rfl rfl) h0
  obtain ⟨x1, y1, z1, a1, b1, rfl, rfl, t1⟩ := l1_open h1 (hval 1 25 v1 rfl rfl)
  obtain ⟨x2, y2, z2, a2, b2, rfl, rfl, t2⟩ := l1_open h2 (hval 2 25 v2 rfl rfl)
  obtain ⟨x3, y3, z3, a3, b3, rfl, rfl, t3⟩ := l1_open h3 (hval 3 25 v3 rfl rfl)
  obtain ⟨z4, rfl, rfl, rfl, w4⟩ := open_int Try.underlying68 (hval 4 68 v4 rfl rfl) h4
  obtain ⟨x4, e4⟩ : ∃ y, z4 = Int.ofNat (y % 4294967296) := ⟨_, (u32_lit w4).symm⟩
  subst e4
  obtain ⟨z5, rfl, rfl, rfl, w5⟩ := open_int Try.underlying68 (hval 5 68 v5 rfl rfl) h5
  obtain ⟨x5, e5⟩ : ∃ y, z5 = Int.ofNat (y % 4294967296) := ⟨_, (u32_lit w5).symm⟩
  subst e5
  clear hA0 hval0
  simp only [List.append_nil] at hW'
  refine (littleBilinear_calls x0 x1 y1 z1 a1 b1 x2 y2 z2 a2 b2 x3 y3 z3 a3 b3 x4 x5 Wd).mono fun e W' ⟨he, hw⟩ => ?_
  subst he
  have hg := hw.grown
  exact ⟨_, rfl, post_of_same (pa := []) (pv := []) hW' (fun _ _ _ => trodAll_mk1 (shut_bool Try.underlying4 true)) (fun sp hsp => trodAll_mk6 (shut_int Try.underlying22 w0) (t1 _ _ _ _) (t2 _ _ _ _) (t3 _ _ _ _) (shut_int Try.underlying68 w4) (shut_int Try.underlying68 w5)) (fun _ _ => rfl) rfl (hg.frame _) hg.2.1 (ok_one (by kernel_rfl) rfl (okWide_bool_mk Try.underlying4 true))⟩

theorem littleBilinear_holds : Rows.LittleBilinearSaid :=
  OpenClaim.holds_of_wide 7 Try.f7 rfl rfl rfl rfl rfl rfl rfl ⟨rfl, rfl, rfl, rfl, rfl⟩ rfl rfl rfl rfl rfl (by kernel_rfl) Try.func7 (by kernel_rfl)
    (of_decide_eq_true (by kernel_rfl)) (by unfold Func.isWrapper; rw [if_neg (of_decide_eq_false (by kernel_rfl))]; exact ⟨rfl, rfl⟩)
    (fun os started H enc _ => littleBilinear_lifted os started H enc)
end Go.Proofs.Ytafiafkeigdjhaa
