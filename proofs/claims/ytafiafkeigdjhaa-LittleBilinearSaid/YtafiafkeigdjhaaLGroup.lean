/- reliquarylaw07.LittleGroup answers true at every input, and leaves it as it was. Conditions: none. -/
import Derived.Test.YtafiafkeigdjhaaRows
import Derived.Test.YtafiafkeigdjhaaLTells
import Derived.Test.YtafiafkeigdjhaaLAw
import Derived.ProofKit
import Derived.Carry
namespace Go.Proofs.Ytafiafkeigdjhaa
open Go.Rq Go Go.ChangeShapes Go.WideShapes Go.ChangeAt Go.RowKit
def gGrB : List (Nat × CallC) := [(41, .pure (cAw)), (35, .pure (kCheckB))]
theorem gGrB_ok : CtxOk Try.prog (ctxL (gGrB)) := ctxL_cons okAw <| ctxL_cons okECheckB ctxL_nil
def gGrN (s : Int) (p r c gx gy : Nat) : List (Nat × CallC) := [(41, .pure (cAw)), (35, .pure (kCheck s p r c gx gy))]
theorem gGrN_ok {s : Int} {p r c gx gy : Nat} (hC : CuOk s p r c gx gy) : CtxOk Try.prog (ctxL (gGrN s p r c gx gy)) := ctxL_cons okAw <| ctxL_cons (okECheck hC) ctxL_nil
def gGrY (s : Int) (p r c gx gy : Nat) : List (Nat × CallC) := [(41, .pure (cAw)), (35, .pure (kCheck s p r c gx gy)), (30, .pure (kAdd s p r c gx gy)), (31, .pure (kMul s p r c gx gy)), (33, .pure (kNeg s p r c gx gy))]
theorem gGrY_ok {s : Int} {p r c gx gy : Nat} (hC : CuOk s p r c gx gy) : CtxOk Try.prog (ctxL (gGrY s p r c gx gy)) := ctxL_cons okAw <| ctxL_cons (okECheck hC) <| ctxL_cons (okEAdd hC) <| ctxL_cons (okEMul hC) <| ctxL_cons (okENeg hC) ctxL_nil
theorem group_bad {t : Int} {x y : Nat} {z : Bool} {u v : Nat} {w : Bool} {d e : Nat} {f : Bool} {m n : Nat} (h1 : t ≠ 1) (h2 : t ≠ 2) : AWqS Try.prog (fun _ => False) (flatC (bodyOf Try.f6)) (FEnd' tt Try.f6 (.v1 (.sc (.bo true)))) ⟨frame0 [.v1 (.sc (.it t)), .v1 (.agg [.one (.w .u64 x), .one (.w .u64 y), .one (.bo z)]), .v1 (.agg [.one (.w .u64 u), .one (.w .u64 v), .one (.bo w)]), .v1 (.agg [.one (.w .u64 d), .one (.w .u64 e), .one (.bo f)]), .v1 (.sc (.w .u32 m)), .v1 (.sc (.w .u32 n))] Try.f6.ntmps, []⟩ := by
  refine evS_q mixed tt_ok gGrB_ok 100 [] (same (p := t ≠ 1 ∧ t ≠ 2 ∧ endT) ?_ (by kernel_rfl))
  exact ⟨h1, h2, endT_ok⟩
theorem group_a {s : Int} {p r c gx gy : Nat} {t : Int} {x y : Nat} {z : Bool} {u v : Nat} {w : Bool} {d e : Nat} {f : Bool} {m n : Nat} (hC : CuOk s p r c gx gy) (hs : t = s) (hl : LwP p ⟨x, y, z⟩) (hm : LwP p ⟨u, v, w⟩) (hk : LwP p ⟨d, e, f⟩) (ha : onB p ⟨x, y, z⟩ = false) : AWqS Try.prog (fun _ => False) (flatC (bodyOf Try.f6)) (FEnd' tt Try.f6 (.v1 (.sc (.bo true)))) ⟨frame0 [.v1 (.sc (.it t)), .v1 (.agg [.one (.w .u64 x), .one (.w .u64 y), .one (.bo z)]), .v1 (.agg [.one (.w .u64 u), .one (.w .u64 v), .one (.bo w)]), .v1 (.agg [.one (.w .u64 d), .one (.w .u64 e), .one (.bo f)]), .v1 (.sc (.w .u32 m)), .v1 (.sc (.w .u32 n))] Try.f6.ntmps, []⟩ := by
  refine evS_q mixed tt_ok (gGrN_ok hC) 100 [⟨2,3,.lit (.bo true)⟩] (same (p := t = s ∧ LwP p ⟨x, y, z⟩ ∧ (!onB p ⟨x, y, z⟩) = true ∧ endT) ?_ (by kernel_rfl))
  exact ⟨hs, hl, by rw [ha]; rfl, endT_ok⟩
theorem group_b {s : Int} {p r c gx gy : Nat} {t : Int} {x y : Nat} {z : Bool} {u v : Nat} {w : Bool} {d e : Nat} {f : Bool} {m n : Nat} (hC : CuOk s p r c gx gy) (hs : t = s) (hl : LwP p ⟨x, y, z⟩) (hm : LwP p ⟨u, v, w⟩) (hk : LwP p ⟨d, e, f⟩) (ha : onB p ⟨x, y, z⟩ = true) (hb : onB p ⟨u, v, w⟩ = false) : AWqS Try.prog (fun _ => False) (flatC (bodyOf Try.f6)) (FEnd' tt Try.f6 (.v1 (.sc (.bo true)))) ⟨frame0 [.v1 (.sc (.it t)), .v1 (.agg [.one (.w .u64 x), .one (.w .u64 y), .one (.bo z)]), .v1 (.agg [.one (.w .u64 u), .one (.w .u64 v), .one (.bo w)]), .v1 (.agg [.one (.w .u64 d), .one (.w .u64 e), .one (.bo f)]), .v1 (.sc (.w .u32 m)), .v1 (.sc (.w .u32 n))] Try.f6.ntmps, []⟩ := by
  refine evS_q mixed tt_ok (gGrN_ok hC) 100 [⟨2,3,.lit (.bo false)⟩,⟨2,8,.lit (.bo true)⟩] (same (p := t = s ∧ LwP p ⟨x, y, z⟩ ∧ (!onB p ⟨x, y, z⟩) = false ∧ t = s ∧ LwP p ⟨u, v, w⟩ ∧ (!onB p ⟨u, v, w⟩) = true ∧ endT) ?_ (by kernel_rfl))
  exact ⟨hs, hl, by rw [ha]; rfl, hs, hm, by rw [hb]; rfl, endT_ok⟩
theorem group_c {s : Int} {p r c gx gy : Nat} {t : Int} {x y : Nat} {z : Bool} {u v : Nat} {w : Bool} {d e : Nat} {f : Bool} {m n : Nat} (hC : CuOk s p r c gx gy) (hs : t = s) (hl : LwP p ⟨x, y, z⟩) (hm : LwP p ⟨u, v, w⟩) (hk : LwP p ⟨d, e, f⟩) (ha : onB p ⟨x, y, z⟩ = true) (hb : onB p ⟨u, v, w⟩ = true) (hc : onB p ⟨d, e, f⟩ = false) : AWqS Try.prog (fun _ => False) (flatC (bodyOf Try.f6)) (FEnd' tt Try.f6 (.v1 (.sc (.bo true)))) ⟨frame0 [.v1 (.sc (.it t)), .v1 (.agg [.one (.w .u64 x), .one (.w .u64 y), .one (.bo z)]), .v1 (.agg [.one (.w .u64 u), .one (.w .u64 v), .one (.bo w)]), .v1 (.agg [.one (.w .u64 d), .one (.w .u64 e), .one (.bo f)]), .v1 (.sc (.w .u32 m)), .v1 (.sc (.w .u32 n))] Try.f6.ntmps, []⟩ := by
  refine evS_q mixed tt_ok (gGrN_ok hC) 100 [⟨2,3,.lit (.bo false)⟩,⟨2,8,.lit (.bo false)⟩,⟨2,14,.lit (.bo true)⟩] (same (p := t = s ∧ LwP p ⟨x, y, z⟩ ∧ (!onB p ⟨x, y, z⟩) = false ∧ t = s ∧ LwP p ⟨u, v, w⟩ ∧ (!onB p ⟨u, v, w⟩) = false ∧ t = s ∧ LwP p ⟨d, e, f⟩ ∧ (!onB p ⟨d, e, f⟩) = true ∧ endT) ?_ (by kernel_rfl))
  exact ⟨hs, hl, by rw [ha]; rfl, hs, hm, by rw [hb]; rfl, hs, hk, by rw [hc]; rfl, endT_ok⟩
theorem eqLP_of {P Q : LP} (h : P = Q) : eqLP P Q = true := by rw [h]; exact eqLP_self Q
theorem u32_add (m n : Nat) : (m % 4294967296 + n % 4294967296) % W = m % 4294967296 % W + n % 4294967296 % W := by simp only [W]; omega
theorem u32_mul (m n : Nat) : (m % 4294967296 * (n % 4294967296)) % W = m % 4294967296 % W * (n % 4294967296 % W) := by
  have h1 : m % 4294967296 < 4294967296 := Nat.mod_lt _ (by decide)
  have h2 : n % 4294967296 < 4294967296 := Nat.mod_lt _ (by decide)
  have h3 : m % 4294967296 * (n % 4294967296) < 4294967296 * 4294967296 := Nat.mul_lt_mul_of_lt_of_lt h1 h2
  rw [Nat.mod_eq_of_lt (a := m % 4294967296) (by simp only [W]; omega), Nat.mod_eq_of_lt (a := n % 4294967296) (by simp only [W]; omega), Nat.mod_eq_of_lt (by simp only [W]; omega)]
theorem group_all {s : Int} {p r c gx gy : Nat} {t : Int} {x y : Nat} {z : Bool} {u v : Nat} {w : Bool} {d e : Nat} {f : Bool} {m n : Nat} (hC : CuOk s p r c gx gy) (hs : t = s) (hl : LwP p ⟨x, y, z⟩) (hm : LwP p ⟨u, v, w⟩) (hk : LwP p ⟨d, e, f⟩) (ha : OnP p ⟨x, y, z⟩) (hb : OnP p ⟨u, v, w⟩) (hc : OnP p ⟨d, e, f⟩) : AWqS Try.prog (fun _ => False) (flatC (bodyOf Try.f6)) (FEnd' tt Try.f6 (.v1 (.sc (.bo true)))) ⟨frame0 [.v1 (.sc (.it t)), .v1 (.agg [.one (.w .u64 x), .one (.w .u64 y), .one (.bo z)]), .v1 (.agg [.one (.w .u64 u), .one (.w .u64 v), .one (.bo w)]), .v1 (.agg [.one (.w .u64 d), .one (.w .u64 e), .one (.bo f)]), .v1 (.sc (.w .u32 m)), .v1 (.sc (.w .u32 n))] Try.f6.ntmps, []⟩ := by
  refine evS_q mixed tt_ok (gGrY_ok hC) 100 [⟨2,3,.lit (.bo false)⟩,⟨2,8,.lit (.bo false)⟩,⟨2,14,.lit (.bo false)⟩,⟨17,12,.lit (.bo true)⟩,⟨17,17,.lit (.bo true)⟩,⟨17,22,.lit (.bo true)⟩,⟨17,27,.lit (.bo true)⟩,⟨17,32,.lit (.bo true)⟩,⟨17,37,.lit (.bo true)⟩] (same (p := t = s ∧ LwP p ⟨x, y, z⟩ ∧ (!onB p ⟨x, y, z⟩) = false ∧ t = s ∧ LwP p ⟨u, v, w⟩ ∧ (!onB p ⟨u, v, w⟩) = false ∧ t = s ∧ LwP p ⟨d, e, f⟩ ∧ (!onB p ⟨d, e, f⟩) = false ∧ t = s ∧ OnP p ⟨x, y, z⟩ ∧ OnP p ⟨u, v, w⟩ ∧ t = s ∧ OnP p ⟨u, v, w⟩ ∧ OnP p ⟨x, y, z⟩ ∧ t = s ∧ OnP p ⟨u, v, w⟩ ∧ OnP p ⟨d, e, f⟩ ∧ t = s ∧ OnP p (sumN p (⟨x, y, z⟩) (⟨u, v, w⟩)) ∧ OnP p ⟨d, e, f⟩ ∧ t = s ∧ OnP p ⟨x, y, z⟩ ∧ OnP p (sumN p (⟨u, v, w⟩) (⟨d, e, f⟩)) ∧ t = s ∧ OnP p ⟨x, y, z⟩ ∧ t = s ∧ OnP p ⟨x, y, z⟩ ∧ OnP p (negL p ⟨x, y, z⟩) ∧ t = s ∧ OnP p ⟨x, y, z⟩ ∧ t = s ∧ OnP p ⟨x, y, z⟩ ∧ t = s ∧ OnP p (mulP p (⟨x, y, z⟩) (m % 4294967296 % W)) ∧ OnP p (mulP p (⟨x, y, z⟩) (n % 4294967296 % W)) ∧ t = s ∧ OnP p ⟨x, y, z⟩ ∧ t = s ∧ OnP p (mulP p (⟨x, y, z⟩) (m % 4294967296 % W)) ∧ t = s ∧ OnP p ⟨x, y, z⟩ ∧ eqLP (sumN p (⟨x, y, z⟩) (⟨u, v, w⟩)) (sumN p (⟨u, v, w⟩) (⟨x, y, z⟩)) = true ∧ eqLP (sumN p (sumN p (⟨x, y, z⟩) (⟨u, v, w⟩)) (⟨d, e, f⟩)) (sumN p (⟨x, y, z⟩) (sumN p (⟨u, v, w⟩) (⟨d, e, f⟩))) = true ∧ eqLP (sumN p (⟨x, y, z⟩) (negL p ⟨x, y, z⟩)) ⟨0, 0, true⟩ = true ∧ eqLP (sumN p (mulP p (⟨x, y, z⟩) (m % 4294967296 % W)) (mulP p (⟨x, y, z⟩) (n % 4294967296 % W))) (mulP p (⟨x, y, z⟩) ((m % 4294967296 + n % 4294967296) % W)) = true ∧ eqLP (mulP p (mulP p (⟨x, y, z⟩) (m % 4294967296 % W)) (n % 4294967296 % W)) (mulP p (⟨x, y, z⟩) ((m % 4294967296 * (n % 4294967296)) % W)) = true ∧ onB p (sumN p (sumN p (⟨x, y, z⟩) (⟨u, v, w⟩)) (⟨d, e, f⟩)) = true ∧ t = s ∧ LwP p (sumN p (sumN p (⟨x, y, z⟩) (⟨u, v, w⟩)) (⟨d, e, f⟩)) ∧ endT) ?_ (by kernel_rfl))
  exact ⟨hs, hl, by rw [ha]; rfl, hs, hm, by rw [hb]; rfl, hs, hk, by rw [hc]; rfl, hs, ha, hb, hs, hb, ha, hs, hb, hc, hs, on_sum hC.gp ha hb, hc, hs, ha, on_sum hC.gp hb hc, hs, ha, hs, ha, on_neg hC.gp ha, hs, ha, hs, ha, hs, on_mulP hC.gp ha _, on_mulP hC.gp ha _, hs, ha, hs, on_mulP hC.gp ha _, hs, ha, eqLP_of (sum_comm hC.gp ha hb), eqLP_of (sum_assoc hC.gp ha hb hc), eqLP_of (sum_neg hC.gp ha), eqLP_of (by rw [u32_add, mulP_add hC.gp ha]), eqLP_of (by rw [u32_mul, mulP_mul hC.gp ha]), on_sum hC.gp (on_sum hC.gp ha hb) hc, hs, OnP.lw hC.gp (on_sum hC.gp (on_sum hC.gp ha hb) hc), endT_ok⟩
theorem littleGroup_calls (t : Int) (x y : Nat) (z : Bool) (hx : x < W) (hy : y < W) (u v : Nat) (w : Bool) (hu : u < W) (hv : v < W) (d e : Nat) (f : Bool) (hd : d < W) (he : e < W) (m n : Nat) (Wd : World) :
    Calls Try.prog 6 ([.v1 (.sc (.it t)), .v1 (.agg [.one (.w .u64 x), .one (.w .u64 y), .one (.bo z)]), .v1 (.agg [.one (.w .u64 u), .one (.w .u64 v), .one (.bo w)]), .v1 (.agg [.one (.w .u64 d), .one (.w .u64 e), .one (.bo f)]), .v1 (.sc (.w .u32 m)), .v1 (.sc (.w .u32 n))].map (AV.val fun _ => 0)).toArray Wd (fun e w' => e = .returned (.bool true) ∧ StepW Wd w') := by
  refine pure_calls tt_ok Try.func6 (by kernel_rfl) (by kernel_rfl) (v := .v1 (.sc (.bo true))) (by kernel_rfl) ?_ Wd
  rcases cu_cases t with ⟨h1, h2⟩ | ⟨p, r, c, gx, gy, hC⟩
  · exact group_bad h1 h2
  · have hl : LwP p ⟨x, y, z⟩ := ⟨hx, hy⟩
    have hm : LwP p ⟨u, v, w⟩ := ⟨hu, hv⟩
    have hk : LwP p ⟨d, e, f⟩ := ⟨hd, he⟩
    cases ha : onB p ⟨x, y, z⟩
    · exact group_a hC rfl hl hm hk ha
    · cases hb : onB p ⟨u, v, w⟩
      · exact group_b hC rfl hl hm hk ha hb
      · cases hc : onB p ⟨d, e, f⟩
        · exact group_c hC rfl hl hm hk ha hb hc
        · exact group_all hC rfl hl hm hk ha hb hc
theorem littleGroup_lifted (os : Os) (started : os.Started) (H : Type) (enc : TypeId × Value → H) :
    ReturnsInHanded {} Try.checked os 6 .any (Rows.littleGroupSpec.pre6 enc Try.prog Try.f6 Rows.littleGroupRow.domain false) (Rows.littleGroupSpec.post enc Try.prog Try.f6 false true false false) := by
  refine returnsInHanded_of_change (C := Try.checked) Try.own started (by kernel_rfl) Try.func6
    (ChangeSpec.witness6 (enc := enc) (C := Try.checked) false ⟨#[], #[.int .i64 0, .agg #[.int .u64 0, .int .u64 0, .bool false], .agg #[.int .u64 0, .int .u64 0, .bool false], .agg #[.int .u64 0, .int .u64 0, .bool false], .int .u32 0, .int .u32 0], []⟩ 8 (by kernel_rfl) (by kernel_rfl) (by kernel_rfl) (by kernel_rfl)) ?_
  intro Wd base args ds gs before hval0 hW _ _
  have hval : ∀ (j : Nat) t v, Try.f6.params[j]? = some t → args[j]? = some v → Value.okWide Try.prog Wd .any base t v := hval0
  have hW' := hW
  obtain ⟨p, q, hA0, hV, rfl, _, _⟩ := hW
  have hA : DataW.TrodAll enc Try.prog Wd 0 (fun _ => true) true Try.f6.params.toList args.toList ds p := hA0
  rw [Try.params6] at hA hval
  obtain ⟨v0, v1, v2, v3, v4, v5, d0, d1, d2, d3, d4, d5, p0, p1, p2, p3, p4, p5, rfl, rfl, rfl, h0, h1, h2, h3, h4, h5⟩ := trodAll_six hA
  obtain ⟨rfl, rfl⟩ := trodVars_none hV
  obtain ⟨x0, rfl, rfl, rfl, w0⟩ := open_int Try.underlying22 (hval 0 22 v0 rfl rfl) h0
  obtain ⟨x1, y1, z1, a1, b1, rfl, rfl, t1⟩ := l1_open h1 (hval 1 25 v1 rfl rfl)
  obtain ⟨x2, y2, z2, a2, b2, rfl, rfl, t2⟩ := l1_open h2 (hval 2 25 v2 rfl rfl)
  obtain ⟨x3, y3, z3, a3, b3, rfl, rfl, t3⟩ := l1_open h3 (hval 3 25 v3 rfl rfl)
  obtain ⟨z4, rfl, rfl, rfl, w4⟩ := open_int Try.underlying68 (hval 4 68 v4 rfl rfl) h4
  obtain ⟨x4, e4⟩ : ∃ y, z4 = Int.ofNat (y % 4294967296) := ⟨_, (u32_lit w4).symm⟩
  subst e4
  obtain ⟨z5, rfl, rfl, rfl, w5⟩ := open_int Try.underlying68 (hval 5 68 v5 rfl rfl) h5
  obtain ⟨x5, e5⟩ : ∃ y, z5 = Int.ofNat (y % 4294967296) := ⟨_, (u32_lit w5).symm⟩
  subst e5
  clear hA0 hval0
  simp only [List.append_nil] at hW'
  refine (littleGroup_calls x0 x1 y1 z1 a1 b1 x2 y2 z2 a2 b2 x3 y3 z3 a3 b3 x4 x5 Wd).mono fun e W' ⟨he, hw⟩ => ?_
  subst he
  have hg := hw.grown
  exact ⟨_, rfl, post_of_same (pa := []) (pv := []) hW' (fun _ _ _ => trodAll_mk1 (shut_bool Try.underlying4 true)) (fun sp _ => trodAll_mk6 (shut_int Try.underlying22 w0) (t1 _ _ _ _) (t2 _ _ _ _) (t3 _ _ _ _) (shut_int Try.underlying68 w4) (shut_int Try.underlying68 w5)) (fun _ _ => rfl) rfl (hg.frame _) hg.2.1 (ok_one (by kernel_rfl) rfl (okWide_bool_mk Try.underlying4 true))⟩

theorem littleGroup_holds : Rows.LittleGroupSaid :=
  OpenClaim.holds_of_wide 6 Try.f6 rfl rfl rfl rfl rfl rfl rfl ⟨rfl, rfl, rfl, rfl, rfl⟩ rfl rfl rfl rfl rfl (by kernel_rfl) Try.func6 (by kernel_rfl)
    (of_decide_eq_true (by kernel_rfl)) (by unfold Func.isWrapper; rw [if_neg (of_decide_eq_false (by kernel_rfl))]; exact ⟨rfl, rfl⟩)
    (fun os started H enc _ => littleGroup_lifted os started H enc)
end Go.Proofs.Ytafiafkeigdjhaa
