/- reliquarylaw07.LittlePairs answers true at every input, and leaves it as it was. Conditions: none. -/
import Derived.Test.YtafiafkeigdjhaaRows
import Derived.Test.YtafiafkeigdjhaaLTells
import Derived.ProofKit
import Derived.Carry
namespace Go.Proofs.Ytafiafkeigdjhaa
open Go.Rq Go Go.ChangeShapes Go.WideShapes Go.ChangeAt Go.RowKit
theorem eqF_self (n : Nat) (f : Nat → Nat) : (eqN W n f f && true) = true := by
  have h : eqN W n f f = true := by
    induction n with
    | zero => rfl
    | succ n ih => unfold eqN; simp [ih]
  rw [h]; rfl
theorem neF_self (n : Nat) (f : Nat → Nat) : (!(eqN W n f f && true)) = false := by rw [eqF_self]; rfl
def gPaB : List (Nat × CallC) := [(11, .pure (cSuB)), (19, .pure (kPairB)), (20, .pure (kTimesB)), (21, .pure (kPowerB))]
theorem gPaB_ok : CtxOk Try.prog (ctxL (gPaB)) := ctxL_cons okOfB' <| ctxL_cons okEPairB <| ctxL_cons okETimesB <| ctxL_cons okEPowerB ctxL_nil
def gPaN (s : Int) (p r c gx gy : Nat) : List (Nat × CallC) := [(19, .pure (kPairF s p r c gx gy)), (11, .pure (cSu s p r c gx gy)), (20, .pure (kTimes s p r c gx gy)), (21, .pure (kPower s p r c gx gy)), (23, .pure (w1)), (22, .pure (w2)), (24, .pure (w2n)), (25, .pure (y1 LwP fun p r P => .v1 (.sc (.bo (inN p r P))))), (26, .pure (y2c))]
theorem gPaN_ok {s : Int} {p r c gx gy : Nat} (hC : CuOk s p r c gx gy) : CtxOk Try.prog (ctxL (gPaN s p r c gx gy)) := ctxL_cons (okEPairF hC) <| ctxL_cons (okOf' hC) <| ctxL_cons (okETimes hC) <| ctxL_cons (okEPower hC) <| ctxL_cons okLeft' <| ctxL_cons okTimes2' <| ctxL_cons okPower2' <| ctxL_cons okIn' <| ctxL_cons okPair' ctxL_nil
def gPaY (s : Int) (p r c gx gy : Nat) : List (Nat × CallC) := [(19, .pure (kPair s p r c gx gy)), (11, .pure (cSu s p r c gx gy)), (20, .pure (kTimes s p r c gx gy)), (21, .pure (kPower s p r c gx gy)), (23, .pure (w1)), (22, .pure (w2)), (24, .pure (w2n)), (25, .pure (y1 LwP fun p r P => .v1 (.sc (.bo (inN p r P))))), (26, .pure (y2c))]
theorem gPaY_ok {s : Int} {p r c gx gy : Nat} (hC : CuOk s p r c gx gy) : CtxOk Try.prog (ctxL (gPaY s p r c gx gy)) := ctxL_cons (okEPair hC) <| ctxL_cons (okOf' hC) <| ctxL_cons (okETimes hC) <| ctxL_cons (okEPower hC) <| ctxL_cons okLeft' <| ctxL_cons okTimes2' <| ctxL_cons okPower2' <| ctxL_cons okIn' <| ctxL_cons okPair' ctxL_nil
theorem pairs_bad {t : Int} {x y : Nat} {z : Bool} {u v : Nat} {w : Bool} {a b : Nat → Nat} {n : Nat} (h1 : t ≠ 1) (h2 : t ≠ 2) : AWqS Try.prog (fun _ => False) (flatC (bodyOf Try.f4)) (FEnd' tt Try.f4 (.v1 (.sc (.bo true)))) ⟨frame0 [.v1 (.sc (.it t)), .v1 (.agg [.one (.w .u64 x), .one (.w .u64 y), .one (.bo z)]), .v1 (.agg [.one (.w .u64 u), .one (.w .u64 v), .one (.bo w)]), .v1 (.agg [.ws .u64 2 a]), .v1 (.agg [.ws .u64 2 b]), .v1 (.sc (.w .u64 n))] Try.f4.ntmps, []⟩ := by
  refine evS_q mixed tt_ok gPaB_ok 100 [] (same (p := t ≠ 1 ∧ t ≠ 2 ∧ t ≠ 1 ∧ t ≠ 2 ∧ t ≠ 1 ∧ t ≠ 2 ∧ t ≠ 1 ∧ t ≠ 2 ∧ endT) ?_ (by kernel_rfl))
  exact ⟨h1, h2, h1, h2, h1, h2, h1, h2, endT_ok⟩
theorem pairs_none {s : Int} {p r c gx gy : Nat} {t : Int} {x y : Nat} {z : Bool} {u v : Nat} {w : Bool} {a b : Nat → Nat} {n : Nat} (hC : CuOk s p r c gx gy) (hs : t = s) (hl : LwP p ⟨x, y, z⟩) (hm : LwP p ⟨u, v, w⟩) (ha : inN p r ⟨x, y, z⟩ = false) (hf : (inN p r ⟨x, y, z⟩ && inN p r ⟨u, v, w⟩) = false) : AWqS Try.prog (fun _ => False) (flatC (bodyOf Try.f4)) (FEnd' tt Try.f4 (.v1 (.sc (.bo true)))) ⟨frame0 [.v1 (.sc (.it t)), .v1 (.agg [.one (.w .u64 x), .one (.w .u64 y), .one (.bo z)]), .v1 (.agg [.one (.w .u64 u), .one (.w .u64 v), .one (.bo w)]), .v1 (.agg [.ws .u64 2 a]), .v1 (.agg [.ws .u64 2 b]), .v1 (.sc (.w .u64 n))] Try.f4.ntmps, []⟩ := by
  refine evS_q mixed tt_ok (gPaN_ok hC) 100 [⟨8,9,.lit (.bo false)⟩,⟨8,22,.lit (.bo false)⟩,⟨10,3,.lit (.bo true)⟩] (same (p := t = s ∧ t = s ∧ LwP p ⟨x, y, z⟩ ∧ LwP p ⟨u, v, w⟩ ∧ (inN p r ⟨x, y, z⟩ && inN p r ⟨u, v, w⟩) = false ∧ t = s ∧ t = s ∧ Gp p ∧ Gp p ∧ Gp p ∧ Lt2 p (f2' (a 0 % W % p) (a 1 % W % p)) ∧ Lt2 p (f2' (b 0 % W % p) (b 1 % W % p)) ∧ (!(eqN W 2 (k2 p (f2' (a 0 % W % p) (a 1 % W % p)) (f2' (b 0 % W % p) (b 1 % W % p))) (k2 p (f2' (a 0 % W % p) (a 1 % W % p)) (f2' (b 0 % W % p) (b 1 % W % p))) && true)) = false ∧ Gp p ∧ Gp p ∧ Lt2 p (f2' (a 0 % W % p) (a 1 % W % p)) ∧ (!(eqN W 2 (pow2 p (f2' (a 0 % W % p) (a 1 % W % p)) (n % W)) (pow2 p (f2' (a 0 % W % p) (a 1 % W % p)) (n % W)) && true)) = false ∧ Gp p ∧ LwP p ⟨x, y, z⟩ ∧ (!inN p r ⟨x, y, z⟩) = true ∧ endT) ?_ (by kernel_rfl))
  exact ⟨hs, hs, hl, hm, hf, hs, hs, hC.gp, hC.gp, hC.gp, ⟨Nat.mod_lt _ hC.gp.pos, Nat.mod_lt _ hC.gp.pos⟩, ⟨Nat.mod_lt _ hC.gp.pos, Nat.mod_lt _ hC.gp.pos⟩, neF_self _ _, hC.gp, hC.gp, ⟨Nat.mod_lt _ hC.gp.pos, Nat.mod_lt _ hC.gp.pos⟩, neF_self _ _, hC.gp, hl, by rw [ha]; rfl, endT_ok⟩
theorem pairs_one {s : Int} {p r c gx gy : Nat} {t : Int} {x y : Nat} {z : Bool} {u v : Nat} {w : Bool} {a b : Nat → Nat} {n : Nat} (hC : CuOk s p r c gx gy) (hs : t = s) (hl : LwP p ⟨x, y, z⟩) (hm : LwP p ⟨u, v, w⟩) (ha : inN p r ⟨x, y, z⟩ = true) (hb : inN p r ⟨u, v, w⟩ = false) (hf : (inN p r ⟨x, y, z⟩ && inN p r ⟨u, v, w⟩) = false) : AWqS Try.prog (fun _ => False) (flatC (bodyOf Try.f4)) (FEnd' tt Try.f4 (.v1 (.sc (.bo true)))) ⟨frame0 [.v1 (.sc (.it t)), .v1 (.agg [.one (.w .u64 x), .one (.w .u64 y), .one (.bo z)]), .v1 (.agg [.one (.w .u64 u), .one (.w .u64 v), .one (.bo w)]), .v1 (.agg [.ws .u64 2 a]), .v1 (.agg [.ws .u64 2 b]), .v1 (.sc (.w .u64 n))] Try.f4.ntmps, []⟩ := by
  refine evS_q mixed tt_ok (gPaN_ok hC) 100 [⟨8,9,.lit (.bo false)⟩,⟨8,22,.lit (.bo false)⟩,⟨10,3,.lit (.bo false)⟩,⟨10,8,.lit (.bo true)⟩] (same (p := t = s ∧ t = s ∧ LwP p ⟨x, y, z⟩ ∧ LwP p ⟨u, v, w⟩ ∧ (inN p r ⟨x, y, z⟩ && inN p r ⟨u, v, w⟩) = false ∧ t = s ∧ t = s ∧ Gp p ∧ Gp p ∧ Gp p ∧ Lt2 p (f2' (a 0 % W % p) (a 1 % W % p)) ∧ Lt2 p (f2' (b 0 % W % p) (b 1 % W % p)) ∧ (!(eqN W 2 (k2 p (f2' (a 0 % W % p) (a 1 % W % p)) (f2' (b 0 % W % p) (b 1 % W % p))) (k2 p (f2' (a 0 % W % p) (a 1 % W % p)) (f2' (b 0 % W % p) (b 1 % W % p))) && true)) = false ∧ Gp p ∧ Gp p ∧ Lt2 p (f2' (a 0 % W % p) (a 1 % W % p)) ∧ (!(eqN W 2 (pow2 p (f2' (a 0 % W % p) (a 1 % W % p)) (n % W)) (pow2 p (f2' (a 0 % W % p) (a 1 % W % p)) (n % W)) && true)) = false ∧ Gp p ∧ LwP p ⟨x, y, z⟩ ∧ (!inN p r ⟨x, y, z⟩) = false ∧ Gp p ∧ LwP p ⟨u, v, w⟩ ∧ (!inN p r ⟨u, v, w⟩) = true ∧ endT) ?_ (by kernel_rfl))
  exact ⟨hs, hs, hl, hm, hf, hs, hs, hC.gp, hC.gp, hC.gp, ⟨Nat.mod_lt _ hC.gp.pos, Nat.mod_lt _ hC.gp.pos⟩, ⟨Nat.mod_lt _ hC.gp.pos, Nat.mod_lt _ hC.gp.pos⟩, neF_self _ _, hC.gp, hC.gp, ⟨Nat.mod_lt _ hC.gp.pos, Nat.mod_lt _ hC.gp.pos⟩, neF_self _ _, hC.gp, hl, by rw [ha]; rfl, hC.gp, hm, by rw [hb]; rfl, endT_ok⟩
theorem pairs_both {s : Int} {p r c gx gy : Nat} {t : Int} {x y : Nat} {z : Bool} {u v : Nat} {w : Bool} {a b : Nat → Nat} {n : Nat} (hC : CuOk s p r c gx gy) (hs : t = s) (hl : LwP p ⟨x, y, z⟩) (hm : LwP p ⟨u, v, w⟩) (ha : inN p r ⟨x, y, z⟩ = true) (hb : inN p r ⟨u, v, w⟩ = true) : AWqS Try.prog (fun _ => False) (flatC (bodyOf Try.f4)) (FEnd' tt Try.f4 (.v1 (.sc (.bo true)))) ⟨frame0 [.v1 (.sc (.it t)), .v1 (.agg [.one (.w .u64 x), .one (.w .u64 y), .one (.bo z)]), .v1 (.agg [.one (.w .u64 u), .one (.w .u64 v), .one (.bo w)]), .v1 (.agg [.ws .u64 2 a]), .v1 (.agg [.ws .u64 2 b]), .v1 (.sc (.w .u64 n))] Try.f4.ntmps, []⟩ := by
  refine evS_q mixed tt_ok (gPaY_ok hC) 100 [⟨8,9,.lit (.bo false)⟩,⟨8,22,.lit (.bo false)⟩,⟨10,3,.lit (.bo false)⟩,⟨10,8,.lit (.bo false)⟩,⟨12,5,.lit (.bo true)⟩] (same (p := t = s ∧ t = s ∧ inN p r ⟨x, y, z⟩ = true ∧ inN p r ⟨u, v, w⟩ = true ∧ t = s ∧ t = s ∧ Gp p ∧ Gp p ∧ Gp p ∧ Lt2 p (f2' (a 0 % W % p) (a 1 % W % p)) ∧ Lt2 p (f2' (b 0 % W % p) (b 1 % W % p)) ∧ (!(eqN W 2 (k2 p (f2' (a 0 % W % p) (a 1 % W % p)) (f2' (b 0 % W % p) (b 1 % W % p))) (k2 p (f2' (a 0 % W % p) (a 1 % W % p)) (f2' (b 0 % W % p) (b 1 % W % p))) && true)) = false ∧ Gp p ∧ Gp p ∧ Lt2 p (f2' (a 0 % W % p) (a 1 % W % p)) ∧ (!(eqN W 2 (pow2 p (f2' (a 0 % W % p) (a 1 % W % p)) (n % W)) (pow2 p (f2' (a 0 % W % p) (a 1 % W % p)) (n % W)) && true)) = false ∧ Gp p ∧ LwP p ⟨x, y, z⟩ ∧ (!inN p r ⟨x, y, z⟩) = false ∧ Gp p ∧ LwP p ⟨u, v, w⟩ ∧ (!inN p r ⟨u, v, w⟩) = false ∧ Gp p ∧ r % W ≠ 0 ∧ c * (p - 1) < W ∧ OnP p ⟨x, y, z⟩ ∧ OnP p ⟨u, v, w⟩ ∧ (eqN W 2 (pairN p r c ⟨x, y, z⟩ ⟨u, v, w⟩) (pairN p r c ⟨x, y, z⟩ ⟨u, v, w⟩) && true) = true ∧ endT) ?_ (by kernel_rfl))
  exact ⟨hs, hs, ha, hb, hs, hs, hC.gp, hC.gp, hC.gp, ⟨Nat.mod_lt _ hC.gp.pos, Nat.mod_lt _ hC.gp.pos⟩, ⟨Nat.mod_lt _ hC.gp.pos, Nat.mod_lt _ hC.gp.pos⟩, neF_self _ _, hC.gp, hC.gp, ⟨Nat.mod_lt _ hC.gp.pos, Nat.mod_lt _ hC.gp.pos⟩, neF_self _ _, hC.gp, hl, by rw [ha]; rfl, hC.gp, hm, by rw [hb]; rfl, hC.gp, hC.r0, hC.cp, in_on ha, in_on hb, eqF_self _ _, endT_ok⟩
theorem littlePairs_calls (t : Int) (x y : Nat) (z : Bool) (hx : x < W) (hy : y < W) (u v : Nat) (w : Bool) (hu : u < W) (hv : v < W) (a b : Nat → Nat) (n : Nat) (Wd : World) :
    Calls Try.prog 4 ([.v1 (.sc (.it t)), .v1 (.agg [.one (.w .u64 x), .one (.w .u64 y), .one (.bo z)]), .v1 (.agg [.one (.w .u64 u), .one (.w .u64 v), .one (.bo w)]), .v1 (.agg [.ws .u64 2 a]), .v1 (.agg [.ws .u64 2 b]), .v1 (.sc (.w .u64 n))].map (AV.val fun _ => 0)).toArray Wd (fun e w' => e = .returned (.bool true) ∧ StepW Wd w') := by
  refine pure_calls tt_ok Try.func4 (by kernel_rfl) (by kernel_rfl) (v := .v1 (.sc (.bo true))) (by kernel_rfl) ?_ Wd
  rcases cu_cases t with ⟨h1, h2⟩ | ⟨p, r, c, gx, gy, hC⟩
  · exact pairs_bad h1 h2
  · have hl : LwP p ⟨x, y, z⟩ := ⟨hx, hy⟩
    have hm : LwP p ⟨u, v, w⟩ := ⟨hu, hv⟩
    cases ha : inN p r ⟨x, y, z⟩
    · exact pairs_none hC rfl hl hm ha (by rw [ha]; rfl)
    · cases hb : inN p r ⟨u, v, w⟩
      · exact pairs_one hC rfl hl hm ha hb (by rw [hb, Bool.and_false])
      · exact pairs_both hC rfl hl hm ha hb
theorem littlePairs_lifted (os : Os) (started : os.Started) (H : Type) (enc : TypeId × Value → H) :
    ReturnsInHanded {} Try.checked os 4 .any (Rows.littlePairsSpec.pre6 enc Try.prog Try.f4 Rows.littlePairsRow.domain false) (Rows.littlePairsSpec.post enc Try.prog Try.f4 false true false false) := by
  refine returnsInHanded_of_change (C := Try.checked) Try.own started (by kernel_rfl) Try.func4
    (ChangeSpec.witness6 (enc := enc) (C := Try.checked) false ⟨#[], #[.int .i64 0, .agg #[.int .u64 0, .int .u64 0, .bool false], .agg #[.int .u64 0, .int .u64 0, .bool false], .agg #[.int .u64 0, .int .u64 0], .agg #[.int .u64 0, .int .u64 0], .int .u64 0], []⟩ 8 (by kernel_rfl) (by kernel_rfl) (by kernel_rfl) (by kernel_rfl)) ?_
  intro Wd base args ds gs before hval0 hW _ _
  have hval : ∀ (j : Nat) t v, Try.f4.params[j]? = some t → args[j]? = some v → Value.okWide Try.prog Wd .any base t v := hval0
  have hW' := hW
  obtain ⟨p, q, hA0, hV, rfl, _, _⟩ := hW
  have hA : DataW.TrodAll enc Try.prog Wd 0 (fun _ => true) true Try.f4.params.toList args.toList ds p := hA0
  rw [Try.params4] at hA hval
  obtain ⟨v0, v1, v2, v3, v4, v5, d0, d1, d2, d3, d4, d5, p0, p1, p2, p3, p4, p5, rfl, rfl, rfl, h0, h1, h2, h3, h4, h5⟩ := trodAll_six hA
  obtain ⟨rfl, rfl⟩ := trodVars_none hV
  obtain ⟨x0, rfl, rfl, rfl, w0⟩ := open_int Try.underlying22 (hval 0 22 v0 rfl rfl) h0
  obtain ⟨x1, y1, z1, a1, b1, rfl, rfl, t1⟩ := l1_open h1 (hval 1 25 v1 rfl rfl)
  obtain ⟨x2, y2, z2, a2, b2, rfl, rfl, t2⟩ := l1_open h2 (hval 2 25 v2 rfl rfl)
  obtain ⟨x3, rfl, rfl, t3⟩ := l2_open h3 (hval 3 43 v3 rfl rfl)
  obtain ⟨x4, rfl, rfl, t4⟩ := l2_open h4 (hval 4 43 v4 rfl rfl)
  obtain ⟨z5, rfl, rfl, rfl, w5⟩ := open_int Try.underlying23 (hval 5 23 v5 rfl rfl) h5
  obtain ⟨x5, e5⟩ : ∃ y, z5 = Int.ofNat (y % W) := ⟨_, (u64_lit w5).symm⟩
  subst e5
  clear hA0 hval0
  simp only [List.append_nil] at hW'
  refine (littlePairs_calls x0 x1 y1 z1 a1 b1 x2 y2 z2 a2 b2 x3 x4 x5 Wd).mono fun e W' ⟨he, hw⟩ => ?_
  subst he
  have hg := hw.grown
  exact ⟨_, rfl, post_of_same (pa := []) (pv := []) hW' (fun _ _ _ => trodAll_mk1 (shut_bool Try.underlying4 true)) (fun sp _ => trodAll_mk6 (shut_int Try.underlying22 w0) (t1 _ _ _ _) (t2 _ _ _ _) (t3 _ _ _ _) (t4 _ _ _ _) (shut_int Try.underlying23 w5)) (fun _ _ => rfl) rfl (hg.frame _) hg.2.1 (ok_one (by kernel_rfl) rfl (okWide_bool_mk Try.underlying4 true))⟩

theorem littlePairs_holds : Rows.LittlePairsSaid :=
  OpenClaim.holds_of_wide 4 Try.f4 rfl rfl rfl rfl rfl rfl rfl ⟨rfl, rfl, rfl, rfl, rfl⟩ rfl rfl rfl rfl rfl (by kernel_rfl) Try.func4 (by kernel_rfl)
    (of_decide_eq_true (by kernel_rfl)) (by unfold Func.isWrapper; rw [if_neg (of_decide_eq_false (by kernel_rfl))]; exact ⟨rfl, rfl⟩)
    (fun os started H enc _ => littlePairs_lifted os started H enc)
end Go.Proofs.Ytafiafkeigdjhaa
