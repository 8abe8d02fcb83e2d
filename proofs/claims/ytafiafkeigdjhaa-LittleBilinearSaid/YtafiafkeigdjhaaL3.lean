/- Points of the little curves: contracts of the code's and of the document's functions. Printed by genl3.py. -/
import Derived.Test.YtafiafkeigdjhaaL2
import Derived.Test.YtafiafkeigdjhaaWZ3
namespace Go.Proofs.Ytafiafkeigdjhaa
open Go.Rq Go
set_option linter.unusedVariables false
set_option linter.unusedSimpArgs false

abbrev pC (x y : Nat) (z : Bool) : List Cell := [.one (.w .u64 x), .one (.w .u64 y), .one (.bo z)]
abbrev pv (P : LP) : AV := .v1 (.agg (pC P.x P.y P.z))
abbrev cw (p r c gx gy : Nat) (gz : Bool) : AV := .v1 (.agg (cvC p r c gx gy gz))
abbrev LtP (p : Nat) (P : LP) : Prop := P.x < p ∧ P.y < p
def y1 (pr : Nat → LP → Prop) (F : Nat → Nat → LP → AV) : List AV → Option (List Prop × AV)
  | [.v1 (.agg [.one (.w .u64 p), .one (.w .u64 r), .one (.w .u64 c), .one (.w .u64 gx), .one (.w .u64 gy), .one (.bo gz)]), .v1 (.agg [.one (.w .u64 x), .one (.w .u64 y), .one (.bo z)])] => some ([Gp p, pr p ⟨x, y, z⟩], F p r ⟨x, y, z⟩)
  | _ => none
def y2 (pr : Nat → LP → Prop) (F : Nat → LP → LP → AV) : List AV → Option (List Prop × AV)
  | [.v1 (.agg [.one (.w .u64 p), .one (.w .u64 r), .one (.w .u64 c), .one (.w .u64 gx), .one (.w .u64 gy), .one (.bo gz)]), .v1 (.agg [.one (.w .u64 x), .one (.w .u64 y), .one (.bo z)]), .v1 (.agg [.one (.w .u64 u), .one (.w .u64 v), .one (.bo w)])] => some ([Gp p, pr p ⟨x, y, z⟩, pr p ⟨u, v, w⟩], F p ⟨x, y, z⟩ ⟨u, v, w⟩)
  | _ => none
def yn (pr : Nat → LP → Prop) (F : Nat → LP → Nat → AV) : List AV → Option (List Prop × AV)
  | [.v1 (.agg [.one (.w .u64 p), .one (.w .u64 r), .one (.w .u64 c), .one (.w .u64 gx), .one (.w .u64 gy), .one (.bo gz)]), .v1 (.agg [.one (.w .u64 x), .one (.w .u64 y), .one (.bo z)]), .v1 (.sc (.w .u64 n))] => some ([Gp p, pr p ⟨x, y, z⟩], F p ⟨x, y, z⟩ (n % W))
  | _ => none
theorem y1_ok {pr : Nat → LP → Prop} {F : Nat → Nat → LP → AV} (hF : ∀ p r P, vokB (F p r P) = true) {f : FuncId} {fn : Func} (hf : Try.prog.funcs[f]? = some fn) (hb : fn.body = some (bodyOf fn)) (hn : (fn.name == "runtime.NumGoroutine") = false)
    (h : ∀ p r c gx gy gz x y z, Gp p → pr p ⟨x, y, z⟩ → AWqS Try.prog (fun _ => False) (flatC (bodyOf fn)) (FEnd' tt fn (F p r ⟨x, y, z⟩)) ⟨frame0 [cw p r c gx gy gz, .v1 (.agg (pC x y z))] fn.ntmps, []⟩) : (CallC.pure (y1 pr F)).Ok Try.prog f := by
  intro args pre v e hp
  unfold y1 at e
  split at e
  · cases e
    exact pure_walk' tt_ok hf hb hn (by rfl) (hF _ _ _) (h _ _ _ _ _ _ _ _ _ (hp _ (by simp)) (hp _ (by simp)))
  · cases e
theorem y2_ok {pr : Nat → LP → Prop} {F : Nat → LP → LP → AV} (hF : ∀ p P Q, vokB (F p P Q) = true) {f : FuncId} {fn : Func} (hf : Try.prog.funcs[f]? = some fn) (hb : fn.body = some (bodyOf fn)) (hn : (fn.name == "runtime.NumGoroutine") = false)
    (h : ∀ p r c gx gy gz x y z u v w, Gp p → pr p ⟨x, y, z⟩ → pr p ⟨u, v, w⟩ → AWqS Try.prog (fun _ => False) (flatC (bodyOf fn)) (FEnd' tt fn (F p ⟨x, y, z⟩ ⟨u, v, w⟩)) ⟨frame0 [cw p r c gx gy gz, .v1 (.agg (pC x y z)), .v1 (.agg (pC u v w))] fn.ntmps, []⟩) : (CallC.pure (y2 pr F)).Ok Try.prog f := by
  intro args pre v e hp
  unfold y2 at e
  split at e
  · cases e
    exact pure_walk' tt_ok hf hb hn (by rfl) (hF _ _ _) (h _ _ _ _ _ _ _ _ _ _ _ _ (hp _ (by simp)) (hp _ (by simp)) (hp _ (by simp)))
  · cases e
theorem yn_ok {pr : Nat → LP → Prop} {F : Nat → LP → Nat → AV} (hF : ∀ p P n, vokB (F p P n) = true) {f : FuncId} {fn : Func} (hf : Try.prog.funcs[f]? = some fn) (hb : fn.body = some (bodyOf fn)) (hn : (fn.name == "runtime.NumGoroutine") = false)
    (h : ∀ p r c gx gy gz x y z n, Gp p → pr p ⟨x, y, z⟩ → AWqS Try.prog (fun _ => False) (flatC (bodyOf fn)) (FEnd' tt fn (F p ⟨x, y, z⟩ (n % W))) ⟨frame0 [cw p r c gx gy gz, .v1 (.agg (pC x y z)), uv n] fn.ntmps, []⟩) : (CallC.pure (yn pr F)).Ok Try.prog f := by
  intro args pre v e hp
  unfold yn at e
  split at e
  · cases e
    exact pure_walk' tt_ok hf hb hn (by rfl) (hF _ _ _) (h _ _ _ _ _ _ _ _ _ _ (hp _ (by simp)) (hp _ (by simp)))
  · cases e
def LwP (_ : Nat) (P : LP) : Prop := P.x < W ∧ P.y < W
def slV (p : Nat) (P Q : LP) : AV := .tup [.sc (.w .u64 (bif upB P Q then 0 else slN p P Q)), .sc (.bo (!upB P Q))]
theorem slN_lt {p : Nat} (h : Gp p) {P Q : LP} : slN p P Q < p := by
  unfold slN
  cases Nat.beq P.x Q.x
  · exact zMul_lt h
  · exact zMul_lt h
theorem one_lt {p : Nat} (h : Gp p) : 1 < p := Nat.lt_trans (by decide) h.big
theorem bf {b : Bool} (h : ¬ b = true) : b = false := by simpa using h
theorem beq_f {a b : Nat} (h : a ≠ b) : Nat.beq a b = false := by rw [← Bool.not_eq_true, Nat.beq_eq]; exact h
theorem beq_t {a b : Nat} (h : a = b) : Nat.beq a b = true := by rw [Nat.beq_eq]; exact h
theorem blt_f {a b : Nat} (h : ¬ a < b) : Nat.blt a b = false := by rw [← Bool.not_eq_true, Nat.blt_eq]; exact h
theorem blt_t {a b : Nat} (h : a < b) : Nat.blt a b = true := by rw [Nat.blt_eq]; exact h
theorem lt_w {p a : Nat} (h : Gp p) (ha : a < p) : a % W = a := Nat.mod_eq_of_lt (Nat.lt_trans (Nat.lt_trans ha h.lt) (by decide))


/-! little.curve -/
def GOn : Ctx := ctxL [(63, .pure (z2 zMul)), (62, .pure (z1 zRight))]
theorem GOn_ok : CtxOk Try.prog GOn := ctxL_cons okZMul <| ctxL_cons okZRight ctxL_nil
theorem okOn : (CallC.pure (y1 LwP fun p _ P => .v1 (.sc (.bo (onB p P))))).Ok Try.prog 44 := by
  refine y1_ok (fun _ _ _ => rfl) Try.func44 (by kernel_rfl) (by kernel_rfl) fun p r c gx gy gz x y z hP hL => ?_
  obtain ⟨hx, hy⟩ : x < W ∧ y < W := hL
  have ex : x % W = x := Nat.mod_eq_of_lt hx
  have ey : y % W = y := Nat.mod_eq_of_lt hy
  have ep : p % W = p := hP.mod
  have hm := zMul_lt (a := y) (b := y) hP
  have hr := zRight_lt (a := x) hP
  cases z
  · by_cases h1 : x < p
    · by_cases h2 : y < p
      · refine evS_q mixed tt_ok GOn_ok 60 [⟨3,4,.lit (.bo true)⟩,⟨3,10,.lit (.bo true)⟩] ?_
        refine same (p := Nat.blt (x % W) (p % W) = true ∧ Nat.blt (y % W) (p % W) = true ∧ Gp p ∧ y < p ∧ y < p ∧ Gp p ∧ x < p ∧ endV (.v1 (.sc (.bo (Nat.beq (zMul p y y % W) (zRight p x % W))))) (.v1 (.sc (.bo (onB p ⟨x, y, false⟩))))) ?_ (by kernel_rfl)
        rw [ex, ey, ep]
        refine ⟨blt_t h1, blt_t h2, hP, h2, h2, hP, h1, _, rfl, fun ρ => ?_⟩
        rw [lt_w hP hm, lt_w hP hr]
        unfold onB
        rw [cond_false, blt_t h1, blt_t h2]
        rfl
      · refine evS_q mixed tt_ok GOn_ok 60 [⟨3,4,.lit (.bo true)⟩,⟨3,10,.lit (.bo false)⟩] ?_
        refine same (p := Nat.blt (x % W) (p % W) = true ∧ Nat.blt (y % W) (p % W) = false ∧ endV (.v1 (.sc (.bo false))) (.v1 (.sc (.bo (onB p ⟨x, y, false⟩))))) ?_ (by kernel_rfl)
        rw [ex, ey, ep]
        refine ⟨blt_t h1, blt_f h2, _, rfl, fun ρ => ?_⟩
        unfold onB
        rw [cond_false, blt_t h1, blt_f h2]
        rfl
    · refine evS_q mixed tt_ok GOn_ok 60 [⟨3,4,.lit (.bo false)⟩] ?_
      refine same (p := Nat.blt (x % W) (p % W) = false ∧ endV (.v1 (.sc (.bo false))) (.v1 (.sc (.bo (onB p ⟨x, y, false⟩))))) ?_ (by kernel_rfl)
      rw [ex, ep]
      refine ⟨blt_f h1, _, rfl, fun ρ => ?_⟩
      unfold onB
      rw [cond_false, blt_f h1]
      rfl
  · by_cases h1 : x = 0
    · refine evS_q mixed tt_ok GOn_ok 60 [⟨2,2,.lit (.bo true)⟩] ?_
      refine same (p := Nat.beq (x % W) 0 = true ∧ endV (.v1 (.sc (.bo (Nat.beq (y % W) 0)))) (.v1 (.sc (.bo (onB p ⟨x, y, true⟩))))) ?_ (by kernel_rfl)
      rw [ex, ey]
      refine ⟨beq_t h1, _, rfl, fun ρ => ?_⟩
      unfold onB
      rw [cond_true, beq_t h1]
      rfl
    · refine evS_q mixed tt_ok GOn_ok 60 [⟨2,2,.lit (.bo false)⟩] ?_
      refine same (p := Nat.beq (x % W) 0 = false ∧ endV (.v1 (.sc (.bo false))) (.v1 (.sc (.bo (onB p ⟨x, y, true⟩))))) ?_ (by kernel_rfl)
      rw [ex]
      refine ⟨beq_f h1, _, rfl, fun ρ => ?_⟩
      unfold onB
      rw [cond_true, beq_f h1]
      rfl

/-! reliquaryref07.Curve -/
def GOn' : Ctx := ctxL [(46, .pure (z2 zMul)), (47, .pure (z1 zRight))]
theorem GOn'_ok : CtxOk Try.prog GOn' := ctxL_cons okZMul' <| ctxL_cons okZRight' ctxL_nil
theorem okOn' : (CallC.pure (y1 LwP fun p _ P => .v1 (.sc (.bo (onB p P))))).Ok Try.prog 16 := by
  refine y1_ok (fun _ _ _ => rfl) Try.func16 (by kernel_rfl) (by kernel_rfl) fun p r c gx gy gz x y z hP hL => ?_
  obtain ⟨hx, hy⟩ : x < W ∧ y < W := hL
  have ex : x % W = x := Nat.mod_eq_of_lt hx
  have ey : y % W = y := Nat.mod_eq_of_lt hy
  have ep : p % W = p := hP.mod
  have hm := zMul_lt (a := y) (b := y) hP
  have hr := zRight_lt (a := x) hP
  cases z
  · by_cases h1 : x < p
    · by_cases h2 : y < p
      · refine evS_q mixed tt_ok GOn'_ok 60 [⟨3,4,.lit (.bo true)⟩,⟨3,10,.lit (.bo true)⟩] ?_
        refine same (p := Nat.blt (x % W) (p % W) = true ∧ Nat.blt (y % W) (p % W) = true ∧ Gp p ∧ y < p ∧ y < p ∧ Gp p ∧ x < p ∧ endV (.v1 (.sc (.bo (Nat.beq (zMul p y y % W) (zRight p x % W))))) (.v1 (.sc (.bo (onB p ⟨x, y, false⟩))))) ?_ (by kernel_rfl)
        rw [ex, ey, ep]
        refine ⟨blt_t h1, blt_t h2, hP, h2, h2, hP, h1, _, rfl, fun ρ => ?_⟩
        rw [lt_w hP hm, lt_w hP hr]
        unfold onB
        rw [cond_false, blt_t h1, blt_t h2]
        rfl
      · refine evS_q mixed tt_ok GOn'_ok 60 [⟨3,4,.lit (.bo true)⟩,⟨3,10,.lit (.bo false)⟩] ?_
        refine same (p := Nat.blt (x % W) (p % W) = true ∧ Nat.blt (y % W) (p % W) = false ∧ endV (.v1 (.sc (.bo false))) (.v1 (.sc (.bo (onB p ⟨x, y, false⟩))))) ?_ (by kernel_rfl)
        rw [ex, ey, ep]
        refine ⟨blt_t h1, blt_f h2, _, rfl, fun ρ => ?_⟩
        unfold onB
        rw [cond_false, blt_t h1, blt_f h2]
        rfl
    · refine evS_q mixed tt_ok GOn'_ok 60 [⟨3,4,.lit (.bo false)⟩] ?_
      refine same (p := Nat.blt (x % W) (p % W) = false ∧ endV (.v1 (.sc (.bo false))) (.v1 (.sc (.bo (onB p ⟨x, y, false⟩))))) ?_ (by kernel_rfl)
      rw [ex, ep]
      refine ⟨blt_f h1, _, rfl, fun ρ => ?_⟩
      unfold onB
      rw [cond_false, blt_f h1]
      rfl
  · by_cases h1 : x = 0
    · refine evS_q mixed tt_ok GOn'_ok 60 [⟨2,2,.lit (.bo true)⟩] ?_
      refine same (p := Nat.beq (x % W) 0 = true ∧ endV (.v1 (.sc (.bo (Nat.beq (y % W) 0)))) (.v1 (.sc (.bo (onB p ⟨x, y, true⟩))))) ?_ (by kernel_rfl)
      rw [ex, ey]
      refine ⟨beq_t h1, _, rfl, fun ρ => ?_⟩
      unfold onB
      rw [cond_true, beq_t h1]
      rfl
    · refine evS_q mixed tt_ok GOn'_ok 60 [⟨2,2,.lit (.bo false)⟩] ?_
      refine same (p := Nat.beq (x % W) 0 = false ∧ endV (.v1 (.sc (.bo false))) (.v1 (.sc (.bo (onB p ⟨x, y, true⟩))))) ?_ (by kernel_rfl)
      rw [ex]
      refine ⟨beq_f h1, _, rfl, fun ρ => ?_⟩
      unfold onB
      rw [cond_true, beq_f h1]
      rfl

/-! the code's slope and sum -/
def GSl : Ctx := ctxL [(63, .pure (z2 zMul)), (64, .pure (z2 zAdd)), (60, .pure (z2 zSub)), (73, .pure (z1 zInv))]
theorem GSl_ok : CtxOk Try.prog GSl := ctxL_cons okZMul <| ctxL_cons okZAdd <| ctxL_cons okZSub <| ctxL_cons okZInv ctxL_nil
theorem okSlope : (CallC.pure (y2 LtP slV)).Ok Try.prog 70 := by
  refine y2_ok (fun _ _ _ => rfl) Try.func70 (by kernel_rfl) (by kernel_rfl) fun p r c gx gy gz x y z u v w hP h1 h2 => ?_
  obtain ⟨hx, hy⟩ : x < p ∧ y < p := h1
  obtain ⟨hu, hv⟩ : u < p ∧ v < p := h2
  have ex := lt_w hP hx
  have ey := lt_w hP hy
  have eu := lt_w hP hu
  have ev := lt_w hP hv
  by_cases hxu : x = u
  · by_cases hyv : y = v
    · by_cases hy0 : y = 0
      · refine evS_q mixed tt_ok GSl_ok 60 [⟨1,4,.lit (.bo false)⟩,⟨3,4,.lit (.bo false)⟩,⟨3,8,.lit (.bo true)⟩] ?_
        refine same (p := (!Nat.beq (x % W) (u % W)) = false ∧ (!Nat.beq (y % W) (v % W)) = false ∧ Nat.beq (y % W) 0 = true ∧ endV (.tup [.sc (.w .u64 0), .sc (.bo false)]) (slV p ⟨x, y, z⟩ ⟨u, v, w⟩)) ?_ (by kernel_rfl)
        rw [ex, eu, ey, ev]
        refine ⟨by rw [beq_t hxu]; rfl, by rw [beq_t hyv]; rfl, beq_t hy0, _, rfl, fun ρ => ?_⟩
        have hup : upB ⟨x, y, z⟩ ⟨u, v, w⟩ = true := by unfold upB; rw [beq_t hxu, beq_t hyv, beq_t hy0]; rfl
        unfold slV
        rw [hup]
        rfl
      · refine evS_q mixed tt_ok GSl_ok 60 [⟨1,4,.lit (.bo false)⟩,⟨3,4,.lit (.bo false)⟩,⟨3,8,.lit (.bo false)⟩] ?_
        refine same (p := (!Nat.beq (x % W) (u % W)) = false ∧ (!Nat.beq (y % W) (v % W)) = false ∧ Nat.beq (y % W) 0 = false ∧ Gp p ∧ x < p ∧ x < p ∧ Gp p ∧ zMul p x x < p ∧ zMul p x x < p ∧ Gp p ∧ zAdd p (zMul p x x) (zMul p x x) < p ∧ zMul p x x < p ∧ Gp p ∧ zAdd p (zAdd p (zMul p x x) (zMul p x x)) (zMul p x x) < p ∧ 1 < p ∧ Gp p ∧ y < p ∧ y < p ∧ Gp p ∧ zAdd p y y < p ∧ Gp p ∧ zAdd p (zAdd p (zAdd p (zMul p x x) (zMul p x x)) (zMul p x x)) 1 < p ∧ zInv p (zAdd p y y) < p ∧ endV (.tup [.sc (.w .u64 (zMul p (zAdd p (zAdd p (zAdd p (zMul p x x) (zMul p x x)) (zMul p x x)) 1) (zInv p (zAdd p y y)))), .sc (.bo true)]) (slV p ⟨x, y, z⟩ ⟨u, v, w⟩)) ?_ (by kernel_rfl)
        rw [ex, eu, ey, ev]
        refine ⟨by rw [beq_t hxu]; rfl, by rw [beq_t hyv]; rfl, beq_f hy0, hP, hx, hx, hP, zMul_lt hP, zMul_lt hP, hP, zAdd_lt hP, zMul_lt hP, hP, zAdd_lt hP, one_lt hP, hP, hy, hy, hP, zAdd_lt hP, hP, zAdd_lt hP, zInv_lt hP, _, rfl, fun ρ => ?_⟩
        have hup : upB ⟨x, y, z⟩ ⟨u, v, w⟩ = false := by unfold upB; rw [beq_t hxu, beq_t hyv, beq_f hy0]; rfl
        have hsl : slN p ⟨x, y, z⟩ ⟨u, v, w⟩ = zMul p (zAdd p (zAdd p (zAdd p (zMul p x x) (zMul p x x)) (zMul p x x)) 1) (zInv p (zAdd p y y)) := by unfold slN; rw [beq_t hxu]; rfl
        unfold slV
        rw [hup, hsl]
        rfl
    · refine evS_q mixed tt_ok GSl_ok 60 [⟨1,4,.lit (.bo false)⟩,⟨3,4,.lit (.bo true)⟩] ?_
      refine same (p := (!Nat.beq (x % W) (u % W)) = false ∧ (!Nat.beq (y % W) (v % W)) = true ∧ endV (.tup [.sc (.w .u64 0), .sc (.bo false)]) (slV p ⟨x, y, z⟩ ⟨u, v, w⟩)) ?_ (by kernel_rfl)
      rw [ex, eu, ey, ev]
      refine ⟨by rw [beq_t hxu]; rfl, by rw [beq_f hyv]; rfl, _, rfl, fun ρ => ?_⟩
      have hup : upB ⟨x, y, z⟩ ⟨u, v, w⟩ = true := by unfold upB; rw [beq_t hxu, beq_f hyv]; rfl
      unfold slV
      rw [hup]
      rfl
  · refine evS_q mixed tt_ok GSl_ok 60 [⟨1,4,.lit (.bo true)⟩] ?_
    refine same (p := (!Nat.beq (x % W) (u % W)) = true ∧ Gp p ∧ v < p ∧ y < p ∧ Gp p ∧ u < p ∧ x < p ∧ Gp p ∧ zSub p u x < p ∧ Gp p ∧ zSub p v y < p ∧ zInv p (zSub p u x) < p ∧ endV (.tup [.sc (.w .u64 (zMul p (zSub p v y) (zInv p (zSub p u x)))), .sc (.bo true)]) (slV p ⟨x, y, z⟩ ⟨u, v, w⟩)) ?_ (by kernel_rfl)
    rw [ex, eu]
    refine ⟨by rw [beq_f hxu]; rfl, hP, hv, hy, hP, hu, hx, hP, zSub_lt hP, hP, zSub_lt hP, zInv_lt hP, _, rfl, fun ρ => ?_⟩
    have hup : upB ⟨x, y, z⟩ ⟨u, v, w⟩ = false := by unfold upB; rw [beq_f hxu]; rfl
    have hsl : slN p ⟨x, y, z⟩ ⟨u, v, w⟩ = zMul p (zSub p v y) (zInv p (zSub p u x)) := by unfold slN; rw [beq_f hxu]; rfl
    unfold slV
    rw [hup, hsl]
    rfl
end Go.Proofs.Ytafiafkeigdjhaa
