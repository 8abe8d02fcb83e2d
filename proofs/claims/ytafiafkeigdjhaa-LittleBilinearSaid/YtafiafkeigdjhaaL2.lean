/- The little curves' numbers: contracts of the code's and of the document's functions. Printed by genl2.py. -/
import Derived.Test.YtafiafkeigdjhaaL1
import Derived.Test.YtafiafkeigdjhaaWZ
import Derived.Test.YtafiafkeigdjhaaWM4
namespace Go.Proofs.Ytafiafkeigdjhaa
open Go.Rq Go
set_option linter.unusedVariables false
set_option linter.unusedSimpArgs false

/-- A suite as it is held. -/
abbrev cvC (p r c gx gy : Nat) (gz : Bool) : List Cell := [.one (.w .u64 p), .one (.w .u64 r), .one (.w .u64 c), .one (.w .u64 gx), .one (.w .u64 gy), .one (.bo gz)]
abbrev endV (u v : AV) : Prop := ∃ v', some u = some v' ∧ ∀ ρ, v'.val ρ = v.val ρ
theorem uv_val {a b : Nat} (h : a % W = b % W) (ρ : Ren) : (uv a).val ρ = (uv b).val ρ := by
  simp only [AV.val, V1.val, Sc.val, M, W] at *
  rw [h]
theorem endV_uv {a b : Nat} (h : a % W = b % W) : endV (uv a) (uv b) := ⟨_, rfl, uv_val h⟩
def z1 (F : Nat → Nat → Nat) : List AV → Option (List Prop × AV)
  | [.v1 (.agg [.one (.w .u64 p), .one (.w .u64 r), .one (.w .u64 c), .one (.w .u64 gx), .one (.w .u64 gy), .one (.bo gz)]), .v1 (.sc (.w .u64 a))] => some ([Gp p, a < p], uv (F p a))
  | _ => none
def z2 (F : Nat → Nat → Nat → Nat) : List AV → Option (List Prop × AV)
  | [.v1 (.agg [.one (.w .u64 p), .one (.w .u64 r), .one (.w .u64 c), .one (.w .u64 gx), .one (.w .u64 gy), .one (.bo gz)]), .v1 (.sc (.w .u64 a)), .v1 (.sc (.w .u64 b))] => some ([Gp p, a < p, b < p], uv (F p a b))
  | _ => none
def zn (F : Nat → Nat → Nat → Nat) : List AV → Option (List Prop × AV)
  | [.v1 (.agg [.one (.w .u64 p), .one (.w .u64 r), .one (.w .u64 c), .one (.w .u64 gx), .one (.w .u64 gy), .one (.bo gz)]), .v1 (.sc (.w .u64 a)), .v1 (.sc (.w .u64 n))] => some ([Gp p, a < p], uv (F p a (n % W)))
  | _ => none
theorem z1_ok {F : Nat → Nat → Nat} {f : FuncId} {fn : Func} (hf : Try.prog.funcs[f]? = some fn) (hb : fn.body = some (bodyOf fn)) (hn : (fn.name == "runtime.NumGoroutine") = false)
    (h : ∀ p r c gx gy gz a, Gp p → a < p → AWqS Try.prog (fun _ => False) (flatC (bodyOf fn)) (FEnd' tt fn (uv (F p a))) ⟨frame0 [.v1 (.agg (cvC p r c gx gy gz)), uv a] fn.ntmps, []⟩) : (CallC.pure (z1 F)).Ok Try.prog f := by
  intro args pre v e hp
  unfold z1 at e
  split at e
  · rename_i p r c gx gy gz a
    cases e
    exact pure_walk' tt_ok hf hb hn (by rfl) (by rfl) (h p r c gx gy gz a (hp _ (by simp)) (hp _ (by simp)))
  · cases e
theorem z2_ok {F : Nat → Nat → Nat → Nat} {f : FuncId} {fn : Func} (hf : Try.prog.funcs[f]? = some fn) (hb : fn.body = some (bodyOf fn)) (hn : (fn.name == "runtime.NumGoroutine") = false)
    (h : ∀ p r c gx gy gz a b, Gp p → a < p → b < p → AWqS Try.prog (fun _ => False) (flatC (bodyOf fn)) (FEnd' tt fn (uv (F p a b))) ⟨frame0 [.v1 (.agg (cvC p r c gx gy gz)), uv a, uv b] fn.ntmps, []⟩) : (CallC.pure (z2 F)).Ok Try.prog f := by
  intro args pre v e hp
  unfold z2 at e
  split at e
  · rename_i p r c gx gy gz a b
    cases e
    exact pure_walk' tt_ok hf hb hn (by rfl) (by rfl) (h p r c gx gy gz a b (hp _ (by simp)) (hp _ (by simp)) (hp _ (by simp)))
  · cases e
theorem zn_ok {F : Nat → Nat → Nat → Nat} {f : FuncId} {fn : Func} (hf : Try.prog.funcs[f]? = some fn) (hb : fn.body = some (bodyOf fn)) (hn : (fn.name == "runtime.NumGoroutine") = false)
    (h : ∀ p r c gx gy gz a n, Gp p → a < p → AWqS Try.prog (fun _ => False) (flatC (bodyOf fn)) (FEnd' tt fn (uv (F p a (n % W)))) ⟨frame0 [.v1 (.agg (cvC p r c gx gy gz)), uv a, uv n] fn.ntmps, []⟩) : (CallC.pure (zn F)).Ok Try.prog f := by
  intro args pre v e hp
  unfold zn at e
  split at e
  · rename_i p r c gx gy gz a n
    cases e
    exact pure_walk' tt_ok hf hb hn (by rfl) (by rfl) (h p r c gx gy gz a n (hp _ (by simp)) (hp _ (by simp)))
  · cases e
def GMl : Ctx := ctxL [(67, .pure cMul64), (68, .pure cRem64)]
theorem GMl_ok : CtxOk Try.prog GMl := ctxL_cons okMul64 <| ctxL_cons okRem64 ctxL_nil
theorem p_ne {p : Nat} (h : Gp p) : Nat.beq (p % W) 0 = false := by rw [h.mod, ← Bool.not_eq_true, Nat.beq_eq]; have := h.pos; omega
theorem p_pos {p : Nat} (h : Gp p) : 0 < p % W := by rw [h.mod]; exact h.pos
theorem add_val {p a b : Nat} (h : Gp p) (ha : a < p) (hb : b < p) : (a + b) % W % (p % W) % W = zAdd p a b % W := by
  have := h.lt
  rw [h.mod, Nat.mod_eq_of_lt (a := a + b) (by simp only [W]; omega)]
  rfl
theorem mul_val {p a b : Nat} (h : Gp p) (ha : a < p) (hb : b < p) : (a % W * (b % W) / W % W * W + a * b % W) % (p % W) % W = zMul p a b % W := by
  have hl := h.lt
  have ha' : a < W := Nat.lt_trans (Nat.lt_trans ha hl) (by decide)
  have hb' : b < W := Nat.lt_trans (Nat.lt_trans hb hl) (by decide)
  rw [h.mod, Nat.mod_eq_of_lt ha', Nat.mod_eq_of_lt hb']
  rcases words_mod a b p with e | e
  · rw [e]; rfl
  · exact absurd (Nat.mul_lt_mul'' ha' hb') (by omega)
theorem sub_val {p a b : Nat} (h : Gp p) (ha : a < p) (hb : b < p) : (a + p + (W - b % W)) % W % (p % W) % W = zSub p a b % W := by
  have hl := h.lt
  have hb' : b % W = b := Nat.mod_eq_of_lt (Nat.lt_trans (Nat.lt_trans hb hl) (by decide))
  have e : (a + p + (W - b)) % W = a + (p - b) := by
    simp only [W]
    omega
  rw [h.mod, hb', e]
  rfl
theorem neg_val {p b : Nat} (h : Gp p) (hb : b < p) : (p + (W - b % W)) % W % (p % W) % W = zSub p 0 b % W := by
  have hl := h.lt
  have hb' : b % W = b := Nat.mod_eq_of_lt (Nat.lt_trans (Nat.lt_trans hb hl) (by decide))
  have e : (p + (W - b)) % W = 0 + (p - b) := by
    simp only [W]
    omega
  rw [h.mod, hb', e]
  rfl
theorem sub_neg {p a b : Nat} (h : Gp p) (ha : a < p) (hb : b < p) : zAdd p a (zSub p 0 b) = zSub p a b := by
  unfold zAdd zSub
  rw [Nat.zero_add, Nat.add_mod_mod]
theorem ilt_nn' (k : Nat) : ilt (Int.ofNat k) 0 = false := by
  rw [← Bool.not_eq_true, ilt_iff]
  simp only [Int.ofNat_eq_natCast]
  omega
/-! bits -/
theorem bit_one {n k : Nat} (hk : k < 64) : ((n % W / 2 ^ min k 64) &&& 1) % W = n % W / 2 ^ k % 2 := by
  rw [show min k 64 = k by omega, Nat.and_one_is_mod]
  have : n % W / 2 ^ k % 2 < 2 := Nat.mod_lt _ (by decide)
  rw [Nat.mod_eq_of_lt]
  exact Nat.lt_trans this (by decide)


/-! little.curve -/
theorem okZAdd : (CallC.pure (z2 zAdd)).Ok Try.prog 64 := by
  refine z2_ok Try.func64 (by kernel_rfl) (by kernel_rfl) fun p r c gx gy gz a b hP ha hb => evS_q mixed tt_ok G0_ok 60 [⟨1,5,.sym⟩] ?_
  exact same (p := Nat.beq (p % W) 0 = false ∧ endV (uv ((a + b) % W % (p % W))) (uv (zAdd p a b))) ⟨p_ne hP, endV_uv (add_val hP ha hb)⟩ (by kernel_rfl)
theorem okZMul : (CallC.pure (z2 zMul)).Ok Try.prog 63 := by
  refine z2_ok Try.func63 (by kernel_rfl) (by kernel_rfl) fun p r c gx gy gz a b hP ha hb => evS_q mixed tt_ok GMl_ok 60 [] ?_
  exact same (p := 0 < p % W ∧ endV (uv ((a % W * (b % W) / W % W * W + a * b % W) % (p % W))) (uv (zMul p a b))) ⟨p_pos hP, endV_uv (mul_val hP ha hb)⟩ (by kernel_rfl)
theorem okZSub : (CallC.pure (z2 zSub)).Ok Try.prog 60 := by
  refine z2_ok Try.func60 (by kernel_rfl) (by kernel_rfl) fun p r c gx gy gz a b hP ha hb => evS_q mixed tt_ok G0_ok 60 [⟨1,8,.sym⟩] ?_
  exact same (p := Nat.beq (p % W) 0 = false ∧ endV (uv ((a + p + (W - b % W)) % W % (p % W))) (uv (zSub p a b))) ⟨p_ne hP, endV_uv (sub_val hP ha hb)⟩ (by kernel_rfl)
def GZr : Ctx := ctxL [(63, .pure (z2 zMul)), (64, .pure (z2 zAdd))]
theorem GZr_ok : CtxOk Try.prog GZr := ctxL_cons okZMul <| ctxL_cons okZAdd ctxL_nil
theorem okZRight : (CallC.pure (z1 zRight)).Ok Try.prog 62 := by
  refine z1_ok Try.func62 (by kernel_rfl) (by kernel_rfl) fun p r c gx gy gz x hP hx => evS_q mixed tt_ok GZr_ok 60 [] ?_
  exact same (p := Gp p ∧ x < p ∧ x < p ∧ Gp p ∧ zMul p x x < p ∧ x < p ∧ Gp p ∧ zMul p (zMul p x x) x < p ∧ x < p ∧ endV (uv (zRight p x)) (uv (zRight p x))) ⟨hP, hx, hx, hP, zMul_lt hP, hx, hP, zMul_lt hP, hx, endV_uv rfl⟩ (by kernel_rfl)
def GZp : Ctx := ctxL [(63, .pure (z2 zMul)), (54, .pure cLen64)]
theorem GZp_ok : CtxOk Try.prog GZp := ctxL_cons okZMul <| ctxL_cons okLen64 ctxL_nil
abbrev cvB (p r c gx gy : Nat) (gz : Bool) : Option Blk := some ⟨72, cvC p r c gx gy gz, 0, 0⟩
abbrev InvZp (p a n : Nat) (x : Nat × Nat) : Prop := x.1 ≤ blen n ∧ x.2 = zPow p a (n / 2 ^ x.1)
abbrev VZp (a n k o : Nat) : List AV := [uv a, uv n, pt 0 0, uv o, iv (predI k)]
theorem okZPow : (CallC.pure (zn zPow)).Ok Try.prog 61 := by
  refine zn_ok Try.func61 (by kernel_rfl) (by kernel_rfl) fun p r c gx gy gz a n hP ha => ?_
  have hbl : blen (n % W) ≤ 64 := blen_lt (k := 64) (Nat.mod_lt _ (by decide))
  refine loopK mixed tt_ok GZp_ok 0 (by kernel_rfl) (ι := {x // InvZp p a (n % W) x}) [1,2,3,7,8] 30 2 (fun x => VZp a n x.1.1 x.1.2) (fun _ => [cvB p r c gx gy gz, none]) (fun x => x.1.1) (fun x => x.1.1 = 0)
    (fun _ => rfl) (fun _ => by kernel_rfl) (fun _ _ h => h.elim) 60 [⟨2,2,.lit (.it (predI (blen (n % W))))⟩] ?_ ?_ ?_
  · refine same (p := wrapI (Int.ofNat (blen (n % W)) - 1) = predI (blen (n % W)) ∧ true = true ∧ ∃ j : {x // InvZp p a (n % W) x}, VZp a n (blen (n % W)) 1 = VZp a n j.1.1 j.1.2 ∧ [cvB p r c gx gy gz, none] = [cvB p r c gx gy gz, none]) ?_ (by kernel_rfl)
    exact ⟨predI_eq (by omega), rfl, ⟨(blen (n % W), 1), Nat.le_refl _, by simp only; rw [high_zero]; rfl⟩, rfl, rfl⟩
  · intro ⟨⟨k, o⟩, hk, ho⟩ junk
    simp only at hk ho
    cases k with
    | zero =>
      refine roundF mixed tt_ok GZp_ok 60 [] ?_
      refine same (p := true = true ∧ ∃ j : {x // InvZp p a (n % W) x}, j.1.1 = 0 ∧ VZp a n 0 o = VZp a n j.1.1 j.1.2 ∧ [cvB p r c gx gy gz, none] = [cvB p r c gx gy gz, none]) ?_ (by kernel_rfl)
      exact ⟨rfl, ⟨(0, o), hk, ho⟩, rfl, rfl, rfl⟩
    | succ k =>
      have hol : o < p := by rw [ho]; exact zPow_lt hP
      have hs : wrapI (Int.ofNat k - 1) = predI k := predI_eq (by omega)
      have hbit := bit_one (n := n) (k := k) (by omega)
      have hne := high_ne (n := n % W) (k := k) (by omega)
      have hhalf := half_pow (n % W) k
      by_cases hb : n % W / 2 ^ k % 2 = 1
      · refine roundF mixed tt_ok GZp_ok 60 [⟨3,1,.lit (.bo true)⟩,⟨6,2,.sym⟩,⟨6,4,.lit (.bo true)⟩,⟨4,1,.lit (.it (predI k))⟩] ?_
        refine same (p := (!ilt (Int.ofNat k) 0) = true ∧ Gp p ∧ o < p ∧ o < p ∧ 0 ≤ Int.ofNat k ∧ Nat.beq (((n % W / 2 ^ min k 64) &&& 1) % W) 1 = true ∧ Gp p ∧ zMul p o o < p ∧ a < p ∧ wrapI (Int.ofNat k - 1) = predI k ∧ true = true ∧
          ∃ j : {x // InvZp p a (n % W) x}, j.1.1 < k + 1 ∧ VZp a n k (zMul p (zMul p o o) a) = VZp a n j.1.1 j.1.2 ∧ [cvB p r c gx gy gz, none] = [cvB p r c gx gy gz, none]) ?_ (by kernel_rfl)
        refine ⟨by rw [ilt_nn']; rfl, hP, hol, hol, Int.natCast_nonneg _, by rw [hbit, hb]; rfl, hP, zMul_lt hP, ha, hs, rfl, ⟨(k, zMul p (zMul p o o) a), by simp only; omega, ?_⟩, by simp only; omega, rfl, rfl⟩
        simp only
        unfold zPow
        rw [powB_odd _ _ _ hb, hhalf, ho]
        rfl
      · refine roundF mixed tt_ok GZp_ok 60 [⟨3,1,.lit (.bo true)⟩,⟨6,2,.sym⟩,⟨6,4,.lit (.bo false)⟩,⟨4,1,.lit (.it (predI k))⟩] ?_
        refine same (p := (!ilt (Int.ofNat k) 0) = true ∧ Gp p ∧ o < p ∧ o < p ∧ 0 ≤ Int.ofNat k ∧ Nat.beq (((n % W / 2 ^ min k 64) &&& 1) % W) 1 = false ∧ wrapI (Int.ofNat k - 1) = predI k ∧ true = true ∧
          ∃ j : {x // InvZp p a (n % W) x}, j.1.1 < k + 1 ∧ VZp a n k (zMul p o o) = VZp a n j.1.1 j.1.2 ∧ [cvB p r c gx gy gz, none] = [cvB p r c gx gy gz, none]) ?_ (by kernel_rfl)
        refine ⟨by rw [ilt_nn']; rfl, hP, hol, hol, Int.natCast_nonneg _, by rw [hbit, ← Bool.not_eq_true, Nat.beq_eq]; exact hb, hs, rfl, ⟨(k, zMul p o o), by simp only; omega, ?_⟩, by simp only; omega, rfl, rfl⟩
        simp only
        unfold zPow
        rw [powB_even _ _ _ hne hb, hhalf, ho]
        rfl
  · intro ⟨⟨k, o⟩, hk, ho⟩ junk h0
    simp only at hk ho h0
    subst h0
    rw [Nat.pow_zero, Nat.div_one] at ho
    subst ho
    refine evS_q mixed tt_ok GZp_ok 60 [] ?_
    exact same (p := endV (uv (zPow p a (n % W))) (uv (zPow p a (n % W)))) (endV_uv rfl) (by kernel_rfl)
def GZi : Ctx := ctxL [(61, .pure (zn zPow))]
theorem GZi_ok : CtxOk Try.prog GZi := ctxL_cons okZPow ctxL_nil
theorem okZInv : (CallC.pure (z1 zInv)).Ok Try.prog 73 := by
  refine z1_ok Try.func73 (by kernel_rfl) (by kernel_rfl) fun p r c gx gy gz a hP ha => ?_
  obtain ⟨n, hn⟩ : ∃ n, n = p + 18446744073709551614 := ⟨_, rfl⟩
  refine evS_q mixed tt_ok GZi_ok 60 [⟨1,4,.lit (.w .u64 n)⟩] ?_
  refine same (p := p + 18446744073709551614 = n ∧ Gp p ∧ a < p ∧ endV (uv (zPow p a (n % W))) (uv (zInv p a))) ⟨hn.symm, hP, ha, endV_uv ?_⟩ (by kernel_rfl)
  have : n % W = p - 2 := by
    have h1 := hP.lt
    have h2 := hP.big
    rw [hn]
    simp only [W]
    omega
  rw [this]
  rfl

/-! reliquaryref07.Curve -/
theorem okZAdd' : (CallC.pure (z2 zAdd)).Ok Try.prog 53 := by
  refine z2_ok Try.func53 (by kernel_rfl) (by kernel_rfl) fun p r c gx gy gz a b hP ha hb => evS_q mixed tt_ok G0_ok 60 [⟨1,5,.sym⟩] ?_
  exact same (p := Nat.beq (p % W) 0 = false ∧ endV (uv ((a + b) % W % (p % W))) (uv (zAdd p a b))) ⟨p_ne hP, endV_uv (add_val hP ha hb)⟩ (by kernel_rfl)
theorem okZMul' : (CallC.pure (z2 zMul)).Ok Try.prog 46 := by
  refine z2_ok Try.func46 (by kernel_rfl) (by kernel_rfl) fun p r c gx gy gz a b hP ha hb => evS_q mixed tt_ok GMl_ok 60 [] ?_
  exact same (p := 0 < p % W ∧ endV (uv ((a % W * (b % W) / W % W * W + a * b % W) % (p % W))) (uv (zMul p a b))) ⟨p_pos hP, endV_uv (mul_val hP ha hb)⟩ (by kernel_rfl)
theorem okZNeg' : (CallC.pure (z1 fun p b => zSub p 0 b)).Ok Try.prog 66 := by
  refine z1_ok Try.func66 (by kernel_rfl) (by kernel_rfl) fun p r c gx gy gz b hP hb => evS_q mixed tt_ok G0_ok 60 [⟨1,6,.sym⟩] ?_
  exact same (p := Nat.beq (p % W) 0 = false ∧ endV (uv ((p + (W - b % W)) % W % (p % W))) (uv (zSub p 0 b))) ⟨p_ne hP, endV_uv (neg_val hP hb)⟩ (by kernel_rfl)
def GZs' : Ctx := ctxL [(66, .pure (z1 fun p b => zSub p 0 b)), (53, .pure (z2 zAdd))]
theorem GZs'_ok : CtxOk Try.prog GZs' := ctxL_cons okZNeg' <| ctxL_cons okZAdd' ctxL_nil
theorem okZSub' : (CallC.pure (z2 zSub)).Ok Try.prog 52 := by
  refine z2_ok Try.func52 (by kernel_rfl) (by kernel_rfl) fun p r c gx gy gz a b hP ha hb => evS_q mixed tt_ok GZs'_ok 60 [] ?_
  exact same (p := Gp p ∧ b < p ∧ Gp p ∧ a < p ∧ zSub p 0 b < p ∧ endV (uv (zAdd p a (zSub p 0 b))) (uv (zSub p a b))) ⟨hP, hb, hP, ha, zSub_lt hP, endV_uv (by rw [sub_neg hP ha hb])⟩ (by kernel_rfl)
def GZr' : Ctx := ctxL [(46, .pure (z2 zMul)), (53, .pure (z2 zAdd))]
theorem GZr'_ok : CtxOk Try.prog GZr' := ctxL_cons okZMul' <| ctxL_cons okZAdd' ctxL_nil
theorem okZRight' : (CallC.pure (z1 zRight)).Ok Try.prog 47 := by
  refine z1_ok Try.func47 (by kernel_rfl) (by kernel_rfl) fun p r c gx gy gz x hP hx => evS_q mixed tt_ok GZr'_ok 60 [] ?_
  exact same (p := Gp p ∧ x < p ∧ x < p ∧ Gp p ∧ zMul p x x < p ∧ x < p ∧ Gp p ∧ zMul p (zMul p x x) x < p ∧ x < p ∧ endV (uv (zRight p x)) (uv (zRight p x))) ⟨hP, hx, hx, hP, zMul_lt hP, hx, hP, zMul_lt hP, hx, endV_uv rfl⟩ (by kernel_rfl)
def GZp' : Ctx := ctxL [(46, .pure (z2 zMul)), (54, .pure cLen64)]
theorem GZp'_ok : CtxOk Try.prog GZp' := ctxL_cons okZMul' <| ctxL_cons okLen64 ctxL_nil
abbrev cvB' (p r c gx gy : Nat) (gz : Bool) : Option Blk := some ⟨29, cvC p r c gx gy gz, 0, 0⟩
abbrev InvZp' (p a n : Nat) (x : Nat × Nat) : Prop := x.1 ≤ blen n ∧ x.2 = zPow p a (n / 2 ^ x.1)
abbrev VZp' (a n k o : Nat) : List AV := [uv a, uv n, pt 0 0, uv o, iv (predI k)]
theorem okZPow' : (CallC.pure (zn zPow)).Ok Try.prog 65 := by
  refine zn_ok Try.func65 (by kernel_rfl) (by kernel_rfl) fun p r c gx gy gz a n hP ha => ?_
  have hbl : blen (n % W) ≤ 64 := blen_lt (k := 64) (Nat.mod_lt _ (by decide))
  refine loopK mixed tt_ok GZp'_ok 0 (by kernel_rfl) (ι := {x // InvZp' p a (n % W) x}) [1,2,3,7,8] 30 2 (fun x => VZp' a n x.1.1 x.1.2) (fun _ => [cvB' p r c gx gy gz, none]) (fun x => x.1.1) (fun x => x.1.1 = 0)
    (fun _ => rfl) (fun _ => by kernel_rfl) (fun _ _ h => h.elim) 60 [⟨2,2,.lit (.it (predI (blen (n % W))))⟩] ?_ ?_ ?_
  · refine same (p := wrapI (Int.ofNat (blen (n % W)) - 1) = predI (blen (n % W)) ∧ true = true ∧ ∃ j : {x // InvZp' p a (n % W) x}, VZp' a n (blen (n % W)) 1 = VZp' a n j.1.1 j.1.2 ∧ [cvB' p r c gx gy gz, none] = [cvB' p r c gx gy gz, none]) ?_ (by kernel_rfl)
    exact ⟨predI_eq (by omega), rfl, ⟨(blen (n % W), 1), Nat.le_refl _, by simp only; rw [high_zero]; rfl⟩, rfl, rfl⟩
  · intro ⟨⟨k, o⟩, hk, ho⟩ junk
    simp only at hk ho
    cases k with
    | zero =>
      refine roundF mixed tt_ok GZp'_ok 60 [] ?_
      refine same (p := true = true ∧ ∃ j : {x // InvZp' p a (n % W) x}, j.1.1 = 0 ∧ VZp' a n 0 o = VZp' a n j.1.1 j.1.2 ∧ [cvB' p r c gx gy gz, none] = [cvB' p r c gx gy gz, none]) ?_ (by kernel_rfl)
      exact ⟨rfl, ⟨(0, o), hk, ho⟩, rfl, rfl, rfl⟩
    | succ k =>
      have hol : o < p := by rw [ho]; exact zPow_lt hP
      have hs : wrapI (Int.ofNat k - 1) = predI k := predI_eq (by omega)
      have hbit := bit_one (n := n) (k := k) (by omega)
      have hne := high_ne (n := n % W) (k := k) (by omega)
      have hhalf := half_pow (n % W) k
      by_cases hb : n % W / 2 ^ k % 2 = 1
      · refine roundF mixed tt_ok GZp'_ok 60 [⟨3,1,.lit (.bo true)⟩,⟨6,2,.sym⟩,⟨6,4,.lit (.bo true)⟩,⟨4,1,.lit (.it (predI k))⟩] ?_
        refine same (p := (!ilt (Int.ofNat k) 0) = true ∧ Gp p ∧ o < p ∧ o < p ∧ 0 ≤ Int.ofNat k ∧ Nat.beq (((n % W / 2 ^ min k 64) &&& 1) % W) 1 = true ∧ Gp p ∧ zMul p o o < p ∧ a < p ∧ wrapI (Int.ofNat k - 1) = predI k ∧ true = true ∧
          ∃ j : {x // InvZp' p a (n % W) x}, j.1.1 < k + 1 ∧ VZp' a n k (zMul p (zMul p o o) a) = VZp' a n j.1.1 j.1.2 ∧ [cvB' p r c gx gy gz, none] = [cvB' p r c gx gy gz, none]) ?_ (by kernel_rfl)
        refine ⟨by rw [ilt_nn']; rfl, hP, hol, hol, Int.natCast_nonneg _, by rw [hbit, hb]; rfl, hP, zMul_lt hP, ha, hs, rfl, ⟨(k, zMul p (zMul p o o) a), by simp only; omega, ?_⟩, by simp only; omega, rfl, rfl⟩
        simp only
        unfold zPow
        rw [powB_odd _ _ _ hb, hhalf, ho]
        rfl
      · refine roundF mixed tt_ok GZp'_ok 60 [⟨3,1,.lit (.bo true)⟩,⟨6,2,.sym⟩,⟨6,4,.lit (.bo false)⟩,⟨4,1,.lit (.it (predI k))⟩] ?_
        refine same (p := (!ilt (Int.ofNat k) 0) = true ∧ Gp p ∧ o < p ∧ o < p ∧ 0 ≤ Int.ofNat k ∧ Nat.beq (((n % W / 2 ^ min k 64) &&& 1) % W) 1 = false ∧ wrapI (Int.ofNat k - 1) = predI k ∧ true = true ∧
          ∃ j : {x // InvZp' p a (n % W) x}, j.1.1 < k + 1 ∧ VZp' a n k (zMul p o o) = VZp' a n j.1.1 j.1.2 ∧ [cvB' p r c gx gy gz, none] = [cvB' p r c gx gy gz, none]) ?_ (by kernel_rfl)
        refine ⟨by rw [ilt_nn']; rfl, hP, hol, hol, Int.natCast_nonneg _, by rw [hbit, ← Bool.not_eq_true, Nat.beq_eq]; exact hb, hs, rfl, ⟨(k, zMul p o o), by simp only; omega, ?_⟩, by simp only; omega, rfl, rfl⟩
        simp only
        unfold zPow
        rw [powB_even _ _ _ hne hb, hhalf, ho]
        rfl
  · intro ⟨⟨k, o⟩, hk, ho⟩ junk h0
    simp only at hk ho h0
    subst h0
    rw [Nat.pow_zero, Nat.div_one] at ho
    subst ho
    refine evS_q mixed tt_ok GZp'_ok 60 [] ?_
    exact same (p := endV (uv (zPow p a (n % W))) (uv (zPow p a (n % W)))) (endV_uv rfl) (by kernel_rfl)
def GZi' : Ctx := ctxL [(65, .pure (zn zPow))]
theorem GZi'_ok : CtxOk Try.prog GZi' := ctxL_cons okZPow' ctxL_nil
theorem okZInv' : (CallC.pure (z1 zInv)).Ok Try.prog 71 := by
  refine z1_ok Try.func71 (by kernel_rfl) (by kernel_rfl) fun p r c gx gy gz a hP ha => ?_
  obtain ⟨n, hn⟩ : ∃ n, n = p + 18446744073709551614 := ⟨_, rfl⟩
  refine evS_q mixed tt_ok GZi'_ok 60 [⟨1,4,.lit (.w .u64 n)⟩] ?_
  refine same (p := p + 18446744073709551614 = n ∧ Gp p ∧ a < p ∧ endV (uv (zPow p a (n % W))) (uv (zInv p a))) ⟨hn.symm, hP, ha, endV_uv ?_⟩ (by kernel_rfl)
  have : n % W = p - 2 := by
    have h1 := hP.lt
    have h2 := hP.big
    rw [hn]
    simp only [W]
    omega
  rw [this]
  rfl
end Go.Proofs.Ytafiafkeigdjhaa
