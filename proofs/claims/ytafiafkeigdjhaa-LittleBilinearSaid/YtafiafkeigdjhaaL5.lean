/- Sums and multiples of points of the little curves by the document; points of the group. Printed by genl5.py. -/
import Derived.Test.YtafiafkeigdjhaaL4
namespace Go.Proofs.Ytafiafkeigdjhaa
open Go.Rq Go
set_option linter.unusedVariables false
set_option linter.unusedSimpArgs false
def y2x (pr : Nat → LP → LP → Prop) (F : Nat → LP → LP → AV) : List AV → Option (List Prop × AV)
  | [.v1 (.agg [.one (.w .u64 p), .one (.w .u64 r), .one (.w .u64 c), .one (.w .u64 gx), .one (.w .u64 gy), .one (.bo gz)]), .v1 (.agg [.one (.w .u64 x), .one (.w .u64 y), .one (.bo z)]), .v1 (.agg [.one (.w .u64 u), .one (.w .u64 v), .one (.bo w)])] => some ([Gp p, pr p ⟨x, y, z⟩ ⟨u, v, w⟩], F p ⟨x, y, z⟩ ⟨u, v, w⟩)
  | _ => none
theorem y2x_ok {pr : Nat → LP → LP → Prop} {F : Nat → LP → LP → AV} (hF : ∀ p P Q, vokB (F p P Q) = true) {f : FuncId} {fn : Func} (hf : Try.prog.funcs[f]? = some fn) (hb : fn.body = some (bodyOf fn)) (hn : (fn.name == "runtime.NumGoroutine") = false)
    (h : ∀ p r c gx gy gz x y z u v w, Gp p → pr p ⟨x, y, z⟩ ⟨u, v, w⟩ → AWqS Try.prog (fun _ => False) (flatC (bodyOf fn)) (FEnd' tt fn (F p ⟨x, y, z⟩ ⟨u, v, w⟩)) ⟨frame0 [cw p r c gx gy gz, .v1 (.agg (pC x y z)), .v1 (.agg (pC u v w))] fn.ntmps, []⟩) : (CallC.pure (y2x pr F)).Ok Try.prog f := by
  intro args pre v e hp
  unfold y2x at e
  split at e
  · cases e
    exact pure_walk' tt_ok hf hb hn (by rfl) (hF _ _ _) (h _ _ _ _ _ _ _ _ _ _ _ _ (hp _ (by simp)) (hp _ (by simp)))
  · cases e
/-- Points of which the document tells a slope as the code does. -/
def SlP (p : Nat) (P Q : LP) : Prop := LtP p P ∧ LtP p Q ∧ (P = Q ∨ P.x ≠ Q.x)
abbrev eqP (x y : Nat) (z : Bool) (u v : Nat) (w : Bool) : Bool := Nat.beq (x % W) (u % W) && (Nat.beq (y % W) (v % W) && ((z == w) && true))
theorem eqP_t {x y : Nat} {z : Bool} : eqP x y z x y z = true := by
  unfold eqP
  rw [beq_t rfl, beq_t rfl]
  cases z <;> rfl
theorem eqP_f {x y : Nat} {z : Bool} {u v : Nat} {w : Bool} (h : x % W ≠ u % W ∨ y % W ≠ v % W) : eqP x y z u v w = false := by
  unfold eqP
  rcases h with h | h
  · rw [beq_f h]; rfl
  · rw [beq_f h, Bool.false_and, Bool.and_false]

def GSl' : Ctx := ctxL [(46, .pure (z2 zMul)), (53, .pure (z2 zAdd)), (52, .pure (z2 zSub)), (71, .pure (z1 zInv))]
theorem GSl'_ok : CtxOk Try.prog GSl' := ctxL_cons okZMul' <| ctxL_cons okZAdd' <| ctxL_cons okZSub' <| ctxL_cons okZInv' ctxL_nil
theorem okSlope' : (CallC.pure (y2x SlP fun p P Q => uv (slN p P Q))).Ok Try.prog 56 := by
  refine y2x_ok (fun _ _ _ => rfl) Try.func56 (by kernel_rfl) (by kernel_rfl) fun p r c gx gy gz x y z u v w hP h1 => ?_
  obtain ⟨⟨hx, hy⟩, ⟨hu, hv⟩, h3⟩ : (x < p ∧ y < p) ∧ (u < p ∧ v < p) ∧ (LP.mk x y z = LP.mk u v w ∨ x ≠ u) := h1
  by_cases hxu : x = u
  · have h4 : LP.mk x y z = LP.mk u v w := h3.elim id fun h => absurd hxu h
    cases h4
    refine evS_q mixed tt_ok GSl'_ok 60 [⟨1,2,.lit (.bo true)⟩] ?_
    refine same (p := eqP x y z x y z = true ∧ Gp p ∧ x < p ∧ x < p ∧ Gp p ∧ zMul p x x < p ∧ zMul p x x < p ∧ Gp p ∧ zAdd p (zMul p x x) (zMul p x x) < p ∧ zMul p x x < p ∧ Gp p ∧ zAdd p (zAdd p (zMul p x x) (zMul p x x)) (zMul p x x) < p ∧ 1 < p ∧ Gp p ∧ y < p ∧ y < p ∧ Gp p ∧ zAdd p y y < p ∧ Gp p ∧ zAdd p (zAdd p (zAdd p (zMul p x x) (zMul p x x)) (zMul p x x)) 1 < p ∧ zInv p (zAdd p y y) < p ∧ endV (uv (zMul p (zAdd p (zAdd p (zAdd p (zMul p x x) (zMul p x x)) (zMul p x x)) 1) (zInv p (zAdd p y y)))) (uv (slN p ⟨x, y, z⟩ ⟨x, y, z⟩))) ?_ (by kernel_rfl)
    refine ⟨eqP_t, hP, hx, hx, hP, zMul_lt hP, zMul_lt hP, hP, zAdd_lt hP, zMul_lt hP, hP, zAdd_lt hP, one_lt hP, hP, hy, hy, hP, zAdd_lt hP, hP, zAdd_lt hP, zInv_lt hP, endV_eq ?_⟩
    unfold slN
    rw [beq_t rfl]
    rfl
  · refine evS_q mixed tt_ok GSl'_ok 60 [⟨1,2,.lit (.bo false)⟩] ?_
    refine same (p := eqP x y z u v w = false ∧ Gp p ∧ v < p ∧ y < p ∧ Gp p ∧ u < p ∧ x < p ∧ Gp p ∧ zSub p u x < p ∧ Gp p ∧ zSub p v y < p ∧ zInv p (zSub p u x) < p ∧ endV (uv (zMul p (zSub p v y) (zInv p (zSub p u x)))) (uv (slN p ⟨x, y, z⟩ ⟨u, v, w⟩))) ?_ (by kernel_rfl)
    refine ⟨eqP_f (.inl (by rw [lt_w hP hx, lt_w hP hu]; exact hxu)), hP, hv, hy, hP, hu, hx, hP, zSub_lt hP, hP, zSub_lt hP, zInv_lt hP, endV_eq ?_⟩
    unfold slN
    rw [beq_f hxu]
    rfl
def GNg' : Ctx := ctxL [(66, .pure (z1 fun p b => zSub p 0 b))]
theorem GNg'_ok : CtxOk Try.prog GNg' := ctxL_cons okZNeg' ctxL_nil
theorem okNeg' : (CallC.pure (y1 (fun p P => P.y < p) fun p _ P => pv (negL p P))).Ok Try.prog 39 := by
  refine y1_ok (fun _ _ _ => rfl) Try.func39 (by kernel_rfl) (by kernel_rfl) fun p r c gx gy gz x y z hP hy => evS_q mixed tt_ok GNg'_ok 60 [] ?_
  exact same (p := Gp p ∧ y < p ∧ endV (pv ⟨x, zSub p 0 y, z⟩) (pv (negL p ⟨x, y, z⟩))) ⟨hP, hy, endV_eq rfl⟩ (by kernel_rfl)

/-- Two points of the curve that are not the zero: opposite, or the same, or of unlike X. -/
theorem three_ways {p x y u v : Nat} (hP : Gp p) (h1 : OnP p ⟨x, y, false⟩) (h2 : OnP p ⟨u, v, false⟩) :
    (x = u ∧ y = zSub p 0 v ∧ upB ⟨x, y, false⟩ ⟨u, v, false⟩ = true) ∨ (¬ (x = u ∧ y = zSub p 0 v) ∧ upB ⟨x, y, false⟩ ⟨u, v, false⟩ = false ∧ (LP.mk x y false = ⟨u, v, false⟩ ∨ x ≠ u)) := by
  haveI := hP.nz
  obtain ⟨hx, hy⟩ := h1.lt hP
  obtain ⟨hu, hv⟩ := h2.lt hP
  obtain ⟨a, rfl⟩ := fin_of hx
  obtain ⟨b, rfl⟩ := fin_of hy
  obtain ⟨c, rfl⟩ := fin_of hu
  obtain ⟨d, rfl⟩ := fin_of hv
  have g1 := (on_iff hP a b).1 h1
  have g2 := (on_iff hP c d).1 h2
  have hup := up_iff hP g1 g2
  have e0 : zSub p 0 d.val = (0 - d).val := by rw [fv_sub, fZero]
  have e1 : b.val = zSub p 0 d.val ↔ b + d = 0 := by
    rw [e0, ← Fin.ext_iff]
    constructor
    · intro h; rw [h]; grind
    · intro h; grind
  rw [e1, ← Fin.ext_iff]
  by_cases ho : a = c ∧ b + d = 0
  · exact .inl ⟨ho.1, ho.2, hup.2 ho⟩
  · have hn : upB ⟨a.val, b.val, false⟩ ⟨c.val, d.val, false⟩ = false := bf fun h => ho (hup.1 h)
    refine .inr ⟨ho, hn, ?_⟩
    by_cases hac : a = c
    · subst hac
      refine .inl ?_
      have q1 : b * b = a * a * a + 1 * a + 0 := g1
      have q2 : d * d = a * a * a + 1 * a + 0 := g2
      have e : (b - d) * (b + d) = 0 := by grind
      rcases fDom hP e with e | e
      · have : b = d := by grind
        rw [this]
      · exact absurd ⟨rfl, e⟩ ho
    · exact .inr fun h => hac (Fin.ext h)
def GAd' : Ctx := ctxL [(39, .pure (y1 (fun p P => P.y < p) fun p _ P => pv (negL p P))), (56, .pure (y2x SlP fun p P Q => uv (slN p P Q))), (46, .pure (z2 zMul)), (52, .pure (z2 zSub))]
theorem GAd'_ok : CtxOk Try.prog GAd' := ctxL_cons okNeg' <| ctxL_cons okSlope' <| ctxL_cons okZMul' <| ctxL_cons okZSub' ctxL_nil
theorem okSum' : (CallC.pure (y2 OnP fun p P Q => pv (sumN p P Q))).Ok Try.prog 40 := by
  refine y2_ok (fun _ _ _ => rfl) Try.func40 (by kernel_rfl) (by kernel_rfl) fun p r c gx gy gz x y z u v w hP h1 h2 => ?_
  cases z
  · cases w
    · have l1 := h1.lt hP
      have l2 := h2.lt hP
      have hx : x < p := l1.1
      have hy : y < p := l1.2
      have hu : u < p := l2.1
      have hv : v < p := l2.2
      have hn := zSub_lt (a := 0) (b := v) hP
      rcases three_ways hP h1 h2 with ⟨e1, e2, hup⟩ | ⟨hne, hup, hsl⟩
      · refine evS_q mixed tt_ok GAd'_ok 60 [⟨5,4,.lit (.bo true)⟩] ?_
        refine same (p := Gp p ∧ v < p ∧ eqP x y false u (zSub p 0 v) false = true ∧ endV (pv zeroL) (pv (sumN p ⟨x, y, false⟩ ⟨u, v, false⟩))) ?_ (by kernel_rfl)
        refine ⟨hP, hv, by rw [e1, e2]; exact eqP_t, endV_eq ?_⟩
        have : sumN p ⟨x, y, false⟩ ⟨u, v, false⟩ = zeroL := by
          show (bif upB ⟨x, y, false⟩ ⟨u, v, false⟩ then zeroL else byN p (slN p ⟨x, y, false⟩ ⟨u, v, false⟩) ⟨x, y, false⟩ ⟨u, v, false⟩) = _
          rw [hup]; rfl
        rw [this]
      · obtain ⟨m, hmd⟩ : ∃ m, m = slN p ⟨x, y, false⟩ ⟨u, v, false⟩ := ⟨_, rfl⟩
        have hm : m < p := by rw [hmd]; exact slN_lt hP
        refine evS_q mixed tt_ok GAd'_ok 60 [⟨5,4,.lit (.bo false)⟩,⟨7,4,.lit (.w .u64 m)⟩] ?_
        refine same (p := Gp p ∧ v < p ∧ eqP x y false u (zSub p 0 v) false = false ∧ Gp p ∧ SlP p ⟨x, y, false⟩ ⟨u, v, false⟩ ∧ slN p ⟨x, y, false⟩ ⟨u, v, false⟩ = m ∧ Gp p ∧ m < p ∧ m < p ∧ Gp p ∧ zMul p m m < p ∧ x < p ∧ Gp p ∧ zSub p (zMul p m m) x < p ∧ u < p ∧ Gp p ∧ x < p ∧ zSub p (zSub p (zMul p m m) x) u < p ∧ Gp p ∧ m < p ∧ zSub p x (zSub p (zSub p (zMul p m m) x) u) < p ∧ Gp p ∧ zMul p m (zSub p x (zSub p (zSub p (zMul p m m) x) u)) < p ∧ y < p ∧ endV (pv (byN p m ⟨x, y, false⟩ ⟨u, v, false⟩)) (pv (sumN p ⟨x, y, false⟩ ⟨u, v, false⟩))) ?_ (by kernel_rfl)
        have hq : eqP x y false u (zSub p 0 v) false = false := by
          refine eqP_f ?_
          rw [lt_w hP hx, lt_w hP hu, lt_w hP hy, lt_w hP hn]
          by_cases hxu : x = u
          · exact .inr fun e => hne ⟨hxu, e⟩
          · exact .inl hxu
        refine ⟨hP, hv, hq, hP, ⟨l1, l2, hsl⟩, hmd.symm, hP, hm, hm, hP, zMul_lt hP, hx, hP, zSub_lt hP, hu, hP, hx, zSub_lt hP, hP, hm, zSub_lt hP, hP, zMul_lt hP, hy, endV_eq ?_⟩
        have : sumN p ⟨x, y, false⟩ ⟨u, v, false⟩ = byN p m ⟨x, y, false⟩ ⟨u, v, false⟩ := by
          show (bif upB ⟨x, y, false⟩ ⟨u, v, false⟩ then zeroL else byN p (slN p ⟨x, y, false⟩ ⟨u, v, false⟩) ⟨x, y, false⟩ ⟨u, v, false⟩) = _
          rw [hup, hmd]; rfl
        rw [this]
    · refine evS_q mixed tt_ok GAd'_ok 60 [] ?_
      exact same (p := endV (pv ⟨x, y, false⟩) (pv (sumN p ⟨x, y, false⟩ ⟨u, v, true⟩))) (endV_eq rfl) (by kernel_rfl)
  · refine evS_q mixed tt_ok GAd'_ok 60 [] ?_
    exact same (p := endV (pv ⟨u, v, w⟩) (pv (sumN p ⟨x, y, true⟩ ⟨u, v, w⟩))) (endV_eq rfl) (by kernel_rfl)

def GTm' : Ctx := ctxL [(40, .pure (y2 OnP fun p P Q => pv (sumN p P Q))), (54, .pure cLen64)]
theorem GTm'_ok : CtxOk Try.prog GTm' := ctxL_cons okSum' <| ctxL_cons okLen64 ctxL_nil
abbrev InvTm' (p : Nat) (P : LP) (n : Nat) (x : Nat × LP) : Prop := x.1 ≤ blen n ∧ x.2 = mulP p P (n / 2 ^ x.1)
abbrev VTm' (n k : Nat) : List AV := [uv n, pt 0 0, pt 1 0, pt 2 0, pt 3 0, iv (predI k)]
abbrev pB' (P : LP) : Option Blk := some ⟨25, pC P.x P.y P.z, 0, 0⟩
abbrev HTm' (p r c gx gy : Nat) (gz : Bool) (P o : LP) : Heap := [some ⟨29, cvC p r c gx gy gz, 0, 0⟩, pB' P, pB' ⟨0, 0, false⟩, pB' o, none]
theorem okTimes' : (CallC.pure (yn OnP fun p P n => pv (mulP p P n))).Ok Try.prog 38 := by
  refine yn_ok (fun _ _ _ => rfl) Try.func38 (by kernel_rfl) (by kernel_rfl) fun p r c gx gy gz x y z n hP h1 => ?_
  obtain ⟨P, hPd⟩ : ∃ P : LP, P = ⟨x, y, z⟩ := ⟨_, rfl⟩
  have h1 : OnP p P := by rw [hPd]; exact h1
  have hbl : blen (n % W) ≤ 64 := blen_lt (k := 64) (Nat.mod_lt _ (by decide))
  show AWqS Try.prog _ _ (FEnd' tt _ (pv (mulP p ⟨x, y, z⟩ (n % W)))) ⟨frame0 [cw p r c gx gy gz, pv ⟨x, y, z⟩, uv n] _, []⟩
  rw [← hPd]
  have hkeep : ∀ m, OnP p (mulP p P m) := fun m => on_mulP hP h1 m
  refine loopK mixed tt_ok GTm'_ok 0 (by kernel_rfl) (ι := {x // InvTm' p P (n % W) x}) [2,3,4,6,7,8] 31 5 (fun x => VTm' n x.1.1) (fun x => HTm' p r c gx gy gz P x.1.2) (fun x => x.1.1) (fun x => x.1.1 = 0)
    (fun _ => rfl) (fun _ => by kernel_rfl) (fun _ _ h => h.elim) 60 [⟨2,2,.lit (.it (predI (blen (n % W))))⟩] ?_ ?_ ?_
  · refine same (p := wrapI (Int.ofNat (blen (n % W)) - 1) = predI (blen (n % W)) ∧ true = true ∧ ∃ j : {x // InvTm' p P (n % W) x}, VTm' n (blen (n % W)) = VTm' n j.1.1 ∧ HTm' p r c gx gy gz P zeroL = HTm' p r c gx gy gz P j.1.2) ?_ (by kernel_rfl)
    exact ⟨predI_eq (by omega), rfl, ⟨(blen (n % W), zeroL), Nat.le_refl _, by simp only; rw [high_zero]; rfl⟩, rfl, rfl⟩
  · intro ⟨⟨k, o⟩, hk, ho⟩ junk
    simp only at hk ho
    cases k with
    | zero =>
      refine roundF mixed tt_ok GTm'_ok 60 [] ?_
      refine same (p := true = true ∧ ∃ j : {x // InvTm' p P (n % W) x}, j.1.1 = 0 ∧ VTm' n 0 = VTm' n j.1.1 ∧ HTm' p r c gx gy gz P o = HTm' p r c gx gy gz P j.1.2) ?_ (by kernel_rfl)
      exact ⟨rfl, ⟨(0, o), hk, ho⟩, rfl, rfl, rfl⟩
    | succ k =>
      have hol : OnP p o := by rw [ho]; exact hkeep _
      have hoo : OnP p (sumN p o o) := on_sum hP hol hol
      have hs : wrapI (Int.ofNat k - 1) = predI k := predI_eq (by omega)
      have hbit := bit_one (n := n) (k := k) (by omega)
      have hne := high_ne (n := n % W) (k := k) (by omega)
      have hhalf := half_pow (n % W) k
      by_cases hb : n % W / 2 ^ k % 2 = 1
      · refine roundF mixed tt_ok GTm'_ok 60 [⟨3,1,.lit (.bo true)⟩,⟨6,2,.sym⟩,⟨6,4,.lit (.bo true)⟩,⟨4,1,.lit (.it (predI k))⟩] ?_
        refine same (p := (!ilt (Int.ofNat k) 0) = true ∧ Gp p ∧ OnP p o ∧ OnP p o ∧ 0 ≤ Int.ofNat k ∧ Nat.beq (((n % W / 2 ^ min k 64) &&& 1) % W) 1 = true ∧ Gp p ∧ OnP p (sumN p o o) ∧ OnP p P ∧ wrapI (Int.ofNat k - 1) = predI k ∧ true = true ∧
          ∃ j : {x // InvTm' p P (n % W) x}, j.1.1 < k + 1 ∧ VTm' n k = VTm' n j.1.1 ∧ HTm' p r c gx gy gz P (sumN p (sumN p o o) P) = HTm' p r c gx gy gz P j.1.2) ?_ (by kernel_rfl)
        refine ⟨by rw [ilt_nn']; rfl, hP, hol, hol, Int.natCast_nonneg _, by rw [hbit, hb]; rfl, hP, hoo, h1, hs, rfl, ⟨(k, sumN p (sumN p o o) P), by simp only; omega, ?_⟩, by simp only; omega, rfl, rfl⟩
        simp only
        unfold mulP
        rw [powB_odd _ _ _ hb, hhalf, ho]
        rfl
      · refine roundF mixed tt_ok GTm'_ok 60 [⟨3,1,.lit (.bo true)⟩,⟨6,2,.sym⟩,⟨6,4,.lit (.bo false)⟩,⟨4,1,.lit (.it (predI k))⟩] ?_
        refine same (p := (!ilt (Int.ofNat k) 0) = true ∧ Gp p ∧ OnP p o ∧ OnP p o ∧ 0 ≤ Int.ofNat k ∧ Nat.beq (((n % W / 2 ^ min k 64) &&& 1) % W) 1 = false ∧ wrapI (Int.ofNat k - 1) = predI k ∧ true = true ∧
          ∃ j : {x // InvTm' p P (n % W) x}, j.1.1 < k + 1 ∧ VTm' n k = VTm' n j.1.1 ∧ HTm' p r c gx gy gz P (sumN p o o) = HTm' p r c gx gy gz P j.1.2) ?_ (by kernel_rfl)
        refine ⟨by rw [ilt_nn']; rfl, hP, hol, hol, Int.natCast_nonneg _, by rw [hbit, ← Bool.not_eq_true, Nat.beq_eq]; exact hb, hs, rfl, ⟨(k, sumN p o o), by simp only; omega, ?_⟩, by simp only; omega, rfl, rfl⟩
        simp only
        unfold mulP
        rw [powB_even _ _ _ hne hb, hhalf, ho]
        rfl
  · intro ⟨⟨k, o⟩, hk, ho⟩ junk h0
    simp only at hk ho h0
    subst h0
    rw [Nat.pow_zero, Nat.div_one] at ho
    subst ho
    refine evS_q mixed tt_ok GTm'_ok 60 [] ?_
    exact same (p := endV (pv (mulP p P (n % W))) (pv (mulP p P (n % W)))) (endV_eq rfl) (by kernel_rfl)

def inN (p r : Nat) (P : LP) : Bool := onB p P && (mulP p P (r % W)).z
def GIn : Ctx := ctxL [(44, .pure (y1 LwP fun p _ P => .v1 (.sc (.bo (onB p P))))), (59, .pure (yn LtP fun p P n => pv (mulP p P n)))]
theorem GIn_ok : CtxOk Try.prog GIn := ctxL_cons okOn <| ctxL_cons okTimes ctxL_nil
theorem okIn : (CallC.pure (y1 LwP fun p r P => .v1 (.sc (.bo (inN p r P))))).Ok Try.prog 45 := by
  refine y1_ok (fun _ _ _ => rfl) Try.func45 (by kernel_rfl) (by kernel_rfl) fun p r c gx gy gz x y z hP hL => ?_
  cases ho : onB p ⟨x, y, z⟩
  · refine evS_q mixed tt_ok GIn_ok 60 [⟨1,3,.lit (.bo false)⟩] ?_
    refine same (p := Gp p ∧ LwP p ⟨x, y, z⟩ ∧ onB p ⟨x, y, z⟩ = false ∧ endV (.v1 (.sc (.bo false))) (.v1 (.sc (.bo (inN p r ⟨x, y, z⟩))))) ?_ (by kernel_rfl)
    refine ⟨hP, hL, ho, endV_eq ?_⟩
    unfold inN
    rw [ho]
    rfl
  · have h1 : OnP p ⟨x, y, z⟩ := ho
    refine evS_q mixed tt_ok GIn_ok 60 [⟨1,3,.lit (.bo true)⟩] ?_
    refine same (p := Gp p ∧ LwP p ⟨x, y, z⟩ ∧ onB p ⟨x, y, z⟩ = true ∧ Gp p ∧ LtP p ⟨x, y, z⟩ ∧ endV (.v1 (.sc (.bo (mulP p ⟨x, y, z⟩ (r % W)).z))) (.v1 (.sc (.bo (inN p r ⟨x, y, z⟩))))) ?_ (by kernel_rfl)
    refine ⟨hP, hL, ho, hP, h1.lt hP, endV_eq ?_⟩
    unfold inN
    rw [ho]
    rfl

def GIn' : Ctx := ctxL [(16, .pure (y1 LwP fun p _ P => .v1 (.sc (.bo (onB p P))))), (38, .pure (yn OnP fun p P n => pv (mulP p P n)))]
theorem GIn'_ok : CtxOk Try.prog GIn' := ctxL_cons okOn' <| ctxL_cons okTimes' ctxL_nil
theorem okIn' : (CallC.pure (y1 LwP fun p r P => .v1 (.sc (.bo (inN p r P))))).Ok Try.prog 25 := by
  refine y1_ok (fun _ _ _ => rfl) Try.func25 (by kernel_rfl) (by kernel_rfl) fun p r c gx gy gz x y z hP hL => ?_
  cases ho : onB p ⟨x, y, z⟩
  · refine evS_q mixed tt_ok GIn'_ok 60 [⟨1,3,.lit (.bo false)⟩] ?_
    refine same (p := Gp p ∧ LwP p ⟨x, y, z⟩ ∧ onB p ⟨x, y, z⟩ = false ∧ endV (.v1 (.sc (.bo false))) (.v1 (.sc (.bo (inN p r ⟨x, y, z⟩))))) ?_ (by kernel_rfl)
    refine ⟨hP, hL, ho, endV_eq ?_⟩
    unfold inN
    rw [ho]
    rfl
  · have h1 : OnP p ⟨x, y, z⟩ := ho
    refine evS_q mixed tt_ok GIn'_ok 60 [⟨1,3,.lit (.bo true)⟩] ?_
    refine same (p := Gp p ∧ LwP p ⟨x, y, z⟩ ∧ onB p ⟨x, y, z⟩ = true ∧ Gp p ∧ OnP p ⟨x, y, z⟩ ∧ endV (.v1 (.sc (.bo (mulP p ⟨x, y, z⟩ (r % W)).z))) (.v1 (.sc (.bo (inN p r ⟨x, y, z⟩))))) ?_ (by kernel_rfl)
    refine ⟨hP, hL, ho, hP, h1, endV_eq ?_⟩
    unfold inN
    rw [ho]
    rfl
end Go.Proofs.Ytafiafkeigdjhaa
