/- The document's ways by a modulus. -/
import Derived.Test.YtcmaecfpggmcoaaM7
import Derived.Test.YtcmaecfpggmcoaaM5
import Derived.Test.YtcmaecfpggmcoaaWD
import Derived.Test.YtcmaecfpggmcoaaWN6
namespace Go.Proofs.Ytcmaecfpggmcoaa
open Go.Rq Go

theorem MayM.pos {N : Nat} (h : MayM N) : 0 < N := by have := h.2.2; omega
theorem MayM.one {N : Nat} (h : MayM N) : 1 < N := by have := h.2.2; omega
theorem MayM.small {N : Nat} (h : MayM N) : 4 * N ≤ R := by
  have := lt_blen N
  have h4 : N < 2 ^ (E - 2) := Nat.lt_of_lt_of_le this (Nat.pow_le_pow_right (by omega) (by rw [E_eq]; have := h.2.1; omega))
  have h5 : R = 2 ^ (E - 2) * 4 := by rw [R_pow, show (4 : Nat) = 2 ^ 2 from rfl, ← Nat.pow_add]; congr 1
  rw [h5]; omega
theorem nv_rem {N : Nat} (h : MayM N) (x : Nat) : nv (wd (x % N)) = x % N := by
  rw [nv_wd, Nat.mod_eq_of_lt (show x % N < R by have := Nat.mod_lt x h.pos; have := h.small; omega)]
theorem nv_low {N x : Nat} (h : MayM N) (hx : x < N) : nv (wd x) = x := by
  rw [nv_wd, Nat.mod_eq_of_lt (show x < R by have := h.small; omega)]
abbrev endN (u v : AV) : Prop := ∃ v', some u = some v' ∧ ∀ ρ, v'.val ρ = v.val ρ
theorem endN_num {a b : Nat} (e : a = b) : endN (numA a) (numA b) := ⟨_, rfl, fun ρ => by rw [e]⟩
theorem endN_nm {f : Nat → Nat} {b : Nat} (e : nv f = b) : endN (nm f) (numA b) := ⟨_, rfl, fun ρ => numA_val (by rw [← e, Nat.mod_eq_of_lt (nv_lt f)]) ρ⟩
theorem endN_pair {f : Nat → Nat} {b : Nat} {i j : Int} (e : nv f = b) (h : i = j) : endN (.tup [.agg [.ws .u64 6 f], .sc (.it i)]) (.tup [numV b, .sc (.it j)]) := ⟨_, rfl, fun ρ => by
  simp only [AV.val, List.map_cons, List.map_nil, h]
  rw [numV_val (n := b) (by rw [← e, Nat.mod_eq_of_lt (nv_lt f)]) ρ]⟩

/-! May -/
def mayB (N : Nat) : Bool := bif Nat.beq (N % 2) 1 then bif Nat.ble (blen N) 382 then Nat.ble 3 N else false else false
theorem mayB_iff (N : Nat) : mayB N = true ↔ MayM N := by
  unfold mayB MayM
  cases h1 : Nat.beq (N % 2) 1
  · have : N % 2 ≠ 1 := fun e => by rw [← Nat.beq_eq, h1] at e; cases e
    simp [this]
  · rw [Nat.beq_eq] at h1
    cases h2 : Nat.ble (blen N) 382
    · have : ¬ blen N ≤ 382 := by rw [← Nat.ble_eq, h2]; simp
      simp [this]
    · rw [Nat.ble_eq] at h2
      simp [h1, h2]
def cMay : List AV → Option (List Prop × AV)
  | [.v1 (.agg [.ws .u64 6 a])] => some ([], .v1 (.sc (.bo (mayB (nv a)))))
  | _ => none
def GMy : Ctx := ctxL [(11, .pure cLen), (44, .pure cCmp)]
theorem GMy_ok : CtxOk Try.prog GMy := ctxL_cons okLen' <| ctxL_cons okCmp' ctxL_nil
theorem okMay : (CallC.pure cMay).Ok Try.prog 12 := by
  intro args pre v e _
  unfold cMay at e
  split at e
  · rename_i a
    cases e
    cases h1 : Nat.beq (nv a % 2) 1
    · have hv : mayB (nv a) = false := by unfold mayB; rw [h1]; rfl
      rw [hv]
      refine pure_fn mixed tt_ok GMy_ok Try.func12 (by kernel_rfl) (by kernel_rfl) (by kernel_rfl) (by kernel_rfl) 60 [⟨1,3,.lit (.bo false)⟩] ?_
      exact same (p := Nat.beq ((a 0 &&& 1) % W) (1 % W) = false ∧ some (AV.v1 (.sc (.bo false))) = some (AV.v1 (.sc (.bo false)))) ⟨by rw [low_bit a 1 (by omega), h1], rfl⟩ (by kernel_rfl)
    · cases h2 : Nat.ble (blen (nv a)) 382
      · have hv : mayB (nv a) = false := by unfold mayB; rw [h1, h2]; rfl
        rw [hv]
        refine pure_fn mixed tt_ok GMy_ok Try.func12 (by kernel_rfl) (by kernel_rfl) (by kernel_rfl) (by kernel_rfl) 60 [⟨1,3,.lit (.bo true)⟩,⟨1,7,.lit (.bo false)⟩] ?_
        refine same (p := Nat.beq ((a 0 &&& 1) % W) (1 % W) = true ∧ (!ilt 382 (Int.ofNat (blen (nv a)))) = false ∧ some (AV.v1 (.sc (.bo false))) = some (AV.v1 (.sc (.bo false)))) ?_ (by kernel_rfl)
        refine ⟨by rw [low_bit a 1 (by omega), h1], ?_, rfl⟩
        have : ¬ blen (nv a) ≤ 382 := by rw [← Nat.ble_eq, h2]; simp
        rw [show ilt 382 (Int.ofNat (blen (nv a))) = true from by show ilt (Int.ofNat 382) _ = true; rw [ilt_n, Nat.blt_eq]; omega]; rfl
      · have h2' : blen (nv a) ≤ 382 := by rw [← Nat.ble_eq, h2]
        have hl : (!ilt 382 (Int.ofNat (blen (nv a)))) = true := by
          rw [show ilt 382 (Int.ofNat (blen (nv a))) = false from by show ilt (Int.ofNat 382) _ = false; rw [ilt_n, ← Bool.not_eq_true, Nat.blt_eq]; omega]; rfl
        cases h3 : Nat.ble 3 (nv a)
        all_goals
          have hv : mayB (nv a) = Nat.ble 3 (nv a) := by unfold mayB; rw [h1, h2]; rfl
          rw [hv, h3]
        · refine pure_fn mixed tt_ok GMy_ok Try.func12 (by kernel_rfl) (by kernel_rfl) (by kernel_rfl) (by kernel_rfl) 60 [⟨1,3,.lit (.bo true)⟩,⟨1,7,.lit (.bo true)⟩,⟨1,13,.lit (.bo false)⟩] ?_
          refine same (p := Nat.beq ((a 0 &&& 1) % W) (1 % W) = true ∧ (!ilt 382 (Int.ofNat (blen (nv a)))) = true ∧ (!ilt (cmpI (nv a) (nv (upd (fun _ => 0) 0 3))) 0) = false ∧ some (AV.v1 (.sc (.bo false))) = some (AV.v1 (.sc (.bo false)))) ?_ (by kernel_rfl)
          exact ⟨by rw [low_bit a 1 (by omega), h1], hl, by rw [cmp_ge, show nv (upd (fun _ => 0) 0 3) = 3 from by kernel_rfl, h3], rfl⟩
        · refine pure_fn mixed tt_ok GMy_ok Try.func12 (by kernel_rfl) (by kernel_rfl) (by kernel_rfl) (by kernel_rfl) 60 [⟨1,3,.lit (.bo true)⟩,⟨1,7,.lit (.bo true)⟩,⟨1,13,.lit (.bo true)⟩] ?_
          refine same (p := Nat.beq ((a 0 &&& 1) % W) (1 % W) = true ∧ (!ilt 382 (Int.ofNat (blen (nv a)))) = true ∧ (!ilt (cmpI (nv a) (nv (upd (fun _ => 0) 0 3))) 0) = true ∧ some (AV.v1 (.sc (.bo true))) = some (AV.v1 (.sc (.bo true)))) ?_ (by kernel_rfl)
          exact ⟨by rw [low_bit a 1 (by omega), h1], hl, by rw [cmp_ge, show nv (upd (fun _ => 0) 0 3) = 3 from by kernel_rfl, h3], rfl⟩
  · cases e

/-! Reduce, Add, Neg, Sub -/
def two2 (F : Nat → Nat → Nat) : List AV → Option (List Prop × AV)
  | [.v1 (.agg [.ws .u64 6 n]), .v1 (.agg [.ws .u64 6 a])] => some ([MayM (nv n)], numA (F (nv n) (nv a)))
  | _ => none
def two3 (F : Nat → Nat → Nat → Nat) : List AV → Option (List Prop × AV)
  | [.v1 (.agg [.ws .u64 6 n]), .v1 (.agg [.ws .u64 6 a]), .v1 (.agg [.ws .u64 6 b])] => some ([MayM (nv n)], numA (F (nv n) (nv a) (nv b)))
  | _ => none
theorem two2_ok {F : Nat → Nat → Nat} {f : FuncId} {fn : Func} (hf : Try.prog.funcs[f]? = some fn) (hb : fn.body = some (bodyOf fn)) (hn : (fn.name == "runtime.NumGoroutine") = false)
    (h : ∀ n a : Nat → Nat, MayM (nv n) → AWqS Try.prog (fun _ => False) (flatC (bodyOf fn)) (FEnd' tt fn (numA (F (nv n) (nv a)))) ⟨frame0 [nm n, nm a] fn.ntmps, []⟩) : (CallC.pure (two2 F)).Ok Try.prog f := by
  intro args pre v e hp
  unfold two2 at e
  split at e
  · rename_i n a
    cases e
    exact pure_walk' tt_ok hf hb hn (by rfl) (by rfl) (h n a (hp _ (List.mem_cons_self ..)))
  · cases e
theorem two3_ok {F : Nat → Nat → Nat → Nat} {f : FuncId} {fn : Func} (hf : Try.prog.funcs[f]? = some fn) (hb : fn.body = some (bodyOf fn)) (hn : (fn.name == "runtime.NumGoroutine") = false)
    (h : ∀ n a b : Nat → Nat, MayM (nv n) → AWqS Try.prog (fun _ => False) (flatC (bodyOf fn)) (FEnd' tt fn (numA (F (nv n) (nv a) (nv b)))) ⟨frame0 [nm n, nm a, nm b] fn.ntmps, []⟩) : (CallC.pure (two3 F)).Ok Try.prog f := by
  intro args pre v e hp
  unfold two3 at e
  split at e
  · rename_i n a b
    cases e
    exact pure_walk' tt_ok hf hb hn (by rfl) (by rfl) (h n a b (hp _ (List.mem_cons_self ..)))
  · cases e
def remN (N a : Nat) : Nat := a % N
def addN' (N a b : Nat) : Nat := (a + b) % N
def negN (N a : Nat) : Nat := subM N 0 a
def mulN' (N a b : Nat) : Nat := a * b % N
def wideN (N a b : Nat) : Nat := (a + b * R) % N
def GD2 : Ctx := ctxL [(53, .pure cDiv2)]
theorem GD2_ok : CtxOk Try.prog GD2 := ctxL_cons (okDiv2_of okDiv') ctxL_nil
theorem okRed' : (CallC.pure (two2 remN)).Ok Try.prog 18 := by
  refine two2_ok Try.func18 (by kernel_rfl) (by kernel_rfl) fun n a hM => evS_q mixed tt_ok GD2_ok 60 [] ?_
  refine same (p := endN (numA (dR (nv a) (nv n))) (numA (remN (nv n) (nv a)))) (endN_num ?_) (by kernel_rfl)
  unfold dR remN
  have : Nat.beq (nv n) 0 = false := by rw [← Bool.not_eq_true, Nat.beq_eq]; have := hM.pos; omega
  rw [this, cond_false]
def GA2 : Ctx := ctxL [(18, .pure (two2 remN)), (50, .pure cAdd), (55, .pure cSub)]
theorem GA2_ok : CtxOk Try.prog GA2 := ctxL_cons okRed' <| ctxL_cons okAdd' <| ctxL_cons okSub' ctxL_nil
theorem okMAdd' : (CallC.pure (two3 addN')).Ok Try.prog 22 := by
  refine two3_ok Try.func22 (by kernel_rfl) (by kernel_rfl) fun n a b hM => evS_q mixed tt_ok GA2_ok 60 [] ?_
  refine same (p := MayM (nv n) ∧ MayM (nv n) ∧ MayM (nv n) ∧ endN (numA (remN (nv n) (nv (wd ((nv (wd (remN (nv n) (nv a))) + nv (wd (remN (nv n) (nv b)))) % R))))) (numA (addN' (nv n) (nv a) (nv b)))) ?_ (by kernel_rfl)
  refine ⟨hM, hM, hM, endN_num ?_⟩
  unfold remN addN'
  have ha := Nat.mod_lt (nv a) hM.pos
  have hb := Nat.mod_lt (nv b) hM.pos
  have hs := hM.small
  rw [nv_rem hM, nv_rem hM, nv_wd, Nat.mod_mod, Nat.mod_eq_of_lt (show nv a % nv n + nv b % nv n < R by omega), ← Nat.add_mod]
theorem okMNeg' : (CallC.pure (two2 negN)).Ok Try.prog 26 := by
  refine two2_ok Try.func26 (by kernel_rfl) (by kernel_rfl) fun n a hM => evS_q mixed tt_ok GA2_ok 60 [] ?_
  refine same (p := MayM (nv n) ∧ MayM (nv n) ∧ endN (numA (remN (nv n) (nv (wd ((nv n + R - nv (wd (remN (nv n) (nv a)))) % R))))) (numA (negN (nv n) (nv a)))) ?_ (by kernel_rfl)
  refine ⟨hM, hM, endN_num ?_⟩
  unfold remN negN subM
  have ha := Nat.mod_lt (nv a) hM.pos
  have hs := hM.small
  rw [nv_rem hM, nv_wd, Nat.mod_mod, show nv n + R - nv a % nv n = (nv n - nv a % nv n) + R by omega, Nat.add_mod_right, Nat.mod_eq_of_lt (show nv n - nv a % nv n < R by omega), Nat.zero_mod, Nat.zero_add]
def GS2 : Ctx := ctxL [(26, .pure (two2 negN)), (22, .pure (two3 addN'))]
theorem GS2_ok : CtxOk Try.prog GS2 := ctxL_cons okMNeg' <| ctxL_cons okMAdd' ctxL_nil
theorem okMSub' : (CallC.pure (two3 subM)).Ok Try.prog 24 := by
  refine two3_ok Try.func24 (by kernel_rfl) (by kernel_rfl) fun n a b hM => evS_q mixed tt_ok GS2_ok 60 [] ?_
  refine same (p := MayM (nv n) ∧ MayM (nv n) ∧ endN (numA (addN' (nv n) (nv a) (nv (wd (negN (nv n) (nv b)))))) (numA (subM (nv n) (nv a) (nv b)))) ?_ (by kernel_rfl)
  refine ⟨hM, hM, endN_num ?_⟩
  unfold addN' negN
  rw [nv_low hM (subM_lt hM.pos)]
  unfold subM
  rw [Nat.zero_mod, Nat.zero_add, Nat.add_mod_mod, Nat.mod_add_mod]

/-! twice, Wide, Mul -/
theorem toU_bit {b : Nat} (hb : b < 2) : toU .u64 (Int.ofNat b) = b := by
  rcases (show b = 0 ∨ b = 1 by omega) with rfl | rfl <;> rfl
def twU (a b : Nat) : Nat → Nat := upd (wd ((a + a) % R)) 0 (wd ((a + a) % R) 0 ||| toU .u64 (Int.ofNat b))
theorem twU_nv {a b : Nat} (hb : b < 2) (h : 2 * a + 1 < R) : nv (twU a b) = 2 * a + b := by
  have e : nv (wd ((a + a) % R)) = 2 * a := by
    rw [nv_wd, Nat.mod_mod, ← Nat.two_mul, Nat.mod_eq_of_lt (show 2 * a < R by omega)]
  unfold twU
  rw [toU_bit hb, setlow_nv (wd ((a + a) % R)) hb (by rw [e]; omega), e]
def cTw : List AV → Option (List Prop × AV)
  | [.v1 (.agg [.ws .u64 6 n]), .v1 (.agg [.ws .u64 6 a]), .v1 (.sc (.it (.ofNat b)))] => some ([MayM (nv n), nv a < nv n, b < 2], numA ((2 * nv a + b) % nv n))
  | _ => none
def GT2 : Ctx := ctxL [(50, .pure cAdd), (44, .pure cCmp), (55, .pure cSub)]
theorem GT2_ok : CtxOk Try.prog GT2 := ctxL_cons okAdd' <| ctxL_cons okCmp' <| ctxL_cons okSub' ctxL_nil
theorem okTw : (CallC.pure cTw).Ok Try.prog 54 := by
  intro args pre v e hp
  unfold cTw at e
  split at e
  · rename_i n a b
    cases e
    have hM : MayM (nv n) := hp _ (List.mem_cons_self ..)
    have ha : nv a < nv n := hp _ (by simp)
    have hb : b < 2 := hp _ (by simp)
    have hs := hM.small
    have hu : nv (twU (nv a) b) = 2 * nv a + b := twU_nv hb (by omega)
    refine pure_walk' tt_ok Try.func54 (by kernel_rfl) (by kernel_rfl) (by rfl) (by rfl) ?_
    cases hc : Nat.ble (nv n) (2 * nv a + b)
    · have hc' : ¬ nv n ≤ 2 * nv a + b := by rw [← Nat.ble_eq, hc]; simp
      refine evS_q mixed tt_ok GT2_ok 60 [⟨3,3,.lit (.bo false)⟩] ?_
      refine same (p := (!ilt (cmpI (nv (twU (nv a) b)) (nv n)) 0) = false ∧ endN (nm (twU (nv a) b)) (numA ((2 * nv a + b) % nv n))) ?_ (by kernel_rfl)
      exact ⟨by rw [cmp_ge, hu, hc], endN_nm (by rw [hu, Nat.mod_eq_of_lt (by omega)])⟩
    · have hc' : nv n ≤ 2 * nv a + b := by rw [← Nat.ble_eq, hc]
      refine evS_q mixed tt_ok GT2_ok 60 [⟨3,3,.lit (.bo true)⟩] ?_
      refine same (p := (!ilt (cmpI (nv (twU (nv a) b)) (nv n)) 0) = true ∧ endN (numA ((nv (twU (nv a) b) + R - nv n) % R)) (numA ((2 * nv a + b) % nv n))) ?_ (by kernel_rfl)
      refine ⟨by rw [cmp_ge, hu, hc], endN_num ?_⟩
      rw [hu, show 2 * nv a + b + R - nv n = (2 * nv a + b - nv n) + R by omega, Nat.add_mod_right, Nat.mod_eq_of_lt (show 2 * nv a + b - nv n < R by omega), Nat.mod_eq_sub_mod hc', Nat.mod_eq_of_lt (by omega)]
  · cases e

def GW2 : Ctx := ctxL [(43, .pure cBit), (54, .pure cTw)]
theorem GW2_ok : CtxOk Try.prog GW2 := ctxL_cons okBit' <| ctxL_cons okTw ctxL_nil
def VWi (k : Nat) : List AV := [pt 0 0, pt 1 0, pt 2 0, pt 3 0, pt 4 0, iv (predI k)]
def HWi (n l h r : Nat → Nat) : Heap := [nb n, nb l, nb h, nb (fun _ => 0), nb r]
def InvHi (n h : Nat → Nat) (x : Nat × (Nat → Nat)) : Prop := x.1 ≤ 384 ∧ HiI (nv n) (nv h) x.1 (nv x.2)
def InvWi (n l h : Nat → Nat) (x : Nat × (Nat → Nat)) : Prop := x.1 ≤ 384 ∧ WiI (nv n) (nv h) (nv l) x.1 (nv x.2)
theorem okWide' : (CallC.pure (two3 wideN)).Ok Try.prog 20 := by
  refine two3_ok Try.func20 (by kernel_rfl) (by kernel_rfl) fun n l h hM => ?_
  refine loopK mixed tt_ok GW2_ok 0 (by kernel_rfl) (ι := {x // InvHi n h x}) [3,4,5,6,7,8] 31 5 (fun x => VWi x.1.1) (fun x => HWi n l h x.1.2) (fun x => x.1.1) (fun x => x.1.1 = 0)
    (fun _ => rfl) (fun _ => by kernel_rfl) (fun _ _ h => h.elim) 60 [] ?_ ?_ ?_
  · refine same (p := true = true ∧ ∃ j : {x // InvHi n h x}, VWi 384 = VWi j.1.1 ∧ HWi n l h (fun _ => 0) = HWi n l h j.1.2) ?_ (by kernel_rfl)
    refine ⟨rfl, ⟨(384, fun _ => 0), by simp, ?_⟩, rfl, rfl⟩
    simp only [zero_nv]
    exact HiI.start (nv_lt h)
  · intro ⟨⟨k, r⟩, hk, hr⟩ junk
    simp only at hk hr
    cases k with
    | zero =>
      refine roundF mixed tt_ok GW2_ok 60 [] ?_
      refine same (p := true = true ∧ ∃ j : {x // InvHi n h x}, j.1.1 = 0 ∧ VWi 0 = VWi j.1.1 ∧ HWi n l h r = HWi n l h j.1.2) ?_ (by kernel_rfl)
      exact ⟨rfl, ⟨(0, r), hk, hr⟩, rfl, rfl, rfl⟩
    | succ k =>
      refine roundF mixed tt_ok GW2_ok 60 [⟨3,1,.lit (.bo true)⟩,⟨4,1,.lit (.it (predI k))⟩] ?_
      refine same (p := (!ilt (Int.ofNat k) 0) = true ∧ MayM (nv n) ∧ nv r < nv n ∧ nv h / 2 ^ k % 2 < 2 ∧ wrapI (Int.ofNat k - 1) = predI k ∧ true = true ∧
        ∃ j : {x // InvHi n h x}, j.1.1 < k + 1 ∧ VWi k = VWi j.1.1 ∧ HWi n l h (wd ((2 * nv r + nv h / 2 ^ k % 2) % nv n)) = HWi n l h j.1.2) ?_ (by kernel_rfl)
      refine ⟨by rw [ilt_nn]; rfl, hM, hr.lt hM.pos, Nat.mod_lt _ (by omega), predI_eq (by omega), rfl, ⟨(k, wd ((2 * nv r + nv h / 2 ^ k % 2) % nv n)), by simp only; omega, ?_⟩, by simp only; omega, rfl, rfl⟩
      simp only
      rw [nv_rem hM]
      exact hr.step
  · intro ⟨⟨k, r⟩, hk, hr⟩ junk h0
    simp only at hk hr h0
    subst h0
    refine loopK mixed tt_ok GW2_ok 0 (by kernel_rfl) (ι := {x // InvWi n l h x}) [3,4,5,6,7,9] 31 5 (fun x => VWi x.1.1) (fun x => HWi n l h x.1.2) (fun x => x.1.1) (fun x => x.1.1 = 0)
      (fun _ => rfl) (fun _ => by kernel_rfl) (fun _ _ h => h.elim) 60 [] ?_ ?_ ?_
    · refine same (p := true = true ∧ ∃ j : {x // InvWi n l h x}, VWi 384 = VWi j.1.1 ∧ HWi n l h r = HWi n l h j.1.2) ?_ (by kernel_rfl)
      refine ⟨rfl, ⟨(384, r), by simp, ?_⟩, rfl, rfl⟩
      exact hr.fin (nv_lt l)
    · intro ⟨⟨k, r⟩, hk, hr⟩ junk
      simp only at hk hr
      cases k with
      | zero =>
        refine roundF mixed tt_ok GW2_ok 60 [] ?_
        refine same (p := true = true ∧ ∃ j : {x // InvWi n l h x}, j.1.1 = 0 ∧ VWi 0 = VWi j.1.1 ∧ HWi n l h r = HWi n l h j.1.2) ?_ (by kernel_rfl)
        exact ⟨rfl, ⟨(0, r), hk, hr⟩, rfl, rfl, rfl⟩
      | succ k =>
        refine roundF mixed tt_ok GW2_ok 60 [⟨7,1,.lit (.bo true)⟩,⟨8,1,.lit (.it (predI k))⟩] ?_
        refine same (p := (!ilt (Int.ofNat k) 0) = true ∧ MayM (nv n) ∧ nv r < nv n ∧ nv l / 2 ^ k % 2 < 2 ∧ wrapI (Int.ofNat k - 1) = predI k ∧ true = true ∧
          ∃ j : {x // InvWi n l h x}, j.1.1 < k + 1 ∧ VWi k = VWi j.1.1 ∧ HWi n l h (wd ((2 * nv r + nv l / 2 ^ k % 2) % nv n)) = HWi n l h j.1.2) ?_ (by kernel_rfl)
        refine ⟨by rw [ilt_nn]; rfl, hM, hr.lt hM.pos, Nat.mod_lt _ (by omega), predI_eq (by omega), rfl, ⟨(k, wd ((2 * nv r + nv l / 2 ^ k % 2) % nv n)), by simp only; omega, ?_⟩, by simp only; omega, rfl, rfl⟩
        simp only
        rw [nv_rem hM]
        exact hr.step (by rw [E_eq]; omega)
    · intro ⟨⟨k, r⟩, hk, hr⟩ junk h0
      simp only at hk hr h0
      subst h0
      refine evS_q mixed tt_ok GW2_ok 60 [] ?_
      refine same (p := endN (nm r) (numA (wideN (nv n) (nv l) (nv h)))) (endN_nm hr.fin) (by kernel_rfl)
def GM2 : Ctx := ctxL [(56, .pure cMul), (20, .pure (two3 wideN))]
theorem GM2_ok : CtxOk Try.prog GM2 := ctxL_cons okMul' <| ctxL_cons okWide' ctxL_nil
theorem okMMul' : (CallC.pure (two3 mulN')).Ok Try.prog 28 := by
  refine two3_ok Try.func28 (by kernel_rfl) (by kernel_rfl) fun n a b hM => evS_q mixed tt_ok GM2_ok 60 [] ?_
  refine same (p := MayM (nv n) ∧ endN (numA (wideN (nv n) (nv (wd (nv a * nv b % R))) (nv (wd (nv a * nv b / R))))) (numA (mulN' (nv n) (nv a) (nv b)))) ?_ (by kernel_rfl)
  refine ⟨hM, endN_num ?_⟩
  unfold wideN mulN'
  have h1 : nv a * nv b / R < R := by
    rw [Nat.div_lt_iff_lt_mul (by decide)]
    exact Nat.mul_lt_mul_of_lt_of_le (nv_lt a) (Nat.le_of_lt (nv_lt b)) (by decide)
  rw [nv_wd, nv_wd, Nat.mod_mod, Nat.mod_eq_of_lt h1, Nat.mul_comm (nv a * nv b / R), Nat.mod_add_div]
end Go.Proofs.Ytcmaecfpggmcoaa
