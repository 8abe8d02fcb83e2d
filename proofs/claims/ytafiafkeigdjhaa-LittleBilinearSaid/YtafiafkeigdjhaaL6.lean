/- Numbers of two parts of the little curves. Printed by genl6.py. -/
import Derived.Test.YtafiafkeigdjhaaL5
namespace Go.Proofs.Ytafiafkeigdjhaa
open Go.Rq Go
set_option linter.unusedVariables false
set_option linter.unusedSimpArgs false
def f2' (a b : Nat) : Nat → Nat := upd (upd (fun _ => 0) 0 a) 1 b
abbrev zv (f : Nat → Nat) : AV := .v1 (.agg [.ws .u64 2 f])
def tX (p a b c d : Nat) : Nat := zSub p (zMul p a c) (zMul p b d)
def tY (p a b c d : Nat) : Nat := zAdd p (zMul p a d) (zMul p b c)
def k2 (p : Nat) (a b : Nat → Nat) : Nat → Nat := f2' (tX p (a 0) (a 1) (b 0) (b 1)) (tY p (a 0) (a 1) (b 0) (b 1))
def Lt2 (p : Nat) (a : Nat → Nat) : Prop := a 0 < p ∧ a 1 < p
def w2 : List AV → Option (List Prop × AV)
  | [.v1 (.agg [.one (.w .u64 p), .one (.w .u64 r), .one (.w .u64 c), .one (.w .u64 gx), .one (.w .u64 gy), .one (.bo gz)]), .v1 (.agg [.ws .u64 2 a]), .v1 (.agg [.ws .u64 2 b])] => some ([Gp p, Lt2 p a, Lt2 p b], zv (k2 p a b))
  | _ => none
def GT2 : Ctx := ctxL [(63, .pure (z2 zMul)), (60, .pure (z2 zSub)), (64, .pure (z2 zAdd))]
theorem GT2_ok : CtxOk Try.prog GT2 := ctxL_cons okZMul <| ctxL_cons okZSub <| ctxL_cons okZAdd ctxL_nil
theorem okTimes2 : (CallC.pure w2).Ok Try.prog 49 := by
  intro args pre v e hp
  unfold w2 at e
  split at e
  rotate_left
  · cases e
  rename_i p r c gx gy gz a b
  cases e
  have hP : Gp p := hp _ (by simp)
  have ha : Lt2 p a := hp _ (by simp)
  have hb : Lt2 p b := hp _ (by simp)
  refine pure_walk' tt_ok Try.func49 (by kernel_rfl) (by kernel_rfl) (by rfl) (by rfl) (evS_q mixed tt_ok GT2_ok 60 [] ?_)
  exact same (p := Gp p ∧ a 0 < p ∧ b 0 < p ∧ Gp p ∧ a 1 < p ∧ b 1 < p ∧ Gp p ∧ zMul p (a 0) (b 0) < p ∧ zMul p (a 1) (b 1) < p ∧ Gp p ∧ a 0 < p ∧ b 1 < p ∧ Gp p ∧ a 1 < p ∧ b 0 < p ∧ Gp p ∧ zMul p (a 0) (b 1) < p ∧ zMul p (a 1) (b 0) < p ∧ endV (zv (f2' (tX p (a 0) (a 1) (b 0) (b 1)) (tY p (a 0) (a 1) (b 0) (b 1)))) (zv (k2 p a b))) ⟨hP, ha.1, hb.1, hP, ha.2, hb.2, hP, zMul_lt hP, zMul_lt hP, hP, ha.1, hb.2, hP, ha.2, hb.1, hP, zMul_lt hP, zMul_lt hP, endV_eq rfl⟩ (by kernel_rfl)
def GT2' : Ctx := ctxL [(46, .pure (z2 zMul)), (52, .pure (z2 zSub)), (53, .pure (z2 zAdd))]
theorem GT2'_ok : CtxOk Try.prog GT2' := ctxL_cons okZMul' <| ctxL_cons okZSub' <| ctxL_cons okZAdd' ctxL_nil
theorem okTimes2' : (CallC.pure w2).Ok Try.prog 22 := by
  intro args pre v e hp
  unfold w2 at e
  split at e
  rotate_left
  · cases e
  rename_i p r c gx gy gz a b
  cases e
  have hP : Gp p := hp _ (by simp)
  have ha : Lt2 p a := hp _ (by simp)
  have hb : Lt2 p b := hp _ (by simp)
  refine pure_walk' tt_ok Try.func22 (by kernel_rfl) (by kernel_rfl) (by rfl) (by rfl) (evS_q mixed tt_ok GT2'_ok 60 [] ?_)
  exact same (p := Gp p ∧ a 0 < p ∧ b 0 < p ∧ Gp p ∧ a 1 < p ∧ b 1 < p ∧ Gp p ∧ zMul p (a 0) (b 0) < p ∧ zMul p (a 1) (b 1) < p ∧ Gp p ∧ a 0 < p ∧ b 1 < p ∧ Gp p ∧ a 1 < p ∧ b 0 < p ∧ Gp p ∧ zMul p (a 0) (b 1) < p ∧ zMul p (a 1) (b 0) < p ∧ endV (zv (f2' (tX p (a 0) (a 1) (b 0) (b 1)) (tY p (a 0) (a 1) (b 0) (b 1)))) (zv (k2 p a b))) ⟨hP, ha.1, hb.1, hP, ha.2, hb.2, hP, zMul_lt hP, zMul_lt hP, hP, ha.1, hb.2, hP, ha.2, hb.1, hP, zMul_lt hP, zMul_lt hP, endV_eq rfl⟩ (by kernel_rfl)
theorem k2_lt {p : Nat} (hP : Gp p) (a b : Nat → Nat) : Lt2 p (k2 p a b) := ⟨zSub_lt hP, zAdd_lt hP⟩
def one2 : Nat → Nat := upd (fun _ => 0) 0 1
def pow2 (p : Nat) (a : Nat → Nat) (n : Nat) : Nat → Nat := powB (fun t => k2 p t t) (fun t => k2 p t a) one2 n
theorem one2_upd : upd one2 1 0 = one2 := by
  funext j
  unfold one2
  by_cases h : j = 1
  · subst h; rfl
  · rw [upd_ne _ _ h]
theorem one2_lt {p : Nat} (hP : Gp p) : Lt2 p one2 := ⟨one_lt hP, hP.pos⟩
theorem pow2_lt {p : Nat} (hP : Gp p) (a : Nat → Nat) (n : Nat) : Lt2 p (pow2 p a n) := powB_keep (q := Lt2 p) (one2_lt hP) (fun _ _ => k2_lt hP _ _) (fun _ _ => k2_lt hP _ _) _ _
def w2n : List AV → Option (List Prop × AV)
  | [.v1 (.agg [.one (.w .u64 p), .one (.w .u64 r), .one (.w .u64 c), .one (.w .u64 gx), .one (.w .u64 gy), .one (.bo gz)]), .v1 (.agg [.ws .u64 2 a]), .v1 (.sc (.w .u64 n))] => some ([Gp p, Lt2 p a], zv (pow2 p a (n % W)))
  | _ => none
def w1 : List AV → Option (List Prop × AV)
  | [.v1 (.agg [.one (.w .u64 p), .one (.w .u64 r), .one (.w .u64 c), .one (.w .u64 gx), .one (.w .u64 gy), .one (.bo gz)]), .v1 (.agg [.ws .u64 2 a])] => some ([Gp p], zv (f2' (a 0 % W % p) (a 1 % W % p)))
  | _ => none
abbrev zB (a : Nat → Nat) : Option Blk := some ⟨43, [.ws .u64 2 a], 0, 0⟩
theorem zv_val {a b : Nat → Nat} (h0 : a 0 % W = b 0 % W) (h1 : a 1 % W = b 1 % W) (ρ : Ren) : (zv a).val ρ = (zv b).val ρ := by
  simp only [W] at h0 h1
  simp only [AV.val, V1.val, cvals, Cell.vals, List.append_nil, M]
  rw [show List.range 2 = [0, 1] from rfl]
  simp only [List.map_cons, List.map_nil, h0, h1]
theorem okLeft : (CallC.pure w1).Ok Try.prog 50 := by
  intro args pre v e hp
  unfold w1 at e
  split at e
  rotate_left
  · cases e
  rename_i p r c gx gy gz a
  cases e
  have hP : Gp p := hp _ (by simp)
  refine pure_walk' tt_ok Try.func50 (by kernel_rfl) (by kernel_rfl) (by rfl) (by rfl) (evS_q mixed tt_ok G0_ok 60 [⟨1,4,.sym⟩,⟨1,9,.sym⟩] ?_)
  refine same (p := Nat.beq (p % W) 0 = false ∧ Nat.beq (p % W) 0 = false ∧ endV (zv (f2' (a 0 % W % (p % W)) (a 1 % W % (p % W)))) (zv (f2' (a 0 % W % p) (a 1 % W % p)))) ?_ (by kernel_rfl)
  rw [hP.mod]
  have := hP.pos
  exact ⟨beq_f (by omega), beq_f (by omega), endV_eq rfl⟩
def GPo : Ctx := ctxL [(49, .pure w2), (54, .pure cLen64)]
theorem GPo_ok : CtxOk Try.prog GPo := ctxL_cons okTimes2 <| ctxL_cons okLen64 ctxL_nil
abbrev InvPo (p : Nat) (a : Nat → Nat) (n : Nat) (x : Nat × (Nat → Nat)) : Prop := x.1 ≤ blen n ∧ x.2 = pow2 p a (n / 2 ^ x.1)
abbrev HPo (p r c gx gy : Nat) (gz : Bool) (a o : Nat → Nat) : Heap := [some ⟨72, cvC p r c gx gy gz, 0, 0⟩, zB a, zB (fun _ => 0), zB o, none]
theorem okPower2 : (CallC.pure w2n).Ok Try.prog 51 := by
  intro args pre v e hp
  unfold w2n at e
  split at e
  rotate_left
  · cases e
  rename_i p r c gx gy gz a n
  cases e
  have hP : Gp p := hp _ (by simp)
  have ha : Lt2 p a := hp _ (by simp)
  have hbl : blen (n % W) ≤ 64 := blen_lt (k := 64) (Nat.mod_lt _ (by decide))
  refine pure_walk' tt_ok Try.func51 (by kernel_rfl) (by kernel_rfl) (by rfl) (by rfl) ?_
  refine loopK mixed tt_ok GPo_ok 0 (by kernel_rfl) (ι := {x // InvPo p a (n % W) x}) [2,3,4,6,7,8] 31 5 (fun x => VTm n x.1.1) (fun x => HPo p r c gx gy gz a x.1.2) (fun x => x.1.1) (fun x => x.1.1 = 0)
    (fun _ => rfl) (fun _ => by kernel_rfl) (fun _ _ h => h.elim) 60 [⟨2,2,.lit (.it (predI (blen (n % W))))⟩] ?_ ?_ ?_
  · refine same (p := wrapI (Int.ofNat (blen (n % W)) - 1) = predI (blen (n % W)) ∧ true = true ∧ ∃ j : {x // InvPo p a (n % W) x}, VTm n (blen (n % W)) = VTm n j.1.1 ∧ HPo p r c gx gy gz a one2 = HPo p r c gx gy gz a j.1.2) ?_ (by kernel_rfl)
    exact ⟨predI_eq (by omega), rfl, ⟨(blen (n % W), one2), Nat.le_refl _, by simp only; rw [high_zero]; rfl⟩, rfl, rfl⟩
  · intro ⟨⟨k, o⟩, hk, ho⟩ junk
    simp only at hk ho
    cases k with
    | zero =>
      refine roundF mixed tt_ok GPo_ok 60 [] ?_
      refine same (p := true = true ∧ ∃ j : {x // InvPo p a (n % W) x}, j.1.1 = 0 ∧ VTm n 0 = VTm n j.1.1 ∧ HPo p r c gx gy gz a o = HPo p r c gx gy gz a j.1.2) ?_ (by kernel_rfl)
      exact ⟨rfl, ⟨(0, o), hk, ho⟩, rfl, rfl, rfl⟩
    | succ k =>
      have hol : Lt2 p o := by rw [ho]; exact pow2_lt hP _ _
      have hoo : Lt2 p (k2 p o o) := k2_lt hP _ _
      have hs : wrapI (Int.ofNat k - 1) = predI k := predI_eq (by omega)
      have hbit := bit_one (n := n) (k := k) (by omega)
      have hne := high_ne (n := n % W) (k := k) (by omega)
      have hhalf := half_pow (n % W) k
      by_cases hb : n % W / 2 ^ k % 2 = 1
      · refine roundF mixed tt_ok GPo_ok 60 [⟨3,1,.lit (.bo true)⟩,⟨6,2,.sym⟩,⟨6,4,.lit (.bo true)⟩,⟨4,1,.lit (.it (predI k))⟩] ?_
        refine same (p := (!ilt (Int.ofNat k) 0) = true ∧ Gp p ∧ Lt2 p o ∧ Lt2 p o ∧ 0 ≤ Int.ofNat k ∧ Nat.beq (((n % W / 2 ^ min k 64) &&& 1) % W) 1 = true ∧ Gp p ∧ Lt2 p (k2 p o o) ∧ Lt2 p a ∧ wrapI (Int.ofNat k - 1) = predI k ∧ true = true ∧
          ∃ j : {x // InvPo p a (n % W) x}, j.1.1 < k + 1 ∧ VTm n k = VTm n j.1.1 ∧ HPo p r c gx gy gz a (k2 p (k2 p o o) a) = HPo p r c gx gy gz a j.1.2) ?_ (by kernel_rfl)
        refine ⟨by rw [ilt_nn']; rfl, hP, hol, hol, Int.natCast_nonneg _, by rw [hbit, hb]; rfl, hP, hoo, ha, hs, rfl, ⟨(k, k2 p (k2 p o o) a), by simp only; omega, ?_⟩, by simp only; omega, rfl, rfl⟩
        simp only
        unfold pow2
        rw [powB_odd _ _ _ hb, hhalf, ho]
        rfl
      · refine roundF mixed tt_ok GPo_ok 60 [⟨3,1,.lit (.bo true)⟩,⟨6,2,.sym⟩,⟨6,4,.lit (.bo false)⟩,⟨4,1,.lit (.it (predI k))⟩] ?_
        refine same (p := (!ilt (Int.ofNat k) 0) = true ∧ Gp p ∧ Lt2 p o ∧ Lt2 p o ∧ 0 ≤ Int.ofNat k ∧ Nat.beq (((n % W / 2 ^ min k 64) &&& 1) % W) 1 = false ∧ wrapI (Int.ofNat k - 1) = predI k ∧ true = true ∧
          ∃ j : {x // InvPo p a (n % W) x}, j.1.1 < k + 1 ∧ VTm n k = VTm n j.1.1 ∧ HPo p r c gx gy gz a (k2 p o o) = HPo p r c gx gy gz a j.1.2) ?_ (by kernel_rfl)
        refine ⟨by rw [ilt_nn']; rfl, hP, hol, hol, Int.natCast_nonneg _, by rw [hbit, ← Bool.not_eq_true, Nat.beq_eq]; exact hb, hs, rfl, ⟨(k, k2 p o o), by simp only; omega, ?_⟩, by simp only; omega, rfl, rfl⟩
        simp only
        unfold pow2
        rw [powB_even _ _ _ hne hb, hhalf, ho]
        rfl
  · intro ⟨⟨k, o⟩, hk, ho⟩ junk h0
    simp only at hk ho h0
    subst h0
    rw [Nat.pow_zero, Nat.div_one] at ho
    subst ho
    refine evS_q mixed tt_ok GPo_ok 60 [] ?_
    exact same (p := endV (zv (pow2 p a (n % W))) (zv (pow2 p a (n % W)))) (endV_eq rfl) (by kernel_rfl)
theorem okLeft' : (CallC.pure w1).Ok Try.prog 23 := by
  intro args pre v e hp
  unfold w1 at e
  split at e
  rotate_left
  · cases e
  rename_i p r c gx gy gz a
  cases e
  have hP : Gp p := hp _ (by simp)
  refine pure_walk' tt_ok Try.func23 (by kernel_rfl) (by kernel_rfl) (by rfl) (by rfl) (evS_q mixed tt_ok G0_ok 60 [⟨1,4,.sym⟩,⟨1,9,.sym⟩] ?_)
  refine same (p := Nat.beq (p % W) 0 = false ∧ Nat.beq (p % W) 0 = false ∧ endV (zv (f2' (a 0 % W % (p % W)) (a 1 % W % (p % W)))) (zv (f2' (a 0 % W % p) (a 1 % W % p)))) ?_ (by kernel_rfl)
  rw [hP.mod]
  have := hP.pos
  exact ⟨beq_f (by omega), beq_f (by omega), endV_eq rfl⟩
def GPo' : Ctx := ctxL [(22, .pure w2), (54, .pure cLen64)]
theorem GPo'_ok : CtxOk Try.prog GPo' := ctxL_cons okTimes2' <| ctxL_cons okLen64 ctxL_nil
abbrev InvPo' (p : Nat) (a : Nat → Nat) (n : Nat) (x : Nat × (Nat → Nat)) : Prop := x.1 ≤ blen n ∧ x.2 = pow2 p a (n / 2 ^ x.1)
abbrev HPo' (p r c gx gy : Nat) (gz : Bool) (a o : Nat → Nat) : Heap := [some ⟨29, cvC p r c gx gy gz, 0, 0⟩, zB a, zB (fun _ => 0), zB o, none]
theorem okPower2' : (CallC.pure w2n).Ok Try.prog 24 := by
  intro args pre v e hp
  unfold w2n at e
  split at e
  rotate_left
  · cases e
  rename_i p r c gx gy gz a n
  cases e
  have hP : Gp p := hp _ (by simp)
  have ha : Lt2 p a := hp _ (by simp)
  have hbl : blen (n % W) ≤ 64 := blen_lt (k := 64) (Nat.mod_lt _ (by decide))
  refine pure_walk' tt_ok Try.func24 (by kernel_rfl) (by kernel_rfl) (by rfl) (by rfl) ?_
  refine loopK mixed tt_ok GPo'_ok 0 (by kernel_rfl) (ι := {x // InvPo' p a (n % W) x}) [2,3,4,6,7,8] 31 5 (fun x => VTm' n x.1.1) (fun x => HPo' p r c gx gy gz a x.1.2) (fun x => x.1.1) (fun x => x.1.1 = 0)
    (fun _ => rfl) (fun _ => by kernel_rfl) (fun _ _ h => h.elim) 60 [⟨2,2,.lit (.it (predI (blen (n % W))))⟩] ?_ ?_ ?_
  · refine same (p := wrapI (Int.ofNat (blen (n % W)) - 1) = predI (blen (n % W)) ∧ true = true ∧ ∃ j : {x // InvPo' p a (n % W) x}, VTm' n (blen (n % W)) = VTm' n j.1.1 ∧ HPo' p r c gx gy gz a (upd one2 1 0) = HPo' p r c gx gy gz a j.1.2) ?_ (by kernel_rfl)
    exact ⟨predI_eq (by omega), rfl, ⟨(blen (n % W), one2), Nat.le_refl _, by simp only; rw [high_zero]; rfl⟩, rfl, by rw [one2_upd]⟩
  · intro ⟨⟨k, o⟩, hk, ho⟩ junk
    simp only at hk ho
    cases k with
    | zero =>
      refine roundF mixed tt_ok GPo'_ok 60 [] ?_
      refine same (p := true = true ∧ ∃ j : {x // InvPo' p a (n % W) x}, j.1.1 = 0 ∧ VTm' n 0 = VTm' n j.1.1 ∧ HPo' p r c gx gy gz a o = HPo' p r c gx gy gz a j.1.2) ?_ (by kernel_rfl)
      exact ⟨rfl, ⟨(0, o), hk, ho⟩, rfl, rfl, rfl⟩
    | succ k =>
      have hol : Lt2 p o := by rw [ho]; exact pow2_lt hP _ _
      have hoo : Lt2 p (k2 p o o) := k2_lt hP _ _
      have hs : wrapI (Int.ofNat k - 1) = predI k := predI_eq (by omega)
      have hbit := bit_one (n := n) (k := k) (by omega)
      have hne := high_ne (n := n % W) (k := k) (by omega)
      have hhalf := half_pow (n % W) k
      by_cases hb : n % W / 2 ^ k % 2 = 1
      · refine roundF mixed tt_ok GPo'_ok 60 [⟨3,1,.lit (.bo true)⟩,⟨6,2,.sym⟩,⟨6,4,.lit (.bo true)⟩,⟨4,1,.lit (.it (predI k))⟩] ?_
        refine same (p := (!ilt (Int.ofNat k) 0) = true ∧ Gp p ∧ Lt2 p o ∧ Lt2 p o ∧ 0 ≤ Int.ofNat k ∧ Nat.beq (((n % W / 2 ^ min k 64) &&& 1) % W) 1 = true ∧ Gp p ∧ Lt2 p (k2 p o o) ∧ Lt2 p a ∧ wrapI (Int.ofNat k - 1) = predI k ∧ true = true ∧
          ∃ j : {x // InvPo' p a (n % W) x}, j.1.1 < k + 1 ∧ VTm' n k = VTm' n j.1.1 ∧ HPo' p r c gx gy gz a (k2 p (k2 p o o) a) = HPo' p r c gx gy gz a j.1.2) ?_ (by kernel_rfl)
        refine ⟨by rw [ilt_nn']; rfl, hP, hol, hol, Int.natCast_nonneg _, by rw [hbit, hb]; rfl, hP, hoo, ha, hs, rfl, ⟨(k, k2 p (k2 p o o) a), by simp only; omega, ?_⟩, by simp only; omega, rfl, rfl⟩
        simp only
        unfold pow2
        rw [powB_odd _ _ _ hb, hhalf, ho]
        rfl
      · refine roundF mixed tt_ok GPo'_ok 60 [⟨3,1,.lit (.bo true)⟩,⟨6,2,.sym⟩,⟨6,4,.lit (.bo false)⟩,⟨4,1,.lit (.it (predI k))⟩] ?_
        refine same (p := (!ilt (Int.ofNat k) 0) = true ∧ Gp p ∧ Lt2 p o ∧ Lt2 p o ∧ 0 ≤ Int.ofNat k ∧ Nat.beq (((n % W / 2 ^ min k 64) &&& 1) % W) 1 = false ∧ wrapI (Int.ofNat k - 1) = predI k ∧ true = true ∧
          ∃ j : {x // InvPo' p a (n % W) x}, j.1.1 < k + 1 ∧ VTm' n k = VTm' n j.1.1 ∧ HPo' p r c gx gy gz a (k2 p o o) = HPo' p r c gx gy gz a j.1.2) ?_ (by kernel_rfl)
        refine ⟨by rw [ilt_nn']; rfl, hP, hol, hol, Int.natCast_nonneg _, by rw [hbit, ← Bool.not_eq_true, Nat.beq_eq]; exact hb, hs, rfl, ⟨(k, k2 p o o), by simp only; omega, ?_⟩, by simp only; omega, rfl, rfl⟩
        simp only
        unfold pow2
        rw [powB_even _ _ _ hne hb, hhalf, ho]
        rfl
  · intro ⟨⟨k, o⟩, hk, ho⟩ junk h0
    simp only at hk ho h0
    subst h0
    rw [Nat.pow_zero, Nat.div_one] at ho
    subst ho
    refine evS_q mixed tt_ok GPo'_ok 60 [] ?_
    exact same (p := endV (zv (pow2 p a (n % W))) (zv (pow2 p a (n % W)))) (endV_eq rfl) (by kernel_rfl)
end Go.Proofs.Ytafiafkeigdjhaa
