/- The number of two points of a little curve, by the document. Printed by genl10.py. -/
import Derived.Test.YtafiafkeigdjhaaL9
namespace Go.Proofs.Ytafiafkeigdjhaa
open Go.Rq Go
set_option linter.unusedVariables false
set_option linter.unusedSimpArgs false

def y2l : List AV → Option (List Prop × AV)
  | [.v1 (.agg [.one (.w .u64 p), .one (.w .u64 r), .one (.w .u64 c), .one (.w .u64 gx), .one (.w .u64 gy), .one (.bo gz)]), .v1 (.agg [.one (.w .u64 x), .one (.w .u64 y), .one (.bo z)]), .v1 (.sc (.w .u64 m)), .v1 (.agg [.one (.w .u64 u), .one (.w .u64 v), .one (.bo w)])] => some ([Gp p, m < p, LtP p ⟨x, y, z⟩, LtP p ⟨u, v, w⟩], zv (lineF p ⟨x, y, z⟩ m ⟨u, v, w⟩))
  | _ => none
def GLn' : Ctx := ctxL [(53, .pure (z2 zAdd)), (46, .pure (z2 zMul)), (52, .pure (z2 zSub))]
theorem GLn'_ok : CtxOk Try.prog GLn' := ctxL_cons okZAdd' <| ctxL_cons okZMul' <| ctxL_cons okZSub' ctxL_nil
theorem okLine' : (CallC.pure y2l).Ok Try.prog 55 := by
  intro args pre v e hp
  unfold y2l at e
  split at e
  rotate_left
  · cases e
  rename_i p r c gx gy gz x y z m u v w
  cases e
  have hP : Gp p := hp _ (by simp)
  have hm : m < p := hp _ (by simp)
  have ht : LtP p ⟨x, y, z⟩ := hp _ (by simp)
  have hq : LtP p ⟨u, v, w⟩ := hp _ (by simp)
  refine pure_walk' tt_ok Try.func55 (by kernel_rfl) (by kernel_rfl) (by rfl) (by rfl) (evS_q mixed tt_ok GLn'_ok 60 [] ?_)
  refine same (p := Gp p ∧ u < p ∧ x < p ∧ Gp p ∧ m < p ∧ zAdd p u x < p ∧ Gp p ∧ zMul p m (zAdd p u x) < p ∧ y < p ∧ endV (zv (f2' (zSub p (zMul p m (zAdd p u x)) y) v)) (zv (lineF p ⟨x, y, z⟩ m ⟨u, v, w⟩))) ?_ (by kernel_rfl)
  exact ⟨hP, hq.1, ht.1, hP, hm, zAdd_lt hP, hP, zMul_lt hP, ht.2, endV_eq rfl⟩
def GPa' : Ctx := ctxL [(56, .pure (y2x SlP fun p P Q => uv (slN p P Q))), (22, .pure w2), (55, .pure y2l), (40, .pure (y2 OnP fun p P Q => pv (sumN p P Q))), (24, .pure w2n), (54, .pure cLen64)]
theorem GPa'_ok : CtxOk Try.prog GPa' := ctxL_cons okSlope' <| ctxL_cons okTimes2' <| ctxL_cons okLine' <| ctxL_cons okSum' <| ctxL_cons okPower2' <| ctxL_cons okLen64 ctxL_nil
abbrev VPa' (k : Nat) : List AV := [pt 0 0, pt 1 0, pt 2 0, pt 3 0, pt 4 0, pt 5 0, iv (predI k)]
abbrev HPa' (p r c gx gy : Nat) (gz : Bool) (P Q : LP) (s : WS) : Heap := [some ⟨29, cvC p r c gx gy gz, 0, 0⟩, pB P, pB Q, zB (fun _ => 0), zB s.f, pB s.t, none]
theorem okPair' : (CallC.pure y2c).Ok Try.prog 26 := by
  intro args pre v e hp
  unfold y2c at e
  split at e
  rotate_left
  · cases e
  rename_i p r c gx gy gz x y z u v w
  cases e
  have hP : Gp p := hp _ (by simp)
  have hr0 : r % W ≠ 0 := hp _ (by simp)
  have hcp : c * (p - 1) < W := hp _ (by simp)
  have h1 : OnP p ⟨x, y, z⟩ := hp _ (by simp)
  have h2 : OnP p ⟨u, v, w⟩ := hp _ (by simp)
  have hb2 := hP.big
  have hcW : c % W = c := Nat.mod_eq_of_lt (Nat.lt_of_le_of_lt (Nat.le_mul_of_pos_right c (by omega)) hcp)
  refine pure_walk' tt_ok Try.func26 (by kernel_rfl) (by kernel_rfl) (by rfl) (by rfl) ?_
  cases z
  rotate_left
  · refine evS_q mixed tt_ok GPa'_ok 60 [] ?_
    exact same (p := endV (zv (upd one2 1 0)) (zv (pairN p r c ⟨x, y, true⟩ ⟨u, v, w⟩))) (by rw [one2_upd]; exact endV_eq rfl) (by kernel_rfl)
  cases w
  rotate_left
  · refine evS_q mixed tt_ok GPa'_ok 60 [] ?_
    exact same (p := endV (zv (upd one2 1 0)) (zv (pairN p r c ⟨x, y, false⟩ ⟨u, v, true⟩))) (by rw [one2_upd]; exact endV_eq rfl) (by kernel_rfl)
  obtain ⟨P, hPd⟩ : ∃ P : LP, P = ⟨x, y, false⟩ := ⟨_, rfl⟩
  obtain ⟨Q, hQd⟩ : ∃ Q : LP, Q = ⟨u, v, false⟩ := ⟨_, rfl⟩
  have h1 : OnP p P := by rw [hPd]; exact h1
  have h2 : OnP p Q := by rw [hQd]; exact h2
  have l1 := h1.lt hP
  have l2 := h2.lt hP
  have hbl : blen (r % W) ≤ 64 := blen_lt (k := 64) (Nat.mod_lt _ (by decide))
  have hb1 : 1 ≤ blen (r % W) := by rw [blen_half hr0]; omega
  refine loopK mixed tt_ok GPa'_ok 0 (by kernel_rfl) (ι := {a // InvPa p P Q (r % W) a}) [3,4,5,6,7,8,9] 83 7 (fun a => VPa' a.1.1) (fun a => HPa' p r c gx gy gz P Q a.1.2) (fun a => a.1.1) (fun a => a.1.1 = 0)
    (fun _ => rfl) (fun _ => by kernel_rfl) (fun _ _ h => h.elim) 60 [⟨5,3,.lit (.it (predI (blen (r % W) - 1)))⟩] ?_ ?_ ?_
  · rw [hPd, hQd]
    refine same (p := wrapI (Int.ofNat (blen (r % W)) - 2) = predI (blen (r % W) - 1) ∧ true = true ∧ ∃ j : {a // InvPa p ⟨x, y, false⟩ ⟨u, v, false⟩ (r % W) a}, VPa' (blen (r % W) - 1) = VPa' j.1.1 ∧ HPa' p r c gx gy gz ⟨x, y, false⟩ ⟨u, v, false⟩ ⟨upd one2 1 0, ⟨x, y, false⟩⟩ = HPa' p r c gx gy gz ⟨x, y, false⟩ ⟨u, v, false⟩ j.1.2) ?_ (by kernel_rfl)
    refine ⟨predI_two hb1 hbl, rfl, ⟨(blen (r % W) - 1, ⟨one2, ⟨x, y, false⟩⟩), by simp only; omega, ?_⟩, rfl, by rw [one2_upd]⟩
    simp only
    rw [Nat.sub_self]
    rfl
  · intro ⟨⟨k, s⟩, hk, hs⟩ junk
    simp only at hk hs
    cases k with
    | zero =>
      refine roundF mixed tt_ok GPa'_ok 60 [] ?_
      refine same (p := true = true ∧ ∃ j : {a // InvPa p P Q (r % W) a}, j.1.1 = 0 ∧ VPa' 0 = VPa' j.1.1 ∧ HPa' p r c gx gy gz P Q s = HPa' p r c gx gy gz P Q j.1.2) ?_ (by kernel_rfl)
      exact ⟨rfl, ⟨(0, s), hk, hs⟩, rfl, rfl, rfl⟩
    | succ k =>
      have hok : WsOk p s := by rw [hs]; exact walk_ok hP h1 _ _
      obtain ⟨f, t⟩ := s
      obtain ⟨hf, ht⟩ : Lt2 p f ∧ OnP p t := hok
      have lt := ht.lt hP
      have hsl : slN p t t < p := slN_lt hP
      have hff := k2_lt hP f f
      have hslp : SlP p t t := ⟨lt, lt, .inl rfl⟩
      have hln : Lt2 p (lineF p t (slN p t t) Q) := lineF_lt hP l2
      obtain ⟨F, hF⟩ : ∃ F, F = k2 p (k2 p f f) (lineF p t (slN p t t) Q) := ⟨_, rfl⟩
      have hFl : Lt2 p F := by rw [hF]; exact k2_lt hP _ _
      obtain ⟨T, hT⟩ : ∃ T, T = sumN p t t := ⟨_, rfl⟩
      have hTo : OnP p T := by rw [hT]; exact on_sum hP ht ht
      have lT := hTo.lt hP
      have hpr : wrapI (Int.ofNat k - 1) = predI k := predI_eq (by omega)
      have hbit := bit_one (n := r) (k := k) (by omega)
      have hhalf := half_pow (r % W) k
      have hnext : blen (r % W) - 1 - k = blen (r % W) - 1 - (k + 1) + 1 := by omega
      obtain ⟨d, hd⟩ : ∃ d, d = blen (r % W) - 1 - (k + 1) := ⟨_, rfl⟩
      rw [← hd] at hs hnext
      have hs2 : (⟨f, t⟩ : WS) = walkK p P Q d (r % W / 2 ^ k / 2) := by rw [hhalf]; exact hs
      have edb : dbS p Q ⟨f, t⟩ = ⟨F, T⟩ := by rw [hF, hT]; rfl
      by_cases hb : r % W / 2 ^ k % 2 = 1
      · by_cases hx : T.x = P.x
        · refine roundF mixed tt_ok GPa'_ok 60 [⟨6,1,.lit (.bo true)⟩,⟨10,3,.sym⟩,⟨10,5,.lit (.bo true)⟩,⟨10,11,.lit (.bo false)⟩,⟨7,1,.lit (.it (predI k))⟩] ?_
          refine same (p := (!ilt (Int.ofNat k) 0) = true ∧ Gp p ∧ Lt2 p f ∧ Lt2 p f ∧ Gp p ∧ SlP p t t ∧ Gp p ∧ slN p t t < p ∧ LtP p t ∧ LtP p Q ∧ Gp p ∧ Lt2 p (k2 p f f) ∧ Lt2 p (lineF p t (slN p t t) Q) ∧ Gp p ∧ OnP p t ∧ OnP p t ∧ 0 ≤ Int.ofNat k ∧ Nat.beq (((r % W / 2 ^ min k 64) &&& 1) % W) 1 = true ∧ (!Nat.beq ((sumN p t t).x % W) (P.x % W)) = false ∧ wrapI (Int.ofNat k - 1) = predI k ∧ true = true ∧
            ∃ j : {a // InvPa p P Q (r % W) a}, j.1.1 < k + 1 ∧ VPa' k = VPa' j.1.1 ∧ HPa' p r c gx gy gz P Q ⟨k2 p (k2 p f f) (lineF p t (slN p t t) Q), sumN p t t⟩ = HPa' p r c gx gy gz P Q j.1.2) ?_ (by kernel_rfl)
          rw [← hF, ← hT]
          refine ⟨by rw [ilt_nn']; rfl, hP, hf, hf, hP, hslp, hP, hsl, lt, l2, hP, hff, hln, hP, ht, ht, Int.natCast_nonneg _, by rw [hbit, hb]; rfl, by rw [lt_w hP lT.1, lt_w hP l1.1, beq_t hx]; rfl, hpr, rfl, ⟨(k, ⟨F, T⟩), by simp only; omega, ?_⟩, by simp only; omega, rfl, rfl⟩
          simp only
          rw [hnext, walk_odd hb, ← hs2, edb]
          unfold adS
          rw [beq_t hx]; rfl
        · have hsl2 : slN p T P < p := slN_lt hP
          have hslp2 : SlP p T P := ⟨lT, l1, .inr hx⟩
          have hln2 : Lt2 p (lineF p T (slN p T P) Q) := lineF_lt hP l2
          refine roundF mixed tt_ok GPa'_ok 60 [⟨6,1,.lit (.bo true)⟩,⟨10,3,.sym⟩,⟨10,5,.lit (.bo true)⟩,⟨10,11,.lit (.bo true)⟩,⟨7,1,.lit (.it (predI k))⟩] ?_
          refine same (p := (!ilt (Int.ofNat k) 0) = true ∧ Gp p ∧ Lt2 p f ∧ Lt2 p f ∧ Gp p ∧ SlP p t t ∧ Gp p ∧ slN p t t < p ∧ LtP p t ∧ LtP p Q ∧ Gp p ∧ Lt2 p (k2 p f f) ∧ Lt2 p (lineF p t (slN p t t) Q) ∧ Gp p ∧ OnP p t ∧ OnP p t ∧ 0 ≤ Int.ofNat k ∧ Nat.beq (((r % W / 2 ^ min k 64) &&& 1) % W) 1 = true ∧ (!Nat.beq ((sumN p t t).x % W) (P.x % W)) = true ∧ Gp p ∧ SlP p (sumN p t t) P ∧ Gp p ∧ slN p (sumN p t t) P < p ∧ LtP p (sumN p t t) ∧ LtP p Q ∧
            Gp p ∧ Lt2 p (k2 p (k2 p f f) (lineF p t (slN p t t) Q)) ∧ Lt2 p (lineF p (sumN p t t) (slN p (sumN p t t) P) Q) ∧ Gp p ∧ OnP p (sumN p t t) ∧ OnP p P ∧ wrapI (Int.ofNat k - 1) = predI k ∧ true = true ∧
            ∃ j : {a // InvPa p P Q (r % W) a}, j.1.1 < k + 1 ∧ VPa' k = VPa' j.1.1 ∧ HPa' p r c gx gy gz P Q ⟨k2 p (k2 p (k2 p f f) (lineF p t (slN p t t) Q)) (lineF p (sumN p t t) (slN p (sumN p t t) P) Q), sumN p (sumN p t t) P⟩ = HPa' p r c gx gy gz P Q j.1.2) ?_ (by kernel_rfl)
          rw [← hF, ← hT]
          refine ⟨by rw [ilt_nn']; rfl, hP, hf, hf, hP, hslp, hP, hsl, lt, l2, hP, hff, hln, hP, ht, ht, Int.natCast_nonneg _, by rw [hbit, hb]; rfl, by rw [lt_w hP lT.1, lt_w hP l1.1, beq_f hx]; rfl, hP, hslp2, hP, hsl2, lT, l2, hP, hFl, hln2, hP, hTo, h1, hpr, rfl, ⟨(k, ⟨k2 p F (lineF p T (slN p T P) Q), sumN p T P⟩), by simp only; omega, ?_⟩, by simp only; omega, rfl, rfl⟩
          simp only
          rw [hnext, walk_odd hb, ← hs2, edb]
          unfold adS
          rw [beq_f hx]; rfl
      · refine roundF mixed tt_ok GPa'_ok 60 [⟨6,1,.lit (.bo true)⟩,⟨10,3,.sym⟩,⟨10,5,.lit (.bo false)⟩,⟨7,1,.lit (.it (predI k))⟩] ?_
        refine same (p := (!ilt (Int.ofNat k) 0) = true ∧ Gp p ∧ Lt2 p f ∧ Lt2 p f ∧ Gp p ∧ SlP p t t ∧ Gp p ∧ slN p t t < p ∧ LtP p t ∧ LtP p Q ∧ Gp p ∧ Lt2 p (k2 p f f) ∧ Lt2 p (lineF p t (slN p t t) Q) ∧ Gp p ∧ OnP p t ∧ OnP p t ∧ 0 ≤ Int.ofNat k ∧ Nat.beq (((r % W / 2 ^ min k 64) &&& 1) % W) 1 = false ∧ wrapI (Int.ofNat k - 1) = predI k ∧ true = true ∧
          ∃ j : {a // InvPa p P Q (r % W) a}, j.1.1 < k + 1 ∧ VPa' k = VPa' j.1.1 ∧ HPa' p r c gx gy gz P Q ⟨k2 p (k2 p f f) (lineF p t (slN p t t) Q), sumN p t t⟩ = HPa' p r c gx gy gz P Q j.1.2) ?_ (by kernel_rfl)
        rw [← hF, ← hT]
        refine ⟨by rw [ilt_nn']; rfl, hP, hf, hf, hP, hslp, hP, hsl, lt, l2, hP, hff, hln, hP, ht, ht, Int.natCast_nonneg _, by rw [hbit]; exact beq_f hb, hpr, rfl, ⟨(k, ⟨F, T⟩), by simp only; omega, ?_⟩, by simp only; omega, rfl, rfl⟩
        simp only
        rw [hnext, walk_even hb, ← hs2, edb]
  · intro ⟨⟨k, s⟩, hk, hs⟩ junk h0
    simp only at hk hs h0
    subst h0
    rw [Nat.pow_zero, Nat.div_one, Nat.sub_zero] at hs
    have hok : WsOk p s := by rw [hs]; exact walk_ok hP h1 _ _
    refine evS_q mixed tt_ok GPa'_ok 60 [] ?_
    refine same (p := Gp p ∧ Lt2 p s.f ∧ Gp p ∧ Lt2 p (pow2 p s.f ((p + 18446744073709551615) % W)) ∧ endV (zv (pow2 p (pow2 p s.f ((p + 18446744073709551615) % W)) (c % W))) (zv (pairN p r c ⟨x, y, false⟩ ⟨u, v, false⟩))) ?_ (by kernel_rfl)
    refine ⟨hP, hok.1, hP, pow2_lt hP _ _, endV_eq ?_⟩
    have e : (p + 18446744073709551615) % W = p - 1 := by
      have := hP.lt
      rw [show p + 18446744073709551615 = (p - 1) + W by simp only [W]; omega, Nat.add_mod_right]
      exact Nat.mod_eq_of_lt (by simp only [W]; omega)
    haveI := hP.nz
    rw [e, hcW, pow2_pow2 hP, Nat.mul_comm, hs, hPd, hQd]
    rfl

end Go.Proofs.Ytafiafkeigdjhaa
