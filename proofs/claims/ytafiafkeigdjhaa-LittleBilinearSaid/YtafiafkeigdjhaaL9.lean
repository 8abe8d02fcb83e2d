/- The number of two points of a little curve, by the code and by the document. Printed by genl9.py. -/
import Derived.Test.YtafiafkeigdjhaaL8
namespace Go.Proofs.Ytafiafkeigdjhaa
open Go.Rq Go
set_option linter.unusedVariables false
set_option linter.unusedSimpArgs false

structure WS where
  f : Nat → Nat
  t : LP
def dbS (p : Nat) (Q : LP) (s : WS) : WS := ⟨k2 p (k2 p s.f s.f) (lineF p s.t (slN p s.t s.t) Q), sumN p s.t s.t⟩
def adS (p : Nat) (P Q : LP) (s : WS) : WS := bif Nat.beq s.t.x P.x then s else ⟨k2 p s.f (lineF p s.t (slN p s.t P) Q), sumN p s.t P⟩
/-- The walk, by k bits of n. -/
def walkK (p : Nat) (P Q : LP) (k n : Nat) : WS := foldB (dbS p Q) (adS p P Q) ⟨one2, P⟩ k n
def pairN (p r c : Nat) (P Q : LP) : Nat → Nat := bif P.z || Q.z then one2 else pow2 p (walkK p P Q (blen (r % W) - 1) (r % W)).f (c * (p - 1))
def WsOk (p : Nat) (s : WS) : Prop := Lt2 p s.f ∧ OnP p s.t
theorem dbS_ok {p : Nat} (hP : Gp p) {Q : LP} {s : WS} (h : WsOk p s) : WsOk p (dbS p Q s) := ⟨k2_lt hP _ _, on_sum hP h.2 h.2⟩
theorem adS_ok {p : Nat} (hP : Gp p) {P Q : LP} (h1 : OnP p P) {s : WS} (h : WsOk p s) : WsOk p (adS p P Q s) := by
  unfold adS
  cases Nat.beq s.t.x P.x
  · exact ⟨k2_lt hP _ _, on_sum hP h.2 h1⟩
  · exact h
theorem walk_ok {p : Nat} (hP : Gp p) {P Q : LP} (h1 : OnP p P) (k n : Nat) : WsOk p (walkK p P Q k n) :=
  powB_keep (q := WsOk p) ⟨one2_lt hP, h1⟩ (fun _ h => dbS_ok hP h) (fun _ h => adS_ok hP h1 h) k n
theorem walk_even {p : Nat} {P Q : LP} {k n : Nat} (h : n % 2 ≠ 1) : walkK p P Q (k + 1) n = dbS p Q (walkK p P Q k (n / 2)) := by
  unfold walkK
  rw [foldB, beq_f h]; rfl
theorem walk_odd {p : Nat} {P Q : LP} {k n : Nat} (h : n % 2 = 1) : walkK p P Q (k + 1) n = adS p P Q (dbS p Q (walkK p P Q k (n / 2))) := by
  unfold walkK
  rw [foldB, beq_t h]; rfl
theorem zInv_zero {p : Nat} (hP : Gp p) : zInv p 0 = 0 := by
  have := hP.big
  unfold zInv
  rw [zPow_pow (by omega), Nat.zero_pow (by omega), Nat.zero_mod]
/-- Where the line goes straight up, the slope is told as 0. -/
theorem slN_up {p : Nat} (hP : Gp p) {t : LP} : (bif upB t t then 0 else slN p t t) = slN p t t := by
  cases h : upB t t
  · rfl
  · rw [cond_true]
    unfold upB at h
    simp only [beq_t, Bool.true_and, Bool.not_true, Bool.false_or, Nat.beq_eq] at h
    unfold slN
    rw [beq_t rfl, cond_true, h]
    have : zAdd p 0 0 = 0 := Nat.zero_mod p
    rw [this, zInv_zero hP]
    unfold zMul
    rw [Nat.mul_zero, Nat.zero_mod]
theorem slN_other {p : Nat} {t P : LP} (h : t.x ≠ P.x) : (bif upB t P then 0 else slN p t P) = slN p t P := by
  unfold upB
  rw [beq_f h]; rfl
theorem predI_two {k : Nat} (h1 : 1 ≤ k) (h : k ≤ 64) : wrapI (Int.ofNat k - 2) = predI (k - 1) := by
  obtain ⟨j, rfl⟩ : ∃ j, k = j + 1 := ⟨k - 1, by omega⟩
  rw [Nat.add_sub_cancel]
  have : Int.ofNat (j + 1) - 2 = Int.ofNat j - 1 := by simp only [Int.ofNat_eq_natCast]; omega
  rw [this]
  exact predI_eq (by omega)
def y2c : List AV → Option (List Prop × AV)
  | [.v1 (.agg [.one (.w .u64 p), .one (.w .u64 r), .one (.w .u64 c), .one (.w .u64 gx), .one (.w .u64 gy), .one (.bo gz)]), .v1 (.agg [.one (.w .u64 x), .one (.w .u64 y), .one (.bo z)]), .v1 (.agg [.one (.w .u64 u), .one (.w .u64 v), .one (.bo w)])] => some ([Gp p, r % W ≠ 0, c * (p - 1) < W, OnP p ⟨x, y, z⟩, OnP p ⟨u, v, w⟩], zv (pairN p r c ⟨x, y, z⟩ ⟨u, v, w⟩))
  | _ => none
def GPa : Ctx := ctxL [(70, .pure (y2 LtP slV)), (49, .pure w2), (69, .mem cLine), (58, .pure (y2 LtP fun p P Q => pv (sumN p P Q))), (51, .pure w2n), (54, .pure cLen64)]
theorem GPa_ok : CtxOk Try.prog GPa := ctxL_cons okSlope <| ctxL_cons okTimes2 <| ctxL_cons okLine <| ctxL_cons okSum <| ctxL_cons okPower2 <| ctxL_cons okLen64 ctxL_nil
abbrev VPa (k : Nat) : List AV := [pt 0 0, pt 1 0, pt 3 0, pt 4 0, pt 5 0, .v1 (.sc (.fn 69 [0, 4, 2, 5])), iv (predI k)]
abbrev HPa (p r c gx gy : Nat) (gz : Bool) (P Q : LP) (s : WS) : Heap := [cB4 p r c gx gy gz, pB P, pB Q, zB (fun _ => 0), zB s.f, pB s.t, none]
abbrev InvPa (p : Nat) (P Q : LP) (n : Nat) (x : Nat × WS) : Prop := x.1 + 1 ≤ blen n ∧ x.2 = walkK p P Q (blen n - 1 - x.1) (n / 2 ^ x.1)
theorem okPair : (CallC.pure y2c).Ok Try.prog 48 := by
  intro args pre v e hp
  unfold y2c at e
  split at e
  rotate_left
  · cases e
  rename_i p r c gx gy gz x y z u v w
  cases e
  have hP : Gp p := hp _ (by simp)
  have hr0 : r % W ≠ 0 := hp _ (by simp)
  have hcp : c * (p - 1) < W := hp _ (by simp)
  have h1 : OnP p ⟨x, y, z⟩ := hp _ (by simp)
  have h2 : OnP p ⟨u, v, w⟩ := hp _ (by simp)
  refine pure_walk' tt_ok Try.func48 (by kernel_rfl) (by kernel_rfl) (by rfl) (by rfl) ?_
  cases z
  rotate_left
  · refine evS_q mixed tt_ok GPa_ok 60 [] ?_
    exact same (p := endV (zv one2) (zv (pairN p r c ⟨x, y, true⟩ ⟨u, v, w⟩))) (endV_eq rfl) (by kernel_rfl)
  cases w
  rotate_left
  · refine evS_q mixed tt_ok GPa_ok 60 [] ?_
    exact same (p := endV (zv one2) (zv (pairN p r c ⟨x, y, false⟩ ⟨u, v, true⟩))) (endV_eq rfl) (by kernel_rfl)
  obtain ⟨P, hPd⟩ : ∃ P : LP, P = ⟨x, y, false⟩ := ⟨_, rfl⟩
  obtain ⟨Q, hQd⟩ : ∃ Q : LP, Q = ⟨u, v, false⟩ := ⟨_, rfl⟩
  have h1 : OnP p P := by rw [hPd]; exact h1
  have h2 : OnP p Q := by rw [hQd]; exact h2
  have l1 := h1.lt hP
  have l2 := h2.lt hP
  have hbl : blen (r % W) ≤ 64 := blen_lt (k := 64) (Nat.mod_lt _ (by decide))
  have hb1 : 1 ≤ blen (r % W) := by rw [blen_half hr0]; omega
  refine loopK mixed tt_ok GPa_ok 0 (by kernel_rfl) (ι := {a // InvPa p P Q (r % W) a}) [3,4,6,7,8,9,10] 87 7 (fun a => VPa a.1.1) (fun a => HPa p r c gx gy gz P Q a.1.2) (fun a => a.1.1) (fun a => a.1.1 = 0)
    (fun _ => rfl) (fun _ => by kernel_rfl) (fun _ _ h => h.elim) 60 [⟨6,3,.lit (.it (predI (blen (r % W) - 1)))⟩] ?_ ?_ ?_
  · rw [hPd, hQd]
    refine same (p := wrapI (Int.ofNat (blen (r % W)) - 2) = predI (blen (r % W) - 1) ∧ true = true ∧ ∃ j : {a // InvPa p ⟨x, y, false⟩ ⟨u, v, false⟩ (r % W) a}, VPa (blen (r % W) - 1) = VPa j.1.1 ∧ HPa p r c gx gy gz ⟨x, y, false⟩ ⟨u, v, false⟩ ⟨one2, ⟨x, y, false⟩⟩ = HPa p r c gx gy gz ⟨x, y, false⟩ ⟨u, v, false⟩ j.1.2) ?_ (by kernel_rfl)
    refine ⟨predI_two hb1 hbl, rfl, ⟨(blen (r % W) - 1, ⟨one2, ⟨x, y, false⟩⟩), by simp only; omega, ?_⟩, rfl, rfl⟩
    simp only
    rw [Nat.sub_self]
    rfl
  · intro ⟨⟨k, s⟩, hk, hs⟩ junk
    simp only at hk hs
    cases k with
    | zero =>
      refine roundF mixed tt_ok GPa_ok 60 [] ?_
      refine same (p := true = true ∧ ∃ j : {a // InvPa p P Q (r % W) a}, j.1.1 = 0 ∧ VPa 0 = VPa j.1.1 ∧ HPa p r c gx gy gz P Q s = HPa p r c gx gy gz P Q j.1.2) ?_ (by kernel_rfl)
      exact ⟨rfl, ⟨(0, s), hk, hs⟩, rfl, rfl, rfl⟩
    | succ k =>
      have hok : WsOk p s := by rw [hs]; exact walk_ok hP h1 _ _
      obtain ⟨f, t⟩ := s
      obtain ⟨hf, ht⟩ : Lt2 p f ∧ OnP p t := hok
      have lt := ht.lt hP
      have hsl : slN p t t < p := slN_lt hP
      have hff := k2_lt hP f f
      obtain ⟨F, hF⟩ : ∃ F, F = k2 p (k2 p f f) (lineF p t (slN p t t) Q) := ⟨_, rfl⟩
      have hFl : Lt2 p F := by rw [hF]; exact k2_lt hP _ _
      obtain ⟨T, hT⟩ : ∃ T, T = sumN p t t := ⟨_, rfl⟩
      have hTo : OnP p T := by rw [hT]; exact on_sum hP ht ht
      have lT := hTo.lt hP
      have hpr : wrapI (Int.ofNat k - 1) = predI k := predI_eq (by omega)
      have hbit := bit_one (n := r) (k := k) (by omega)
      have hhalf := half_pow (r % W) k
      have hnext : blen (r % W) - 1 - k = blen (r % W) - 1 - (k + 1) + 1 := by omega
      obtain ⟨d, hd⟩ : ∃ d, d = blen (r % W) - 1 - (k + 1) := ⟨_, rfl⟩
      rw [← hd] at hs hnext
      have hs2 : (⟨f, t⟩ : WS) = walkK p P Q d (r % W / 2 ^ k / 2) := by rw [hhalf]; exact hs
      have edb : dbS p Q ⟨f, t⟩ = ⟨F, T⟩ := by rw [hF, hT]; rfl
      have hup := slN_up hP (t := t)
      by_cases hb : r % W / 2 ^ k % 2 = 1
      · by_cases hx : T.x = P.x
        · refine roundF mixed tt_ok GPa_ok 60 [⟨7,1,.lit (.bo true)⟩,⟨9,7,.lit (.w .u64 (slN p t t))⟩,⟨13,3,.sym⟩,⟨13,5,.lit (.bo true)⟩,⟨13,11,.lit (.bo false)⟩,⟨8,1,.lit (.it (predI k))⟩] ?_
          refine same (p := (!ilt (Int.ofNat k) 0) = true ∧ Gp p ∧ LtP p t ∧ LtP p t ∧ (bif upB t t then 0 else slN p t t) = slN p t t ∧ Gp p ∧ Lt2 p f ∧ Lt2 p f ∧ Gp p ∧ slN p t t < p ∧ Lt2 p (k2 p f f) ∧ LtP p Q ∧ LtP p t ∧ Gp p ∧ LtP p t ∧ LtP p t ∧
            0 ≤ Int.ofNat k ∧ Nat.beq (((r % W / 2 ^ min k 64) &&& 1) % W) 1 = true ∧ (!Nat.beq ((sumN p t t).x % W) (P.x % W)) = false ∧ wrapI (Int.ofNat k - 1) = predI k ∧ true = true ∧
            ∃ j : {a // InvPa p P Q (r % W) a}, j.1.1 < k + 1 ∧ VPa k = VPa j.1.1 ∧ HPa p r c gx gy gz P Q ⟨k2 p (k2 p f f) (lineF p t (slN p t t) Q), sumN p t t⟩ = HPa p r c gx gy gz P Q j.1.2) ?_ (by kernel_rfl)
          rw [← hF, ← hT]
          refine ⟨by rw [ilt_nn']; rfl, hP, lt, lt, hup, hP, hf, hf, hP, hsl, hff, l2, lt, hP, lt, lt, Int.natCast_nonneg _, by rw [hbit, hb]; rfl, by rw [lt_w hP lT.1, lt_w hP l1.1, beq_t hx]; rfl, hpr, rfl, ⟨(k, ⟨F, T⟩), by simp only; omega, ?_⟩, by simp only; omega, rfl, rfl⟩
          simp only
          rw [hnext, walk_odd hb, ← hs2, edb]
          unfold adS
          rw [beq_t hx]; rfl
        · have hsl2 : slN p T P < p := slN_lt hP
          have hup2 := slN_other (p := p) hx
          refine roundF mixed tt_ok GPa_ok 60 [⟨7,1,.lit (.bo true)⟩,⟨9,7,.lit (.w .u64 (slN p t t))⟩,⟨13,3,.sym⟩,⟨13,5,.lit (.bo true)⟩,⟨13,11,.lit (.bo true)⟩,⟨14,7,.lit (.w .u64 (slN p (sumN p t t) P))⟩,⟨8,1,.lit (.it (predI k))⟩] ?_
          refine same (p := (!ilt (Int.ofNat k) 0) = true ∧ Gp p ∧ LtP p t ∧ LtP p t ∧ (bif upB t t then 0 else slN p t t) = slN p t t ∧ Gp p ∧ Lt2 p f ∧ Lt2 p f ∧ Gp p ∧ slN p t t < p ∧ Lt2 p (k2 p f f) ∧ LtP p Q ∧ LtP p t ∧ Gp p ∧ LtP p t ∧ LtP p t ∧
            0 ≤ Int.ofNat k ∧ Nat.beq (((r % W / 2 ^ min k 64) &&& 1) % W) 1 = true ∧ (!Nat.beq ((sumN p t t).x % W) (P.x % W)) = true ∧ Gp p ∧ LtP p (sumN p t t) ∧ LtP p P ∧ (bif upB (sumN p t t) P then 0 else slN p (sumN p t t) P) = slN p (sumN p t t) P ∧
            Gp p ∧ slN p (sumN p t t) P < p ∧ Lt2 p (k2 p (k2 p f f) (lineF p t (slN p t t) Q)) ∧ LtP p Q ∧ LtP p (sumN p t t) ∧ Gp p ∧ LtP p (sumN p t t) ∧ LtP p P ∧ wrapI (Int.ofNat k - 1) = predI k ∧ true = true ∧
            ∃ j : {a // InvPa p P Q (r % W) a}, j.1.1 < k + 1 ∧ VPa k = VPa j.1.1 ∧ HPa p r c gx gy gz P Q ⟨k2 p (k2 p (k2 p f f) (lineF p t (slN p t t) Q)) (lineF p (sumN p t t) (slN p (sumN p t t) P) Q), sumN p (sumN p t t) P⟩ = HPa p r c gx gy gz P Q j.1.2) ?_ (by kernel_rfl)
          rw [← hF, ← hT]
          refine ⟨by rw [ilt_nn']; rfl, hP, lt, lt, hup, hP, hf, hf, hP, hsl, hff, l2, lt, hP, lt, lt, Int.natCast_nonneg _, by rw [hbit, hb]; rfl, by rw [lt_w hP lT.1, lt_w hP l1.1, beq_f hx]; rfl, hP, lT, l1, hup2, hP, hsl2, hFl, l2, lT, hP, lT, l1, hpr, rfl, ⟨(k, ⟨k2 p F (lineF p T (slN p T P) Q), sumN p T P⟩), by simp only; omega, ?_⟩, by simp only; omega, rfl, rfl⟩
          simp only
          rw [hnext, walk_odd hb, ← hs2, edb]
          unfold adS
          rw [beq_f hx]; rfl
      · refine roundF mixed tt_ok GPa_ok 60 [⟨7,1,.lit (.bo true)⟩,⟨9,7,.lit (.w .u64 (slN p t t))⟩,⟨13,3,.sym⟩,⟨13,5,.lit (.bo false)⟩,⟨8,1,.lit (.it (predI k))⟩] ?_
        refine same (p := (!ilt (Int.ofNat k) 0) = true ∧ Gp p ∧ LtP p t ∧ LtP p t ∧ (bif upB t t then 0 else slN p t t) = slN p t t ∧ Gp p ∧ Lt2 p f ∧ Lt2 p f ∧ Gp p ∧ slN p t t < p ∧ Lt2 p (k2 p f f) ∧ LtP p Q ∧ LtP p t ∧ Gp p ∧ LtP p t ∧ LtP p t ∧
          0 ≤ Int.ofNat k ∧ Nat.beq (((r % W / 2 ^ min k 64) &&& 1) % W) 1 = false ∧ wrapI (Int.ofNat k - 1) = predI k ∧ true = true ∧
          ∃ j : {a // InvPa p P Q (r % W) a}, j.1.1 < k + 1 ∧ VPa k = VPa j.1.1 ∧ HPa p r c gx gy gz P Q ⟨k2 p (k2 p f f) (lineF p t (slN p t t) Q), sumN p t t⟩ = HPa p r c gx gy gz P Q j.1.2) ?_ (by kernel_rfl)
        rw [← hF, ← hT]
        refine ⟨by rw [ilt_nn']; rfl, hP, lt, lt, hup, hP, hf, hf, hP, hsl, hff, l2, lt, hP, lt, lt, Int.natCast_nonneg _, by rw [hbit]; exact beq_f hb, hpr, rfl, ⟨(k, ⟨F, T⟩), by simp only; omega, ?_⟩, by simp only; omega, rfl, rfl⟩
        simp only
        rw [hnext, walk_even hb, ← hs2, edb]
  · intro ⟨⟨k, s⟩, hk, hs⟩ junk h0
    simp only at hk hs h0
    subst h0
    rw [Nat.pow_zero, Nat.div_one, Nat.sub_zero] at hs
    have hok : WsOk p s := by rw [hs]; exact walk_ok hP h1 _ _
    obtain ⟨n, hn⟩ : ∃ n, n = c * (p + 18446744073709551615) := ⟨_, rfl⟩
    refine evS_q mixed tt_ok GPa_ok 60 [⟨17,7,.lit (.w .u64 n)⟩] ?_
    refine same (p := c * (p + 18446744073709551615) = n ∧ Gp p ∧ Lt2 p s.f ∧ endV (zv (pow2 p s.f (n % W))) (zv (pairN p r c ⟨x, y, false⟩ ⟨u, v, false⟩))) ?_ (by kernel_rfl)
    refine ⟨hn.symm, hP, hok.1, endV_eq ?_⟩
    have e : n % W = c * (p - 1) := by
      have hb := hP.big
      have : c * (p + 18446744073709551615) = c * (p - 1) + W * c := by
        rw [show p + 18446744073709551615 = (p - 1) + W by simp only [W]; omega, Nat.mul_add, Nat.mul_comm c W]
      rw [hn, this, Nat.add_mul_mod_self_left, Nat.mod_eq_of_lt hcp]
    rw [e, hs, hPd, hQd]
    rfl

end Go.Proofs.Ytafiafkeigdjhaa
