/- Poly1305 of the document: tag. Printed by genc11.py. -/
import Derived.Test.YtndmoidenbfflaaC10
namespace Go.Proofs.Ytndmoidenbfflaa
open Go.Rq Go
set_option linter.unusedVariables false
set_option linter.unusedSimpArgs false
set_option maxRecDepth 100000
def cyF (a b : Nat → Nat) : Nat → Nat
  | 0 => 0
  | i + 1 => (cyF a b i + a i + b i) / 256
def ouF (v : Nat → Nat) : Nat → Nat → Nat
  | 0 => fun _ => 0
  | 1 => upd (fun _ => 0) 0 (v 0)
  | k + 2 => catF (k + 1) (ouF v (k + 1)) (upd (fun _ => 0) 0 (v (k + 1)))
theorem ouF_at (v : Nat → Nat) : ∀ k j, j < k → ouF v k j = v j
  | 0, _, h => by omega
  | 1, j, h => by have : j = 0 := by omega
                  subst this; exact upd_same ..
  | k + 2, j, h => by
    show (bif Nat.blt j (k + 1) then ouF v (k + 1) j else upd (fun _ => 0) 0 (v (k + 1)) (j - (k + 1))) = v j
    by_cases hj : j < k + 1
    · have : Nat.blt j (k + 1) = true := by rw [Nat.blt_eq]; exact hj
      rw [this, cond_true]; exact ouF_at v (k + 1) j hj
    · have h2 : Nat.blt j (k + 1) = false := by rw [← Bool.not_eq_true, Nat.blt_eq]; exact hj
      rw [h2, cond_false, show j = k + 1 by omega, Nat.sub_self, upd_same]
abbrev syF (a b : Nat → Nat) (i : Nat) : Nat := cyF a b i + a i + b i
theorem cyF_num (a b : Nat → Nat) : ∀ n, num (fun i => syF a b i % 256) n + cyF a b n * 256 ^ n = num a n + num b n
  | 0 => rfl
  | n + 1 => by
    have ih := cyF_num a b n
    simp only [num, Nat.pow_succ]
    show _ + syF a b n % 256 * 256 ^ n + (syF a b n) / 256 * (256 ^ n * 256) = _
    generalize num (fun i => syF a b i % 256) n = N at *
    generalize 256 ^ n = B at *
    have e : (syF a b n % 256 + 256 * (syF a b n / 256)) * B = syF a b n * B := by rw [Nat.mod_add_div]
    generalize syF a b n % 256 = u at *
    generalize syF a b n / 256 = w at *
    have e2 : syF a b n * B = cyF a b n * B + a n * B + b n * B := by show (cyF a b n + a n + b n) * B = _; rw [Nat.add_mul, Nat.add_mul]
    rw [e2] at e
    rw [Nat.add_mul] at e
    have e3 : w * (B * 256) = 256 * w * B := by grind
    omega
theorem syF_dig {a b : Nat → Nat} {X : Nat} (hX : num a 16 % 256 ^ 16 = X % 256 ^ 16) {j : Nat} (hj : j < 16) : syF a b j % 256 = dgN (X + num b 16) j := by
  have h1 := cyF_num a b 16
  have h2 : num (fun i => syF a b i % 256) 16 < 256 ^ 16 := num_lt fun j _ => Nat.mod_lt _ (by decide)
  have h3 : num (fun i => syF a b i % 256) 16 = (X + num b 16) % 256 ^ 16 := by
    rw [Nat.add_mod, ← hX, ← Nat.add_mod, ← h1, Nat.add_mul_mod_self_right, Nat.mod_eq_of_lt h2]
  have h4 := num_dig (f := fun i => syF a b i % 256) (n := 16) (fun j _ => Nat.mod_lt _ (by decide)) hj
  rw [← h4, h3]
  exact dgN_mod hj
theorem cyF_le {a b : Nat → Nat} (ha : ∀ j, a j < 256) (hb : ∀ j, b j < 256) : ∀ n, cyF a b n ≤ 1
  | 0 => Nat.zero_le _
  | n + 1 => by
    have := cyF_le ha hb n
    have h1 := ha n
    have h2 := hb n
    show (cyF a b n + a n + b n) / 256 ≤ 1
    omega
def rD (kb : Nat → Nat) : Nat → Nat := (upd (upd (upd (upd (upd (upd (upd (upd (upd (upd (upd (upd (upd (upd (upd (upd (upd (upd (upd (upd (upd (upd (upd zI 0 (kb 0)) 1 (kb 1)) 2 (kb 2)) 3 (kb 3)) 4 (kb 4)) 5 (kb 5)) 6 (kb 6)) 7 (kb 7)) 8 (kb 8)) 9 (kb 9)) 10 (kb 10)) 11 (kb 11)) 12 (kb 12)) 13 (kb 13)) 14 (kb 14)) 15 (kb 15)) 3 ((kb 3) % 16)) 7 ((kb 7) % 16)) 11 ((kb 11) % 16)) 15 ((kb 15) % 16)) 4 ((kb 4) - (kb 4) % 4)) 8 ((kb 8) - (kb 8) % 4)) 12 ((kb 12) - (kb 12) % 4))
def clF (kb : Nat → Nat) (j : Nat) : Nat := if j = 3 ∨ j = 7 ∨ j = 11 ∨ j = 15 then kb j % 16 else if j = 4 ∨ j = 8 ∨ j = 12 then kb j - kb j % 4 else if j < 16 then kb j else 0
theorem rD_at (kb : Nat → Nat) {j : Nat} (hj : j < 34) : rD kb j = clF kb j := by
  by_cases h : j < 16
  · have : j = 0 ∨ j = 1 ∨ j = 2 ∨ j = 3 ∨ j = 4 ∨ j = 5 ∨ j = 6 ∨ j = 7 ∨ j = 8 ∨ j = 9 ∨ j = 10 ∨ j = 11 ∨ j = 12 ∨ j = 13 ∨ j = 14 ∨ j = 15 := by omega
    rcases this with rfl | rfl | rfl | rfl | rfl | rfl | rfl | rfl | rfl | rfl | rfl | rfl | rfl | rfl | rfl | rfl <;> rfl
  · unfold rD clF
    rw [if_neg (by omega), if_neg (by omega), if_neg h]
    repeat rw [upd_ne _ _ (by omega)]
theorem and_split {a b c d k : Nat} (ha : a < 2 ^ k) (hc : c < 2 ^ k) : (a + 2 ^ k * b) &&& (c + 2 ^ k * d) = (a &&& c) + 2 ^ k * (b &&& d) := by
  apply Nat.eq_of_testBit_eq
  intro i
  have hac : a &&& c < 2 ^ k := Nat.lt_of_le_of_lt Nat.and_le_left ha
  rw [Nat.testBit_and, Nat.add_comm a, Nat.add_comm c, Nat.add_comm (a &&& c), Nat.testBit_two_pow_mul_add _ ha, Nat.testBit_two_pow_mul_add _ hc, Nat.testBit_two_pow_mul_add _ hac]
  split
  · rw [Nat.testBit_and]
  · rw [Nat.testBit_and]
theorem num_and {f g : Nat → Nat} : ∀ {n}, (∀ j, j < n → f j < 256) → (∀ j, j < n → g j < 256) → num f n &&& num g n = num (fun j => f j &&& g j) n
  | 0, _, _ => by simp [num]
  | n + 1, hf, hg => by
    have ih := num_and (n := n) (fun j hj => hf j (by omega)) (fun j hj => hg j (by omega))
    have h1 := num_lt (n := n) (fun j hj => hf j (by omega))
    have h2 := num_lt (n := n) (fun j hj => hg j (by omega))
    have e : (256 : Nat) ^ n = 2 ^ (8 * n) := by rw [Nat.pow_mul]
    simp only [num]
    rw [Nat.mul_comm (f n), Nat.mul_comm (g n), Nat.mul_comm (f n &&& g n)]
    rw [e] at h1 h2 ⊢
    rw [and_split h1 h2, ih]
theorem and255 (x : Nat) (h : x < 256) : x &&& 255 = x := by
  rw [show 255 = 2 ^ 8 - 1 from rfl, Nat.and_two_pow_sub_one_eq_mod]; exact Nat.mod_eq_of_lt h
theorem and15 (x : Nat) : x &&& 15 = x % 16 := Nat.and_two_pow_sub_one_eq_mod x 4
theorem and252 (x : Nat) (h : x < 256) : x &&& 252 = x - x % 4 := by
  have e := and_split (a := x % 4) (b := x / 4) (c := 0) (d := 63) (k := 2) (by omega) (by decide)
  rw [show x % 4 + 2 ^ 2 * (x / 4) = x by omega, show 0 + 2 ^ 2 * 63 = 252 from rfl, Nat.and_zero, show (63 : Nat) = 2 ^ 6 - 1 from rfl, Nat.and_two_pow_sub_one_eq_mod] at e
  rw [e]; omega
def mk1 : Nat → Nat := fun j => if j = 3 ∨ j = 7 then 15 else if j = 4 then 252 else 255
def mk2 : Nat → Nat := fun j => if j = 3 ∨ j = 7 then 15 else if j = 0 ∨ j = 4 then 252 else 255
theorem mk_lt : ∀ j, mk1 j < 256 ∧ mk2 j < 256 := fun j => by unfold mk1 mk2; constructor <;> (split <;> first | decide | (split <;> decide))
theorem clF_lt {kb : Nat → Nat} (h : ∀ j, kb j < 256) (j : Nat) : clF kb j < 256 := by
  have := h j
  unfold clF
  split
  · omega
  · split
    · omega
    · split <;> omega
theorem and_case {x m : Nat} (h : x < 256) (hm : m = 15 ∨ m = 252 ∨ m = 255) : x &&& m = if m = 15 then x % 16 else if m = 252 then x - x % 4 else x := by
  rcases hm with rfl | rfl | rfl
  · exact and15 x
  · rw [and252 x h]; rfl
  · rw [and255 x h]; rfl
theorem rN_eq (kf : Nat → Nat) : num (clF (b8 kf)) 34 = rN kf := by
  have hb : ∀ j, b8 kf j < 256 := fun j => Nat.mod_lt _ (by decide)
  have e0 : num (clF (b8 kf)) 34 = num (clF (b8 kf)) 8 + 256 ^ 8 * num (fun j => clF (b8 kf) (8 + j)) 8 := by
    rw [show 34 = 8 + (8 + 18) from rfl, num_split 8, num_split 8 18]
    rw [num_zero (f := fun j => clF (b8 kf) (8 + (8 + j))) (n := 18) fun j _ => by unfold clF; rw [if_neg (by omega), if_neg (by omega), if_neg (by omega)]]
    rw [Nat.mul_zero, Nat.add_zero]
  have e1 : num (clF (b8 kf)) 8 = pcL kf &&& 1152921487695413247 := by
    rw [show (1152921487695413247 : Nat) = num mk1 8 by decide, show pcL kf = num (b8 kf) 8 from lo64_num _, num_and (fun j _ => hb j) (fun j _ => (mk_lt j).1)]
    refine num_congr fun j hj => ?_
    have : j = 0 ∨ j = 1 ∨ j = 2 ∨ j = 3 ∨ j = 4 ∨ j = 5 ∨ j = 6 ∨ j = 7 := by omega
    rcases this with rfl | rfl | rfl | rfl | rfl | rfl | rfl | rfl
    all_goals rw [and_case (hb _) (by decide)]; rfl
  have e2 : num (fun j => clF (b8 kf) (8 + j)) 8 = pcH kf &&& 1152921487695413244 := by
    rw [show (1152921487695413244 : Nat) = num mk2 8 by decide, show pcH kf = num (b8 fun j => kf (8 + j)) 8 from lo64_num _, num_and (fun j _ => hb (8 + j)) (fun j _ => (mk_lt j).2)]
    refine num_congr fun j hj => ?_
    have : j = 0 ∨ j = 1 ∨ j = 2 ∨ j = 3 ∨ j = 4 ∨ j = 5 ∨ j = 6 ∨ j = 7 := by omega
    rcases this with rfl | rfl | rfl | rfl | rfl | rfl | rfl | rfl
    all_goals rw [and_case (hb _) (by decide)]; rfl
  have k1 : pcL kf &&& 1152921487695413247 ≤ 1152921487695413247 := Nat.and_le_right
  have k2 : pcH kf &&& 1152921487695413244 ≤ 1152921487695413244 := Nat.and_le_right
  have v0 : rF (pcL kf) (pcH kf) 0 = pcL kf &&& 1152921487695413247 := rfl
  have v1 : rF (pcL kf) (pcH kf) 1 = pcH kf &&& 1152921487695413244 := rfl
  rw [e0, e1, e2]
  unfold rN vR
  rw [v0, v1, Nat.mod_eq_of_lt (by omega), Nat.mod_eq_of_lt (by omega), Nat.mul_comm]
/-! the loops -/
def InvT (b : Nat → Nat) (m r : Nat) (x : Nat × (Nat → Nat)) : Prop := x.1 ≤ (m + 15) / 16 ∧ (∀ j, j < 34 → x.2 j < 256) ∧ num x.2 34 = accN b m r x.1
def InvAd (a ch : Nat → Nat) (x : Nat × Nat × (Nat → Nat)) : Prop := x.1 ≤ 34 ∧ x.2.1 ≤ 1 ∧ num x.2.2 x.1 + x.2.1 * 256 ^ x.1 = num a x.1 + num ch x.1 ∧ (∀ j, j < x.1 → x.2.2 j < 256) ∧ ∀ j, x.1 ≤ j → x.2.2 j = a j
theorem invAd_step {a ch g : Nat → Nat} {i c : Nat} (hi : i < 34) (ha : a i < 256) (hc : ch i < 256) (hI : InvAd a ch (i, c, g)) : InvAd a ch (i + 1, (c + g i + ch i) / 256, upd g i ((c + g i + ch i) % 256)) := by
  obtain ⟨h1, h2, h3, h4, h5⟩ := hI
  simp only at h1 h2 h3 h4 h5
  have hg := h5 i (Nat.le_refl _)
  refine ⟨hi, by simp only; omega, ?_, lt_put (Nat.mod_lt _ (by decide)) h4, fun j hj => by simp only at hj ⊢; rw [upd_ne _ _ (by omega)]; exact h5 j (by omega)⟩
  show _ = num a i + a i * 256 ^ i + (num ch i + ch i * 256 ^ i)
  refine carry_put ?_
  rw [Nat.add_mul, Nat.add_mul, hg]; omega
theorem chk_lt (b : Nat → Nat) (m k : Nat) : chk1 b m k < 2 * 256 ^ 16 := by
  unfold chk1
  have h1 : num (fun j => b (16 * k + j) % 256) (min (m - 16 * k) 16) < 256 ^ min (m - 16 * k) 16 := num_lt fun j _ => Nat.mod_lt _ (by decide)
  have h2 : 256 ^ min (m - 16 * k) 16 ≤ 256 ^ 16 := Nat.pow_le_pow_right (by decide) (by omega)
  omega
theorem accN_lt (b : Nat → Nat) (m r : Nat) : ∀ k, accN b m r k < pP
  | 0 => show 0 < pP by decide
  | k + 1 => Nat.mod_lt _ (by decide)
theorem ch_num {q : Nat} {g : Nat → Nat} (h : q ≤ 16) : num (b8 (fuF q g)) 34 = num (b8 g) q + 256 ^ q := by
  rw [show 34 = 17 + 17 from rfl, num_split 17, fuF_num h, num_zero (f := fun j => b8 (fuF q g) (17 + j)) (n := 17) fun j _ => by simp only [b8]; rw [fuF_at, if_neg (by omega), if_neg (by omega)]]
  omega
theorem invAd_end {b a g : Nat → Nat} {m r k c : Nat} (hT : InvT b m r (k, a)) (hk : 0 < m - 16 * k) (hI : InvAd a (b8 (fuF (min (m - 16 * k) 16) fun j => b (16 * k + j))) (34, c, g)) :
    (∀ j, j < 34 → g j < 256) ∧ num g 34 = accN b m r k + chk1 b m k := by
  obtain ⟨h1, h2, h3, h4, h5⟩ := hI
  simp only at h1 h2 h3 h4 h5
  obtain ⟨t1, t2, t3⟩ := hT
  simp only at t1 t2 t3
  rw [ch_num (by omega), t3] at h3
  have hs : num g 34 + c * 256 ^ 34 = accN b m r k + chk1 b m k := h3
  refine ⟨h4, ?_⟩
  have l1 := accN_lt b m r k
  have l2 := chk_lt b m k
  have l3 : pP + 2 * 256 ^ 16 ≤ 256 ^ 34 := by decide
  rcases Nat.eq_zero_or_pos c with e | e
  · rw [e, Nat.zero_mul, Nat.add_zero] at hs; exact hs
  · have : 256 ^ 34 ≤ c * 256 ^ 34 := Nat.le_mul_of_pos_left _ e
    generalize (256 : Nat) ^ 34 = B at *
    generalize (256 : Nat) ^ 16 = D at *
    omega
theorem invT_next {b a g : Nat → Nat} {m r k : Nat} (hT : InvT b m r (k, a)) (hk : 0 < m - 16 * k) (hg : num g 34 = accN b m r k + chk1 b m k) : InvT b m r (k + 1, dgN (num g 34 * r % pP)) := by
  refine ⟨by have := hT.1; simp only at this ⊢; omega, fun j _ => dgN_lt, ?_⟩
  simp only
  rw [num_dgN, hg]
  exact Nat.mod_eq_of_lt (Nat.lt_of_lt_of_le (accN_lt b m r (k + 1)) (by decide))
theorem toU8_mod (x : Nat) : toU .u8 (Int.ofNat (x % 256)) % 256 = x % 256 := by
  rw [toU8_small (Nat.mod_lt _ (by decide))]
/-- A key's byte. -/
def kl (o : Nat) (f : Nat → Nat) (i : Nat) (q : Prop) : Prop := o ≤ addN o i ∧ addN o i < o + 32 ∧ wrapI (Int.ofNat (f (addN o i - o) % 256)) = Int.ofNat (f (addN o i - o) % 256) ∧ q
theorem kl_of {o i : Nat} {f : Nat → Nat} {q : Prop} (h : i < 32) (k : q) : kl o f i q := ⟨by rw [addN_eq]; omega, by rw [addN_eq]; omega, wrapI_nn (by omega), k⟩
/-- A round of the end. -/
def ro (o : Nat) (f a kb : Nat → Nat) (i : Nat) (q : Prop) : Prop :=
  wrapI (Int.ofNat (cyF a kb i) + Int.ofNat (a i)) = Int.ofNat (cyF a kb i + a i) ∧ o ≤ addN o (16 + i) ∧ addN o (16 + i) < o + 32 ∧ wrapI (Int.ofNat (f (addN o (16 + i) - o) % 256)) = Int.ofNat (f (addN o (16 + i) - o) % 256) ∧
  wrapI (Int.ofNat (cyF a kb i + a i) + Int.ofNat (f (addN o (16 + i) - o) % 256)) = Int.ofNat (cyF a kb i + a i + f (addN o (16 + i) - o) % 256) ∧ (Int.ofNat (cyF a kb i + a i + f (addN o (16 + i) - o) % 256)).tmod 256 = Int.ofNat ((cyF a kb i + a i + f (addN o (16 + i) - o) % 256) % 256) ∧
  wrapI ((Int.ofNat (cyF a kb i + a i + f (addN o (16 + i) - o) % 256)).tdiv 256) = Int.ofNat (cyF a kb (i + 1)) ∧ q
theorem ro_of {o i : Nat} {f a : Nat → Nat} {q : Prop} (hi : i < 16) (ha : ∀ j, a j < 256) (k : q) : ro o f a (fun j => f (addN o (16 + j) - o) % 256) i q := by
  have h1 := cyF_le (b := fun j => f (addN o (16 + j) - o) % 256) ha (fun j => Nat.mod_lt _ (by decide)) i
  have h2 := ha i
  have h3 := Nat.mod_lt (f (addN o (16 + i) - o)) (show 0 < 256 by decide)
  exact ⟨wrapI_nadd (by omega), by rw [addN_eq]; omega, by rw [addN_eq]; omega, wrapI_nn (by omega), wrapI_nadd (by omega), rfl, wrapI_ndiv (b := 256) (by omega), k⟩
def cTag' (args : List AV) (h : Heap) (slot : Nat) : Option (List Prop × AV × Heap) :=
  match args with
  | [x, y] => match vw h x, vw h y, isHole h slot && isHole h (slot + 1) with
    | some (n, kf, p1), some (m, bf, p2), true => some (p1 ++ p2 ++ [n = 32, m < 4000000000000000000], .v1 (.sc (.so slot 16)), hset (hset h slot ⟨5, [.ws .u8 16 (dgN (tagN kf bf m))], 1, 1⟩) (slot + 1) ⟨0, [], 2, 0⟩)
    | _, _, _ => none
  | _ => none
def GTt : Ctx := ctxL [(47, .pure cTimes')]
theorem GTt_ok : CtxOk Try.prog GTt := ctxL_cons okTimes' ctxL_nil
abbrev soB (f : Nat → Nat) : Option Blk := some ⟨5, [.ws .u8 16 f], 1, 1⟩
abbrev deB : Option Blk := some ⟨0, [], 2, 0⟩
theorem okTag' : (CallC.mem cTag').Ok Try.prog 34 := by
  intro args h slot pre v h' e hp
  unfold cTag' at e
  split at e
  rotate_left
  · cases e
  rename_i x y
  split at e
  rotate_left
  · cases e
  rename_i n kf p1 m bf p2 h1 h2 hh
  cases e
  simp only [Bool.and_eq_true] at hh
  have hn : n = 32 := hp (n = 32) (by simp)
  have hm : m < 4000000000000000000 := hp (m < 4000000000000000000) (by simp)
  subst hn
  generalize hF : dgN (tagN kf bf m) = F
  refine views_call tt_ok Try.func34 (by kernel_rfl) (by kernel_rfl) [.vs 32 kf, .vs m bf] (args := [x, y])
    ⟨⟨p1, h1, fun p hq => hp p (by simp [hq])⟩, ⟨p2, h2, fun p hq => hp p (by simp [hq])⟩, trivial⟩ slot [⟨5, [.ws .u8 16 F], 1, 1⟩, ⟨0, [], 2, 0⟩] (.v1 (.sc (.so 0 16))) rfl rfl rfl (fun t ht => by
      have : t = 0 ∨ t = 1 := by simp at ht; omega
      rcases this with rfl | rfl
      · exact hh.1
      · exact hh.2) fun a W hi => ?_
  rcases hi with _ | _ | ⟨w1, h0, hi⟩ | ⟨t1, o1, c1, v1, kc1, hi⟩ | _
  · exact absurd h0 (by decide)
  have hkj : ∀ j, kf (addN o1 j - o1) = kf j := fun j => by rw [addN_eq]; congr 1; omega
  have hkb : (fun j => kf (addN o1 j - o1) % 256) = b8 kf := by funext j; rw [hkj]
  have hke : (fun j => kf (addN o1 (16 + j) - o1) % 256) = fun j => kf (16 + j) % 256 := by funext j; rw [hkj]
  have hrl : ∀ j, j < 34 → rD (fun j => kf (addN o1 j - o1) % 256) j < 256 := fun j hj => by rw [rD_at _ hj, hkb]; exact clF_lt (fun j => Nat.mod_lt _ (by decide)) j
  have hrn : num (rD fun j => kf (addN o1 j - o1) % 256) 34 = rN kf := by
    rw [num_congr fun j hj => rD_at _ hj, hkb]; exact rN_eq kf
  have fin : ∀ (A : Nat → Nat) X, num A 16 % 256 ^ 16 = X % 256 ^ 16 → (X + num (fun j => kf (16 + j) % 256) 16 = tagN kf bf m) → ∀ j, j < 16 → (ouF (fun i => toU .u8 (Int.ofNat ((cyF A (fun j => kf (addN o1 (16 + j) - o1) % 256) i + A i + kf (addN o1 (16 + i) - o1) % 256) % 256))) 16) j % 256 = F j % 256 := fun A X hX hT j hj => by
    rw [ouF_at _ _ _ hj, toU8_mod]
    have := syF_dig (a := A) (b := (fun j => kf (addN o1 (16 + j) - o1) % 256)) hX hj
    rw [show (cyF A (fun j => kf (addN o1 (16 + j) - o1) % 256) j + A j + kf (addN o1 (16 + j) - o1) % 256) % 256 = syF A (fun j => kf (addN o1 (16 + j) - o1) % 256) j % 256 from rfl, this, hke, hT, ← hF]
    exact (Nat.mod_eq_of_lt dgN_lt).symm
  rcases hi with _ | _ | ⟨w2, h0, hi⟩ | ⟨t2, o2, c2, v2, kc2, hi⟩ | _
  · cases hi
    subst h0
    refine ⟨[49, 50], rfl, ?_⟩
    refine evS_q mixed tt_ok GTt_ok 4000 [⟨5,5,.lit (.it (Int.ofNat (kf (addN o1 0 - o1) % 256)))⟩,⟨5,5,.lit (.it (Int.ofNat (kf (addN o1 1 - o1) % 256)))⟩,⟨5,5,.lit (.it (Int.ofNat (kf (addN o1 2 - o1) % 256)))⟩,⟨5,5,.lit (.it (Int.ofNat (kf (addN o1 3 - o1) % 256)))⟩,⟨5,5,.lit (.it (Int.ofNat (kf (addN o1 4 - o1) % 256)))⟩,⟨5,5,.lit (.it (Int.ofNat (kf (addN o1 5 - o1) % 256)))⟩,⟨5,5,.lit (.it (Int.ofNat (kf (addN o1 6 - o1) % 256)))⟩,⟨5,5,.lit (.it (Int.ofNat (kf (addN o1 7 - o1) % 256)))⟩,⟨5,5,.lit (.it (Int.ofNat (kf (addN o1 8 - o1) % 256)))⟩,⟨5,5,.lit (.it (Int.ofNat (kf (addN o1 9 - o1) % 256)))⟩,⟨5,5,.lit (.it (Int.ofNat (kf (addN o1 10 - o1) % 256)))⟩,⟨5,5,.lit (.it (Int.ofNat (kf (addN o1 11 - o1) % 256)))⟩,⟨5,5,.lit (.it (Int.ofNat (kf (addN o1 12 - o1) % 256)))⟩,⟨5,5,.lit (.it (Int.ofNat (kf (addN o1 13 - o1) % 256)))⟩,⟨5,5,.lit (.it (Int.ofNat (kf (addN o1 14 - o1) % 256)))⟩,⟨5,5,.lit (.it (Int.ofNat (kf (addN o1 15 - o1) % 256)))⟩,⟨9,4,.lit (.it (Int.ofNat (kf (addN o1 3 - o1) % 256 % 16)))⟩,⟨9,4,.lit (.it (Int.ofNat (kf (addN o1 7 - o1) % 256 % 16)))⟩,⟨9,4,.lit (.it (Int.ofNat (kf (addN o1 11 - o1) % 256 % 16)))⟩,⟨9,4,.lit (.it (Int.ofNat (kf (addN o1 15 - o1) % 256 % 16)))⟩,⟨13,7,.lit (.it (Int.ofNat (kf (addN o1 4 - o1) % 256 % 4)))⟩,⟨13,8,.lit (.it (Int.ofNat (kf (addN o1 4 - o1) % 256 - kf (addN o1 4 - o1) % 256 % 4)))⟩,⟨13,7,.lit (.it (Int.ofNat (kf (addN o1 8 - o1) % 256 % 4)))⟩,⟨13,8,.lit (.it (Int.ofNat (kf (addN o1 8 - o1) % 256 - kf (addN o1 8 - o1) % 256 % 4)))⟩,⟨13,7,.lit (.it (Int.ofNat (kf (addN o1 12 - o1) % 256 % 4)))⟩,⟨13,8,.lit (.it (Int.ofNat (kf (addN o1 12 - o1) % 256 - kf (addN o1 12 - o1) % 256 % 4)))⟩,⟨35,4,.lit (.it (Int.ofNat (cyF zI (fun j => kf (addN o1 (16 + j) - o1) % 256) 0 + zI 0)))⟩,⟨35,10,.lit (.it (Int.ofNat (kf (addN o1 (16 + 0) - o1) % 256)))⟩,⟨35,11,.lit (.it (Int.ofNat (cyF zI (fun j => kf (addN o1 (16 + j) - o1) % 256) 0 + zI 0 + kf (addN o1 (16 + 0) - o1) % 256)))⟩,⟨36,2,.lit (.it (Int.ofNat ((cyF zI (fun j => kf (addN o1 (16 + j) - o1) % 256) 0 + zI 0 + kf (addN o1 (16 + 0) - o1) % 256) % 256)))⟩,⟨37,1,.lit (.it (Int.ofNat (cyF zI (fun j => kf (addN o1 (16 + j) - o1) % 256) 1)))⟩,⟨35,4,.lit (.it (Int.ofNat (cyF zI (fun j => kf (addN o1 (16 + j) - o1) % 256) 1 + zI 1)))⟩,⟨35,10,.lit (.it (Int.ofNat (kf (addN o1 (16 + 1) - o1) % 256)))⟩,⟨35,11,.lit (.it (Int.ofNat (cyF zI (fun j => kf (addN o1 (16 + j) - o1) % 256) 1 + zI 1 + kf (addN o1 (16 + 1) - o1) % 256)))⟩,⟨36,2,.lit (.it (Int.ofNat ((cyF zI (fun j => kf (addN o1 (16 + j) - o1) % 256) 1 + zI 1 + kf (addN o1 (16 + 1) - o1) % 256) % 256)))⟩,⟨37,1,.lit (.it (Int.ofNat (cyF zI (fun j => kf (addN o1 (16 + j) - o1) % 256) 2)))⟩,⟨35,4,.lit (.it (Int.ofNat (cyF zI (fun j => kf (addN o1 (16 + j) - o1) % 256) 2 + zI 2)))⟩,⟨35,10,.lit (.it (Int.ofNat (kf (addN o1 (16 + 2) - o1) % 256)))⟩,⟨35,11,.lit (.it (Int.ofNat (cyF zI (fun j => kf (addN o1 (16 + j) - o1) % 256) 2 + zI 2 + kf (addN o1 (16 + 2) - o1) % 256)))⟩,⟨36,2,.lit (.it (Int.ofNat ((cyF zI (fun j => kf (addN o1 (16 + j) - o1) % 256) 2 + zI 2 + kf (addN o1 (16 + 2) - o1) % 256) % 256)))⟩,⟨37,1,.lit (.it (Int.ofNat (cyF zI (fun j => kf (addN o1 (16 + j) - o1) % 256) 3)))⟩,⟨35,4,.lit (.it (Int.ofNat (cyF zI (fun j => kf (addN o1 (16 + j) - o1) % 256) 3 + zI 3)))⟩,⟨35,10,.lit (.it (Int.ofNat (kf (addN o1 (16 + 3) - o1) % 256)))⟩,⟨35,11,.lit (.it (Int.ofNat (cyF zI (fun j => kf (addN o1 (16 + j) - o1) % 256) 3 + zI 3 + kf (addN o1 (16 + 3) - o1) % 256)))⟩,⟨36,2,.lit (.it (Int.ofNat ((cyF zI (fun j => kf (addN o1 (16 + j) - o1) % 256) 3 + zI 3 + kf (addN o1 (16 + 3) - o1) % 256) % 256)))⟩,⟨37,1,.lit (.it (Int.ofNat (cyF zI (fun j => kf (addN o1 (16 + j) - o1) % 256) 4)))⟩,⟨35,4,.lit (.it (Int.ofNat (cyF zI (fun j => kf (addN o1 (16 + j) - o1) % 256) 4 + zI 4)))⟩,⟨35,10,.lit (.it (Int.ofNat (kf (addN o1 (16 + 4) - o1) % 256)))⟩,⟨35,11,.lit (.it (Int.ofNat (cyF zI (fun j => kf (addN o1 (16 + j) - o1) % 256) 4 + zI 4 + kf (addN o1 (16 + 4) - o1) % 256)))⟩,⟨36,2,.lit (.it (Int.ofNat ((cyF zI (fun j => kf (addN o1 (16 + j) - o1) % 256) 4 + zI 4 + kf (addN o1 (16 + 4) - o1) % 256) % 256)))⟩,⟨37,1,.lit (.it (Int.ofNat (cyF zI (fun j => kf (addN o1 (16 + j) - o1) % 256) 5)))⟩,⟨35,4,.lit (.it (Int.ofNat (cyF zI (fun j => kf (addN o1 (16 + j) - o1) % 256) 5 + zI 5)))⟩,⟨35,10,.lit (.it (Int.ofNat (kf (addN o1 (16 + 5) - o1) % 256)))⟩,⟨35,11,.lit (.it (Int.ofNat (cyF zI (fun j => kf (addN o1 (16 + j) - o1) % 256) 5 + zI 5 + kf (addN o1 (16 + 5) - o1) % 256)))⟩,⟨36,2,.lit (.it (Int.ofNat ((cyF zI (fun j => kf (addN o1 (16 + j) - o1) % 256) 5 + zI 5 + kf (addN o1 (16 + 5) - o1) % 256) % 256)))⟩,⟨37,1,.lit (.it (Int.ofNat (cyF zI (fun j => kf (addN o1 (16 + j) - o1) % 256) 6)))⟩,⟨35,4,.lit (.it (Int.ofNat (cyF zI (fun j => kf (addN o1 (16 + j) - o1) % 256) 6 + zI 6)))⟩,⟨35,10,.lit (.it (Int.ofNat (kf (addN o1 (16 + 6) - o1) % 256)))⟩,⟨35,11,.lit (.it (Int.ofNat (cyF zI (fun j => kf (addN o1 (16 + j) - o1) % 256) 6 + zI 6 + kf (addN o1 (16 + 6) - o1) % 256)))⟩,⟨36,2,.lit (.it (Int.ofNat ((cyF zI (fun j => kf (addN o1 (16 + j) - o1) % 256) 6 + zI 6 + kf (addN o1 (16 + 6) - o1) % 256) % 256)))⟩,⟨37,1,.lit (.it (Int.ofNat (cyF zI (fun j => kf (addN o1 (16 + j) - o1) % 256) 7)))⟩,⟨35,4,.lit (.it (Int.ofNat (cyF zI (fun j => kf (addN o1 (16 + j) - o1) % 256) 7 + zI 7)))⟩,⟨35,10,.lit (.it (Int.ofNat (kf (addN o1 (16 + 7) - o1) % 256)))⟩,⟨35,11,.lit (.it (Int.ofNat (cyF zI (fun j => kf (addN o1 (16 + j) - o1) % 256) 7 + zI 7 + kf (addN o1 (16 + 7) - o1) % 256)))⟩,⟨36,2,.lit (.it (Int.ofNat ((cyF zI (fun j => kf (addN o1 (16 + j) - o1) % 256) 7 + zI 7 + kf (addN o1 (16 + 7) - o1) % 256) % 256)))⟩,⟨37,1,.lit (.it (Int.ofNat (cyF zI (fun j => kf (addN o1 (16 + j) - o1) % 256) 8)))⟩,⟨35,4,.lit (.it (Int.ofNat (cyF zI (fun j => kf (addN o1 (16 + j) - o1) % 256) 8 + zI 8)))⟩,⟨35,10,.lit (.it (Int.ofNat (kf (addN o1 (16 + 8) - o1) % 256)))⟩,⟨35,11,.lit (.it (Int.ofNat (cyF zI (fun j => kf (addN o1 (16 + j) - o1) % 256) 8 + zI 8 + kf (addN o1 (16 + 8) - o1) % 256)))⟩,⟨36,2,.lit (.it (Int.ofNat ((cyF zI (fun j => kf (addN o1 (16 + j) - o1) % 256) 8 + zI 8 + kf (addN o1 (16 + 8) - o1) % 256) % 256)))⟩,⟨37,1,.lit (.it (Int.ofNat (cyF zI (fun j => kf (addN o1 (16 + j) - o1) % 256) 9)))⟩,⟨35,4,.lit (.it (Int.ofNat (cyF zI (fun j => kf (addN o1 (16 + j) - o1) % 256) 9 + zI 9)))⟩,⟨35,10,.lit (.it (Int.ofNat (kf (addN o1 (16 + 9) - o1) % 256)))⟩,⟨35,11,.lit (.it (Int.ofNat (cyF zI (fun j => kf (addN o1 (16 + j) - o1) % 256) 9 + zI 9 + kf (addN o1 (16 + 9) - o1) % 256)))⟩,⟨36,2,.lit (.it (Int.ofNat ((cyF zI (fun j => kf (addN o1 (16 + j) - o1) % 256) 9 + zI 9 + kf (addN o1 (16 + 9) - o1) % 256) % 256)))⟩,⟨37,1,.lit (.it (Int.ofNat (cyF zI (fun j => kf (addN o1 (16 + j) - o1) % 256) 10)))⟩,⟨35,4,.lit (.it (Int.ofNat (cyF zI (fun j => kf (addN o1 (16 + j) - o1) % 256) 10 + zI 10)))⟩,⟨35,10,.lit (.it (Int.ofNat (kf (addN o1 (16 + 10) - o1) % 256)))⟩,⟨35,11,.lit (.it (Int.ofNat (cyF zI (fun j => kf (addN o1 (16 + j) - o1) % 256) 10 + zI 10 + kf (addN o1 (16 + 10) - o1) % 256)))⟩,⟨36,2,.lit (.it (Int.ofNat ((cyF zI (fun j => kf (addN o1 (16 + j) - o1) % 256) 10 + zI 10 + kf (addN o1 (16 + 10) - o1) % 256) % 256)))⟩,⟨37,1,.lit (.it (Int.ofNat (cyF zI (fun j => kf (addN o1 (16 + j) - o1) % 256) 11)))⟩,⟨35,4,.lit (.it (Int.ofNat (cyF zI (fun j => kf (addN o1 (16 + j) - o1) % 256) 11 + zI 11)))⟩,⟨35,10,.lit (.it (Int.ofNat (kf (addN o1 (16 + 11) - o1) % 256)))⟩,⟨35,11,.lit (.it (Int.ofNat (cyF zI (fun j => kf (addN o1 (16 + j) - o1) % 256) 11 + zI 11 + kf (addN o1 (16 + 11) - o1) % 256)))⟩,⟨36,2,.lit (.it (Int.ofNat ((cyF zI (fun j => kf (addN o1 (16 + j) - o1) % 256) 11 + zI 11 + kf (addN o1 (16 + 11) - o1) % 256) % 256)))⟩,⟨37,1,.lit (.it (Int.ofNat (cyF zI (fun j => kf (addN o1 (16 + j) - o1) % 256) 12)))⟩,⟨35,4,.lit (.it (Int.ofNat (cyF zI (fun j => kf (addN o1 (16 + j) - o1) % 256) 12 + zI 12)))⟩,⟨35,10,.lit (.it (Int.ofNat (kf (addN o1 (16 + 12) - o1) % 256)))⟩,⟨35,11,.lit (.it (Int.ofNat (cyF zI (fun j => kf (addN o1 (16 + j) - o1) % 256) 12 + zI 12 + kf (addN o1 (16 + 12) - o1) % 256)))⟩,⟨36,2,.lit (.it (Int.ofNat ((cyF zI (fun j => kf (addN o1 (16 + j) - o1) % 256) 12 + zI 12 + kf (addN o1 (16 + 12) - o1) % 256) % 256)))⟩,⟨37,1,.lit (.it (Int.ofNat (cyF zI (fun j => kf (addN o1 (16 + j) - o1) % 256) 13)))⟩,⟨35,4,.lit (.it (Int.ofNat (cyF zI (fun j => kf (addN o1 (16 + j) - o1) % 256) 13 + zI 13)))⟩,⟨35,10,.lit (.it (Int.ofNat (kf (addN o1 (16 + 13) - o1) % 256)))⟩,⟨35,11,.lit (.it (Int.ofNat (cyF zI (fun j => kf (addN o1 (16 + j) - o1) % 256) 13 + zI 13 + kf (addN o1 (16 + 13) - o1) % 256)))⟩,⟨36,2,.lit (.it (Int.ofNat ((cyF zI (fun j => kf (addN o1 (16 + j) - o1) % 256) 13 + zI 13 + kf (addN o1 (16 + 13) - o1) % 256) % 256)))⟩,⟨37,1,.lit (.it (Int.ofNat (cyF zI (fun j => kf (addN o1 (16 + j) - o1) % 256) 14)))⟩,⟨35,4,.lit (.it (Int.ofNat (cyF zI (fun j => kf (addN o1 (16 + j) - o1) % 256) 14 + zI 14)))⟩,⟨35,10,.lit (.it (Int.ofNat (kf (addN o1 (16 + 14) - o1) % 256)))⟩,⟨35,11,.lit (.it (Int.ofNat (cyF zI (fun j => kf (addN o1 (16 + j) - o1) % 256) 14 + zI 14 + kf (addN o1 (16 + 14) - o1) % 256)))⟩,⟨36,2,.lit (.it (Int.ofNat ((cyF zI (fun j => kf (addN o1 (16 + j) - o1) % 256) 14 + zI 14 + kf (addN o1 (16 + 14) - o1) % 256) % 256)))⟩,⟨37,1,.lit (.it (Int.ofNat (cyF zI (fun j => kf (addN o1 (16 + j) - o1) % 256) 15)))⟩,⟨35,4,.lit (.it (Int.ofNat (cyF zI (fun j => kf (addN o1 (16 + j) - o1) % 256) 15 + zI 15)))⟩,⟨35,10,.lit (.it (Int.ofNat (kf (addN o1 (16 + 15) - o1) % 256)))⟩,⟨35,11,.lit (.it (Int.ofNat (cyF zI (fun j => kf (addN o1 (16 + j) - o1) % 256) 15 + zI 15 + kf (addN o1 (16 + 15) - o1) % 256)))⟩,⟨36,2,.lit (.it (Int.ofNat ((cyF zI (fun j => kf (addN o1 (16 + j) - o1) % 256) 15 + zI 15 + kf (addN o1 (16 + 15) - o1) % 256) % 256)))⟩,⟨37,1,.lit (.it (Int.ofNat (cyF zI (fun j => kf (addN o1 (16 + j) - o1) % 256) 16)))⟩] (same (p := kl o1 kf 0 (kl o1 kf 1 (kl o1 kf 2 (kl o1 kf 3 (kl o1 kf 4 (kl o1 kf 5 (kl o1 kf 6 (kl o1 kf 7 (kl o1 kf 8 (kl o1 kf 9 (kl o1 kf 10 (kl o1 kf 11 (kl o1 kf 12 (kl o1 kf 13 (kl o1 kf 14 (kl o1 kf 15 ((Int.ofNat (kf (addN o1 3 - o1) % 256)).tmod 16 = Int.ofNat (kf (addN o1 3 - o1) % 256 % 16) ∧ (Int.ofNat (kf (addN o1 7 - o1) % 256)).tmod 16 = Int.ofNat (kf (addN o1 7 - o1) % 256 % 16) ∧ (Int.ofNat (kf (addN o1 11 - o1) % 256)).tmod 16 = Int.ofNat (kf (addN o1 11 - o1) % 256 % 16) ∧ (Int.ofNat (kf (addN o1 15 - o1) % 256)).tmod 16 = Int.ofNat (kf (addN o1 15 - o1) % 256 % 16) ∧ (Int.ofNat (kf (addN o1 4 - o1) % 256)).tmod 4 = Int.ofNat (kf (addN o1 4 - o1) % 256 % 4) ∧ wrapI (Int.ofNat (kf (addN o1 4 - o1) % 256) - Int.ofNat (kf (addN o1 4 - o1) % 256 % 4)) = Int.ofNat (kf (addN o1 4 - o1) % 256 - kf (addN o1 4 - o1) % 256 % 4) ∧ (Int.ofNat (kf (addN o1 8 - o1) % 256)).tmod 4 = Int.ofNat (kf (addN o1 8 - o1) % 256 % 4) ∧ wrapI (Int.ofNat (kf (addN o1 8 - o1) % 256) - Int.ofNat (kf (addN o1 8 - o1) % 256 % 4)) = Int.ofNat (kf (addN o1 8 - o1) % 256 - kf (addN o1 8 - o1) % 256 % 4) ∧ (Int.ofNat (kf (addN o1 12 - o1) % 256)).tmod 4 = Int.ofNat (kf (addN o1 12 - o1) % 256 % 4) ∧ wrapI (Int.ofNat (kf (addN o1 12 - o1) % 256) - Int.ofNat (kf (addN o1 12 - o1) % 256 % 4)) = Int.ofNat (kf (addN o1 12 - o1) % 256 - kf (addN o1 12 - o1) % 256 % 4) ∧ ro o1 kf zI (fun j => kf (addN o1 (16 + j) - o1) % 256) 0 (ro o1 kf zI (fun j => kf (addN o1 (16 + j) - o1) % 256) 1 (ro o1 kf zI (fun j => kf (addN o1 (16 + j) - o1) % 256) 2 (ro o1 kf zI (fun j => kf (addN o1 (16 + j) - o1) % 256) 3 (ro o1 kf zI (fun j => kf (addN o1 (16 + j) - o1) % 256) 4 (ro o1 kf zI (fun j => kf (addN o1 (16 + j) - o1) % 256) 5 (ro o1 kf zI (fun j => kf (addN o1 (16 + j) - o1) % 256) 6 (ro o1 kf zI (fun j => kf (addN o1 (16 + j) - o1) % 256) 7 (ro o1 kf zI (fun j => kf (addN o1 (16 + j) - o1) % 256) 8 (ro o1 kf zI (fun j => kf (addN o1 (16 + j) - o1) % 256) 9 (ro o1 kf zI (fun j => kf (addN o1 (16 + j) - o1) % 256) 10 (ro o1 kf zI (fun j => kf (addN o1 (16 + j) - o1) % 256) 11 (ro o1 kf zI (fun j => kf (addN o1 (16 + j) - o1) % 256) 12 (ro o1 kf zI (fun j => kf (addN o1 (16 + j) - o1) % 256) 13 (ro o1 kf zI (fun j => kf (addN o1 (16 + j) - o1) % 256) 14 (ro o1 kf zI (fun j => kf (addN o1 (16 + j) - o1) % 256) 15 (endM [0, 49, 50] [wB t1 o1 32 kf v1, soB (ouF (fun i => toU .u8 (Int.ofNat ((cyF zI (fun j => kf (addN o1 (16 + j) - o1) % 256) i + zI i + kf (addN o1 (16 + i) - o1) % 256) % 256))) 16), deB] [wB t1 o1 32 kf v1, soB F, deB] (.v1 (.sc (.so 49 16))) (.v1 (.sc (.so 1 16)))))))))))))))))))))))))))))))))))) ?_ (by kernel_rfl))
    have ha : ∀ j, zI j < 256 := fun _ => show 0 < 256 by decide
    exact kl_of (by decide) (kl_of (by decide) (kl_of (by decide) (kl_of (by decide) (kl_of (by decide) (kl_of (by decide) (kl_of (by decide) (kl_of (by decide) (kl_of (by decide) (kl_of (by decide) (kl_of (by decide) (kl_of (by decide) (kl_of (by decide) (kl_of (by decide) (kl_of (by decide) (kl_of (by decide) (⟨rfl, ⟨rfl, ⟨rfl, ⟨rfl, ⟨rfl, wrapI_nsub (Nat.mod_le _ _) (Nat.lt_trans (Nat.mod_lt _ (by decide)) (by decide)), ⟨rfl, wrapI_nsub (Nat.mod_le _ _) (Nat.lt_trans (Nat.mod_lt _ (by decide)) (by decide)), ⟨rfl, wrapI_nsub (Nat.mod_le _ _) (Nat.lt_trans (Nat.mod_lt _ (by decide)) (by decide)), ro_of (by decide) ha (ro_of (by decide) ha (ro_of (by decide) ha (ro_of (by decide) ha (ro_of (by decide) ha (ro_of (by decide) ha (ro_of (by decide) ha (ro_of (by decide) ha (ro_of (by decide) ha (ro_of (by decide) ha (ro_of (by decide) ha (ro_of (by decide) ha (ro_of (by decide) ha (ro_of (by decide) ha (ro_of (by decide) ha (ro_of (by decide) ha (endM_ok ⟨simB_refl _, ⟨rfl, rfl, rfl, fun ρ => ws8_val (fin zI 0 (by decide) (by show 0 + _ = accN bf 0 (rN kf) 0 + _; rfl)) ρ⟩, simB_refl _, trivial⟩ rfl fun _ => rfl))))))))))))))))⟩⟩⟩⟩⟩⟩⟩))))))))))))))))
  · cases hi
    refine ⟨[50, 51], rfl, ?_⟩
    refine loopK mixed tt_ok GTt_ok 3 (by kernel_rfl) (ι := {x // InvT bf m (rN kf) x}) [0,1,5,6,10] 123 4 (fun x => [.v1 (.sc (.sl 0 o1 32 c1)), .v1 (.sc (.sl 1 o2 m c2)), ptA 2, ptA 3, iv (Int.ofNat (16 * x.1.1))]) (fun x => [wB t1 o1 32 kf v1, wB t2 o2 m bf v2, iB34 (rD fun j => kf (addN o1 j - o1) % 256), iB34 x.1.2]) (fun x => m - 16 * x.1.1) (fun x => m - 16 * x.1.1 = 0)
      (fun _ => rfl) (fun _ => by kernel_rfl) (fun x j h => by have := Dm_lt h; simp at this; have : j = 0 ∨ j = 1 := by omega
                                                               rcases this with rfl | rfl <;> exact ⟨_, rfl⟩) 3000 [⟨5,5,.lit (.it (Int.ofNat (kf (addN o1 0 - o1) % 256)))⟩,⟨5,5,.lit (.it (Int.ofNat (kf (addN o1 1 - o1) % 256)))⟩,⟨5,5,.lit (.it (Int.ofNat (kf (addN o1 2 - o1) % 256)))⟩,⟨5,5,.lit (.it (Int.ofNat (kf (addN o1 3 - o1) % 256)))⟩,⟨5,5,.lit (.it (Int.ofNat (kf (addN o1 4 - o1) % 256)))⟩,⟨5,5,.lit (.it (Int.ofNat (kf (addN o1 5 - o1) % 256)))⟩,⟨5,5,.lit (.it (Int.ofNat (kf (addN o1 6 - o1) % 256)))⟩,⟨5,5,.lit (.it (Int.ofNat (kf (addN o1 7 - o1) % 256)))⟩,⟨5,5,.lit (.it (Int.ofNat (kf (addN o1 8 - o1) % 256)))⟩,⟨5,5,.lit (.it (Int.ofNat (kf (addN o1 9 - o1) % 256)))⟩,⟨5,5,.lit (.it (Int.ofNat (kf (addN o1 10 - o1) % 256)))⟩,⟨5,5,.lit (.it (Int.ofNat (kf (addN o1 11 - o1) % 256)))⟩,⟨5,5,.lit (.it (Int.ofNat (kf (addN o1 12 - o1) % 256)))⟩,⟨5,5,.lit (.it (Int.ofNat (kf (addN o1 13 - o1) % 256)))⟩,⟨5,5,.lit (.it (Int.ofNat (kf (addN o1 14 - o1) % 256)))⟩,⟨5,5,.lit (.it (Int.ofNat (kf (addN o1 15 - o1) % 256)))⟩,⟨9,4,.lit (.it (Int.ofNat (kf (addN o1 3 - o1) % 256 % 16)))⟩,⟨9,4,.lit (.it (Int.ofNat (kf (addN o1 7 - o1) % 256 % 16)))⟩,⟨9,4,.lit (.it (Int.ofNat (kf (addN o1 11 - o1) % 256 % 16)))⟩,⟨9,4,.lit (.it (Int.ofNat (kf (addN o1 15 - o1) % 256 % 16)))⟩,⟨13,7,.lit (.it (Int.ofNat (kf (addN o1 4 - o1) % 256 % 4)))⟩,⟨13,8,.lit (.it (Int.ofNat (kf (addN o1 4 - o1) % 256 - kf (addN o1 4 - o1) % 256 % 4)))⟩,⟨13,7,.lit (.it (Int.ofNat (kf (addN o1 8 - o1) % 256 % 4)))⟩,⟨13,8,.lit (.it (Int.ofNat (kf (addN o1 8 - o1) % 256 - kf (addN o1 8 - o1) % 256 % 4)))⟩,⟨13,7,.lit (.it (Int.ofNat (kf (addN o1 12 - o1) % 256 % 4)))⟩,⟨13,8,.lit (.it (Int.ofNat (kf (addN o1 12 - o1) % 256 - kf (addN o1 12 - o1) % 256 % 4)))⟩] ?_ ?_ ?_
    · refine same (p := kl o1 kf 0 (kl o1 kf 1 (kl o1 kf 2 (kl o1 kf 3 (kl o1 kf 4 (kl o1 kf 5 (kl o1 kf 6 (kl o1 kf 7 (kl o1 kf 8 (kl o1 kf 9 (kl o1 kf 10 (kl o1 kf 11 (kl o1 kf 12 (kl o1 kf 13 (kl o1 kf 14 (kl o1 kf 15 ((Int.ofNat (kf (addN o1 3 - o1) % 256)).tmod 16 = Int.ofNat (kf (addN o1 3 - o1) % 256 % 16) ∧ (Int.ofNat (kf (addN o1 7 - o1) % 256)).tmod 16 = Int.ofNat (kf (addN o1 7 - o1) % 256 % 16) ∧ (Int.ofNat (kf (addN o1 11 - o1) % 256)).tmod 16 = Int.ofNat (kf (addN o1 11 - o1) % 256 % 16) ∧ (Int.ofNat (kf (addN o1 15 - o1) % 256)).tmod 16 = Int.ofNat (kf (addN o1 15 - o1) % 256 % 16) ∧ (Int.ofNat (kf (addN o1 4 - o1) % 256)).tmod 4 = Int.ofNat (kf (addN o1 4 - o1) % 256 % 4) ∧ wrapI (Int.ofNat (kf (addN o1 4 - o1) % 256) - Int.ofNat (kf (addN o1 4 - o1) % 256 % 4)) = Int.ofNat (kf (addN o1 4 - o1) % 256 - kf (addN o1 4 - o1) % 256 % 4) ∧ (Int.ofNat (kf (addN o1 8 - o1) % 256)).tmod 4 = Int.ofNat (kf (addN o1 8 - o1) % 256 % 4) ∧ wrapI (Int.ofNat (kf (addN o1 8 - o1) % 256) - Int.ofNat (kf (addN o1 8 - o1) % 256 % 4)) = Int.ofNat (kf (addN o1 8 - o1) % 256 - kf (addN o1 8 - o1) % 256 % 4) ∧ (Int.ofNat (kf (addN o1 12 - o1) % 256)).tmod 4 = Int.ofNat (kf (addN o1 12 - o1) % 256 % 4) ∧ wrapI (Int.ofNat (kf (addN o1 12 - o1) % 256) - Int.ofNat (kf (addN o1 12 - o1) % 256 % 4)) = Int.ofNat (kf (addN o1 12 - o1) % 256 - kf (addN o1 12 - o1) % 256 % 4) ∧ true = true ∧ ∃ j : {x // InvT bf m (rN kf) x}, [.v1 (.sc (.sl 0 o1 32 c1)), .v1 (.sc (.sl 1 o2 m c2)), ptA 2, ptA 3, iv (Int.ofNat (16 * 0))] = [.v1 (.sc (.sl 0 o1 32 c1)), .v1 (.sc (.sl 1 o2 m c2)), ptA 2, ptA 3, iv (Int.ofNat (16 * j.1.1))] ∧ [wB t1 o1 32 kf v1, wB t2 o2 m bf v2, iB34 (rD fun j => kf (addN o1 j - o1) % 256), iB34 zI] = [wB t1 o1 32 kf v1, wB t2 o2 m bf v2, iB34 (rD fun j => kf (addN o1 j - o1) % 256), iB34 j.1.2]))))))))))))))))) ?_ (by kernel_rfl)
      exact kl_of (by decide) (kl_of (by decide) (kl_of (by decide) (kl_of (by decide) (kl_of (by decide) (kl_of (by decide) (kl_of (by decide) (kl_of (by decide) (kl_of (by decide) (kl_of (by decide) (kl_of (by decide) (kl_of (by decide) (kl_of (by decide) (kl_of (by decide) (kl_of (by decide) (kl_of (by decide) (⟨rfl, ⟨rfl, ⟨rfl, ⟨rfl, ⟨rfl, wrapI_nsub (Nat.mod_le _ _) (Nat.lt_trans (Nat.mod_lt _ (by decide)) (by decide)), ⟨rfl, wrapI_nsub (Nat.mod_le _ _) (Nat.lt_trans (Nat.mod_lt _ (by decide)) (by decide)), ⟨rfl, wrapI_nsub (Nat.mod_le _ _) (Nat.lt_trans (Nat.mod_lt _ (by decide)) (by decide)), ⟨rfl, ⟨(0, zI), Nat.zero_le _, fun _ _ => show 0 < 256 by decide, num_zero fun _ _ => rfl⟩, rfl, rfl⟩⟩⟩⟩⟩⟩⟩⟩))))))))))))))))
    · generalize hR : rD (fun j => kf (addN o1 j - o1) % 256) = R at *
      intro ⟨⟨k, a⟩, hT⟩ junk
      have hk := hT.1
      have ha := hT.2.1
      simp only at hk ha
      by_cases h0 : 0 < m - 16 * k
      · generalize hq : min (m - 16 * k) 16 = q
        have hq1 : q ≤ m - 16 * k ∧ q ≤ 16 ∧ 0 < q := by omega
        have e1 := wrapI_nsub (a := m) (b := 16 * k) (by omega) (by omega)
        have e2 := wrapI_nadd (a := 16 * k) (b := 16) (by omega)
        generalize hch : b8 (fuF q fun j => bf (16 * k + j)) = ch
        have hchl : ∀ j, ch j < 256 := fun j => by rw [← hch]; exact Nat.mod_lt _ (by decide)
        refine nestF mixed tt_ok GTt_ok (l := flatC (loopOf (atK 3 (flatC (bodyOf Try.f34))))) (lB := flatC (blkOf (atB (flatC (loopOf (atK 3 (flatC (bodyOf Try.f34)))))))) (by kernel_rfl) rfl (by kernel_rfl) rfl
          (ι := {x // InvAd a ch x}) [0,1,5,6,10,11,12,13] 123 4 (fun x => [.v1 (.sc (.sl 0 o1 32 c1)), .v1 (.sc (.sl 1 o2 m c2)), ptA 2, ptA 3, iv (Int.ofNat (16 * k)), iv (Int.ofNat q), iv (Int.ofNat x.1.2.1), iv (Int.ofNat x.1.1)]) (fun x => [wB t1 o1 32 kf v1, wB t2 o2 m bf v2, iB34 R, iB34 x.1.2.2]) (fun x => 34 - x.1.1) (fun x => x.1.1 = 34)
          (fun _ => rfl) (fun _ => by kernel_rfl) (fun x j h => by have := Dm_lt h; simp at this; have : j = 0 ∨ j = 1 := by omega
                                                                   rcases this with rfl | rfl <;> exact ⟨_, rfl⟩) 300 [⟨15,3,.lit (.bo true)⟩,⟨17,3,.lit (.it (Int.ofNat (m - 16 * k)))⟩,⟨17,4,.lit (.it (Int.ofNat q))⟩] [⟨16,1,.lit (.it (Int.ofNat (16 * k + 16)))⟩] [] ?_ ?_ ?_
        · refine same (p := ilt (Int.ofNat (16 * k)) (Int.ofNat m) = true ∧ wrapI (Int.ofNat m - Int.ofNat (16 * k)) = Int.ofNat (m - 16 * k) ∧ (bif ilt (Int.ofNat (m - 16 * k)) 16 then Int.ofNat (m - 16 * k) else 16) = Int.ofNat q ∧ true = true ∧
            ∃ j : {x // InvAd a ch x}, [.v1 (.sc (.sl 0 o1 32 c1)), .v1 (.sc (.sl 1 o2 m c2)), ptA 2, ptA 3, iv (Int.ofNat (16 * k)), iv (Int.ofNat q), iv (Int.ofNat 0), iv (Int.ofNat 0)] = [.v1 (.sc (.sl 0 o1 32 c1)), .v1 (.sc (.sl 1 o2 m c2)), ptA 2, ptA 3, iv (Int.ofNat (16 * k)), iv (Int.ofNat q), iv (Int.ofNat j.1.2.1), iv (Int.ofNat j.1.1)] ∧ [wB t1 o1 32 kf v1, wB t2 o2 m bf v2, iB34 R, iB34 a] = [wB t1 o1 32 kf v1, wB t2 o2 m bf v2, iB34 R, iB34 j.1.2.2]) ?_ (by kernel_rfl)
          refine ⟨ilt_t (by omega), e1, ?_, rfl, ⟨(0, 0, a), Nat.zero_le _, Nat.zero_le _, rfl, fun j hj => absurd hj (by simp), fun _ _ => rfl⟩, rfl, rfl⟩
          by_cases hlt : m - 16 * k < 16
          · have : ilt (Int.ofNat (m - 16 * k)) 16 = true := by rw [ilt_iff]; simp only [Int.ofNat_eq_natCast]; omega
            rw [this, cond_true, show q = m - 16 * k by omega]
          · have : ilt (Int.ofNat (m - 16 * k)) 16 = false := by rw [← Bool.not_eq_true, ilt_iff]; simp only [Int.ofNat_eq_natCast]; omega
            rw [this, cond_false, show q = 16 by omega]; rfl
        · intro ⟨⟨i, c, g⟩, hA⟩ junk
          have hi34 := hA.1
          have hc1 := hA.2.1
          have hgi := hA.2.2.2.2 i (Nat.le_refl _)
          simp only at hi34 hc1 hgi
          by_cases hi : i < 34
          · have hai := ha i hi
            have hst := invAd_step hi hai (hchl i) hA
            have ei := wrapI_nadd (a := i) (b := 1) (by omega)
            have hci : ch i = if i < q then bf (16 * k + i) % 256 else if i = q then 1 else 0 := by
              rw [← hch]
              show fuF q (fun j => bf (16 * k + j)) i % 256 = _
              rw [fuF_at]
              split
              · rfl
              · split <;> rfl
            by_cases hiq : i < q
            · have hbv := Nat.mod_lt (bf (addN o2 (16 * k + i) - o2)) (show 0 < 256 by decide)
              have hce : ch i = bf (addN o2 (16 * k + i) - o2) % 256 := by rw [hci, if_pos hiq, addN_eq, Nat.add_sub_cancel_left]
              rw [hce] at hst
              refine roundF mixed tt_ok GTt_ok 200 [⟨20,1,.lit (.bo true)⟩,⟨22,2,.sym⟩,⟨22,3,.sym⟩,⟨22,4,.lit (.it (Int.ofNat (c + g i)))⟩,⟨23,2,.lit (.bo true)⟩,⟨24,4,.lit (.it (Int.ofNat (16 * k + i)))⟩,⟨24,5,.sym⟩,⟨24,6,.sym⟩,⟨24,7,.lit (.it (Int.ofNat (bf (addN o2 (16 * k + i) - o2) % 256)))⟩,⟨24,8,.lit (.it (Int.ofNat (c + g i + bf (addN o2 (16 * k + i) - o2) % 256)))⟩,⟨25,2,.lit (.bo false)⟩,⟨27,2,.lit (.it (Int.ofNat ((c + g i + bf (addN o2 (16 * k + i) - o2) % 256) % 256)))⟩,⟨27,3,.sym⟩,⟨27,4,.sym⟩,⟨28,1,.lit (.it (Int.ofNat ((c + g i + bf (addN o2 (16 * k + i) - o2) % 256) / 256)))⟩,⟨21,1,.lit (.it (Int.ofNat (i+1)))⟩] ?_
              refine same (p := ilt (Int.ofNat i) 34 = true ∧ ix i 34 (wrapI (Int.ofNat c + Int.ofNat (g i)) = Int.ofNat (c + g i) ∧ ilt (Int.ofNat i) (Int.ofNat q) = true ∧ wrapI (Int.ofNat (16 * k) + Int.ofNat i) = Int.ofNat (16 * k + i) ∧ wx o2 m (16 * k + i) (wrapI (Int.ofNat (bf (addN o2 (16 * k + i) - o2) % 256)) = Int.ofNat (bf (addN o2 (16 * k + i) - o2) % 256) ∧ wrapI (Int.ofNat (c + g i) + Int.ofNat (bf (addN o2 (16 * k + i) - o2) % 256)) = Int.ofNat (c + g i + bf (addN o2 (16 * k + i) - o2) % 256) ∧ ieq (Int.ofNat i) (Int.ofNat q) = false ∧ (Int.ofNat (c + g i + bf (addN o2 (16 * k + i) - o2) % 256)).tmod 256 = Int.ofNat ((c + g i + bf (addN o2 (16 * k + i) - o2) % 256) % 256) ∧ ix i 34 (wrapI ((Int.ofNat (c + g i + bf (addN o2 (16 * k + i) - o2) % 256)).tdiv 256) = Int.ofNat ((c + g i + bf (addN o2 (16 * k + i) - o2) % 256) / 256) ∧ wrapI (Int.ofNat i + 1) = Int.ofNat (i + 1) ∧ true = true ∧ ∃ j : {x // InvAd a ch x}, 34 - j.1.1 < 34 - i ∧ [.v1 (.sc (.sl 0 o1 32 c1)), .v1 (.sc (.sl 1 o2 m c2)), ptA 2, ptA 3, iv (Int.ofNat (16 * k)), iv (Int.ofNat q), iv (Int.ofNat ((c + g i + bf (addN o2 (16 * k + i) - o2) % 256) / 256)), iv (Int.ofNat (i + 1))] = [.v1 (.sc (.sl 0 o1 32 c1)), .v1 (.sc (.sl 1 o2 m c2)), ptA 2, ptA 3, iv (Int.ofNat (16 * k)), iv (Int.ofNat q), iv (Int.ofNat j.1.2.1), iv (Int.ofNat j.1.1)] ∧ [wB t1 o1 32 kf v1, wB t2 o2 m bf v2, iB34 R, iB34 (upd g i ((c + g i + bf (addN o2 (16 * k + i) - o2) % 256) % 256))] = [wB t1 o1 32 kf v1, wB t2 o2 m bf v2, iB34 R, iB34 j.1.2.2])))) ?_ (by kernel_rfl)
              exact ⟨ilt_t (n := 34) hi, ix_of hi ⟨wrapI_nadd (by omega), ilt_t hiq, ⟨wrapI_nadd (by omega), wx_of (by omega) ⟨wrapI_nn (by omega), wrapI_nadd (by omega), ⟨by rw [← Bool.not_eq_true, ieq_iff]; simp only [Int.ofNat_eq_natCast]; omega, ⟨rfl, ix_of hi ⟨wrapI_ndiv (b := 256) (by omega), ei, rfl, ⟨(i + 1, _, _), hst⟩, by simp only; omega, rfl, rfl⟩⟩⟩⟩⟩⟩⟩
            by_cases hiq2 : i = q
            · have hiq : i = q := hiq2
              have hce : ch i = 1 := by rw [hci, if_neg (by omega), if_pos hiq]
              rw [hce] at hst
              refine roundF mixed tt_ok GTt_ok 200 [⟨20,1,.lit (.bo true)⟩,⟨22,2,.sym⟩,⟨22,3,.sym⟩,⟨22,4,.lit (.it (Int.ofNat (c + g i)))⟩,⟨23,2,.lit (.bo false)⟩,⟨25,2,.lit (.bo true)⟩,⟨26,1,.lit (.it (Int.ofNat (c + g i + 1)))⟩,⟨27,2,.lit (.it (Int.ofNat ((c + g i + 1) % 256)))⟩,⟨27,3,.sym⟩,⟨27,4,.sym⟩,⟨28,1,.lit (.it (Int.ofNat ((c + g i + 1) / 256)))⟩,⟨21,1,.lit (.it (Int.ofNat (i+1)))⟩] ?_
              refine same (p := ilt (Int.ofNat i) 34 = true ∧ ix i 34 (wrapI (Int.ofNat c + Int.ofNat (g i)) = Int.ofNat (c + g i) ∧ ilt (Int.ofNat i) (Int.ofNat q) = false ∧ ieq (Int.ofNat i) (Int.ofNat q) = true ∧ wrapI (Int.ofNat (c + g i) + 1) = Int.ofNat (c + g i + 1) ∧ (Int.ofNat (c + g i + 1)).tmod 256 = Int.ofNat ((c + g i + 1) % 256) ∧ ix i 34 (wrapI ((Int.ofNat (c + g i + 1)).tdiv 256) = Int.ofNat ((c + g i + 1) / 256) ∧ wrapI (Int.ofNat i + 1) = Int.ofNat (i + 1) ∧ true = true ∧ ∃ j : {x // InvAd a ch x}, 34 - j.1.1 < 34 - i ∧ [.v1 (.sc (.sl 0 o1 32 c1)), .v1 (.sc (.sl 1 o2 m c2)), ptA 2, ptA 3, iv (Int.ofNat (16 * k)), iv (Int.ofNat q), iv (Int.ofNat ((c + g i + 1) / 256)), iv (Int.ofNat (i + 1))] = [.v1 (.sc (.sl 0 o1 32 c1)), .v1 (.sc (.sl 1 o2 m c2)), ptA 2, ptA 3, iv (Int.ofNat (16 * k)), iv (Int.ofNat q), iv (Int.ofNat j.1.2.1), iv (Int.ofNat j.1.1)] ∧ [wB t1 o1 32 kf v1, wB t2 o2 m bf v2, iB34 R, iB34 (upd g i ((c + g i + 1) % 256))] = [wB t1 o1 32 kf v1, wB t2 o2 m bf v2, iB34 R, iB34 j.1.2.2]))) ?_ (by kernel_rfl)
              exact ⟨ilt_t (n := 34) hi, ix_of hi ⟨wrapI_nadd (by omega), ilt_f (by omega), ⟨by rw [hiq]; exact ieq_same _, ⟨wrapI_nadd (b := 1) (by omega), ⟨rfl, ix_of hi ⟨wrapI_ndiv (b := 256) (by omega), ei, rfl, ⟨(i + 1, _, _), hst⟩, by simp only; omega, rfl, rfl⟩⟩⟩⟩⟩⟩
            · have hce : ch i = 0 := by rw [hci, if_neg (by omega), if_neg (by omega)]
              rw [hce, Nat.add_zero] at hst
              refine roundF mixed tt_ok GTt_ok 200 [⟨20,1,.lit (.bo true)⟩,⟨22,2,.sym⟩,⟨22,3,.sym⟩,⟨22,4,.lit (.it (Int.ofNat (c + g i)))⟩,⟨23,2,.lit (.bo false)⟩,⟨25,2,.lit (.bo false)⟩,⟨27,2,.lit (.it (Int.ofNat ((c + g i) % 256)))⟩,⟨27,3,.sym⟩,⟨27,4,.sym⟩,⟨28,1,.lit (.it (Int.ofNat ((c + g i) / 256)))⟩,⟨21,1,.lit (.it (Int.ofNat (i+1)))⟩] ?_
              refine same (p := ilt (Int.ofNat i) 34 = true ∧ ix i 34 (wrapI (Int.ofNat c + Int.ofNat (g i)) = Int.ofNat (c + g i) ∧ ilt (Int.ofNat i) (Int.ofNat q) = false ∧ ieq (Int.ofNat i) (Int.ofNat q) = false ∧ (Int.ofNat (c + g i)).tmod 256 = Int.ofNat ((c + g i) % 256) ∧ ix i 34 (wrapI ((Int.ofNat (c + g i)).tdiv 256) = Int.ofNat ((c + g i) / 256) ∧ wrapI (Int.ofNat i + 1) = Int.ofNat (i + 1) ∧ true = true ∧ ∃ j : {x // InvAd a ch x}, 34 - j.1.1 < 34 - i ∧ [.v1 (.sc (.sl 0 o1 32 c1)), .v1 (.sc (.sl 1 o2 m c2)), ptA 2, ptA 3, iv (Int.ofNat (16 * k)), iv (Int.ofNat q), iv (Int.ofNat ((c + g i) / 256)), iv (Int.ofNat (i + 1))] = [.v1 (.sc (.sl 0 o1 32 c1)), .v1 (.sc (.sl 1 o2 m c2)), ptA 2, ptA 3, iv (Int.ofNat (16 * k)), iv (Int.ofNat q), iv (Int.ofNat j.1.2.1), iv (Int.ofNat j.1.1)] ∧ [wB t1 o1 32 kf v1, wB t2 o2 m bf v2, iB34 R, iB34 (upd g i ((c + g i) % 256))] = [wB t1 o1 32 kf v1, wB t2 o2 m bf v2, iB34 R, iB34 j.1.2.2]))) ?_ (by kernel_rfl)
              exact ⟨ilt_t (n := 34) hi, ix_of hi ⟨wrapI_nadd (by omega), ilt_f (by omega), ⟨by rw [← Bool.not_eq_true, ieq_iff]; simp only [Int.ofNat_eq_natCast]; omega, ⟨rfl, ix_of hi ⟨wrapI_ndiv (b := 256) (by omega), ei, rfl, ⟨(i + 1, _, _), hst⟩, by simp only; omega, rfl, rfl⟩⟩⟩⟩⟩
          · have hi3 : i = 34 := by omega
            subst hi3
            refine roundF mixed tt_ok GTt_ok 100 [] ?_
            refine same (p := true = true ∧ ∃ j : {x // InvAd a ch x}, j.1.1 = 34 ∧ [.v1 (.sc (.sl 0 o1 32 c1)), .v1 (.sc (.sl 1 o2 m c2)), ptA 2, ptA 3, iv (Int.ofNat (16 * k)), iv (Int.ofNat q), iv (Int.ofNat c), iv (Int.ofNat 34)] = [.v1 (.sc (.sl 0 o1 32 c1)), .v1 (.sc (.sl 1 o2 m c2)), ptA 2, ptA 3, iv (Int.ofNat (16 * k)), iv (Int.ofNat q), iv (Int.ofNat j.1.2.1), iv (Int.ofNat j.1.1)] ∧ [wB t1 o1 32 kf v1, wB t2 o2 m bf v2, iB34 R, iB34 g] = [wB t1 o1 32 kf v1, wB t2 o2 m bf v2, iB34 R, iB34 j.1.2.2]) ?_ (by kernel_rfl)
            exact ⟨rfl, ⟨(34, c, g), hA⟩, rfl, rfl, rfl⟩
        · intro ⟨⟨i, c, g⟩, hA⟩ junk hi
          simp only at hi
          subst hi
          rw [← hch, ← hq] at hA
          obtain ⟨k1, k2⟩ := invAd_end hT h0 hA
          have hnx := invT_next hT h0 k2
          refine same (p := (∀ j, j < 34 → g j < 256) ∧ (∀ j, j < 34 → R j < 256) ∧ wrapI (Int.ofNat (16 * k) + 16) = Int.ofNat (16 * k + 16) ∧ true = true ∧
            ∃ j : {x // InvT bf m (rN kf) x}, m - 16 * j.1.1 < m - 16 * k ∧ [.v1 (.sc (.sl 0 o1 32 c1)), .v1 (.sc (.sl 1 o2 m c2)), ptA 2, ptA 3, iv (Int.ofNat (16 * k + 16))] = [.v1 (.sc (.sl 0 o1 32 c1)), .v1 (.sc (.sl 1 o2 m c2)), ptA 2, ptA 3, iv (Int.ofNat (16 * j.1.1))] ∧ [wB t1 o1 32 kf v1, wB t2 o2 m bf v2, iB34 R, iB34 (dgN (num g 34 * num R 34 % pP))] = [wB t1 o1 32 kf v1, wB t2 o2 m bf v2, iB34 R, iB34 j.1.2]) ?_ (by kernel_rfl)
          refine ⟨k1, hrl, e2, rfl, ⟨_, hnx⟩, by simp only; omega, rfl, ?_⟩
          rw [hrn]
      · refine roundF mixed tt_ok GTt_ok 100 [⟨15,3,.lit (.bo false)⟩] ?_
        refine same (p := ilt (Int.ofNat (16 * k)) (Int.ofNat m) = false ∧ true = true ∧ ∃ j : {x // InvT bf m (rN kf) x}, m - 16 * j.1.1 = 0 ∧ [.v1 (.sc (.sl 0 o1 32 c1)), .v1 (.sc (.sl 1 o2 m c2)), ptA 2, ptA 3, iv (Int.ofNat (16 * k))] = [.v1 (.sc (.sl 0 o1 32 c1)), .v1 (.sc (.sl 1 o2 m c2)), ptA 2, ptA 3, iv (Int.ofNat (16 * j.1.1))] ∧ [wB t1 o1 32 kf v1, wB t2 o2 m bf v2, iB34 R, iB34 a] = [wB t1 o1 32 kf v1, wB t2 o2 m bf v2, iB34 R, iB34 j.1.2]) ?_ (by kernel_rfl)
        exact ⟨ilt_f (by omega), rfl, ⟨(k, a), hT⟩, by simp only; omega, rfl, rfl⟩
    · intro ⟨⟨k, a0⟩, hT⟩ junk hk
      simp only at hk
      have hk1 := hT.1
      have ha34 := hT.2.1
      have hac := hT.2.2
      simp only at hk1 ha34 hac
      have hkK : k = (m + 15) / 16 := by omega
      -- beyond its 34 places the array is not read
      generalize hA : (fun j => if j < 34 then a0 j else 0) = a
      have ha : ∀ j, a j < 256 := fun j => by
        rw [← hA]; simp only
        split
        · exact ha34 j (by assumption)
        · decide
      have haa : ∀ j, j < 34 → a0 j = a j := fun j hj => by rw [← hA]; simp only [if_pos hj]
      have hn16 : num a 16 % 256 ^ 16 = accN bf m (rN kf) ((m + 15) / 16) % 256 ^ 16 := by
        rw [← hkK, ← hac, show 34 = 16 + 18 from rfl, num_split 16, Nat.add_mul_mod_self_left, num_congr (n := 16) fun j hj => haa j (by omega)]
      generalize rD (fun j => kf (addN o1 j - o1) % 256) = R at *
      have main : ∀ j, j < 16 → (ouF (fun i => toU .u8 (Int.ofNat ((cyF a0 (fun j => kf (addN o1 (16 + j) - o1) % 256) i + a0 i + kf (addN o1 (16 + i) - o1) % 256) % 256))) 16) j % 256 = F j % 256 := by
        have := fin a0 _ (by rw [num_congr (n := 16) fun j hj => haa j (by omega)]; exact hn16) rfl
        exact this
      have ro2 : ∀ i (q : Prop), i < 16 → q → ro o1 kf a0 (fun j => kf (addN o1 (16 + j) - o1) % 256) i q := fun i q hi k => by
        have hc : ∀ i, i ≤ 16 → cyF a0 (fun j => kf (addN o1 (16 + j) - o1) % 256) i ≤ 1 := fun i => by
          induction i with
          | zero => exact fun _ => Nat.zero_le _
          | succ i ih =>
            intro hi
            have h1 := ih (by omega)
            have h2 := ha34 i (by omega)
            have h3 := Nat.mod_lt (kf (addN o1 (16 + i) - o1)) (show 0 < 256 by decide)
            show (cyF a0 (fun j => kf (addN o1 (16 + j) - o1) % 256) i + a0 i + kf (addN o1 (16 + i) - o1) % 256) / 256 ≤ 1
            omega
        have h1 := hc i (by omega)
        have h2 := ha34 i (by omega)
        have h3 := Nat.mod_lt (kf (addN o1 (16 + i) - o1)) (show 0 < 256 by decide)
        exact ⟨wrapI_nadd (by omega), by rw [addN_eq]; omega, by rw [addN_eq]; omega, wrapI_nn (by omega), wrapI_nadd (by omega), rfl, wrapI_ndiv (b := 256) (by omega), k⟩
      refine evS_q mixed tt_ok GTt_ok 4000 [⟨35,4,.lit (.it (Int.ofNat (cyF a0 (fun j => kf (addN o1 (16 + j) - o1) % 256) 0 + a0 0)))⟩,⟨35,10,.lit (.it (Int.ofNat (kf (addN o1 (16 + 0) - o1) % 256)))⟩,⟨35,11,.lit (.it (Int.ofNat (cyF a0 (fun j => kf (addN o1 (16 + j) - o1) % 256) 0 + a0 0 + kf (addN o1 (16 + 0) - o1) % 256)))⟩,⟨36,2,.lit (.it (Int.ofNat ((cyF a0 (fun j => kf (addN o1 (16 + j) - o1) % 256) 0 + a0 0 + kf (addN o1 (16 + 0) - o1) % 256) % 256)))⟩,⟨37,1,.lit (.it (Int.ofNat (cyF a0 (fun j => kf (addN o1 (16 + j) - o1) % 256) 1)))⟩,⟨35,4,.lit (.it (Int.ofNat (cyF a0 (fun j => kf (addN o1 (16 + j) - o1) % 256) 1 + a0 1)))⟩,⟨35,10,.lit (.it (Int.ofNat (kf (addN o1 (16 + 1) - o1) % 256)))⟩,⟨35,11,.lit (.it (Int.ofNat (cyF a0 (fun j => kf (addN o1 (16 + j) - o1) % 256) 1 + a0 1 + kf (addN o1 (16 + 1) - o1) % 256)))⟩,⟨36,2,.lit (.it (Int.ofNat ((cyF a0 (fun j => kf (addN o1 (16 + j) - o1) % 256) 1 + a0 1 + kf (addN o1 (16 + 1) - o1) % 256) % 256)))⟩,⟨37,1,.lit (.it (Int.ofNat (cyF a0 (fun j => kf (addN o1 (16 + j) - o1) % 256) 2)))⟩,⟨35,4,.lit (.it (Int.ofNat (cyF a0 (fun j => kf (addN o1 (16 + j) - o1) % 256) 2 + a0 2)))⟩,⟨35,10,.lit (.it (Int.ofNat (kf (addN o1 (16 + 2) - o1) % 256)))⟩,⟨35,11,.lit (.it (Int.ofNat (cyF a0 (fun j => kf (addN o1 (16 + j) - o1) % 256) 2 + a0 2 + kf (addN o1 (16 + 2) - o1) % 256)))⟩,⟨36,2,.lit (.it (Int.ofNat ((cyF a0 (fun j => kf (addN o1 (16 + j) - o1) % 256) 2 + a0 2 + kf (addN o1 (16 + 2) - o1) % 256) % 256)))⟩,⟨37,1,.lit (.it (Int.ofNat (cyF a0 (fun j => kf (addN o1 (16 + j) - o1) % 256) 3)))⟩,⟨35,4,.lit (.it (Int.ofNat (cyF a0 (fun j => kf (addN o1 (16 + j) - o1) % 256) 3 + a0 3)))⟩,⟨35,10,.lit (.it (Int.ofNat (kf (addN o1 (16 + 3) - o1) % 256)))⟩,⟨35,11,.lit (.it (Int.ofNat (cyF a0 (fun j => kf (addN o1 (16 + j) - o1) % 256) 3 + a0 3 + kf (addN o1 (16 + 3) - o1) % 256)))⟩,⟨36,2,.lit (.it (Int.ofNat ((cyF a0 (fun j => kf (addN o1 (16 + j) - o1) % 256) 3 + a0 3 + kf (addN o1 (16 + 3) - o1) % 256) % 256)))⟩,⟨37,1,.lit (.it (Int.ofNat (cyF a0 (fun j => kf (addN o1 (16 + j) - o1) % 256) 4)))⟩,⟨35,4,.lit (.it (Int.ofNat (cyF a0 (fun j => kf (addN o1 (16 + j) - o1) % 256) 4 + a0 4)))⟩,⟨35,10,.lit (.it (Int.ofNat (kf (addN o1 (16 + 4) - o1) % 256)))⟩,⟨35,11,.lit (.it (Int.ofNat (cyF a0 (fun j => kf (addN o1 (16 + j) - o1) % 256) 4 + a0 4 + kf (addN o1 (16 + 4) - o1) % 256)))⟩,⟨36,2,.lit (.it (Int.ofNat ((cyF a0 (fun j => kf (addN o1 (16 + j) - o1) % 256) 4 + a0 4 + kf (addN o1 (16 + 4) - o1) % 256) % 256)))⟩,⟨37,1,.lit (.it (Int.ofNat (cyF a0 (fun j => kf (addN o1 (16 + j) - o1) % 256) 5)))⟩,⟨35,4,.lit (.it (Int.ofNat (cyF a0 (fun j => kf (addN o1 (16 + j) - o1) % 256) 5 + a0 5)))⟩,⟨35,10,.lit (.it (Int.ofNat (kf (addN o1 (16 + 5) - o1) % 256)))⟩,⟨35,11,.lit (.it (Int.ofNat (cyF a0 (fun j => kf (addN o1 (16 + j) - o1) % 256) 5 + a0 5 + kf (addN o1 (16 + 5) - o1) % 256)))⟩,⟨36,2,.lit (.it (Int.ofNat ((cyF a0 (fun j => kf (addN o1 (16 + j) - o1) % 256) 5 + a0 5 + kf (addN o1 (16 + 5) - o1) % 256) % 256)))⟩,⟨37,1,.lit (.it (Int.ofNat (cyF a0 (fun j => kf (addN o1 (16 + j) - o1) % 256) 6)))⟩,⟨35,4,.lit (.it (Int.ofNat (cyF a0 (fun j => kf (addN o1 (16 + j) - o1) % 256) 6 + a0 6)))⟩,⟨35,10,.lit (.it (Int.ofNat (kf (addN o1 (16 + 6) - o1) % 256)))⟩,⟨35,11,.lit (.it (Int.ofNat (cyF a0 (fun j => kf (addN o1 (16 + j) - o1) % 256) 6 + a0 6 + kf (addN o1 (16 + 6) - o1) % 256)))⟩,⟨36,2,.lit (.it (Int.ofNat ((cyF a0 (fun j => kf (addN o1 (16 + j) - o1) % 256) 6 + a0 6 + kf (addN o1 (16 + 6) - o1) % 256) % 256)))⟩,⟨37,1,.lit (.it (Int.ofNat (cyF a0 (fun j => kf (addN o1 (16 + j) - o1) % 256) 7)))⟩,⟨35,4,.lit (.it (Int.ofNat (cyF a0 (fun j => kf (addN o1 (16 + j) - o1) % 256) 7 + a0 7)))⟩,⟨35,10,.lit (.it (Int.ofNat (kf (addN o1 (16 + 7) - o1) % 256)))⟩,⟨35,11,.lit (.it (Int.ofNat (cyF a0 (fun j => kf (addN o1 (16 + j) - o1) % 256) 7 + a0 7 + kf (addN o1 (16 + 7) - o1) % 256)))⟩,⟨36,2,.lit (.it (Int.ofNat ((cyF a0 (fun j => kf (addN o1 (16 + j) - o1) % 256) 7 + a0 7 + kf (addN o1 (16 + 7) - o1) % 256) % 256)))⟩,⟨37,1,.lit (.it (Int.ofNat (cyF a0 (fun j => kf (addN o1 (16 + j) - o1) % 256) 8)))⟩,⟨35,4,.lit (.it (Int.ofNat (cyF a0 (fun j => kf (addN o1 (16 + j) - o1) % 256) 8 + a0 8)))⟩,⟨35,10,.lit (.it (Int.ofNat (kf (addN o1 (16 + 8) - o1) % 256)))⟩,⟨35,11,.lit (.it (Int.ofNat (cyF a0 (fun j => kf (addN o1 (16 + j) - o1) % 256) 8 + a0 8 + kf (addN o1 (16 + 8) - o1) % 256)))⟩,⟨36,2,.lit (.it (Int.ofNat ((cyF a0 (fun j => kf (addN o1 (16 + j) - o1) % 256) 8 + a0 8 + kf (addN o1 (16 + 8) - o1) % 256) % 256)))⟩,⟨37,1,.lit (.it (Int.ofNat (cyF a0 (fun j => kf (addN o1 (16 + j) - o1) % 256) 9)))⟩,⟨35,4,.lit (.it (Int.ofNat (cyF a0 (fun j => kf (addN o1 (16 + j) - o1) % 256) 9 + a0 9)))⟩,⟨35,10,.lit (.it (Int.ofNat (kf (addN o1 (16 + 9) - o1) % 256)))⟩,⟨35,11,.lit (.it (Int.ofNat (cyF a0 (fun j => kf (addN o1 (16 + j) - o1) % 256) 9 + a0 9 + kf (addN o1 (16 + 9) - o1) % 256)))⟩,⟨36,2,.lit (.it (Int.ofNat ((cyF a0 (fun j => kf (addN o1 (16 + j) - o1) % 256) 9 + a0 9 + kf (addN o1 (16 + 9) - o1) % 256) % 256)))⟩,⟨37,1,.lit (.it (Int.ofNat (cyF a0 (fun j => kf (addN o1 (16 + j) - o1) % 256) 10)))⟩,⟨35,4,.lit (.it (Int.ofNat (cyF a0 (fun j => kf (addN o1 (16 + j) - o1) % 256) 10 + a0 10)))⟩,⟨35,10,.lit (.it (Int.ofNat (kf (addN o1 (16 + 10) - o1) % 256)))⟩,⟨35,11,.lit (.it (Int.ofNat (cyF a0 (fun j => kf (addN o1 (16 + j) - o1) % 256) 10 + a0 10 + kf (addN o1 (16 + 10) - o1) % 256)))⟩,⟨36,2,.lit (.it (Int.ofNat ((cyF a0 (fun j => kf (addN o1 (16 + j) - o1) % 256) 10 + a0 10 + kf (addN o1 (16 + 10) - o1) % 256) % 256)))⟩,⟨37,1,.lit (.it (Int.ofNat (cyF a0 (fun j => kf (addN o1 (16 + j) - o1) % 256) 11)))⟩,⟨35,4,.lit (.it (Int.ofNat (cyF a0 (fun j => kf (addN o1 (16 + j) - o1) % 256) 11 + a0 11)))⟩,⟨35,10,.lit (.it (Int.ofNat (kf (addN o1 (16 + 11) - o1) % 256)))⟩,⟨35,11,.lit (.it (Int.ofNat (cyF a0 (fun j => kf (addN o1 (16 + j) - o1) % 256) 11 + a0 11 + kf (addN o1 (16 + 11) - o1) % 256)))⟩,⟨36,2,.lit (.it (Int.ofNat ((cyF a0 (fun j => kf (addN o1 (16 + j) - o1) % 256) 11 + a0 11 + kf (addN o1 (16 + 11) - o1) % 256) % 256)))⟩,⟨37,1,.lit (.it (Int.ofNat (cyF a0 (fun j => kf (addN o1 (16 + j) - o1) % 256) 12)))⟩,⟨35,4,.lit (.it (Int.ofNat (cyF a0 (fun j => kf (addN o1 (16 + j) - o1) % 256) 12 + a0 12)))⟩,⟨35,10,.lit (.it (Int.ofNat (kf (addN o1 (16 + 12) - o1) % 256)))⟩,⟨35,11,.lit (.it (Int.ofNat (cyF a0 (fun j => kf (addN o1 (16 + j) - o1) % 256) 12 + a0 12 + kf (addN o1 (16 + 12) - o1) % 256)))⟩,⟨36,2,.lit (.it (Int.ofNat ((cyF a0 (fun j => kf (addN o1 (16 + j) - o1) % 256) 12 + a0 12 + kf (addN o1 (16 + 12) - o1) % 256) % 256)))⟩,⟨37,1,.lit (.it (Int.ofNat (cyF a0 (fun j => kf (addN o1 (16 + j) - o1) % 256) 13)))⟩,⟨35,4,.lit (.it (Int.ofNat (cyF a0 (fun j => kf (addN o1 (16 + j) - o1) % 256) 13 + a0 13)))⟩,⟨35,10,.lit (.it (Int.ofNat (kf (addN o1 (16 + 13) - o1) % 256)))⟩,⟨35,11,.lit (.it (Int.ofNat (cyF a0 (fun j => kf (addN o1 (16 + j) - o1) % 256) 13 + a0 13 + kf (addN o1 (16 + 13) - o1) % 256)))⟩,⟨36,2,.lit (.it (Int.ofNat ((cyF a0 (fun j => kf (addN o1 (16 + j) - o1) % 256) 13 + a0 13 + kf (addN o1 (16 + 13) - o1) % 256) % 256)))⟩,⟨37,1,.lit (.it (Int.ofNat (cyF a0 (fun j => kf (addN o1 (16 + j) - o1) % 256) 14)))⟩,⟨35,4,.lit (.it (Int.ofNat (cyF a0 (fun j => kf (addN o1 (16 + j) - o1) % 256) 14 + a0 14)))⟩,⟨35,10,.lit (.it (Int.ofNat (kf (addN o1 (16 + 14) - o1) % 256)))⟩,⟨35,11,.lit (.it (Int.ofNat (cyF a0 (fun j => kf (addN o1 (16 + j) - o1) % 256) 14 + a0 14 + kf (addN o1 (16 + 14) - o1) % 256)))⟩,⟨36,2,.lit (.it (Int.ofNat ((cyF a0 (fun j => kf (addN o1 (16 + j) - o1) % 256) 14 + a0 14 + kf (addN o1 (16 + 14) - o1) % 256) % 256)))⟩,⟨37,1,.lit (.it (Int.ofNat (cyF a0 (fun j => kf (addN o1 (16 + j) - o1) % 256) 15)))⟩,⟨35,4,.lit (.it (Int.ofNat (cyF a0 (fun j => kf (addN o1 (16 + j) - o1) % 256) 15 + a0 15)))⟩,⟨35,10,.lit (.it (Int.ofNat (kf (addN o1 (16 + 15) - o1) % 256)))⟩,⟨35,11,.lit (.it (Int.ofNat (cyF a0 (fun j => kf (addN o1 (16 + j) - o1) % 256) 15 + a0 15 + kf (addN o1 (16 + 15) - o1) % 256)))⟩,⟨36,2,.lit (.it (Int.ofNat ((cyF a0 (fun j => kf (addN o1 (16 + j) - o1) % 256) 15 + a0 15 + kf (addN o1 (16 + 15) - o1) % 256) % 256)))⟩,⟨37,1,.lit (.it (Int.ofNat (cyF a0 (fun j => kf (addN o1 (16 + j) - o1) % 256) 16)))⟩] (same (p := ro o1 kf a0 (fun j => kf (addN o1 (16 + j) - o1) % 256) 0 (ro o1 kf a0 (fun j => kf (addN o1 (16 + j) - o1) % 256) 1 (ro o1 kf a0 (fun j => kf (addN o1 (16 + j) - o1) % 256) 2 (ro o1 kf a0 (fun j => kf (addN o1 (16 + j) - o1) % 256) 3 (ro o1 kf a0 (fun j => kf (addN o1 (16 + j) - o1) % 256) 4 (ro o1 kf a0 (fun j => kf (addN o1 (16 + j) - o1) % 256) 5 (ro o1 kf a0 (fun j => kf (addN o1 (16 + j) - o1) % 256) 6 (ro o1 kf a0 (fun j => kf (addN o1 (16 + j) - o1) % 256) 7 (ro o1 kf a0 (fun j => kf (addN o1 (16 + j) - o1) % 256) 8 (ro o1 kf a0 (fun j => kf (addN o1 (16 + j) - o1) % 256) 9 (ro o1 kf a0 (fun j => kf (addN o1 (16 + j) - o1) % 256) 10 (ro o1 kf a0 (fun j => kf (addN o1 (16 + j) - o1) % 256) 11 (ro o1 kf a0 (fun j => kf (addN o1 (16 + j) - o1) % 256) 12 (ro o1 kf a0 (fun j => kf (addN o1 (16 + j) - o1) % 256) 13 (ro o1 kf a0 (fun j => kf (addN o1 (16 + j) - o1) % 256) 14 (ro o1 kf a0 (fun j => kf (addN o1 (16 + j) - o1) % 256) 15 (endM [0, 1, 50, 51] [wB t1 o1 32 kf v1, wB t2 o2 m bf v2, soB (ouF (fun i => toU .u8 (Int.ofNat ((cyF a0 (fun j => kf (addN o1 (16 + j) - o1) % 256) i + a0 i + kf (addN o1 (16 + i) - o1) % 256) % 256))) 16), deB] [wB t1 o1 32 kf v1, wB t2 o2 m bf v2, soB F, deB] (.v1 (.sc (.so 50 16))) (.v1 (.sc (.so 2 16)))))))))))))))))))) ?_ (by kernel_rfl))
      exact ro2 0 _ (by decide) (ro2 1 _ (by decide) (ro2 2 _ (by decide) (ro2 3 _ (by decide) (ro2 4 _ (by decide) (ro2 5 _ (by decide) (ro2 6 _ (by decide) (ro2 7 _ (by decide) (ro2 8 _ (by decide) (ro2 9 _ (by decide) (ro2 10 _ (by decide) (ro2 11 _ (by decide) (ro2 12 _ (by decide) (ro2 13 _ (by decide) (ro2 14 _ (by decide) (ro2 15 _ (by decide) (endM_ok ⟨simB_refl _, simB_refl _, ⟨rfl, rfl, rfl, fun ρ => ws8_val main ρ⟩, simB_refl _, trivial⟩ rfl fun _ => rfl))))))))))))))))
end Go.Proofs.Ytndmoidenbfflaa
