/- Numbers of six words: plain arithmetic. -/
import Derived.Test.YtndmoidenbfflaaFw
namespace Go.Rq

def W : Nat := 18446744073709551616
def R : Nat := 39402006196394479212279040100143613805079739270465446667948293404245721771497210611414266254884915640806627990306816
theorem W_eq : W = 18446744073709551616 := rfl
theorem R_eq : R = W ^ 6 := by decide
/-- The number that six words make. -/
def nv (f : Nat → Nat) : Nat := f 0 % W + W * (f 1 % W + W * (f 2 % W + W * (f 3 % W + W * (f 4 % W + W * (f 5 % W)))))
/-- A number's words. -/
def wd (n : Nat) : Nat → Nat := fun i => n / W ^ i

theorem nv_lt (f : Nat → Nat) : nv f < R := by
  have := Nat.mod_lt (f 0) (show 0 < W by decide)
  have := Nat.mod_lt (f 1) (show 0 < W by decide)
  have := Nat.mod_lt (f 2) (show 0 < W by decide)
  have := Nat.mod_lt (f 3) (show 0 < W by decide)
  have := Nat.mod_lt (f 4) (show 0 < W by decide)
  have := Nat.mod_lt (f 5) (show 0 < W by decide)
  unfold nv
  simp only [R, W] at *
  omega

theorem nv_congr {f g : Nat → Nat} (h : ∀ i, i < 6 → f i % W = g i % W) : nv f = nv g := by
  unfold nv; rw [h 0 (by omega), h 1 (by omega), h 2 (by omega), h 3 (by omega), h 4 (by omega), h 5 (by omega)]

theorem div_mod (n k : Nat) : n % (W * k) = n % W + W * (n / W % k) := Nat.mod_mul

theorem nv_wd (n : Nat) : nv (wd n) = n % R := by
  have e : R = W * (W * (W * (W * (W * W)))) := by decide
  rw [e, div_mod, div_mod, div_mod, div_mod, div_mod]
  unfold nv wd
  simp only [Nat.div_div_eq_div_mul, Nat.pow_zero, Nat.div_one, Nat.pow_one, ← Nat.pow_two, ← Nat.pow_succ]

theorem wd_nv (f : Nat → Nat) : ∀ i, i < 6 → wd (nv f) i % W = f i % W := by
  intro i hi
  have key : ∀ (x r : Nat), x < W → (x + W * r) % W = x ∧ (x + W * r) / W = r := by
    intro x r hx
    have hW : 0 < W := by decide
    refine ⟨by rw [Nat.add_mul_mod_self_left, Nat.mod_eq_of_lt hx], by rw [Nat.add_mul_div_left _ _ hW, Nat.div_eq_of_lt hx, Nat.zero_add]⟩
  have hl : ∀ j, f j % W < W := fun j => Nat.mod_lt _ (by decide)
  unfold wd nv
  match i, hi with
  | 0, _ => simp only [Nat.pow_zero, Nat.div_one]; exact (key _ _ (hl 0)).1
  | 1, _ => simp only [Nat.pow_one, (key _ _ (hl 0)).2]; exact (key _ _ (hl 1)).1
  | 2, _ => simp only [Nat.pow_succ, Nat.pow_zero, Nat.one_mul, ← Nat.div_div_eq_div_mul, (key _ _ (hl 0)).2, (key _ _ (hl 1)).2]; exact (key _ _ (hl 2)).1
  | 3, _ => simp only [Nat.pow_succ, Nat.pow_zero, Nat.one_mul, ← Nat.div_div_eq_div_mul, (key _ _ (hl 0)).2, (key _ _ (hl 1)).2, (key _ _ (hl 2)).2]; exact (key _ _ (hl 3)).1
  | 4, _ => simp only [Nat.pow_succ, Nat.pow_zero, Nat.one_mul, ← Nat.div_div_eq_div_mul, (key _ _ (hl 0)).2, (key _ _ (hl 1)).2, (key _ _ (hl 2)).2, (key _ _ (hl 3)).2]; exact (key _ _ (hl 4)).1
  | 5, _ => simp only [Nat.pow_succ, Nat.pow_zero, Nat.one_mul, ← Nat.div_div_eq_div_mul, (key _ _ (hl 0)).2, (key _ _ (hl 1)).2, (key _ _ (hl 2)).2, (key _ _ (hl 3)).2, (key _ _ (hl 4)).2]; rw [Nat.mod_mod]

theorem wd_mod (n : Nat) : ∀ i, i < 6 → wd (n % R) i % W = wd n i % W := by
  intro i hi
  rw [← nv_wd, wd_nv _ i hi]

theorem words_of_nv {f : Nat → Nat} {n : Nat} (h : nv f = n % R) : ∀ i, i < 6 → f i % W = wd n i % W := by
  intro i hi
  rw [← wd_nv f i hi, h, wd_mod n i hi]

def numV (n : Nat) : V1 := .agg [.ws .u64 6 (wd n)]
def numA (n : Nat) : AV := .v1 (numV n)

theorem numV_val {f : Nat → Nat} {n : Nat} (h : nv f = n % R) (ρ : Ren) : (V1.agg [.ws .u64 6 f]).val ρ = (numV n).val ρ := by
  simp only [numV, V1.val, cvals, Cell.vals, List.append_nil]
  congr 2
  refine List.map_congr_left fun i hi => ?_
  rw [show M .u64 = W from rfl, words_of_nv h i (List.mem_range.1 hi)]
theorem numA_val {f : Nat → Nat} {n : Nat} (h : nv f = n % R) (ρ : Ren) : (AV.v1 (.agg [.ws .u64 6 f])).val ρ = (numA n).val ρ := numV_val h ρ

theorem comb {s0 s1 s2 s3 s4 s5 x0 x1 x2 x3 x4 x5 y0 y1 y2 y3 y4 y5 c0 c1 c2 c3 c4 c5 c6 : Nat} (z : c0 = 0) (e0 : s0 + W * c1 = x0 + y0 + c0) (e1 : s1 + W * c2 = x1 + y1 + c1) (e2 : s2 + W * c3 = x2 + y2 + c2) (e3 : s3 + W * c4 = x3 + y3 + c3) (e4 : s4 + W * c5 = x4 + y4 + c4) (e5 : s5 + W * c6 = x5 + y5 + c5) :
    s0 + W * (s1 + W * (s2 + W * (s3 + W * (s4 + W * s5)))) + R * c6 = x0 + W * (x1 + W * (x2 + W * (x3 + W * (x4 + W * x5)))) + (y0 + W * (y1 + W * (y2 + W * (y3 + W * (y4 + W * y5))))) := by
  simp only [R, W] at *; omega

/-! addition -/
def addC (a b : Nat → Nat) : Nat → Nat
  | 0 => 0
  | i + 1 => (a i % W + b i % W + addC a b i % W) / W
def addO (a b : Nat → Nat) : Nat → (Nat → Nat)
  | 0 => fun _ => 0
  | i + 1 => upd (addO a b i) i (a i + b i + addC a b i)
theorem addC_le (a b : Nat → Nat) (i : Nat) : addC a b i ≤ 1 := by
  induction i with
  | zero => simp [addC]
  | succ i ih =>
    have := Nat.mod_lt (a i) (show 0 < W by decide)
    have := Nat.mod_lt (b i) (show 0 < W by decide)
    simp only [addC, W] at *; omega
theorem addC_le' (a b : Nat → Nat) (i : Nat) : addC a b i % W ≤ 1 := Nat.le_trans (Nat.mod_le _ _) (addC_le a b i)
theorem upd_same (f : Nat → Nat) (i x : Nat) : upd f i x i = x := by simp [upd]
theorem upd_ne (f : Nat → Nat) {i j : Nat} (x : Nat) (h : j ≠ i) : upd f i x j = f j := by
  have : Nat.beq j i = false := by rw [← Bool.not_eq_true, Nat.beq_eq]; exact h
  simp [upd, this]
theorem addO_at (a b : Nat → Nat) : ∀ n i, i < n → addO a b n i = a i + b i + addC a b i
  | n + 1, i, h => by
    simp only [addO]
    by_cases e : i = n
    · subst e; rw [upd_same]
    · rw [upd_ne _ _ e]; exact addO_at a b n i (by omega)

theorem add_step (x y c : Nat) (hc : c ≤ 1) : (x + y + c) % W + W * ((x % W + y % W + c % W) / W) = x % W + y % W + c := by
  simp only [W]; omega

theorem add_nv (a b : Nat → Nat) : nv (addO a b 6) + R * addC a b 6 = nv a + nv b := by
  have e : ∀ i, i < 6 → addO a b 6 i % W + W * addC a b (i + 1) = a i % W + b i % W + addC a b i := fun i hi => by
    rw [addO_at a b 6 i hi]; exact add_step _ _ _ (addC_le a b i)
  have e0 := e 0 (by omega); have e1 := e 1 (by omega); have e2 := e 2 (by omega); have e3 := e 3 (by omega); have e4 := e 4 (by omega); have e5 := e 5 (by omega)
  exact comb rfl e0 e1 e2 e3 e4 e5
theorem add_sum (a b : Nat → Nat) : nv (addO a b 6) = (nv a + nv b) % R ∧ (Nat.beq (addC a b 6 % W) (1 % W)) = Nat.ble R (nv a + nv b) := by
  have h := add_nv a b
  have h1 := nv_lt (addO a b 6)
  have h2 := addC_le a b 6
  refine ⟨by rw [← h, Nat.add_mul_mod_self_left, Nat.mod_eq_of_lt h1], ?_⟩
  rw [Bool.eq_iff_iff, Nat.beq_eq, Nat.ble_eq]
  have : addC a b 6 % W = addC a b 6 := Nat.mod_eq_of_lt (by simp only [W]; omega)
  rw [this]
  have e1 : 1 % W = 1 := by decide
  rw [e1]
  generalize addC a b 6 = c at *
  have : c = 0 ∨ c = 1 := by omega
  rcases this with rfl | rfl
  · constructor
    · intro h; omega
    · intro h; omega
  · constructor
    · intro _; omega
    · intro _; rfl

theorem comb' {s0 s1 s2 s3 s4 s5 x0 x1 x2 x3 x4 x5 y0 y1 y2 y3 y4 y5 c0 c1 c2 c3 c4 c5 c6 : Nat} (z : c0 = 0) (e0 : s0 + (y0 + c0) = x0 + W * c1) (e1 : s1 + (y1 + c1) = x1 + W * c2) (e2 : s2 + (y2 + c2) = x2 + W * c3) (e3 : s3 + (y3 + c3) = x3 + W * c4) (e4 : s4 + (y4 + c4) = x4 + W * c5) (e5 : s5 + (y5 + c5) = x5 + W * c6) :
    s0 + W * (s1 + W * (s2 + W * (s3 + W * (s4 + W * s5)))) + (y0 + W * (y1 + W * (y2 + W * (y3 + W * (y4 + W * y5))))) = x0 + W * (x1 + W * (x2 + W * (x3 + W * (x4 + W * x5)))) + R * c6 := by
  simp only [R, W] at *; omega

/-! subtraction -/
def subC (a b : Nat → Nat) : Nat → Nat
  | 0 => 0
  | i + 1 => bif Nat.blt (a i % W) (b i % W + subC a b i % W) then 1 else 0
def subO (a b : Nat → Nat) : Nat → (Nat → Nat)
  | 0 => fun _ => 0
  | i + 1 => upd (subO a b i) i (a i % W + W - b i % W - subC a b i % W)
theorem subC_le (a b : Nat → Nat) (i : Nat) : subC a b i ≤ 1 := by
  cases i with
  | zero => simp [subC]
  | succ i => simp only [subC]; cases Nat.blt (a i % W) (b i % W + subC a b i % W) <;> simp
theorem subC_le' (a b : Nat → Nat) (i : Nat) : subC a b i % W ≤ 1 := Nat.le_trans (Nat.mod_le _ _) (subC_le a b i)
theorem subO_at (a b : Nat → Nat) : ∀ n i, i < n → subO a b n i = a i % W + W - b i % W - subC a b i % W
  | n + 1, i, h => by
    simp only [subO]
    by_cases e : i = n
    · subst e; rw [upd_same]
    · rw [upd_ne _ _ e]; exact subO_at a b n i (by omega)
theorem sub_step (x y c : Nat) (hc : c ≤ 1) : (x % W + W - y % W - c % W) % W + (y % W + c) = x % W + W * (bif Nat.blt (x % W) (y % W + c % W) then 1 else 0) := by
  have e : c % W = c := Nat.mod_eq_of_lt (by simp only [W]; omega)
  rw [e]
  cases h : Nat.blt (x % W) (y % W + c)
  · have : ¬ x % W < y % W + c := by rw [← Nat.blt_eq, h]; simp
    simp only [cond_false, W] at *; omega
  · have : x % W < y % W + c := by rw [← Nat.blt_eq, h]
    simp only [cond_true, W] at *; omega
theorem sub_nv (a b : Nat → Nat) : nv (subO a b 6) + nv b = nv a + R * subC a b 6 := by
  have e : ∀ i, i < 6 → subO a b 6 i % W + (b i % W + subC a b i) = a i % W + W * subC a b (i + 1) := fun i hi => by
    rw [subO_at a b 6 i hi]; exact sub_step _ _ _ (subC_le a b i)
  have e0 := e 0 (by omega); have e1 := e 1 (by omega); have e2 := e 2 (by omega); have e3 := e 3 (by omega); have e4 := e 4 (by omega); have e5 := e 5 (by omega)
  exact comb' rfl e0 e1 e2 e3 e4 e5
theorem sub_diff (a b : Nat → Nat) : nv (subO a b 6) = (nv a + R - nv b) % R ∧ (Nat.beq (subC a b 6 % W) (1 % W)) = Nat.blt (nv a) (nv b) := by
  have h := sub_nv a b
  have h1 := nv_lt (subO a b 6)
  have h2 := subC_le a b 6
  have h3 := nv_lt a
  have h4 := nv_lt b
  have e1 : 1 % W = 1 := by decide
  have e2 : subC a b 6 % W = subC a b 6 := Nat.mod_eq_of_lt (by simp only [W]; omega)
  rw [e1, e2]
  generalize subC a b 6 = c at *
  have : c = 0 ∨ c = 1 := by omega
  rcases this with rfl | rfl
  · refine ⟨?_, ?_⟩
    · rw [show nv a + R - nv b = nv (subO a b 6) + R by omega, Nat.add_mod_right, Nat.mod_eq_of_lt h1]
    · rw [Bool.eq_iff_iff, Nat.beq_eq, Nat.blt_eq]; omega
  · refine ⟨?_, ?_⟩
    · rw [show nv a + R - nv b = nv (subO a b 6) by omega, Nat.mod_eq_of_lt h1]
    · rw [Bool.eq_iff_iff, Nat.beq_eq, Nat.blt_eq]; omega

/-! comparison -/
def cmpI (x y : Nat) : Int := bif Nat.blt x y then -1 else bif Nat.blt y x then 1 else 0
/-- The six comparisons, from the highest word on. -/
def cmpP (a b : Nat → Nat) (v : Int → Prop) : Nat → Prop
  | 0 => v 0
  | i + 1 => match Nat.blt (a i % W) (b i % W) with
    | true => v (-1)
    | false => match Nat.blt (b i % W) (a i % W) with
      | true => v 1
      | false => cmpP a b v i
def nvn (f : Nat → Nat) : Nat → Nat
  | 0 => 0
  | i + 1 => nvn f i + W ^ i * (f i % W)
theorem nvn_lt (f : Nat → Nat) : ∀ i, nvn f i < W ^ i
  | 0 => by simp [nvn]
  | i + 1 => by
    have := nvn_lt f i
    have h2 := Nat.mod_lt (f i) (show 0 < W by decide)
    simp only [nvn, Nat.pow_succ]
    have : W ^ i * (f i % W) + W ^ i ≤ W ^ i * W := by rw [← Nat.mul_succ]; exact Nat.mul_le_mul_left _ h2
    omega
theorem nv_nvn (f : Nat → Nat) : nv f = nvn f 6 := by
  simp only [nvn, nv, W]
  omega
theorem cmpP_of (a b : Nat → Nat) (v : Int → Prop) : ∀ i, v (cmpI (nvn a i) (nvn b i)) → cmpP a b v i
  | 0, h => by
    have e : cmpI (nvn a 0) (nvn b 0) = 0 := rfl
    rw [e] at h; exact h
  | i + 1, h => by
    have ha := nvn_lt a i
    have hb := nvn_lt b i
    simp only [cmpP]
    simp only [nvn] at h
    cases h1 : Nat.blt (a i % W) (b i % W)
    · have n1 : ¬ a i % W < b i % W := by rw [← Nat.blt_eq, h1]; simp
      simp only
      cases h2 : Nat.blt (b i % W) (a i % W)
      · have n2 : ¬ b i % W < a i % W := by rw [← Nat.blt_eq, h2]; simp
        have e : a i % W = b i % W := by omega
        simp only
        refine cmpP_of a b v i ?_
        rw [e] at h
        have e1 : Nat.blt (nvn a i + W ^ i * (b i % W)) (nvn b i + W ^ i * (b i % W)) = Nat.blt (nvn a i) (nvn b i) := by rw [Bool.eq_iff_iff, Nat.blt_eq, Nat.blt_eq]; omega
        have e2 : Nat.blt (nvn b i + W ^ i * (b i % W)) (nvn a i + W ^ i * (b i % W)) = Nat.blt (nvn b i) (nvn a i) := by rw [Bool.eq_iff_iff, Nat.blt_eq, Nat.blt_eq]; omega
        unfold cmpI at h ⊢
        rw [e1, e2] at h
        exact h
      · have n2 : b i % W < a i % W := by rw [← Nat.blt_eq, h2]
        simp only
        have hm : W ^ i * (b i % W) + W ^ i ≤ W ^ i * (a i % W) := by rw [← Nat.mul_succ]; exact Nat.mul_le_mul_left _ n2
        have e1 : Nat.blt (nvn a i + W ^ i * (a i % W)) (nvn b i + W ^ i * (b i % W)) = false := by rw [← Bool.not_eq_true, Nat.blt_eq]; omega
        have e2 : Nat.blt (nvn b i + W ^ i * (b i % W)) (nvn a i + W ^ i * (a i % W)) = true := by rw [Nat.blt_eq]; omega
        unfold cmpI at h
        rw [e1, e2] at h
        exact h
    · have n1 : a i % W < b i % W := by rw [← Nat.blt_eq, h1]
      simp only
      have hm : W ^ i * (a i % W) + W ^ i ≤ W ^ i * (b i % W) := by rw [← Nat.mul_succ]; exact Nat.mul_le_mul_left _ n1
      have e1 : Nat.blt (nvn a i + W ^ i * (a i % W)) (nvn b i + W ^ i * (b i % W)) = true := by rw [Nat.blt_eq]; omega
      unfold cmpI at h
      rw [e1] at h
      exact h

/-! bits -/
def bitI (n : Nat) : Int → Int
  | .ofNat i => Int.ofNat (n / 2 ^ i % 2)
  | .negSucc _ => 0
theorem bit_nv (f : Nat → Nat) (i : Nat) (h : i < 384) : f (i / 64) % W / 2 ^ (i % 64) % 2 = nv f / 2 ^ i % 2 := by
  have hi : i / 64 < 6 := by omega
  rw [← wd_nv f _ hi]
  unfold wd
  have e1 : (2 : Nat) ^ i = W ^ (i / 64) * 2 ^ (i % 64) := by
    have : W = 2 ^ 64 := by decide
    rw [this, ← Nat.pow_mul, ← Nat.pow_add]
    congr 1; omega
  rw [e1, ← Nat.div_div_eq_div_mul]
  generalize nv f / W ^ (i / 64) = x
  have e2 : W = 2 ^ (i % 64) * 2 ^ (64 - i % 64) := by
    rw [← Nat.pow_add, show i % 64 + (64 - i % 64) = 64 by omega]; decide
  rw [e2, Nat.mod_mul_right_div_self]
  have : (2 : Nat) ^ (64 - i % 64) = 2 * 2 ^ (63 - i % 64) := by
    rw [← Nat.pow_succ']; congr 1; omega
  rw [this, Nat.mod_mul_right_mod]
/-- The bits of a number of six words. -/
def E : Nat := 384
theorem E_eq : E = 384 := rfl
theorem R_pow : R = 2 ^ E := by kernel_rfl
theorem nv_bit_high (f : Nat → Nat) (i : Nat) (h : 384 ≤ i) : nv f / 2 ^ i % 2 = 0 := by
  have h1 := nv_lt f
  have h2 : R ≤ 2 ^ i := by
    rw [R_pow]; exact Nat.pow_le_pow_right (by omega) h
  rw [Nat.div_eq_of_lt (by omega)]
end Go.Rq
