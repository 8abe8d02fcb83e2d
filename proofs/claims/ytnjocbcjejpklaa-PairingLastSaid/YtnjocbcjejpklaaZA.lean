/- Joined: WM FwM FwN FwO FwP W1 WM2 W2 W3 WM3 WM4 WM5 WM6 WN WN2 FwQ W4 W5. -/
import Derived.Test.YtnjocbcjejpklaaFw
import Derived.RowKit3
import Derived.OpenShut
import Derived.Test.YtnjocbcjejpklaaTT
import Derived.Lib.Mul64
import Derived.Lib.Tables
/- Numbers of six words: plain arithmetic. -/
namespace Go.Rq

def W : Nat := 18446744073709551616
def R : Nat := 39402006196394479212279040100143613805079739270465446667948293404245721771497210611414266254884915640806627990306816
theorem W_eq : W = 18446744073709551616 := rfl
theorem R_eq : R = W ^ 6 := by decide
/-- The number that six words make. -/
def nv (f : Nat → Nat) : Nat := f 0 % W + W * (f 1 % W + W * (f 2 % W + W * (f 3 % W + W * (f 4 % W + W * (f 5 % W)))))
/-- A number's words. -/
def wd (n : Nat) : Nat → Nat := fun i => n / W ^ i

theorem nv_lt (f : Nat → Nat) : nv f < R := by
  have := Nat.mod_lt (f 0) (show 0 < W by decide)
  have := Nat.mod_lt (f 1) (show 0 < W by decide)
  have := Nat.mod_lt (f 2) (show 0 < W by decide)
  have := Nat.mod_lt (f 3) (show 0 < W by decide)
  have := Nat.mod_lt (f 4) (show 0 < W by decide)
  have := Nat.mod_lt (f 5) (show 0 < W by decide)
  unfold nv
  simp only [R, W] at *
  omega

theorem nv_congr {f g : Nat → Nat} (h : ∀ i, i < 6 → f i % W = g i % W) : nv f = nv g := by
  unfold nv; rw [h 0 (by omega), h 1 (by omega), h 2 (by omega), h 3 (by omega), h 4 (by omega), h 5 (by omega)]

theorem div_mod (n k : Nat) : n % (W * k) = n % W + W * (n / W % k) := Nat.mod_mul

theorem nv_wd (n : Nat) : nv (wd n) = n % R := by
  have e : R = W * (W * (W * (W * (W * W)))) := by decide
  rw [e, div_mod, div_mod, div_mod, div_mod, div_mod]
  unfold nv wd
  simp only [Nat.div_div_eq_div_mul, Nat.pow_zero, Nat.div_one, Nat.pow_one, ← Nat.pow_two, ← Nat.pow_succ]

theorem wd_nv (f : Nat → Nat) : ∀ i, i < 6 → wd (nv f) i % W = f i % W := by
  intro i hi
  have key : ∀ (x r : Nat), x < W → (x + W * r) % W = x ∧ (x + W * r) / W = r := by
    intro x r hx
    have hW : 0 < W := by decide
    refine ⟨by rw [Nat.add_mul_mod_self_left, Nat.mod_eq_of_lt hx], by rw [Nat.add_mul_div_left _ _ hW, Nat.div_eq_of_lt hx, Nat.zero_add]⟩
  have hl : ∀ j, f j % W < W := fun j => Nat.mod_lt _ (by decide)
  unfold wd nv
  match i, hi with
  | 0, _ => simp only [Nat.pow_zero, Nat.div_one]; exact (key _ _ (hl 0)).1
  | 1, _ => simp only [Nat.pow_one, (key _ _ (hl 0)).2]; exact (key _ _ (hl 1)).1
  | 2, _ => simp only [Nat.pow_succ, Nat.pow_zero, Nat.one_mul, ← Nat.div_div_eq_div_mul, (key _ _ (hl 0)).2, (key _ _ (hl 1)).2]; exact (key _ _ (hl 2)).1
  | 3, _ => simp only [Nat.pow_succ, Nat.pow_zero, Nat.one_mul, ← Nat.div_div_eq_div_mul, (key _ _ (hl 0)).2, (key _ _ (hl 1)).2, (key _ _ (hl 2)).2]; exact (key _ _ (hl 3)).1
  | 4, _ => simp only [Nat.pow_succ, Nat.pow_zero, Nat.one_mul, ← Nat.div_div_eq_div_mul, (key _ _ (hl 0)).2, (key _ _ (hl 1)).2, (key _ _ (hl 2)).2, (key _ _ (hl 3)).2]; exact (key _ _ (hl 4)).1
  | 5, _ => simp only [Nat.pow_succ, Nat.pow_zero, Nat.one_mul, ← Nat.div_div_eq_div_mul, (key _ _ (hl 0)).2, (key _ _ (hl 1)).2, (key _ _ (hl 2)).2, (key _ _ (hl 3)).2, (key _ _ (hl 4)).2]; rw [Nat.mod_mod]

theorem wd_mod (n : Nat) : ∀ i, i < 6 → wd (n % R) i % W = wd n i % W := by
  intro i hi
  rw [← nv_wd, wd_nv _ i hi]

theorem words_of_nv {f : Nat → Nat} {n : Nat} (h : nv f = n % R) : ∀ i, i < 6 → f i % W = wd n i % W := by
  intro i hi
  rw [← wd_nv f i hi, h, wd_mod n i hi]

def numV (n : Nat) : V1 := .agg [.ws .u64 6 (wd n)]
def numA (n : Nat) : AV := .v1 (numV n)

theorem numV_val {f : Nat → Nat} {n : Nat} (h : nv f = n % R) (ρ : Ren) : (V1.agg [.ws .u64 6 f]).val ρ = (numV n).val ρ := by
  simp only [numV, V1.val, cvals, Cell.vals, List.append_nil]
  congr 2
  refine List.map_congr_left fun i hi => ?_
  rw [show M .u64 = W from rfl, words_of_nv h i (List.mem_range.1 hi)]
theorem numA_val {f : Nat → Nat} {n : Nat} (h : nv f = n % R) (ρ : Ren) : (AV.v1 (.agg [.ws .u64 6 f])).val ρ = (numA n).val ρ := numV_val h ρ

theorem comb {s0 s1 s2 s3 s4 s5 x0 x1 x2 x3 x4 x5 y0 y1 y2 y3 y4 y5 c0 c1 c2 c3 c4 c5 c6 : Nat} (z : c0 = 0) (e0 : s0 + W * c1 = x0 + y0 + c0) (e1 : s1 + W * c2 = x1 + y1 + c1) (e2 : s2 + W * c3 = x2 + y2 + c2) (e3 : s3 + W * c4 = x3 + y3 + c3) (e4 : s4 + W * c5 = x4 + y4 + c4) (e5 : s5 + W * c6 = x5 + y5 + c5) :
    s0 + W * (s1 + W * (s2 + W * (s3 + W * (s4 + W * s5)))) + R * c6 = x0 + W * (x1 + W * (x2 + W * (x3 + W * (x4 + W * x5)))) + (y0 + W * (y1 + W * (y2 + W * (y3 + W * (y4 + W * y5))))) := by
  simp only [R, W] at *; omega

/-! addition -/
def addC (a b : Nat → Nat) : Nat → Nat
  | 0 => 0
  | i + 1 => (a i % W + b i % W + addC a b i % W) / W
def addO (a b : Nat → Nat) : Nat → (Nat → Nat)
  | 0 => fun _ => 0
  | i + 1 => upd (addO a b i) i (a i + b i + addC a b i)
theorem addC_le (a b : Nat → Nat) (i : Nat) : addC a b i ≤ 1 := by
  induction i with
  | zero => simp [addC]
  | succ i ih =>
    have := Nat.mod_lt (a i) (show 0 < W by decide)
    have := Nat.mod_lt (b i) (show 0 < W by decide)
    simp only [addC, W] at *; omega
theorem addC_le' (a b : Nat → Nat) (i : Nat) : addC a b i % W ≤ 1 := Nat.le_trans (Nat.mod_le _ _) (addC_le a b i)
theorem upd_same (f : Nat → Nat) (i x : Nat) : upd f i x i = x := by simp [upd]
theorem upd_ne (f : Nat → Nat) {i j : Nat} (x : Nat) (h : j ≠ i) : upd f i x j = f j := by
  have : Nat.beq j i = false := by rw [← Bool.not_eq_true, Nat.beq_eq]; exact h
  simp [upd, this]
theorem addO_at (a b : Nat → Nat) : ∀ n i, i < n → addO a b n i = a i + b i + addC a b i
  | n + 1, i, h => by
    simp only [addO]
    by_cases e : i = n
    · subst e; rw [upd_same]
    · rw [upd_ne _ _ e]; exact addO_at a b n i (by omega)

theorem add_step (x y c : Nat) (hc : c ≤ 1) : (x + y + c) % W + W * ((x % W + y % W + c % W) / W) = x % W + y % W + c := by
  simp only [W]; omega

theorem add_nv (a b : Nat → Nat) : nv (addO a b 6) + R * addC a b 6 = nv a + nv b := by
  have e : ∀ i, i < 6 → addO a b 6 i % W + W * addC a b (i + 1) = a i % W + b i % W + addC a b i := fun i hi => by
    rw [addO_at a b 6 i hi]; exact add_step _ _ _ (addC_le a b i)
  have e0 := e 0 (by omega); have e1 := e 1 (by omega); have e2 := e 2 (by omega); have e3 := e 3 (by omega); have e4 := e 4 (by omega); have e5 := e 5 (by omega)
  exact comb rfl e0 e1 e2 e3 e4 e5
theorem add_sum (a b : Nat → Nat) : nv (addO a b 6) = (nv a + nv b) % R ∧ (Nat.beq (addC a b 6 % W) (1 % W)) = Nat.ble R (nv a + nv b) := by
  have h := add_nv a b
  have h1 := nv_lt (addO a b 6)
  have h2 := addC_le a b 6
  refine ⟨by rw [← h, Nat.add_mul_mod_self_left, Nat.mod_eq_of_lt h1], ?_⟩
  rw [Bool.eq_iff_iff, Nat.beq_eq, Nat.ble_eq]
  have : addC a b 6 % W = addC a b 6 := Nat.mod_eq_of_lt (by simp only [W]; omega)
  rw [this]
  have e1 : 1 % W = 1 := by decide
  rw [e1]
  generalize addC a b 6 = c at *
  have : c = 0 ∨ c = 1 := by omega
  rcases this with rfl | rfl
  · constructor
    · intro h; omega
    · intro h; omega
  · constructor
    · intro _; omega
    · intro _; rfl

theorem comb' {s0 s1 s2 s3 s4 s5 x0 x1 x2 x3 x4 x5 y0 y1 y2 y3 y4 y5 c0 c1 c2 c3 c4 c5 c6 : Nat} (z : c0 = 0) (e0 : s0 + (y0 + c0) = x0 + W * c1) (e1 : s1 + (y1 + c1) = x1 + W * c2) (e2 : s2 + (y2 + c2) = x2 + W * c3) (e3 : s3 + (y3 + c3) = x3 + W * c4) (e4 : s4 + (y4 + c4) = x4 + W * c5) (e5 : s5 + (y5 + c5) = x5 + W * c6) :
    s0 + W * (s1 + W * (s2 + W * (s3 + W * (s4 + W * s5)))) + (y0 + W * (y1 + W * (y2 + W * (y3 + W * (y4 + W * y5))))) = x0 + W * (x1 + W * (x2 + W * (x3 + W * (x4 + W * x5)))) + R * c6 := by
  simp only [R, W] at *; omega

/-! subtraction -/
def subC (a b : Nat → Nat) : Nat → Nat
  | 0 => 0
  | i + 1 => bif Nat.blt (a i % W) (b i % W + subC a b i % W) then 1 else 0
def subO (a b : Nat → Nat) : Nat → (Nat → Nat)
  | 0 => fun _ => 0
  | i + 1 => upd (subO a b i) i (a i % W + W - b i % W - subC a b i % W)
theorem subC_le (a b : Nat → Nat) (i : Nat) : subC a b i ≤ 1 := by
  cases i with
  | zero => simp [subC]
  | succ i => simp only [subC]; cases Nat.blt (a i % W) (b i % W + subC a b i % W) <;> simp
theorem subC_le' (a b : Nat → Nat) (i : Nat) : subC a b i % W ≤ 1 := Nat.le_trans (Nat.mod_le _ _) (subC_le a b i)
theorem subO_at (a b : Nat → Nat) : ∀ n i, i < n → subO a b n i = a i % W + W - b i % W - subC a b i % W
  | n + 1, i, h => by
    simp only [subO]
    by_cases e : i = n
    · subst e; rw [upd_same]
    · rw [upd_ne _ _ e]; exact subO_at a b n i (by omega)
theorem sub_step (x y c : Nat) (hc : c ≤ 1) : (x % W + W - y % W - c % W) % W + (y % W + c) = x % W + W * (bif Nat.blt (x % W) (y % W + c % W) then 1 else 0) := by
  have e : c % W = c := Nat.mod_eq_of_lt (by simp only [W]; omega)
  rw [e]
  cases h : Nat.blt (x % W) (y % W + c)
  · have : ¬ x % W < y % W + c := by rw [← Nat.blt_eq, h]; simp
    simp only [cond_false, W] at *; omega
  · have : x % W < y % W + c := by rw [← Nat.blt_eq, h]
    simp only [cond_true, W] at *; omega
theorem sub_nv (a b : Nat → Nat) : nv (subO a b 6) + nv b = nv a + R * subC a b 6 := by
  have e : ∀ i, i < 6 → subO a b 6 i % W + (b i % W + subC a b i) = a i % W + W * subC a b (i + 1) := fun i hi => by
    rw [subO_at a b 6 i hi]; exact sub_step _ _ _ (subC_le a b i)
  have e0 := e 0 (by omega); have e1 := e 1 (by omega); have e2 := e 2 (by omega); have e3 := e 3 (by omega); have e4 := e 4 (by omega); have e5 := e 5 (by omega)
  exact comb' rfl e0 e1 e2 e3 e4 e5
theorem sub_diff (a b : Nat → Nat) : nv (subO a b 6) = (nv a + R - nv b) % R ∧ (Nat.beq (subC a b 6 % W) (1 % W)) = Nat.blt (nv a) (nv b) := by
  have h := sub_nv a b
  have h1 := nv_lt (subO a b 6)
  have h2 := subC_le a b 6
  have h3 := nv_lt a
  have h4 := nv_lt b
  have e1 : 1 % W = 1 := by decide
  have e2 : subC a b 6 % W = subC a b 6 := Nat.mod_eq_of_lt (by simp only [W]; omega)
  rw [e1, e2]
  generalize subC a b 6 = c at *
  have : c = 0 ∨ c = 1 := by omega
  rcases this with rfl | rfl
  · refine ⟨?_, ?_⟩
    · rw [show nv a + R - nv b = nv (subO a b 6) + R by omega, Nat.add_mod_right, Nat.mod_eq_of_lt h1]
    · rw [Bool.eq_iff_iff, Nat.beq_eq, Nat.blt_eq]; omega
  · refine ⟨?_, ?_⟩
    · rw [show nv a + R - nv b = nv (subO a b 6) by omega, Nat.mod_eq_of_lt h1]
    · rw [Bool.eq_iff_iff, Nat.beq_eq, Nat.blt_eq]; omega

/-! comparison -/
def cmpI (x y : Nat) : Int := bif Nat.blt x y then -1 else bif Nat.blt y x then 1 else 0
/-- The six comparisons, from the highest word on. -/
def cmpP (a b : Nat → Nat) (v : Int → Prop) : Nat → Prop
  | 0 => v 0
  | i + 1 => match Nat.blt (a i % W) (b i % W) with
    | true => v (-1)
    | false => match Nat.blt (b i % W) (a i % W) with
      | true => v 1
      | false => cmpP a b v i
def nvn (f : Nat → Nat) : Nat → Nat
  | 0 => 0
  | i + 1 => nvn f i + W ^ i * (f i % W)
theorem nvn_lt (f : Nat → Nat) : ∀ i, nvn f i < W ^ i
  | 0 => by simp [nvn]
  | i + 1 => by
    have := nvn_lt f i
    have h2 := Nat.mod_lt (f i) (show 0 < W by decide)
    simp only [nvn, Nat.pow_succ]
    have : W ^ i * (f i % W) + W ^ i ≤ W ^ i * W := by rw [← Nat.mul_succ]; exact Nat.mul_le_mul_left _ h2
    omega
theorem nv_nvn (f : Nat → Nat) : nv f = nvn f 6 := by
  simp only [nvn, nv, W]
  omega
theorem cmpP_of (a b : Nat → Nat) (v : Int → Prop) : ∀ i, v (cmpI (nvn a i) (nvn b i)) → cmpP a b v i
  | 0, h => by
    have e : cmpI (nvn a 0) (nvn b 0) = 0 := rfl
    rw [e] at h; exact h
  | i + 1, h => by
    have ha := nvn_lt a i
    have hb := nvn_lt b i
    simp only [cmpP]
    simp only [nvn] at h
    cases h1 : Nat.blt (a i % W) (b i % W)
    · have n1 : ¬ a i % W < b i % W := by rw [← Nat.blt_eq, h1]; simp
      simp only
      cases h2 : Nat.blt (b i % W) (a i % W)
      · have n2 : ¬ b i % W < a i % W := by rw [← Nat.blt_eq, h2]; simp
        have e : a i % W = b i % W := by omega
        simp only
        refine cmpP_of a b v i ?_
        rw [e] at h
        have e1 : Nat.blt (nvn a i + W ^ i * (b i % W)) (nvn b i + W ^ i * (b i % W)) = Nat.blt (nvn a i) (nvn b i) := by rw [Bool.eq_iff_iff, Nat.blt_eq, Nat.blt_eq]; omega
        have e2 : Nat.blt (nvn b i + W ^ i * (b i % W)) (nvn a i + W ^ i * (b i % W)) = Nat.blt (nvn b i) (nvn a i) := by rw [Bool.eq_iff_iff, Nat.blt_eq, Nat.blt_eq]; omega
        unfold cmpI at h ⊢
        rw [e1, e2] at h
        exact h
      · have n2 : b i % W < a i % W := by rw [← Nat.blt_eq, h2]
        simp only
        have hm : W ^ i * (b i % W) + W ^ i ≤ W ^ i * (a i % W) := by rw [← Nat.mul_succ]; exact Nat.mul_le_mul_left _ n2
        have e1 : Nat.blt (nvn a i + W ^ i * (a i % W)) (nvn b i + W ^ i * (b i % W)) = false := by rw [← Bool.not_eq_true, Nat.blt_eq]; omega
        have e2 : Nat.blt (nvn b i + W ^ i * (b i % W)) (nvn a i + W ^ i * (a i % W)) = true := by rw [Nat.blt_eq]; omega
        unfold cmpI at h
        rw [e1, e2] at h
        exact h
    · have n1 : a i % W < b i % W := by rw [← Nat.blt_eq, h1]
      simp only
      have hm : W ^ i * (a i % W) + W ^ i ≤ W ^ i * (b i % W) := by rw [← Nat.mul_succ]; exact Nat.mul_le_mul_left _ n1
      have e1 : Nat.blt (nvn a i + W ^ i * (a i % W)) (nvn b i + W ^ i * (b i % W)) = true := by rw [Nat.blt_eq]; omega
      unfold cmpI at h
      rw [e1] at h
      exact h

/-! bits -/
def bitI (n : Nat) : Int → Int
  | .ofNat i => Int.ofNat (n / 2 ^ i % 2)
  | .negSucc _ => 0
theorem bit_nv (f : Nat → Nat) (i : Nat) (h : i < 384) : f (i / 64) % W / 2 ^ (i % 64) % 2 = nv f / 2 ^ i % 2 := by
  have hi : i / 64 < 6 := by omega
  rw [← wd_nv f _ hi]
  unfold wd
  have e1 : (2 : Nat) ^ i = W ^ (i / 64) * 2 ^ (i % 64) := by
    have : W = 2 ^ 64 := by decide
    rw [this, ← Nat.pow_mul, ← Nat.pow_add]
    congr 1; omega
  rw [e1, ← Nat.div_div_eq_div_mul]
  generalize nv f / W ^ (i / 64) = x
  have e2 : W = 2 ^ (i % 64) * 2 ^ (64 - i % 64) := by
    rw [← Nat.pow_add, show i % 64 + (64 - i % 64) = 64 by omega]; decide
  rw [e2, Nat.mod_mul_right_div_self]
  have : (2 : Nat) ^ (64 - i % 64) = 2 * 2 ^ (63 - i % 64) := by
    rw [← Nat.pow_succ']; congr 1; omega
  rw [this, Nat.mod_mul_right_mod]
/-- The bits of a number of six words. -/
def E : Nat := 384
theorem E_eq : E = 384 := rfl
theorem R_pow : R = 2 ^ E := by kernel_rfl
theorem nv_bit_high (f : Nat → Nat) (i : Nat) (h : 384 ≤ i) : nv f / 2 ^ i % 2 = 0 := by
  have h1 := nv_lt f
  have h2 : R ≤ 2 ^ i := by
    rw [R_pow]; exact Nat.pow_le_pow_right (by omega) h
  rw [Nat.div_eq_of_lt (by omega)]
end Go.Rq

/- Tables of contracts; a loop between what comes ahead of it and what comes behind it. -/
namespace Go.Rq
open Go

def ctxL : List (Nat × CallC) → Ctx
  | [], _ => none
  | p :: r, f => match Nat.beq f p.1 with
    | true => some p.2
    | false => ctxL r f
theorem ctxL_nil {P : Program} : CtxOk P (ctxL []) := fun f c h => by cases h
theorem ctxL_cons {P : Program} {n : Nat} {c : CallC} {l : List (Nat × CallC)} (h : c.Ok P n) (hl : CtxOk P (ctxL l)) : CtxOk P (ctxL ((n, c) :: l)) := by
  intro f c' e
  simp only [ctxL] at e
  split at e
  · rename_i hb
    rw [Nat.beq_eq] at hb
    subst hb
    cases e; exact h
  · exact hl f c' e

/-- The live slots and the first blocks of a state, as KK says. -/
def LK (ks : List Nat) (n m : Nat) (KK : List AV → Heap → Prop) (s : AS) : Prop := Nat.beq s.t.length n = true ∧ KK (pickT s.t ks) (takeH m s.h)

theorem LK.live {ks : List Nat} {n m : Nat} {KK : List AV → Heap → Prop} {s : AS} (h : LK ks n m KK s) {vs : List AV} {g : Heap} (hv : pickT s.t ks = vs) (hg : takeH m s.h = g) (hm : g.length = m) : Live ks vs n g s :=
  ⟨Nat.beq_eq.mp h.1, hv, by rw [hm]; exact hg⟩

/-- What a round ends with: it goes on with less, or the block is left, or the function. -/
def RoundE {ι : Type} (id : Nat) (ks : List Nat) (n m : Nat) (V : ι → List AV) (H : ι → Heap) (μ : ι → Nat) (i : ι) (E : ι → Prop) (Q : Exit → AS → Prop) : Exit → AS → Prop
  | .normal, s => LK ks n m (fun vs h => ∃ j, μ j < μ i ∧ vs = V j ∧ h = H j) s
  | .exit b, s => match Nat.beq b id with
    | true => LK ks n m (fun vs h => ∃ j, E j ∧ vs = V j ∧ h = H j) s
    | false => Q (.exit b) s
  | e, s => Q e s

theorem loopS {P : Program} {D : Nat → Prop} {pre post : List Code} {id : Nat} {c : Code} {Q : Exit → AS → Prop} {s0 : AS} {ι : Type} (ks : List Nat) (n m : Nat) (V : ι → List AV) (H : ι → Heap) (μ : ι → Nat) (E : ι → Prop)
    (hm : ∀ i, (H i).length = m) (hb : ∀ i, liveB (V i) (H i) = true) (hD : ∀ i j, D j → Dm (H i) j)
    (start : AWqS P D pre (fun e s => match e with
      | .normal => LK ks n m (fun vs h => ∃ j, vs = V j ∧ h = H j) s
      | e => Q e s) s0)
    (step : ∀ i junk, AWq P D c (RoundE id ks n m V H μ i E Q) ⟨mkT ks (V i) n junk, H i⟩)
    (fin : ∀ j junk, E j → AWqS P D post Q ⟨mkT ks (V j) n junk, H j⟩) :
    AWqS P D (pre ++ .block id (.loop c) :: post) Q s0 := by
  refine AWqS.app (start.mono fun e s q => ?_)
  cases e with
  | normal =>
    obtain ⟨j, hv, hg⟩ := q.2
    have hl : Live ks (V j) n (H j) s := q.live hv hg (hm j)
    show AWqS P D (.block id (.loop c) :: post) Q s
    refine AWq.liveLoop (Q := fun e s' => match e with
      | .normal => AWqS P D post Q s'
      | e => Q e s') ks n V H μ hb hD (fun i junk => (step i junk).mono fun e s' q => ?_) j hl
    cases e with
    | normal =>
      have q : LK ks n m (fun vs h => ∃ k, μ k < μ _ ∧ vs = V k ∧ h = H k) s' := q
      obtain ⟨k, hk, hv, hg⟩ := q.2
      exact ⟨k, hk, q.live hv hg (hm k)⟩
    | exit b =>
      simp only [RoundE] at q
      split at q
      · rename_i hbe
        have : b = id := Nat.beq_eq.mp hbe
        simp only [this, if_true]
        obtain ⟨k, hk, hv, hg⟩ := q.2
        exact AWqS.of_live (q.live hv hg (hm k)) (hb k) (hD k) fun junk => fin k junk hk
      · rename_i hbe
        have : b ≠ id := fun e => by rw [← Nat.beq_eq, hbe] at e; cases e
        simp only [this, if_false]
        exact q
    | _ => exact q
  | _ => exact q

/-- A function's end, up to what its result stands for. -/
def FEnd' (T : TT) (fn : Func) (v : AV) : Exit → AS → Prop
  | .normal, s | .ret, s => ∃ v', resA T s fn.results.toList = some v' ∧ ∀ ρ, v'.val ρ = v.val ρ
  | _, _ => False

theorem pure_walk' {P : Program} {T : TT} (hT : TTOk P T) {f : FuncId} {fn : Func} (hf : P.funcs[f]? = some fn) (hb : fn.body = some (bodyOf fn)) (hn : (fn.name == "runtime.NumGoroutine") = false)
    {args : List AV} (hargs : args.all vokB = true) {v : AV} (hv : vokB v = true)
    (h : AWqS P (fun _ => False) (flatC (bodyOf fn)) (FEnd' T fn v) ⟨frame0 args fn.ntmps, []⟩) : ∀ h, CallOk P f args h v h := by
  have hargs : ∀ x ∈ args, x.ok fun _ => False := fun x hx => vok_of (List.all_eq_true.1 hargs x hx)
  have hv : v.ok fun _ => False := vok_of hv
  have h : AWp P (bodyOf fn) (FEnd' T fn v) ⟨frame0 args fn.ntmps, []⟩ := by
    intro ρ a w r
    have e : Dm ([] : Heap) = fun _ => False := by funext i; simp [Dm, hget]
    have := AWq.of_flat _ h ρ w ρ a w r (by rw [e]; exact StepR.refl _ _ _)
    rw [e]
    exact this
  intro hp ρ w hr _ o a next Q hnext
  rw [enter_run hf hb hn, Oper.upon_enter]
  refine calls_of_wp hf hb ?_
  have hrel : Rel (fun _ => 0) ⟨frame0 args fn.ntmps, []⟩ { tmps := (args.map (AV.val ρ)).toArray ++ Array.replicate (fn.ntmps - (args.map (AV.val ρ)).toArray.size) undef, defers := [] } w := by
    refine ⟨?_, rfl, fun x hx => ?_, RelH.nil _ _⟩
    · have : args.map (AV.val fun _ => 0) = args.map (AV.val ρ) := List.map_congr_left fun x hx => val_ok_any (hargs x hx) _ _
      apply Array.ext'
      simp [frame0, this, undefA, AV.val, undef]
    · unfold frame0 at hx
      rcases List.mem_append.1 hx with hx | hx
      · exact AV.ok_mono (fun _ h => h.elim) (hargs x hx)
      · have := (List.mem_replicate.1 hx).2
        subst this
        intro v hv; cases hv
  refine wp_mono (h _ _ w hrel) fun e a' w' ⟨s', ρ', q, r', st⟩ => ?_
  have fin : (∃ v', resA T s' fn.results.toList = some v' ∧ ∀ ρ, v'.val ρ = v.val ρ) → a'.defers = [] ∧ ∃ u, (results fn a'.tmps).run P w' = .ok u w' ∧ next (a.put o.dst u) w' := by
    intro ⟨v', hres, hvv⟩
    have := resA_run hT r' (fn := fn) hres
    refine ⟨r'.defers, _, this.1, ?_⟩
    rw [hvv ρ', val_ok_any hv ρ' ρ]
    have st' : StepR (fun _ => False) (fun _ => 0) w (Dm s'.h) ρ' w' := by
      have e : Dm ([] : Heap) = fun _ => False := by funext i; simp [Dm, hget]
      rw [e] at st
      exact st
    have hk := hr.keep st'
    exact hnext ρ w' hk.2 hk.1 (AV.ok_mono (fun _ h => h.elim) hv)
  cases e with
  | normal => exact fin q
  | ret => exact fin q
  | exit j => exact q.elim
  | goto l => exact q.elim
  | panic ch => exact q.elim
  | outgrown => exact q.elim

/-- An index lies within: what an address asks. -/
def ix (i n : Nat) (q : Prop) : Prop := 0 ≤ Int.ofNat i ∧ Int.ofNat i < (n : Int) ∧ i < n ∧ q
theorem ix_of {i n : Nat} {q : Prop} (h : i < n) (k : q) : ix i n q := ⟨Int.natCast_nonneg _, by simp; exact h, h, k⟩
theorem ilt_t {i n : Nat} (h : i < n) : ilt (Int.ofNat i) (Int.ofNat n) = true := by rw [ilt_iff]; simp; exact h
theorem ilt_f {i n : Nat} (h : ¬ i < n) : ilt (Int.ofNat i) (Int.ofNat n) = false := by rw [← Bool.not_eq_true, ilt_iff]; simp; omega

/-! the first loop of a list of codes -/
def isLoop : Code → Bool
  | .block _ (.loop _) => true
  | _ => false
def loopId : Code → Nat
  | .block id _ => id
  | _ => 0
def loopOf : Code → Code
  | .block _ (.loop c) => c
  | _ => .skip
def hasL : List Code → Bool
  | [] => false
  | c :: r => match isLoop c with
    | true => true
    | false => hasL r
def preL : List Code → List Code
  | [] => []
  | c :: r => match isLoop c with
    | true => []
    | false => c :: preL r
def atL : List Code → Code
  | [] => .skip
  | c :: r => match isLoop c with
    | true => c
    | false => atL r
def postL : List Code → List Code
  | [] => []
  | c :: r => match isLoop c with
    | true => r
    | false => postL r
theorem loop_eq {c : Code} (h : isLoop c = true) : c = .block (loopId c) (.loop (loopOf c)) := by
  unfold isLoop at h
  split at h
  · rfl
  · cases h
theorem splitL : ∀ {l : List Code}, hasL l = true → l = preL l ++ .block (loopId (atL l)) (.loop (loopOf (atL l))) :: postL l
  | [], h => by cases h
  | c :: r, h => by
    simp only [hasL] at h
    cases hc : isLoop c
    · simp only [preL, atL, postL, hc]
      rw [hc] at h
      exact congrArg (c :: ·) (splitL (l := r) h)
    · simp only [preL, atL, postL, hc]
      rw [← loop_eq hc]; rfl

def StartE {ι : Type} (ks : List Nat) (n m : Nat) (V : ι → List AV) (H : ι → Heap) (Q : Exit → AS → Prop) : Exit → AS → Prop
  | .normal, s => LK ks n m (fun vs h => ∃ j, vs = V j ∧ h = H j) s
  | e, s => Q e s

theorem loopF {P : Program} {T : TT} {G : Ctx} {D : Nat → Prop} (hmx : P.follows .mixedOrders = true) (hT : TTOk P T) (hG : CtxOk P G) {l : List Code} (hl : hasL l = true) {Q : Exit → AS → Prop} {s0 : AS} {ι : Type} (ks : List Nat) (n m : Nat) (V : ι → List AV) (H : ι → Heap) (μ : ι → Nat) (E : ι → Prop)
    (hm : ∀ i, (H i).length = m) (hb : ∀ i, liveB (V i) (H i) = true) (hD : ∀ i j, D j → Dm (H i) j) (fuel : Nat) (hs : List Hint)
    (start : evS P T G fuel (preL l) (fun e s _ => StartE ks n m V H Q e s) s0 hs)
    (step : ∀ i junk, AWq P D (loopOf (atL l)) (RoundE (loopId (atL l)) ks n m V H μ i E Q) ⟨mkT ks (V i) n junk, H i⟩)
    (fin : ∀ j junk, E j → evS P T G fuel (postL l) (fun e s _ => Q e s) ⟨mkT ks (V j) n junk, H j⟩ []) :
    AWqS P D l Q s0 := by
  rw [splitL hl]
  refine loopS ks n m V H μ E hm hb hD ((evS_q hmx hT hG fuel hs start).mono fun e s q => ?_) step fun j junk e => evS_q hmx hT hG fuel [] (fin j junk e)
  cases e <;> exact q

theorem roundF {P : Program} {T : TT} {G : Ctx} {D : Nat → Prop} (hmx : P.follows .mixedOrders = true) (hT : TTOk P T) (hG : CtxOk P G) (fuel : Nat) {c : Code} {Q : Exit → AS → Prop} {s : AS} (hs : List Hint) (h : ev P T G fuel c (fun e s _ => Q e s) s hs) : AWq P D c Q s :=
  ev_q hmx hT hG fuel hs h
end Go.Rq

/- A loop in a block in a loop's body. -/
namespace Go.Rq
open Go

def isBlk : Code → Bool
  | .block _ _ => true
  | _ => false
def blkOf : Code → Code
  | .block _ c => c
  | _ => .skip
def hasB : List Code → Bool
  | [] => false
  | c :: r => match isBlk c with
    | true => true
    | false => hasB r
def preB : List Code → List Code
  | [] => []
  | c :: r => match isBlk c with
    | true => []
    | false => c :: preB r
def atB : List Code → Code
  | [] => .skip
  | c :: r => match isBlk c with
    | true => c
    | false => atB r
def postB : List Code → List Code
  | [] => []
  | c :: r => match isBlk c with
    | true => r
    | false => postB r
theorem blk_eq {c : Code} (h : isBlk c = true) : c = .block (loopId c) (blkOf c) := by
  unfold isBlk at h
  split at h
  · rfl
  · cases h
theorem splitB : ∀ {l : List Code}, hasB l = true → l = preB l ++ .block (loopId (atB l)) (blkOf (atB l)) :: postB l
  | [], h => by cases h
  | c :: r, h => by
    simp only [hasB] at h
    cases hc : isBlk c
    · simp only [preB, atB, postB, hc]
      rw [hc] at h
      exact congrArg (c :: ·) (splitB (l := r) h)
    · simp only [preB, atB, postB, hc]
      rw [← blk_eq hc]; rfl

/-- What comes behind the block: the rest of the list. -/
def PostE (P : Program) (T : TT) (G : Ctx) (fuel id : Nat) (post : List Code) (hs : List Hint) (R : Exit → AS → Prop) : Exit → AS → Prop
  | .normal, s => evS P T G fuel post (fun e s _ => R e s) s hs
  | .exit j, s => match Nat.beq j id with
    | true => evS P T G fuel post (fun e s _ => R e s) s hs
    | false => R (.exit j) s
  | e, s => R e s

/-- Ahead of the block, then ahead of its loop. -/
def BothE (P : Program) (T : TT) (G : Ctx) (fuel : Nat) (pre : List Code) (Q : Exit → AS → Prop) (R : Exit → AS → Prop) : Exit → AS → List Hint → Prop
  | .normal, s, hs => evS P T G fuel pre (fun e s _ => Q e s) s hs
  | e, s, _ => R e s

theorem nestF {P : Program} {T : TT} {G : Ctx} {D : Nat → Prop} (hmx : P.follows .mixedOrders = true) (hT : TTOk P T) (hG : CtxOk P G) {c : Code} {l lB : List Code} (hl : hasB l = true) (hlc : l = flatC c)
    (hlB : hasL lB = true) (hlBc : lB = flatC (blkOf (atB l))) {R : Exit → AS → Prop} {s0 : AS} {ι : Type} (ks : List Nat) (n m : Nat) (V : ι → List AV) (H : ι → Heap) (μ : ι → Nat) (E : ι → Prop)
    (hm : ∀ i, (H i).length = m) (hb : ∀ i, liveB (V i) (H i) = true) (hD : ∀ i j, D j → Dm (H i) j) (fuel : Nat) (hs hs2 hs3 : List Hint)
    (start : evS P T G fuel (preB l) (fun e s hs => BothE P T G fuel (preL lB) (StartE ks n m V H (PostE P T G fuel (loopId (atB l)) (postB l) hs2 R)) R e s hs) s0 hs)
    (step : ∀ i junk, AWq P D (loopOf (atL lB)) (RoundE (loopId (atL lB)) ks n m V H μ i E (PostE P T G fuel (loopId (atB l)) (postB l) hs2 R)) ⟨mkT ks (V i) n junk, H i⟩)
    (fin : ∀ j junk, E j → evS P T G fuel (postL lB) (fun e s _ => PostE P T G fuel (loopId (atB l)) (postB l) hs2 R e s) ⟨mkT ks (V j) n junk, H j⟩ hs3) :
    AWq P D c R s0 := by
  refine AWq.of_flat c ?_
  rw [← hlc, splitB hl]
  refine AWqS.app ((evS_sound hmx hT hG start).mono fun e s ⟨hs', q⟩ => ?_)
  have post : ∀ s, evS P T G fuel (postB l) (fun e s _ => R e s) s hs2 → AWqS P D (postB l) R s := fun s h => evS_q hmx hT hG fuel hs2 h
  cases e with
  | normal =>
    show AWq P D (.block _ _) _ s
    refine AWq.block (AWq.of_flat _ ?_)
    rw [← hlBc, splitL hlB]
    have q : evS P T G fuel (preL lB) (fun e s _ => StartE ks n m V H (PostE P T G fuel (loopId (atB l)) (postB l) hs2 R) e s) s hs' := q
    have main : AWqS P D (preL lB ++ .block (loopId (atL lB)) (.loop (loopOf (atL lB))) :: postL lB) (PostE P T G fuel (loopId (atB l)) (postB l) hs2 R) s :=
      loopS ks n m V H μ E hm hb hD ((evS_q hmx hT hG fuel hs' q).mono fun e s q => by cases e <;> exact q) step fun j junk e => evS_q hmx hT hG fuel hs3 (fin j junk e)
    refine main.mono fun e s q => ?_
    cases e with
    | normal => exact post s q
    | exit j =>
      simp only [PostE] at q
      split at q
      · rename_i hj
        have : j = loopId (atB l) := Nat.beq_eq.mp hj
        simp only [this, if_true]
        exact post s q
      · rename_i hj
        have : j ≠ loopId (atB l) := fun e => by rw [← Nat.beq_eq, hj] at e; cases e
        simp only [this, if_false]
        exact q
    | _ => exact q
  | _ => exact q
end Go.Rq

/- A function's run as the kit says it. -/
namespace Go.Rq
open Go

structure StepW (w w' : World) : Prop where
  os : w'.os = w.os
  output : w'.output = w.output
  size : w.heap.size ≤ w'.heap.size
  keep : ∀ b, b < w.heap.size → w'.heap[b]? = w.heap[b]?
  frz : ∀ a, w'.frozen? a = w.frozen? a
theorem StepW.grown {w w' : World} (h : StepW w w') : Go.RowKit.Grown w w' := by
  refine ⟨⟨h.os, h.output, fun i hi => ?_⟩, h.frz, h.size⟩
  rw [h.keep i hi]
  cases w.heap[i]? with
  | none => trivial
  | some b => cases b <;> simp

theorem pure_calls {P : Program} {T : TT} (hT : TTOk P T) {f : FuncId} {fn : Func} (hf : P.funcs[f]? = some fn) (hb : fn.body = some (bodyOf fn))
    {args : List AV} (hargs : args.all vokB = true) {v : AV} (hv : vokB v = true)
    (h : AWqS P (fun _ => False) (flatC (bodyOf fn)) (FEnd' T fn v) ⟨frame0 args fn.ntmps, []⟩) (w : World) :
    Calls P f (args.map (AV.val fun _ => 0)).toArray w (fun e w' => e = .returned (v.val fun _ => 0) ∧ StepW w w') := by
  have hargs : ∀ x ∈ args, x.ok fun _ => False := fun x hx => vok_of (List.all_eq_true.1 hargs x hx)
  have hv : v.ok fun _ => False := vok_of hv
  have h : AWp P (bodyOf fn) (FEnd' T fn v) ⟨frame0 args fn.ntmps, []⟩ := by
    intro ρ a w r
    have e : Dm ([] : Heap) = fun _ => False := by funext i; simp [Dm, hget]
    have := AWq.of_flat _ h ρ w ρ a w r (by rw [e]; exact StepR.refl _ _ _)
    rw [e]
    exact this
  refine calls_of_wp hf hb ?_
  have hrel : Rel (fun _ => 0) ⟨frame0 args fn.ntmps, []⟩ { tmps := (args.map (AV.val fun _ => 0)).toArray ++ Array.replicate (fn.ntmps - (args.map (AV.val fun _ => 0)).toArray.size) undef, defers := [] } w := by
    refine ⟨?_, rfl, fun x hx => ?_, RelH.nil _ _⟩
    · apply Array.ext'
      simp [frame0, undefA, AV.val, undef]
    · unfold frame0 at hx
      rcases List.mem_append.1 hx with hx | hx
      · exact AV.ok_mono (fun _ h => h.elim) (hargs x hx)
      · have := (List.mem_replicate.1 hx).2
        subst this
        intro v hv; cases hv
  refine wp_mono (h _ _ w hrel) fun e a' w' ⟨s', ρ', q, r', st⟩ => ?_
  have fin : (∃ v', resA T s' fn.results.toList = some v' ∧ ∀ ρ, v'.val ρ = v.val ρ) → a'.defers = [] ∧ ∃ u, (results fn a'.tmps).run P w' = .ok u w' ∧ (Ending.returned u = .returned (v.val fun _ => 0) ∧ StepW w w') := by
    intro ⟨v', hres, hvv⟩
    have := resA_run hT r' (fn := fn) hres
    refine ⟨r'.defers, _, this.1, ?_, ⟨st.os, st.output, st.size, fun b hb => st.keep b hb (fun i hi => ?_), st.frz⟩⟩
    · rw [hvv ρ', val_ok_any hv ρ' fun _ => 0]
    · obtain ⟨c, hc⟩ := hi; simp [hget] at hc
  cases e with
  | normal => exact fin q
  | ret => exact fin q
  | exit j => exact q.elim
  | goto l => exact q.elim
  | panic ch => exact q.elim
  | outgrown => exact q.elim
end Go.Rq

/- Loops at whose head the blocks are named anew; functions that are handed blocks, and hand blocks back. -/
namespace Go.Rq
open Go

def idxN (x : Nat) : List Nat → Nat → Nat
  | [], k => k + 1000000
  | y :: r, k => match Nat.beq x y with
    | true => k
    | false => idxN x r (k + 1)
def nthN : List Nat → Nat → Nat
  | [], _ => 0
  | a :: _, 0 => a
  | _ :: r, i + 1 => nthN r i
theorem idxN_spec {x : Nat} : ∀ {m : List Nat} {k : Nat}, idxN x m k < k + m.length → k ≤ idxN x m k ∧ nthN m (idxN x m k - k) = x
  | [], k, h => by exfalso; simp [idxN] at h; omega
  | y :: r, k, h => by
    simp only [idxN] at h ⊢
    cases hb : Nat.beq x y
    · rw [hb] at h
      simp only at h ⊢
      have := idxN_spec (x := x) (m := r) (k := k + 1) (by simp at h; omega)
      refine ⟨by omega, ?_⟩
      rw [show idxN x r (k + 1) - k = (idxN x r (k + 1) - (k + 1)) + 1 by omega]
      exact this.2
    · have : x = y := by rw [← Nat.beq_eq]; exact hb
      simp only [Nat.le_refl, Nat.sub_self, nthN, true_and]
      exact this.symm

/-- The slot's name among m. -/
def bk (m : List Nat) (b : Nat) : Nat := idxN b m 0
theorem bk_spec {m : List Nat} {b : Nat} (h : bk m b < m.length) : nthN m (bk m b) = b := by
  have := idxN_spec (x := b) (m := m) (k := 0) (by simpa [bk] using h)
  simpa [bk] using this.2

def bkSc (m : List Nat) : Sc → Sc
  | .pt b o => .pt (bk m b) o
  | .sl b o l c => .sl (bk m b) o l c
  | .so b n => match Nat.beq (bk m (b + 1)) (bk m b + 1) with
    | true => .so (bk m b) n
    | false => .so 1000000 n
  | .fn f caps => .fn f (caps.map (bk m))
  | s => s
def bkCell (m : List Nat) : Cell → Cell
  | .ws k n f => .ws k n f
  | .one s => .one (bkSc m s)
def bkCells (m : List Nat) : List Cell → List Cell
  | [] => []
  | c :: r => bkCell m c :: bkCells m r
def bkV1 (m : List Nat) : V1 → V1
  | .sc s => .sc (bkSc m s)
  | .agg cs => .agg (bkCells m cs)
def bkV1s (m : List Nat) : List V1 → List V1
  | [] => []
  | v :: r => bkV1 m v :: bkV1s m r
def bkAV (m : List Nat) : AV → AV
  | .v1 v => .v1 (bkV1 m v)
  | .tup l => .tup (bkV1s m l)
  | .raw v => .raw v
def bkAVs (m : List Nat) : List AV → List AV
  | [] => []
  | v :: r => bkAV m v :: bkAVs m r
def bkBlk (m : List Nat) (b : Blk) : Blk := ⟨b.ty, bkCells m b.cells, b.lo, b.hi⟩

def rnm (m : List Nat) (ρ : Ren) : Ren := fun i => ρ (nthN m i)

section
variable {m : List Nat} {D : Nat → Prop} (hD : ∀ i, D i → i < m.length ∧ m.length < 1000000) {ρ : Ren}
include hD
theorem bkSc_val {s : Sc} (h : (bkSc m s).ok D) : (bkSc m s).val (rnm m ρ) = s.val ρ := by
  cases s with
  | pt b o => simp only [bkSc, Sc.ok] at h; simp only [bkSc, Sc.val, rnm, bk_spec (hD _ h).1]
  | sl b o l c => simp only [bkSc, Sc.ok] at h; simp only [bkSc, Sc.val, rnm, bk_spec (hD _ h).1]
  | so b n =>
    simp only [bkSc] at h ⊢
    cases hb : Nat.beq (bk m (b + 1)) (bk m b + 1)
    · rw [hb] at h
      simp only [Sc.ok] at h
      have h1 := hD _ h.1
      omega
    · rw [hb] at h
      simp only [Sc.ok] at h
      rw [Nat.beq_eq] at hb
      simp only [Sc.val, rnm, bk_spec (hD _ h.1).1]
      have h2 := (hD _ h.2).1
      rw [← hb] at h2 ⊢
      rw [bk_spec h2]
  | fn f caps =>
    simp only [bkSc, Sc.ok] at h
    simp only [bkSc, Sc.val, List.map_map]
    congr 2
    refine List.map_congr_left fun c hc => ?_
    simp only [Function.comp, rnm]
    rw [bk_spec (hD _ (h _ (List.mem_map.2 ⟨c, hc, rfl⟩))).1]
  | _ => rfl
theorem bkCell_vals {c : Cell} (h : (bkCell m c).ok D) : (bkCell m c).vals (rnm m ρ) = c.vals ρ := by
  cases c with
  | ws k n f => rfl
  | one s => simp only [bkCell, Cell.ok] at h; simp only [bkCell, Cell.vals, bkSc_val hD h]
theorem bkCells_vals : ∀ {cs : List Cell}, cok D (bkCells m cs) → cvals (rnm m ρ) (bkCells m cs) = cvals ρ cs
  | [], _ => rfl
  | c :: r, h => by
    simp only [bkCells, cvals]
    rw [bkCell_vals hD (h _ (by simp [bkCells])), bkCells_vals (cs := r) fun d hd => h d (by simp [bkCells, hd])]
theorem bkV1_val {v : V1} (h : (bkV1 m v).ok D) : (bkV1 m v).val (rnm m ρ) = v.val ρ := by
  cases v with
  | sc s => exact bkSc_val hD h
  | agg cs => simp only [bkV1, V1.val]; rw [bkCells_vals hD h]
theorem bkAV_val {v : AV} (h : (bkAV m v).ok D) : (bkAV m v).val (rnm m ρ) = v.val ρ := by
  cases v with
  | v1 v => exact bkV1_val hD h
  | tup l =>
    simp only [bkAV, AV.ok] at h
    have key : ∀ l : List V1, (∀ v ∈ bkV1s m l, v.ok D) → (bkV1s m l).map (V1.val (rnm m ρ)) = l.map (V1.val ρ) := by
      intro l
      induction l with
      | nil => intro _; rfl
      | cons v r ih =>
        intro h
        simp only [bkV1s, List.map_cons]
        rw [bkV1_val hD (h _ (by simp [bkV1s])), ih fun u hu => h u (by simp [bkV1s, hu])]
    simp only [bkAV, AV.val]
    rw [key l h]
  | raw v => rfl
end
theorem bkCells_len (m : List Nat) : ∀ cs : List Cell, clen (bkCells m cs) = clen cs
  | [] => rfl
  | c :: r => by
    simp only [bkCells]
    rw [clen_cons, clen_cons, bkCells_len m r]
    cases c <;> rfl

def pickB (m : List Nat) : Option Blk → Option Blk
  | none => none
  | some b => some (bkBlk m b)
def pickH (m : List Nat) (h : Heap) : List Nat → Heap
  | [] => []
  | i :: r => pickB m (hget h i) :: pickH m h r
theorem hget_pickH {m : List Nat} {h : Heap} {b' : Blk} : ∀ {l : List Nat} {i : Nat}, hget (pickH m h l) i = some b' → i < l.length ∧ ∃ b, hget h (nthN l i) = some b ∧ b' = bkBlk m b
  | [], i, e => by simp [pickH, hget] at e
  | j :: r, 0, e => by
    simp only [pickH, hget] at e
    refine ⟨by simp, ?_⟩
    simp only [nthN]
    cases hh : hget h j with
    | none => rw [hh] at e; cases e
    | some b => rw [hh] at e; simp only [pickB, Option.some.injEq] at e; exact ⟨b, rfl, e.symm⟩
  | j :: r, i + 1, e => by
    simp only [pickH, hget] at e
    have := hget_pickH (l := r) e
    exact ⟨by simp; omega, this.2⟩
theorem length_pickH (m : List Nat) (h : Heap) : ∀ l, (pickH m h l).length = l.length
  | [] => rfl
  | _ :: r => by simp [pickH, length_pickH m h r]

def notIn (x : Nat) : List Nat → Bool
  | [] => true
  | y :: r => match Nat.beq x y with
    | true => false
    | false => notIn x r
def nodupB : List Nat → Bool
  | [] => true
  | x :: r => match notIn x r with
    | true => nodupB r
    | false => false
theorem notIn_spec {x : Nat} : ∀ {l : List Nat}, notIn x l = true → ∀ i, i < l.length → nthN l i ≠ x
  | [], _, i, hi => by simp at hi
  | y :: r, h, i, hi => by
    simp only [notIn] at h
    cases hb : Nat.beq x y
    · rw [hb] at h
      cases i with
      | zero => simp only [nthN]; intro e; subst e; simp at hb
      | succ i => exact notIn_spec (l := r) h i (by simpa using hi)
    · rw [hb] at h; cases h
theorem nodupB_spec : ∀ {l : List Nat}, nodupB l = true → ∀ i j, i < l.length → j < l.length → nthN l i = nthN l j → i = j
  | [], _, i, _, hi, _, _ => by simp at hi
  | x :: r, h, i, j, hi, hj, e => by
    simp only [nodupB] at h
    cases hb : notIn x r
    · rw [hb] at h; cases h
    · rw [hb] at h
      cases i with
      | zero =>
        cases j with
        | zero => rfl
        | succ j => exact absurd e.symm (notIn_spec hb j (by simpa using hj))
      | succ i =>
        cases j with
        | zero => exact absurd e (notIn_spec hb i (by simpa using hi))
        | succ j => have := nodupB_spec (l := r) h i j (by simpa using hi) (by simpa using hj) e; omega

/-- Behind an own block's slot comes that of its room. -/
def nextB : List Nat → Heap → Bool
  | a :: b :: r, some k :: h => match k.lo with
    | 1 => match Nat.beq b (a + 1) with
      | true => nextB (b :: r) h
      | false => false
    | _ => nextB (b :: r) h
  | [_], some k :: _ => match k.lo with
    | 1 => false
    | _ => true
  | _ :: r, none :: h => nextB r h
  | _, _ => true
theorem nextB_spec : ∀ {l : List Nat} {h : Heap}, nextB l h = true → ∀ i b, i < l.length → hget h i = some b → b.lo = 1 → nthN l (i + 1) = nthN l i + 1
  | [], _, _, i, b, hi, _, _ => by simp at hi
  | _ :: _, [], _, i, b, _, hb, _ => by simp [hget] at hb
  | [a], none :: h, hn, i, b, hi, hb, _ => by
    have : i = 0 := by simpa using hi
    subst this
    simp [hget] at hb
  | [a], some k :: h, hn, i, b, hi, hb, h1 => by
    have : i = 0 := by simpa using hi
    subst this
    simp only [hget, Option.some.injEq] at hb
    subst hb
    simp only [nextB, h1] at hn
    cases hn
  | a :: b' :: r, none :: h, hn, i, b, hi, hb, h1 => by
    simp only [nextB] at hn
    cases i with
    | zero => simp [hget] at hb
    | succ i => exact nextB_spec (l := b' :: r) hn i b (by simpa using hi) (by simpa [hget] using hb) h1
  | a :: b' :: r, some k :: h, hn, i, b, hi, hb, h1 => by
    simp only [nextB] at hn
    have hrest : nextB (b' :: r) h = true ∧ (k.lo = 1 → b' = a + 1) := by
      split at hn
      · split at hn
        · rename_i e; exact ⟨hn, fun _ => by rw [← Nat.beq_eq]; exact e⟩
        · cases hn
      · rename_i e; exact ⟨hn, fun e' => absurd e' e⟩
    cases i with
    | zero =>
      simp only [hget, Option.some.injEq] at hb
      subst hb
      simp only [nthN]
      exact hrest.2 h1
    | succ i => exact nextB_spec (l := b' :: r) hrest.1 i b (by simpa using hi) (by simpa [hget] using hb) h1

def chkB (m : List Nat) (h : Heap) : Bool := nodupB m && (nextB m h && Nat.blt m.length 1000000)

/-- The slots ks hold vs, n slots in all; the blocks m are h, where they have their place in m as name. -/
structure LiveR (m : List Nat) (ks : List Nat) (vs : List AV) (n : Nat) (h : Heap) (s : AS) : Prop where
  len : s.t.length = n
  pick : bkAVs m (pickT s.t ks) = vs
  mem : pickH m s.h m = h
  chk : chkB m h = true

theorem lkT_bk (m : List Nat) : ∀ (ks : List Nat) (vs : List AV) (i : Nat), lkT ks (bkAVs m vs) i = (lkT ks vs i).map (bkAV m)
  | [], _, _ => rfl
  | _ :: _, [], _ => rfl
  | k :: ks, v :: vs, i => by
    simp only [bkAVs, lkT]
    split
    · rfl
    · exact lkT_bk m ks vs i

theorem Dm_lt {h : Heap} {i : Nat} (hi : Dm h i) : i < h.length := let ⟨_, hb⟩ := hi; hget_lt hb

theorem LiveR.rel {m ks : List Nat} {vs : List AV} {n : Nat} {h : Heap} {s : AS} (l : LiveR m ks vs n h s) (hb : liveB vs h = true) {ρ : Ren} {a : Act} {w : World} (r : Rel ρ s a w) :
    ∃ junk, Rel (rnm m ρ) ⟨mkT ks vs n junk, h⟩ a w ∧ ∀ i, Dm h i → Dm s.h (nthN m i) := by
  have hsub : ∀ i b, hget h i = some b → i < m.length ∧ ∃ b0, hget s.h (nthN m i) = some b0 ∧ b = bkBlk m b0 := fun i b hb => by
    rw [← l.mem] at hb; exact hget_pickH hb
  have hchk := l.chk
  unfold chkB at hchk
  simp only [Bool.and_eq_true] at hchk
  have hDm : ∀ i, Dm h i → i < m.length ∧ m.length < 1000000 := fun i ⟨b, hb⟩ => ⟨(hsub i b hb).1, by rw [← Nat.blt_eq]; exact hchk.2.2⟩
  unfold liveB at hb
  simp only [Bool.and_eq_true] at hb
  have hvok : ∀ u ∈ vs, u.ok (Dm h) := fun u hu => avB_spec (List.all_eq_true.1 hb.1 u hu)
  have hcells : ∀ i b b0, hget h i = some b → b = bkBlk m b0 → cvals (rnm m ρ) b.cells = cvals ρ b0.cells := fun i b b0 h1 h2 => by
    have := (heapB_spec hb.2 i b h1).1
    subst h2
    exact bkCells_vals hDm this
  refine ⟨fun i => (getT s.t i).val ρ, ⟨?_, r.defers, fun v hv => ?_, ⟨fun i b hg => (heapB_spec hb.2 i b hg).1, fun i b hg h0 => ?_, fun i b hg h1 => ?_, fun i b hg => (heapB_spec hb.2 i b hg).2.1, fun i j hi hj he => ?_, fun i b hg h3 => ?_, fun i j b hi hg h3 => ?_⟩⟩, fun i ⟨b, hg⟩ => ?_⟩
  · rw [r.tmps]
    have h0 := mkFrom_map ρ ks s.t (fun i => (getT s.t i).val ρ) (fun _ => rfl) n 0 (by rw [l.len]; omega)
    simp only [List.drop_zero] at h0
    rw [mkT, ← h0]
    congr 1
    have key : ∀ n i, (mkFrom ks (pickT s.t ks) (fun i => (getT s.t i).val ρ) i n).map (AV.val ρ) = (mkFrom ks vs (fun i => (getT s.t i).val ρ) i n).map (AV.val (rnm m ρ)) := by
      intro n
      induction n with
      | zero => intro i; rfl
      | succ n ih =>
        intro i
        simp only [mkFrom, List.map_cons, ih]
        congr 1
        have hl := lkT_bk m ks (pickT s.t ks) i
        rw [l.pick] at hl
        cases hk : lkT ks (pickT s.t ks) i with
        | none => rw [hk] at hl; rw [hl]; rfl
        | some u =>
          rw [hk] at hl
          rw [hl]
          exact (bkAV_val hDm (hvok _ (lkT_mem hl))).symm
    exact key n 0
  · have key : ∀ n i, ∀ v ∈ mkFrom ks vs (fun i => (getT s.t i).val ρ) i n, v.ok (Dm h) := by
      intro n
      induction n with
      | zero => intro i v hv; cases hv
      | succ n ih =>
        intro i v hv
        simp only [mkFrom] at hv
        rcases List.mem_cons.1 hv with rfl | hv
        · cases hl : lkT ks vs i with
          | none => trivial
          | some u => exact hvok u (lkT_mem hl)
        · exact ih _ v hv
    exact key _ _ v hv
  · obtain ⟨h1, b0, h2, h3⟩ := hsub i b hg
    have h4 := r.mem.row _ b0 h2 (by subst h3; exact h0)
    rw [hcells i b b0 hg h3]
    subst h3
    exact h4
  · obtain ⟨h2, b0, h3, h4⟩ := hsub i b hg
    have hc := hcells i b b0 hg h4
    obtain ⟨⟨cur, g1, g2, g3, g4, g5, g6⟩, g7⟩ := r.mem.own _ b0 h3 (by subst h4; exact h1)
    have hn := nextB_spec hchk.2.1 i b h2 hg h1
    have hdn := (heapB_spec hb.2 i b hg).2.2 h1
    rw [Nat.zero_add] at hdn
    refine ⟨⟨cur, ?_, ?_, ?_, ?_, ?_, ?_⟩, hdn⟩
    · subst h4; exact g1
    · subst h4; simp only [rnm, hn]; exact g2
    · simp only [rnm, hn]; exact g3
    · simp only [rnm, hn]; exact g4
    · subst h4; simp only [bkBlk, bkCells_len]; exact g5
    · rw [hc]; subst h4; simp only [bkBlk, bkCells_len]; exact g6
  · obtain ⟨b, hg, hl⟩ := hi
    obtain ⟨c, hc, hl'⟩ := hj
    obtain ⟨h1, b0, h2, h3⟩ := hsub i b hg
    obtain ⟨k1, c0, k2, k3⟩ := hsub j c hc
    refine nodupB_spec hchk.1 i j h1 k1 (r.mem.inj _ _ ⟨b0, h2, ?_⟩ ⟨c0, k2, ?_⟩ he)
    · subst h3; exact hl
    · subst k3; exact hl'
  · obtain ⟨h1, b0, h2, h4⟩ := hsub i b hg
    obtain ⟨arr, fr, w1, w2, w3⟩ := r.mem.win _ b0 h2 (by subst h4; exact h3)
    have hc := hcells i b b0 hg h4
    exact ⟨arr, fr, by subst h4; exact w1, by rw [hc]; exact w2, by rw [hc]; subst h4; exact w3⟩
  · obtain ⟨c, hc, hl⟩ := hi
    obtain ⟨h1, b0, h2, h4⟩ := hsub j b hg
    obtain ⟨k1, c0, k2, k3⟩ := hsub i c hc
    exact r.mem.sep _ _ b0 ⟨c0, k2, by subst k3; exact hl⟩ h2 (by subst h4; exact h3)
  · obtain ⟨_, b0, h2, _⟩ := hsub i b hg
    exact ⟨b0, h2⟩

theorem StepR.rename {D : Nat → Prop} {ρ0 ρ : Ren} {w0 w : World} {h h' : Heap} {m : List Nat} (st : StepR D ρ0 w0 (Dm h) ρ w) (hD : ∀ i, D i → Dm h' i) (hfix : ∀ i, D i → nthN m i = i) (hs : ∀ i, Dm h' i → Dm h (nthN m i)) :
    StepR D ρ0 w0 (Dm h') (rnm m ρ) w where
  agree i hi := by simp only [rnm, hfix i hi]; exact st.agree i hi
  sub := hD
  size := st.size
  os := st.os
  tape := st.tape
  output := st.output
  keep := st.keep
  fresh i h1 h2 := by
    simp only [rnm]
    by_cases h3 : D (nthN m i)
    · exact .inr ⟨_, h3, st.agree _ h3⟩
    · exact st.fresh _ (hs i h1) h3
  frz := st.frz

theorem AWqS.of_liveR {P : Program} {D : Nat → Prop} {l : List Code} {Q : Exit → AS → Prop} {m ks : List Nat} {vs : List AV} {n : Nat} {h : Heap} {s : AS} (hl : LiveR m ks vs n h s) (hb : liveB vs h = true) (hD : ∀ i, D i → Dm h i) (hfix : ∀ i, D i → nthN m i = i)
    (k : ∀ junk, AWqS P D l Q ⟨mkT ks vs n junk, h⟩) : AWqS P D l Q s := by
  cases l with
  | nil =>
    intro ρ0 w0 ρ a w r st
    obtain ⟨junk, r', hsub⟩ := hl.rel hb r
    exact k junk ρ0 w0 (rnm m ρ) a w r' (st.rename hD hfix hsub)
  | cons c l =>
    intro ρ0 w0 ρ a w r st
    obtain ⟨junk, r', hsub⟩ := hl.rel hb r
    exact k junk ρ0 w0 (rnm m ρ) a w r' (st.rename hD hfix hsub)

theorem AWq.of_liveR {P : Program} {D : Nat → Prop} {c : Code} {Q : Exit → AS → Prop} {m ks : List Nat} {vs : List AV} {n : Nat} {h : Heap} {s : AS} (hl : LiveR m ks vs n h s) (hb : liveB vs h = true) (hD : ∀ i, D i → Dm h i) (hfix : ∀ i, D i → nthN m i = i)
    (k : ∀ junk, AWq P D c Q ⟨mkT ks vs n junk, h⟩) : AWq P D c Q s := by
  intro ρ0 w0 ρ a w r st
  obtain ⟨junk, r', hsub⟩ := hl.rel hb r
  exact k junk ρ0 w0 (rnm m ρ) a w r' (st.rename hD hfix hsub)

/-- A loop in its block, by its live slots, its blocks named anew at the head of each round. -/
theorem AWq.liveLoopR {P : Program} {D : Nat → Prop} {id : Nat} {c : Code} {Q : Exit → AS → Prop} {ι : Type} (ks : List Nat) (n : Nat) (V : ι → List AV) (H : ι → Heap) (μ : ι → Nat) (hb : ∀ i, liveB (V i) (H i) = true) (hD : ∀ i j, D j → Dm (H i) j)
    (step : ∀ i junk, AWq P D c (fun e s' => match e with
      | .normal => ∃ j, μ j < μ i ∧ ∃ m, (∀ i, D i → nthN m i = i) ∧ LiveR m ks (V j) n (H j) s'
      | .exit b => if b = id then Q .normal s' else Q (.exit b) s'
      | e => Q e s') ⟨mkT ks (V i) n junk, H i⟩) (i : ι) {s : AS} (hs : ∃ m, (∀ i, D i → nthN m i = i) ∧ LiveR m ks (V i) n (H i) s) : AWq P D (.block id (.loop c)) Q s := by
  refine AWq.block (AWq.loop (fun i s => ∃ m, (∀ i, D i → nthN m i = i) ∧ LiveR m ks (V i) n (H i) s) μ (fun i s hs => ?_) i hs)
  obtain ⟨m, hf, hl⟩ := hs
  refine AWq.of_liveR hl (hb i) (hD i) hf fun junk => (step i junk).mono fun e s' q => ?_
  cases e <;> exact q

/-- The live slots and the blocks m of a state, as KK says. -/
def LKR (m : List Nat) (ks : List Nat) (n : Nat) (KK : List AV → Heap → Prop) (s : AS) : Prop :=
  Nat.beq s.t.length n = true ∧ chkB m (pickH m s.h m) = true ∧ KK (bkAVs m (pickT s.t ks)) (pickH m s.h m)
theorem LKR.live {m ks : List Nat} {n : Nat} {KK : List AV → Heap → Prop} {s : AS} (h : LKR m ks n KK s) {vs : List AV} {g : Heap} (hv : bkAVs m (pickT s.t ks) = vs) (hg : pickH m s.h m = g) : LiveR m ks vs n g s :=
  ⟨Nat.beq_eq.mp h.1, hv, hg, by rw [← hg]; exact h.2.1⟩

def RoundR {ι : Type} (id : Nat) (m me ks : List Nat) (n : Nat) (V : ι → List AV) (H : ι → Heap) (μ : ι → Nat) (i : ι) (E : ι → Prop) (Q : Exit → AS → Prop) : Exit → AS → Prop
  | .normal, s => LKR m ks n (fun vs h => ∃ j, μ j < μ i ∧ vs = V j ∧ h = H j) s
  | .exit b, s => match Nat.beq b id with
    | true => LKR me ks n (fun vs h => ∃ j, E j ∧ vs = V j ∧ h = H j) s
    | false => Q (.exit b) s
  | e, s => Q e s
def StartR {ι : Type} (m ks : List Nat) (n : Nat) (V : ι → List AV) (H : ι → Heap) (Q : Exit → AS → Prop) : Exit → AS → Prop
  | .normal, s => LKR m ks n (fun vs h => ∃ j, vs = V j ∧ h = H j) s
  | e, s => Q e s

/-- ms: the names ahead of the loop; m: at the end of a round; me: where the loop is left. -/
theorem loopSR {P : Program} {D : Nat → Prop} {pre post : List Code} {id : Nat} {c : Code} {Q : Exit → AS → Prop} {s0 : AS} {ι : Type} (ms m me ks : List Nat) (n : Nat) (V : ι → List AV) (H : ι → Heap) (μ : ι → Nat) (E : ι → Prop)
    (hb : ∀ i, liveB (V i) (H i) = true) (hD : ∀ i j, D j → Dm (H i) j) (hf : ∀ i, D i → nthN ms i = i ∧ nthN m i = i ∧ nthN me i = i)
    (start : AWqS P D pre (StartR ms ks n V H Q) s0)
    (step : ∀ i junk, AWq P D c (RoundR id m me ks n V H μ i E Q) ⟨mkT ks (V i) n junk, H i⟩)
    (fin : ∀ j junk, E j → AWqS P D post Q ⟨mkT ks (V j) n junk, H j⟩) :
    AWqS P D (pre ++ .block id (.loop c) :: post) Q s0 := by
  refine AWqS.app (start.mono fun e s q => ?_)
  cases e with
  | normal =>
    have q : LKR ms ks n (fun vs h => ∃ j, vs = V j ∧ h = H j) s := q
    obtain ⟨j, hv, hg⟩ := q.2.2
    have hl : LiveR ms ks (V j) n (H j) s := q.live hv hg
    show AWqS P D (.block id (.loop c) :: post) Q s
    refine AWq.liveLoopR (Q := fun e s' => match e with
      | .normal => AWqS P D post Q s'
      | e => Q e s') ks n V H μ hb hD (fun i junk => (step i junk).mono fun e s' q => ?_) j ⟨ms, fun i hi => (hf i hi).1, hl⟩
    cases e with
    | normal =>
      have q : LKR m ks n (fun vs h => ∃ k, μ k < μ _ ∧ vs = V k ∧ h = H k) s' := q
      obtain ⟨k, hk, hv, hg⟩ := q.2.2
      exact ⟨k, hk, m, fun i hi => (hf i hi).2.1, q.live hv hg⟩
    | exit b =>
      simp only [RoundR] at q
      split at q
      · rename_i hbe
        have : b = id := Nat.beq_eq.mp hbe
        simp only [this, if_true]
        obtain ⟨k, hk, hv, hg⟩ := q.2.2
        exact AWqS.of_liveR (q.live hv hg) (hb k) (hD k) (fun i hi => (hf i hi).2.2) fun junk => fin k junk hk
      · rename_i hbe
        have : b ≠ id := fun e => by rw [← Nat.beq_eq, hbe] at e; cases e
        simp only [this, if_false]
        exact q
    | _ => exact q
  | _ => exact q

theorem loopR {P : Program} {T : TT} {G : Ctx} {D : Nat → Prop} (hmx : P.follows .mixedOrders = true) (hT : TTOk P T) (hG : CtxOk P G) {l : List Code} (hl : hasL l = true) {Q : Exit → AS → Prop} {s0 : AS} {ι : Type} (ms m me ks : List Nat) (n : Nat) (V : ι → List AV) (H : ι → Heap) (μ : ι → Nat) (E : ι → Prop)
    (hb : ∀ i, liveB (V i) (H i) = true) (hD : ∀ i j, D j → Dm (H i) j) (hf : ∀ i, D i → nthN ms i = i ∧ nthN m i = i ∧ nthN me i = i) (fuel : Nat) (hs : List Hint)
    (start : evS P T G fuel (preL l) (fun e s _ => StartR ms ks n V H Q e s) s0 hs)
    (step : ∀ i junk, AWq P D (loopOf (atL l)) (RoundR (loopId (atL l)) m me ks n V H μ i E Q) ⟨mkT ks (V i) n junk, H i⟩)
    (fin : ∀ j junk, E j → AWqS P D (postL l) Q ⟨mkT ks (V j) n junk, H j⟩) :
    AWqS P D l Q s0 := by
  rw [splitL hl]
  exact loopSR ms m me ks n V H μ E hb hD hf ((evS_q hmx hT hG fuel hs start).mono fun e s q => q) step fin
end Go.Rq

/- The contracts of the functions of words, off their runs: adding, subtracting, comparing. -/
namespace Go.Proofs.Ytnjocbcjejpklaa
open Go.Rq Go
set_option maxRecDepth 100000

theorem okAdd64 : (CallC.pure cAdd64).Ok Try.prog 80 := add64_ok Try.func80 (by kernel_rfl) (by kernel_rfl) (by kernel_rfl) (by kernel_rfl)
theorem okSub64 : (CallC.pure cSub64).Ok Try.prog 82 := sub64_ok Try.func82 (by kernel_rfl) (by kernel_rfl) (by kernel_rfl) (by kernel_rfl)

def GA : Ctx := fun f => bif Nat.beq f 80 then some (.pure cAdd64) else bif Nat.beq f 82 then some (.pure cSub64) else none
theorem GA_ok : CtxOk Try.prog GA := by
  intro f c h
  unfold GA at h
  cases h1 : Nat.beq f 80
  · rw [h1] at h
    cases h2 : Nat.beq f 82
    · rw [h2] at h; cases h
    · rw [h2] at h; cases h; rw [Nat.beq_eq] at h2; subst h2; exact okSub64
  · rw [h1] at h; cases h; rw [Nat.beq_eq] at h1; subst h1; exact okAdd64

/-! Of -/
def cOf : List AV → Option (List Prop × AV)
  | [.v1 (.sc (.w .u64 n))] => some ([], numA (n % W))
  | _ => none
theorem of_nv (n : Nat) : nv (upd (fun _ => 0) 0 n) = (n % W) % R := by
  have : n % W < R := Nat.lt_trans (Nat.mod_lt _ (by decide)) (by decide)
  rw [Nat.mod_eq_of_lt this]
  unfold nv
  rw [upd_same, upd_ne _ _ (by decide), upd_ne _ _ (by decide), upd_ne _ _ (by decide), upd_ne _ _ (by decide), upd_ne _ _ (by decide)]
  simp
theorem okOf : (CallC.pure cOf).Ok Try.prog 15 := by
  intro args pre v h _
  unfold cOf at h
  split at h
  · rename_i n
    cases h
    intro h
    refine CallOk.congr (v := .v1 (.agg [.ws .u64 6 (upd (fun _ => 0) 0 n)])) (pure_fn mixed tt_ok GA_ok Try.func15 (by kernel_rfl) (by kernel_rfl) (by kernel_rfl) (by kernel_rfl) 50 [] ?_ h) (fun ρ => numA_val (of_nv n) ρ) (by kernel_rfl)
    exact same (p := some (AV.v1 (.agg [.ws .u64 6 (upd (fun _ => 0) 0 n)])) = some (AV.v1 (.agg [.ws .u64 6 (upd (fun _ => 0) 0 n)]))) rfl (by kernel_rfl)
  · cases h

/-! Add, Sub -/
def cAdd : List AV → Option (List Prop × AV)
  | [.v1 (.agg [.ws .u64 6 a]), .v1 (.agg [.ws .u64 6 b])] => some ([], .tup [numV ((nv a + nv b) % R), .sc (.bo (Nat.ble R (nv a + nv b)))])
  | _ => none
def cSub : List AV → Option (List Prop × AV)
  | [.v1 (.agg [.ws .u64 6 a]), .v1 (.agg [.ws .u64 6 b])] => some ([], .tup [numV ((nv a + R - nv b) % R), .sc (.bo (Nat.blt (nv a) (nv b)))])
  | _ => none
def vAdd0 (a b : Nat → Nat) : AV := .tup [.agg [.ws .u64 6 (addO a b 6)], .sc (.bo (Nat.beq (addC a b 6 % W) (1 % W)))]
def vSub0 (a b : Nat → Nat) : AV := .tup [.agg [.ws .u64 6 (subO a b 6)], .sc (.bo (Nat.beq (subC a b 6 % W) (1 % W)))]
theorem vAdd_val (a b : Nat → Nat) (ρ : Ren) : (vAdd0 a b).val ρ = (AV.tup [numV ((nv a + nv b) % R), .sc (.bo (Nat.ble R (nv a + nv b)))]).val ρ := by
  simp only [vAdd0, AV.val, List.map_cons, List.map_nil]
  rw [numV_val (n := (nv a + nv b) % R) (by rw [(add_sum a b).1, Nat.mod_mod]) ρ, (add_sum a b).2]
theorem vSub_val (a b : Nat → Nat) (ρ : Ren) : (vSub0 a b).val ρ = (AV.tup [numV ((nv a + R - nv b) % R), .sc (.bo (Nat.blt (nv a) (nv b)))]).val ρ := by
  simp only [vSub0, AV.val, List.map_cons, List.map_nil]
  rw [numV_val (n := (nv a + R - nv b) % R) (by rw [(sub_diff a b).1, Nat.mod_mod]) ρ, (sub_diff a b).2]

/-! Compare -/
def cCmp : List AV → Option (List Prop × AV)
  | [.v1 (.agg [.ws .u64 6 a]), .v1 (.agg [.ws .u64 6 b])] => some ([], .v1 (.sc (.it (cmpI (nv a) (nv b)))))
  | _ => none
theorem okCmp : (CallC.pure cCmp).Ok Try.prog 78 := by
  intro args pre v h _
  unfold cCmp at h
  split at h
  · rename_i a b
    cases h
    refine pure_fn mixed tt_ok GA_ok Try.func78 (by kernel_rfl) (by kernel_rfl) (by kernel_rfl) (by kernel_rfl) 100 [] ?_
    refine same (p := cmpP a b (fun z => some (AV.v1 (.sc (.it z))) = some (AV.v1 (.sc (.it (cmpI (nv a) (nv b)))))) 6) (cmpP_of a b _ 6 (by rw [← nv_nvn, ← nv_nvn])) (by kernel_rfl)
  · cases h
end Go.Proofs.Ytnjocbcjejpklaa

/- Numbers of six words: products of words, bits, lengths. -/
namespace Go.Rq


/-! the product of two words -/
def mulHi (x y : Nat) : Nat :=
  x % W / 4294967296 * (y % W / 4294967296) +
    (x % W / 4294967296 * (y &&& 4294967295) + (x &&& 4294967295) * (y &&& 4294967295) % W / 4294967296) % W / 4294967296 +
    ((x % W / 4294967296 * (y &&& 4294967295) + (x &&& 4294967295) * (y &&& 4294967295) % W / 4294967296 &&& 4294967295) + (x &&& 4294967295) * (y % W / 4294967296)) % W / 4294967296
theorem and_mask (x : Nat) : x &&& 4294967295 = x % 4294967296 := Nat.and_two_pow_sub_one_eq_mod x 32
theorem mulHi_eq (x y : Nat) : mulHi x y = x % W * (y % W) / W := by
  have h := Go.Lib.mul64_hi (x % W) (y % W) (Nat.mod_lt _ (by decide)) (Nat.mod_lt _ (by decide))
  have e1 : x % 4294967296 = x % W % 4294967296 := (Nat.mod_mod_of_dvd x ⟨4294967296, by decide⟩).symm
  have e2 : y % 4294967296 = y % W % 4294967296 := (Nat.mod_mod_of_dvd y ⟨4294967296, by decide⟩).symm
  unfold mulHi
  rw [and_mask, and_mask, and_mask, e1, e2]
  generalize x % W = X at *
  generalize y % W = Y at *
  simp only [W] at *
  obtain ⟨h1, h2, h3, h4⟩ := h
  rw [Nat.mod_eq_of_lt h1, Nat.mod_eq_of_lt h2, Nat.mod_eq_of_lt h3]
  exact h4

/-! how many bits -/
def blen (n : Nat) : Nat := bif Nat.beq n 0 then 0 else Nat.log2 n + 1
theorem blen_zero : blen 0 = 0 := rfl
theorem blen_pos {n : Nat} (h : n ≠ 0) : blen n = Nat.log2 n + 1 := by
  have : Nat.beq n 0 = false := by rw [← Bool.not_eq_true, Nat.beq_eq]; exact h
  unfold blen; rw [this]; rfl
theorem blen_of {n k : Nat} (h1 : 2 ^ k ≤ n) (h2 : n < 2 ^ (k + 1)) : blen n = k + 1 := by
  have hn : n ≠ 0 := by have := Nat.two_pow_pos k; omega
  rw [blen_pos hn]
  have a := (Nat.le_log2 hn).2 h1
  have b := (Nat.log2_lt hn).2 h2
  omega
theorem blen_bounds {n : Nat} (h : n ≠ 0) : 2 ^ (blen n - 1) ≤ n ∧ n < 2 ^ blen n := by
  rw [blen_pos h]
  exact ⟨Nat.log2_self_le h, Nat.lt_log2_self⟩
theorem blen_shift {k x : Nat} (h : 2 ^ k ≤ x) : blen x = k + blen (x / 2 ^ k) := by
  have hp := Nat.two_pow_pos k
  have hq : x / 2 ^ k ≠ 0 := by have := Nat.div_pos h hp; omega
  obtain ⟨h1, h2⟩ := blen_bounds hq
  have hb : 0 < blen (x / 2 ^ k) := by rw [blen_pos hq]; omega
  have : k + blen (x / 2 ^ k) = (k + (blen (x / 2 ^ k) - 1)) + 1 := by omega
  rw [this]
  refine blen_of ?_ ?_
  · rw [Nat.pow_add, Nat.mul_comm]; exact (Nat.le_div_iff_mul_le hp).1 h1
  · rw [← this, Nat.pow_add, Nat.mul_comm]; exact (Nat.div_lt_iff_lt_mul hp).1 h2
theorem blen_lt {n k : Nat} (h : n < 2 ^ k) : blen n ≤ k := by
  by_cases hn : n = 0
  · subst hn; rw [blen_zero]; omega
  · rw [blen_pos hn]; have := (Nat.log2_lt hn).2 h; omega
theorem tab_blen : ∀ n : Fin 256, byteAt Go.Lib.len8tab n.val = blen n.val := by decide +kernel
theorem tab_eq {n : Nat} (h : n < 256) : byteAt Go.Lib.len8tab n = blen n := tab_blen ⟨n, h⟩

theorem wrapI_small {n : Nat} (h : n < 9223372036854775808) : wrapI (Int.ofNat n) = Int.ofNat n := by
  have : Nat.blt n two63 = true := by rw [Nat.blt_eq]; exact h
  unfold wrapI; simp only [this]; rfl

/-! bits of places -/
theorem and63 : ∀ i : Fin 384, bitsI .and (Int.ofNat i.val) 63 = Int.ofNat (i.val % 64) := by decide +kernel
theorem fdiv6 : ∀ i : Fin 384, (Int.ofNat i.val).fdiv (2 ^ 6) = Int.ofNat (i.val / 64) := by decide +kernel
theorem tdiv64 : ∀ i : Fin 384, wrapI ((Int.ofNat i.val).tdiv 64) = Int.ofNat (i.val / 64) := by decide +kernel
theorem tmod64 : ∀ i : Fin 384, (Int.ofNat i.val).tmod 64 = Int.ofNat (i.val % 64) := by decide +kernel

theorem bit_word (a : Nat → Nat) {i : Nat} (h : i < 384) :
    wrapI (Int.ofNat ((a (i / 64) % W / 2 ^ min (i % 64) 64 &&& 1) % W)) = bitI (nv a) (Int.ofNat i) := by
  rw [Nat.and_one_is_mod, Nat.min_eq_left (by omega), bit_nv a i h]
  have : nv a / 2 ^ i % 2 < 2 := Nat.mod_lt _ (by decide)
  rw [Nat.mod_eq_of_lt (a := nv a / 2 ^ i % 2) (by simp only [W]; omega)]
  exact wrapI_small (by omega)
theorem bit_high (a : Nat → Nat) {i : Nat} (h : 384 ≤ i) : bitI (nv a) (Int.ofNat i) = 0 := by
  simp only [bitI, nv_bit_high a i h]; rfl

/-! the length, from the highest word on -/
def lenP (a : Nat → Nat) (v : Int → Prop) : Nat → Prop
  | 0 => v 0
  | i + 1 => match not (Nat.beq (a i % W) 0) with
    | true => v (wrapI (wrapI (64 * Int.ofNat i) + Int.ofNat (blen (a i % W))))
    | false => lenP a v i
theorem lenP_of (a : Nat → Nat) (v : Int → Prop) : ∀ i, i ≤ 6 → v (Int.ofNat (blen (nvn a i))) → lenP a v i
  | 0, _, h => h
  | i + 1, hi, h => by
    simp only [lenP]
    have hl := nvn_lt a i
    cases h1 : Nat.beq (a i % W) 0
    · have hne : a i % W ≠ 0 := fun e => by rw [← Nat.beq_eq, h1] at e; cases e
      simp only [Bool.not_false]
      have hlt : a i % W < 2 ^ 64 := Nat.mod_lt _ (by decide)
      have hb := blen_lt hlt
      have e : blen (nvn a (i + 1)) = 64 * i + blen (a i % W) := by
        have hw : W ^ i = 2 ^ (64 * i) := by rw [Nat.pow_mul]; rfl
        simp only [nvn]
        have hd : (nvn a i + W ^ i * (a i % W)) / 2 ^ (64 * i) = a i % W := by
          rw [← hw, Nat.add_mul_div_left _ _ (Nat.pow_pos (by decide)), Nat.div_eq_of_lt hl, Nat.zero_add]
        have hs := blen_shift (k := 64 * i) (x := nvn a i + W ^ i * (a i % W)) ?_
        · rw [hd] at hs; exact hs
        rw [← hw]
        have := Nat.mul_le_mul_left (W ^ i) (Nat.one_le_iff_ne_zero.2 hne)
        omega
      rw [e] at h
      have e2 : wrapI (wrapI (64 * Int.ofNat i) + Int.ofNat (blen (a i % W))) = Int.ofNat (64 * i + blen (a i % W)) := by
        have e3 : (64 : Int) * Int.ofNat i = Int.ofNat (64 * i) := by simp
        rw [e3, wrapI_small (by omega)]
        have e4 : Int.ofNat (64 * i) + Int.ofNat (blen (a i % W)) = Int.ofNat (64 * i + blen (a i % W)) := by simp
        rw [e4, wrapI_small (by omega)]
      rw [e2]; exact h
    · have hz : a i % W = 0 := Nat.beq_eq.mp h1
      simp only [Bool.not_true]
      refine lenP_of a v i (by omega) ?_
      simp only [nvn, hz, Nat.mul_zero, Nat.add_zero] at h
      exact h
/-- The length, bit by bit. -/
def lenB (n : Nat) (v : Int → Prop) : Nat → Prop
  | 0 => v 0
  | i + 1 => match ieq (Int.ofNat (n / 2 ^ i % 2)) 1 with
    | true => v (wrapI (Int.ofNat i + 1))
    | false => lenB n v i
theorem lenB_of (n : Nat) (v : Int → Prop) : ∀ i, i < 9223372036854775807 → v (Int.ofNat (blen (n % 2 ^ i))) → lenB n v i
  | 0, _, h => by
    rw [Nat.pow_zero, Nat.mod_one] at h; exact h
  | i + 1, hi, h => by
    simp only [lenB]
    have hm : n % 2 ^ (i + 1) = n % 2 ^ i + 2 ^ i * (n / 2 ^ i % 2) := by rw [Nat.pow_succ, Nat.mod_mul]
    have hp := Nat.mod_lt n (Nat.two_pow_pos i)
    have h2 : n / 2 ^ i % 2 < 2 := Nat.mod_lt _ (by decide)
    rw [hm] at h
    generalize n / 2 ^ i % 2 = d at *
    have : d = 0 ∨ d = 1 := by omega
    rcases this with rfl | rfl
    · exact lenB_of n v i (by omega) (by simpa using h)
    · have e : blen (n % 2 ^ i + 2 ^ i * 1) = i + 1 := blen_of (by omega) (by rw [Nat.pow_succ]; omega)
      rw [e] at h
      have e2 : wrapI (Int.ofNat i + 1) = Int.ofNat (i + 1) := by
        have : Int.ofNat i + 1 = Int.ofNat (i + 1) := rfl
        rw [this, wrapI_small (by omega)]
      show v (wrapI (Int.ofNat i + 1))
      rw [e2]; exact h

theorem nvn_congr {f g : Nat → Nat} : ∀ {i}, (∀ j, j < i → f j = g j) → nvn f i = nvn g i
  | 0, _ => rfl
  | i + 1, h => by simp only [nvn]; rw [nvn_congr (i := i) fun j hj => h j (by omega), h i (by omega)]
theorem nvn_upd (f : Nat → Nat) (i x : Nat) : nvn (upd f i x) (i + 1) = nvn f i + W ^ i * (x % W) := by
  simp only [nvn, upd_same]
  rw [nvn_congr fun j hj => upd_ne f x (by omega)]
theorem wrapI_succ {i : Nat} (h : i < 9223372036854775806) : wrapI (Int.ofNat i + 1) = Int.ofNat (i + 1) := by
  have : Int.ofNat i + 1 = Int.ofNat (i + 1) := rfl
  rw [this, wrapI_small (by omega)]

/-! the document's addition and subtraction, word by word -/
def carryD (x y c : Nat) : Nat := bif Nat.blt ((x + y + c) % W) ((x + y) % W) then 1 else bif Nat.blt ((x + y) % W) (x % W) then 1 else 0
theorem carryD_le (x y c : Nat) : carryD x y c ≤ 1 := by
  unfold carryD; cases Nat.blt ((x + y + c) % W) ((x + y) % W) <;> cases Nat.blt ((x + y) % W) (x % W) <;> simp
theorem carryD_eq (x y c : Nat) (h : c ≤ 1) : (x + y + c) % W + W * carryD x y c = x % W + y % W + c := by
  unfold carryD
  cases h1 : Nat.blt ((x + y + c) % W) ((x + y) % W)
  · have n1 : ¬ (x + y + c) % W < (x + y) % W := by rw [← Nat.blt_eq, h1]; simp
    cases h2 : Nat.blt ((x + y) % W) (x % W)
    · have n2 : ¬ (x + y) % W < x % W := by rw [← Nat.blt_eq, h2]; simp
      simp only [cond_false, W] at *; omega
    · have n2 : (x + y) % W < x % W := by rw [← Nat.blt_eq, h2]
      simp only [cond_false, cond_true, W] at *; omega
  · have n1 : (x + y + c) % W < (x + y) % W := by rw [← Nat.blt_eq, h1]
    simp only [cond_true, W] at *; omega
def borrowD (x y c : Nat) : Nat := bif Nat.blt ((x + (W - y % W)) % W) (c % W) then 1 else bif Nat.blt (x % W) (y % W) then 1 else 0
theorem borrowD_le (x y c : Nat) : borrowD x y c ≤ 1 := by
  unfold borrowD; cases Nat.blt ((x + (W - y % W)) % W) (c % W) <;> cases Nat.blt (x % W) (y % W) <;> simp
theorem borrowD_eq (x y c : Nat) (h : c ≤ 1) : (x + (W - y % W) + (W - c % W)) % W + (y % W + c) = x % W + W * borrowD x y c := by
  unfold borrowD
  have e : c % W = c := Nat.mod_eq_of_lt (by simp only [W]; omega)
  rw [e]
  cases h1 : Nat.blt ((x + (W - y % W)) % W) c
  · have n1 : ¬ (x + (W - y % W)) % W < c := by rw [← Nat.blt_eq, h1]; simp
    cases h2 : Nat.blt (x % W) (y % W)
    · have n2 : ¬ x % W < y % W := by rw [← Nat.blt_eq, h2]; simp
      simp only [cond_false, W] at *; omega
    · have n2 : x % W < y % W := by rw [← Nat.blt_eq, h2]
      simp only [cond_false, cond_true, W] at *; omega
  · have n1 : (x + (W - y % W)) % W < c := by rw [← Nat.blt_eq, h1]
    simp only [cond_true, W] at *; omega
theorem sum_end {o c : Nat} {x y : Nat} (hc : c ≤ 1) (h : o + R * c = x + y) (ho : o < R) : o % R = (x + y) % R ∧ Nat.beq (c % W) (1 % W) = Nat.ble R (x + y) := by
  refine ⟨by rw [← h, Nat.add_mul_mod_self_left], ?_⟩
  have e1 : 1 % W = 1 := by decide
  have e2 : c % W = c := Nat.mod_eq_of_lt (by simp only [W]; omega)
  rw [e1, e2, Bool.eq_iff_iff, Nat.beq_eq, Nat.ble_eq]
  have : c = 0 ∨ c = 1 := by omega
  rcases this with rfl | rfl
  · constructor <;> intro h <;> omega
  · constructor
    · intro _; omega
    · intro _; rfl
theorem diff_end {o c : Nat} {x y : Nat} (hc : c ≤ 1) (h : o + y = x + R * c) (ho : o < R) (hy : y < R) : o = (x + R - y) % R ∧ Nat.beq (c % W) (1 % W) = Nat.blt x y := by
  have e1 : 1 % W = 1 := by decide
  have e2 : c % W = c := Nat.mod_eq_of_lt (by simp only [W]; omega)
  rw [e1, e2]
  have : c = 0 ∨ c = 1 := by omega
  rcases this with rfl | rfl
  · refine ⟨?_, ?_⟩
    · rw [show x + R - y = o + R by omega, Nat.add_mod_right, Nat.mod_eq_of_lt ho]
    · rw [Bool.eq_iff_iff, Nat.beq_eq, Nat.blt_eq]; omega
  · refine ⟨?_, ?_⟩
    · rw [show x + R - y = o by omega, Nat.mod_eq_of_lt ho]
    · rw [Bool.eq_iff_iff, Nat.beq_eq, Nat.blt_eq]; omega
end Go.Rq

/- Products of words, bits, lengths, off their runs. -/
namespace Go.Proofs.Ytnjocbcjejpklaa
open Go.Rq Go
set_option maxRecDepth 100000

theorem G0_ok : CtxOk Try.prog (ctxL []) := ctxL_nil

/-! Mul64 -/
def cMul64 : List AV → Option (List Prop × AV)
  | [.v1 (.sc (.w .u64 x)), .v1 (.sc (.w .u64 y))] => some ([], .tup [.sc (.w .u64 (x % W * (y % W) / W)), .sc (.w .u64 (x * y))])
  | _ => none
theorem okMul64 : (CallC.pure cMul64).Ok Try.prog 84 := by
  intro args pre v h _
  unfold cMul64 at h
  split at h
  · rename_i x y
    cases h
    intro h
    refine CallOk.congr (v := .tup [.sc (.w .u64 (mulHi x y)), .sc (.w .u64 (x * y))]) (pure_fn mixed tt_ok G0_ok Try.func84 (by kernel_rfl) (by kernel_rfl) (by kernel_rfl) (by kernel_rfl) 50 [] ?_ h) (fun ρ => by rw [mulHi_eq]) (by kernel_rfl)
    exact same (p := some (AV.tup [.sc (.w .u64 (mulHi x y)), .sc (.w .u64 (x * y))]) = some (AV.tup [.sc (.w .u64 (mulHi x y)), .sc (.w .u64 (x * y))])) rfl (by kernel_rfl)
  · cases h

/-! Bit -/
def cBit : List AV → Option (List Prop × AV)
  | [.v1 (.agg [.ws .u64 6 a]), .v1 (.sc (.it i))] => some ([], .v1 (.sc (.it (bitI (nv a) i))))
  | _ => none
theorem okBit : (CallC.pure cBit).Ok Try.prog 45 := by
  intro args pre v h _
  unfold cBit at h
  split at h
  · rename_i a i
    cases h
    cases i with
    | negSucc i =>
      refine pure_fn mixed tt_ok G0_ok Try.func45 (by kernel_rfl) (by kernel_rfl) (by kernel_rfl) (by kernel_rfl) 50 [] ?_
      exact same (p := some (AV.v1 (.sc (.it 0))) = some (AV.v1 (.sc (.it 0)))) rfl (by kernel_rfl)
    | ofNat i =>
      by_cases hi : i < 384
      · refine pure_fn mixed tt_ok G0_ok Try.func45 (by kernel_rfl) (by kernel_rfl) (by kernel_rfl) (by kernel_rfl) 50 [⟨1, 1, .lit (.bo false)⟩, ⟨1,4,.lit (.bo false)⟩, ⟨3,1,.lit (.it (Int.ofNat (i/64)))⟩, ⟨3,2,.sym⟩, ⟨3,3,.sym⟩, ⟨3,5,.lit (.it (Int.ofNat (i%64)))⟩] ?_
        refine same (p := ilt (Int.ofNat i) 0 = false ∧ (!ilt (Int.ofNat i) 384) = false ∧ (Int.ofNat i).fdiv (2 ^ 6) = Int.ofNat (i / 64) ∧ 0 ≤ Int.ofNat (i / 64) ∧ Int.ofNat (i / 64) < ((6 : Nat) : Int) ∧ i / 64 < 6 ∧ bitsI .and (Int.ofNat i) 63 = Int.ofNat (i % 64) ∧
          some (AV.v1 (.sc (.it (wrapI (Int.ofNat ((a (i / 64) % W / 2 ^ min (i % 64) 64 &&& 1) % W)))))) = some (AV.v1 (.sc (.it (bitI (nv a) (Int.ofNat i)))))) ?_ (by kernel_rfl)
        refine ⟨?_, ?_, fdiv6 ⟨i, hi⟩, Int.natCast_nonneg _, by simp; omega, by omega, and63 ⟨i, hi⟩, by rw [bit_word a hi]⟩
        · rw [← Bool.not_eq_true, ilt_iff]; simp
        · have : ilt (Int.ofNat i) 384 = true := by rw [ilt_iff]; simp; omega
          rw [this]; rfl
      · have e : bitI (nv a) (Int.ofNat i) = 0 := bit_high a (by omega)
        rw [e]
        refine pure_fn mixed tt_ok G0_ok Try.func45 (by kernel_rfl) (by kernel_rfl) (by kernel_rfl) (by kernel_rfl) 50 [⟨1, 1, .lit (.bo false)⟩, ⟨1,4,.lit (.bo true)⟩] ?_
        refine same (p := ilt (Int.ofNat i) 0 = false ∧ (!ilt (Int.ofNat i) 384) = true ∧ some (AV.v1 (.sc (.it 0))) = some (AV.v1 (.sc (.it 0)))) ⟨?_, ?_, rfl⟩ (by kernel_rfl)
        · rw [← Bool.not_eq_true, ilt_iff]; simp
        · have : ilt (Int.ofNat i) 384 = false := by rw [← Bool.not_eq_true, ilt_iff]; simp; omega
          rw [this]; rfl
  · cases h
/-! Len64 -/
def cLen64 : List AV → Option (List Prop × AV)
  | [.v1 (.sc (.w .u64 x))] => some ([], .v1 (.sc (.it (Int.ofNat (blen (x % W))))))
  | _ => none
theorem len_fin {d e y n : Nat} (h : n = d + e + blen y) (hd : d + e ≤ 64) (hy : y < 256) (z : Int) (hz : z = Int.ofNat (d + e)) : wrapI (z + wrapI (Int.ofNat (byteAt Go.Lib.len8tab y % 256))) = Int.ofNat n := by
  have hb : blen y ≤ 8 := blen_lt (k := 8) (by omega)
  rw [tab_eq hy, Nat.mod_eq_of_lt (by omega), wrapI_small (by omega), hz]
  have : Int.ofNat (d + e) + Int.ofNat (blen y) = Int.ofNat n := by rw [h]; simp
  rw [this, wrapI_small (by omega)]
theorem okLen64 : (CallC.pure cLen64).Ok Try.prog 73 := by
  intro args pre v h _
  unfold cLen64 at h
  split at h
  · rename_i x
    cases h
    have hx : x % W < 18446744073709551616 := Nat.mod_lt _ (by decide)
    by_cases h1 : 4294967296 ≤ x % W
    · have s1 : blen (x % W) = 32 + blen (x % W / 4294967296) := blen_shift (k := 32) h1
      have m1 : x % W / 4294967296 % W = x % W / 4294967296 := Nat.mod_eq_of_lt (by simp only [W] at *; omega)
      by_cases h2 : 65536 ≤ x % W / 4294967296
      · have s2 : blen (x % W / 4294967296) = 16 + blen (x % W / 4294967296 / 65536) := blen_shift (k := 16) h2
        have m2 : x % W / 4294967296 / 65536 % W = x % W / 4294967296 / 65536 := Nat.mod_eq_of_lt (by simp only [W] at *; omega)
        by_cases h3 : 256 ≤ x % W / 4294967296 / 65536
        · have s3 : blen (x % W / 4294967296 / 65536) = 8 + blen (x % W / 4294967296 / 65536 / 256) := blen_shift (k := 8) h3
          have m3 : x % W / 4294967296 / 65536 / 256 % W = x % W / 4294967296 / 65536 / 256 := Nat.mod_eq_of_lt (by simp only [W] at *; omega)
          refine pure_fn mixed tt_ok G0_ok Try.func73 (by kernel_rfl) (by kernel_rfl) (by kernel_rfl) (by kernel_rfl) 50 [⟨1,1,.lit (.bo true)⟩,⟨4,1,.lit (.bo true)⟩,⟨7,1,.lit (.bo true)⟩,⟨10,3,.sym⟩] ?_
          refine same (p := Nat.ble 4294967296 (x % W) = true ∧ Nat.ble 65536 (x % W / 4294967296 % W) = true ∧ Nat.ble 256 (x % W / 4294967296 % W / 65536 % W) = true ∧ x % W / 4294967296 % W / 65536 % W / 256 % W % 256 < 256 ∧ some (AV.v1 (.sc (.it (wrapI (wrapI (wrapI (32 + 16) + 8) + wrapI (Int.ofNat (byteAt Go.Lib.len8tab (x % W / 4294967296 % W / 65536 % W / 256 % W % 256) % 256))))))) = some (AV.v1 (.sc (.it (Int.ofNat (blen (x % W))))))) ?_ (by kernel_rfl)
          rw [m1, m2, m3]
          have hc : x % W / 4294967296 / 65536 / 256 < 256 := by simp only [W] at *; omega
          have me : (x % W / 4294967296 / 65536 / 256) % 256 = x % W / 4294967296 / 65536 / 256 := Nat.mod_eq_of_lt hc
          rw [me]
          refine ⟨Nat.ble_eq_true_of_le h1, Nat.ble_eq_true_of_le h2, Nat.ble_eq_true_of_le h3, hc, ?_⟩
          rw [len_fin (d := 56) (e := 0) (y := x % W / 4294967296 / 65536 / 256) (n := blen (x % W)) (by omega) (by omega) hc _ (by kernel_rfl)]
        · refine pure_fn mixed tt_ok G0_ok Try.func73 (by kernel_rfl) (by kernel_rfl) (by kernel_rfl) (by kernel_rfl) 50 [⟨1,1,.lit (.bo true)⟩,⟨4,1,.lit (.bo true)⟩,⟨7,1,.lit (.bo false)⟩,⟨10,3,.sym⟩] ?_
          refine same (p := Nat.ble 4294967296 (x % W) = true ∧ Nat.ble 65536 (x % W / 4294967296 % W) = true ∧ Nat.ble 256 (x % W / 4294967296 % W / 65536 % W) = false ∧ x % W / 4294967296 % W / 65536 % W % 256 < 256 ∧ some (AV.v1 (.sc (.it (wrapI (wrapI (32 + 16) + wrapI (Int.ofNat (byteAt Go.Lib.len8tab (x % W / 4294967296 % W / 65536 % W % 256) % 256))))))) = some (AV.v1 (.sc (.it (Int.ofNat (blen (x % W))))))) ?_ (by kernel_rfl)
          rw [m1, m2]
          have hc : x % W / 4294967296 / 65536 < 256 := by simp only [W] at *; omega
          have me : (x % W / 4294967296 / 65536) % 256 = x % W / 4294967296 / 65536 := Nat.mod_eq_of_lt hc
          rw [me]
          refine ⟨Nat.ble_eq_true_of_le h1, Nat.ble_eq_true_of_le h2, by rw [← Bool.not_eq_true, Nat.ble_eq]; exact h3, hc, ?_⟩
          rw [len_fin (d := 48) (e := 0) (y := x % W / 4294967296 / 65536) (n := blen (x % W)) (by omega) (by omega) hc _ (by kernel_rfl)]
      · by_cases h3 : 256 ≤ x % W / 4294967296
        · have s3 : blen (x % W / 4294967296) = 8 + blen (x % W / 4294967296 / 256) := blen_shift (k := 8) h3
          have m3 : x % W / 4294967296 / 256 % W = x % W / 4294967296 / 256 := Nat.mod_eq_of_lt (by simp only [W] at *; omega)
          refine pure_fn mixed tt_ok G0_ok Try.func73 (by kernel_rfl) (by kernel_rfl) (by kernel_rfl) (by kernel_rfl) 50 [⟨1,1,.lit (.bo true)⟩,⟨4,1,.lit (.bo false)⟩,⟨7,1,.lit (.bo true)⟩,⟨10,3,.sym⟩] ?_
          refine same (p := Nat.ble 4294967296 (x % W) = true ∧ Nat.ble 65536 (x % W / 4294967296 % W) = false ∧ Nat.ble 256 (x % W / 4294967296 % W) = true ∧ x % W / 4294967296 % W / 256 % W % 256 < 256 ∧ some (AV.v1 (.sc (.it (wrapI (wrapI (32 + 8) + wrapI (Int.ofNat (byteAt Go.Lib.len8tab (x % W / 4294967296 % W / 256 % W % 256) % 256))))))) = some (AV.v1 (.sc (.it (Int.ofNat (blen (x % W))))))) ?_ (by kernel_rfl)
          rw [m1, m3]
          have hc : x % W / 4294967296 / 256 < 256 := by simp only [W] at *; omega
          have me : (x % W / 4294967296 / 256) % 256 = x % W / 4294967296 / 256 := Nat.mod_eq_of_lt hc
          rw [me]
          refine ⟨Nat.ble_eq_true_of_le h1, by rw [← Bool.not_eq_true, Nat.ble_eq]; exact h2, Nat.ble_eq_true_of_le h3, hc, ?_⟩
          rw [len_fin (d := 40) (e := 0) (y := x % W / 4294967296 / 256) (n := blen (x % W)) (by omega) (by omega) hc _ (by kernel_rfl)]
        · refine pure_fn mixed tt_ok G0_ok Try.func73 (by kernel_rfl) (by kernel_rfl) (by kernel_rfl) (by kernel_rfl) 50 [⟨1,1,.lit (.bo true)⟩,⟨4,1,.lit (.bo false)⟩,⟨7,1,.lit (.bo false)⟩,⟨10,3,.sym⟩] ?_
          refine same (p := Nat.ble 4294967296 (x % W) = true ∧ Nat.ble 65536 (x % W / 4294967296 % W) = false ∧ Nat.ble 256 (x % W / 4294967296 % W) = false ∧ x % W / 4294967296 % W % 256 < 256 ∧ some (AV.v1 (.sc (.it (wrapI (32 + wrapI (Int.ofNat (byteAt Go.Lib.len8tab (x % W / 4294967296 % W % 256) % 256))))))) = some (AV.v1 (.sc (.it (Int.ofNat (blen (x % W))))))) ?_ (by kernel_rfl)
          rw [m1]
          have hc : x % W / 4294967296 < 256 := by simp only [W] at *; omega
          have me : (x % W / 4294967296) % 256 = x % W / 4294967296 := Nat.mod_eq_of_lt hc
          rw [me]
          refine ⟨Nat.ble_eq_true_of_le h1, by rw [← Bool.not_eq_true, Nat.ble_eq]; exact h2, by rw [← Bool.not_eq_true, Nat.ble_eq]; exact h3, hc, ?_⟩
          rw [len_fin (d := 32) (e := 0) (y := x % W / 4294967296) (n := blen (x % W)) (by omega) (by omega) hc _ (by kernel_rfl)]
    · by_cases h2 : 65536 ≤ x % W
      · have s2 : blen (x % W) = 16 + blen (x % W / 65536) := blen_shift (k := 16) h2
        have m2 : x % W / 65536 % W = x % W / 65536 := Nat.mod_eq_of_lt (by simp only [W] at *; omega)
        by_cases h3 : 256 ≤ x % W / 65536
        · have s3 : blen (x % W / 65536) = 8 + blen (x % W / 65536 / 256) := blen_shift (k := 8) h3
          have m3 : x % W / 65536 / 256 % W = x % W / 65536 / 256 := Nat.mod_eq_of_lt (by simp only [W] at *; omega)
          refine pure_fn mixed tt_ok G0_ok Try.func73 (by kernel_rfl) (by kernel_rfl) (by kernel_rfl) (by kernel_rfl) 50 [⟨1,1,.lit (.bo false)⟩,⟨4,1,.lit (.bo true)⟩,⟨7,1,.lit (.bo true)⟩,⟨10,3,.sym⟩] ?_
          refine same (p := Nat.ble 4294967296 (x % W) = false ∧ Nat.ble 65536 (x % W) = true ∧ Nat.ble 256 (x % W / 65536 % W) = true ∧ x % W / 65536 % W / 256 % W % 256 < 256 ∧ some (AV.v1 (.sc (.it (wrapI (wrapI (wrapI (0 + 16) + 8) + wrapI (Int.ofNat (byteAt Go.Lib.len8tab (x % W / 65536 % W / 256 % W % 256) % 256))))))) = some (AV.v1 (.sc (.it (Int.ofNat (blen (x % W))))))) ?_ (by kernel_rfl)
          rw [m2, m3]
          have hc : x % W / 65536 / 256 < 256 := by simp only [W] at *; omega
          have me : (x % W / 65536 / 256) % 256 = x % W / 65536 / 256 := Nat.mod_eq_of_lt hc
          rw [me]
          refine ⟨by rw [← Bool.not_eq_true, Nat.ble_eq]; exact h1, Nat.ble_eq_true_of_le h2, Nat.ble_eq_true_of_le h3, hc, ?_⟩
          rw [len_fin (d := 24) (e := 0) (y := x % W / 65536 / 256) (n := blen (x % W)) (by omega) (by omega) hc _ (by kernel_rfl)]
        · refine pure_fn mixed tt_ok G0_ok Try.func73 (by kernel_rfl) (by kernel_rfl) (by kernel_rfl) (by kernel_rfl) 50 [⟨1,1,.lit (.bo false)⟩,⟨4,1,.lit (.bo true)⟩,⟨7,1,.lit (.bo false)⟩,⟨10,3,.sym⟩] ?_
          refine same (p := Nat.ble 4294967296 (x % W) = false ∧ Nat.ble 65536 (x % W) = true ∧ Nat.ble 256 (x % W / 65536 % W) = false ∧ x % W / 65536 % W % 256 < 256 ∧ some (AV.v1 (.sc (.it (wrapI (wrapI (0 + 16) + wrapI (Int.ofNat (byteAt Go.Lib.len8tab (x % W / 65536 % W % 256) % 256))))))) = some (AV.v1 (.sc (.it (Int.ofNat (blen (x % W))))))) ?_ (by kernel_rfl)
          rw [m2]
          have hc : x % W / 65536 < 256 := by simp only [W] at *; omega
          have me : (x % W / 65536) % 256 = x % W / 65536 := Nat.mod_eq_of_lt hc
          rw [me]
          refine ⟨by rw [← Bool.not_eq_true, Nat.ble_eq]; exact h1, Nat.ble_eq_true_of_le h2, by rw [← Bool.not_eq_true, Nat.ble_eq]; exact h3, hc, ?_⟩
          rw [len_fin (d := 16) (e := 0) (y := x % W / 65536) (n := blen (x % W)) (by omega) (by omega) hc _ (by kernel_rfl)]
      · by_cases h3 : 256 ≤ x % W
        · have s3 : blen (x % W) = 8 + blen (x % W / 256) := blen_shift (k := 8) h3
          have m3 : x % W / 256 % W = x % W / 256 := Nat.mod_eq_of_lt (by simp only [W] at *; omega)
          refine pure_fn mixed tt_ok G0_ok Try.func73 (by kernel_rfl) (by kernel_rfl) (by kernel_rfl) (by kernel_rfl) 50 [⟨1,1,.lit (.bo false)⟩,⟨4,1,.lit (.bo false)⟩,⟨7,1,.lit (.bo true)⟩,⟨10,3,.sym⟩] ?_
          refine same (p := Nat.ble 4294967296 (x % W) = false ∧ Nat.ble 65536 (x % W) = false ∧ Nat.ble 256 (x % W) = true ∧ x % W / 256 % W % 256 < 256 ∧ some (AV.v1 (.sc (.it (wrapI (wrapI (0 + 8) + wrapI (Int.ofNat (byteAt Go.Lib.len8tab (x % W / 256 % W % 256) % 256))))))) = some (AV.v1 (.sc (.it (Int.ofNat (blen (x % W))))))) ?_ (by kernel_rfl)
          rw [m3]
          have hc : x % W / 256 < 256 := by simp only [W] at *; omega
          have me : (x % W / 256) % 256 = x % W / 256 := Nat.mod_eq_of_lt hc
          rw [me]
          refine ⟨by rw [← Bool.not_eq_true, Nat.ble_eq]; exact h1, by rw [← Bool.not_eq_true, Nat.ble_eq]; exact h2, Nat.ble_eq_true_of_le h3, hc, ?_⟩
          rw [len_fin (d := 8) (e := 0) (y := x % W / 256) (n := blen (x % W)) (by omega) (by omega) hc _ (by kernel_rfl)]
        · refine pure_fn mixed tt_ok G0_ok Try.func73 (by kernel_rfl) (by kernel_rfl) (by kernel_rfl) (by kernel_rfl) 50 [⟨1,1,.lit (.bo false)⟩,⟨4,1,.lit (.bo false)⟩,⟨7,1,.lit (.bo false)⟩,⟨10,3,.sym⟩] ?_
          refine same (p := Nat.ble 4294967296 (x % W) = false ∧ Nat.ble 65536 (x % W) = false ∧ Nat.ble 256 (x % W) = false ∧ x % W % 256 < 256 ∧ some (AV.v1 (.sc (.it (wrapI (0 + wrapI (Int.ofNat (byteAt Go.Lib.len8tab (x % W % 256) % 256))))))) = some (AV.v1 (.sc (.it (Int.ofNat (blen (x % W))))))) ?_ (by kernel_rfl)
          have hc : x % W < 256 := by simp only [W] at *; omega
          have me : (x % W) % 256 = x % W := Nat.mod_eq_of_lt hc
          rw [me]
          refine ⟨by rw [← Bool.not_eq_true, Nat.ble_eq]; exact h1, by rw [← Bool.not_eq_true, Nat.ble_eq]; exact h2, by rw [← Bool.not_eq_true, Nat.ble_eq]; exact h3, hc, ?_⟩
          rw [len_fin (d := 0) (e := 0) (y := x % W) (n := blen (x % W)) (by omega) (by omega) hc _ (by kernel_rfl)]
  · cases h

/-! Len -/
def GL : Ctx := ctxL [(73, .pure cLen64)]
theorem GL_ok : CtxOk Try.prog GL := ctxL_cons okLen64 ctxL_nil
def cLen : List AV → Option (List Prop × AV)
  | [.v1 (.agg [.ws .u64 6 a])] => some ([], .v1 (.sc (.it (Int.ofNat (blen (nv a))))))
  | _ => none
theorem okLen : (CallC.pure cLen).Ok Try.prog 43 := by
  intro args pre v h _
  unfold cLen at h
  split at h
  · rename_i a
    cases h
    refine pure_fn mixed tt_ok GL_ok Try.func43 (by kernel_rfl) (by kernel_rfl) (by kernel_rfl) (by kernel_rfl) 100 [] ?_
    refine same (p := lenP a (fun z => some (AV.v1 (.sc (.it z))) = some (AV.v1 (.sc (.it (Int.ofNat (blen (nv a))))))) 6) (lenP_of a _ 6 (by omega) (by rw [← nv_nvn])) (by kernel_rfl)
  · cases h
end Go.Proofs.Ytnjocbcjejpklaa

/- The document's addition and subtraction, off their loops. -/
namespace Go.Proofs.Ytnjocbcjejpklaa
open Go.Rq Go
set_option maxRecDepth 100000

abbrev pt (b o : Nat) : AV := .v1 (.sc (.pt b o))
abbrev wv (n : Nat) : AV := .v1 (.sc (.w .u64 n))
abbrev iv (z : Int) : AV := .v1 (.sc (.it z))
abbrev nb (f : Nat → Nat) : Option Blk := some ⟨24, [.ws .u64 6 f], 0, 0⟩

/-! Add -/
def InvA (a b : Nat → Nat) (x : Nat × (Nat → Nat) × Nat) : Prop := x.1 ≤ 6 ∧ x.2.2 ≤ 1 ∧ nvn x.2.1 x.1 + W ^ x.1 * x.2.2 = nvn a x.1 + nvn b x.1
def VA (i c : Nat) : List AV := [pt 0 0, pt 1 0, pt 2 0, pt 3 0, wv c, iv (Int.ofNat i)]
def HA (a b out : Nat → Nat) : Heap := [nb a, nb b, nb (fun _ => 0), nb out]

/-! Sub -/
def InvS (a b : Nat → Nat) (x : Nat × (Nat → Nat) × Nat) : Prop := x.1 ≤ 6 ∧ x.2.2 ≤ 1 ∧ nvn x.2.1 x.1 + nvn b x.1 = nvn a x.1 + W ^ x.1 * x.2.2
end Go.Proofs.Ytnjocbcjejpklaa

/- Numbers of six words, bit by bit: shifts. -/
namespace Go.Rq

theorem wrapI_same {z : Int} (h1 : -9223372036854775808 ≤ z) (h2 : z < 9223372036854775808) : wrapI z = z := by
  rw [wrapI_eq, wrap_i64]; omega

theorem tbit_eq (x i : Nat) : Nat.testBit x i = decide (x / 2 ^ i % 2 = 1) := Nat.testBit_eq_decide_div_mod_eq
theorem tb_modW (x : Nat) {r : Nat} (h : r < 64) : Nat.testBit (x % W) r = Nat.testBit x r := by
  have : W = 2 ^ 64 := by decide
  rw [this, Nat.testBit_mod_two_pow]; simp [h]
theorem tb_modW_hi (x : Nat) {r : Nat} (h : 64 ≤ r) : Nat.testBit (x % W) r = false := by
  have : W = 2 ^ 64 := by decide
  rw [this, Nat.testBit_mod_two_pow]; simp; omega
theorem tb_word (a : Nat → Nat) {k r : Nat} (hk : k < 6) (hr : r < 64) : Nat.testBit (nv a) (64 * k + r) = Nat.testBit (a k) r := by
  have h := bit_nv a (64 * k + r) (by omega)
  rw [show (64 * k + r) / 64 = k by omega, show (64 * k + r) % 64 = r by omega] at h
  rw [tbit_eq, ← h, ← tbit_eq, tb_modW _ hr]
theorem tb_high (a : Nat → Nat) {j : Nat} (h : 384 ≤ j) : Nat.testBit (nv a) j = false := by
  rw [tbit_eq, nv_bit_high a j h]; rfl
theorem nv_of_bits {o : Nat → Nat} {N : Nat} (h : ∀ i r, i < 6 → r < 64 → Nat.testBit (o i) r = Nat.testBit N (64 * i + r)) : nv o = N % R := by
  refine Nat.eq_of_testBit_eq fun j => ?_
  rw [R_pow, Nat.testBit_mod_two_pow]
  by_cases hj : j < 384
  · have e : j = 64 * (j / 64) + j % 64 := by omega
    rw [e, tb_word o (by omega) (by omega), h _ _ (by omega) (by omega)]
    have : 64 * (j / 64) + j % 64 < E := by rw [E_eq]; omega
    simp [this]
  · rw [tb_high o (by omega)]
    have : ¬ j < E := by rw [E_eq]; omega
    simp [this]

def tbI (N : Nat) : Int → Bool
  | .ofNat k => Nat.testBit N k
  | .negSucc _ => false
theorem bitI_tb (N : Nat) (z : Int) : ieq (bitI N z) 1 = tbI N z := by
  rw [Bool.eq_iff_iff, ieq_iff]
  cases z with
  | ofNat k =>
    simp only [bitI, tbI, tbit_eq, decide_eq_true_eq, Int.ofNat_eq_natCast]
    generalize N / 2 ^ k % 2 = x
    omega
  | negSucc k => simp [bitI, tbI]

def inK : Int → Option Nat
  | .ofNat k => match Nat.blt k 6 with
    | true => some k
    | false => none
  | .negSucc _ => none
theorem inK_some {z : Int} {k : Nat} (h : inK z = some k) : z = Int.ofNat k ∧ k < 6 := by
  unfold inK at h
  split at h
  · split at h
    · rename_i hb; cases h; rw [Nat.blt_eq] at hb; exact ⟨rfl, hb⟩
    · cases h
  · cases h
theorem inK_none {z : Int} (h : inK z = none) : z < 0 ∨ 6 ≤ z := by
  unfold inK at h
  split at h
  · rename_i k
    split at h
    · cases h
    · rename_i hb
      have : ¬ k < 6 := by rw [← Nat.blt_eq, hb]; simp
      simp only [Int.ofNat_eq_natCast]; omega
  · exact .inl (Int.negSucc_lt_zero _)

theorem tbI_word (a : Nat → Nat) (K : Int) {s : Nat} (hs : s < 64) : tbI (nv a) (64 * K + s) = match inK K with
    | some k => Nat.testBit (a k) s
    | none => false := by
  cases h : inK K with
  | some k =>
    obtain ⟨rfl, hk⟩ := inK_some h
    have : (64 : Int) * Int.ofNat k + s = Int.ofNat (64 * k + s) := by simp
    rw [this]
    exact tb_word a hk hs
  | none =>
    cases hz : (64 * K + (s : Int)) with
    | ofNat j =>
      simp only [Int.ofNat_eq_natCast] at hz
      have := inK_none h
      exact tb_high a (by omega)
    | negSucc j => rfl

def shiftN (N : Nat) : Int → Nat
  | .ofNat n => N * 2 ^ n
  | .negSucc m => N / 2 ^ (m + 1)
theorem shiftN_tb (N : Nat) (n : Int) (j : Nat) : Nat.testBit (shiftN N n) j = tbI N (Int.ofNat j - n) := by
  cases n with
  | ofNat n =>
    simp only [shiftN, Nat.testBit_mul_two_pow]
    by_cases h : n ≤ j
    · have e : Int.ofNat j - Int.ofNat n = Int.ofNat (j - n) := by simp only [Int.ofNat_eq_natCast]; omega
      rw [e]; simp [h, tbI]
    · have e : Int.ofNat j - Int.ofNat n = Int.negSucc (n - j - 1) := by simp only [Int.ofNat_eq_natCast]; omega
      rw [e]; simp [h, tbI]
  | negSucc m =>
    simp only [shiftN, Nat.testBit_div_two_pow]
    have e : Int.ofNat j - Int.negSucc m = Int.ofNat (j + (m + 1)) := by simp only [Int.ofNat_eq_natCast]; omega
    rw [e]; rfl

/-! the words' shift, word by word -/
def stepSh (a : Nat → Nat) (w : Int) (sh sh2 : Nat) (bp : Bool) (o : Nat → Nat) (i : Nat) : Nat → Nat :=
  let o1 := match inK (Int.ofNat i - w) with
    | some k => upd o i (a k * 2 ^ sh)
    | none => o
  match bp with
  | true => match inK (Int.ofNat i - w - 1) with
    | some k => upd o1 i (o1 i ||| a k % W / 2 ^ sh2)
    | none => o1
  | false => o1
def shO (a : Nat → Nat) (w : Int) (sh sh2 : Nat) (bp : Bool) : Nat → (Nat → Nat)
  | 0 => fun _ => 0
  | i + 1 => stepSh a w sh sh2 bp (shO a w sh sh2 bp i) i
def shV (a : Nat → Nat) (w : Int) (sh sh2 : Nat) (bp : Bool) (i : Nat) : Nat :=
  (match inK (Int.ofNat i - w) with
    | some k => a k * 2 ^ sh
    | none => 0) |||
  match bp with
  | true => match inK (Int.ofNat i - w - 1) with
    | some k => a k % W / 2 ^ sh2
    | none => 0
  | false => 0
theorem stepSh_at (a : Nat → Nat) (w : Int) (sh sh2 : Nat) (bp : Bool) (o : Nat → Nat) (i : Nat) (h : o i = 0) : stepSh a w sh sh2 bp o i i = shV a w sh sh2 bp i := by
  unfold stepSh shV
  cases inK (Int.ofNat i - w) <;> cases bp <;> cases inK (Int.ofNat i - w - 1) <;> simp [upd_same, h]
theorem stepSh_ne (a : Nat → Nat) (w : Int) (sh sh2 : Nat) (bp : Bool) (o : Nat → Nat) {i j : Nat} (h : j ≠ i) : stepSh a w sh sh2 bp o i j = o j := by
  unfold stepSh
  cases inK (Int.ofNat i - w) <;> cases bp <;> cases inK (Int.ofNat i - w - 1) <;> simp [upd_ne _ _ h]
theorem shO_zero (a : Nat → Nat) (w : Int) (sh sh2 : Nat) (bp : Bool) : ∀ n i, n ≤ i → shO a w sh sh2 bp n i = 0
  | 0, _, _ => rfl
  | n + 1, i, h => by simp only [shO]; rw [stepSh_ne _ _ _ _ _ _ (by omega)]; exact shO_zero a w sh sh2 bp n i (by omega)
theorem shO_at (a : Nat → Nat) (w : Int) (sh sh2 : Nat) (bp : Bool) : ∀ n i, i < n → shO a w sh sh2 bp n i = shV a w sh sh2 bp i
  | n + 1, i, h => by
    simp only [shO]
    by_cases e : i = n
    · subst e; exact stepSh_at _ _ _ _ _ _ _ (shO_zero a w sh sh2 bp i i (Nat.le_refl _))
    · rw [stepSh_ne _ _ _ _ _ _ e]; exact shO_at a w sh sh2 bp n i (by omega)
theorem shV_bits (a : Nat → Nat) (w : Int) {b : Nat} (hb : b < 64) (bp : Bool) (hbp : bp = decide (0 < b)) (i : Nat) {r : Nat} (hr : r < 64) :
    Nat.testBit (shV a w b (64 - b) bp i) r = tbI (nv a) (64 * (Int.ofNat i - w) + r - b) := by
  unfold shV
  rw [Nat.testBit_or]
  by_cases h : b ≤ r
  · have e : 64 * (Int.ofNat i - w) + r - b = 64 * (Int.ofNat i - w) + ((r - b : Nat) : Int) := by omega
    rw [e, tbI_word a _ (by omega)]
    have z : (match bp with
      | true => match inK (Int.ofNat i - w - 1) with
        | some k => a k % W / 2 ^ (64 - b)
        | none => 0
      | false => 0).testBit r = false := by
      cases bp <;> simp only [Nat.zero_testBit]
      cases inK (Int.ofNat i - w - 1) with
      | none => simp
      | some k =>
        simp only [Nat.testBit_div_two_pow]
        exact tb_modW_hi _ (by omega)
    rw [z, Bool.or_false]
    cases inK (Int.ofNat i - w) with
    | none => simp
    | some k => simp only [Nat.testBit_mul_two_pow]; simp [h]
  · have e : 64 * (Int.ofNat i - w) + r - b = 64 * (Int.ofNat i - w - 1) + ((r + (64 - b) : Nat) : Int) := by omega
    rw [e, tbI_word a _ (by omega)]
    have : bp = true := by rw [hbp]; simp; omega
    subst this
    have z : (match inK (Int.ofNat i - w) with
      | some k => a k * 2 ^ b
      | none => 0).testBit r = false := by
      cases inK (Int.ofNat i - w) with
      | none => simp
      | some k => simp only [Nat.testBit_mul_two_pow]; simp [h]
    rw [z, Bool.false_or]
    cases inK (Int.ofNat i - w - 1) with
    | none => simp
    | some k => simp only [Nat.testBit_div_two_pow]; exact tb_modW _ (by omega)
theorem shO_nv (a : Nat → Nat) (w : Int) {b : Nat} (hb : b < 64) (bp : Bool) (hbp : bp = decide (0 < b)) {n : Int} (hn : n = 64 * w + b) : nv (shO a w b (64 - b) bp 6) = shiftN (nv a) n % R := by
  refine nv_of_bits fun i r hi hr => ?_
  rw [shO_at a w _ _ _ 6 i hi, shV_bits a w hb bp hbp i hr, shiftN_tb]
  congr 1
  simp only [Int.ofNat_eq_natCast]; omega

theorem places : ∀ k : Fin 767, bitsI .and ((k.val : Int) - 383) 63 = Int.ofNat (((k.val : Int) - 383) % 64).toNat ∧ ((k.val : Int) - 383).fdiv (2 ^ 6) = ((k.val : Int) - 383) / 64 := by decide +kernel

/-! a bit set -/
theorem setbit (o : Nat → Nat) {i j : Nat} : Nat.testBit (upd o (i / 64) (o (i / 64) ||| 1 * 2 ^ min (i % 64) 64) (j / 64)) (j % 64) = (Nat.testBit (o (j / 64)) (j % 64) || decide (i = j)) := by
  by_cases h : j / 64 = i / 64
  · rw [h, upd_same, Nat.testBit_or, Nat.one_mul, Nat.min_eq_left (by omega), Nat.testBit_two_pow]
    congr 1
    rw [Bool.eq_iff_iff, decide_eq_true_eq, decide_eq_true_eq]; omega
  · rw [upd_ne _ _ h]
    have : ¬ i = j := fun e => h (by rw [e])
    simp [this]
theorem shift_far (N : Nat) (hN : N < R) {n : Int} (h : n ≤ -384 ∨ 384 ≤ n) : shiftN N n % R = 0 := by
  have hR : R = 2 ^ E := R_pow
  cases n with
  | ofNat n =>
    simp only [Int.ofNat_eq_natCast] at h
    have : n = E + (n - E) := by rw [E_eq]; omega
    simp only [shiftN]
    rw [this, Nat.pow_add, ← hR, ← Nat.mul_assoc, Nat.mul_right_comm, Nat.mul_mod_left]
  | negSucc m =>
    simp only [shiftN]
    have : N / 2 ^ (m + 1) = 0 := by
      refine Nat.div_eq_of_lt (Nat.lt_of_lt_of_le hN ?_)
      rw [hR]; exact Nat.pow_le_pow_right (by omega) (by rw [E_eq]; omega)
    rw [this]; rfl
end Go.Rq

/- Numbers of six words: division, bit by bit. -/
namespace Go.Rq

def predI : Nat → Int
  | 0 => -1
  | k + 1 => Int.ofNat k
theorem predI_eq {k : Nat} (h : k < 9223372036854775808) : wrapI (Int.ofNat k - 1) = predI k := by
  have : Int.ofNat k - 1 = predI k := by
    cases k with
    | zero => rfl
    | succ k => simp only [predI, Int.ofNat_eq_natCast]; omega
  rw [this]
  refine wrapI_id ?_ ?_ <;> (cases k <;> simp only [predI, Int.ofNat_eq_natCast] <;> omega)

theorem eqN_zero (m : Nat) (f : Nat → Nat) : eqN m 6 f (fun _ => 0) = true ↔ ∀ i, i < 6 → f i % m = 0 := by
  rw [eqN_iff]
  simp only [Nat.zero_mod]
theorem nv_zero (f : Nat → Nat) : nv f = 0 ↔ ∀ i, i < 6 → f i % W = 0 := by
  constructor
  · intro h i hi
    have := wd_nv f i hi
    rw [h] at this
    rw [← this]; simp [wd]
  · intro h
    unfold nv
    rw [h 0 (by omega), h 1 (by omega), h 2 (by omega), h 3 (by omega), h 4 (by omega), h 5 (by omega)]
    rfl
theorem eqN_nv (f : Nat → Nat) : eqN W 6 f (fun _ => 0) = Nat.beq (nv f) 0 := by
  rw [Bool.eq_iff_iff, eqN_zero, Nat.beq_eq, nv_zero]

theorem two_le {n : Nat} (h : 1 ≤ n) : 2 ≤ 2 ^ n := Nat.pow_le_pow_right (n := 2) (i := 1) (by omega) h
theorem or_bit {x k : Nat} (h : x % 2 ^ (k + 1) = 0) : x ||| 2 ^ k = x + 2 ^ k := by
  have e : x = 2 ^ (k + 1) * (x / 2 ^ (k + 1)) := by
    have := Nat.div_add_mod x (2 ^ (k + 1)); omega
  have := Nat.two_pow_add_eq_or_of_lt (i := k + 1) (b := 2 ^ k) (Nat.pow_lt_pow_right (by omega) (by omega)) (x / 2 ^ (k + 1))
  rw [← e] at this
  exact this.symm
theorem setbit_nv (o : Nat → Nat) {k : Nat} (hk : k < 384) : nv (upd o (k / 64) (o (k / 64) ||| 1 * 2 ^ min (k % 64) 64)) = nv o ||| 2 ^ k := by
  have hlt : nv o ||| 2 ^ k < R := by
    rw [R_pow]
    refine Nat.or_lt_two_pow ?_ (Nat.pow_lt_pow_right (by omega) (by rw [E_eq]; omega))
    rw [← R_pow]; exact nv_lt o
  rw [← Nat.mod_eq_of_lt hlt]
  refine nv_of_bits fun i r hi hr => ?_
  have := setbit o (i := k) (j := 64 * i + r)
  rw [show (64 * i + r) / 64 = i by omega, show (64 * i + r) % 64 = r by omega] at this
  rw [this, Nat.testBit_or, tb_word o hi hr, Nat.testBit_two_pow]
theorem setlow_nv (o : Nat → Nat) {d : Nat} (hd : d < 2) (he : nv o % 2 = 0) : nv (upd o 0 (o 0 ||| d)) = nv o + d := by
  have e : nv o ||| d = nv o + d := by
    have := Nat.two_pow_add_eq_or_of_lt (i := 1) (b := d) (by omega) (nv o / 2)
    rw [show 2 ^ 1 * (nv o / 2) = nv o by omega] at this
    exact this.symm
  have hlt : nv o ||| d < R := by
    rw [R_pow]
    refine Nat.or_lt_two_pow ?_ (Nat.lt_of_lt_of_le hd (two_le (by rw [E_eq]; omega)))
    rw [← R_pow]; exact nv_lt o
  rw [← e, ← Nat.mod_eq_of_lt hlt]
  refine nv_of_bits fun i r hi hr => ?_
  rw [Nat.testBit_or, tb_word o hi hr]
  by_cases h0 : i = 0
  · subst h0; rw [upd_same, Nat.testBit_or, Nat.mul_zero, Nat.zero_add]
  · rw [upd_ne _ _ h0]
    have : Nat.testBit d (64 * i + r) = false := Nat.testBit_lt_two_pow (Nat.lt_of_lt_of_le hd (two_le (by omega)))
    rw [this, Bool.or_false]
theorem top_bit (r : Nat → Nat) : Nat.beq (r 5 % W / 2 ^ min 63 64 % W) (1 % W) = Nat.ble R (2 * nv r) := by
  have h := nv_lt r
  have hr : nv r = nvn r 5 + W ^ 5 * (r 5 % W) := nv_nvn r
  have hl := nvn_lt r 5
  have hw : r 5 % W < W := Nat.mod_lt _ (by decide)
  rw [Bool.eq_iff_iff, Nat.beq_eq, Nat.ble_eq]
  rw [hr, show 2 ^ min 63 64 = 9223372036854775808 by decide]
  generalize nvn r 5 = x at *
  generalize r 5 % W = y at *
  simp only [R, W] at *
  omega

/-- What holds of a division of which k bits are still to come. -/
structure DivI (A B k q r : Nat) : Prop where
  rest : r < B
  quo : ∃ Q, q = Q * 2 ^ k ∧ A / 2 ^ k = Q * B + r
theorem DivI.start {A B k : Nat} (hB : 0 < B) (h : A < 2 ^ k) : DivI A B k 0 0 :=
  ⟨hB, 0, by simp, by rw [Nat.div_eq_of_lt h]; simp⟩
theorem DivI.fin {A B q r : Nat} (h : DivI A B 0 q r) : q = A / B ∧ r = A % B := by
  obtain ⟨hr, Q, hq, hA⟩ := h
  simp only [Nat.pow_zero, Nat.mul_one, Nat.div_one] at hq hA
  subst hq
  have hB : 0 < B := by omega
  refine ⟨?_, ?_⟩
  · rw [hA, Nat.mul_comm, Nat.mul_add_div hB, Nat.div_eq_of_lt hr, Nat.add_zero]
  · rw [hA, Nat.mul_comm, Nat.mul_add_mod, Nat.mod_eq_of_lt hr]
theorem DivI.no {A B k q r : Nat} (h : DivI A B (k + 1) q r) (hb : 2 * r + A / 2 ^ k % 2 < B) : DivI A B k q (2 * r + A / 2 ^ k % 2) := by
  obtain ⟨hr, Q, hq, hA⟩ := h
  refine ⟨hb, 2 * Q, by rw [hq, Nat.pow_succ', ← Nat.mul_assoc, Nat.mul_comm Q 2], ?_⟩
  have e : A / 2 ^ (k + 1) = A / 2 ^ k / 2 := by rw [Nat.pow_succ, Nat.div_div_eq_div_mul]
  rw [e] at hA
  rw [Nat.mul_assoc]
  omega
theorem DivI.yes {A B k q r : Nat} (h : DivI A B (k + 1) q r) (hb : B ≤ 2 * r + A / 2 ^ k % 2) : DivI A B k (q + 2 ^ k) (2 * r + A / 2 ^ k % 2 - B) ∧ q % 2 ^ (k + 1) = 0 := by
  obtain ⟨hr, Q, hq, hA⟩ := h
  have e : A / 2 ^ (k + 1) = A / 2 ^ k / 2 := by rw [Nat.pow_succ, Nat.div_div_eq_div_mul]
  rw [e] at hA
  refine ⟨⟨by omega, 2 * Q + 1, ?_, ?_⟩, by rw [hq, Nat.mul_mod_left]⟩
  · rw [hq, Nat.pow_succ', ← Nat.mul_assoc, Nat.mul_comm Q 2, Nat.add_mul, Nat.one_mul]
  · rw [Nat.add_mul, Nat.one_mul, Nat.mul_assoc]
    omega

/-- What is left after a bit was shifted in: as the code has it. -/
def dBit (A k : Nat) : Nat := toU .u64 (bitI A (Int.ofNat k))
theorem dBit_eq (A k : Nat) : dBit A k = A / 2 ^ k % 2 := by
  show (A / 2 ^ k % 2) % W = _
  rw [Nat.mod_eq_of_lt]; have : A / 2 ^ k % 2 < 2 := Nat.mod_lt _ (by decide)
  simp only [W]; omega
def dIn (N A k : Nat) : Nat → Nat := upd (wd N) 0 (wd N 0 ||| dBit A k)
theorem dIn_nv {r A k N : Nat} (hN : N = 2 * r % R) : nv (dIn N A k) = 2 * r % R + A / 2 ^ k % 2 := by
  have hR : R % 2 = 0 := by decide
  have hlt : 2 * r % R < R := Nat.mod_lt _ (by decide)
  have hev : 2 * r % R % 2 = 0 := by
    rw [Nat.mod_mod_of_dvd _ (Nat.dvd_of_mod_eq_zero hR)]; omega
  unfold dIn
  rw [dBit_eq, setlow_nv (wd N) (Nat.mod_lt _ (by decide))]
  · rw [nv_wd, hN, Nat.mod_mod]
  · rw [nv_wd, hN, Nat.mod_mod]; exact hev
/-- The step's two ends. -/
theorem div_step {A B k : Nat} {q r : Nat → Nat} (h : DivI A B (k + 1) (nv q) (nv r)) (hB : B < R) (hk : k < 384) {N : Nat} (hN : N = 2 * nv r % R) :
    (R ≤ 2 * nv r ∨ B ≤ nv (dIn N A k) → DivI A B k (nv (upd q (k / 64) (q (k / 64) ||| 1 * 2 ^ min (k % 64) 64))) (nv (wd ((nv (dIn N A k) + R - B) % R)))) ∧
    (¬ R ≤ 2 * nv r → ¬ B ≤ nv (dIn N A k) → DivI A B k (nv q) (nv (dIn N A k))) := by
  have hd : A / 2 ^ k % 2 < 2 := Nat.mod_lt _ (by decide)
  have hev : R % 2 = 0 := by decide
  have hr := nv_lt r
  have hrest := h.rest
  rw [dIn_nv hN]
  constructor
  · intro hc
    have hge : B ≤ 2 * nv r + A / 2 ^ k % 2 := by
      rcases hc with hc | hc
      · omega
      · by_cases ht : R ≤ 2 * nv r
        · omega
        · rw [Nat.mod_eq_of_lt (by omega)] at hc; exact hc
    obtain ⟨h1, h2⟩ := h.yes hge
    rw [setbit_nv q hk, or_bit h2, nv_wd, Nat.mod_mod]
    have e : (2 * nv r % R + A / 2 ^ k % 2 + R - B) % R = 2 * nv r + A / 2 ^ k % 2 - B := by
      generalize A / 2 ^ k % 2 = d at *
      by_cases ht : R ≤ 2 * nv r
      · have : 2 * nv r % R = 2 * nv r - R := by
          rw [Nat.mod_eq_sub_mod ht, Nat.mod_eq_of_lt (by omega)]
        rw [this, show 2 * nv r - R + d + R - B = 2 * nv r + d - B by omega, Nat.mod_eq_of_lt (by omega)]
      · rw [Nat.mod_eq_of_lt (a := 2 * nv r) (by omega), show 2 * nv r + d + R - B = 2 * nv r + d - B + R by omega, Nat.add_mod_right, Nat.mod_eq_of_lt (by omega)]
    rw [e]; exact h1
  · intro h1 h2
    rw [Nat.mod_eq_of_lt (by omega)] at h2 ⊢
    exact h.no (by omega)
theorem cmp_ge (x y : Nat) : (!ilt (cmpI x y) 0) = Nat.ble y x := by
  unfold cmpI
  cases h1 : Nat.blt x y
  · have n1 : ¬ x < y := by rw [← Nat.blt_eq, h1]; simp
    have : Nat.ble y x = true := by rw [Nat.ble_eq]; omega
    rw [this]
    cases Nat.blt y x <;> rfl
  · have n1 : x < y := by rw [← Nat.blt_eq, h1]
    have : Nat.ble y x = false := by rw [← Bool.not_eq_true, Nat.ble_eq]; omega
    rw [this]; rfl
theorem lt_blen (n : Nat) : n < 2 ^ blen n := by
  by_cases h : n = 0
  · subst h; rw [blen_zero]; decide
  · exact (blen_bounds h).2
end Go.Rq

/- Numbers of six words: products. -/
namespace Go.Rq

/-- A sum of digits to base B. -/
def sB (B : Nat) (f : Nat → Nat) : Nat → Nat
  | 0 => 0
  | i + 1 => sB B f i + B ^ i * (f i % W)
theorem sB_W (f : Nat → Nat) : ∀ i, sB W f i = nvn f i
  | 0 => rfl
  | i + 1 => by simp only [sB, nvn, sB_W f i]
theorem sB_congr {B : Nat} {f g : Nat → Nat} : ∀ {i}, (∀ j, j < i → f j % W = g j % W) → sB B f i = sB B g i
  | 0, _ => rfl
  | i + 1, h => by simp only [sB]; rw [sB_congr (i := i) fun j hj => h j (by omega), h i (by omega)]
theorem sB_upd_hi {B : Nat} (f : Nat → Nat) {j m x : Nat} (h : m ≤ j) : sB B (upd f j x) m = sB B f m :=
  sB_congr fun i hi => by rw [upd_ne _ _ (by omega)]
theorem sB_upd {B : Nat} (f : Nat → Nat) {j x : Nat} : ∀ {m}, j < m → sB B (upd f j x) m + B ^ j * (f j % W) = sB B f m + B ^ j * (x % W)
  | m + 1, h => by
    simp only [sB]
    by_cases e : j = m
    · subst e; rw [upd_same, sB_upd_hi f (Nat.le_refl _)]; omega
    · have := sB_upd (B := B) f (j := j) (x := x) (m := m) (by omega)
      rw [upd_ne _ _ (show m ≠ j by omega)]
      omega

/-- A row of a product, after k digits. -/
structure RowI (B : Nat) (x y : Nat → Nat) (n i k : Nat) (all : Nat → Nat) (c : Nat) : Prop where
  val : sB B all (i + n) + B ^ (i + k) * c = sB B x i * sB B y n + B ^ i * (x i % W) * sB B y k
  small : ∀ j, all j % W < B
  carry : c < B
theorem RowI.start {B : Nat} {x y all : Nat → Nat} {n i : Nat} (hB : 0 < B) (h : sB B all (i + n) = sB B x i * sB B y n) (hs : ∀ j, all j % W < B) : RowI B x y n i 0 all 0 :=
  ⟨by simp [sB, h], hs, hB⟩
theorem RowI.step {B : Nat} {x y all : Nat → Nat} {n i k c l c' : Nat} (h : RowI B x y n i k all c) (hk : k < n) (e : l % W + B * c' = all (i + k) % W + c + x i % W * (y k % W)) (hl : l % W < B) (hc : c' < B) :
    RowI B x y n i (k + 1) (upd all (i + k) l) c' := by
  refine ⟨?_, fun j => ?_, hc⟩
  · have h1 := sB_upd (B := B) all (j := i + k) (x := l) (m := i + n) (by omega)
    have h2 := h.val
    simp only [sB]
    rw [Nat.mul_add, ← Nat.add_assoc (sB B x i * sB B y n), ← h2]
    have e3 : B ^ (i + (k + 1)) * c' = B ^ (i + k) * (B * c') := by rw [← Nat.add_assoc, Nat.pow_succ, Nat.mul_assoc]
    have e4 : B ^ i * (x i % W) * (B ^ k * (y k % W)) = B ^ (i + k) * (x i % W * (y k % W)) := by
      rw [Nat.pow_add]; simp only [Nat.mul_assoc, Nat.mul_left_comm, Nat.mul_comm]
    rw [e3, e4]
    have e5 : B ^ (i + k) * (l % W) + B ^ (i + k) * (B * c') = B ^ (i + k) * (all (i + k) % W) + B ^ (i + k) * c + B ^ (i + k) * (x i % W * (y k % W)) := by
      rw [← Nat.mul_add, ← Nat.mul_add, ← Nat.mul_add, e]
    omega
  · by_cases hj : j = i + k
    · subst hj; rw [upd_same]; exact hl
    · rw [upd_ne _ _ hj]; exact h.small j
theorem RowI.fin {B : Nat} {x y all : Nat → Nat} {n i c : Nat} (h : RowI B x y n i n all c) (hB : B ≤ W) : sB B (upd all (i + n) c) (i + 1 + n) = sB B x (i + 1) * sB B y n ∧ ∀ j, upd all (i + n) c j % W < B := by
  have hcW : c % W = c := Nat.mod_eq_of_lt (Nat.lt_of_lt_of_le h.carry hB)
  refine ⟨?_, fun j => ?_⟩
  · rw [show i + 1 + n = i + n + 1 by omega]
    simp only [sB]
    rw [upd_same, sB_upd_hi all (Nat.le_refl _), hcW, h.val, Nat.add_mul]
  · by_cases hj : j = i + n
    · subst hj; rw [upd_same, hcW]; exact h.carry
    · rw [upd_ne _ _ hj]; exact h.small j

/-! the words' step: two sums of products -/
def mLo1 (x y p : Nat) : Nat := x * y + p + 0
def mC1 (x y p : Nat) : Nat := (x * y % W + p % W + 0 % W) / W
def mLo (x y p c : Nat) : Nat := x * y + p + 0 + c + 0
def mC2 (x y p c : Nat) : Nat := ((x * y + p + 0) % W + c % W + 0 % W) / W
def mHi (x y p c : Nat) : Nat := x % W * (y % W) / W + mC1 x y p + mC2 x y p c
theorem m_step {x y p c : Nat} (hc : c < W) : mLo x y p c % W + W * mHi x y p c = p % W + c + x % W * (y % W) ∧ mHi x y p c < W := by
  have hx : x % W < W := Nat.mod_lt _ (by decide)
  have hy : y % W < W := Nat.mod_lt _ (by decide)
  have hp : p % W < W := Nat.mod_lt _ (by decide)
  have hxy : x * y % W = x % W * (y % W) % W := Nat.mul_mod _ _ _
  have hub : x % W * (y % W) ≤ (W - 1) * (W - 1) := Nat.mul_le_mul (by omega) (by omega)
  unfold mLo mHi mC1 mC2
  have e0 : (x * y + p + 0 + c + 0) % W = (x * y % W + p % W + c) % W := by simp only [W]; omega
  have e1 : (x * y + p + 0) % W = (x * y % W + p % W) % W := by simp only [W]; omega
  rw [e0, e1, hxy]
  generalize x % W * (y % W) = t at *
  generalize p % W = q at *
  simp only [W] at *
  omega

/-! the two halves of twelve words -/
theorem sB_add (B : Nat) (f : Nat → Nat) (m : Nat) : ∀ k, sB B f (m + k) = sB B f m + B ^ m * sB B (fun j => f (m + j)) k
  | 0 => by simp [sB]
  | k + 1 => by
    rw [← Nat.add_assoc]
    simp only [sB]
    rw [sB_add B f m k, Nat.mul_add, Nat.pow_add, Nat.mul_assoc, Nat.add_assoc]
theorem sB_split (f : Nat → Nat) : sB W f 12 = nv f + R * nv (fun j => f (6 + j)) := by
  rw [show 12 = 6 + 6 from rfl, sB_add, sB_W, sB_W, ← nv_nvn, ← nv_nvn, ← R_eq]
theorem mul_halves {a b all : Nat → Nat} (h : sB W all 12 = sB W a 6 * sB W b 6) : nv all = nv a * nv b % R ∧ nv (fun j => all (6 + j)) = nv a * nv b / R := by
  rw [sB_split, sB_W, sB_W, ← nv_nvn, ← nv_nvn] at h
  have h1 := nv_lt all
  rw [← h]
  refine ⟨by rw [Nat.add_mul_mod_self_left, Nat.mod_eq_of_lt h1], by rw [Nat.add_mul_div_left _ _ (by decide), Nat.div_eq_of_lt h1, Nat.zero_add]⟩

/-! halves of words -/
def B32 : Nat := 4294967296
def hO (a : Nat → Nat) : Nat → (Nat → Nat)
  | 0 => fun _ => 0
  | i + 1 => upd (upd (hO a i) (2 * i) (a i &&& 4294967295)) (2 * i + 1) (a i % W / 2 ^ min 32 64)
theorem hO_at (a : Nat → Nat) : ∀ n i, i < n → hO a n (2 * i) = a i % B32 ∧ hO a n (2 * i + 1) = a i % W / B32
  | n + 1, i, h => by
    simp only [hO]
    by_cases e : i = n
    · subst e
      rw [upd_ne _ _ (show 2 * i ≠ 2 * i + 1 by omega), upd_same, upd_same, and_mask]
      exact ⟨rfl, rfl⟩
    · rw [upd_ne _ _ (show 2 * i ≠ 2 * n + 1 by omega), upd_ne _ _ (show 2 * i ≠ 2 * n by omega), upd_ne _ _ (show 2 * i + 1 ≠ 2 * n + 1 by omega), upd_ne _ _ (show 2 * i + 1 ≠ 2 * n by omega)]
      exact hO_at a n i (by omega)
theorem hO_small (a : Nat → Nat) : ∀ n j, hO a n j < B32
  | 0, _ => Nat.zero_lt_of_lt (show 1 < B32 by decide)
  | n + 1, j => by
    simp only [hO]
    by_cases e : j = 2 * n + 1
    · subst e; rw [upd_same]
      have := Nat.mod_lt (a n) (show 0 < W by decide)
      rw [show min 32 64 = 32 from rfl]
      simp only [W, B32] at *; omega
    · rw [upd_ne _ _ e]
      by_cases e2 : j = 2 * n
      · subst e2; rw [upd_same, and_mask]; exact Nat.mod_lt _ (by decide)
      · rw [upd_ne _ _ e2]; exact hO_small a n j
/-- Two digits make one. -/
theorem sB_pair (B : Nat) (f g : Nat → Nat) : ∀ n, (∀ i, i < n → g i % W = f (2 * i) % W + B * (f (2 * i + 1) % W)) → sB (B * B) g n = sB B f (2 * n)
  | 0, _ => rfl
  | n + 1, h => by
    have ih := sB_pair B f g n fun i hi => h i (by omega)
    have e : 2 * (n + 1) = 2 * n + 1 + 1 := by omega
    rw [e]
    simp only [sB]
    rw [ih, h n (by omega), Nat.mul_add, ← Nat.pow_two, ← Nat.pow_mul, Nat.pow_succ B (2 * n), Nat.mul_assoc]
    omega
theorem hO_nv (a : Nat → Nat) : sB B32 (hO a 6) 12 = nv a := by
  have := sB_pair B32 (hO a 6) a 6 fun i hi => by
    have h := hO_at a 6 i hi
    have h1 := hO_small a 6 (2 * i)
    have h2 := hO_small a 6 (2 * i + 1)
    rw [h.1] at h1
    rw [h.2] at h2
    rw [h.1, h.2]
    simp only [B32, W] at *
    omega
  rw [show 12 = 2 * 6 from rfl, ← this, show B32 * B32 = W by decide, sB_W, ← nv_nvn]

def tS (x y p c : Nat) : Nat := x * y + p + c
theorem s_step {x y p c : Nat} (hx : x % W < B32) (hy : y % W < B32) (hp : p % W < B32) (hc : c < B32) :
    (tS x y p c &&& 4294967295) % W + B32 * (tS x y p c % W / 2 ^ min 32 64) = p % W + c + x % W * (y % W) ∧ (tS x y p c &&& 4294967295) % W < B32 ∧ tS x y p c % W / 2 ^ min 32 64 < B32 := by
  have hub : x % W * (y % W) ≤ (B32 - 1) * (B32 - 1) := Nat.mul_le_mul (by omega) (by omega)
  have e : tS x y p c % W = x % W * (y % W) + p % W + c := by
    unfold tS
    rw [Nat.add_mod, Nat.add_mod (x * y), Nat.mul_mod]
    generalize x % W * (y % W) = t at *
    generalize p % W = q at *
    simp only [B32, W] at *
    omega
  rw [and_mask, show min 32 64 = 32 from rfl]
  have e2 : tS x y p c % 4294967296 = tS x y p c % W % 4294967296 := (Nat.mod_mod_of_dvd _ ⟨4294967296, by decide⟩).symm
  rw [e2, e]
  generalize x % W * (y % W) = t at *
  generalize p % W = q at *
  simp only [B32, W] at *
  omega

def jO (p : Nat → Nat) (o : Nat) : Nat → (Nat → Nat)
  | 0 => fun _ => 0
  | i + 1 => upd (jO p o i) i (p (2 * i + o) ||| p (2 * i + o + 1) * 2 ^ min 32 64)
theorem jO_at (p : Nat → Nat) (o : Nat) : ∀ n i, i < n → jO p o n i = p (2 * i + o) ||| p (2 * i + o + 1) * 2 ^ min 32 64
  | n + 1, i, h => by
    simp only [jO]
    by_cases e : i = n
    · subst e; rw [upd_same]
    · rw [upd_ne _ _ e]; exact jO_at p o n i (by omega)
theorem or_word {x y : Nat} (hx : x % W < B32) (hy : y % W < B32) : (x ||| y * 2 ^ min 32 64) % W = x % W + B32 * (y % W) := by
  have hW : W = 2 ^ 64 := by decide
  rw [show min 32 64 = 32 from rfl]
  have e1 : (x ||| y * 2 ^ 32) % W = x % W ||| (y * 2 ^ 32) % W := by
    rw [hW]; exact Nat.or_mod_two_pow
  have e2 : (y * 2 ^ 32) % W = 2 ^ 32 * (y % W) := by simp only [B32, W] at *; omega
  rw [e1, e2, Nat.or_comm, ← Nat.two_pow_add_eq_or_of_lt (by simp only [B32] at hx; exact hx)]
  simp only [B32, W] at *; omega
theorem jO_nv {p : Nat → Nat} (hs : ∀ j, p j % W < B32) (o : Nat) : nv (jO p o 6) = sB B32 (fun j => p (j + o)) 12 := by
  have := sB_pair B32 (fun j => p (j + o)) (jO p o 6) 6 fun i hi => by
    rw [jO_at p o 6 i hi, or_word (hs _) (hs _)]
    rw [show 2 * i + 1 + o = 2 * i + o + 1 by omega]
  rw [show 12 = 2 * 6 from rfl, ← this, show B32 * B32 = W by decide, sB_W, ← nv_nvn]
theorem mul_ends {p : Nat → Nat} {x y : Nat} (hs : ∀ j, p j % W < B32) (h : sB B32 p 24 = x * y) : nv (jO p 0 6) = x * y % R ∧ nv (jO p 12 6) = x * y / R := by
  rw [show 24 = 12 + 12 from rfl, sB_add] at h
  have hR : B32 ^ 12 = R := by decide
  have e0 := jO_nv hs 0
  have e1 := jO_nv hs 12
  simp only [Nat.add_zero] at e0
  have e2 : sB B32 (fun j => p (j + 12)) 12 = sB B32 (fun j => p (12 + j)) 12 := sB_congr fun j _ => by simp only [Nat.add_comm]
  rw [hR, ← e0, ← e2, ← e1] at h
  have h1 := nv_lt (jO p 0 6)
  rw [← h]
  exact ⟨by rw [Nat.add_mul_mod_self_left, Nat.mod_eq_of_lt h1], by rw [Nat.add_mul_div_left _ _ (by decide), Nat.div_eq_of_lt h1, Nat.zero_add]⟩
end Go.Rq

/- Digits: plain facts of numbers written to the base 16. -/
namespace Go.Rq
open Go

abbrev HEX : ByteArray := ⟨#[48, 49, 50, 51, 52, 53, 54, 55, 56, 57, 97, 98, 99, 100, 101, 102]⟩
def idxB (f : Nat → Nat) (c : Nat) : Nat → Nat → Int
  | 0, _ => -1
  | n + 1, i => bif Nat.beq (f i % 256) (c % 256) then Int.ofNat i else idxB f c n (i + 1)
theorem idxB_cases (f : Nat → Nat) (c : Nat) : ∀ n i, (idxB f c n i = -1 ∧ ∀ j, i ≤ j → j < i + n → f j % 256 ≠ c % 256) ∨ ∃ d, idxB f c n i = Int.ofNat d ∧ i ≤ d ∧ d < i + n ∧ f d % 256 = c % 256
  | 0, i => .inl ⟨rfl, fun j h1 h2 => by omega⟩
  | n + 1, i => by
    simp only [idxB]
    cases hb : Nat.beq (f i % 256) (c % 256)
    · have hne : f i % 256 ≠ c % 256 := fun e => by rw [← Nat.beq_eq, hb] at e; cases e
      rcases idxB_cases f c n (i + 1) with ⟨h1, h2⟩ | ⟨d, h1, h2, h3, h4⟩
      · refine .inl ⟨h1, fun j hj1 hj2 => ?_⟩
        by_cases e : j = i
        · subst e; exact hne
        · exact h2 j (by omega) (by omega)
      · exact .inr ⟨d, h1, by omega, by omega, h4⟩
    · exact .inr ⟨i, rfl, Nat.le_refl _, by omega, by rw [← Nat.beq_eq]; exact hb⟩

def hexI (c : Nat) : Int := idxB (byteAt HEX) c 16 0
def okH (c : Nat) : Bool := !ilt (hexI c) 0
def dig (c : Nat) : Nat := (hexI c).toNat
theorem okH_t {c : Nat} (h : okH c = true) : hexI c = Int.ofNat (dig c) ∧ dig c < 16 ∧ byteAt HEX (dig c) % 256 = c % 256 := by
  rcases idxB_cases (byteAt HEX) c 16 0 with ⟨h1, _⟩ | ⟨d, h1, h2, h3, h4⟩
  · have : hexI c = -1 := h1
    unfold okH at h; rw [this] at h; cases h
  · have e : hexI c = Int.ofNat d := h1
    have : dig c = d := by unfold dig; rw [e]; rfl
    rw [this]; exact ⟨e, by omega, h4⟩
theorem okH_f {c : Nat} (h : okH c = false) : hexI c = -1 := by
  rcases idxB_cases (byteAt HEX) c 16 0 with ⟨h1, _⟩ | ⟨d, h1, h2, h3, h4⟩
  · exact h1
  · have e : hexI c = Int.ofNat d := h1
    unfold okH at h; rw [e, (by rw [← Bool.not_eq_true, ilt_iff]; simp : ilt (Int.ofNat d) 0 = false)] at h; cases h

def horN (f : Nat → Nat) : Nat → Nat
  | 0 => 0
  | k + 1 => horN f k * 16 + dig (f k)
def allH (f : Nat → Nat) : Nat → Bool
  | 0 => true
  | k + 1 => allH f k && okH (f k)
theorem allH_le {f : Nat → Nat} {n : Nat} (h : allH f n = true) : ∀ k, k ≤ n → allH f k = true := by
  induction n with
  | zero => intro k hk; have : k = 0 := by omega
            subst this; rfl
  | succ n ih =>
    intro k hk
    simp only [allH, Bool.and_eq_true] at h
    by_cases e : k = n + 1
    · subst e; simp only [allH, Bool.and_eq_true]; exact h
    · exact ih h.1 k (by omega)
theorem allH_at {f : Nat → Nat} {n : Nat} (h : allH f n = true) {i : Nat} (hi : i < n) : okH (f i) = true := by
  have := allH_le h (i + 1) (by omega)
  simp only [allH, Bool.and_eq_true] at this
  exact this.2
theorem horN_lt {f : Nat → Nat} : ∀ {k : Nat}, allH f k = true → horN f k < 2 ^ (4 * k)
  | 0, _ => by simp [horN]
  | k + 1, h => by
    simp only [allH, Bool.and_eq_true] at h
    have := horN_lt h.1
    have hd := (okH_t h.2).2.1
    simp only [horN]
    rw [show 4 * (k + 1) = 4 * k + 4 by omega, Nat.pow_add]
    omega
theorem horN_ltR {f : Nat → Nat} {k : Nat} (hk : k ≤ 96) (h : allH f k = true) : horN f k < R := by
  rw [R_pow]
  exact Nat.lt_of_lt_of_le (horN_lt h) (Nat.pow_le_pow_right (by omega) (by rw [E_eq]; omega))

/-- What a text is read as, and whether. -/
def parE (n : Nat) (f : Nat → Nat) : Int :=
  bif Nat.blt 96 n then 3 else bif Nat.beq n 0 || (Nat.beq (f 0 % 256) 48 && !Nat.beq n 1) then 4 else bif allH f n then 0 else 4
def parV (n : Nat) (f : Nat → Nat) : Nat := bif ieq (parE n f) 0 then horN f n else 0

theorem setlow4_nv (o : Nat → Nat) {d : Nat} (hd : d < 16) (he : nv o % 16 = 0) : nv (upd o 0 (o 0 ||| d)) = nv o + d := by
  have e : nv o ||| d = nv o + d := by
    have := Nat.two_pow_add_eq_or_of_lt (i := 4) (b := d) (by omega) (nv o / 16)
    rw [show 2 ^ 4 * (nv o / 16) = nv o by omega] at this
    exact this.symm
  have h16 : ∀ {n}, 4 ≤ n → 16 ≤ 2 ^ n := fun {n} h => Nat.pow_le_pow_right (n := 2) (i := 4) (by omega) h
  have hlt : nv o ||| d < R := by
    rw [R_pow]
    refine Nat.or_lt_two_pow ?_ (Nat.lt_of_lt_of_le hd (h16 (by rw [E_eq]; omega)))
    rw [← R_pow]; exact nv_lt o
  rw [← e, ← Nat.mod_eq_of_lt hlt]
  refine nv_of_bits fun i r hi hr => ?_
  rw [Nat.testBit_or, tb_word o hi hr]
  by_cases h0 : i = 0
  · subst h0; rw [upd_same, Nat.testBit_or, Nat.mul_zero, Nat.zero_add]
  · rw [upd_ne _ _ h0]
    have : Nat.testBit d (64 * i + r) = false := Nat.testBit_lt_two_pow (Nat.lt_of_lt_of_le hd (h16 (by omega)))
    rw [this, Bool.or_false]

/-- A digit more. -/
def pIn (N : Nat) (d : Nat) : Nat → Nat := upd (wd N) 0 (wd N 0 ||| d)
theorem pIn_nv {x d N : Nat} (hN : N = x * 16 % R) (hx : x * 16 < R) (hd : d < 16) : nv (pIn N d) = x * 16 + d := by
  have e : nv (wd N) = x * 16 := by rw [nv_wd, hN, Nat.mod_mod, Nat.mod_eq_of_lt hx]
  unfold pIn
  rw [setlow4_nv _ hd (by rw [e]; omega), e]

theorem bytesF_congr {n : Nat} {f g : Nat → Nat} (h : ∀ j, j < n → f j % 256 = g j % 256) : bytesF n f = bytesF n g := by
  unfold bytesF
  congr 2
  refine List.map_congr_left fun j hj => ?_
  apply UInt8.toNat_inj.1
  simpa using h j (List.mem_range.1 hj)

/-! a number's digits -/
def tB1 (N : Nat) : Nat := bif Nat.ble (blen N) 1 then 1 else blen N
def tLen (N : Nat) : Nat := (tB1 N - 1) / 4 + 1
def txF (N : Nat) (L : Nat) : Nat → Nat := fun j => byteAt HEX (N / 2 ^ (4 * (L - 1 - j)) % 16)
def DG (a : Nat → Nat) (i : Nat) : Nat := a (i / 16) % W / 2 ^ min (4 * (i % 16)) 64 &&& 15
theorem DG_eq (a : Nat → Nat) {i : Nat} (h : i < 96) : DG a i = nv a / 2 ^ (4 * i) % 16 ∧ DG a i < 16 := by
  have hm : min (4 * (i % 16)) 64 = 4 * (i % 16) := by omega
  have e16 : ∀ x : Nat, x &&& 15 = x % 16 := fun x => Nat.and_two_pow_sub_one_eq_mod x 4
  unfold DG
  rw [hm, e16]
  refine ⟨?_, Nat.mod_lt _ (by omega)⟩
  apply Nat.eq_of_testBit_eq
  intro j
  show Nat.testBit (_ % 2 ^ 4) j = Nat.testBit (_ % 2 ^ 4) j
  rw [Nat.testBit_mod_two_pow, Nat.testBit_mod_two_pow, Nat.testBit_div_two_pow, Nat.testBit_div_two_pow]
  by_cases hj : j < 4
  · simp only [hj, decide_true, Bool.true_and]
    have := tb_word a (k := i / 16) (r := 4 * (i % 16) + j) (by omega) (by omega)
    rw [show j + 4 * i = 64 * (i / 16) + (4 * (i % 16) + j) by omega, this, tb_modW _ (by omega)]
    congr 1; omega
  · simp [hj]
theorem tdiv16 : ∀ i : Fin 96, wrapI ((Int.ofNat i.val).tdiv 16) = Int.ofNat (i.val / 16) := by decide +kernel
theorem tmod16 : ∀ i : Fin 96, (Int.ofNat i.val).tmod 16 = Int.ofNat (i.val % 16) := by decide +kernel
theorem mul4 : ∀ i : Fin 16, wrapI (4 * Int.ofNat i.val) = Int.ofNat (4 * i.val) := by decide +kernel
theorem tdiv4 : ∀ i : Fin 384, wrapI ((Int.ofNat i.val).tdiv 4) = Int.ofNat (i.val / 4) := by decide +kernel
theorem tB1_le {N : Nat} (h : N < R) : 1 ≤ tB1 N ∧ tB1 N ≤ 384 := by
  have hb : blen N ≤ 384 := by
    rw [R_pow] at h
    have := blen_lt h
    rw [E_eq] at this; exact this
  unfold tB1
  cases hc : Nat.ble (blen N) 1
  · have : ¬ blen N ≤ 1 := by rw [← Nat.ble_eq, hc]; simp
    simp only [cond_false]; omega
  · simp only [cond_true]; omega
theorem tLen_le {N : Nat} (h : N < R) : 1 ≤ tLen N ∧ tLen N ≤ 96 := by
  have := tB1_le h
  unfold tLen
  omega
/-- The first digit is no 0, but of the number 0 alone. -/
theorem tLen_bounds {N : Nat} : N < 2 ^ (4 * tLen N) ∧ (N ≠ 0 → 2 ^ (4 * (tLen N - 1)) ≤ N) := by
  have hl := lt_blen N
  constructor
  · refine Nat.lt_of_lt_of_le hl (Nat.pow_le_pow_right (by omega) ?_)
    unfold tLen tB1
    cases hc : Nat.ble (blen N) 1
    · simp only [cond_false]; omega
    · rw [Nat.ble_eq] at hc; simp only [cond_true]; omega
  · intro h0
    have hb := (blen_bounds h0).1
    refine Nat.le_trans (Nat.pow_le_pow_right (by omega) ?_) hb
    unfold tLen tB1
    cases hc : Nat.ble (blen N) 1
    · simp only [cond_false]; omega
    · simp only [cond_true]; omega
end Go.Rq

/- Reduction word by word: plain facts. -/
namespace Go.Rq
open Go

/-- What makes 1 with R, by an odd N. -/
def rinv (N : Nat) : Nat := ((N + 1) / 2) ^ E % N
theorem rinv_spec {N : Nat} (h1 : N % 2 = 1) : R * rinv N % N = 1 % N := by
  unfold rinv
  rw [Nat.mul_mod, Nat.mod_mod, ← Nat.mul_mod, R_pow, ← Nat.mul_pow, show 2 * ((N + 1) / 2) = N + 1 by omega, Nat.pow_mod, Nat.add_mod_left]
  rw [← Nat.pow_mod, Nat.one_pow]
/-- What is told of x and y. -/
def montV (N x y : Nat) : Nat := x * y * rinv N % N
theorem mont_unique {N x y r : Nat} (h1 : N % 2 = 1) (hr : r < N) (h : r * R % N = x * y % N) : r = montV N x y := by
  have e1 : r * (R * rinv N) % N = r := by
    rw [Nat.mul_mod, rinv_spec h1, ← Nat.mul_mod, Nat.mul_one, Nat.mod_eq_of_lt hr]
  have e2 : r * (R * rinv N) % N = montV N x y := by
    unfold montV
    rw [← Nat.mul_assoc, Nat.mul_mod, h, ← Nat.mul_mod]
  rw [← e1, e2]
theorem montV_lt {N x y : Nat} (h : 0 < N) : montV N x y < N := Nat.mod_lt _ h

/-- A product word by word: T is told. -/
theorem mont_end {N A B T Q : Nat} (h1 : N % 2 = 1) (hN : 0 < N) (hA : A < R) (hB : B < R) (hAB : A < N ∨ B < N) (hQ : Q < R) (h : T * R = A * B + Q * N) :
    T < 2 * N ∧ (bif Nat.ble N T then T - N else T) = montV N A B := by
  have hlt : T < 2 * N := by
    refine Nat.lt_of_mul_lt_mul_right (a := R) ?_
    rw [h]
    have hRpos : 0 < R := by decide
    have h2 : Q * N < R * N := Nat.mul_lt_mul_of_pos_right hQ hN
    have h3 : A * B ≤ N * R := by
      rcases hAB with h | h
      · exact Nat.mul_le_mul (by omega) (by omega)
      · rw [Nat.mul_comm N]; exact Nat.mul_le_mul (by omega) (by omega)
    rw [show 2 * N * R = N * R + R * N by rw [Nat.mul_comm R, Nat.mul_assoc, Nat.two_mul]]
    omega
  have hmod : T * R % N = A * B % N := by rw [h, Nat.add_mul_mod_self_right]
  refine ⟨hlt, ?_⟩
  cases hb : Nat.ble N T
  · have : ¬ N ≤ T := by rw [← Nat.ble_eq, hb]; simp
    simp only [cond_false]
    exact mont_unique h1 (by omega) hmod
  · rw [Nat.ble_eq] at hb
    refine mont_unique h1 (by simp only [cond_true]; omega) ?_
    simp only [cond_true]
    rw [← hmod, show T * R = (T - N) * R + R * N by rw [Nat.mul_comm R, ← Nat.add_mul]; congr 1; omega, Nat.add_mul_mod_self_right]

/-- A round: seven words of t, a word of a, all of b; q times n brings the lowest word to 0. -/
theorem mont_round {T S T2 x B q N : Nat} (h1 : S = T + x * B) (h2 : T2 * W = S + q * N) {i Ai Q : Nat} (hT : T * W ^ i = Ai * B + Q * N) (hQ : Q < W ^ i) (hq : q < W) :
    T2 * W ^ (i + 1) = (Ai + W ^ i * x) * B + (Q + q * W ^ i) * N ∧ Q + q * W ^ i < W ^ (i + 1) := by
  constructor
  · rw [Nat.pow_succ, show T2 * (W ^ i * W) = T2 * W * W ^ i by rw [Nat.mul_assoc, Nat.mul_comm W]]
    rw [h2, h1, Nat.add_mul, Nat.add_mul, hT, Nat.add_mul, Nat.add_mul]
    rw [show x * B * W ^ i = W ^ i * x * B by rw [Nat.mul_comm (x * B), Nat.mul_assoc], show q * N * W ^ i = q * W ^ i * N by rw [Nat.mul_assoc, Nat.mul_comm N, ← Nat.mul_assoc]]
    omega
  · have h3 : (q + 1) * W ^ i ≤ W * W ^ i := Nat.mul_le_mul_right _ hq
    rw [Nat.add_mul, Nat.one_mul] at h3
    rw [Nat.pow_succ, Nat.mul_comm (W ^ i) W]
    omega

/-- The words of a round, added up. -/
theorem mont_words {t0 t1 t2 t3 t4 t5 t6 b0 b1 b2 b3 b4 b5 x l0 l1 l2 l3 l4 l5 s6 s7 c1 c2 c3 c4 c5 c6 : Nat}
    (e0 : l0 + W * c1 = t0 + 0 + x * b0) (e1 : l1 + W * c2 = t1 + c1 + x * b1) (e2 : l2 + W * c3 = t2 + c2 + x * b2) (e3 : l3 + W * c4 = t3 + c3 + x * b3)
    (e4 : l4 + W * c5 = t4 + c4 + x * b4) (e5 : l5 + W * c6 = t5 + c5 + x * b5) (e6 : s6 + W * s7 = t6 + c6) :
    l0 + W * (l1 + W * (l2 + W * (l3 + W * (l4 + W * (l5 + W * (s6 + W * s7)))))) = t0 + W * (t1 + W * (t2 + W * (t3 + W * (t4 + W * (t5 + W * t6))))) + x * (b0 + W * (b1 + W * (b2 + W * (b3 + W * (b4 + W * b5))))) := by
  have hx : x * (b0 + W * (b1 + W * (b2 + W * (b3 + W * (b4 + W * b5))))) = x * b0 + W * (x * b1 + W * (x * b2 + W * (x * b3 + W * (x * b4 + W * (x * b5))))) := by
    grind
  rw [hx]
  generalize x * b0 = y0 at *
  generalize x * b1 = y1 at *
  generalize x * b2 = y2 at *
  generalize x * b3 = y3 at *
  generalize x * b4 = y4 at *
  generalize x * b5 = y5 at *
  simp only [W] at *
  omega
theorem mont_less {l0 l1 l2 l3 l4 l5 s6 s7 n0 n1 n2 n3 n4 n5 q d1 d2 d3 d4 d5 d6 m0 m1 m2 m3 m4 m5 m6 c : Nat}
    (e0 : W * d1 = l0 + q * n0) (e1 : m0 + W * d2 = l1 + d1 + q * n1) (e2 : m1 + W * d3 = l2 + d2 + q * n2) (e3 : m2 + W * d4 = l3 + d3 + q * n3)
    (e4 : m3 + W * d5 = l4 + d4 + q * n4) (e5 : m4 + W * d6 = l5 + d5 + q * n5) (e6 : m5 + W * c = s6 + d6) (e7 : m6 = s7 + c) :
    (m0 + W * (m1 + W * (m2 + W * (m3 + W * (m4 + W * (m5 + W * m6)))))) * W = l0 + W * (l1 + W * (l2 + W * (l3 + W * (l4 + W * (l5 + W * (s6 + W * s7)))))) + q * (n0 + W * (n1 + W * (n2 + W * (n3 + W * (n4 + W * n5))))) := by
  have hx : q * (n0 + W * (n1 + W * (n2 + W * (n3 + W * (n4 + W * n5))))) = q * n0 + W * (q * n1 + W * (q * n2 + W * (q * n3 + W * (q * n4 + W * (q * n5))))) := by
    grind
  rw [hx]
  generalize q * n0 = y0 at *
  generalize q * n1 = y1 at *
  generalize q * n2 = y2 at *
  generalize q * n3 = y3 at *
  generalize q * n4 = y4 at *
  generalize q * n5 = y5 at *
  simp only [W] at *
  omega
end Go.Rq

/- What is told by a modulus: plain facts. -/
namespace Go.Rq
open Go

theorem cg {N x y : Nat} (c : Nat) (h : x % N = y % N) : x * c % N = y * c % N := by rw [Nat.mul_mod, h, ← Nat.mul_mod]
theorem cg' {N x y : Nat} (c : Nat) (h : x % N = y % N) : c * x % N = c * y % N := by rw [Nat.mul_mod, h, ← Nat.mul_mod]
theorem ri_one {N : Nat} (h1 : N % 2 = 1) (x : Nat) : x * (R * rinv N) % N = x % N := by rw [cg' x (rinv_spec h1), Nat.mul_one]
theorem mont_in {N : Nat} (h1 : N % 2 = 1) (a : Nat) : montV N a (R * R % N) = a * R % N := by
  unfold montV
  rw [cg (rinv N) (cg' a (Nat.mod_mod (R * R) N)), show a * (R * R) * rinv N = a * R * (R * rinv N) by simp only [Nat.mul_assoc], ri_one h1]
theorem mont_out {N : Nat} (h1 : N % 2 = 1) (a b : Nat) : montV N (a * R % N) b = a * b % N := by
  unfold montV
  rw [cg (rinv N) (cg b (Nat.mod_mod (a * R) N)), show a * R * b * rinv N = a * b * (R * rinv N) by rw [Nat.mul_assoc a R b, Nat.mul_comm R b, ← Nat.mul_assoc, Nat.mul_assoc (a * b)], ri_one h1]
theorem mont_mul {N : Nat} (h1 : N % 2 = 1) (a b : Nat) : montV N (a * R % N) (b * R % N) = a * b * R % N := by
  rw [mont_out h1, cg' a (Nat.mod_mod (b * R) N), Nat.mul_assoc]

/-- What less tells. -/
def lessV (N a : Nat) : Nat := bif Nat.ble N a then a - N else a
theorem lessV_mod {N a : Nat} (h : a < 2 * N) : lessV N a = a % N := by
  unfold lessV
  cases hb : Nat.ble N a
  · have : ¬ N ≤ a := by rw [← Nat.ble_eq, hb]; simp
    simp only [cond_false]
    exact (Nat.mod_eq_of_lt (by omega)).symm
  · rw [Nat.ble_eq] at hb
    simp only [cond_true]
    rw [Nat.mod_eq_sub_mod hb, Nat.mod_eq_of_lt (by omega)]
def subM (N a b : Nat) : Nat := (a % N + (N - b % N)) % N
theorem sub_gen {r N a b : Nat} (ha : a < N) (hb : b < N) (h2 : 2 * N ≤ r) : (bif Nat.blt a b then ((a + r - b) % r + N) % r else (a + r - b) % r) = (a + (N - b)) % N := by
  cases hc : Nat.blt a b
  · have h : ¬ a < b := by rw [← Nat.blt_eq, hc]; simp
    simp only [cond_false]
    rw [show a + r - b = (a - b) + r by omega, Nat.add_mod_right, Nat.mod_eq_of_lt (show a - b < r by omega)]
    rw [show a + (N - b) = (a - b) + N by omega, Nat.add_mod_right, Nat.mod_eq_of_lt (show a - b < N by omega)]
  · rw [Nat.blt_eq] at hc
    simp only [cond_true]
    rw [Nat.mod_eq_of_lt (show a + r - b < r by omega), show a + r - b + N = (a + N - b) + r by omega, Nat.add_mod_right, Nat.mod_eq_of_lt (show a + N - b < r by omega)]
    rw [show a + (N - b) = a + N - b by omega, Nat.mod_eq_of_lt (show a + N - b < N by omega)]
theorem sub_eq {N a b : Nat} (hN : 0 < N) (h2 : 2 * N ≤ R) : (bif Nat.blt (a % N) (b % N) then ((a % N + R - b % N) % R + N) % R else (a % N + R - b % N) % R) = subM N a b :=
  sub_gen (Nat.mod_lt a hN) (Nat.mod_lt b hN) h2

/-- What a modulus is: its number is odd, from 3 on, of at most 382 bits; its lowest word, what makes -1 with it; R R reduced. -/
structure ModI (n : Nat → Nat) (l : Nat) (w : Nat → Nat) : Prop where
  odd : nv n % 2 = 1
  three : 3 ≤ nv n
  small : 4 * nv n ≤ R
  low : (n 0 % W * (l % W) + 1) % W = 0
  wide : nv w = R * R % nv n
theorem ModI.pos {n : Nat → Nat} {l : Nat} {w : Nat → Nat} (h : ModI n l w) : 0 < nv n := by have := h.three; omega
theorem ModI.lNe {n : Nat → Nat} {l : Nat} {w : Nat → Nat} (h : ModI n l w) : Nat.beq (l % W) 0 = false := by
  rw [← Bool.not_eq_true, Nat.beq_eq]
  intro e
  have := h.low
  rw [e] at this
  simp only [W] at this
  omega

/-! what makes -1 with an odd word -/
def nwt (n : Nat) : Nat → Nat
  | 0 => n
  | k + 1 => nwt n k * (2 + (W - n * nwt n k % W))
theorem nwt_int {n : Nat} (h1 : n % 2 = 1) : ∀ k, ∃ m q : Int, 1 - (n : Int) * (nwt n k : Int) = 8 ^ (2 ^ k) * m + (W : Int) * q
  | 0 => by
    have h8 : ∃ m : Int, 1 - (n : Int) * (n : Int) = 8 * m := by
      have e : (n : Int) * (n : Int) % 8 = 1 := by
        have h2 : n % 8 = 1 ∨ n % 8 = 3 ∨ n % 8 = 5 ∨ n % 8 = 7 := by omega
        have h3 : n * n % 8 = 1 := by
          rw [Nat.mul_mod]
          rcases h2 with h | h | h | h <;> rw [h]
        have : ((n * n : Nat) : Int) % 8 = 1 := by omega
        rw [Int.natCast_mul] at this; exact this
      exact ⟨(1 - (n : Int) * (n : Int)) / 8, by omega⟩
    obtain ⟨m, hm⟩ := h8
    exact ⟨m, 0, by simp only [nwt, Nat.pow_zero, Int.pow_one]; omega⟩
  | k + 1 => by
    obtain ⟨m, q, h⟩ := nwt_int h1 k
    have hs : ∃ t : Int, ((nwt n (k + 1) : Nat) : Int) = (nwt n k : Int) * (2 - (n : Int) * (nwt n k : Int) + (W : Int) * t) := by
      refine ⟨1 + ((n * nwt n k / W : Nat) : Int), ?_⟩
      simp only [nwt]
      have h2 : n * nwt n k % W < W := Nat.mod_lt _ (by decide)
      have h3 := Nat.div_add_mod (n * nwt n k) W
      have h4 : ((2 + (W - n * nwt n k % W) : Nat) : Int) = 2 - (n : Int) * (nwt n k : Int) + (W : Int) * (1 + ((n * nwt n k / W : Nat) : Int)) := by
        rw [Int.natCast_add, Int.natCast_sub (Nat.le_of_lt h2)]
        have h5 : ((W : Nat) : Int) * ((n * nwt n k / W : Nat) : Int) + ((n * nwt n k % W : Nat) : Int) = (n : Int) * (nwt n k : Int) := by
          rw [← Int.natCast_mul, ← Int.natCast_mul, ← Int.natCast_add, h3]
        rw [Int.mul_add]
        omega
      rw [Int.natCast_mul, h4]
    obtain ⟨t, ht⟩ := hs
    rw [ht, show (8 : Int) ^ (2 ^ (k + 1)) = 8 ^ (2 ^ k) * 8 ^ (2 ^ k) by rw [Nat.pow_succ, Nat.mul_two, Int.pow_add]]
    generalize (8 : Int) ^ (2 ^ k) = g at *
    generalize ((nwt n k : Nat) : Int) = x at *
    generalize ((n : Nat) : Int) = y at *
    generalize ((W : Nat) : Int) = z at *
    refine ⟨m * m, 2 * g * m * q + z * q * q - y * x * t, ?_⟩
    grind
theorem nwt_six {n : Nat} (h1 : n % 2 = 1) : n * nwt n 6 % W = 1 := by
  obtain ⟨m, q, h⟩ := nwt_int h1 6
  have e : (8 : Int) ^ (2 ^ 6) = (W : Int) * (W : Int) * (W : Int) := by decide
  rw [e] at h
  have h2 : ((n * nwt n 6 : Nat) : Int) = 1 - (W : Int) * ((W : Int) * (W : Int) * m + q) := by
    rw [Int.natCast_mul]
    generalize ((nwt n 6 : Nat) : Int) = x at *
    generalize ((n : Nat) : Int) = y at *
    generalize ((W : Nat) : Int) = z at *
    grind
  have h3 : ((n * nwt n 6 : Nat) : Int) % (W : Int) = 1 := by
    rw [h2, Int.sub_mul_emod_self_left]; decide
  omega
theorem low_gen {w x v : Nat} (hw : 1 < w) (h : x * v % w = 1) : (x * ((w - v % w) % w) + 1) % w = 0 := by
  have h2 : v % w < w := Nat.mod_lt _ (by omega)
  have h3 : x * (v % w) % w = 1 := by
    rw [Nat.mul_mod, Nat.mod_mod, ← Nat.mul_mod]; exact h
  have h4 : v % w ≠ 0 := fun e => by rw [e] at h3; simp at h3
  rw [Nat.mod_eq_of_lt (show w - v % w < w by omega)]
  have h5 : x * (w - v % w) + x * (v % w) = x * w := by rw [← Nat.mul_add]; congr 1; omega
  have h6 : x * w % w = 0 := Nat.mul_mod_left _ _
  have h7 : 1 % w = 1 := Nat.mod_eq_of_lt hw
  rw [← h5, Nat.add_mod, h3] at h6
  rw [Nat.add_mod, h7]
  exact h6
/-- The lowest word's. -/
theorem low_ok {n : Nat} (h1 : n % W % 2 = 1) : (n % W * ((W - nwt (n % W) 6 % W) % W) + 1) % W = 0 := low_gen (by decide) (nwt_six h1)
end Go.Rq

/- Functions that are handed blocks, and hand new ones back. -/
namespace Go.Rq
open Go

/-- The blocks m, named by their place in m. -/
theorem RelH.view {ρ : Ren} {h : Heap} {w : World} (r : RelH ρ h w) {m : List Nat} {K : Heap} (hp : pickH m h m = K) (hc : chkB m K = true) (hb : heapB K 0 K = true) :
    RelH (rnm m ρ) K w ∧ (∀ i, Dm K i → Dm h (nthN m i)) := by
  have hsub : ∀ i b, hget K i = some b → i < m.length ∧ ∃ b0, hget h (nthN m i) = some b0 ∧ b = bkBlk m b0 := fun i b hb => by
    rw [← hp] at hb; exact hget_pickH hb
  unfold chkB at hc
  simp only [Bool.and_eq_true] at hc
  have hDm : ∀ i, Dm K i → i < m.length ∧ m.length < 1000000 := fun i ⟨b, hb⟩ => ⟨(hsub i b hb).1, by rw [← Nat.blt_eq]; exact hc.2.2⟩
  have hcells : ∀ i b b0, hget K i = some b → b = bkBlk m b0 → cvals (rnm m ρ) b.cells = cvals ρ b0.cells := fun i b b0 h1 h2 => by
    have := (heapB_spec hb i b h1).1
    subst h2
    exact bkCells_vals hDm this
  refine ⟨⟨fun i b hg => (heapB_spec hb i b hg).1, fun i b hg h0 => ?_, fun i b hg h1 => ?_, fun i b hg => (heapB_spec hb i b hg).2.1, fun i j hi hj he => ?_, fun i b hg h3 => ?_, fun i j b hi hg h3 => ?_⟩, fun i ⟨b, hg⟩ => ?_⟩
  · obtain ⟨h1, b0, h2, h3⟩ := hsub i b hg
    have h4 := r.row _ b0 h2 (by subst h3; exact h0)
    rw [hcells i b b0 hg h3]
    subst h3
    exact h4
  · obtain ⟨h2, b0, h3, h4⟩ := hsub i b hg
    have hcv := hcells i b b0 hg h4
    obtain ⟨⟨cur, g1, g2, g3, g4, g5, g6⟩, g7⟩ := r.own _ b0 h3 (by subst h4; exact h1)
    have hn := nextB_spec hc.2.1 i b h2 hg h1
    have hdn := (heapB_spec hb i b hg).2.2 h1
    rw [Nat.zero_add] at hdn
    refine ⟨⟨cur, ?_, ?_, ?_, ?_, ?_, ?_⟩, hdn⟩
    · subst h4; exact g1
    · subst h4; simp only [rnm, hn]; exact g2
    · simp only [rnm, hn]; exact g3
    · simp only [rnm, hn]; exact g4
    · subst h4; simp only [bkBlk, bkCells_len]; exact g5
    · rw [hcv]; subst h4; simp only [bkBlk, bkCells_len]; exact g6
  · obtain ⟨b, hg, hl⟩ := hi
    obtain ⟨c, hcj, hl'⟩ := hj
    obtain ⟨h1, b0, h2, h3⟩ := hsub i b hg
    obtain ⟨k1, c0, k2, k3⟩ := hsub j c hcj
    refine nodupB_spec hc.1 i j h1 k1 (r.inj _ _ ⟨b0, h2, ?_⟩ ⟨c0, k2, ?_⟩ he)
    · subst h3; exact hl
    · subst k3; exact hl'
  · obtain ⟨h1, b0, h2, h4⟩ := hsub i b hg
    obtain ⟨arr, fr, w1, w2, w3⟩ := r.win _ b0 h2 (by subst h4; exact h3)
    have hc := hcells i b b0 hg h4
    exact ⟨arr, fr, by subst h4; exact w1, by rw [hc]; exact w2, by rw [hc]; subst h4; exact w3⟩
  · obtain ⟨c, hc, hl⟩ := hi
    obtain ⟨h1, b0, h2, h4⟩ := hsub j b hg
    obtain ⟨k1, c0, k2, k3⟩ := hsub i c hc
    exact r.sep _ _ b0 ⟨c0, k2, by subst k3; exact hl⟩ h2 (by subst h4; exact h3)
  · obtain ⟨_, b0, h2, _⟩ := hsub i b hg
    exact ⟨b0, h2⟩

section
variable {m : List Nat} {D D' : Nat → Prop} (hD : ∀ i, D i → i < m.length ∧ m.length < 1000000) (hD' : ∀ i, D i → D' (nthN m i))
include hD hD'
theorem bkSc_ok {s : Sc} (h : (bkSc m s).ok D) : s.ok D' := by
  have key : ∀ b, D (bk m b) → D' b := fun b hb => by have := hD' _ hb; rw [bk_spec (hD _ hb).1] at this; exact this
  cases s with
  | pt b o => exact key _ h
  | sl b o l c => exact key _ h
  | so b n =>
    simp only [bkSc] at h
    cases hb : Nat.beq (bk m (b + 1)) (bk m b + 1)
    · rw [hb] at h
      simp only [Sc.ok] at h
      have h1 := hD _ h.1
      omega
    · rw [hb] at h
      simp only [Sc.ok] at h
      rw [Nat.beq_eq] at hb
      rw [← hb] at h
      exact ⟨key _ h.1, key _ h.2⟩
  | fn f caps => exact fun c hc => key _ (h _ (List.mem_map.2 ⟨c, hc, rfl⟩))
  | rw v => exact h
  | _ => trivial
theorem bkCells_ok : ∀ {cs : List Cell}, cok D (bkCells m cs) → cok D' cs
  | [], _ => fun c hc => by cases hc
  | c :: r, h => fun d hd => by
    rcases List.mem_cons.1 hd with rfl | hd
    · have := h _ (by simp only [bkCells]; exact List.mem_cons_self ..)
      cases d with
      | ws k n f => trivial
      | one s => exact bkSc_ok hD hD' this
    · exact bkCells_ok (cs := r) (fun e he => h e (by simp only [bkCells]; exact List.mem_cons_of_mem _ he)) d hd
theorem bkV1_ok {v : V1} (h : (bkV1 m v).ok D) : v.ok D' := by
  cases v with
  | sc s => exact bkSc_ok hD hD' h
  | agg cs => exact bkCells_ok hD hD' h
theorem bkAV_ok {v : AV} (h : (bkAV m v).ok D) : v.ok D' := by
  cases v with
  | v1 v => exact bkV1_ok hD hD' h
  | tup l =>
    have key : ∀ l : List V1, (∀ v ∈ bkV1s m l, v.ok D) → ∀ v ∈ l, v.ok D' := by
      intro l
      induction l with
      | nil => intro _ v hv; cases hv
      | cons v r ih =>
        intro h u hu
        rcases List.mem_cons.1 hu with rfl | hu
        · exact bkV1_ok hD hD' (h _ (by simp [bkV1s]))
        · exact ih (fun x hx => h x (by simp [bkV1s, hx])) u hu
    exact key l h
  | raw v => trivial
end

theorem nthN_app {a b : List Nat} {i : Nat} (h : i < a.length) : nthN (a ++ b) i = nthN a i := by
  induction a generalizing i with
  | nil => simp at h
  | cons x r ih =>
    cases i with
    | zero => rfl
    | succ i => exact ih (by simpa using h)
theorem nthN_app2 {a b : List Nat} {i : Nat} (h : a.length ≤ i) : nthN (a ++ b) i = nthN b (i - a.length) := by
  induction a generalizing i with
  | nil => rfl
  | cons x r ih =>
    cases i with
    | zero => simp at h
    | succ i =>
      simp only [List.cons_append, nthN, List.length_cons]
      rw [ih (by simpa using h)]
      congr 1; omega

/-- The places from k on, n of them. -/
def upto : Nat → Nat → List Nat
  | _, 0 => []
  | k, n + 1 => k :: upto (k + 1) n
theorem length_upto : ∀ k n, (upto k n).length = n
  | _, 0 => rfl
  | k, n + 1 => by simp [upto, length_upto (k + 1) n]
theorem nthN_upto : ∀ {k n i : Nat}, i < n → nthN (upto k n) i = k + i
  | k, n + 1, 0, _ => rfl
  | k, n + 1, i + 1, h => by
    simp only [upto, nthN]
    rw [nthN_upto (k := k + 1) (by omega)]; omega

/-- Memories that read the same. -/
def SimB : Option Blk → Option Blk → Prop
  | none, none => True
  | some b, some c => b.ty = c.ty ∧ b.lo = c.lo ∧ b.hi = c.hi ∧ ∀ ρ, cvals ρ b.cells = cvals ρ c.cells
  | _, _ => False
def SimH : Heap → Heap → Prop
  | [], [] => True
  | a :: r, b :: s => SimB a b ∧ SimH r s
  | _, _ => False
theorem SimH.get : ∀ {h k : Heap}, SimH h k → ∀ i, SimB (hget h i) (hget k i)
  | [], [], _, _ => trivial
  | [], _ :: _, s, _ => s.elim
  | _ :: _, [], s, _ => s.elim
  | _ :: _, _ :: _, hs, 0 => hs.1
  | _ :: r, _ :: s, hs, i + 1 => SimH.get (h := r) (k := s) hs.2 i
theorem SimH.at {h k : Heap} (s : SimH h k) {i : Nat} {c : Blk} (hk : hget k i = some c) : ∃ b, hget h i = some b ∧ b.ty = c.ty ∧ b.lo = c.lo ∧ b.hi = c.hi ∧ ∀ ρ, cvals ρ b.cells = cvals ρ c.cells := by
  have := s.get i
  rw [hk] at this
  cases hh : hget h i with
  | none => rw [hh] at this; exact this.elim
  | some b => rw [hh] at this; exact ⟨b, rfl, this⟩
theorem RelH.sim {ρ : Ren} {h k : Heap} {w : World} (r : RelH ρ h w) (s : SimH h k) (hb : heapB k 0 k = true) : RelH ρ k w := by
  have hL : ∀ i, Lv k i → Lv h i := fun i ⟨c, hc, hl⟩ => let ⟨b, h1, _, h3, _, _⟩ := s.at hc; ⟨b, h1, by omega⟩
  refine ⟨fun i c hc => (heapB_spec hb i c hc).1, fun i c hc h0 => ?_, fun i c hc h1 => ?_, fun i c hc => (heapB_spec hb i c hc).2.1, fun i j hi hj => r.inj i j (hL i hi) (hL j hj), fun i c hc h3 => ?_, fun i j c hi hc h3 => ?_⟩
  · obtain ⟨b, e1, e2, e3, e4, e5⟩ := s.at hc
    have := r.row i b e1 (by omega)
    rw [e2, e3, e4, e5] at this
    exact this
  · obtain ⟨b, e1, e2, e3, e4, e5⟩ := s.at hc
    obtain ⟨⟨cur, g1, g2, g3, g4, g5, g6⟩, g7⟩ := r.own i b e1 (by omega)
    have hl : clen b.cells = clen c.cells := by rw [← length_cvals fun _ => 0, ← length_cvals fun _ => 0, e5]
    have hd := (heapB_spec hb i c hc).2.2 h1
    rw [Nat.zero_add] at hd
    exact ⟨⟨cur, by rw [← e2]; exact g1, by rw [← e4]; exact g2, g3, g4, by rw [← hl]; exact g5, by rw [← hl, g6, e5]⟩, hd⟩
  · obtain ⟨b, e1, e2, e3, e4, e5⟩ := s.at hc
    obtain ⟨arr, fr, w1, w2, w3⟩ := r.win i b e1 (by omega)
    exact ⟨arr, fr, by rw [← e2]; exact w1, by rw [← e5]; exact w2, by rw [← e5, ← e4]; exact w3⟩
  · obtain ⟨b, e1, e2, e3, e4, e5⟩ := s.at hc
    exact r.sep i j b (hL i hi) e1 (by omega)
theorem SimH.dm {h k : Heap} (s : SimH h k) {i : Nat} (hi : Dm k i) : Dm h i := let ⟨_, hc⟩ := hi; let ⟨b, hb, _⟩ := s.at hc; ⟨b, hb⟩

/-- A function's end: its result and its memory, seen by the blocks mc: vK, K. -/
def FEndM (T : TT) (fn : Func) (mc : List Nat) (vK : AV) (K : Heap) : Exit → AS → Prop
  | .normal, s | .ret, s => chkB mc (pickH mc s.h mc) = true ∧ heapB (pickH mc s.h mc) 0 (pickH mc s.h mc) = true ∧ SimH (pickH mc s.h mc) K ∧
    ∃ v', resA T s fn.results.toList = some v' ∧ avB (pickH mc s.h mc) (bkAV mc v') = true ∧ ∀ ρ, (bkAV mc v').val ρ = vK.val ρ
  | _, _ => False

/-- **A function that is handed the blocks 'ins' and hands back 'no' more**: off its own walk. -/
theorem mem_walkW {P : Program} {T : TT} (hT : TTOk P T) {f : FuncId} {fn : Func} (hf : P.funcs[f]? = some fn) (hb : fn.body = some (bodyOf fn)) (hn : (fn.name == "runtime.NumGoroutine") = false)
    {args args' : List AV} {h h' : Heap} (ins outs : List Nat) (slot : Nat) (H0 K : Heap) {v vK : AV}
    (hc0 : chkB ins H0 = true) (hp0 : pickH ins h ins = H0) (hb0 : heapB H0 0 H0 = true) (ha : bkAVs ins args = args') (hab : args'.all (avB H0) = true) (hall : ∀ i, i < ins.length → Lv H0 i ∨ ∃ b, hget H0 i = some b ∧ b.lo = 3 ∧ hget K i = some b)
    (hKw : ∀ i b, hget K i = some b → b.lo = 3 → i < ins.length ∧ hget H0 i = some b)
    (hK : heapB K 0 K = true) (hvK : avB K vK = true) (hKall : ∀ i, i < ins.length + outs.length → Dm K i)
    (hm : chkB (ins ++ upto slot outs.length) K = true) (hp : pickH (ins ++ upto slot outs.length) h' (ins ++ upto slot outs.length) = K) (hv : bkAV (ins ++ upto slot outs.length) v = vK)
    (hho : ∀ t, t < outs.length → isHole h (slot + t) = true)
    (hrest : ∀ i, (∀ j, j < ins.length → nthN ins j ≠ i) → (∀ t, t < outs.length → slot + t ≠ i) → hget h' i = hget h i)
    (hwalk : AWqS P (Dm H0) (flatC (bodyOf fn)) (FEndM T fn (upto 0 ins.length ++ outs) vK K) ⟨frame0 args' fn.ntmps, H0⟩) : CallOk P f args h v h' := by
  intro ρ w hr hargs o a next Q hnext
  rw [enter_run hf hb hn, Oper.upon_enter]
  refine calls_of_wp hf hb ?_
  obtain ⟨r0, hsub0⟩ := hr.view hp0 hc0 hb0
  have hlen0 : ∀ i, Dm H0 i → i < ins.length ∧ ins.length < 1000000 := fun i ⟨b, hg⟩ => by
    rw [← hp0] at hg
    unfold chkB at hc0
    simp only [Bool.and_eq_true] at hc0
    exact ⟨(hget_pickH hg).1, by rw [← Nat.blt_eq]; exact hc0.2.2⟩
  have haok : ∀ x ∈ args', x.ok (Dm H0) := fun x hx => avB_spec (List.all_eq_true.1 hab x hx)
  have hav : args'.map (AV.val (rnm ins ρ)) = args.map (AV.val ρ) := by
    rw [← ha] at haok ⊢
    have key : ∀ l : List AV, (∀ x ∈ bkAVs ins l, x.ok (Dm H0)) → (bkAVs ins l).map (AV.val (rnm ins ρ)) = l.map (AV.val ρ) := by
      intro l
      induction l with
      | nil => intro _; rfl
      | cons x r ih =>
        intro hx
        simp only [bkAVs, List.map_cons]
        rw [bkAV_val hlen0 (hx _ (by simp [bkAVs])), ih fun y hy => hx y (by simp [bkAVs, hy])]
    exact key args haok
  have hrel : Rel (rnm ins ρ) ⟨frame0 args' fn.ntmps, H0⟩ { tmps := (args.map (AV.val ρ)).toArray ++ Array.replicate (fn.ntmps - (args.map (AV.val ρ)).toArray.size) undef, defers := [] } w := by
    refine ⟨?_, rfl, fun x hx => ?_, r0⟩
    · have hl : args'.length = args.length := by have := congrArg List.length hav; simpa using this
      apply Array.ext'
      simp [frame0, hav, hl, undefA, AV.val, undef]
    · unfold frame0 at hx
      rcases List.mem_append.1 hx with hx | hx
      · exact haok x hx
      · have := (List.mem_replicate.1 hx).2
        subst this
        intro v hv; cases hv
  refine wp_mono (AWq.of_flat _ hwalk (rnm ins ρ) w (rnm ins ρ) _ w hrel (StepR.refl _ _ _)) fun e a' w' ⟨s', ρ', q, r', st⟩ => ?_
  have fin : (chkB (upto 0 ins.length ++ outs) (pickH (upto 0 ins.length ++ outs) s'.h (upto 0 ins.length ++ outs)) = true ∧ heapB (pickH (upto 0 ins.length ++ outs) s'.h (upto 0 ins.length ++ outs)) 0 (pickH (upto 0 ins.length ++ outs) s'.h (upto 0 ins.length ++ outs)) = true ∧
      SimH (pickH (upto 0 ins.length ++ outs) s'.h (upto 0 ins.length ++ outs)) K ∧ ∃ v', resA T s' fn.results.toList = some v' ∧ avB (pickH (upto 0 ins.length ++ outs) s'.h (upto 0 ins.length ++ outs)) (bkAV (upto 0 ins.length ++ outs) v') = true ∧ ∀ ρ, (bkAV (upto 0 ins.length ++ outs) v').val ρ = vK.val ρ) →
      a'.defers = [] ∧ ∃ u, (results fn a'.tmps).run P w' = .ok u w' ∧ next (a.put o.dst u) w' := by
    intro ⟨q1, q1b, q2, v', q3, q3b, q4⟩
    have hres := resA_run hT r' (fn := fn) q3
    refine ⟨r'.defers, _, hres.1, ?_⟩
    obtain ⟨rK0, hsubK0⟩ := r'.mem.view rfl q1 q1b
    have rK := rK0.sim q2 hK
    have hsubK : ∀ i, Dm K i → Dm s'.h (nthN (upto 0 ins.length ++ outs) i) := fun i hi => hsubK0 i (q2.dm hi)
    have hmclen : (upto 0 ins.length ++ outs).length = ins.length + outs.length := by rw [List.length_append, length_upto]
    have hmlen : (ins ++ upto slot outs.length).length = ins.length + outs.length := by rw [List.length_append, length_upto]
    have hKlt0 : ∀ i, Dm (pickH (upto 0 ins.length ++ outs) s'.h (upto 0 ins.length ++ outs)) i → i < ins.length + outs.length := fun i ⟨b, hg⟩ => by
      rw [← hmclen]; exact (hget_pickH hg).1
    have hKlt : ∀ i, Dm K i → i < ins.length + outs.length := fun i hi => hKlt0 i (q2.dm hi)
    unfold chkB at q1 hm
    simp only [Bool.and_eq_true] at q1 hm
    have hD1 : ∀ i, Dm (pickH (upto 0 ins.length ++ outs) s'.h (upto 0 ins.length ++ outs)) i → i < (upto 0 ins.length ++ outs).length ∧ (upto 0 ins.length ++ outs).length < 1000000 := fun i hi => ⟨by rw [hmclen]; exact hKlt0 i hi, by rw [← Nat.blt_eq]; exact q1.2.2⟩
    have hD2 : ∀ i, Dm K i → i < (ins ++ upto slot outs.length).length ∧ (ins ++ upto slot outs.length).length < 1000000 := fun i hi => ⟨by rw [hmlen]; exact hKlt i hi, by rw [← Nat.blt_eq]; exact hm.2.2⟩
    -- the new names
    let ρ2 : Ren := fun i => if slot ≤ i ∧ i < slot + outs.length then ρ' (nthN outs (i - slot)) else ρ i
    have hnew : ∀ t, t < outs.length → ¬ Dm h (slot + t) := fun t ht hd => by
      obtain ⟨c, hcc⟩ := hd
      rw [(isHole_lt (hho t ht)).2] at hcc; cases hcc
    have hag : Agree (Dm h) ρ ρ2 := fun i hi => by
      refine if_neg fun hh => ?_
      exact hnew (i - slot) (by omega) (by rw [show slot + (i - slot) = i by omega]; exact hi)
    have hallD : ∀ j, j < ins.length → Dm H0 j := fun j hj => by
      rcases hall j hj with hl | ⟨b, hb, _⟩
      · exact hl.dm
      · exact ⟨b, hb⟩
    have hins : ∀ j, j < ins.length → Dm h (nthN ins j) := fun j hj => hsub0 j (hallD j hj)
    have hinL : ∀ j, Lv H0 j → Lv h (nthN ins j) := fun j ⟨b, hg, hbl⟩ => by
      rw [← hp0] at hg
      obtain ⟨_, b0, h2, h3⟩ := hget_pickH hg
      exact ⟨b0, h2, by subst h3; exact hbl⟩
    have hinW : ∀ j b, hget H0 j = some b → b.lo = 3 → ∃ b0, hget h (nthN ins j) = some b0 ∧ b0.lo = 3 := fun j b hg hbl => by
      rw [← hp0] at hg
      obtain ⟨_, b0, h2, h3⟩ := hget_pickH hg
      exact ⟨b0, h2, by subst h3; exact hbl⟩
    have hrn : ∀ i, i < ins.length + outs.length → rnm (ins ++ upto slot outs.length) ρ2 i = rnm (upto 0 ins.length ++ outs) ρ' i := by
      intro i hi
      simp only [rnm]
      by_cases hlt : i < ins.length
      · rw [nthN_app hlt, nthN_app (by rw [length_upto]; exact hlt), nthN_upto hlt, Nat.zero_add, hag _ (hins i hlt)]
        exact (st.agree i (hallD i hlt)).symm
      · rw [nthN_app2 (by omega), nthN_app2 (by rw [length_upto]; omega), length_upto, nthN_upto (by omega)]
        simp only [ρ2]
        rw [if_pos (by omega)]
        congr 2; omega
    have hvalK : ∀ {u : AV}, u.ok (Dm K) → u.val (rnm (ins ++ upto slot outs.length) ρ2) = u.val (rnm (upto 0 ins.length ++ outs) ρ') := fun {u} hu => AV.val_agree (D := Dm K) (fun i hi => hrn i (hKlt i hi)) hu
    have hvok : vK.ok (Dm K) := avB_spec hvK
    have hvv : v.val ρ2 = v'.val ρ' := by
      have e1 : (bkAV (ins ++ upto slot outs.length) v).val (rnm (ins ++ upto slot outs.length) ρ2) = v.val ρ2 := bkAV_val hD2 (by rw [hv]; exact hvok)
      have e2 : (bkAV (upto 0 ins.length ++ outs) v').val (rnm (upto 0 ins.length ++ outs) ρ') = v'.val ρ' := bkAV_val hD1 (avB_spec q3b)
      rw [← e1, ← e2, hv, q4, hvalK hvok]
    -- h'
    have hK' : ∀ p b, hget K p = some b → ∃ b', hget h' (nthN (ins ++ upto slot outs.length) p) = some b' ∧ b = bkBlk (ins ++ upto slot outs.length) b' := fun p b hg => by
      rw [← hp] at hg; exact (hget_pickH hg).2
    have hin : ∀ i, Dm h' i → (∃ p, p < ins.length + outs.length ∧ nthN (ins ++ upto slot outs.length) p = i) ∨ ((∀ j, j < ins.length → nthN ins j ≠ i) ∧ (∀ t, t < outs.length → slot + t ≠ i) ∧ hget h' i = hget h i) := by
      intro i hi
      by_cases h1 : ∃ j, j < ins.length ∧ nthN ins j = i
      · obtain ⟨j, hj, e⟩ := h1
        exact .inl ⟨j, by omega, by rw [nthN_app hj]; exact e⟩
      · by_cases h2 : ∃ t, t < outs.length ∧ slot + t = i
        · obtain ⟨t, ht, e⟩ := h2
          exact .inl ⟨ins.length + t, by omega, by rw [nthN_app2 (by omega), Nat.add_sub_cancel_left, nthN_upto ht]; exact e⟩
        · have g1 : ∀ j, j < ins.length → nthN ins j ≠ i := fun j hj e => h1 ⟨j, hj, e⟩
          have g2 : ∀ t, t < outs.length → slot + t ≠ i := fun t ht e => h2 ⟨t, ht, e⟩
          exact .inr ⟨g1, g2, hrest i g1 g2⟩
    have hmD : ∀ p, p < ins.length + outs.length → Dm h' (nthN (ins ++ upto slot outs.length) p) := fun p hpl => by
      obtain ⟨b, hg⟩ := hKall p hpl
      obtain ⟨b', h1, _⟩ := hK' p b hg
      exact ⟨b', h1⟩
    have hsubD : ∀ i, Dm h i → Dm h' i := fun i ⟨b, hg⟩ => by
      by_cases h1 : ∃ j, j < ins.length ∧ nthN ins j = i
      · obtain ⟨j, hj, e⟩ := h1
        have := hmD j (by omega)
        rw [nthN_app hj, e] at this
        exact this
      · have g1 : ∀ j, j < ins.length → nthN ins j ≠ i := fun j hj e => h1 ⟨j, hj, e⟩
        have g2 : ∀ t, t < outs.length → slot + t ≠ i := fun t ht e => hnew t ht ⟨b, by rw [e]; exact hg⟩
        exact ⟨b, by rw [hrest i g1 g2]; exact hg⟩
    have hDK : ∀ p, Dm K p → Dm h' (nthN (ins ++ upto slot outs.length) p) := fun p hpd => hmD p (hKlt p hpd)
    have hkeep : ∀ i, Lv h i → (∀ j, j < ins.length → nthN ins j ≠ i) → w'.heap[ρ i]? = w.heap[ρ i]? := fun i hi hni => st.keep _ (hr.lt hi) fun j hj e => by
      have hj' := (hlen0 j hj).1
      rcases hall j hj' with hl0 | ⟨b, hg, hb3, _⟩
      · exact hni j hj' (hr.inj _ _ (hinL j hl0) hi e)
      · obtain ⟨b0, h2, h3⟩ := hinW j b hg hb3
        exact hr.sep i _ b0 hi h2 h3 e.symm
    have hkeepW : ∀ i b, hget h i = some b → b.lo = 3 → w'.heap[ρ i]? = w.heap[ρ i]? := fun i b hi h3 => by
      by_cases hex : ∃ j, Dm H0 j ∧ rnm ins ρ j = ρ i
      · obtain ⟨j, hj, e⟩ := hex
        have hj' := (hlen0 j hj).1
        rcases hall j hj' with hl0 | ⟨c, hg, hc3, hgK⟩
        · exact absurd e (hr.sep _ i b (hinL j hl0) hi h3)
        · obtain ⟨arr, fr, a1, a2, _⟩ := r0.win j c hg hc3
          obtain ⟨arr', fr', b1, b2, _⟩ := rK.win j c hgK hc3
          have e1 : rnm (upto 0 ins.length ++ outs) ρ' j = ρ i := by
            simp only [rnm]
            rw [nthN_app (by rw [length_upto]; exact hj'), nthN_upto hj', Nat.zero_add, st.agree j hj, e]
          have e2 : cvals (rnm (upto 0 ins.length ++ outs) ρ') c.cells = cvals (rnm ins ρ) c.cells := cvals_agree (D := Dm H0) (fun t ht => by
            have ht' := (hlen0 t ht).1
            simp only [rnm]
            rw [nthN_app (by rw [length_upto]; exact ht'), nthN_upto ht', Nat.zero_add]
            exact st.agree t ht) ((heapB_spec hb0 j c hg).1)
          rw [e2, a2] at b2
          have e3 := wrapB_inj (Option.some.inj b2)
          rw [e1] at b1
          rw [e] at a1
          rw [a1, b1, e3.1, e3.2]
      · exact st.keep _ (hr.ltW hi h3) fun j hj e => hex ⟨j, hj, e⟩
    have hmemC : ∀ p b', hget h' (nthN (ins ++ upto slot outs.length) p) = some b' → p < ins.length + outs.length → hget K p = some (bkBlk (ins ++ upto slot outs.length) b') := by
      intro p b' hg hpl
      obtain ⟨b, hgk⟩ := hKall p hpl
      obtain ⟨b2, h1, h2⟩ := hK' p b hgk
      rw [hg] at h1
      cases h1
      rw [hgk, h2]
    have hcvK : ∀ p b', hget K p = some (bkBlk (ins ++ upto slot outs.length) b') → p < ins.length + outs.length → cvals ρ2 b'.cells = cvals (rnm (upto 0 ins.length ++ outs) ρ') (bkBlk (ins ++ upto slot outs.length) b').cells := by
      intro p b' hg hpl
      have hok := (heapB_spec hK p _ hg).1
      have e1 := bkCells_vals (ρ := ρ2) hD2 hok
      rw [← e1]
      exact cvals_agree (D := Dm K) (fun i hi => hrn i (hKlt i hi)) hok
    have hr2 : ∀ p, p < ins.length + outs.length → ρ2 (nthN (ins ++ upto slot outs.length) p) = rnm (upto 0 ins.length ++ outs) ρ' p := fun p hpl => hrn p hpl
    have hLvK : ∀ p, p < ins.length + outs.length → Lv h' (nthN (ins ++ upto slot outs.length) p) → Lv K p := fun p hpl ⟨b', hg, hl⟩ => ⟨_, hmemC p b' hg hpl, hl⟩
    have hrelH : RelH ρ2 h' w' := by
      refine ⟨fun i b' hg => ?_, fun i b' hg h0 => ?_, fun i b' hg h1 => ?_, fun i b' hg => ?_, fun i j hi hj he => ?_, fun i b' hg h3 => ?_, fun i j b' hi hg h3 => ?_⟩
      · rcases hin i ⟨b', hg⟩ with ⟨p, hpl, rfl⟩ | ⟨g1, g2, g3⟩
        · have hgk := hmemC p b' hg hpl
          exact bkCells_ok hD2 hDK (heapB_spec hK p _ hgk).1
        · rw [g3] at hg; exact cok_mono hsubD (hr.cok i b' hg)
      · rcases hin i ⟨b', hg⟩ with ⟨p, hpl, rfl⟩ | ⟨g1, g2, g3⟩
        · have hgk := hmemC p b' hg hpl
          have := rK.row p _ hgk h0
          rw [hr2 p hpl, hcvK p b' hgk hpl]
          exact this
        · rw [g3] at hg
          have hl : Lv h i := ⟨b', hg, by omega⟩
          rw [hag i hl.dm, hkeep i hl g1, hr.row i b' hg h0, cvals_agree hag (hr.cok i b' hg)]
      · rcases hin i ⟨b', hg⟩ with ⟨p, hpl, rfl⟩ | ⟨g1, g2, g3⟩
        · have hgk := hmemC p b' hg hpl
          obtain ⟨⟨cur, e1, e2, e3, e4, e5, e6⟩, e7⟩ := rK.own p _ hgk h1
          have hpl1 := hKlt _ e7
          have hnx := nextB_spec hm.2.1 p _ (by rw [hmlen]; exact hpl) hgk h1
          have e0 := hr2 p hpl
          have e00 := hr2 (p + 1) hpl1
          rw [hnx] at e00
          refine ⟨⟨cur, by rw [e0]; exact e1, by rw [e0, e00]; exact e2, by rw [e0, e00]; exact e3, by rw [e0, e00]; exact e4, ?_, ?_⟩, ?_⟩
          · simp only [bkBlk, bkCells_len] at e5; exact e5
          · rw [hcvK p b' hgk hpl, ← e6]; simp only [bkBlk, bkCells_len]
          · rw [← hnx]; exact hmD _ hpl1
        · rw [g3] at hg
          have hl : Lv h i := ⟨b', hg, by omega⟩
          obtain ⟨k1, k2⟩ := hr.own i b' hg h1
          exact ⟨k1.agree hag hl.dm k2 (hr.cok i b' hg) (hkeep i hl g1), hsubD _ k2⟩
      · rcases hin i ⟨b', hg⟩ with ⟨p, hpl, rfl⟩ | ⟨g1, g2, g3⟩
        · exact (heapB_spec hK p _ (hmemC p b' hg hpl)).2.1
        · rw [g3] at hg; exact hr.few i b' hg
      · have mix : ∀ p i, p < ins.length + outs.length → Lv h' (nthN (ins ++ upto slot outs.length) p) → Lv h' i → (∀ j, j < ins.length → nthN ins j ≠ i) → (∀ t, t < outs.length → slot + t ≠ i) → hget h' i = hget h i → ρ2 (nthN (ins ++ upto slot outs.length) p) ≠ ρ2 i := by
          intro p i hpl hp1 hi g1 g2 g3 e
          have hl : Lv h i := by obtain ⟨b, hg, hbl⟩ := hi; rw [g3] at hg; exact ⟨b, hg, hbl⟩
          rw [hag i hl.dm] at e
          have viaIn : ∀ j, j < ins.length → ρ (nthN ins j) = ρ i → False := fun j hj e => by
            rcases hall j hj with hl0 | ⟨b, hg, hb3, _⟩
            · exact g1 j hj (hr.inj _ _ (hinL j hl0) hl e)
            · obtain ⟨b0, h2, h3⟩ := hinW j b hg hb3
              exact hr.sep i _ b0 hl h2 h3 e.symm
          by_cases hlt : p < ins.length
          · rw [nthN_app hlt, hag _ (hins p hlt)] at e
            exact viaIn p hlt e
          · rw [hr2 p hpl] at e
            simp only [rnm] at e
            rw [nthN_app2 (by rw [length_upto]; omega), length_upto] at e
            by_cases hd : Dm H0 (nthN outs (p - ins.length))
            · have := st.agree _ hd
              rw [this] at e
              exact viaIn _ (hlen0 _ hd).1 e
            · have hdd : Dm s'.h (nthN outs (p - ins.length)) := by
                have := hsubK p (hLvK p hpl hp1).dm
                rw [nthN_app2 (by rw [length_upto]; omega), length_upto] at this
                exact this
              rcases st.fresh _ hdd hd with h3 | ⟨j, h3, h4⟩
              · have := hr.lt hl; omega
              · rw [h4] at e
                exact viaIn j (hlen0 j h3).1 e
        rcases hin i hi.dm with ⟨p, hpl, rfl⟩ | ⟨g1, g2, g3⟩ <;> rcases hin j hj.dm with ⟨q, hql, rfl⟩ | ⟨k1, k2, k3⟩
        · rw [hr2 p hpl, hr2 q hql] at he
          rw [rK.inj p q (hLvK p hpl hi) (hLvK q hql hj) he]
        · exact absurd he (mix p j hpl hi hj k1 k2 k3)
        · exact absurd he.symm (mix q i hql hj hi g1 g2 g3)
        · have l1 : Lv h i := by obtain ⟨b, hg, hbl⟩ := hi; rw [g3] at hg; exact ⟨b, hg, hbl⟩
          have l2 : Lv h j := by obtain ⟨b, hg, hbl⟩ := hj; rw [k3] at hg; exact ⟨b, hg, hbl⟩
          rw [hag i l1.dm, hag j l2.dm] at he
          exact hr.inj i j l1 l2 he
      · rcases hin i ⟨b', hg⟩ with ⟨p, hpl, rfl⟩ | ⟨g1, g2, g3⟩
        · have hgk := hmemC p b' hg hpl
          obtain ⟨arr, fr, e1, e2, e3⟩ := rK.win p _ hgk h3
          exact ⟨arr, fr, by rw [hr2 p hpl]; exact e1, by rw [hcvK p b' hgk hpl]; exact e2, by rw [hcvK p b' hgk hpl]; exact e3⟩
        · rw [g3] at hg
          exact (hr.win i b' hg h3).agree hag ⟨b', hg⟩ (hr.cok i b' hg) (hkeepW i b' hg h3)
      · intro he
        rcases hin i hi.dm with ⟨p, hpl, rfl⟩ | ⟨g1, g2, g3⟩ <;> rcases hin j ⟨b', hg⟩ with ⟨q, hql, rfl⟩ | ⟨k1, k2, k3⟩
        · rw [hr2 p hpl, hr2 q hql] at he
          exact rK.sep p q _ (hLvK p hpl hi) (hmemC q b' hg hql) h3 he
        · rw [k3] at hg
          rw [hag j ⟨b', hg⟩] at he
          have viaIn : ∀ t, Dm H0 t → ρ (nthN ins t) = ρ j → rnm (upto 0 ins.length ++ outs) ρ' p = ρ' t → False := fun t ht e e' => by
            have ht' := (hlen0 t ht).1
            rcases hall t ht' with hl0 | ⟨b, hgt, hb3, hbK⟩
            · exact hr.sep _ j b' (hinL t hl0) hg h3 e
            · refine rK.sep p t b (hLvK p hpl hi) hbK hb3 ?_
              rw [e']
              simp only [rnm]
              rw [nthN_app (by rw [length_upto]; exact ht'), nthN_upto ht', Nat.zero_add]
          rw [hr2 p hpl] at he
          by_cases hlt : p < ins.length
          · have hd := hallD p hlt
            have e' : rnm (upto 0 ins.length ++ outs) ρ' p = ρ' p := by
              simp only [rnm]
              rw [nthN_app (by rw [length_upto]; exact hlt), nthN_upto hlt, Nat.zero_add]
            refine viaIn p hd ?_ e'
            rw [← he, e', st.agree p hd]
            rfl
          · have e' : rnm (upto 0 ins.length ++ outs) ρ' p = ρ' (nthN outs (p - ins.length)) := by
              simp only [rnm]
              rw [nthN_app2 (by rw [length_upto]; omega), length_upto]
            by_cases hd : Dm H0 (nthN outs (p - ins.length))
            · refine viaIn _ hd ?_ e'
              rw [← he, e', st.agree _ hd]
              rfl
            · have hdd : Dm s'.h (nthN outs (p - ins.length)) := by
                have := hsubK p (hLvK p hpl hi).dm
                rw [nthN_app2 (by rw [length_upto]; omega), length_upto] at this
                exact this
              rcases st.fresh _ hdd hd with h4 | ⟨t, h4, h5⟩
              · have := hr.ltW hg h3; rw [e'] at he; omega
              · refine viaIn t h4 ?_ (by rw [e', h5, st.agree t h4])
                rw [← he, e', h5]
                rfl
        · have l1 : Lv h i := by obtain ⟨b, hg, hbl⟩ := hi; rw [g3] at hg; exact ⟨b, hg, hbl⟩
          obtain ⟨hq, hq0⟩ := hKw q _ (hmemC q b' hg hql) h3
          obtain ⟨b0, h2, h4⟩ := hinW q _ hq0 h3
          rw [hag i l1.dm, nthN_app hq, hag _ (hins q hq)] at he
          exact hr.sep i _ b0 l1 h2 h4 he
        · have l1 : Lv h i := by obtain ⟨b, hg, hbl⟩ := hi; rw [g3] at hg; exact ⟨b, hg, hbl⟩
          rw [k3] at hg
          rw [hag i l1.dm, hag j ⟨b', hg⟩] at he
          exact hr.sep i j b' l1 hg h3 he
    have hstep : StepR (Dm h) ρ w (Dm h') ρ2 w' := by
      refine ⟨hag, hsubD, st.size, st.os, st.tape, st.output, fun b hbl hne => st.keep b hbl fun i hi => hne _ (hsub0 i hi), fun i hi hni => ?_, st.frz⟩
      rcases hin i hi with ⟨p, hpl, rfl⟩ | ⟨g1, g2, g3⟩
      · by_cases hlt : p < ins.length
        · rw [nthN_app hlt] at hni; exact absurd (hins p hlt) hni
        · rw [hr2 p hpl]
          simp only [rnm]
          rw [nthN_app2 (by rw [length_upto]; omega), length_upto]
          by_cases hd : Dm H0 (nthN outs (p - ins.length))
          · exact .inr ⟨_, hsub0 _ hd, st.agree _ hd⟩
          · have hdd : Dm s'.h (nthN outs (p - ins.length)) := by
              have := hsubK p (hKall p hpl)
              rw [nthN_app2 (by rw [length_upto]; omega), length_upto] at this
              exact this
            rcases st.fresh _ hdd hd with h3 | ⟨j, h3, h4⟩
            · exact .inl h3
            · exact .inr ⟨_, hsub0 j h3, h4⟩
      · obtain ⟨b, hg⟩ := hi
        rw [g3] at hg
        exact absurd ⟨b, hg⟩ hni
    have := hnext ρ2 w' hstep hrelH (bkAV_ok hD2 hDK (by rw [hv]; exact hvok))
    rw [hvv] at this
    exact this
  cases e with
  | normal => exact fin q
  | ret => exact fin q
  | exit j => exact q.elim
  | goto l => exact q.elim
  | panic ch => exact q.elim
  | outgrown => exact q.elim

/-- No window among the blocks. -/
def noWinB : Heap → Bool
  | [] => true
  | none :: r => noWinB r
  | some b :: r => Nat.blt b.lo 3 && noWinB r
theorem noWinB_spec : ∀ {h : Heap}, noWinB h = true → ∀ i b, hget h i = some b → b.lo < 3
  | [], _, i, b, hb => by simp [hget] at hb
  | none :: r, h, 0, b, hb => by simp [hget] at hb
  | none :: r, h, i + 1, b, hb => noWinB_spec (h := r) h i b (by simpa [hget] using hb)
  | some c :: r, h, 0, b, hb => by
    simp only [noWinB, Bool.and_eq_true, Nat.blt_eq] at h
    simp only [hget, Option.some.injEq] at hb
    subst hb; exact h.1
  | some c :: r, h, i + 1, b, hb => by
    simp only [noWinB, Bool.and_eq_true] at h
    exact noWinB_spec (h := r) h.2 i b (by simpa [hget] using hb)

theorem mem_walk {P : Program} {T : TT} (hT : TTOk P T) {f : FuncId} {fn : Func} (hf : P.funcs[f]? = some fn) (hb : fn.body = some (bodyOf fn)) (hn : (fn.name == "runtime.NumGoroutine") = false)
    {args args' : List AV} {h h' : Heap} (ins outs : List Nat) (slot : Nat) (H0 K : Heap) {v vK : AV}
    (hc0 : chkB ins H0 = true) (hp0 : pickH ins h ins = H0) (hb0 : heapB H0 0 H0 = true) (ha : bkAVs ins args = args') (hab : args'.all (avB H0) = true) (hall : ∀ i, i < ins.length → Lv H0 i)
    (hK : heapB K 0 K = true) (hvK : avB K vK = true) (hKall : ∀ i, i < ins.length + outs.length → Dm K i)
    (hm : chkB (ins ++ upto slot outs.length) K = true) (hp : pickH (ins ++ upto slot outs.length) h' (ins ++ upto slot outs.length) = K) (hv : bkAV (ins ++ upto slot outs.length) v = vK)
    (hho : ∀ t, t < outs.length → isHole h (slot + t) = true)
    (hrest : ∀ i, (∀ j, j < ins.length → nthN ins j ≠ i) → (∀ t, t < outs.length → slot + t ≠ i) → hget h' i = hget h i)
    (hwalk : AWqS P (Dm H0) (flatC (bodyOf fn)) (FEndM T fn (upto 0 ins.length ++ outs) vK K) ⟨frame0 args' fn.ntmps, H0⟩) (hnw : noWinB K = true := by kernel_rfl) : CallOk P f args h v h' :=
  mem_walkW hT hf hb hn ins outs slot H0 K hc0 hp0 hb0 ha hab (fun i hi => .inl (hall i hi)) (fun i b hb h3 => by have := noWinB_spec hnw i b hb; omega) hK hvK hKall hm hp hv hho hrest hwalk
end Go.Rq

/- Shifts, off their runs. -/
namespace Go.Proofs.Ytnjocbcjejpklaa
open Go.Rq Go
set_option maxRecDepth 100000

def cShift : List AV → Option (List Prop × AV)
  | [.v1 (.agg [.ws .u64 6 a]), .v1 (.sc (.it n))] => some ([], numA (shiftN (nv a) n % R))
  | _ => none

theorem zero_nv : nv (fun _ => 0) = 0 := by simp [nv]
theorem ilt_not {x y : Int} (h : ¬ x < y) : ilt x y = false := by rw [← Bool.not_eq_true, ilt_iff]; exact h
theorem ilt_yes {x y : Int} (h : x < y) : ilt x y = true := by rw [ilt_iff]; exact h

/-! the document's -/
def InvD (a : Nat → Nat) (n : Int) (x : Nat × (Nat → Nat)) : Prop := x.1 ≤ 384 ∧ ∀ j, j < 384 → Nat.testBit (x.2 (j / 64)) (j % 64) = (decide (j < x.1) && tbI (nv a) (Int.ofNat j - n))
def VD (n : Int) (i : Nat) : List AV := [iv n, pt 0 0, pt 1 0, pt 2 0, iv (Int.ofNat i)]
def HD (a out : Nat → Nat) : Heap := [nb a, nb (fun _ => 0), nb out]
/-! the words' -/
def hintsB (bp : Bool) : List Hint := [⟨12,1,.lit (.bo bp)⟩, ⟨12,1,.lit (.bo bp)⟩, ⟨12,1,.lit (.bo bp)⟩, ⟨12,1,.lit (.bo bp)⟩, ⟨12,1,.lit (.bo bp)⟩, ⟨12,1,.lit (.bo bp)⟩]
end Go.Proofs.Ytnjocbcjejpklaa

/- Division, off its loops. -/
namespace Go.Proofs.Ytnjocbcjejpklaa
open Go.Rq Go
set_option maxRecDepth 100000

def GD : Ctx := ctxL [(43, .pure cLen), (45, .pure cBit), (78, .pure cCmp)]
theorem GD_ok : CtxOk Try.prog GD := ctxL_cons okLen <| ctxL_cons okBit <| ctxL_cons okCmp ctxL_nil
def divV (x y : Nat) : AV := match Nat.beq y 0 with
  | true => .tup [numV 0, numV 0, .sc (.it 2)]
  | false => .tup [numV (x / y), numV (x % y), .sc (.it 0)]
def cDiv : List AV → Option (List Prop × AV)
  | [.v1 (.agg [.ws .u64 6 a]), .v1 (.agg [.ws .u64 6 b])] => some ([], divV (nv a) (nv b))
  | _ => none
def VQ (k : Nat) : List AV := [pt 0 0, pt 1 0, pt 2 0, pt 3 0, pt 4 0, pt 5 0, iv (predI k)]
def HQ (a b q r : Nat → Nat) : Heap := [nb a, nb b, nb (fun _ => 0), nb (fun _ => 0), nb q, nb r]
def InvQ (a b : Nat → Nat) (x : Nat × (Nat → Nat) × (Nat → Nat)) : Prop := x.1 ≤ 384 ∧ DivI (nv a) (nv b) x.1 (nv x.2.1) (nv x.2.2)
theorem divV_ok (x y : Nat) : vokB (divV x y) = true := by
  unfold divV; cases Nat.beq y 0 <;> rfl

end Go.Proofs.Ytnjocbcjejpklaa
