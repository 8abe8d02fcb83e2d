/- Numbers of six words: products. -/
import Derived.Test.YtndmoidenbfflaaWM4
namespace Go.Rq

/-- A sum of digits to base B. -/
def sB (B : Nat) (f : Nat → Nat) : Nat → Nat
  | 0 => 0
  | i + 1 => sB B f i + B ^ i * (f i % W)
theorem sB_W (f : Nat → Nat) : ∀ i, sB W f i = nvn f i
  | 0 => rfl
  | i + 1 => by simp only [sB, nvn, sB_W f i]
theorem sB_congr {B : Nat} {f g : Nat → Nat} : ∀ {i}, (∀ j, j < i → f j % W = g j % W) → sB B f i = sB B g i
  | 0, _ => rfl
  | i + 1, h => by simp only [sB]; rw [sB_congr (i := i) fun j hj => h j (by omega), h i (by omega)]
theorem sB_upd_hi {B : Nat} (f : Nat → Nat) {j m x : Nat} (h : m ≤ j) : sB B (upd f j x) m = sB B f m :=
  sB_congr fun i hi => by rw [upd_ne _ _ (by omega)]
theorem sB_upd {B : Nat} (f : Nat → Nat) {j x : Nat} : ∀ {m}, j < m → sB B (upd f j x) m + B ^ j * (f j % W) = sB B f m + B ^ j * (x % W)
  | m + 1, h => by
    simp only [sB]
    by_cases e : j = m
    · subst e; rw [upd_same, sB_upd_hi f (Nat.le_refl _)]; omega
    · have := sB_upd (B := B) f (j := j) (x := x) (m := m) (by omega)
      rw [upd_ne _ _ (show m ≠ j by omega)]
      omega

/-- A row of a product, after k digits. -/
structure RowI (B : Nat) (x y : Nat → Nat) (n i k : Nat) (all : Nat → Nat) (c : Nat) : Prop where
  val : sB B all (i + n) + B ^ (i + k) * c = sB B x i * sB B y n + B ^ i * (x i % W) * sB B y k
  small : ∀ j, all j % W < B
  carry : c < B
theorem RowI.start {B : Nat} {x y all : Nat → Nat} {n i : Nat} (hB : 0 < B) (h : sB B all (i + n) = sB B x i * sB B y n) (hs : ∀ j, all j % W < B) : RowI B x y n i 0 all 0 :=
  ⟨by simp [sB, h], hs, hB⟩
theorem RowI.step {B : Nat} {x y all : Nat → Nat} {n i k c l c' : Nat} (h : RowI B x y n i k all c) (hk : k < n) (e : l % W + B * c' = all (i + k) % W + c + x i % W * (y k % W)) (hl : l % W < B) (hc : c' < B) :
    RowI B x y n i (k + 1) (upd all (i + k) l) c' := by
  refine ⟨?_, fun j => ?_, hc⟩
  · have h1 := sB_upd (B := B) all (j := i + k) (x := l) (m := i + n) (by omega)
    have h2 := h.val
    simp only [sB]
    rw [Nat.mul_add, ← Nat.add_assoc (sB B x i * sB B y n), ← h2]
    have e3 : B ^ (i + (k + 1)) * c' = B ^ (i + k) * (B * c') := by rw [← Nat.add_assoc, Nat.pow_succ, Nat.mul_assoc]
    have e4 : B ^ i * (x i % W) * (B ^ k * (y k % W)) = B ^ (i + k) * (x i % W * (y k % W)) := by
      rw [Nat.pow_add]; simp only [Nat.mul_assoc, Nat.mul_left_comm, Nat.mul_comm]
    rw [e3, e4]
    have e5 : B ^ (i + k) * (l % W) + B ^ (i + k) * (B * c') = B ^ (i + k) * (all (i + k) % W) + B ^ (i + k) * c + B ^ (i + k) * (x i % W * (y k % W)) := by
      rw [← Nat.mul_add, ← Nat.mul_add, ← Nat.mul_add, e]
    omega
  · by_cases hj : j = i + k
    · subst hj; rw [upd_same]; exact hl
    · rw [upd_ne _ _ hj]; exact h.small j
theorem RowI.fin {B : Nat} {x y all : Nat → Nat} {n i c : Nat} (h : RowI B x y n i n all c) (hB : B ≤ W) : sB B (upd all (i + n) c) (i + 1 + n) = sB B x (i + 1) * sB B y n ∧ ∀ j, upd all (i + n) c j % W < B := by
  have hcW : c % W = c := Nat.mod_eq_of_lt (Nat.lt_of_lt_of_le h.carry hB)
  refine ⟨?_, fun j => ?_⟩
  · rw [show i + 1 + n = i + n + 1 by omega]
    simp only [sB]
    rw [upd_same, sB_upd_hi all (Nat.le_refl _), hcW, h.val, Nat.add_mul]
  · by_cases hj : j = i + n
    · subst hj; rw [upd_same, hcW]; exact h.carry
    · rw [upd_ne _ _ hj]; exact h.small j

/-! the words' step: two sums of products -/
def mLo1 (x y p : Nat) : Nat := x * y + p + 0
def mC1 (x y p : Nat) : Nat := (x * y % W + p % W + 0 % W) / W
def mLo (x y p c : Nat) : Nat := x * y + p + 0 + c + 0
def mC2 (x y p c : Nat) : Nat := ((x * y + p + 0) % W + c % W + 0 % W) / W
def mHi (x y p c : Nat) : Nat := x % W * (y % W) / W + mC1 x y p + mC2 x y p c
theorem m_step {x y p c : Nat} (hc : c < W) : mLo x y p c % W + W * mHi x y p c = p % W + c + x % W * (y % W) ∧ mHi x y p c < W := by
  have hx : x % W < W := Nat.mod_lt _ (by decide)
  have hy : y % W < W := Nat.mod_lt _ (by decide)
  have hp : p % W < W := Nat.mod_lt _ (by decide)
  have hxy : x * y % W = x % W * (y % W) % W := Nat.mul_mod _ _ _
  have hub : x % W * (y % W) ≤ (W - 1) * (W - 1) := Nat.mul_le_mul (by omega) (by omega)
  unfold mLo mHi mC1 mC2
  have e0 : (x * y + p + 0 + c + 0) % W = (x * y % W + p % W + c) % W := by simp only [W]; omega
  have e1 : (x * y + p + 0) % W = (x * y % W + p % W) % W := by simp only [W]; omega
  rw [e0, e1, hxy]
  generalize x % W * (y % W) = t at *
  generalize p % W = q at *
  simp only [W] at *
  omega

/-! the two halves of twelve words -/
theorem sB_add (B : Nat) (f : Nat → Nat) (m : Nat) : ∀ k, sB B f (m + k) = sB B f m + B ^ m * sB B (fun j => f (m + j)) k
  | 0 => by simp [sB]
  | k + 1 => by
    rw [← Nat.add_assoc]
    simp only [sB]
    rw [sB_add B f m k, Nat.mul_add, Nat.pow_add, Nat.mul_assoc, Nat.add_assoc]
theorem sB_split (f : Nat → Nat) : sB W f 12 = nv f + R * nv (fun j => f (6 + j)) := by
  rw [show 12 = 6 + 6 from rfl, sB_add, sB_W, sB_W, ← nv_nvn, ← nv_nvn, ← R_eq]
theorem mul_halves {a b all : Nat → Nat} (h : sB W all 12 = sB W a 6 * sB W b 6) : nv all = nv a * nv b % R ∧ nv (fun j => all (6 + j)) = nv a * nv b / R := by
  rw [sB_split, sB_W, sB_W, ← nv_nvn, ← nv_nvn] at h
  have h1 := nv_lt all
  rw [← h]
  refine ⟨by rw [Nat.add_mul_mod_self_left, Nat.mod_eq_of_lt h1], by rw [Nat.add_mul_div_left _ _ (by decide), Nat.div_eq_of_lt h1, Nat.zero_add]⟩

/-! halves of words -/
def B32 : Nat := 4294967296
def hO (a : Nat → Nat) : Nat → (Nat → Nat)
  | 0 => fun _ => 0
  | i + 1 => upd (upd (hO a i) (2 * i) (a i &&& 4294967295)) (2 * i + 1) (a i % W / 2 ^ min 32 64)
theorem hO_at (a : Nat → Nat) : ∀ n i, i < n → hO a n (2 * i) = a i % B32 ∧ hO a n (2 * i + 1) = a i % W / B32
  | n + 1, i, h => by
    simp only [hO]
    by_cases e : i = n
    · subst e
      rw [upd_ne _ _ (show 2 * i ≠ 2 * i + 1 by omega), upd_same, upd_same, and_mask]
      exact ⟨rfl, rfl⟩
    · rw [upd_ne _ _ (show 2 * i ≠ 2 * n + 1 by omega), upd_ne _ _ (show 2 * i ≠ 2 * n by omega), upd_ne _ _ (show 2 * i + 1 ≠ 2 * n + 1 by omega), upd_ne _ _ (show 2 * i + 1 ≠ 2 * n by omega)]
      exact hO_at a n i (by omega)
theorem hO_small (a : Nat → Nat) : ∀ n j, hO a n j < B32
  | 0, _ => Nat.zero_lt_of_lt (show 1 < B32 by decide)
  | n + 1, j => by
    simp only [hO]
    by_cases e : j = 2 * n + 1
    · subst e; rw [upd_same]
      have := Nat.mod_lt (a n) (show 0 < W by decide)
      rw [show min 32 64 = 32 from rfl]
      simp only [W, B32] at *; omega
    · rw [upd_ne _ _ e]
      by_cases e2 : j = 2 * n
      · subst e2; rw [upd_same, and_mask]; exact Nat.mod_lt _ (by decide)
      · rw [upd_ne _ _ e2]; exact hO_small a n j
/-- Two digits make one. -/
theorem sB_pair (B : Nat) (f g : Nat → Nat) : ∀ n, (∀ i, i < n → g i % W = f (2 * i) % W + B * (f (2 * i + 1) % W)) → sB (B * B) g n = sB B f (2 * n)
  | 0, _ => rfl
  | n + 1, h => by
    have ih := sB_pair B f g n fun i hi => h i (by omega)
    have e : 2 * (n + 1) = 2 * n + 1 + 1 := by omega
    rw [e]
    simp only [sB]
    rw [ih, h n (by omega), Nat.mul_add, ← Nat.pow_two, ← Nat.pow_mul, Nat.pow_succ B (2 * n), Nat.mul_assoc]
    omega
theorem hO_nv (a : Nat → Nat) : sB B32 (hO a 6) 12 = nv a := by
  have := sB_pair B32 (hO a 6) a 6 fun i hi => by
    have h := hO_at a 6 i hi
    have h1 := hO_small a 6 (2 * i)
    have h2 := hO_small a 6 (2 * i + 1)
    rw [h.1] at h1
    rw [h.2] at h2
    rw [h.1, h.2]
    simp only [B32, W] at *
    omega
  rw [show 12 = 2 * 6 from rfl, ← this, show B32 * B32 = W by decide, sB_W, ← nv_nvn]

def tS (x y p c : Nat) : Nat := x * y + p + c
theorem s_step {x y p c : Nat} (hx : x % W < B32) (hy : y % W < B32) (hp : p % W < B32) (hc : c < B32) :
    (tS x y p c &&& 4294967295) % W + B32 * (tS x y p c % W / 2 ^ min 32 64) = p % W + c + x % W * (y % W) ∧ (tS x y p c &&& 4294967295) % W < B32 ∧ tS x y p c % W / 2 ^ min 32 64 < B32 := by
  have hub : x % W * (y % W) ≤ (B32 - 1) * (B32 - 1) := Nat.mul_le_mul (by omega) (by omega)
  have e : tS x y p c % W = x % W * (y % W) + p % W + c := by
    unfold tS
    rw [Nat.add_mod, Nat.add_mod (x * y), Nat.mul_mod]
    generalize x % W * (y % W) = t at *
    generalize p % W = q at *
    simp only [B32, W] at *
    omega
  rw [and_mask, show min 32 64 = 32 from rfl]
  have e2 : tS x y p c % 4294967296 = tS x y p c % W % 4294967296 := (Nat.mod_mod_of_dvd _ ⟨4294967296, by decide⟩).symm
  rw [e2, e]
  generalize x % W * (y % W) = t at *
  generalize p % W = q at *
  simp only [B32, W] at *
  omega

def jO (p : Nat → Nat) (o : Nat) : Nat → (Nat → Nat)
  | 0 => fun _ => 0
  | i + 1 => upd (jO p o i) i (p (2 * i + o) ||| p (2 * i + o + 1) * 2 ^ min 32 64)
theorem jO_at (p : Nat → Nat) (o : Nat) : ∀ n i, i < n → jO p o n i = p (2 * i + o) ||| p (2 * i + o + 1) * 2 ^ min 32 64
  | n + 1, i, h => by
    simp only [jO]
    by_cases e : i = n
    · subst e; rw [upd_same]
    · rw [upd_ne _ _ e]; exact jO_at p o n i (by omega)
theorem or_word {x y : Nat} (hx : x % W < B32) (hy : y % W < B32) : (x ||| y * 2 ^ min 32 64) % W = x % W + B32 * (y % W) := by
  have hW : W = 2 ^ 64 := by decide
  rw [show min 32 64 = 32 from rfl]
  have e1 : (x ||| y * 2 ^ 32) % W = x % W ||| (y * 2 ^ 32) % W := by
    rw [hW]; exact Nat.or_mod_two_pow
  have e2 : (y * 2 ^ 32) % W = 2 ^ 32 * (y % W) := by simp only [B32, W] at *; omega
  rw [e1, e2, Nat.or_comm, ← Nat.two_pow_add_eq_or_of_lt (by simp only [B32] at hx; exact hx)]
  simp only [B32, W] at *; omega
theorem jO_nv {p : Nat → Nat} (hs : ∀ j, p j % W < B32) (o : Nat) : nv (jO p o 6) = sB B32 (fun j => p (j + o)) 12 := by
  have := sB_pair B32 (fun j => p (j + o)) (jO p o 6) 6 fun i hi => by
    rw [jO_at p o 6 i hi, or_word (hs _) (hs _)]
    rw [show 2 * i + 1 + o = 2 * i + o + 1 by omega]
  rw [show 12 = 2 * 6 from rfl, ← this, show B32 * B32 = W by decide, sB_W, ← nv_nvn]
theorem mul_ends {p : Nat → Nat} {x y : Nat} (hs : ∀ j, p j % W < B32) (h : sB B32 p 24 = x * y) : nv (jO p 0 6) = x * y % R ∧ nv (jO p 12 6) = x * y / R := by
  rw [show 24 = 12 + 12 from rfl, sB_add] at h
  have hR : B32 ^ 12 = R := by decide
  have e0 := jO_nv hs 0
  have e1 := jO_nv hs 12
  simp only [Nat.add_zero] at e0
  have e2 : sB B32 (fun j => p (j + 12)) 12 = sB B32 (fun j => p (12 + j)) 12 := sB_congr fun j _ => by simp only [Nat.add_comm]
  rw [hR, ← e0, ← e2, ← e1] at h
  have h1 := nv_lt (jO p 0 6)
  rw [← h]
  exact ⟨by rw [Nat.add_mul_mod_self_left, Nat.mod_eq_of_lt h1], by rw [Nat.add_mul_div_left _ _ (by decide), Nat.div_eq_of_lt h1, Nat.zero_add]⟩
end Go.Rq
