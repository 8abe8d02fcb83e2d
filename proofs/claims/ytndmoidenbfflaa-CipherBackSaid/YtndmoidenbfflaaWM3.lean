/- Numbers of six words, bit by bit: shifts. -/
import Derived.Test.YtndmoidenbfflaaWM2
namespace Go.Rq

theorem wrapI_same {z : Int} (h1 : -9223372036854775808 ≤ z) (h2 : z < 9223372036854775808) : wrapI z = z := by
  rw [wrapI_eq, wrap_i64]; omega

theorem tbit_eq (x i : Nat) : Nat.testBit x i = decide (x / 2 ^ i % 2 = 1) := Nat.testBit_eq_decide_div_mod_eq
theorem tb_modW (x : Nat) {r : Nat} (h : r < 64) : Nat.testBit (x % W) r = Nat.testBit x r := by
  have : W = 2 ^ 64 := by decide
  rw [this, Nat.testBit_mod_two_pow]; simp [h]
theorem tb_modW_hi (x : Nat) {r : Nat} (h : 64 ≤ r) : Nat.testBit (x % W) r = false := by
  have : W = 2 ^ 64 := by decide
  rw [this, Nat.testBit_mod_two_pow]; simp; omega
theorem tb_word (a : Nat → Nat) {k r : Nat} (hk : k < 6) (hr : r < 64) : Nat.testBit (nv a) (64 * k + r) = Nat.testBit (a k) r := by
  have h := bit_nv a (64 * k + r) (by omega)
  rw [show (64 * k + r) / 64 = k by omega, show (64 * k + r) % 64 = r by omega] at h
  rw [tbit_eq, ← h, ← tbit_eq, tb_modW _ hr]
theorem tb_high (a : Nat → Nat) {j : Nat} (h : 384 ≤ j) : Nat.testBit (nv a) j = false := by
  rw [tbit_eq, nv_bit_high a j h]; rfl
theorem nv_of_bits {o : Nat → Nat} {N : Nat} (h : ∀ i r, i < 6 → r < 64 → Nat.testBit (o i) r = Nat.testBit N (64 * i + r)) : nv o = N % R := by
  refine Nat.eq_of_testBit_eq fun j => ?_
  rw [R_pow, Nat.testBit_mod_two_pow]
  by_cases hj : j < 384
  · have e : j = 64 * (j / 64) + j % 64 := by omega
    rw [e, tb_word o (by omega) (by omega), h _ _ (by omega) (by omega)]
    have : 64 * (j / 64) + j % 64 < E := by rw [E_eq]; omega
    simp [this]
  · rw [tb_high o (by omega)]
    have : ¬ j < E := by rw [E_eq]; omega
    simp [this]

def tbI (N : Nat) : Int → Bool
  | .ofNat k => Nat.testBit N k
  | .negSucc _ => false
theorem bitI_tb (N : Nat) (z : Int) : ieq (bitI N z) 1 = tbI N z := by
  rw [Bool.eq_iff_iff, ieq_iff]
  cases z with
  | ofNat k =>
    simp only [bitI, tbI, tbit_eq, decide_eq_true_eq, Int.ofNat_eq_natCast]
    generalize N / 2 ^ k % 2 = x
    omega
  | negSucc k => simp [bitI, tbI]

def inK : Int → Option Nat
  | .ofNat k => match Nat.blt k 6 with
    | true => some k
    | false => none
  | .negSucc _ => none
theorem inK_some {z : Int} {k : Nat} (h : inK z = some k) : z = Int.ofNat k ∧ k < 6 := by
  unfold inK at h
  split at h
  · split at h
    · rename_i hb; cases h; rw [Nat.blt_eq] at hb; exact ⟨rfl, hb⟩
    · cases h
  · cases h
theorem inK_none {z : Int} (h : inK z = none) : z < 0 ∨ 6 ≤ z := by
  unfold inK at h
  split at h
  · rename_i k
    split at h
    · cases h
    · rename_i hb
      have : ¬ k < 6 := by rw [← Nat.blt_eq, hb]; simp
      simp only [Int.ofNat_eq_natCast]; omega
  · exact .inl (Int.negSucc_lt_zero _)

theorem tbI_word (a : Nat → Nat) (K : Int) {s : Nat} (hs : s < 64) : tbI (nv a) (64 * K + s) = match inK K with
    | some k => Nat.testBit (a k) s
    | none => false := by
  cases h : inK K with
  | some k =>
    obtain ⟨rfl, hk⟩ := inK_some h
    have : (64 : Int) * Int.ofNat k + s = Int.ofNat (64 * k + s) := by simp
    rw [this]
    exact tb_word a hk hs
  | none =>
    cases hz : (64 * K + (s : Int)) with
    | ofNat j =>
      simp only [Int.ofNat_eq_natCast] at hz
      have := inK_none h
      exact tb_high a (by omega)
    | negSucc j => rfl

def shiftN (N : Nat) : Int → Nat
  | .ofNat n => N * 2 ^ n
  | .negSucc m => N / 2 ^ (m + 1)
theorem shiftN_tb (N : Nat) (n : Int) (j : Nat) : Nat.testBit (shiftN N n) j = tbI N (Int.ofNat j - n) := by
  cases n with
  | ofNat n =>
    simp only [shiftN, Nat.testBit_mul_two_pow]
    by_cases h : n ≤ j
    · have e : Int.ofNat j - Int.ofNat n = Int.ofNat (j - n) := by simp only [Int.ofNat_eq_natCast]; omega
      rw [e]; simp [h, tbI]
    · have e : Int.ofNat j - Int.ofNat n = Int.negSucc (n - j - 1) := by simp only [Int.ofNat_eq_natCast]; omega
      rw [e]; simp [h, tbI]
  | negSucc m =>
    simp only [shiftN, Nat.testBit_div_two_pow]
    have e : Int.ofNat j - Int.negSucc m = Int.ofNat (j + (m + 1)) := by simp only [Int.ofNat_eq_natCast]; omega
    rw [e]; rfl

/-! the words' shift, word by word -/
def stepSh (a : Nat → Nat) (w : Int) (sh sh2 : Nat) (bp : Bool) (o : Nat → Nat) (i : Nat) : Nat → Nat :=
  let o1 := match inK (Int.ofNat i - w) with
    | some k => upd o i (a k * 2 ^ sh)
    | none => o
  match bp with
  | true => match inK (Int.ofNat i - w - 1) with
    | some k => upd o1 i (o1 i ||| a k % W / 2 ^ sh2)
    | none => o1
  | false => o1
def shO (a : Nat → Nat) (w : Int) (sh sh2 : Nat) (bp : Bool) : Nat → (Nat → Nat)
  | 0 => fun _ => 0
  | i + 1 => stepSh a w sh sh2 bp (shO a w sh sh2 bp i) i
def shV (a : Nat → Nat) (w : Int) (sh sh2 : Nat) (bp : Bool) (i : Nat) : Nat :=
  (match inK (Int.ofNat i - w) with
    | some k => a k * 2 ^ sh
    | none => 0) |||
  match bp with
  | true => match inK (Int.ofNat i - w - 1) with
    | some k => a k % W / 2 ^ sh2
    | none => 0
  | false => 0
theorem stepSh_at (a : Nat → Nat) (w : Int) (sh sh2 : Nat) (bp : Bool) (o : Nat → Nat) (i : Nat) (h : o i = 0) : stepSh a w sh sh2 bp o i i = shV a w sh sh2 bp i := by
  unfold stepSh shV
  cases inK (Int.ofNat i - w) <;> cases bp <;> cases inK (Int.ofNat i - w - 1) <;> simp [upd_same, h]
theorem stepSh_ne (a : Nat → Nat) (w : Int) (sh sh2 : Nat) (bp : Bool) (o : Nat → Nat) {i j : Nat} (h : j ≠ i) : stepSh a w sh sh2 bp o i j = o j := by
  unfold stepSh
  cases inK (Int.ofNat i - w) <;> cases bp <;> cases inK (Int.ofNat i - w - 1) <;> simp [upd_ne _ _ h]
theorem shO_zero (a : Nat → Nat) (w : Int) (sh sh2 : Nat) (bp : Bool) : ∀ n i, n ≤ i → shO a w sh sh2 bp n i = 0
  | 0, _, _ => rfl
  | n + 1, i, h => by simp only [shO]; rw [stepSh_ne _ _ _ _ _ _ (by omega)]; exact shO_zero a w sh sh2 bp n i (by omega)
theorem shO_at (a : Nat → Nat) (w : Int) (sh sh2 : Nat) (bp : Bool) : ∀ n i, i < n → shO a w sh sh2 bp n i = shV a w sh sh2 bp i
  | n + 1, i, h => by
    simp only [shO]
    by_cases e : i = n
    · subst e; exact stepSh_at _ _ _ _ _ _ _ (shO_zero a w sh sh2 bp i i (Nat.le_refl _))
    · rw [stepSh_ne _ _ _ _ _ _ e]; exact shO_at a w sh sh2 bp n i (by omega)
theorem shV_bits (a : Nat → Nat) (w : Int) {b : Nat} (hb : b < 64) (bp : Bool) (hbp : bp = decide (0 < b)) (i : Nat) {r : Nat} (hr : r < 64) :
    Nat.testBit (shV a w b (64 - b) bp i) r = tbI (nv a) (64 * (Int.ofNat i - w) + r - b) := by
  unfold shV
  rw [Nat.testBit_or]
  by_cases h : b ≤ r
  · have e : 64 * (Int.ofNat i - w) + r - b = 64 * (Int.ofNat i - w) + ((r - b : Nat) : Int) := by omega
    rw [e, tbI_word a _ (by omega)]
    have z : (match bp with
      | true => match inK (Int.ofNat i - w - 1) with
        | some k => a k % W / 2 ^ (64 - b)
        | none => 0
      | false => 0).testBit r = false := by
      cases bp <;> simp only [Nat.zero_testBit]
      cases inK (Int.ofNat i - w - 1) with
      | none => simp
      | some k =>
        simp only [Nat.testBit_div_two_pow]
        exact tb_modW_hi _ (by omega)
    rw [z, Bool.or_false]
    cases inK (Int.ofNat i - w) with
    | none => simp
    | some k => simp only [Nat.testBit_mul_two_pow]; simp [h]
  · have e : 64 * (Int.ofNat i - w) + r - b = 64 * (Int.ofNat i - w - 1) + ((r + (64 - b) : Nat) : Int) := by omega
    rw [e, tbI_word a _ (by omega)]
    have : bp = true := by rw [hbp]; simp; omega
    subst this
    have z : (match inK (Int.ofNat i - w) with
      | some k => a k * 2 ^ b
      | none => 0).testBit r = false := by
      cases inK (Int.ofNat i - w) with
      | none => simp
      | some k => simp only [Nat.testBit_mul_two_pow]; simp [h]
    rw [z, Bool.false_or]
    cases inK (Int.ofNat i - w - 1) with
    | none => simp
    | some k => simp only [Nat.testBit_div_two_pow]; exact tb_modW _ (by omega)
theorem shO_nv (a : Nat → Nat) (w : Int) {b : Nat} (hb : b < 64) (bp : Bool) (hbp : bp = decide (0 < b)) {n : Int} (hn : n = 64 * w + b) : nv (shO a w b (64 - b) bp 6) = shiftN (nv a) n % R := by
  refine nv_of_bits fun i r hi hr => ?_
  rw [shO_at a w _ _ _ 6 i hi, shV_bits a w hb bp hbp i hr, shiftN_tb]
  congr 1
  simp only [Int.ofNat_eq_natCast]; omega

theorem places : ∀ k : Fin 767, bitsI .and ((k.val : Int) - 383) 63 = Int.ofNat (((k.val : Int) - 383) % 64).toNat ∧ ((k.val : Int) - 383).fdiv (2 ^ 6) = ((k.val : Int) - 383) / 64 := by decide +kernel

/-! a bit set -/
theorem setbit (o : Nat → Nat) {i j : Nat} : Nat.testBit (upd o (i / 64) (o (i / 64) ||| 1 * 2 ^ min (i % 64) 64) (j / 64)) (j % 64) = (Nat.testBit (o (j / 64)) (j % 64) || decide (i = j)) := by
  by_cases h : j / 64 = i / 64
  · rw [h, upd_same, Nat.testBit_or, Nat.one_mul, Nat.min_eq_left (by omega), Nat.testBit_two_pow]
    congr 1
    rw [Bool.eq_iff_iff, decide_eq_true_eq, decide_eq_true_eq]; omega
  · rw [upd_ne _ _ h]
    have : ¬ i = j := fun e => h (by rw [e])
    simp [this]
theorem shift_far (N : Nat) (hN : N < R) {n : Int} (h : n ≤ -384 ∨ 384 ≤ n) : shiftN N n % R = 0 := by
  have hR : R = 2 ^ E := R_pow
  cases n with
  | ofNat n =>
    simp only [Int.ofNat_eq_natCast] at h
    have : n = E + (n - E) := by rw [E_eq]; omega
    simp only [shiftN]
    rw [this, Nat.pow_add, ← hR, ← Nat.mul_assoc, Nat.mul_right_comm, Nat.mul_mod_left]
  | negSucc m =>
    simp only [shiftN]
    have : N / 2 ^ (m + 1) = 0 := by
      refine Nat.div_eq_of_lt (Nat.lt_of_lt_of_le hN ?_)
      rw [hR]; exact Nat.pow_le_pow_right (by omega) (by rw [E_eq]; omega)
    rw [this]; rfl
end Go.Rq
