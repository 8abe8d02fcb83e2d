/- Numbers of six words: products of words, bits, lengths. -/
import Derived.Test.YtndmoidenbfflaaFw
import Derived.Test.YtndmoidenbfflaaWM
import Derived.Lib.Mul64
import Derived.Lib.Tables
namespace Go.Rq


/-! the product of two words -/
def mulHi (x y : Nat) : Nat :=
  x % W / 4294967296 * (y % W / 4294967296) +
    (x % W / 4294967296 * (y &&& 4294967295) + (x &&& 4294967295) * (y &&& 4294967295) % W / 4294967296) % W / 4294967296 +
    ((x % W / 4294967296 * (y &&& 4294967295) + (x &&& 4294967295) * (y &&& 4294967295) % W / 4294967296 &&& 4294967295) + (x &&& 4294967295) * (y % W / 4294967296)) % W / 4294967296
theorem and_mask (x : Nat) : x &&& 4294967295 = x % 4294967296 := Nat.and_two_pow_sub_one_eq_mod x 32
theorem mulHi_eq (x y : Nat) : mulHi x y = x % W * (y % W) / W := by
  have h := Go.Lib.mul64_hi (x % W) (y % W) (Nat.mod_lt _ (by decide)) (Nat.mod_lt _ (by decide))
  have e1 : x % 4294967296 = x % W % 4294967296 := (Nat.mod_mod_of_dvd x ⟨4294967296, by decide⟩).symm
  have e2 : y % 4294967296 = y % W % 4294967296 := (Nat.mod_mod_of_dvd y ⟨4294967296, by decide⟩).symm
  unfold mulHi
  rw [and_mask, and_mask, and_mask, e1, e2]
  generalize x % W = X at *
  generalize y % W = Y at *
  simp only [W] at *
  obtain ⟨h1, h2, h3, h4⟩ := h
  rw [Nat.mod_eq_of_lt h1, Nat.mod_eq_of_lt h2, Nat.mod_eq_of_lt h3]
  exact h4

/-! how many bits -/
def blen (n : Nat) : Nat := bif Nat.beq n 0 then 0 else Nat.log2 n + 1
theorem blen_zero : blen 0 = 0 := rfl
theorem blen_pos {n : Nat} (h : n ≠ 0) : blen n = Nat.log2 n + 1 := by
  have : Nat.beq n 0 = false := by rw [← Bool.not_eq_true, Nat.beq_eq]; exact h
  unfold blen; rw [this]; rfl
theorem blen_of {n k : Nat} (h1 : 2 ^ k ≤ n) (h2 : n < 2 ^ (k + 1)) : blen n = k + 1 := by
  have hn : n ≠ 0 := by have := Nat.two_pow_pos k; omega
  rw [blen_pos hn]
  have a := (Nat.le_log2 hn).2 h1
  have b := (Nat.log2_lt hn).2 h2
  omega
theorem blen_bounds {n : Nat} (h : n ≠ 0) : 2 ^ (blen n - 1) ≤ n ∧ n < 2 ^ blen n := by
  rw [blen_pos h]
  exact ⟨Nat.log2_self_le h, Nat.lt_log2_self⟩
theorem blen_shift {k x : Nat} (h : 2 ^ k ≤ x) : blen x = k + blen (x / 2 ^ k) := by
  have hp := Nat.two_pow_pos k
  have hq : x / 2 ^ k ≠ 0 := by have := Nat.div_pos h hp; omega
  obtain ⟨h1, h2⟩ := blen_bounds hq
  have hb : 0 < blen (x / 2 ^ k) := by rw [blen_pos hq]; omega
  have : k + blen (x / 2 ^ k) = (k + (blen (x / 2 ^ k) - 1)) + 1 := by omega
  rw [this]
  refine blen_of ?_ ?_
  · rw [Nat.pow_add, Nat.mul_comm]; exact (Nat.le_div_iff_mul_le hp).1 h1
  · rw [← this, Nat.pow_add, Nat.mul_comm]; exact (Nat.div_lt_iff_lt_mul hp).1 h2
theorem blen_lt {n k : Nat} (h : n < 2 ^ k) : blen n ≤ k := by
  by_cases hn : n = 0
  · subst hn; rw [blen_zero]; omega
  · rw [blen_pos hn]; have := (Nat.log2_lt hn).2 h; omega
theorem tab_blen : ∀ n : Fin 256, byteAt Go.Lib.len8tab n.val = blen n.val := by decide +kernel
theorem tab_eq {n : Nat} (h : n < 256) : byteAt Go.Lib.len8tab n = blen n := tab_blen ⟨n, h⟩

theorem wrapI_small {n : Nat} (h : n < 9223372036854775808) : wrapI (Int.ofNat n) = Int.ofNat n := by
  have : Nat.blt n two63 = true := by rw [Nat.blt_eq]; exact h
  unfold wrapI; simp only [this]; rfl

/-! bits of places -/
theorem and63 : ∀ i : Fin 384, bitsI .and (Int.ofNat i.val) 63 = Int.ofNat (i.val % 64) := by decide +kernel
theorem fdiv6 : ∀ i : Fin 384, (Int.ofNat i.val).fdiv (2 ^ 6) = Int.ofNat (i.val / 64) := by decide +kernel
theorem tdiv64 : ∀ i : Fin 384, wrapI ((Int.ofNat i.val).tdiv 64) = Int.ofNat (i.val / 64) := by decide +kernel
theorem tmod64 : ∀ i : Fin 384, (Int.ofNat i.val).tmod 64 = Int.ofNat (i.val % 64) := by decide +kernel

theorem bit_word (a : Nat → Nat) {i : Nat} (h : i < 384) :
    wrapI (Int.ofNat ((a (i / 64) % W / 2 ^ min (i % 64) 64 &&& 1) % W)) = bitI (nv a) (Int.ofNat i) := by
  rw [Nat.and_one_is_mod, Nat.min_eq_left (by omega), bit_nv a i h]
  have : nv a / 2 ^ i % 2 < 2 := Nat.mod_lt _ (by decide)
  rw [Nat.mod_eq_of_lt (a := nv a / 2 ^ i % 2) (by simp only [W]; omega)]
  exact wrapI_small (by omega)
theorem bit_high (a : Nat → Nat) {i : Nat} (h : 384 ≤ i) : bitI (nv a) (Int.ofNat i) = 0 := by
  simp only [bitI, nv_bit_high a i h]; rfl

/-! the length, from the highest word on -/
def lenP (a : Nat → Nat) (v : Int → Prop) : Nat → Prop
  | 0 => v 0
  | i + 1 => match not (Nat.beq (a i % W) 0) with
    | true => v (wrapI (wrapI (64 * Int.ofNat i) + Int.ofNat (blen (a i % W))))
    | false => lenP a v i
theorem lenP_of (a : Nat → Nat) (v : Int → Prop) : ∀ i, i ≤ 6 → v (Int.ofNat (blen (nvn a i))) → lenP a v i
  | 0, _, h => h
  | i + 1, hi, h => by
    simp only [lenP]
    have hl := nvn_lt a i
    cases h1 : Nat.beq (a i % W) 0
    · have hne : a i % W ≠ 0 := fun e => by rw [← Nat.beq_eq, h1] at e; cases e
      simp only [Bool.not_false]
      have hlt : a i % W < 2 ^ 64 := Nat.mod_lt _ (by decide)
      have hb := blen_lt hlt
      have e : blen (nvn a (i + 1)) = 64 * i + blen (a i % W) := by
        have hw : W ^ i = 2 ^ (64 * i) := by rw [Nat.pow_mul]; rfl
        simp only [nvn]
        have hd : (nvn a i + W ^ i * (a i % W)) / 2 ^ (64 * i) = a i % W := by
          rw [← hw, Nat.add_mul_div_left _ _ (Nat.pow_pos (by decide)), Nat.div_eq_of_lt hl, Nat.zero_add]
        have hs := blen_shift (k := 64 * i) (x := nvn a i + W ^ i * (a i % W)) ?_
        · rw [hd] at hs; exact hs
        rw [← hw]
        have := Nat.mul_le_mul_left (W ^ i) (Nat.one_le_iff_ne_zero.2 hne)
        omega
      rw [e] at h
      have e2 : wrapI (wrapI (64 * Int.ofNat i) + Int.ofNat (blen (a i % W))) = Int.ofNat (64 * i + blen (a i % W)) := by
        have e3 : (64 : Int) * Int.ofNat i = Int.ofNat (64 * i) := by simp
        rw [e3, wrapI_small (by omega)]
        have e4 : Int.ofNat (64 * i) + Int.ofNat (blen (a i % W)) = Int.ofNat (64 * i + blen (a i % W)) := by simp
        rw [e4, wrapI_small (by omega)]
      rw [e2]; exact h
    · have hz : a i % W = 0 := Nat.beq_eq.mp h1
      simp only [Bool.not_true]
      refine lenP_of a v i (by omega) ?_
      simp only [nvn, hz, Nat.mul_zero, Nat.add_zero] at h
      exact h
/-- The length, bit by bit. -/
def lenB (n : Nat) (v : Int → Prop) : Nat → Prop
  | 0 => v 0
  | i + 1 => match ieq (Int.ofNat (n / 2 ^ i % 2)) 1 with
    | true => v (wrapI (Int.ofNat i + 1))
    | false => lenB n v i
theorem lenB_of (n : Nat) (v : Int → Prop) : ∀ i, i < 9223372036854775807 → v (Int.ofNat (blen (n % 2 ^ i))) → lenB n v i
  | 0, _, h => by
    rw [Nat.pow_zero, Nat.mod_one] at h; exact h
  | i + 1, hi, h => by
    simp only [lenB]
    have hm : n % 2 ^ (i + 1) = n % 2 ^ i + 2 ^ i * (n / 2 ^ i % 2) := by rw [Nat.pow_succ, Nat.mod_mul]
    have hp := Nat.mod_lt n (Nat.two_pow_pos i)
    have h2 : n / 2 ^ i % 2 < 2 := Nat.mod_lt _ (by decide)
    rw [hm] at h
    generalize n / 2 ^ i % 2 = d at *
    have : d = 0 ∨ d = 1 := by omega
    rcases this with rfl | rfl
    · exact lenB_of n v i (by omega) (by simpa using h)
    · have e : blen (n % 2 ^ i + 2 ^ i * 1) = i + 1 := blen_of (by omega) (by rw [Nat.pow_succ]; omega)
      rw [e] at h
      have e2 : wrapI (Int.ofNat i + 1) = Int.ofNat (i + 1) := by
        have : Int.ofNat i + 1 = Int.ofNat (i + 1) := rfl
        rw [this, wrapI_small (by omega)]
      show v (wrapI (Int.ofNat i + 1))
      rw [e2]; exact h

theorem nvn_congr {f g : Nat → Nat} : ∀ {i}, (∀ j, j < i → f j = g j) → nvn f i = nvn g i
  | 0, _ => rfl
  | i + 1, h => by simp only [nvn]; rw [nvn_congr (i := i) fun j hj => h j (by omega), h i (by omega)]
theorem nvn_upd (f : Nat → Nat) (i x : Nat) : nvn (upd f i x) (i + 1) = nvn f i + W ^ i * (x % W) := by
  simp only [nvn, upd_same]
  rw [nvn_congr fun j hj => upd_ne f x (by omega)]
theorem wrapI_succ {i : Nat} (h : i < 9223372036854775806) : wrapI (Int.ofNat i + 1) = Int.ofNat (i + 1) := by
  have : Int.ofNat i + 1 = Int.ofNat (i + 1) := rfl
  rw [this, wrapI_small (by omega)]

/-! the document's addition and subtraction, word by word -/
def carryD (x y c : Nat) : Nat := bif Nat.blt ((x + y + c) % W) ((x + y) % W) then 1 else bif Nat.blt ((x + y) % W) (x % W) then 1 else 0
theorem carryD_le (x y c : Nat) : carryD x y c ≤ 1 := by
  unfold carryD; cases Nat.blt ((x + y + c) % W) ((x + y) % W) <;> cases Nat.blt ((x + y) % W) (x % W) <;> simp
theorem carryD_eq (x y c : Nat) (h : c ≤ 1) : (x + y + c) % W + W * carryD x y c = x % W + y % W + c := by
  unfold carryD
  cases h1 : Nat.blt ((x + y + c) % W) ((x + y) % W)
  · have n1 : ¬ (x + y + c) % W < (x + y) % W := by rw [← Nat.blt_eq, h1]; simp
    cases h2 : Nat.blt ((x + y) % W) (x % W)
    · have n2 : ¬ (x + y) % W < x % W := by rw [← Nat.blt_eq, h2]; simp
      simp only [cond_false, W] at *; omega
    · have n2 : (x + y) % W < x % W := by rw [← Nat.blt_eq, h2]
      simp only [cond_false, cond_true, W] at *; omega
  · have n1 : (x + y + c) % W < (x + y) % W := by rw [← Nat.blt_eq, h1]
    simp only [cond_true, W] at *; omega
def borrowD (x y c : Nat) : Nat := bif Nat.blt ((x + (W - y % W)) % W) (c % W) then 1 else bif Nat.blt (x % W) (y % W) then 1 else 0
theorem borrowD_le (x y c : Nat) : borrowD x y c ≤ 1 := by
  unfold borrowD; cases Nat.blt ((x + (W - y % W)) % W) (c % W) <;> cases Nat.blt (x % W) (y % W) <;> simp
theorem borrowD_eq (x y c : Nat) (h : c ≤ 1) : (x + (W - y % W) + (W - c % W)) % W + (y % W + c) = x % W + W * borrowD x y c := by
  unfold borrowD
  have e : c % W = c := Nat.mod_eq_of_lt (by simp only [W]; omega)
  rw [e]
  cases h1 : Nat.blt ((x + (W - y % W)) % W) c
  · have n1 : ¬ (x + (W - y % W)) % W < c := by rw [← Nat.blt_eq, h1]; simp
    cases h2 : Nat.blt (x % W) (y % W)
    · have n2 : ¬ x % W < y % W := by rw [← Nat.blt_eq, h2]; simp
      simp only [cond_false, W] at *; omega
    · have n2 : x % W < y % W := by rw [← Nat.blt_eq, h2]
      simp only [cond_false, cond_true, W] at *; omega
  · have n1 : (x + (W - y % W)) % W < c := by rw [← Nat.blt_eq, h1]
    simp only [cond_true, W] at *; omega
theorem sum_end {o c : Nat} {x y : Nat} (hc : c ≤ 1) (h : o + R * c = x + y) (ho : o < R) : o % R = (x + y) % R ∧ Nat.beq (c % W) (1 % W) = Nat.ble R (x + y) := by
  refine ⟨by rw [← h, Nat.add_mul_mod_self_left], ?_⟩
  have e1 : 1 % W = 1 := by decide
  have e2 : c % W = c := Nat.mod_eq_of_lt (by simp only [W]; omega)
  rw [e1, e2, Bool.eq_iff_iff, Nat.beq_eq, Nat.ble_eq]
  have : c = 0 ∨ c = 1 := by omega
  rcases this with rfl | rfl
  · constructor <;> intro h <;> omega
  · constructor
    · intro _; omega
    · intro _; rfl
theorem diff_end {o c : Nat} {x y : Nat} (hc : c ≤ 1) (h : o + y = x + R * c) (ho : o < R) (hy : y < R) : o = (x + R - y) % R ∧ Nat.beq (c % W) (1 % W) = Nat.blt x y := by
  have e1 : 1 % W = 1 := by decide
  have e2 : c % W = c := Nat.mod_eq_of_lt (by simp only [W]; omega)
  rw [e1, e2]
  have : c = 0 ∨ c = 1 := by omega
  rcases this with rfl | rfl
  · refine ⟨?_, ?_⟩
    · rw [show x + R - y = o + R by omega, Nat.add_mod_right, Nat.mod_eq_of_lt ho]
    · rw [Bool.eq_iff_iff, Nat.beq_eq, Nat.blt_eq]; omega
  · refine ⟨?_, ?_⟩
    · rw [show x + R - y = o by omega, Nat.mod_eq_of_lt ho]
    · rw [Bool.eq_iff_iff, Nat.beq_eq, Nat.blt_eq]; omega
end Go.Rq
