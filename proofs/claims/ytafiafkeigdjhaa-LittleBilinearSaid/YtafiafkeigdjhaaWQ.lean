/- Long division by two half words: what each round keeps. -/
import Derived.Test.YtafiafkeigdjhaaWM2
namespace Go.Rq
open Go

/-- A guess q of (U B + c) / (A B + b) that is not too small. -/
structure KI (U A b c q r : Nat) : Prop where
  eq : q * A + r = U
  ge : (U * 4294967296 + c) / (A * 4294967296 + b) ≤ q
  lt : r < 4294967296

theorem split_m (Q A B b : Nat) : Q * (A * B + b) = Q * A * B + Q * b := by rw [Nat.mul_add, Nat.mul_assoc]
section
variable {U A b c q r : Nat}
theorem KI.start (hA : 2147483648 ≤ A) (hA' : A < 4294967296) (hc : c < 4294967296) : KI U A b c (U / A) (U % A) := by
  have hA0 : 0 < A := by omega
  refine ⟨by rw [Nat.mul_comm]; exact Nat.div_add_mod U A, ?_, Nat.lt_trans (Nat.mod_lt _ hA0) hA'⟩
  rw [Nat.le_div_iff_mul_le hA0]
  have h1 := Nat.div_mul_le_self (U * 4294967296 + c) (A * 4294967296 + b)
  generalize (U * 4294967296 + c) / (A * 4294967296 + b) = Q at *
  rw [split_m] at h1
  omega
theorem KI.out (h : KI U A b c q r) (hA : 2147483648 ≤ A) (h2 : q * b ≤ 4294967296 * r + c) : q = (U * 4294967296 + c) / (A * 4294967296 + b) := by
  refine Nat.le_antisymm ?_ h.ge
  rw [Nat.le_div_iff_mul_le (by omega), split_m]
  have := h.eq
  omega
theorem KI.dec (h : KI U A b c q r) (hU : U < A * 4294967296 + b) (hc : c < 4294967296) (h2 : 4294967296 ≤ q ∨ 4294967296 * r + c < q * b) :
    1 ≤ q ∧ (q - 1) * A + (r + A) = U ∧ (U * 4294967296 + c) / (A * 4294967296 + b) ≤ q - 1 := by
  have hY : 0 < A * 4294967296 + b := by omega
  have e := h.eq
  have hQ : (U * 4294967296 + c) / (A * 4294967296 + b) < q := by
    rcases h2 with h2 | h2
    · refine Nat.lt_of_lt_of_le ?_ h2
      rw [Nat.div_lt_iff_lt_mul hY]
      omega
    · rw [Nat.div_lt_iff_lt_mul hY, split_m]
      have := h.lt
      omega
  have hq1 : 1 ≤ q := Nat.lt_of_le_of_lt (Nat.zero_le _) hQ
  obtain ⟨k, rfl⟩ : ∃ k, q = k + 1 := ⟨q - 1, by omega⟩
  refine ⟨by omega, ?_, Nat.le_of_lt_succ hQ⟩
  rw [Nat.add_sub_cancel]
  rw [Nat.succ_mul] at e
  omega
theorem KI.brk (hU : U < A * 4294967296 + b) (hb : b < 4294967296) (e : q * A + r = U) (hQ : (U * 4294967296 + c) / (A * 4294967296 + b) ≤ q) (hr : 4294967296 ≤ r) (_ : 0 < A) :
    q = (U * 4294967296 + c) / (A * 4294967296 + b) := by
  refine Nat.le_antisymm ?_ hQ
  have hq : q < 4294967296 := by
    refine Nat.lt_of_mul_lt_mul_right (a := A) ?_
    rw [Nat.mul_comm 4294967296]
    omega
  have h3 : q * b ≤ 4294967296 * 4294967296 := Nat.mul_le_mul (by omega) (by omega)
  rw [Nat.le_div_iff_mul_le (by omega), split_m]
  omega
theorem KI.small (h : KI U A b c q r) (hA : 2147483648 ≤ A) (hU : U < 18446744073709551616) : q < 8589934592 := by
  have := h.eq
  refine Nat.lt_of_mul_lt_mul_right (a := 2147483648) ?_
  have h1 : q * 2147483648 ≤ q * A := Nat.mul_le_mul_left _ hA
  omega
end

/-- Words: what the two rounds of Div64 take off. -/
theorem norm_y {y : Nat} (h0 : y ≠ 0) (hy : y < W) : 1 ≤ blen y ∧ blen y ≤ 64 ∧ 9223372036854775808 ≤ y * 2 ^ (64 - blen y) ∧ y * 2 ^ (64 - blen y) < W := by
  have hb := blen_lt (n := y) (k := 64) (by simpa [W] using hy)
  obtain ⟨h1, h2⟩ := blen_bounds h0
  have hp : 1 ≤ blen y := by
    rcases Nat.eq_zero_or_pos (blen y) with e | e
    · rw [e] at h2; simp at h2; omega
    · exact e
  have e1 : (2 : Nat) ^ (blen y - 1) * 2 ^ (64 - blen y) = 9223372036854775808 := by rw [← Nat.pow_add, show blen y - 1 + (64 - blen y) = 63 by omega]
  have e2 : (2 : Nat) ^ blen y * 2 ^ (64 - blen y) = W := by rw [← Nat.pow_add, show blen y + (64 - blen y) = 64 by omega]; rfl
  refine ⟨hp, hb, ?_, ?_⟩
  · rw [← e1]; exact Nat.mul_le_mul_right _ h1
  · rw [← e2]; exact Nat.mul_lt_mul_of_pos_right h2 (Nat.two_pow_pos _)
/-- The words, moved to the left. -/
theorem norm_u {h l y s : Nat} (hs : s ≤ 64) (hl : l < W) (hh : h < y) :
    (h * 2 ^ s + l / 2 ^ (64 - s)) * W + l * 2 ^ s % W = (h * W + l) * 2 ^ s ∧ h * 2 ^ s + l / 2 ^ (64 - s) < y * 2 ^ s := by
  have e2 : (2 : Nat) ^ (64 - s) * 2 ^ s = W := by rw [← Nat.pow_add, show 64 - s + s = 64 by omega]; rfl
  have hp := Nat.two_pow_pos s
  have hp' := Nat.two_pow_pos (64 - s)
  have e3 : l * 2 ^ s / W = l / 2 ^ (64 - s) := by
    rw [← e2, Nat.mul_div_mul_right _ _ hp]
  have e4 := Nat.div_add_mod (l * 2 ^ s) W
  rw [e3] at e4
  have e5 : l / 2 ^ (64 - s) < 2 ^ s := by
    rw [Nat.div_lt_iff_lt_mul hp', Nat.mul_comm, e2]; exact hl
  refine ⟨?_, ?_⟩
  · rw [Nat.add_mul, Nat.add_mul, Nat.mul_right_comm h, Nat.mul_comm (l / 2 ^ (64 - s)) W]
    omega
  · have : (h + 1) * 2 ^ s ≤ y * 2 ^ s := Nat.mul_le_mul_right _ hh
    rw [Nat.succ_mul] at this
    omega
/-- Two quotients of half words are the quotient. -/
theorem two_div {U Y c d : Nat} (hY : 0 < Y) (hU : U < Y) (hc : c < 4294967296) (hd : d < 4294967296) :
    let q1 := (U * 4294967296 + c) / Y
    let r1 := (U * 4294967296 + c) % Y
    let q0 := (r1 * 4294967296 + d) / Y
    (U * 18446744073709551616 + (c * 4294967296 + d)) / Y = q1 * 4294967296 + q0 ∧ (U * 18446744073709551616 + (c * 4294967296 + d)) % Y = (r1 * 4294967296 + d) % Y ∧ q1 < 4294967296 ∧ q0 < 4294967296 ∧ r1 < Y := by
  intro q1 r1 q0
  have h1 : Y * q1 + r1 = U * 4294967296 + c := Nat.div_add_mod _ _
  have h2 : Y * q0 + (r1 * 4294967296 + d) % Y = r1 * 4294967296 + d := Nat.div_add_mod _ _
  have hr1 : r1 < Y := Nat.mod_lt _ hY
  have hr0 : (r1 * 4294967296 + d) % Y < Y := Nat.mod_lt _ hY
  have e : U * 18446744073709551616 + (c * 4294967296 + d) = Y * (q1 * 4294967296 + q0) + (r1 * 4294967296 + d) % Y := by
    rw [Nat.mul_add, ← Nat.mul_assoc]
    omega
  have key : (Y * (q1 * 4294967296 + q0) + (r1 * 4294967296 + d) % Y) / Y = q1 * 4294967296 + q0 := by
    rw [Nat.mul_add_div hY, Nat.div_eq_of_lt hr0, Nat.add_zero]
  refine ⟨by rw [e, key], by rw [e, Nat.mul_add_mod, Nat.mod_eq_of_lt hr0], ?_, ?_, hr1⟩
  · rw [Nat.div_lt_iff_lt_mul hY]; omega
  · rw [Nat.div_lt_iff_lt_mul hY]; omega
theorem shift_mod {N y s : Nat} : (N * 2 ^ s) % (y * 2 ^ s) / 2 ^ s = N % y ∧ (N * 2 ^ s) / (y * 2 ^ s) = N / y := by
  refine ⟨?_, Nat.mul_div_mul_right _ _ (Nat.two_pow_pos s)⟩
  rw [Nat.mul_mod_mul_right, Nat.mul_div_cancel _ (Nat.two_pow_pos s)]

/-! what the words hold -/
theorem low_y {y s : Nat} (h : y % W * 2 ^ s < W) : y * 2 ^ s % W = y % W * 2 ^ s := by
  rw [Nat.mul_mod, ← Nat.mod_mod y W, ← Nat.mul_mod, Nat.mod_mod, Nat.mod_eq_of_lt h]
theorem or_u {h l s : Nat} (hs : s ≤ 64) (hl : l < W) (hh : h % W * 2 ^ s < W) : (h * 2 ^ s ||| l / 2 ^ (64 - s)) % W = h % W * 2 ^ s + l / 2 ^ (64 - s) := by
  have e2 : (2 : Nat) ^ (64 - s) * 2 ^ s = W := by rw [← Nat.pow_add, show 64 - s + s = 64 by omega]; rfl
  have e5 : l / 2 ^ (64 - s) < 2 ^ s := by
    rw [Nat.div_lt_iff_lt_mul (Nat.two_pow_pos _), Nat.mul_comm, e2]; exact hl
  have e6 : l / 2 ^ (64 - s) < W := Nat.lt_of_le_of_lt (Nat.div_le_self _ _) hl
  have e7 : W = 2 ^ 64 := rfl
  rw [e7, Nat.or_mod_two_pow, ← e7, low_y hh, Nat.mod_eq_of_lt e6, Nat.mul_comm (h % W), ← Nat.two_pow_add_eq_or_of_lt e5]
theorem sub_w {x y X Y : Nat} (hx : x % W = X % W) (hy : y % W = Y % W) (h : Y ≤ X) (h2 : X - Y < W) : (x + (W - y % W)) % W = X - Y := by
  simp only [W] at *
  omega
theorem dec_w {q : Nat} (h : 1 ≤ q % W) : (q + 18446744073709551615) % W = q % W - 1 := by
  simp only [W] at *
  omega
theorem add_w {r a : Nat} (h : r % W < 4294967296) (ha : a < 4294967296) : (r + a) % W = r % W + a := by
  simp only [W] at *
  omega
theorem hi_w {r c : Nat} (h : r % W < 4294967296) (hc : c < 4294967296) : (4294967296 * r + c) % W = 4294967296 * (r % W) + c := by
  simp only [W] at *
  omega
theorem qb_w {q b : Nat} (hq : q % W < 4294967296) (hb : b < 4294967296) : q * b % W = q % W * b := by
  have h3 : q % W * b ≤ 4294967295 * 4294967295 := Nat.mul_le_mul (by omega) (by omega)
  have h4 : q % W * b < W := Nat.lt_of_le_of_lt h3 (by decide)
  rw [Nat.mul_mod, ← Nat.mod_mod q W, ← Nat.mul_mod, Nat.mod_mod, Nat.mod_eq_of_lt h4]
theorem first_r {u A q : Nat} (hA : 0 < A) (hq : q = u % W / A) : (u + (W - q * A % W)) % W = u % W % A := by
  have h1 := Nat.div_add_mod (u % W) A
  have h2 : u % W < W := Nat.mod_lt _ (by decide)
  have h3 : u % W % A < A := Nat.mod_lt _ hA
  rw [← hq, Nat.mul_comm] at h1
  rw [sub_w (X := u % W) (Y := q * A) (by rw [Nat.mod_mod]) rfl (by omega) (by omega)]
  omega
theorem rest_w {u c q Y U Q : Nat} (hu : u % W = U) (hq : q % W = Q) (h1 : Q * (Y % W) ≤ U * 4294967296 + c) (h2 : U * 4294967296 + c - Q * (Y % W) < W) :
    (u * 4294967296 + c + (W - q * Y % W)) % W = U * 4294967296 + c - Q * (Y % W) := by
  refine sub_w ?_ ?_ h1 h2
  · subst hu
    simp only [W]
    omega
  · rw [← hq, Nat.mul_mod]
theorem two_w (k e : Nat) : (k * 4294967296 + e) % W = (k % W * 4294967296 + e % W) % W := by
  simp only [W]
  omega
end Go.Rq
