/- A point's bytes, and the point of bytes: what they come to. -/
import Derived.Test.YtafiafkeigdjhaaWZ4
namespace Go.Rq
open Go

/-- The number of k bytes from a on, the highest first. -/
def beP (f : Nat → Nat) (a : Nat) : Nat → Nat
  | 0 => 0
  | k + 1 => beP f a k * 256 + f (a + k) % 256
theorem beP_lt (f : Nat → Nat) (a : Nat) : ∀ k, beP f a k < 256 ^ k
  | 0 => by simp [beP]
  | k + 1 => by
    have := beP_lt f a k
    have h2 : f (a + k) % 256 < 256 := Nat.mod_lt _ (by omega)
    simp only [beP, Nat.pow_succ]
    omega
theorem beP_of {f : Nat → Nat} {a x : Nat} (h : ∀ i, i < 8 → f (a + i) % 256 = x / 256 ^ (7 - i) % 256) : ∀ k, k ≤ 8 → beP f a k = x / 256 ^ (8 - k) % 256 ^ k
  | 0, _ => by simp [beP, Nat.mod_one]
  | k + 1, hk => by
    have ih := beP_of h k (by omega)
    simp only [beP]
    rw [ih, h k (by omega), show 8 - (k + 1) = 7 - k by omega]
    have e : x / 256 ^ (8 - k) = x / 256 ^ (7 - k) / 256 := by
      rw [Nat.div_div_eq_div_mul, ← Nat.pow_succ]; congr 2; omega
    rw [e]
    obtain ⟨z, hz⟩ : ∃ z, z = x / 256 ^ (7 - k) := ⟨_, rfl⟩
    rw [← hz]
    rw [Nat.pow_succ, Nat.mul_comm (256 ^ k) 256, Nat.mod_mul]
    omega
theorem beP_digit (f : Nat → Nat) (a : Nat) : ∀ k i, i < k → beP f a k / 256 ^ (k - 1 - i) % 256 = f (a + i) % 256
  | 0, i, h => by omega
  | k + 1, i, h => by
    simp only [beP]
    by_cases hi : i = k
    · subst hi
      rw [show i + 1 - 1 - i = 0 by omega]
      simp only [Nat.pow_zero, Nat.div_one]
      omega
    · have ih := beP_digit f a k i (by omega)
      rw [show k + 1 - 1 - i = (k - 1 - i) + 1 by omega, Nat.pow_succ, Nat.mul_comm (256 ^ (k - 1 - i)) 256, ← Nat.div_div_eq_div_mul]
      have e : (beP f a k * 256 + f (a + k) % 256) / 256 = beP f a k := by omega
      rw [e, ih]

/-- A point's bytes. -/
def byP (P : LP) (j : Nat) : Nat := bif Nat.beq j 0 then (bif P.z then 1 else 0) else bif Nat.blt j 9 then P.x / 256 ^ (8 - j) else P.y / 256 ^ (16 - j)
theorem byP_0 (P : LP) : byP P 0 = bif P.z then 1 else 0 := rfl
theorem byP_x (P : LP) {i : Nat} (h : i < 8) : byP P (1 + i) = P.x / 256 ^ (7 - i) := by
  have h1 : Nat.beq (1 + i) 0 = false := by rw [← Bool.not_eq_true, Nat.beq_eq]; omega
  have h2 : Nat.blt (1 + i) 9 = true := by rw [Nat.blt_eq]; omega
  unfold byP
  rw [h1, h2, cond_false, cond_true, show 8 - (1 + i) = 7 - i by omega]
theorem byP_y (P : LP) {i : Nat} (h : i < 8) : byP P (9 + i) = P.y / 256 ^ (7 - i) := by
  have h1 : Nat.beq (9 + i) 0 = false := by rw [← Bool.not_eq_true, Nat.beq_eq]; omega
  have h2 : Nat.blt (9 + i) 9 = false := by rw [← Bool.not_eq_true, Nat.blt_eq]; omega
  unfold byP
  rw [h1, h2, cond_false, cond_false, show 16 - (9 + i) = 7 - i by omega]
theorem byte_cases {j : Nat} (h : j < 17) : j = 0 ∨ (∃ i, i < 8 ∧ j = 1 + i) ∨ ∃ i, i < 8 ∧ j = 9 + i := by
  by_cases h0 : j = 0
  · exact .inl h0
  · by_cases h9 : j < 9
    · exact .inr (.inl ⟨j - 1, by omega, by omega⟩)
    · exact .inr (.inr ⟨j - 9, by omega, by omega⟩)

/-- What 17 bytes say. -/
def rdP (f : Nat → Nat) : LP := ⟨beP f 1 8, beP f 9 8, Nat.beq (f 0 % 256) 1⟩
/-- The error of reading n bytes. -/
def rdE (p : Nat) (I : LP → Bool) (n : Nat) (f : Nat → Nat) : Nat := bif Nat.beq n 17 then (bif Nat.blt 1 (f 0 % 256) then 4 else bif onB p (rdP f) then (bif I (rdP f) then 0 else 5) else 4) else 4
def rdQ (p : Nat) (I : LP → Bool) (n : Nat) (f : Nat → Nat) : LP := bif Nat.beq (rdE p I n f) 0 then rdP f else ⟨0, 0, false⟩
theorem rdE_0 {p n : Nat} {I : LP → Bool} {f : Nat → Nat} (h : rdE p I n f = 0) : n = 17 ∧ f 0 % 256 ≤ 1 ∧ onB p (rdP f) = true ∧ I (rdP f) = true := by
  unfold rdE at h
  cases h1 : Nat.beq n 17 <;> rw [h1] at h <;> simp only [cond_true, cond_false] at h
  · cases h
  · cases h2 : Nat.blt 1 (f 0 % 256) <;> rw [h2] at h <;> simp only [cond_true, cond_false] at h
    · have h2' : ¬ 1 < f 0 % 256 := by rw [← Nat.blt_eq, h2]; simp
      cases h3 : onB p (rdP f) <;> rw [h3] at h <;> simp only [cond_true, cond_false] at h
      · cases h
      · cases h4 : I (rdP f) <;> rw [h4] at h <;> simp only [cond_true, cond_false] at h
        · cases h
        · exact ⟨by rw [← Nat.beq_eq]; exact h1, by omega, rfl, rfl⟩
    · cases h
theorem rdP_lw (f : Nat → Nat) : (rdP f).x < 18446744073709551616 ∧ (rdP f).y < 18446744073709551616 := by
  have h1 := beP_lt f 1 8
  have h2 := beP_lt f 9 8
  exact ⟨h1, h2⟩
/-- What is told is read again. -/
theorem rdP_byP {P : LP} (hx : P.x < 18446744073709551616) (hy : P.y < 18446744073709551616) : rdP (byP P) = P := by
  have h1 := beP_of (f := byP P) (a := 1) (x := P.x) (fun i hi => by rw [byP_x P hi]) 8 (Nat.le_refl _)
  have h2 := beP_of (f := byP P) (a := 9) (x := P.y) (fun i hi => by rw [byP_y P hi]) 8 (Nat.le_refl _)
  obtain ⟨x, y, z⟩ := P
  simp only at hx hy h1 h2
  unfold rdP
  rw [h1, h2, byP_0]
  have e : (256 : Nat) ^ 8 = 18446744073709551616 := by decide
  simp only [Nat.sub_self, Nat.pow_zero, Nat.div_one, e]
  rw [Nat.mod_eq_of_lt hx, Nat.mod_eq_of_lt hy]
  cases z <;> rfl
/-- What is read is told again. -/
theorem byP_rdP {f : Nat → Nat} (h : f 0 % 256 ≤ 1) {j : Nat} (hj : j < 17) : byP (rdP f) j % 256 = f j % 256 := by
  rcases byte_cases hj with rfl | ⟨i, hi, rfl⟩ | ⟨i, hi, rfl⟩
  · rw [byP_0]
    show (bif Nat.beq (f 0 % 256) 1 then 1 else 0) % 256 = _
    rcases (by omega : f 0 % 256 = 0 ∨ f 0 % 256 = 1) with e | e <;> rw [e] <;> rfl
  · rw [byP_x _ hi]
    exact beP_digit f 1 8 i hi
  · rw [byP_y _ hi]
    exact beP_digit f 9 8 i hi
/-- A byte taken in. -/
theorem beP_step {x b : Nat} (hb : b < 256) : (x * 256 ||| b) = x * 256 + b := by
  have : x * 256 = 2 ^ 8 * x := by omega
  rw [this]
  exact (Nat.two_pow_add_eq_or_of_lt hb x).symm
end Go.Rq
