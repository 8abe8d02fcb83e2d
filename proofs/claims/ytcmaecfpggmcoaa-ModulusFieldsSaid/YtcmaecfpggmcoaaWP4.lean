/- By a prime each number but 0 has an inverse; squares. -/
import Derived.Test.YtcmaecfpggmcoaaWP3
import Derived.Test.YtcmaecfpggmcoaaWN4
namespace Go.Rq
open Go

theorem prime_gcd {N a : Nat} (hp : Pr N) (ha : a % N ≠ 0) : Nat.gcd a N = 1 := by
  rw [Nat.gcd_comm]
  exact hp.cop' fun hd => ha (Nat.mod_eq_zero_of_dvd hd)
theorem pr_mul {N a b : Nat} (hp : Pr N) (h : N ∣ a * b) : N ∣ a ∨ N ∣ b := by
  by_cases ha : N ∣ a
  · exact .inl ha
  · exact .inr ((hp.cop' ha).dvd_of_dvd_mul_left h)
def hV (N a : Nat) : Nat := a ^ ((N - 1) / 2) % N
theorem hV_two {N a : Nat} (hp : Pr N) (h2 : N % 2 = 1) (ha : a % N ≠ 0) : hV N a = 1 ∨ hV N a = N - 1 := by
  have h1 := hp.1
  have hs : hV N a * hV N a % N = 1 := by
    unfold hV
    rw [← Nat.mul_mod, ← Nat.pow_add, show (N - 1) / 2 + (N - 1) / 2 = N - 1 by omega]
    exact fermat_nat hp ha
  have hlt : hV N a < N := Nat.mod_lt _ (by omega)
  generalize hV N a = h at *
  have h0 : h ≠ 0 := fun e => by rw [e, Nat.zero_mul, Nat.zero_mod] at hs; omega
  have hd : N ∣ (h - 1) * (h + 1) := by
    obtain ⟨k, rfl⟩ : ∃ k, h = k + 1 := ⟨h - 1, by omega⟩
    have e : (k + 1) * (k + 1) = k * (k + 2) + 1 := by grind
    rw [e] at hs
    rw [Nat.add_sub_cancel]
    show N ∣ k * (k + 2)
    have := Nat.div_add_mod (k * (k + 2) + 1) N
    rw [hs] at this
    exact ⟨(k * (k + 2) + 1) / N, by omega⟩
  rcases pr_mul hp hd with h3 | h3
  · refine .inl ?_
    have := Nat.eq_zero_of_dvd_of_lt h3 (by omega)
    omega
  · have := Nat.le_of_dvd (by omega) h3
    exact .inr (by omega)
theorem odd_pow {N x y : Nat} (h : N ∣ x + y) : ∀ k : Nat, N ∣ x ^ (2 * k + 1) + y ^ (2 * k + 1)
  | 0 => by rw [Nat.mul_zero, Nat.zero_add, Nat.pow_one, Nat.pow_one]; exact h
  | k + 1 => by
    have ih := odd_pow h k
    obtain ⟨c, hc⟩ := ih
    obtain ⟨d, hd⟩ := h
    have e : ∀ z : Nat, z ^ (2 * (k + 1) + 1) = z * z * z ^ (2 * k + 1) := fun z => by
      rw [show 2 * (k + 1) + 1 = (2 * k + 1) + 2 by omega, Nat.pow_add, Nat.mul_comm, Nat.pow_two]
    rw [e, e]
    generalize x ^ (2 * k + 1) = X at *
    generalize y ^ (2 * k + 1) = Y at *
    have hI : (N : Int) ∣ ((x * x * X + y * y * Y : Nat) : Int) := by
      refine ⟨(x : Int) * x * c + (Y : Int) * (y - x) * d, ?_⟩
      have h1 : (X : Int) + Y = N * c := by exact_mod_cast hc
      have h2 : (x : Int) + y = N * d := by exact_mod_cast hd
      simp only [Int.natCast_add, Int.natCast_mul]
      grind
    exact Int.natCast_dvd_natCast.1 hI
theorem neg_sum {N a : Nat} (h : 0 < N) : N ∣ a + subM N 0 a := by
  have := subM_add (a := 0) (b := a) h
  rw [Nat.zero_mod, Nat.add_comm] at this
  exact Nat.dvd_of_mod_eq_zero this
theorem neg_ne {N a : Nat} (h : 0 < N) (ha : a % N ≠ 0) : subM N 0 a % N ≠ 0 := fun e => by
  have := subM_add (a := 0) (b := a) h
  rw [Nat.zero_mod, Nat.add_mod, e, Nat.zero_add, Nat.mod_mod] at this
  exact ha this
theorem hV_neg {N a : Nat} (hp : Pr N) (h4 : N % 4 = 3) (ha : a % N ≠ 0) : (hV N a = 1 ↔ hV N (subM N 0 a) ≠ 1) := by
  have h1 := hp.1
  have hN : 0 < N := by omega
  have hd := odd_pow (neg_sum (a := a) hN) ((N - 3) / 4)
  have e : 2 * ((N - 3) / 4) + 1 = (N - 1) / 2 := by omega
  rw [e] at hd
  have hs : (hV N a + hV N (subM N 0 a)) % N = 0 := by
    unfold hV
    rw [← Nat.add_mod]
    exact Nat.mod_eq_zero_of_dvd hd
  rcases hV_two hp (by omega) ha with g1 | g1 <;> rcases hV_two hp (by omega) (neg_ne hN ha) with g2 | g2
  · rw [g1, g2, Nat.mod_eq_of_lt (by omega)] at hs; omega
  · rw [g1, g2]; constructor
    · intro _; omega
    · intro _; rfl
  · rw [g1, g2]; constructor
    · intro _; omega
    · intro h; exact absurd rfl h
  · rw [g1, g2, show N - 1 + (N - 1) = N + (N - 2) by omega, Nat.add_mod_left, Nat.mod_eq_of_lt (by omega)] at hs; omega
theorem sq_half {N a : Nat} (h4 : N % 4 = 3) : a ^ ((N + 1) / 4) % N * (a ^ ((N + 1) / 4) % N) % N = hV N a * a % N := by
  unfold hV
  rw [← Nat.mul_mod, ← Nat.pow_add, show (N + 1) / 4 + (N + 1) / 4 = (N - 1) / 2 + 1 by omega, Nat.pow_succ, Nat.mod_mul_mod]
theorem sq_ok {N a : Nat} (hp : Pr N) (h4 : N % 4 = 3) (ha : a % N ≠ 0) : (a ^ ((N + 1) / 4) % N * (a ^ ((N + 1) / 4) % N) % N = a % N ↔ hV N a = 1) := by
  have h1 := hp.1
  rw [sq_half h4]
  constructor
  · intro h
    rcases hV_two hp (by omega) ha with g | g
    · exact g
    · rw [g] at h
      have hm := Nat.sub_mod_eq_zero_of_mod_eq h
      have e : (N - 1) * a - a = (N - 2) * a := by
        rw [show N - 1 = N - 2 + 1 by omega, Nat.add_mul, Nat.one_mul, Nat.add_sub_cancel]
      rw [e] at hm
      rcases pr_mul hp (Nat.dvd_of_mod_eq_zero hm) with h3 | h3
      · have := Nat.eq_zero_of_dvd_of_lt h3 (by omega)
        omega
      · exact absurd (Nat.mod_eq_zero_of_dvd h3) ha
  · intro h
    rw [h, Nat.one_mul]
theorem neg_sq {N c : Nat} (h : 0 < N) : subM N 0 c * subM N 0 c % N = c * c % N := by
  obtain ⟨d, hd⟩ := neg_sum (a := c) h
  generalize subM N 0 c = b at *
  have hI : (N : Int) ∣ ((b * b : Nat) : Int) - ((c * c : Nat) : Int) := by
    refine ⟨(d : Int) * (b - c), ?_⟩
    have h2 : (c : Int) + b = N * d := by exact_mod_cast hd
    simp only [Int.natCast_mul]
    grind
  have := Int.emod_emod_of_dvd ((b * b : Nat) : Int) (Int.dvd_refl (N : Int))
  have e := (Int.emod_eq_emod_iff_emod_sub_eq_zero).2 (Int.emod_eq_zero_of_dvd hI)
  exact_mod_cast e
end Go.Rq
