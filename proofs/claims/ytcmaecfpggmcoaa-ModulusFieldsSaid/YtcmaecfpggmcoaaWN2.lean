/- What is told by a modulus: plain facts. -/
import Derived.Test.YtcmaecfpggmcoaaWN
namespace Go.Rq
open Go

theorem cg {N x y : Nat} (c : Nat) (h : x % N = y % N) : x * c % N = y * c % N := by rw [Nat.mul_mod, h, ← Nat.mul_mod]
theorem cg' {N x y : Nat} (c : Nat) (h : x % N = y % N) : c * x % N = c * y % N := by rw [Nat.mul_mod, h, ← Nat.mul_mod]
theorem ri_one {N : Nat} (h1 : N % 2 = 1) (x : Nat) : x * (R * rinv N) % N = x % N := by rw [cg' x (rinv_spec h1), Nat.mul_one]
theorem mont_in {N : Nat} (h1 : N % 2 = 1) (a : Nat) : montV N a (R * R % N) = a * R % N := by
  unfold montV
  rw [cg (rinv N) (cg' a (Nat.mod_mod (R * R) N)), show a * (R * R) * rinv N = a * R * (R * rinv N) by simp only [Nat.mul_assoc], ri_one h1]
theorem mont_out {N : Nat} (h1 : N % 2 = 1) (a b : Nat) : montV N (a * R % N) b = a * b % N := by
  unfold montV
  rw [cg (rinv N) (cg b (Nat.mod_mod (a * R) N)), show a * R * b * rinv N = a * b * (R * rinv N) by rw [Nat.mul_assoc a R b, Nat.mul_comm R b, ← Nat.mul_assoc, Nat.mul_assoc (a * b)], ri_one h1]
theorem mont_mul {N : Nat} (h1 : N % 2 = 1) (a b : Nat) : montV N (a * R % N) (b * R % N) = a * b * R % N := by
  rw [mont_out h1, cg' a (Nat.mod_mod (b * R) N), Nat.mul_assoc]

/-- What less tells. -/
def lessV (N a : Nat) : Nat := bif Nat.ble N a then a - N else a
theorem lessV_mod {N a : Nat} (h : a < 2 * N) : lessV N a = a % N := by
  unfold lessV
  cases hb : Nat.ble N a
  · have : ¬ N ≤ a := by rw [← Nat.ble_eq, hb]; simp
    simp only [cond_false]
    exact (Nat.mod_eq_of_lt (by omega)).symm
  · rw [Nat.ble_eq] at hb
    simp only [cond_true]
    rw [Nat.mod_eq_sub_mod hb, Nat.mod_eq_of_lt (by omega)]
def subM (N a b : Nat) : Nat := (a % N + (N - b % N)) % N
theorem sub_gen {r N a b : Nat} (ha : a < N) (hb : b < N) (h2 : 2 * N ≤ r) : (bif Nat.blt a b then ((a + r - b) % r + N) % r else (a + r - b) % r) = (a + (N - b)) % N := by
  cases hc : Nat.blt a b
  · have h : ¬ a < b := by rw [← Nat.blt_eq, hc]; simp
    simp only [cond_false]
    rw [show a + r - b = (a - b) + r by omega, Nat.add_mod_right, Nat.mod_eq_of_lt (show a - b < r by omega)]
    rw [show a + (N - b) = (a - b) + N by omega, Nat.add_mod_right, Nat.mod_eq_of_lt (show a - b < N by omega)]
  · rw [Nat.blt_eq] at hc
    simp only [cond_true]
    rw [Nat.mod_eq_of_lt (show a + r - b < r by omega), show a + r - b + N = (a + N - b) + r by omega, Nat.add_mod_right, Nat.mod_eq_of_lt (show a + N - b < r by omega)]
    rw [show a + (N - b) = a + N - b by omega, Nat.mod_eq_of_lt (show a + N - b < N by omega)]
theorem sub_eq {N a b : Nat} (hN : 0 < N) (h2 : 2 * N ≤ R) : (bif Nat.blt (a % N) (b % N) then ((a % N + R - b % N) % R + N) % R else (a % N + R - b % N) % R) = subM N a b :=
  sub_gen (Nat.mod_lt a hN) (Nat.mod_lt b hN) h2

/-- What a modulus is: its number is odd, from 3 on, of at most 382 bits; its lowest word, what makes -1 with it; R R reduced. -/
structure ModI (n : Nat → Nat) (l : Nat) (w : Nat → Nat) : Prop where
  odd : nv n % 2 = 1
  three : 3 ≤ nv n
  small : 4 * nv n ≤ R
  low : (n 0 % W * (l % W) + 1) % W = 0
  wide : nv w = R * R % nv n
theorem ModI.pos {n : Nat → Nat} {l : Nat} {w : Nat → Nat} (h : ModI n l w) : 0 < nv n := by have := h.three; omega
theorem ModI.lNe {n : Nat → Nat} {l : Nat} {w : Nat → Nat} (h : ModI n l w) : Nat.beq (l % W) 0 = false := by
  rw [← Bool.not_eq_true, Nat.beq_eq]
  intro e
  have := h.low
  rw [e] at this
  simp only [W] at this
  omega

/-! what makes -1 with an odd word -/
def nwt (n : Nat) : Nat → Nat
  | 0 => n
  | k + 1 => nwt n k * (2 + (W - n * nwt n k % W))
theorem nwt_int {n : Nat} (h1 : n % 2 = 1) : ∀ k, ∃ m q : Int, 1 - (n : Int) * (nwt n k : Int) = 8 ^ (2 ^ k) * m + (W : Int) * q
  | 0 => by
    have h8 : ∃ m : Int, 1 - (n : Int) * (n : Int) = 8 * m := by
      have e : (n : Int) * (n : Int) % 8 = 1 := by
        have h2 : n % 8 = 1 ∨ n % 8 = 3 ∨ n % 8 = 5 ∨ n % 8 = 7 := by omega
        have h3 : n * n % 8 = 1 := by
          rw [Nat.mul_mod]
          rcases h2 with h | h | h | h <;> rw [h]
        have : ((n * n : Nat) : Int) % 8 = 1 := by omega
        rw [Int.natCast_mul] at this; exact this
      exact ⟨(1 - (n : Int) * (n : Int)) / 8, by omega⟩
    obtain ⟨m, hm⟩ := h8
    exact ⟨m, 0, by simp only [nwt, Nat.pow_zero, Int.pow_one]; omega⟩
  | k + 1 => by
    obtain ⟨m, q, h⟩ := nwt_int h1 k
    have hs : ∃ t : Int, ((nwt n (k + 1) : Nat) : Int) = (nwt n k : Int) * (2 - (n : Int) * (nwt n k : Int) + (W : Int) * t) := by
      refine ⟨1 + ((n * nwt n k / W : Nat) : Int), ?_⟩
      simp only [nwt]
      have h2 : n * nwt n k % W < W := Nat.mod_lt _ (by decide)
      have h3 := Nat.div_add_mod (n * nwt n k) W
      have h4 : ((2 + (W - n * nwt n k % W) : Nat) : Int) = 2 - (n : Int) * (nwt n k : Int) + (W : Int) * (1 + ((n * nwt n k / W : Nat) : Int)) := by
        rw [Int.natCast_add, Int.natCast_sub (Nat.le_of_lt h2)]
        have h5 : ((W : Nat) : Int) * ((n * nwt n k / W : Nat) : Int) + ((n * nwt n k % W : Nat) : Int) = (n : Int) * (nwt n k : Int) := by
          rw [← Int.natCast_mul, ← Int.natCast_mul, ← Int.natCast_add, h3]
        rw [Int.mul_add]
        omega
      rw [Int.natCast_mul, h4]
    obtain ⟨t, ht⟩ := hs
    rw [ht, show (8 : Int) ^ (2 ^ (k + 1)) = 8 ^ (2 ^ k) * 8 ^ (2 ^ k) by rw [Nat.pow_succ, Nat.mul_two, Int.pow_add]]
    generalize (8 : Int) ^ (2 ^ k) = g at *
    generalize ((nwt n k : Nat) : Int) = x at *
    generalize ((n : Nat) : Int) = y at *
    generalize ((W : Nat) : Int) = z at *
    refine ⟨m * m, 2 * g * m * q + z * q * q - y * x * t, ?_⟩
    grind
theorem nwt_six {n : Nat} (h1 : n % 2 = 1) : n * nwt n 6 % W = 1 := by
  obtain ⟨m, q, h⟩ := nwt_int h1 6
  have e : (8 : Int) ^ (2 ^ 6) = (W : Int) * (W : Int) * (W : Int) := by decide
  rw [e] at h
  have h2 : ((n * nwt n 6 : Nat) : Int) = 1 - (W : Int) * ((W : Int) * (W : Int) * m + q) := by
    rw [Int.natCast_mul]
    generalize ((nwt n 6 : Nat) : Int) = x at *
    generalize ((n : Nat) : Int) = y at *
    generalize ((W : Nat) : Int) = z at *
    grind
  have h3 : ((n * nwt n 6 : Nat) : Int) % (W : Int) = 1 := by
    rw [h2, Int.sub_mul_emod_self_left]; decide
  omega
theorem low_gen {w x v : Nat} (hw : 1 < w) (h : x * v % w = 1) : (x * ((w - v % w) % w) + 1) % w = 0 := by
  have h2 : v % w < w := Nat.mod_lt _ (by omega)
  have h3 : x * (v % w) % w = 1 := by
    rw [Nat.mul_mod, Nat.mod_mod, ← Nat.mul_mod]; exact h
  have h4 : v % w ≠ 0 := fun e => by rw [e] at h3; simp at h3
  rw [Nat.mod_eq_of_lt (show w - v % w < w by omega)]
  have h5 : x * (w - v % w) + x * (v % w) = x * w := by rw [← Nat.mul_add]; congr 1; omega
  have h6 : x * w % w = 0 := Nat.mul_mod_left _ _
  have h7 : 1 % w = 1 := Nat.mod_eq_of_lt hw
  rw [← h5, Nat.add_mod, h3] at h6
  rw [Nat.add_mod, h7]
  exact h6
/-- The lowest word's. -/
theorem low_ok {n : Nat} (h1 : n % W % 2 = 1) : (n % W * ((W - nwt (n % W) 6 % W) % W) + 1) % W = 0 := low_gen (by decide) (nwt_six h1)
end Go.Rq
