/- Reduction word by word: plain facts. -/
import Derived.Test.YtcmaecfpggmcoaaWM5
namespace Go.Rq
open Go

/-- What makes 1 with R, by an odd N. -/
def rinv (N : Nat) : Nat := ((N + 1) / 2) ^ E % N
theorem rinv_spec {N : Nat} (h1 : N % 2 = 1) : R * rinv N % N = 1 % N := by
  unfold rinv
  rw [Nat.mul_mod, Nat.mod_mod, ← Nat.mul_mod, R_pow, ← Nat.mul_pow, show 2 * ((N + 1) / 2) = N + 1 by omega, Nat.pow_mod, Nat.add_mod_left]
  rw [← Nat.pow_mod, Nat.one_pow]
/-- What is told of x and y. -/
def montV (N x y : Nat) : Nat := x * y * rinv N % N
theorem mont_unique {N x y r : Nat} (h1 : N % 2 = 1) (hr : r < N) (h : r * R % N = x * y % N) : r = montV N x y := by
  have e1 : r * (R * rinv N) % N = r := by
    rw [Nat.mul_mod, rinv_spec h1, ← Nat.mul_mod, Nat.mul_one, Nat.mod_eq_of_lt hr]
  have e2 : r * (R * rinv N) % N = montV N x y := by
    unfold montV
    rw [← Nat.mul_assoc, Nat.mul_mod, h, ← Nat.mul_mod]
  rw [← e1, e2]
theorem montV_lt {N x y : Nat} (h : 0 < N) : montV N x y < N := Nat.mod_lt _ h

/-- A product word by word: T is told. -/
theorem mont_end {N A B T Q : Nat} (h1 : N % 2 = 1) (hN : 0 < N) (hA : A < R) (hB : B < R) (hAB : A < N ∨ B < N) (hQ : Q < R) (h : T * R = A * B + Q * N) :
    T < 2 * N ∧ (bif Nat.ble N T then T - N else T) = montV N A B := by
  have hlt : T < 2 * N := by
    refine Nat.lt_of_mul_lt_mul_right (a := R) ?_
    rw [h]
    have hRpos : 0 < R := by decide
    have h2 : Q * N < R * N := Nat.mul_lt_mul_of_pos_right hQ hN
    have h3 : A * B ≤ N * R := by
      rcases hAB with h | h
      · exact Nat.mul_le_mul (by omega) (by omega)
      · rw [Nat.mul_comm N]; exact Nat.mul_le_mul (by omega) (by omega)
    rw [show 2 * N * R = N * R + R * N by rw [Nat.mul_comm R, Nat.mul_assoc, Nat.two_mul]]
    omega
  have hmod : T * R % N = A * B % N := by rw [h, Nat.add_mul_mod_self_right]
  refine ⟨hlt, ?_⟩
  cases hb : Nat.ble N T
  · have : ¬ N ≤ T := by rw [← Nat.ble_eq, hb]; simp
    simp only [cond_false]
    exact mont_unique h1 (by omega) hmod
  · rw [Nat.ble_eq] at hb
    refine mont_unique h1 (by simp only [cond_true]; omega) ?_
    simp only [cond_true]
    rw [← hmod, show T * R = (T - N) * R + R * N by rw [Nat.mul_comm R, ← Nat.add_mul]; congr 1; omega, Nat.add_mul_mod_self_right]

/-- A round: seven words of t, a word of a, all of b; q times n brings the lowest word to 0. -/
theorem mont_round {T S T2 x B q N : Nat} (h1 : S = T + x * B) (h2 : T2 * W = S + q * N) {i Ai Q : Nat} (hT : T * W ^ i = Ai * B + Q * N) (hQ : Q < W ^ i) (hq : q < W) :
    T2 * W ^ (i + 1) = (Ai + W ^ i * x) * B + (Q + q * W ^ i) * N ∧ Q + q * W ^ i < W ^ (i + 1) := by
  constructor
  · rw [Nat.pow_succ, show T2 * (W ^ i * W) = T2 * W * W ^ i by rw [Nat.mul_assoc, Nat.mul_comm W]]
    rw [h2, h1, Nat.add_mul, Nat.add_mul, hT, Nat.add_mul, Nat.add_mul]
    rw [show x * B * W ^ i = W ^ i * x * B by rw [Nat.mul_comm (x * B), Nat.mul_assoc], show q * N * W ^ i = q * W ^ i * N by rw [Nat.mul_assoc, Nat.mul_comm N, ← Nat.mul_assoc]]
    omega
  · have h3 : (q + 1) * W ^ i ≤ W * W ^ i := Nat.mul_le_mul_right _ hq
    rw [Nat.add_mul, Nat.one_mul] at h3
    rw [Nat.pow_succ, Nat.mul_comm (W ^ i) W]
    omega

/-- The words of a round, added up. -/
theorem mont_words {t0 t1 t2 t3 t4 t5 t6 b0 b1 b2 b3 b4 b5 x l0 l1 l2 l3 l4 l5 s6 s7 c1 c2 c3 c4 c5 c6 : Nat}
    (e0 : l0 + W * c1 = t0 + 0 + x * b0) (e1 : l1 + W * c2 = t1 + c1 + x * b1) (e2 : l2 + W * c3 = t2 + c2 + x * b2) (e3 : l3 + W * c4 = t3 + c3 + x * b3)
    (e4 : l4 + W * c5 = t4 + c4 + x * b4) (e5 : l5 + W * c6 = t5 + c5 + x * b5) (e6 : s6 + W * s7 = t6 + c6) :
    l0 + W * (l1 + W * (l2 + W * (l3 + W * (l4 + W * (l5 + W * (s6 + W * s7)))))) = t0 + W * (t1 + W * (t2 + W * (t3 + W * (t4 + W * (t5 + W * t6))))) + x * (b0 + W * (b1 + W * (b2 + W * (b3 + W * (b4 + W * b5))))) := by
  have hx : x * (b0 + W * (b1 + W * (b2 + W * (b3 + W * (b4 + W * b5))))) = x * b0 + W * (x * b1 + W * (x * b2 + W * (x * b3 + W * (x * b4 + W * (x * b5))))) := by
    grind
  rw [hx]
  generalize x * b0 = y0 at *
  generalize x * b1 = y1 at *
  generalize x * b2 = y2 at *
  generalize x * b3 = y3 at *
  generalize x * b4 = y4 at *
  generalize x * b5 = y5 at *
  simp only [W] at *
  omega
theorem mont_less {l0 l1 l2 l3 l4 l5 s6 s7 n0 n1 n2 n3 n4 n5 q d1 d2 d3 d4 d5 d6 m0 m1 m2 m3 m4 m5 m6 c : Nat}
    (e0 : W * d1 = l0 + q * n0) (e1 : m0 + W * d2 = l1 + d1 + q * n1) (e2 : m1 + W * d3 = l2 + d2 + q * n2) (e3 : m2 + W * d4 = l3 + d3 + q * n3)
    (e4 : m3 + W * d5 = l4 + d4 + q * n4) (e5 : m4 + W * d6 = l5 + d5 + q * n5) (e6 : m5 + W * c = s6 + d6) (e7 : m6 = s7 + c) :
    (m0 + W * (m1 + W * (m2 + W * (m3 + W * (m4 + W * (m5 + W * m6)))))) * W = l0 + W * (l1 + W * (l2 + W * (l3 + W * (l4 + W * (l5 + W * (s6 + W * s7)))))) + q * (n0 + W * (n1 + W * (n2 + W * (n3 + W * (n4 + W * n5))))) := by
  have hx : q * (n0 + W * (n1 + W * (n2 + W * (n3 + W * (n4 + W * n5))))) = q * n0 + W * (q * n1 + W * (q * n2 + W * (q * n3 + W * (q * n4 + W * (q * n5))))) := by
    grind
  rw [hx]
  generalize q * n0 = y0 at *
  generalize q * n1 = y1 at *
  generalize q * n2 = y2 at *
  generalize q * n3 = y3 at *
  generalize q * n4 = y4 at *
  generalize q * n5 = y5 at *
  simp only [W] at *
  omega
end Go.Rq
