/- Euclid's way, in few rounds. -/
import Derived.Test.YtcmaecfpggmcoaaWN4
namespace Go.Rq
open Go

def fibP : Nat → Nat × Nat
  | 0 => (0, 1)
  | n + 1 => ((fibP n).2, (fibP n).1 + (fibP n).2)
def fibN (n : Nat) : Nat := (fibP n).1
theorem fibN_add (n : Nat) : fibN (n + 2) = fibN n + fibN (n + 1) := rfl
theorem fib_big : R < fibN 602 := by
  have : Nat.blt R (fibN 602) = true := by kernel_rfl
  rw [Nat.blt_eq] at this
  exact this
/-- j rounds are enough. -/
structure EucI (A N j d r : Nat) : Prop where
  gcd : Nat.gcd d r = Nat.gcd A N
  lt : r < d
  few : d < fibN (j + 2) ∨ r < fibN (j + 1)
theorem EucI.start {A N : Nat} (h0 : 0 < N) (hN : N < R) : EucI A N 600 N (A % N) where
  gcd := by rw [Nat.gcd_comm A N, Nat.gcd_rec N A, Nat.gcd_comm]
  lt := Nat.mod_lt _ h0
  few := .inl (Nat.lt_trans hN fib_big)
theorem EucI.step {A N j d r : Nat} (h : EucI A N (j + 1) d r) (hr : 0 < r) : EucI A N j r (d % r) where
  gcd := by rw [← h.gcd, Nat.gcd_comm d r, Nat.gcd_rec r d, Nat.gcd_comm]
  lt := Nat.mod_lt _ hr
  few := by
    rcases h.few with h1 | h1
    · rw [show j + 1 + 2 = (j + 1) + 2 from rfl, fibN_add] at h1
      have h2 : r + d % r ≤ d := by
        have h3 := Nat.div_add_mod d r
        have h4 : 1 ≤ d / r := (Nat.one_le_div_iff hr).2 (Nat.le_of_lt h.lt)
        have h5 : r * 1 ≤ r * (d / r) := Nat.mul_le_mul_left _ h4
        omega
      by_cases h6 : r < fibN (j + 2)
      · exact .inl h6
      · exact .inr (by rw [show j + 1 + 1 = j + 2 from rfl] at h1; omega)
    · exact .inl h1
theorem EucI.zero {A N d r : Nat} (h : EucI A N 0 d r) : r = 0 := by
  have e1 : fibN 2 = 1 := rfl
  have e2 : fibN 1 = 1 := rfl
  rcases h.few with h1 | h1
  · rw [Nat.zero_add, e1] at h1
    have := h.lt; omega
  · rw [Nat.zero_add, e2] at h1; omega
theorem EucI.fin {A N j d : Nat} (h : EucI A N j d 0) : d = Nat.gcd A N := by
  have := h.gcd
  rw [Nat.gcd_zero_right] at this
  exact this
end Go.Rq
