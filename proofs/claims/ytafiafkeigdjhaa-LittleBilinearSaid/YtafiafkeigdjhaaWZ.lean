/- The little curves' numbers: what their functions tell. -/
import Derived.Test.YtafiafkeigdjhaaWQ
namespace Go.Rq
open Go

/-- One of the two primes. -/
def Gp (p : Nat) : Prop := p = 786251 ∨ p = 1152921504606846223
theorem Gp.pos {p : Nat} (h : Gp p) : 0 < p := by rcases h with rfl | rfl <;> decide
theorem Gp.lt {p : Nat} (h : Gp p) : p < 1152921504606846976 := by rcases h with rfl | rfl <;> decide
theorem Gp.big {p : Nat} (h : Gp p) : 700000 < p := by rcases h with rfl | rfl <;> decide
theorem Gp.mod {p : Nat} (h : Gp p) : p % W = p := Nat.mod_eq_of_lt (Nat.lt_trans h.lt (by decide))

def zAdd (p a b : Nat) : Nat := (a + b) % p
def zSub (p a b : Nat) : Nat := (a + (p - b)) % p
def zMul (p a b : Nat) : Nat := a * b % p
/-- By the k lowest bits of n, from above: 'sq' for each, 'mu' where it is 1. -/
def foldB {α : Type} (sq mu : α → α) (one : α) : Nat → Nat → α
  | 0, _ => one
  | k + 1, n => bif Nat.beq (n % 2) 1 then mu (sq (foldB sq mu one k (n / 2))) else sq (foldB sq mu one k (n / 2))
def powB {α : Type} (sq mu : α → α) (one : α) (n : Nat) : α := foldB sq mu one (blen n) n
theorem powB_zero {α : Type} (sq mu : α → α) (one : α) : powB sq mu one 0 = one := rfl
theorem blen_half {m : Nat} (h : m ≠ 0) : blen m = blen (m / 2) + 1 := by
  obtain ⟨h1, h2⟩ := blen_bounds h
  by_cases h3 : m / 2 = 0
  · have : m = 1 := by omega
    subst this; rfl
  · have h4 : 2 ≤ m := by omega
    have := blen_shift (k := 1) (x := m) (by omega)
    rw [this, Nat.pow_one, Nat.add_comm]
theorem powB_even {α : Type} (sq mu : α → α) (one : α) {m : Nat} (h : m ≠ 0) (hb : m % 2 ≠ 1) : powB sq mu one m = sq (powB sq mu one (m / 2)) := by
  unfold powB
  rw [blen_half h]
  have : Nat.beq (m % 2) 1 = false := by rw [← Bool.not_eq_true, Nat.beq_eq]; exact hb
  rw [foldB, this]
  rfl
theorem powB_odd {α : Type} (sq mu : α → α) (one : α) {m : Nat} (hb : m % 2 = 1) : powB sq mu one m = mu (sq (powB sq mu one (m / 2))) := by
  unfold powB
  rw [blen_half (by omega)]
  have : Nat.beq (m % 2) 1 = true := by rw [Nat.beq_eq]; exact hb
  rw [foldB, this]
  rfl
theorem half_pow (n k : Nat) : n / 2 ^ k / 2 = n / 2 ^ (k + 1) := by rw [Nat.div_div_eq_div_mul, Nat.pow_succ]
theorem high_ne {n k : Nat} (h : k < blen n) : n / 2 ^ k ≠ 0 := by
  have h0 : n ≠ 0 := fun e => by rw [e] at h; exact Nat.not_lt_zero _ h
  obtain ⟨h1, _⟩ := blen_bounds h0
  have h2 : 2 ^ k ≤ n := Nat.le_trans (Nat.pow_le_pow_right (by decide) (by omega)) h1
  have := Nat.div_pos h2 (Nat.two_pow_pos k)
  omega
theorem high_zero (n : Nat) : n / 2 ^ blen n = 0 := by
  by_cases h0 : n = 0
  · subst h0; rfl
  · exact Nat.div_eq_of_lt (blen_bounds h0).2
/-- What holds of 'one' and is kept holds of the power. -/
theorem powB_keep {α : Type} {sq mu : α → α} {one : α} {q : α → Prop} (h1 : q one) (h2 : ∀ x, q x → q (sq x)) (h3 : ∀ x, q x → q (mu x)) : ∀ k n, q (foldB sq mu one k n)
  | 0, _ => h1
  | k + 1, n => by
    unfold foldB
    cases Nat.beq (n % 2) 1
    · exact h2 _ (powB_keep h1 h2 h3 k _)
    · exact h3 _ (h2 _ (powB_keep h1 h2 h3 k _))
def zPow (p a n : Nat) : Nat := powB (fun t => zMul p t t) (fun t => zMul p t a) 1 n
def zInv (p a : Nat) : Nat := zPow p a (p - 2)
def zRight (p x : Nat) : Nat := zAdd p (zMul p (zMul p x x) x) x

section
variable {p a b : Nat}
theorem zAdd_lt (h : Gp p) : zAdd p a b < p := Nat.mod_lt _ h.pos
theorem zSub_lt (h : Gp p) : zSub p a b < p := Nat.mod_lt _ h.pos
theorem zMul_lt (h : Gp p) : zMul p a b < p := Nat.mod_lt _ h.pos
theorem zPow_lt (h : Gp p) {n : Nat} : zPow p a n < p := powB_keep (q := fun x => x < p) (Nat.lt_trans (by decide) h.big) (fun _ _ => zMul_lt h) (fun _ _ => zMul_lt h) _ _
theorem zInv_lt (h : Gp p) : zInv p a < p := zPow_lt h
theorem zRight_lt (h : Gp p) : zRight p a < p := zAdd_lt h

/-- What the words of a product leave. -/
theorem words_mod (x y : Nat) (p : Nat) : (x * y / W % W * W + x * y % W) % p = x * y % p ∨ W * W ≤ x * y := by
  rcases Nat.lt_or_ge (x * y) (W * W) with h | h
  · refine .inl ?_
    have h1 : x * y / W < W := by rw [Nat.div_lt_iff_lt_mul (by decide)]; exact h
    rw [Nat.mod_eq_of_lt h1, Nat.mul_comm (x * y / W), Nat.div_add_mod]
  · exact .inr h

end
end Go.Rq
