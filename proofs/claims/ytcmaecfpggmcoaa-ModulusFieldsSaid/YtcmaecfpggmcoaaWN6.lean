/- The document's ways by a modulus: plain facts. -/
import Derived.Test.YtcmaecfpggmcoaaWN5
namespace Go.Rq
open Go

theorem tw_step {N X r b : Nat} (h : r = X % N) : (2 * r + b) % N = (2 * X + b) % N := by
  rw [h, Nat.add_mod, Nat.mul_mod, Nat.mod_mod, ← Nat.mul_mod, ← Nat.add_mod]
theorem div_next (x k : Nat) : x / 2 ^ k = 2 * (x / 2 ^ (k + 1)) + x / 2 ^ k % 2 := by
  have hd : x / 2 ^ (k + 1) = x / 2 ^ k / 2 := by rw [Nat.div_div_eq_div_mul, Nat.pow_succ]
  rw [hd]; omega
/-- k bits are still to come. -/
def WiI (N h l k r : Nat) : Prop := r = (h * 2 ^ (E - k) + l / 2 ^ k) % N
def HiI (N h k r : Nat) : Prop := r = h / 2 ^ k % N
theorem HiI.start {N h : Nat} (hh : h < R) : HiI N h E 0 := by
  unfold HiI
  rw [Nat.div_eq_of_lt (by rw [← R_pow]; exact hh), Nat.zero_mod]
theorem HiI.step {N h k r : Nat} (hr : HiI N h (k + 1) r) : HiI N h k ((2 * r + h / 2 ^ k % 2) % N) := by
  unfold HiI at *
  rw [tw_step hr, ← div_next]
theorem HiI.fin {N h l r : Nat} (hr : HiI N h 0 r) (hl : l < R) : WiI N h l E r := by
  unfold HiI at hr
  unfold WiI
  rw [hr, Nat.div_eq_of_lt (show l < 2 ^ E by rw [← R_pow]; exact hl), Nat.sub_self, Nat.pow_zero, Nat.div_one, Nat.mul_one, Nat.add_zero]
theorem WiI.step {N h l k r : Nat} (hk : k < E) (hr : WiI N h l (k + 1) r) : WiI N h l k ((2 * r + l / 2 ^ k % 2) % N) := by
  unfold WiI at *
  rw [tw_step hr]
  congr 1
  have e : E - k = (E - (k + 1)) + 1 := by omega
  have := div_next l k
  rw [e]
  have e2 : h * 2 ^ (E - (k + 1) + 1) = 2 * (h * 2 ^ (E - (k + 1))) := by rw [Nat.pow_succ, Nat.mul_comm (2 ^ _) 2, Nat.mul_left_comm]
  rw [e2]
  omega
theorem WiI.fin {N h l r : Nat} (hr : WiI N h l 0 r) : r = (l + h * R) % N := by
  unfold WiI at hr
  rw [hr, Nat.pow_zero, Nat.div_one, Nat.sub_zero, ← R_pow, Nat.add_comm]
theorem HiI.lt {N h k r : Nat} (hN : 0 < N) (hr : HiI N h k r) : r < N := by unfold HiI at hr; rw [hr]; exact Nat.mod_lt _ hN
theorem WiI.lt {N h l k r : Nat} (hN : 0 < N) (hr : WiI N h l k r) : r < N := by unfold WiI at hr; rw [hr]; exact Nat.mod_lt _ hN

/-! powers -/
def PwI (N A e k o : Nat) : Prop := o = A ^ (e / 2 ^ k) % N
theorem PwI.start {N A e k : Nat} (h : e < 2 ^ k) : PwI N A e k (1 % N) := by
  unfold PwI
  rw [Nat.div_eq_of_lt h, Nat.pow_zero]
theorem PwI.step {N A e k o : Nat} (h : PwI N A e (k + 1) o) :
    (e / 2 ^ k % 2 = 0 → PwI N A e k (o * o % N)) ∧ (e / 2 ^ k % 2 = 1 → PwI N A e k (o * o % N * A % N)) := by
  have hd := div_next e k
  unfold PwI at *
  generalize e / 2 ^ (k + 1) = q at *
  have hs : o * o % N = A ^ (2 * q) % N := by
    rw [h, ← Nat.mul_mod, Nat.two_mul, Nat.pow_add]
  constructor
  · intro h0
    rw [h0] at hd
    rw [hs, hd, Nat.add_zero]
  · intro h0
    rw [h0] at hd
    rw [hs, hd, Nat.pow_succ, Nat.mod_mul_mod]
theorem PwI.fin {N A e o : Nat} (h : PwI N A e 0 o) : o = powM N A e := by
  unfold PwI at h
  unfold powM
  rw [h, Nat.pow_zero, Nat.div_one]

/-! the document's inverse -/
theorem add_cancel {N x y c : Nat} (h : (x + c) % N = (y + c) % N) : x % N = y % N := by
  have key : ∀ x y : Nat, x ≤ y → (x + c) % N = (y + c) % N → x % N = y % N := by
    intro x y hle h
    have h1 := Nat.sub_mod_eq_zero_of_mod_eq h.symm
    rw [Nat.add_sub_add_right] at h1
    have h2 : y = x + (y - x) := by omega
    rw [h2, Nat.add_mod, h1, Nat.add_zero, Nat.mod_mod]
  rcases Nat.le_total x y with hle | hle
  · exact key x y hle h
  · exact (key y x hle h.symm).symm
structure EiI (N A r s x y : Nat) : Prop where
  gcd : Nat.gcd r s = Nat.gcd A N
  lt : s < r
  le : r ≤ N
  hr : x * A % N = r % N
  hs : y * A % N = s % N
  hx : x < N
  hy : y < N
theorem EiI.start {N A : Nat} (h : 1 < N) : EiI N A N (A % N) 0 1 where
  gcd := by rw [Nat.gcd_comm A N, Nat.gcd_rec N A, Nat.gcd_comm]
  lt := Nat.mod_lt _ (by omega)
  le := Nat.le_refl _
  hr := by rw [Nat.zero_mul, Nat.zero_mod, Nat.mod_self]
  hs := by rw [Nat.one_mul, Nat.mod_mod]
  hx := by omega
  hy := h
theorem EiI.step {N A r s x y : Nat} (h : EiI N A r s x y) (h0 : 0 < s) : EiI N A s (r % s) y (subM N x (r / s * y % N)) where
  gcd := by rw [← h.gcd, Nat.gcd_comm r s, Nat.gcd_rec s r, Nat.gcd_comm]
  lt := Nat.mod_lt _ h0
  le := Nat.le_of_lt (Nat.lt_of_lt_of_le h.lt h.le)
  hr := h.hs
  hs := by
    have hN : 0 < N := by have := h.hx; omega
    have e1 : (subM N x (r / s * y % N) + r / s * y % N) * A % N = x * A % N := cg A (subM_add hN)
    have e2 : (r / s * y % N) * A % N = r / s * s % N := by
      rw [Nat.mod_mul_mod, Nat.mul_assoc, cg' (r / s) h.hs]
    refine add_cancel (c := r / s * s) ?_
    rw [Nat.mod_add_div' r s, ← h.hr, ← e1, Nat.add_mul]
    rw [Nat.add_mod, Nat.add_mod (subM N x (r / s * y % N) * A) (r / s * y % N * A), e2]
  hx := h.hy
  hy := subM_lt (by have := h.hx; omega)
theorem EiI.fin {N A r x y : Nat} (h1 : N % 2 = 1) (hN : 1 < N) (h : EiI N A r 0 x y) : (r = 1 → x = invV N A ∧ invE N A = 0) ∧ (r ≠ 1 → invV N A = 0 ∧ invE N A = 6) := by
  have hg := h.gcd
  rw [Nat.gcd_zero_right] at hg
  constructor
  · intro e
    rw [e] at hg
    obtain ⟨v1, v2, v3⟩ := invV_mul h1 hN hg.symm
    refine ⟨?_, v1⟩
    have hx := h.hr
    rw [e, Nat.mod_eq_of_lt hN] at hx
    have e1 : x * (invV N A * A) % N = x % N := by rw [cg' x (y := 1) (by rw [v3, Nat.mod_eq_of_lt hN]), Nat.mul_one]
    have e2 : invV N A * (x * A) % N = invV N A % N := by rw [cg' (invV N A) (y := 1) (by rw [hx, Nat.mod_eq_of_lt hN]), Nat.mul_one]
    have e3 : x * (invV N A * A) = invV N A * (x * A) := by rw [← Nat.mul_assoc, ← Nat.mul_assoc, Nat.mul_comm x]
    rw [e3, e2, Nat.mod_eq_of_lt v2, Nat.mod_eq_of_lt h.hx] at e1
    exact e1.symm
  · intro e
    rw [hg] at e
    obtain ⟨v1, v2⟩ := invV_none h1 hN e
    exact ⟨v2, v1⟩
end Go.Rq
