/- The point near a number: the least step at which there is a root. -/
import Derived.Test.YtafiafkeigdjhaaWZ3
namespace Go.Rq
open Go
def rootX (p x : Nat) : Nat := zPow p (zRight p x) ((p + 1) / 4)
def okX (p x : Nat) : Bool := Nat.beq (zMul p (rootX p x) (rootX p x)) (zRight p x)
def nearF (p : Nat) : Nat → Nat → Nat
  | 0, _ => 0
  | n + 1, x => bif okX p (x % p) then 0 else nearF p n (x + 1) + 1
def nearK (p x : Nat) : Nat := nearF p p x
theorem nearF_spec {p : Nat} : ∀ {n x : Nat}, (∃ k, k < n ∧ okX p ((x + k) % p) = true) → okX p ((x + nearF p n x) % p) = true ∧ (∀ j, j < nearF p n x → okX p ((x + j) % p) = false) ∧ nearF p n x < n
  | 0, x, ⟨k, hk, _⟩ => absurd hk (Nat.not_lt_zero _)
  | n + 1, x, ⟨k, hk, h⟩ => by
    cases hx : okX p (x % p)
    · have e : nearF p (n + 1) x = nearF p n (x + 1) + 1 := by rw [nearF, hx]; rfl
      have hk0 : k ≠ 0 := fun e => by rw [e, Nat.add_zero, hx] at h; cases h
      obtain ⟨h1, h2, h3⟩ := nearF_spec (p := p) (n := n) (x := x + 1) ⟨k - 1, by omega, by rw [show x + 1 + (k - 1) = x + k by omega]; exact h⟩
      rw [e]
      refine ⟨by rw [show x + (nearF p n (x + 1) + 1) = x + 1 + nearF p n (x + 1) by omega]; exact h1, fun j hj => ?_, by omega⟩
      cases j with
      | zero => exact hx
      | succ j => rw [show x + (j + 1) = x + 1 + j by omega]; exact h2 j (by omega)
    · have e : nearF p (n + 1) x = 0 := by rw [nearF, hx]; rfl
      rw [e]
      exact ⟨hx, fun j hj => absurd hj (Nat.not_lt_zero _), by omega⟩
theorem okX_zero {p : Nat} (h : Gp p) : okX p 0 = true := by
  have hb := h.big
  have e : zRight p 0 = 0 := by
    unfold zRight zAdd zMul
    simp
  unfold okX rootX
  rw [e, zPow_pow (by omega), Nat.zero_pow (by omega), Nat.zero_mod, Nat.beq_eq]
  unfold zMul
  rw [Nat.mul_zero, Nat.zero_mod]
theorem near_spec {p : Nat} (h : Gp p) (x : Nat) : okX p ((x + nearK p x) % p) = true ∧ (∀ j, j < nearK p x → okX p ((x + j) % p) = false) ∧ nearK p x < p := by
  have hp := h.pos
  refine nearF_spec ?_
  by_cases h0 : x % p = 0
  · exact ⟨0, hp, by rw [Nat.add_zero, h0]; exact okX_zero h⟩
  · refine ⟨p - x % p, by omega, ?_⟩
    have e : (x + (p - x % p)) % p = 0 := by
      have hl := Nat.mod_lt x hp
      have hd := Nat.div_add_mod x p
      rw [show x + (p - x % p) = p * (x / p) + p by omega, Nat.mul_add_mod, Nat.mod_self]
    rw [e]; exact okX_zero h
def nearP (p x : Nat) : LP := ⟨(x + nearK p x) % p, bif Nat.blt (zSub p 0 (rootX p ((x + nearK p x) % p)) % W) (rootX p ((x + nearK p x) % p) % W) then zSub p 0 (rootX p ((x + nearK p x) % p)) else rootX p ((x + nearK p x) % p), false⟩
end Go.Rq
