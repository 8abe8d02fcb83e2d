/- Numbers of two parts: a ring; powers of powers. -/
import Derived.Test.YtafiafkeigdjhaaL6
namespace Go.Proofs.Ytafiafkeigdjhaa
open Go.Rq Go
set_option linter.unusedVariables false
set_option linter.unusedSectionVars false
set_option linter.unusedSimpArgs false
section
variable {p : Nat} [NeZero p]
def mulG (u v : Fin p × Fin p) : Fin p × Fin p := (u.1 * v.1 - u.2 * v.2, u.1 * v.2 + u.2 * v.1)
def toG (a : Nat → Nat) : Fin p × Fin p := (Fin.ofNat p (a 0), Fin.ofNat p (a 1))
def ofG (u : Fin p × Fin p) : Nat → Nat := f2' u.1.val u.2.val
theorem toG_ofG (u : Fin p × Fin p) : toG (ofG u) = u := by
  obtain ⟨a, b⟩ := u
  show (Fin.ofNat p a.val, Fin.ofNat p b.val) = _
  rw [ofNat_val, ofNat_val]
theorem zMul_fin (a b : Nat) : zMul p a b = (Fin.ofNat p a * Fin.ofNat p b).val := by
  rw [fv_mul]
  show a * b % p = (a % p) * (b % p) % p
  rw [← Nat.mul_mod]
theorem k2_G (a b : Nat → Nat) : k2 p a b = ofG (mulG (toG (p := p) a) (toG b)) := by
  unfold k2 ofG mulG toG tX tY
  simp only [fv_sub, fv_add, zMul_fin]
theorem mulG_comm (u v : Fin p × Fin p) : mulG u v = mulG v u := by
  unfold mulG
  rw [Prod.mk.injEq]
  constructor <;> grind
theorem mulG_assoc (u v w : Fin p × Fin p) : mulG (mulG u v) w = mulG u (mulG v w) := by
  unfold mulG
  rw [Prod.mk.injEq]
  constructor <;> grind
theorem mulG_one (u : Fin p × Fin p) : mulG u (1, 0) = u := by
  unfold mulG
  refine Prod.ext ?_ ?_
  · show u.1 * 1 - u.2 * 0 = u.1; grind
  · show u.1 * 0 + u.2 * 1 = u.2; grind
def gpow (u : Fin p × Fin p) : Nat → Fin p × Fin p
  | 0 => (1, 0)
  | n + 1 => mulG (gpow u n) u
theorem gpow_add (u : Fin p × Fin p) (m : Nat) : ∀ n, gpow u (m + n) = mulG (gpow u m) (gpow u n)
  | 0 => (mulG_one _).symm
  | n + 1 => by
    show mulG (gpow u (m + n)) u = mulG _ (mulG _ _)
    rw [gpow_add u m n, mulG_assoc]
theorem gpow_mul (u : Fin p × Fin p) (m : Nat) : ∀ n, gpow (gpow u m) n = gpow u (m * n)
  | 0 => rfl
  | n + 1 => by
    show mulG (gpow (gpow u m) n) (gpow u m) = gpow u (m * n + m)
    rw [gpow_mul u m n, gpow_add]
theorem gpow_prod (u v : Fin p × Fin p) : ∀ n, gpow (mulG u v) n = mulG (gpow u n) (gpow v n)
  | 0 => (mulG_one _).symm
  | n + 1 => by
    show mulG (gpow (mulG u v) n) (mulG u v) = mulG (mulG _ _) (mulG _ _)
    rw [gpow_prod u v n, mulG_assoc, mulG_assoc, ← mulG_assoc (gpow v n) u v, mulG_comm (gpow v n) u, mulG_assoc]
theorem one2_G (h : Gp p) : one2 = ofG ((1, 0) : Fin p × Fin p) := by
  unfold ofG f2'
  rw [fOne h, fZero]
  exact one2_upd.symm
theorem pow2_G (h : Gp p) (a : Nat → Nat) (n : Nat) : pow2 p a n = ofG (gpow (toG (p := p) a) n) := by
  induction n using Nat.strongRecOn with
  | ind n ih =>
    by_cases h0 : n = 0
    · subst h0; exact one2_G h
    · have e := ih (n / 2) (by omega)
      have e2 : k2 p (pow2 p a (n / 2)) (pow2 p a (n / 2)) = ofG (gpow (toG (p := p) a) (n / 2 + n / 2)) := by
        rw [k2_G, e, toG_ofG, ← gpow_add]
      by_cases hb : n % 2 = 1
      · have : pow2 p a n = k2 p (k2 p (pow2 p a (n / 2)) (pow2 p a (n / 2))) a := powB_odd _ _ _ hb
        rw [this, e2, k2_G, toG_ofG]
        show ofG (gpow _ (n / 2 + n / 2 + 1)) = _
        rw [show n / 2 + n / 2 + 1 = n by omega]
      · have : pow2 p a n = k2 p (pow2 p a (n / 2)) (pow2 p a (n / 2)) := powB_even _ _ _ h0 hb
        rw [this, e2, show n / 2 + n / 2 = n by omega]
theorem pow2_pow2 (h : Gp p) (a : Nat → Nat) (m n : Nat) : pow2 p (pow2 p a m) n = pow2 p a (m * n) := by
  rw [pow2_G h (pow2 p a m), pow2_G h a m, toG_ofG, gpow_mul, ← pow2_G h]
end
end Go.Proofs.Ytafiafkeigdjhaa
