/- What a commutative ring has. -/
import Derived.Test.YtafiafkeigdjhaaWM
import Init.Data.Dyadic
namespace Go.Rq
open Go

abbrev appC {C : Type → Type} {α : Type} (_ : C α) : Type → Type := C
/-- Commutative rings, as 'grind' knows them. -/
abbrev CR : Type → Type := appC Dyadic.instCommRing
namespace Rg
variable {R : Type} [i : CR R]
def nc (n : Nat) : R := i.toRing.toSemiring.natCast.natCast n
def ic (n : Int) : R := i.toRing.intCast.intCast n
theorem pow_zero (a : R) : a ^ 0 = 1 := i.toRing.toSemiring.pow_zero a
theorem pow_succ (a : R) (n : Nat) : a ^ (n + 1) = a ^ n * a := i.toRing.toSemiring.pow_succ a n
theorem ofNat_succ (n : Nat) : OfNat.ofNat (α := R) (n + 1) = OfNat.ofNat n + 1 := i.toRing.toSemiring.ofNat_succ n
theorem ofNat_nc (n : Nat) : OfNat.ofNat (α := R) n = nc n := i.toRing.toSemiring.ofNat_eq_natCast n
theorem nc_zero : nc (R := R) 0 = 0 := (ofNat_nc 0).symm
theorem nc_one : nc (R := R) 1 = 1 := (ofNat_nc 1).symm
theorem nc_succ (n : Nat) : nc (R := R) (n + 1) = nc n + 1 := by rw [← ofNat_nc, ofNat_succ, ofNat_nc]
theorem ic_neg (n : Int) : ic (R := R) (-n) = -ic n := i.toRing.intCast_neg n
theorem ic_ofNat (n : Nat) : ic (R := R) (OfNat.ofNat n) = OfNat.ofNat n := i.toRing.intCast_ofNat n
theorem ic_nat (n : Nat) : ic (R := R) (n : Int) = nc n := by rw [← ofNat_nc]; exact ic_ofNat n
theorem mul_comm (a b : R) : a * b = b * a := by grind
theorem mul_one (a : R) : a * 1 = a := by grind
theorem one_mul (a : R) : 1 * a = a := by grind
theorem mul_zero (a : R) : a * 0 = 0 := by grind
theorem zero_mul (a : R) : 0 * a = 0 := by grind
theorem add_zero (a : R) : a + 0 = a := by grind
theorem sub_self (a : R) : a - a = 0 := by grind
theorem mul_assoc (a b c : R) : a * b * c = a * (b * c) := by grind
theorem nc_add (a : Nat) : ∀ b : Nat, nc (R := R) (a + b) = nc a + nc b
  | 0 => by rw [nc_zero, Nat.add_zero, add_zero]
  | b + 1 => by rw [← Nat.add_assoc, nc_succ, nc_add a b, nc_succ]; grind
theorem nc_mul (a : Nat) : ∀ b : Nat, nc (R := R) (a * b) = nc a * nc b
  | 0 => by rw [nc_zero, Nat.mul_zero, nc_zero, mul_zero]
  | b + 1 => by rw [Nat.mul_succ, nc_add, nc_mul a b, nc_succ]; grind
theorem pow_one (a : R) : a ^ 1 = a := by rw [pow_succ, pow_zero, one_mul]
theorem pow_two (a : R) : a ^ 2 = a * a := by rw [pow_succ, pow_one]
theorem pow_add (a : R) (m : Nat) : ∀ n : Nat, a ^ (m + n) = a ^ m * a ^ n
  | 0 => by rw [Nat.add_zero, pow_zero, mul_one]
  | n + 1 => by rw [← Nat.add_assoc, pow_succ, pow_add a m n, pow_succ, mul_assoc]
theorem one_pow : ∀ n : Nat, (1 : R) ^ n = 1
  | 0 => pow_zero _
  | n + 1 => by rw [pow_succ, one_pow n, mul_one]
end Rg
end Go.Rq
