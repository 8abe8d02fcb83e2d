/- Bytes: plain facts of numbers written to the base 256. -/
import Derived.Test.YtndmoidenbfflaaWM6
namespace Go.Rq
open Go

def BYT (a : Nat → Nat) (k : Nat) : Nat := a (k / 8) % W / 2 ^ min (8 * (k % 8)) 64
theorem BYT_eq (a : Nat → Nat) {k : Nat} (h : k < 48) : BYT a k % W % 256 = nv a / 2 ^ (8 * k) % 256 ∧ BYT a k % 256 = nv a / 2 ^ (8 * k) % 256 := by
  have hm : min (8 * (k % 8)) 64 = 8 * (k % 8) := by omega
  have e : BYT a k % 256 = nv a / 2 ^ (8 * k) % 256 := by
    unfold BYT
    rw [hm]
    apply Nat.eq_of_testBit_eq
    intro j
    show Nat.testBit (_ % 2 ^ 8) j = Nat.testBit (_ % 2 ^ 8) j
    rw [Nat.testBit_mod_two_pow, Nat.testBit_mod_two_pow, Nat.testBit_div_two_pow, Nat.testBit_div_two_pow]
    by_cases hj : j < 8
    · simp only [hj, decide_true, Bool.true_and]
      have := tb_word a (k := k / 8) (r := 8 * (k % 8) + j) (by omega) (by omega)
      rw [show j + 8 * k = 64 * (k / 8) + (8 * (k % 8) + j) by omega, this, tb_modW _ (by omega)]
      congr 1; omega
    · simp [hj]
  refine ⟨?_, e⟩
  rw [← e]
  simp only [W]; omega
/-- A number's bytes, the greatest first. -/
def byF (N : Nat) : Nat → Nat := fun j => N / 2 ^ (8 * (47 - j))

/-- A number of bytes, the greatest first. -/
def byN (f : Nat → Nat) : Nat → Nat
  | 0 => 0
  | k + 1 => byN f k * 256 + f k % 256
theorem byN_lt (f : Nat → Nat) : ∀ k, byN f k < 2 ^ (8 * k)
  | 0 => by simp [byN]
  | k + 1 => by
    have := byN_lt f k
    have hd : f k % 256 < 256 := Nat.mod_lt _ (by omega)
    simp only [byN]
    rw [show 8 * (k + 1) = 8 * k + 8 by omega, Nat.pow_add]
    omega
theorem byN_congr {f g : Nat → Nat} : ∀ {k}, (∀ j, j < k → f j % 256 = g j % 256) → byN f k = byN g k
  | 0, _ => rfl
  | k + 1, h => by simp only [byN]; rw [byN_congr fun j hj => h j (by omega), h k (by omega)]
/-- The first k bytes of a number's 48 are the number but for its last ones. -/
theorem byN_byF (N : Nat) (hN : N < R) : ∀ k, k ≤ 48 → byN (byF N) k = N / 2 ^ (8 * (48 - k))
  | 0, _ => by
    simp only [byN]
    rw [Nat.div_eq_of_lt]
    rw [show 8 * (48 - 0) = E by rw [E_eq], ← R_pow]; exact hN
  | k + 1, h => by
    simp only [byN]
    rw [byN_byF N hN k (by omega)]
    have e1 : N / 2 ^ (8 * (48 - k)) = N / 2 ^ (8 * (47 - k)) / 256 := by
      rw [Nat.div_div_eq_div_mul, show (256 : Nat) = 2 ^ 8 from rfl, ← Nat.pow_add]; congr 2; omega
    rw [e1, show 48 - (k + 1) = 47 - k by omega]
    simp only [byF]
    omega
def rdE (n : Nat) : Int := bif Nat.blt 48 n then 3 else 0
def rdV (n : Nat) (f : Nat → Nat) : Nat := bif Nat.blt 48 n then 0 else byN f n

theorem or_at {x d p w : Nat} (hd : d < 2 ^ w) (hx : x % 2 ^ (p + w) = 0) : x ||| d * 2 ^ p = x + d * 2 ^ p := by
  have hlt : d * 2 ^ p < 2 ^ (p + w) := by rw [Nat.pow_add, Nat.mul_comm]; exact Nat.mul_lt_mul_of_pos_left hd (Nat.two_pow_pos p)
  have := Nat.two_pow_add_eq_or_of_lt hlt (x / 2 ^ (p + w))
  have e : 2 ^ (p + w) * (x / 2 ^ (p + w)) = x := by have := Nat.div_add_mod x (2 ^ (p + w)); omega
  rw [e] at this
  exact this.symm
/-- Bits that are free, set. -/
theorem set_nv (o : Nat → Nat) {d i s w : Nat} (hi : i < 6) (hs : s + w ≤ 64) (hd : d < 2 ^ w) (hx : nv o % 2 ^ (64 * i + s + w) = 0) : nv (upd o i (o i ||| d * 2 ^ s)) = nv o + d * 2 ^ (64 * i + s) := by
  have e := or_at (x := nv o) (p := 64 * i + s) hd hx
  have hlt : nv o ||| d * 2 ^ (64 * i + s) < R := by
    rw [R_pow]
    refine Nat.or_lt_two_pow (by rw [← R_pow]; exact nv_lt o) ?_
    have h1 : d * 2 ^ (64 * i + s) < 2 ^ (w + (64 * i + s)) := by
      rw [Nat.pow_add 2 w]
      exact Nat.mul_lt_mul_of_pos_right hd (Nat.two_pow_pos _)
    exact Nat.lt_of_lt_of_le h1 (Nat.pow_le_pow_right (by omega) (by rw [E_eq]; omega))
  rw [← e, ← Nat.mod_eq_of_lt hlt]
  refine nv_of_bits fun j r hj hr => ?_
  rw [Nat.testBit_or, tb_word o hj hr, Nat.testBit_mul_two_pow]
  by_cases hji : j = i
  · subst hji
    rw [upd_same, Nat.testBit_or, Nat.testBit_mul_two_pow]
    congr 1
    by_cases h : s ≤ r
    · simp only [h, decide_true, Bool.true_and, show 64 * j + s ≤ 64 * j + r by omega]
      congr 1; omega
    · simp only [h, decide_false, Bool.false_and, show ¬ 64 * j + s ≤ 64 * j + r by omega]
  · rw [upd_ne _ _ hji]
    have hfalse : (decide (64 * i + s ≤ 64 * j + r) && d.testBit (64 * j + r - (64 * i + s))) = false := by
      by_cases h : 64 * i + s ≤ 64 * j + r
      · have : d.testBit (64 * j + r - (64 * i + s)) = false := Nat.testBit_lt_two_pow (Nat.lt_of_lt_of_le hd (Nat.pow_le_pow_right (by omega) (by omega)))
        rw [this, Bool.and_false]
      · simp [h]
    rw [hfalse, Bool.or_false]
/-- A byte more. -/
theorem read_step {f o : Nat → Nat} {n i : Nat} (hn : n ≤ 48) (hi : i < n) (hv : nv o = byN f i * 2 ^ (8 * (n - i))) :
    nv (upd o ((n - 1 - i) / 8) (o ((n - 1 - i) / 8) ||| f i % 256 * 2 ^ min (8 * ((n - 1 - i) % 8)) 64)) = byN f (i + 1) * 2 ^ (8 * (n - (i + 1))) := by
  have hm : min (8 * ((n - 1 - i) % 8)) 64 = 8 * ((n - 1 - i) % 8) := by omega
  have hp : 64 * ((n - 1 - i) / 8) + 8 * ((n - 1 - i) % 8) = 8 * (n - 1 - i) := by omega
  rw [hm, set_nv o (w := 8) (by omega) (by omega) (Nat.mod_lt _ (by omega)) ?_, hp, hv]
  · simp only [byN]
    rw [show n - (i + 1) = n - 1 - i by omega, show 8 * (n - i) = 8 + 8 * (n - 1 - i) by omega, Nat.pow_add, ← Nat.mul_assoc, ← Nat.add_mul]
  · rw [hp, hv, show 8 * (n - i) = 8 * (n - 1 - i) + 8 by omega]
    exact Nat.mul_mod_left _ _
theorem tdiv8 : ∀ i : Fin 48, wrapI ((Int.ofNat i.val).tdiv 8) = Int.ofNat (i.val / 8) := by decide +kernel
theorem tmod8 : ∀ i : Fin 48, (Int.ofNat i.val).tmod 8 = Int.ofNat (i.val % 8) := by decide +kernel
theorem mul8 : ∀ i : Fin 8, wrapI (8 * Int.ofNat i.val) = Int.ofNat (8 * i.val) := by decide +kernel
end Go.Rq
