/- Numbers of six words: division, bit by bit. -/
import Derived.Test.YtndmoidenbfflaaWM3
namespace Go.Rq

def predI : Nat → Int
  | 0 => -1
  | k + 1 => Int.ofNat k
theorem predI_eq {k : Nat} (h : k < 9223372036854775808) : wrapI (Int.ofNat k - 1) = predI k := by
  have : Int.ofNat k - 1 = predI k := by
    cases k with
    | zero => rfl
    | succ k => simp only [predI, Int.ofNat_eq_natCast]; omega
  rw [this]
  refine wrapI_id ?_ ?_ <;> (cases k <;> simp only [predI, Int.ofNat_eq_natCast] <;> omega)

theorem eqN_zero (m : Nat) (f : Nat → Nat) : eqN m 6 f (fun _ => 0) = true ↔ ∀ i, i < 6 → f i % m = 0 := by
  rw [eqN_iff]
  simp only [Nat.zero_mod]
theorem nv_zero (f : Nat → Nat) : nv f = 0 ↔ ∀ i, i < 6 → f i % W = 0 := by
  constructor
  · intro h i hi
    have := wd_nv f i hi
    rw [h] at this
    rw [← this]; simp [wd]
  · intro h
    unfold nv
    rw [h 0 (by omega), h 1 (by omega), h 2 (by omega), h 3 (by omega), h 4 (by omega), h 5 (by omega)]
    rfl
theorem eqN_nv (f : Nat → Nat) : eqN W 6 f (fun _ => 0) = Nat.beq (nv f) 0 := by
  rw [Bool.eq_iff_iff, eqN_zero, Nat.beq_eq, nv_zero]

theorem two_le {n : Nat} (h : 1 ≤ n) : 2 ≤ 2 ^ n := Nat.pow_le_pow_right (n := 2) (i := 1) (by omega) h
theorem or_bit {x k : Nat} (h : x % 2 ^ (k + 1) = 0) : x ||| 2 ^ k = x + 2 ^ k := by
  have e : x = 2 ^ (k + 1) * (x / 2 ^ (k + 1)) := by
    have := Nat.div_add_mod x (2 ^ (k + 1)); omega
  have := Nat.two_pow_add_eq_or_of_lt (i := k + 1) (b := 2 ^ k) (Nat.pow_lt_pow_right (by omega) (by omega)) (x / 2 ^ (k + 1))
  rw [← e] at this
  exact this.symm
theorem setbit_nv (o : Nat → Nat) {k : Nat} (hk : k < 384) : nv (upd o (k / 64) (o (k / 64) ||| 1 * 2 ^ min (k % 64) 64)) = nv o ||| 2 ^ k := by
  have hlt : nv o ||| 2 ^ k < R := by
    rw [R_pow]
    refine Nat.or_lt_two_pow ?_ (Nat.pow_lt_pow_right (by omega) (by rw [E_eq]; omega))
    rw [← R_pow]; exact nv_lt o
  rw [← Nat.mod_eq_of_lt hlt]
  refine nv_of_bits fun i r hi hr => ?_
  have := setbit o (i := k) (j := 64 * i + r)
  rw [show (64 * i + r) / 64 = i by omega, show (64 * i + r) % 64 = r by omega] at this
  rw [this, Nat.testBit_or, tb_word o hi hr, Nat.testBit_two_pow]
theorem setlow_nv (o : Nat → Nat) {d : Nat} (hd : d < 2) (he : nv o % 2 = 0) : nv (upd o 0 (o 0 ||| d)) = nv o + d := by
  have e : nv o ||| d = nv o + d := by
    have := Nat.two_pow_add_eq_or_of_lt (i := 1) (b := d) (by omega) (nv o / 2)
    rw [show 2 ^ 1 * (nv o / 2) = nv o by omega] at this
    exact this.symm
  have hlt : nv o ||| d < R := by
    rw [R_pow]
    refine Nat.or_lt_two_pow ?_ (Nat.lt_of_lt_of_le hd (two_le (by rw [E_eq]; omega)))
    rw [← R_pow]; exact nv_lt o
  rw [← e, ← Nat.mod_eq_of_lt hlt]
  refine nv_of_bits fun i r hi hr => ?_
  rw [Nat.testBit_or, tb_word o hi hr]
  by_cases h0 : i = 0
  · subst h0; rw [upd_same, Nat.testBit_or, Nat.mul_zero, Nat.zero_add]
  · rw [upd_ne _ _ h0]
    have : Nat.testBit d (64 * i + r) = false := Nat.testBit_lt_two_pow (Nat.lt_of_lt_of_le hd (two_le (by omega)))
    rw [this, Bool.or_false]
theorem top_bit (r : Nat → Nat) : Nat.beq (r 5 % W / 2 ^ min 63 64 % W) (1 % W) = Nat.ble R (2 * nv r) := by
  have h := nv_lt r
  have hr : nv r = nvn r 5 + W ^ 5 * (r 5 % W) := nv_nvn r
  have hl := nvn_lt r 5
  have hw : r 5 % W < W := Nat.mod_lt _ (by decide)
  rw [Bool.eq_iff_iff, Nat.beq_eq, Nat.ble_eq]
  rw [hr, show 2 ^ min 63 64 = 9223372036854775808 by decide]
  generalize nvn r 5 = x at *
  generalize r 5 % W = y at *
  simp only [R, W] at *
  omega

/-- What holds of a division of which k bits are still to come. -/
structure DivI (A B k q r : Nat) : Prop where
  rest : r < B
  quo : ∃ Q, q = Q * 2 ^ k ∧ A / 2 ^ k = Q * B + r
theorem DivI.start {A B k : Nat} (hB : 0 < B) (h : A < 2 ^ k) : DivI A B k 0 0 :=
  ⟨hB, 0, by simp, by rw [Nat.div_eq_of_lt h]; simp⟩
theorem DivI.fin {A B q r : Nat} (h : DivI A B 0 q r) : q = A / B ∧ r = A % B := by
  obtain ⟨hr, Q, hq, hA⟩ := h
  simp only [Nat.pow_zero, Nat.mul_one, Nat.div_one] at hq hA
  subst hq
  have hB : 0 < B := by omega
  refine ⟨?_, ?_⟩
  · rw [hA, Nat.mul_comm, Nat.mul_add_div hB, Nat.div_eq_of_lt hr, Nat.add_zero]
  · rw [hA, Nat.mul_comm, Nat.mul_add_mod, Nat.mod_eq_of_lt hr]
theorem DivI.no {A B k q r : Nat} (h : DivI A B (k + 1) q r) (hb : 2 * r + A / 2 ^ k % 2 < B) : DivI A B k q (2 * r + A / 2 ^ k % 2) := by
  obtain ⟨hr, Q, hq, hA⟩ := h
  refine ⟨hb, 2 * Q, by rw [hq, Nat.pow_succ', ← Nat.mul_assoc, Nat.mul_comm Q 2], ?_⟩
  have e : A / 2 ^ (k + 1) = A / 2 ^ k / 2 := by rw [Nat.pow_succ, Nat.div_div_eq_div_mul]
  rw [e] at hA
  rw [Nat.mul_assoc]
  omega
theorem DivI.yes {A B k q r : Nat} (h : DivI A B (k + 1) q r) (hb : B ≤ 2 * r + A / 2 ^ k % 2) : DivI A B k (q + 2 ^ k) (2 * r + A / 2 ^ k % 2 - B) ∧ q % 2 ^ (k + 1) = 0 := by
  obtain ⟨hr, Q, hq, hA⟩ := h
  have e : A / 2 ^ (k + 1) = A / 2 ^ k / 2 := by rw [Nat.pow_succ, Nat.div_div_eq_div_mul]
  rw [e] at hA
  refine ⟨⟨by omega, 2 * Q + 1, ?_, ?_⟩, by rw [hq, Nat.mul_mod_left]⟩
  · rw [hq, Nat.pow_succ', ← Nat.mul_assoc, Nat.mul_comm Q 2, Nat.add_mul, Nat.one_mul]
  · rw [Nat.add_mul, Nat.one_mul, Nat.mul_assoc]
    omega

/-- What is left after a bit was shifted in: as the code has it. -/
def dBit (A k : Nat) : Nat := toU .u64 (bitI A (Int.ofNat k))
theorem dBit_eq (A k : Nat) : dBit A k = A / 2 ^ k % 2 := by
  show (A / 2 ^ k % 2) % W = _
  rw [Nat.mod_eq_of_lt]; have : A / 2 ^ k % 2 < 2 := Nat.mod_lt _ (by decide)
  simp only [W]; omega
def dIn (N A k : Nat) : Nat → Nat := upd (wd N) 0 (wd N 0 ||| dBit A k)
theorem dIn_nv {r A k N : Nat} (hN : N = 2 * r % R) : nv (dIn N A k) = 2 * r % R + A / 2 ^ k % 2 := by
  have hR : R % 2 = 0 := by decide
  have hlt : 2 * r % R < R := Nat.mod_lt _ (by decide)
  have hev : 2 * r % R % 2 = 0 := by
    rw [Nat.mod_mod_of_dvd _ (Nat.dvd_of_mod_eq_zero hR)]; omega
  unfold dIn
  rw [dBit_eq, setlow_nv (wd N) (Nat.mod_lt _ (by decide))]
  · rw [nv_wd, hN, Nat.mod_mod]
  · rw [nv_wd, hN, Nat.mod_mod]; exact hev
/-- The step's two ends. -/
theorem div_step {A B k : Nat} {q r : Nat → Nat} (h : DivI A B (k + 1) (nv q) (nv r)) (hB : B < R) (hk : k < 384) {N : Nat} (hN : N = 2 * nv r % R) :
    (R ≤ 2 * nv r ∨ B ≤ nv (dIn N A k) → DivI A B k (nv (upd q (k / 64) (q (k / 64) ||| 1 * 2 ^ min (k % 64) 64))) (nv (wd ((nv (dIn N A k) + R - B) % R)))) ∧
    (¬ R ≤ 2 * nv r → ¬ B ≤ nv (dIn N A k) → DivI A B k (nv q) (nv (dIn N A k))) := by
  have hd : A / 2 ^ k % 2 < 2 := Nat.mod_lt _ (by decide)
  have hev : R % 2 = 0 := by decide
  have hr := nv_lt r
  have hrest := h.rest
  rw [dIn_nv hN]
  constructor
  · intro hc
    have hge : B ≤ 2 * nv r + A / 2 ^ k % 2 := by
      rcases hc with hc | hc
      · omega
      · by_cases ht : R ≤ 2 * nv r
        · omega
        · rw [Nat.mod_eq_of_lt (by omega)] at hc; exact hc
    obtain ⟨h1, h2⟩ := h.yes hge
    rw [setbit_nv q hk, or_bit h2, nv_wd, Nat.mod_mod]
    have e : (2 * nv r % R + A / 2 ^ k % 2 + R - B) % R = 2 * nv r + A / 2 ^ k % 2 - B := by
      generalize A / 2 ^ k % 2 = d at *
      by_cases ht : R ≤ 2 * nv r
      · have : 2 * nv r % R = 2 * nv r - R := by
          rw [Nat.mod_eq_sub_mod ht, Nat.mod_eq_of_lt (by omega)]
        rw [this, show 2 * nv r - R + d + R - B = 2 * nv r + d - B by omega, Nat.mod_eq_of_lt (by omega)]
      · rw [Nat.mod_eq_of_lt (a := 2 * nv r) (by omega), show 2 * nv r + d + R - B = 2 * nv r + d - B + R by omega, Nat.add_mod_right, Nat.mod_eq_of_lt (by omega)]
    rw [e]; exact h1
  · intro h1 h2
    rw [Nat.mod_eq_of_lt (by omega)] at h2 ⊢
    exact h.no (by omega)
theorem cmp_ge (x y : Nat) : (!ilt (cmpI x y) 0) = Nat.ble y x := by
  unfold cmpI
  cases h1 : Nat.blt x y
  · have n1 : ¬ x < y := by rw [← Nat.blt_eq, h1]; simp
    have : Nat.ble y x = true := by rw [Nat.ble_eq]; omega
    rw [this]
    cases Nat.blt y x <;> rfl
  · have n1 : x < y := by rw [← Nat.blt_eq, h1]
    have : Nat.ble y x = false := by rw [← Bool.not_eq_true, Nat.ble_eq]; omega
    rw [this]; rfl
theorem lt_blen (n : Nat) : n < 2 ^ blen n := by
  by_cases h : n = 0
  · subst h; rw [blen_zero]; decide
  · exact (blen_bounds h).2
end Go.Rq
