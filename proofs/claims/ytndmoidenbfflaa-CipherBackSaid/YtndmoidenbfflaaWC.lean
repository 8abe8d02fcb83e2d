/- Plain: numbers of bytes, the lowest first; what is kept of a number by 2^130 - 5. -/
import Derived.Test.YtndmoidenbfflaaWM
namespace Go.Rq

/-- The number of n bytes, the lowest first. -/
def num (f : Nat → Nat) : Nat → Nat
  | 0 => 0
  | n + 1 => num f n + f n * 256 ^ n
theorem num_congr {f g : Nat → Nat} : ∀ {n}, (∀ j, j < n → f j = g j) → num f n = num g n
  | 0, _ => rfl
  | n + 1, h => by
    simp only [num]
    rw [num_congr (n := n) (fun j hj => h j (by omega)), h n (by omega)]
theorem num_lt {f : Nat → Nat} : ∀ {n}, (∀ j, j < n → f j < 256) → num f n < 256 ^ n
  | 0, _ => by simp [num]
  | n + 1, h => by
    have ih := num_lt (n := n) (fun j hj => h j (by omega))
    have h1 := h n (by omega)
    have h2 : f n * 256 ^ n ≤ 255 * 256 ^ n := Nat.mul_le_mul_right _ (by omega)
    simp only [num, Nat.pow_succ]
    omega
theorem num_upd_ge {f : Nat → Nat} {j x : Nat} {n : Nat} (h : n ≤ j) : num (upd f j x) n = num f n :=
  num_congr fun i hi => upd_ne _ _ (by omega)
theorem num_upd {f : Nat → Nat} {j x : Nat} : ∀ {n}, j < n → num (upd f j x) n + f j * 256 ^ j = num f n + x * 256 ^ j
  | 0, h => by omega
  | n + 1, h => by
    simp only [num]
    by_cases e : j = n
    · subst e
      rw [num_upd_ge (Nat.le_refl _), upd_same]; omega
    · have ih := num_upd (f := f) (x := x) (n := n) (j := j) (by omega)
      rw [upd_ne _ _ (fun h => e h.symm)]; omega
theorem num_split {f : Nat → Nat} (n : Nat) : ∀ m, num f (n + m) = num f n + 256 ^ n * num (fun j => f (n + j)) m
  | 0 => by simp [num]
  | m + 1 => by
    rw [← Nat.add_assoc]
    simp only [num]
    rw [num_split n m, Nat.pow_add]
    grind
theorem num_zero {f : Nat → Nat} : ∀ {n}, (∀ j, j < n → f j = 0) → num f n = 0
  | 0, _ => rfl
  | n + 1, h => by simp only [num]; rw [num_zero (n := n) (fun j hj => h j (by omega)), h n (by omega)]; simp
def dgN (x : Nat) : Nat → Nat := fun j => x / 256 ^ j % 256
theorem dgN_lt {x j : Nat} : dgN x j < 256 := Nat.mod_lt _ (by decide)
theorem num_dgN (x : Nat) : ∀ n, num (dgN x) n = x % 256 ^ n
  | 0 => by simp [num, Nat.mod_one]
  | n + 1 => by
    simp only [num]
    rw [num_dgN x n, Nat.pow_succ, Nat.mod_mul]
    unfold dgN
    rw [Nat.mul_comm]
theorem num_dig {f : Nat → Nat} {n j : Nat} (h : ∀ j, j < n → f j < 256) (hj : j < n) : dgN (num f n) j = f j := by
  obtain ⟨m, rfl⟩ : ∃ m, n = j + (m + 1) := ⟨n - j - 1, by omega⟩
  have h1 : num f j < 256 ^ j := num_lt fun i hi => h i (by omega)
  have h2 := num_split (f := f) j (m + 1)
  have h3 := num_split (f := fun i => f (j + i)) 1 m
  have h4 : num (fun i => f (j + i)) 1 = f j := by simp [num]
  rw [show 1 + m = m + 1 by omega, h4] at h3
  unfold dgN
  rw [h2, Nat.add_mul_div_left _ _ (Nat.pow_pos (by decide)), Nat.div_eq_of_lt h1, Nat.zero_add, h3, Nat.pow_one, Nat.add_mul_mod_self_left]
  exact Nat.mod_eq_of_lt (h j (by omega))
theorem num_inj {f g : Nat → Nat} {n : Nat} (hf : ∀ j, j < n → f j < 256) (hg : ∀ j, j < n → g j < 256) (e : num f n = num g n) {j : Nat} (hj : j < n) : f j = g j := by
  rw [← num_dig hf hj, ← num_dig hg hj, e]
theorem dgN_zero {x j : Nat} (h : x < 256 ^ j) : dgN x j = 0 := by unfold dgN; rw [Nat.div_eq_of_lt h]

/-- 2^130 - 5. -/
def pP : Nat := 1361129467683753853853498429727072845819
/-- What is above 2^130 counts five times. -/
def red (w : Nat) : Nat := w % 1361129467683753853853498429727072845824 + 5 * (w / 1361129467683753853853498429727072845824)
theorem red_mod (w : Nat) : red w % pP = w % pP := by
  unfold red pP
  omega
theorem red_lt {w : Nat} (h : 1361129467683753853853498429727072845824 ≤ w) : red w < w := by
  unfold red; omega
theorem red_bd {w : Nat} (h : w < 57896044618658097711785492504343953926634992332820282019728792003956564819968) : red w < 2722258935367507707706996859454145691638 := by
  unfold red; omega
/-- Words of 64 bits. -/
def w64 (x : Nat) : Nat → Nat := fun j => x / 18446744073709551616 ^ j % 18446744073709551616

/-! bits -/
theorem and3 (x : Nat) : x &&& 3 = x % 4 := Nat.and_two_pow_sub_one_eq_mod x 2
theorem andC4 (x : Nat) : (x &&& 18446744073709551612) % 18446744073709551616 = 4 * (x % 18446744073709551616 / 4) := by
  have h : x &&& 18446744073709551612 = (x / 4 % 4611686018427387904) * 4 := by
    apply Nat.eq_of_testBit_eq
    intro i
    rw [show (18446744073709551612 : Nat) = (2 ^ 62 - 1) <<< 2 by decide, show (x / 4 % 4611686018427387904) * 4 = (x / 2 ^ 2 % 2 ^ 62) <<< 2 by rw [Nat.shiftLeft_eq]]
    rw [Nat.testBit_and, Nat.testBit_shiftLeft, Nat.testBit_shiftLeft, Nat.testBit_two_pow_sub_one, Nat.testBit_mod_two_pow, Nat.testBit_div_two_pow]
    by_cases hi : 2 ≤ i
    · simp only [hi, decide_true, Bool.true_and]
      rw [show i - 2 + 2 = i by omega, Bool.and_comm]
    · simp [hi]
  rw [h]; omega
theorem orAdd {a b k : Nat} (h : a < 2 ^ k) : a ||| b * 2 ^ k = a + b * 2 ^ k := by
  rw [Nat.or_comm, Nat.mul_comm, ← Nat.two_pow_add_eq_or_of_lt h]; omega

/-! what fold does -/
abbrev aS (x y c : Nat) : Nat := x + y + c
abbrev aC (x y c : Nat) : Nat := (x % 18446744073709551616 + y % 18446744073709551616 + c % 18446744073709551616) / 18446744073709551616
def vW (w : Nat → Nat) : Nat := w 0 % 18446744073709551616 + w 1 % 18446744073709551616 * 18446744073709551616 + w 2 % 18446744073709551616 * 340282366920938463463374607431768211456 + w 3 % 18446744073709551616 * 6277101735386680763835789423207666416102355444464034512896
def vA (w : Nat → Nat) : Nat := w 0 % 18446744073709551616 + w 1 % 18446744073709551616 * 18446744073709551616 + w 2 % 18446744073709551616 * 340282366920938463463374607431768211456
def vR (w : Nat → Nat) : Nat := w 0 % 18446744073709551616 + w 1 % 18446744073709551616 * 18446744073709551616
def fo0 (w : Nat → Nat) : Nat → Nat := upd (upd (upd (fun _ => 0) 0 (w 0)) 1 (w 1)) 2 (w 2 &&& 3)
def foC (a : Nat → Nat) (l : Nat) : Nat := aC (a 0) l 0
def foD (a : Nat → Nat) (l h : Nat) : Nat := aC ((upd a 0 (aS (a 0) l 0)) 1) h (foC a l)
def foU (a : Nat → Nat) (l : Nat) : Nat → Nat := upd a 0 (aS (a 0) l 0)
def foV (a : Nat → Nat) (l h : Nat) : Nat → Nat := upd (foU a l) 1 (aS (foU a l 1) h (foC a l))
def foW (a : Nat → Nat) (l h : Nat) : Nat → Nat := upd (foV a l h) 2 (foV a l h 2 + foD a l h)
def foL (w : Nat → Nat) : Nat := (w 2 &&& 18446744073709551612) % 18446744073709551616 / 4 ||| w 3 * 4611686018427387904
def foR (w : Nat → Nat) : Nat → Nat := foW (foW (fo0 w) (w 2 &&& 18446744073709551612) (w 3)) (foL w) (w 3 % 18446744073709551616 / 4)
theorem aSC (x y c : Nat) : aS x y c % 18446744073709551616 + 18446744073709551616 * aC x y c = x % 18446744073709551616 + y % 18446744073709551616 + c % 18446744073709551616 := by unfold aS aC; omega
theorem aC_le {x y c : Nat} (h : c % 18446744073709551616 ≤ 1) : aC x y c ≤ 1 := by unfold aC; omega
theorem foW_vals (a : Nat → Nat) (l h : Nat) : foW a l h 0 = a 0 + l ∧ foW a l h 1 = a 1 + h + aC (a 0) l 0 ∧ foW a l h 2 = a 2 + aC (a 1) h (aC (a 0) l 0) := by
  refine ⟨rfl, rfl, rfl⟩
theorem foL_eq (w : Nat → Nat) : foL w % 18446744073709551616 = w 2 % 18446744073709551616 / 4 + w 3 % 4 * 4611686018427387904 := by
  unfold foL
  rw [andC4, show 4 * (w 2 % 18446744073709551616 / 4) / 4 = w 2 % 18446744073709551616 / 4 by omega, show (4611686018427387904 : Nat) = 2 ^ 62 by decide, orAdd (by omega)]
  omega
theorem fold_lin {n0 n1 m0 m1 v0 v1 v3 q2 r2 q3 r3 d1 d2 d3 d4 : Nat} (s1 : n0 + 18446744073709551616 * d1 = v0 + 4 * q2) (s2 : n1 + 18446744073709551616 * d2 = v1 + v3 + d1) (s3 : m0 + 18446744073709551616 * d3 = n0 + (q2 + r3 * 4611686018427387904))
   (s4 : m1 + 18446744073709551616 * d4 = n1 + q3 + d3) (h3 : v3 = 4 * q3 + r3) : m0 + m1 * 18446744073709551616 + (r2 + d2 + d4) * 340282366920938463463374607431768211456 = (v0 + v1 * 18446744073709551616 + r2 * 340282366920938463463374607431768211456) + 5 * (q2 + v3 * 4611686018427387904) := by omega
theorem le1_mod {d : Nat} (h : d ≤ 1) : d % 18446744073709551616 ≤ 1 := by omega
theorem le1_id {d : Nat} (h : d ≤ 1) : d % 18446744073709551616 = d := by omega
theorem div4_mod {x : Nat} : x % 18446744073709551616 / 4 % 18446744073709551616 = x % 18446744073709551616 / 4 := by omega
theorem small_mod {x d e : Nat} (h : d ≤ 1) (k : e ≤ 1) : (x % 4 + d + e) % 18446744073709551616 = x % 4 + d + e := by omega
theorem mod4_eq (x : Nat) : x % 18446744073709551616 = 4 * (x % 18446744073709551616 / 4) + x % 4 := by omega
theorem sum_le5 {x d e : Nat} (h : d ≤ 1) (k : e ≤ 1) : (x % 4 + d + e) % 18446744073709551616 ≤ 5 := by omega
theorem red_split {lo hi : Nat} (h : lo < 1361129467683753853853498429727072845824) : red (lo + 1361129467683753853853498429727072845824 * hi) = lo + 5 * hi := by
  unfold red
  rw [Nat.add_mul_mod_self_left, Nat.mod_eq_of_lt h, Nat.add_mul_div_left _ _ (by decide), Nat.div_eq_of_lt h, Nat.zero_add]
theorem vW_split {v0 v1 v2 v3 : Nat} : v0 + v1 * 18446744073709551616 + v2 * 340282366920938463463374607431768211456 + v3 * 6277101735386680763835789423207666416102355444464034512896 = (v0 + v1 * 18446744073709551616 + v2 % 4 * 340282366920938463463374607431768211456) + 1361129467683753853853498429727072845824 * (v2 / 4 + v3 * 4611686018427387904) := by omega
theorem low_lt {v0 v1 r2 : Nat} (h0 : v0 < 18446744073709551616) (h1 : v1 < 18446744073709551616) (h2 : r2 < 4) : v0 + v1 * 18446744073709551616 + r2 * 340282366920938463463374607431768211456 < 1361129467683753853853498429727072845824 := by omega
theorem mod44 (x : Nat) : x % 18446744073709551616 % 4 = x % 4 := by omega
theorem red_vW (w : Nat → Nat) : red (vW w) = (w 0 % 18446744073709551616 + w 1 % 18446744073709551616 * 18446744073709551616 + w 2 % 4 * 340282366920938463463374607431768211456) + 5 * (w 2 % 18446744073709551616 / 4 + w 3 % 18446744073709551616 * 4611686018427387904) := by
  unfold vW
  rw [vW_split, red_split (low_lt (Nat.mod_lt _ (by decide)) (Nat.mod_lt _ (by decide)) (Nat.mod_lt _ (by decide))), mod44]
theorem top_lt {s v3 : Nat} (h : s + v3 * 6277101735386680763835789423207666416102355444464034512896 < 57896044618658097711785492504343953926634992332820282019728792003956564819968) : v3 < 9223372036854775808 := by omega
theorem vW_top {w : Nat → Nat} (h : vW w < 57896044618658097711785492504343953926634992332820282019728792003956564819968) : w 3 % 18446744073709551616 < 9223372036854775808 := top_lt h
theorem foR_eq {w : Nat → Nat} (h : vW w < 57896044618658097711785492504343953926634992332820282019728792003956564819968) :
    vA (foR w) = red (vW w) ∧ foR w 2 % 18446744073709551616 = foR w 2 := by
  obtain ⟨a1, a2, a3⟩ := foW_vals (fo0 w) (w 2 &&& 18446744073709551612) (w 3)
  obtain ⟨b1, b2, b3⟩ := foW_vals (foW (fo0 w) (w 2 &&& 18446744073709551612) (w 3)) (foL w) (w 3 % 18446744073709551616 / 4)
  have c0 : fo0 w 0 = w 0 := rfl
  have c1 : fo0 w 1 = w 1 := rfl
  have c2 : fo0 w 2 = w 2 % 4 := by rw [← and3]; rfl
  have hl := foL_eq w
  have hm := andC4 (w 2)
  have hv3 : w 3 % 18446744073709551616 < 9223372036854775808 := vW_top h
  rw [red_vW]
  clear h
  unfold vA foR
  rw [b1, b2, b3, a1, a2, a3, c0, c1, c2]
  clear b1 b2 b3 a1 a2 a3 c0 c1 c2
  generalize w 2 &&& 18446744073709551612 = L at *
  generalize foL w = L2 at *
  generalize w 0 = w0 at *
  generalize w 1 = w1 at *
  generalize w 2 = w2 at *
  generalize w 3 = w3 at *
  have s1 := aSC w0 L 0
  have k1 := aC_le (x := w0) (y := L) (c := 0) (by decide)
  generalize aC w0 L 0 = d1 at *
  have s2 := aSC w1 w3 d1
  have k2 := aC_le (x := w1) (y := w3) (c := d1) (le1_mod k1)
  generalize aC w1 w3 d1 = d2 at *
  have s3 := aSC (w0 + L) L2 0
  have k3 := aC_le (x := w0 + L) (y := L2) (c := 0) (by decide)
  generalize aC (w0 + L) L2 0 = d3 at *
  have s4 := aSC (w1 + w3 + d1) (w3 % 18446744073709551616 / 4) d3
  have k4 := aC_le (x := w1 + w3 + d1) (y := w3 % 18446744073709551616 / 4) (c := d3) (le1_mod k3)
  generalize aC (w1 + w3 + d1) (w3 % 18446744073709551616 / 4) d3 = d4 at *
  rw [le1_id k1] at s2
  rw [le1_id k3, div4_mod] at s4
  rw [hl, Nat.zero_mod, Nat.add_zero] at s3
  rw [hm, Nat.zero_mod, Nat.add_zero] at s1
  have q5 : (w2 % 4 + d2 + d4) % 18446744073709551616 = w2 % 4 + d2 + d4 := small_mod k2 k4
  refine ⟨?_, q5⟩
  rw [q5]
  unfold aS at s1 s2 s3 s4
  rw [Nat.add_zero] at s1 s3
  exact fold_lin (q3 := w3 % 18446744073709551616 / 4) s1 s2 s3 s4 (mod4_eq w3)

/-! what times does -/
abbrev mH (x y : Nat) : Nat := x % 18446744073709551616 * (y % 18446744073709551616) / 18446744073709551616
def tw0 (f r : Nat → Nat) : Nat → Nat := upd (fun _ => 0) 0 (f 0 * r 0)
def tc1 (f r : Nat → Nat) : Nat := aC (mH (f 0) (r 0)) (f 0 * r 1) 0
def tw1 (f r : Nat → Nat) : Nat → Nat := upd (tw0 f r) 1 (aS (mH (f 0) (r 0)) (f 0 * r 1) 0)
def tc2 (f r : Nat → Nat) : Nat := aC (mH (f 0) (r 1)) (f 1 * r 1) (tc1 f r)
def tw2 (f r : Nat → Nat) : Nat → Nat := upd (tw1 f r) 2 (aS (mH (f 0) (r 1)) (f 1 * r 1) (tc1 f r))
def tw3 (f r : Nat → Nat) : Nat → Nat := upd (tw2 f r) 3 (aS (mH (f 1) (r 1)) (f 2 * r 1) (tc2 f r))
def td1 (f r : Nat → Nat) : Nat := aC (tw3 f r 1) (f 1 * r 0) 0
def tw4 (f r : Nat → Nat) : Nat → Nat := upd (tw3 f r) 1 (aS (tw3 f r 1) (f 1 * r 0) 0)
def td2 (f r : Nat → Nat) : Nat := aC (tw4 f r 2) (mH (f 1) (r 0)) (td1 f r)
def tw5 (f r : Nat → Nat) : Nat → Nat := upd (tw4 f r) 2 (aS (tw4 f r 2) (mH (f 1) (r 0)) (td1 f r))
def tw6 (f r : Nat → Nat) : Nat → Nat := upd (tw5 f r) 3 (tw5 f r 3 + td2 f r)
def te2 (f r : Nat → Nat) : Nat := aC (tw6 f r 2) (f 2 * r 0) 0
def tw7 (f r : Nat → Nat) : Nat → Nat := upd (tw6 f r) 2 (aS (tw6 f r 2) (f 2 * r 0) 0)
def tw8 (f r : Nat → Nat) : Nat → Nat := upd (tw7 f r) 3 (tw7 f r 3 + te2 f r)
def tmF (f r : Nat → Nat) : Nat → Nat := foR (tw8 f r)
theorem tc1_le (f r : Nat → Nat) : tc1 f r ≤ 1 := aC_le (by decide)
theorem tc2_le (f r : Nat → Nat) : tc2 f r ≤ 1 := aC_le (le1_mod (tc1_le f r))
theorem td1_le (f r : Nat → Nat) : td1 f r ≤ 1 := aC_le (by decide)
theorem td2_le (f r : Nat → Nat) : td2 f r ≤ 1 := aC_le (le1_mod (td1_le f r))
theorem te2_le (f r : Nat → Nat) : te2 f r ≤ 1 := aC_le (by decide)
theorem tw8_vals (f r : Nat → Nat) : tw8 f r 0 = f 0 * r 0 ∧ tw8 f r 1 = aS (aS (mH (f 0) (r 0)) (f 0 * r 1) 0) (f 1 * r 0) 0 ∧
    tw8 f r 2 = aS (aS (aS (mH (f 0) (r 1)) (f 1 * r 1) (tc1 f r)) (mH (f 1) (r 0)) (td1 f r)) (f 2 * r 0) 0 ∧
    tw8 f r 3 = aS (mH (f 1) (r 1)) (f 2 * r 1) (tc2 f r) + td2 f r + te2 f r ∧
    tw3 f r 1 = aS (mH (f 0) (r 0)) (f 0 * r 1) 0 ∧ tw4 f r 2 = aS (mH (f 0) (r 1)) (f 1 * r 1) (tc1 f r) ∧ tw6 f r 2 = aS (tw4 f r 2) (mH (f 1) (r 0)) (td1 f r) := ⟨rfl, rfl, rfl, rfl, rfl, rfl, rfl⟩
theorem mH_eq (x y : Nat) : x * y % 18446744073709551616 + 18446744073709551616 * mH x y = x % 18446744073709551616 * (y % 18446744073709551616) := by
  unfold mH
  rw [Nat.mul_mod]
  exact Nat.mod_add_div _ _
theorem times_lin {l00 h00 l01 h01 l10 h10 l11 h11 p20 p21 c1 c2 d1 d2 e2 m1 m2 n1 n2 k2 n3 p00 p01 p10 p11 : Nat} (q00 : l00 + 18446744073709551616 * h00 = p00) (q01 : l01 + 18446744073709551616 * h01 = p01)
    (q10 : l10 + 18446744073709551616 * h10 = p10) (q11 : l11 + 18446744073709551616 * h11 = p11) (s1 : m1 + 18446744073709551616 * c1 = h00 + l01) (s2 : m2 + 18446744073709551616 * c2 = h01 + l11 + c1)
    (s4 : n1 + 18446744073709551616 * d1 = m1 + l10) (s5 : n2 + 18446744073709551616 * d2 = m2 + h10 + d1) (s7 : k2 + 18446744073709551616 * e2 = n2 + p20) (s8 : n3 = h11 + p21 + c2 + d2 + e2) :
    l00 + n1 * 18446744073709551616 + k2 * 340282366920938463463374607431768211456 + n3 * 6277101735386680763835789423207666416102355444464034512896 =
    p00 + (p01 + p10) * 18446744073709551616 + (p11 + p20) * 340282366920938463463374607431768211456 + p21 * 6277101735386680763835789423207666416102355444464034512896 := by omega
theorem prod_exp (a0 a1 a2 r0 r1 : Nat) : (a0 + a1 * 18446744073709551616 + a2 * 340282366920938463463374607431768211456) * (r0 + r1 * 18446744073709551616) =
    a0 * r0 + (a0 * r1 + a1 * r0) * 18446744073709551616 + (a1 * r1 + a2 * r0) * 340282366920938463463374607431768211456 + a2 * r1 * 6277101735386680763835789423207666416102355444464034512896 := by grind
theorem mH_lt {x y : Nat} (h : y % 18446744073709551616 < 1152921504606846976) : mH x y < 1152921504606846976 := by
  unfold mH
  have h1 := Nat.mod_lt x (show 0 < 18446744073709551616 by decide)
  generalize x % 18446744073709551616 = a at *
  generalize y % 18446744073709551616 = b at *
  have : a * b ≤ 18446744073709551616 * b := Nat.mul_le_mul_right _ (by omega)
  omega
theorem mod_add3 {a b c x y z : Nat} (ha : a = x) (hb : b % 18446744073709551616 = y) (hc : c = z) (h : x + y + z < 18446744073709551616) : (a + b + c) % 18446744073709551616 = x + y + z := by omega
theorem small_prod {a b : Nat} (ha : a ≤ 7) (hb : b < 1152921504606846976) : a * b < 9223372036854775808 := by
  have : a * b ≤ 7 * b := Nat.mul_le_mul_right _ ha
  omega
theorem sum_top {a b c d e : Nat} (ha : a < 1152921504606846976) (hb : b % 18446744073709551616 < 9223372036854775808) (hc : c ≤ 1) (hd : d ≤ 1) (he : e ≤ 1) : (a + b + c + d + e) % 18446744073709551616 = a + b % 18446744073709551616 + c + d + e := by omega
theorem tw8_eq {f r : Nat → Nat} (h2 : f 2 % 18446744073709551616 ≤ 7) (hr0 : r 0 % 18446744073709551616 < 1152921504606846976) (hr1 : r 1 % 18446744073709551616 < 1152921504606846976) : vW (tw8 f r) = vA f * vR r := by
  obtain ⟨v0, v1, v2, v3, k1, k2, k3⟩ := tw8_vals f r
  have hc1 := tc1_le f r
  have hc2 := tc2_le f r
  have hd1 := td1_le f r
  have hd2 := td2_le f r
  have he2 := te2_le f r
  have s1 := aSC (mH (f 0) (r 0)) (f 0 * r 1) 0
  rw [show aC (mH (f 0) (r 0)) (f 0 * r 1) 0 = tc1 f r from rfl] at s1
  have s2 := aSC (mH (f 0) (r 1)) (f 1 * r 1) (tc1 f r)
  rw [show aC (mH (f 0) (r 1)) (f 1 * r 1) (tc1 f r) = tc2 f r from rfl] at s2
  have s4 := aSC (tw3 f r 1) (f 1 * r 0) 0
  rw [show aC (tw3 f r 1) (f 1 * r 0) 0 = td1 f r from rfl, k1] at s4
  have s5 := aSC (tw4 f r 2) (mH (f 1) (r 0)) (td1 f r)
  rw [show aC (tw4 f r 2) (mH (f 1) (r 0)) (td1 f r) = td2 f r from rfl, k2] at s5
  have s7 := aSC (tw6 f r 2) (f 2 * r 0) 0
  rw [show aC (tw6 f r 2) (f 2 * r 0) 0 = te2 f r from rfl, k3, k2] at s7
  have q00 := mH_eq (f 0) (r 0)
  have q01 := mH_eq (f 0) (r 1)
  have q10 := mH_eq (f 1) (r 0)
  have q11 := mH_eq (f 1) (r 1)
  have b00 := mH_lt (x := f 0) hr0
  have b01 := mH_lt (x := f 0) hr1
  have b10 := mH_lt (x := f 1) hr0
  have b11 := mH_lt (x := f 1) hr1
  have p20 : f 2 * r 0 % 18446744073709551616 = f 2 % 18446744073709551616 * (r 0 % 18446744073709551616) := by
    rw [Nat.mul_mod]; exact Nat.mod_eq_of_lt (Nat.lt_trans (small_prod h2 hr0) (by decide))
  have p21 : f 2 * r 1 % 18446744073709551616 = f 2 % 18446744073709551616 * (r 1 % 18446744073709551616) := by
    rw [Nat.mul_mod]; exact Nat.mod_eq_of_lt (Nat.lt_trans (small_prod h2 hr1) (by decide))
  have s8 := sum_top (a := mH (f 1) (r 1)) (b := f 2 * r 1) b11 (by rw [p21]; exact small_prod h2 hr1) hc2 hd2 he2
  rw [p21] at s8
  rw [p20] at s7
  rw [Nat.mod_eq_of_lt (Nat.lt_trans b00 (by decide)), Nat.zero_mod, Nat.add_zero] at s1
  rw [Nat.mod_eq_of_lt (Nat.lt_trans b01 (by decide)), le1_id hc1] at s2
  rw [Nat.zero_mod, Nat.add_zero] at s4
  rw [Nat.mod_eq_of_lt (Nat.lt_trans b10 (by decide)), le1_id hd1] at s5
  rw [Nat.zero_mod, Nat.add_zero] at s7
  unfold vW vA vR
  rw [v0, v1, v2, v3, prod_exp]
  exact times_lin q00 q01 q10 q11 s1 s2 s4 s5 s7 s8
theorem vA_lt {f : Nat → Nat} (h2 : f 2 % 18446744073709551616 ≤ 7) : vA f < 2722258935367507707706996859454145691648 := by unfold vA; omega
theorem vR_lt {r : Nat → Nat} (h2 : r 1 % 18446744073709551616 < 1152921504606846976) : vR r < 21267647932558653966460912964485513216 := by unfold vR; omega
theorem tmF_eq {f r : Nat → Nat} (h2 : f 2 % 18446744073709551616 ≤ 7) (hr0 : r 0 % 18446744073709551616 < 1152921504606846976) (hr1 : r 1 % 18446744073709551616 < 1152921504606846976) :
    vA (tmF f r) = red (vA f * vR r) ∧ tmF f r 2 % 18446744073709551616 ≤ 5 := by
  have e := tw8_eq h2 hr0 hr1
  have hlt : vW (tw8 f r) < 57896044618658097711785492504343953926634992332820282019728792003956564819968 := by
    rw [e]
    exact Nat.lt_of_lt_of_le (Nat.mul_lt_mul'' (vA_lt h2) (vR_lt hr1)) (by decide)
  refine ⟨by rw [← e]; exact (foR_eq hlt).1, ?_⟩
  rw [show tmF f r 2 = foR (tw8 f r) 2 from rfl]
  have h3 : foR (tw8 f r) 2 = fo0 (tw8 f r) 2 + aC (fo0 (tw8 f r) 1) (tw8 f r 3) (aC (fo0 (tw8 f r) 0) (tw8 f r 2 &&& 18446744073709551612) 0) + aC _ _ (aC _ _ 0) := rfl
  have h4 : fo0 (tw8 f r) 2 = tw8 f r 2 % 4 := by rw [← and3]; rfl
  rw [h3, h4]
  have k1 := aC_le (x := fo0 (tw8 f r) 1) (y := tw8 f r 3) (c := aC (fo0 (tw8 f r) 0) (tw8 f r 2 &&& 18446744073709551612) 0) (le1_mod (aC_le (by decide)))
  refine sum_le5 k1 (aC_le (le1_mod (aC_le (by decide))))
end Go.Rq
