/- A round of the reduction, in words. -/
import Derived.Test.YtcmaecfpggmcoaaWN2
namespace Go.Rq
open Go

theorem less_gen {r N a : Nat} (h : N ≤ a) (ha : a < r) : a - N = (a + r - N) % r := by
  rw [show a + r - N = (a - N) + r by omega, Nat.add_mod_right, Nat.mod_eq_of_lt (by omega)]
def crow (x : Nat) (b t : Nat → Nat) : Nat → Nat
  | 0 => 0
  | k + 1 => mHi x (b k) (t k) (crow x b t k)
def drow (q : Nat) (n L : Nat → Nat) : Nat → Nat
  | 0 => 0
  | 1 => q % W * (n 0 % W) / W + (q * n 0 % W + L 0 % W + 0 % W) / W
  | k + 2 => mHi q (n (k + 1)) (L (k + 1)) (drow q n L (k + 1))
def mrow (q : Nat) (n L D : Nat → Nat) (S6 S7 : Nat) : Nat → Nat
  | 0 => mLo q (n 1) (L 1) (D 1)
  | 1 => mLo q (n 2) (L 2) (D 2)
  | 2 => mLo q (n 3) (L 3) (D 3)
  | 3 => mLo q (n 4) (L 4) (D 4)
  | 4 => mLo q (n 5) (L 5) (D 5)
  | 5 => S6 + D 6 + 0
  | 6 => S7 + (S6 % W + D 6 % W + 0 % W) / W
  | _ => 0
theorem top_step {x c : Nat} (hc : c < W) : (x + c + 0) % W + W * ((x % W + c % W + 0 % W) / W) = x % W + c ∧ (x % W + c % W + 0 % W) / W ≤ 1 := by
  simp only [W] at *; omega
theorem bound_gen {w q n l : Nat} (hq : q < w) (hn : n < w) (hl : l < w) : (l + q * n) / w < w := by
  rw [Nat.div_lt_iff_lt_mul (by omega)]
  have h1 : q * n ≤ (w - 1) * (w - 1) := Nat.mul_le_mul (by omega) (by omega)
  obtain ⟨v, rfl⟩ : ∃ v, w = v + 1 := ⟨w - 1, by omega⟩
  simp only [Nat.add_sub_cancel] at h1
  rw [Nat.add_mul, Nat.mul_add]
  omega
theorem first_step {q n0 l0 : Nat} (h : (l0 + q * n0) % W = 0) : W * (q % W * (n0 % W) / W + (q * n0 % W + l0 % W + 0 % W) / W) = l0 % W + q % W * (n0 % W) ∧ q % W * (n0 % W) / W + (q * n0 % W + l0 % W + 0 % W) / W < W := by
  have e1 : q * n0 % W = q % W * (n0 % W) % W := Nat.mul_mod _ _ _
  have hz : 0 % W = 0 := rfl
  have e2 : (l0 % W + q % W * (n0 % W)) % W = 0 := by
    rw [Nat.add_mod, Nat.mod_mod, ← e1, ← Nat.add_mod]; exact h
  have hb := bound_gen (w := W) (q := q % W) (n := n0 % W) (l := l0 % W) (Nat.mod_lt _ (by decide)) (Nat.mod_lt _ (by decide)) (Nat.mod_lt _ (by decide))
  have hl : l0 % W < W := Nat.mod_lt _ (by decide)
  rw [e1, hz]
  generalize q % W * (n0 % W) = u at *
  generalize l0 % W = l at *
  have e3 : W * (u / W + (u % W + l + 0) / W) = l + u := by simp only [W] at *; omega
  refine ⟨e3, ?_⟩
  have e4 : u / W + (u % W + l + 0) / W = (l + u) / W := by simp only [W] at *; omega
  rw [e4]; exact hb
theorem low_zero {w n0 l l0 : Nat} (h : (n0 % w * (l % w) + 1) % w = 0) : (l0 + l0 * l * n0) % w = 0 := by
  have e : l0 + l0 * l * n0 = l0 * (n0 * l + 1) := by rw [Nat.mul_add, Nat.mul_one, Nat.mul_assoc, Nat.mul_comm l n0, Nat.add_comm]
  have h2 : (n0 * l + 1) % w = 0 := by rw [Nat.add_mod, Nat.mul_mod, ← Nat.add_mod]; exact h
  rw [e, Nat.mul_mod, h2, Nat.mul_zero, Nat.zero_mod]
theorem sB7_eq (t : Nat → Nat) : sB W t 7 = t 0 % W + W * (t 1 % W + W * (t 2 % W + W * (t 3 % W + W * (t 4 % W + W * (t 5 % W + W * (t 6 % W)))))) := by
  simp only [sB, W]
  generalize t 0 % 18446744073709551616 = x0
  generalize t 1 % 18446744073709551616 = x1
  generalize t 2 % 18446744073709551616 = x2
  generalize t 3 % 18446744073709551616 = x3
  generalize t 4 % 18446744073709551616 = x4
  generalize t 5 % 18446744073709551616 = x5
  generalize t 6 % 18446744073709551616 = x6
  omega
theorem sB7 {f Mm : Nat → Nat} (h : ∀ j, j < 7 → f j = Mm j) : sB W f 7 = sB W Mm 7 := sB_congr fun j hj => by rw [h j hj]
theorem sB7_nv {t : Nat → Nat} (h : sB W t 7 < R) : sB W t 7 = nv t := by
  have e := sB7_eq t
  have h6 : t 6 % W = 0 := by
    rw [e] at h
    simp only [R, W] at *
    omega
  rw [e, h6]
  unfold nv
  rfl

theorem mont_row {x l : Nat} {b t n C L D Mm : Nat → Nat} {S6 S7 q cc : Nat} (low : (n 0 % W * (l % W) + 1) % W = 0) (hC : C = crow x b t) (hL : L = fun k => mLo x (b k) (t k) (C k)) (hS6 : S6 = t 6 + C 6 + 0)
    (hS7 : S7 = (t 6 % W + C 6 % W + 0 % W) / W) (hq : q = L 0 * l) (hD : D = drow q n L) (hM : Mm = mrow q n L D S6 S7) (hcc : cc = (S6 % W + D 6 % W + 0 % W) / W) :
    ∃ T2, T2 = sB W Mm 7 ∧ T2 * W = (sB W t 7 + x % W * nv b) + q % W * nv n := by
  have cs : ∀ k, C (k + 1) = mHi x (b k) (t k) (C k) := fun k => by rw [hC]; rfl
  have ls : ∀ k, L k = mLo x (b k) (t k) (C k) := fun k => by rw [hL]
  have c0 : C 0 = 0 := by rw [hC]; rfl
  have b0 : C 0 < W := by rw [c0]; decide
  have s0 := m_step (x := x) (y := b 0) (p := t 0) b0
  rw [← cs, ← ls] at s0
  have s1 := m_step (x := x) (y := b 1) (p := t 1) s0.2
  rw [← cs, ← ls] at s1
  have s2 := m_step (x := x) (y := b 2) (p := t 2) s1.2
  rw [← cs, ← ls] at s2
  have s3 := m_step (x := x) (y := b 3) (p := t 3) s2.2
  rw [← cs, ← ls] at s3
  have s4 := m_step (x := x) (y := b 4) (p := t 4) s3.2
  rw [← cs, ← ls] at s4
  have s5 := m_step (x := x) (y := b 5) (p := t 5) s4.2
  rw [← cs, ← ls] at s5
  have s6 := top_step (x := t 6) s5.2
  rw [← hS6, ← hS7] at s6
  rw [c0] at s0
  have f0 := first_step (q := q) (n0 := n 0) (l0 := L 0) (by rw [hq]; exact low_zero low)
  have d1 : D 1 = q % W * (n 0 % W) / W + (q * n 0 % W + L 0 % W + 0 % W) / W := by rw [hD]; rfl
  rw [← d1] at f0
  have ds : ∀ k, D (k + 2) = mHi q (n (k + 1)) (L (k + 1)) (D (k + 1)) := fun k => by rw [hD]; rfl
  have f1 := m_step (x := q) (y := n 1) (p := L 1) f0.2
  have f2 := m_step (x := q) (y := n 2) (p := L 2) (c := D 2) (by rw [ds 0]; exact f1.2)
  have f3 := m_step (x := q) (y := n 3) (p := L 3) (c := D 3) (by rw [ds 1]; exact f2.2)
  have f4 := m_step (x := q) (y := n 4) (p := L 4) (c := D 4) (by rw [ds 2]; exact f3.2)
  have f5 := m_step (x := q) (y := n 5) (p := L 5) (c := D 5) (by rw [ds 3]; exact f4.2)
  have f6 := top_step (x := S6) (c := D 6) (by rw [ds 4]; exact f5.2)
  have g1 := f1.1
  have g2 := f2.1
  have g3 := f3.1
  have g4 := f4.1
  have g5 := f5.1
  rw [← ds 0] at g1
  rw [← ds 1] at g2
  rw [← ds 2] at g3
  rw [← ds 3] at g4
  rw [← ds 4] at g5
  have m0 : Mm 0 = mLo q (n 1) (L 1) (D 1) := by rw [hM]; rfl
  have m1 : Mm 1 = mLo q (n 2) (L 2) (D 2) := by rw [hM]; rfl
  have m2 : Mm 2 = mLo q (n 3) (L 3) (D 3) := by rw [hM]; rfl
  have m3 : Mm 3 = mLo q (n 4) (L 4) (D 4) := by rw [hM]; rfl
  have m4 : Mm 4 = mLo q (n 5) (L 5) (D 5) := by rw [hM]; rfl
  have m5 : Mm 5 = S6 + D 6 + 0 := by rw [hM]; rfl
  have m6 : Mm 6 = S7 + cc := by rw [hM, hcc]; rfl
  rw [← m0] at g1
  rw [← m1] at g2
  rw [← m2] at g3
  rw [← m3] at g4
  rw [← m4] at g5
  have h6 := f6.1
  rw [← m5, ← hcc] at h6
  have h7 : Mm 6 % W = S7 + cc := by
    rw [m6]
    have h8 := s6.2
    have h9 := f6.2
    rw [← hcc] at h9
    exact Nat.mod_eq_of_lt (by simp only [W]; omega)
  refine ⟨_, rfl, ?_⟩
  rw [sB7_eq Mm, sB7_eq t]
  have hw := mont_words (x := x % W) s0.1 s1.1 s2.1 s3.1 s4.1 s5.1 s6.1
  have hm := mont_less (q := q % W) f0.1 g1 g2 g3 g4 g5 h6 h7
  unfold nv
  rw [hm, hw]
end Go.Rq
