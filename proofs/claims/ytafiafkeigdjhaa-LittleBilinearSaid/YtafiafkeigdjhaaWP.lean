/- Primes: Fermat, also for Gauss's numbers; what makes a number a prime. -/
import Derived.Test.YtafiafkeigdjhaaWM
namespace Go.Rq
open Go

/-! primes -/
def Pr (n : Nat) : Prop := 1 < n ∧ ∀ d, d ∣ n → d = 1 ∨ d = n
theorem Pr.cop {s m : Nat} (h : Pr s) (h0 : 0 < m) (h1 : m < s) : Nat.Coprime s m := by
  rcases h.2 _ (Nat.gcd_dvd_left s m) with e | e
  · exact e
  · have := Nat.le_of_dvd h0 (Nat.gcd_dvd_right s m)
    omega
theorem Pr.cop' {s m : Nat} (h : Pr s) (h0 : ¬ s ∣ m) : Nat.Coprime s m := by
  rcases h.2 _ (Nat.gcd_dvd_left s m) with e | e
  · exact e
  · exact absurd (e ▸ Nat.gcd_dvd_right s m) h0
theorem pr_div : ∀ n : Nat, 1 < n → ∃ s, Pr s ∧ s ∣ n := by
  intro n
  induction n using Nat.strongRecOn with
  | ind n ih =>
    intro h
    by_cases hp : Pr n
    · exact ⟨n, hp, Nat.dvd_refl n⟩
    · have : ∃ d, d ∣ n ∧ d ≠ 1 ∧ d ≠ n := by
        refine Classical.byContradiction fun hc => hp ⟨h, fun d hd => ?_⟩
        refine Classical.byContradiction fun hh => hc ⟨d, hd, fun e => hh (.inl e), fun e => hh (.inr e)⟩
      obtain ⟨d, hd, h1, hn⟩ := this
      have hle := Nat.le_of_dvd (by omega) hd
      have h0 : d ≠ 0 := fun e => by rw [e] at hd; have := Nat.eq_zero_of_zero_dvd hd; omega
      obtain ⟨s, hs, hsd⟩ := ih d (by omega) (by omega)
      exact ⟨s, hs, Nat.dvd_trans hsd hd⟩
theorem pr_of {n : Nat} (h : 1 < n) (hs : ∀ s, Pr s → s ∣ n → n < s * s) : Pr n := by
  refine ⟨h, fun d hd => ?_⟩
  refine Classical.byContradiction fun hc => ?_
  obtain ⟨e, he⟩ := hd
  have hd1 : d ≠ 1 := fun e => hc (.inl e)
  have hdn : d ≠ n := fun e => hc (.inr e)
  have hd0 : d ≠ 0 := fun e' => by rw [e', Nat.zero_mul] at he; omega
  have he0 : e ≠ 0 := fun e' => by rw [e', Nat.mul_zero] at he; omega
  have he1 : e ≠ 1 := fun e' => by rw [e', Nat.mul_one] at he; exact hdn he.symm
  obtain ⟨s, hs1, hs2⟩ := pr_div d (by omega)
  obtain ⟨t, ht1, ht2⟩ := pr_div e (by omega)
  have k1 := hs s hs1 (Nat.dvd_trans hs2 ⟨e, he⟩)
  have k2 := hs t ht1 (Nat.dvd_trans ht2 ⟨d, by rw [he, Nat.mul_comm]⟩)
  have l1 := Nat.le_of_dvd (by omega) hs2
  have l2 := Nat.le_of_dvd (by omega) ht2
  have m1 : s * s ≤ d * d := Nat.mul_le_mul l1 l1
  have m2 : t * t ≤ e * e := Nat.mul_le_mul l2 l2
  rcases Nat.le_total d e with hde | hde
  · have : d * d ≤ d * e := Nat.mul_le_mul_left _ hde
    omega
  · have : e * e ≤ d * e := Nat.mul_le_mul_right _ hde
    omega

/-! numbers of pairs -/
def chs : Nat → Nat → Nat
  | _, 0 => 1
  | 0, _ + 1 => 0
  | n + 1, k + 1 => chs n k + chs n (k + 1)
theorem chs_zero (n : Nat) : chs n 0 = 1 := by cases n <;> rfl
theorem chs_big : ∀ {n k : Nat}, n < k → chs n k = 0
  | 0, k + 1, _ => rfl
  | n + 1, k + 1, h => by
    show chs n k + chs n (k + 1) = 0
    rw [chs_big (by omega), chs_big (by omega)]
theorem chs_self : ∀ n : Nat, chs n n = 1
  | 0 => rfl
  | n + 1 => by
    show chs n n + chs n (n + 1) = 1
    rw [chs_self n, chs_big (by omega)]
theorem chs_mul : ∀ n k : Nat, (k + 1) * chs (n + 1) (k + 1) = (n + 1) * chs n k
  | 0, 0 => rfl
  | 0, k + 1 => by
    show (k + 1 + 1) * (chs 0 (k + 1) + chs 0 (k + 2)) = (0 + 1) * chs 0 (k + 1)
    simp [chs]
  | n + 1, 0 => by
    have := chs_mul n 0
    show (0 + 1) * (chs (n + 1) 0 + chs (n + 1) 1) = (n + 1 + 1) * chs (n + 1) 0
    simp only [chs_zero, Nat.zero_add] at *
    omega
  | n + 1, k + 1 => by
    have h1 := chs_mul n k
    have h2 := chs_mul n (k + 1)
    have e3 : chs (n + 1) (k + 1) = chs n k + chs n (k + 1) := rfl
    show (k + 1 + 1) * (chs (n + 1) (k + 1) + chs (n + 1) (k + 2)) = (n + 1 + 1) * chs (n + 1) (k + 1)
    have e4 : (k + 1 + 1) * chs (n + 1) (k + 2) = (n + 1) * chs n (k + 1) := h2
    rw [Nat.mul_add, e4, Nat.add_mul (k + 1) 1, h1, Nat.one_mul, Nat.add_mul (n + 1) 1, Nat.one_mul]
    rw [show (n + 1) * chs (n + 1) (k + 1) = (n + 1) * chs n k + (n + 1) * chs n (k + 1) by rw [e3, Nat.mul_add]]
    omega
theorem chs_dvd {s k : Nat} (h : Pr s) (hk : k + 1 < s) : s ∣ chs s (k + 1) := by
  obtain ⟨n, rfl⟩ : ∃ n, s = n + 1 := ⟨s - 1, by have := h.1; omega⟩
  refine Nat.Coprime.dvd_of_dvd_mul_left (h.cop (m := k + 1) (by omega) hk) ⟨chs n k, chs_mul n k⟩

/-! Gauss's numbers -/
structure GI where
  re : Int
  im : Int
theorem GI.ext {x y : GI} (h1 : x.re = y.re) (h2 : x.im = y.im) : x = y := by cases x; cases y; simp_all
namespace GI
def add (x y : GI) : GI := ⟨x.re + y.re, x.im + y.im⟩
def mul (x y : GI) : GI := ⟨x.re * y.re - x.im * y.im, x.re * y.im + x.im * y.re⟩
def sc (c : Int) (x : GI) : GI := ⟨c * x.re, c * x.im⟩
def one : GI := ⟨1, 0⟩
def cj (x : GI) : GI := ⟨x.re, -x.im⟩
def pow (x : GI) : Nat → GI
  | 0 => one
  | n + 1 => mul x (pow x n)
theorem mul_comm (x y : GI) : mul x y = mul y x := GI.ext (by simp only [mul]; grind) (by simp only [mul]; grind)
theorem mul_assoc (x y z : GI) : mul (mul x y) z = mul x (mul y z) := GI.ext (by simp only [mul]; grind) (by simp only [mul]; grind)
theorem one_mul (x : GI) : mul one x = x := GI.ext (by simp only [mul, one]; grind) (by simp only [mul, one]; grind)
theorem mul_one (x : GI) : mul x one = x := by rw [mul_comm, one_mul]
theorem pow_add (x : GI) (a : Nat) : ∀ b, pow x (a + b) = mul (pow x a) (pow x b)
  | 0 => by rw [Nat.add_zero]; exact (mul_one _).symm
  | b + 1 => by
    show mul x (pow x (a + b)) = mul (pow x a) (mul x (pow x b))
    rw [pow_add x a b, ← mul_assoc, ← mul_assoc, mul_comm x]
theorem pow_one (x : GI) : pow x 1 = x := mul_one x
theorem one_pow : ∀ n, pow one n = one
  | 0 => rfl
  | n + 1 => by show mul one (pow one n) = one; rw [one_pow n, one_mul]
theorem pow_mul (x : GI) (a : Nat) : ∀ b, pow x (a * b) = pow (pow x a) b
  | 0 => rfl
  | b + 1 => by
    rw [Nat.mul_succ, Nat.add_comm, pow_add, pow_mul x a b]; rfl
theorem mul_pow (x y : GI) : ∀ n, pow (mul x y) n = mul (pow x n) (pow y n)
  | 0 => (mul_one one).symm
  | n + 1 => by
    show mul (mul x y) (pow (mul x y) n) = mul (mul x (pow x n)) (mul y (pow y n))
    rw [mul_pow x y n, mul_assoc, mul_assoc, ← mul_assoc y, mul_comm y, mul_assoc (pow x n)]

/-! the sum of powers -/
def bT (x y : GI) (n : Nat) : Nat → GI
  | 0 => one
  | k + 1 => add (mul y (bT x y n k)) (sc (chs n (k + 1)) (pow x (k + 1)))
theorem bT_step (x y : GI) (n : Nat) : ∀ k, bT x y (n + 1) (k + 1) = add (bT x y n (k + 1)) (mul x (bT x y n k))
  | 0 => by
    simp only [bT, pow]
    rw [show chs (n + 1) (0 + 1) = chs n 0 + chs n 1 from rfl, chs_zero]
    refine GI.ext ?_ ?_ <;> simp only [add, mul, sc, one, Int.natCast_add] <;> grind
  | k + 1 => by
    have ih := bT_step x y n k
    show add (mul y (bT x y (n + 1) (k + 1))) (sc (chs (n + 1) (k + 2)) (pow x (k + 2))) = add (add (mul y (bT x y n (k + 1))) (sc (chs n (k + 2)) (pow x (k + 2)))) (mul x (bT x y n (k + 1)))
    rw [ih]
    have e1 : bT x y n (k + 1) = add (mul y (bT x y n k)) (sc (chs n (k + 1)) (pow x (k + 1))) := rfl
    have e2 : chs (n + 1) (k + 2) = chs n (k + 1) + chs n (k + 2) := rfl
    have e3 : pow x (k + 2) = mul x (pow x (k + 1)) := rfl
    rw [e2, e3]
    generalize pow x (k + 1) = P at *
    generalize bT x y n k = B at *
    generalize bT x y n (k + 1) = C at *
    generalize chs n (k + 1) = c at *
    generalize chs n (k + 2) = d at *
    subst e1
    refine GI.ext ?_ ?_ <;> simp only [add, mul, sc, Int.natCast_add] <;> grind
theorem bT_pow (x y : GI) : ∀ n, bT x y n n = pow (add x y) n
  | 0 => rfl
  | n + 1 => by
    rw [bT_step]
    show add (add (mul y (bT x y n n)) (sc (chs n (n + 1)) (pow x (n + 1)))) (mul x (bT x y n n)) = mul (add x y) (pow (add x y) n)
    rw [chs_big (by omega), bT_pow x y n]
    generalize pow (add x y) n = P
    generalize pow x (n + 1) = Q
    refine GI.ext ?_ ?_ <;> simp only [add, mul, sc] <;> grind

/-! by a modulus -/
def cg (s : Nat) (x y : GI) : Prop := ∃ K : GI, x = add y (sc s K)
theorem cg_refl (s : Nat) (x : GI) : cg s x x := ⟨⟨0, 0⟩, GI.ext (by simp [add, sc]) (by simp [add, sc])⟩
theorem cg_symm {s : Nat} {x y : GI} (h : cg s x y) : cg s y x := by
  obtain ⟨K, rfl⟩ := h
  exact ⟨⟨-K.re, -K.im⟩, GI.ext (by simp only [add, sc]; grind) (by simp only [add, sc]; grind)⟩
theorem cg_trans {s : Nat} {x y z : GI} (h : cg s x y) (h2 : cg s y z) : cg s x z := by
  obtain ⟨K, rfl⟩ := h
  obtain ⟨L, rfl⟩ := h2
  exact ⟨add K L, GI.ext (by simp only [add, sc]; grind) (by simp only [add, sc]; grind)⟩
theorem cg_mul {s : Nat} {x y z w : GI} (h : cg s x y) (h2 : cg s z w) : cg s (mul x z) (mul y w) := by
  obtain ⟨K, rfl⟩ := h
  obtain ⟨L, rfl⟩ := h2
  exact ⟨add (mul K w) (add (mul y L) (sc s (mul K L))), GI.ext (by simp only [add, sc, mul]; grind) (by simp only [add, sc, mul]; grind)⟩
theorem cg_add {s : Nat} {x y z w : GI} (h : cg s x y) (h2 : cg s z w) : cg s (add x z) (add y w) := by
  obtain ⟨K, rfl⟩ := h
  obtain ⟨L, rfl⟩ := h2
  exact ⟨add K L, GI.ext (by simp only [add, sc]; grind) (by simp only [add, sc]; grind)⟩
theorem cg_pow {s : Nat} {x y : GI} (h : cg s x y) : ∀ n, cg s (pow x n) (pow y n)
  | 0 => cg_refl s one
  | n + 1 => cg_mul h (cg_pow h n)
theorem cg_dvd {s n : Nat} (hd : s ∣ n) {x y : GI} (h : cg n x y) : cg s x y := by
  obtain ⟨m, rfl⟩ := hd
  obtain ⟨K, rfl⟩ := h
  exact ⟨sc m K, GI.ext (by simp only [add, sc, Int.natCast_mul]; grind) (by simp only [add, sc, Int.natCast_mul]; grind)⟩

theorem bT_cg {s : Nat} (hs : Pr s) (x y : GI) : ∀ k, k < s → cg s (bT x y s k) (pow y k)
  | 0, _ => cg_refl s one
  | k + 1, h => by
    have ih := bT_cg hs x y k (by omega)
    obtain ⟨m, hm⟩ := chs_dvd hs h
    have e : bT x y s (k + 1) = add (mul y (bT x y s k)) (sc (chs s (k + 1)) (pow x (k + 1))) := rfl
    rw [e, hm]
    refine cg_trans (cg_add (cg_mul (cg_refl s y) ih) (w := ⟨0, 0⟩) ⟨sc m (pow x (k + 1)), ?_⟩) ⟨⟨0, 0⟩, ?_⟩
    · refine GI.ext ?_ ?_ <;> simp only [add, sc, Int.natCast_mul] <;> grind
    · refine GI.ext ?_ ?_ <;> simp only [add, sc, pow] <;> grind
theorem frob {s : Nat} (hs : Pr s) (x y : GI) : cg s (pow (add x y) s) (add (pow x s) (pow y s)) := by
  obtain ⟨n, rfl⟩ : ∃ n, s = n + 1 := ⟨s - 1, by have := hs.1; omega⟩
  rw [← bT_pow]
  show cg (n + 1) (add (mul y (bT x y (n + 1) n)) (sc (chs (n + 1) (n + 1)) (pow x (n + 1)))) _
  rw [chs_self]
  refine cg_trans (cg_add (cg_mul (cg_refl _ y) (bT_cg hs x y n (by omega))) (cg_refl _ _)) ⟨⟨0, 0⟩, ?_⟩
  show add (pow y (n + 1)) _ = _
  refine GI.ext ?_ ?_ <;> simp only [add, sc] <;> grind
def nat (a : Nat) : GI := ⟨a, 0⟩
theorem fermat {s : Nat} (hs : Pr s) : ∀ a : Nat, cg s (pow (nat a) s) (nat a)
  | 0 => by
    obtain ⟨n, rfl⟩ : ∃ n, s = n + 1 := ⟨s - 1, by have := hs.1; omega⟩
    have : pow (nat 0) (n + 1) = nat 0 := by
      show mul (nat 0) (pow (nat 0) n) = nat 0
      refine GI.ext ?_ ?_ <;> simp [mul, nat]
    rw [this]; exact cg_refl _ _
  | a + 1 => by
    have e : nat (a + 1) = add (nat a) one := by refine GI.ext ?_ ?_ <;> simp [add, nat, one]
    rw [e]
    refine cg_trans (frob hs (nat a) one) ?_
    rw [one_pow]
    exact cg_add (fermat hs a) (cg_refl _ _)
def gi : GI := ⟨0, 1⟩
theorem gi_pow : ∀ k : Nat, pow gi (4 * k) = one
  | 0 => rfl
  | k + 1 => by
    rw [show 4 * (k + 1) = 4 + 4 * k by omega, pow_add, gi_pow k]
    rfl
theorem gfrob {s : Nat} (hs : Pr s) (u v : Nat) : (s % 4 = 1 → cg s (pow ⟨u, v⟩ s) ⟨u, v⟩) ∧ (s % 4 = 3 → cg s (pow ⟨u, v⟩ s) (cj ⟨u, v⟩)) := by
  have e : (⟨u, v⟩ : GI) = add (nat u) (mul (nat v) gi) := by refine GI.ext ?_ ?_ <;> simp [add, mul, nat, gi]
  have h1 : cg s (pow ⟨u, v⟩ s) (add (nat u) (mul (nat v) (pow gi s))) := by
    rw [e]
    refine cg_trans (frob hs _ _) (cg_add (fermat hs u) ?_)
    rw [mul_pow]
    exact cg_mul (fermat hs v) (cg_refl _ _)
  constructor
  · intro h4
    rw [show s = 4 * (s / 4) + 1 by omega, pow_add gi, gi_pow, one_mul] at h1
    rw [← show s = 4 * (s / 4) + 1 by omega] at h1
    have : add (nat u) (mul (nat v) (pow gi 1)) = ⟨u, v⟩ := by rw [e]; rfl
    rwa [this] at h1
  · intro h4
    rw [show s = 4 * (s / 4) + 3 by omega, pow_add gi, gi_pow, one_mul] at h1
    rw [← show s = 4 * (s / 4) + 3 by omega] at h1
    have : add (nat u) (mul (nat v) (pow gi 3)) = cj ⟨u, v⟩ := by
      refine GI.ext ?_ ?_ <;> simp [add, mul, nat, gi, pow, one, cj]
    rwa [this] at h1
/-- Powers that are 1. -/
theorem pow_gcd {s : Nat} (x : GI) : ∀ a b : Nat, cg s (pow x a) one → cg s (pow x b) one → cg s (pow x (Nat.gcd a b)) one := by
  intro a b
  induction a, b using Nat.gcd.induction with
  | H0 b => intro _ h; rw [Nat.gcd_zero_left]; exact h
  | H1 a b ha ih =>
    intro h1 h2
    rw [Nat.gcd_rec]
    refine ih ?_ h1
    have e : pow x b = mul (pow (pow x a) (b / a)) (pow x (b % a)) := by rw [← pow_mul, ← pow_add, Nat.div_add_mod]
    rw [e] at h2
    have h3 : cg s (mul (pow (pow x a) (b / a)) (pow x (b % a))) (mul one (pow x (b % a))) := by
      have := cg_pow h1 (b / a)
      rw [one_pow] at this
      exact cg_mul this (cg_refl _ _)
    rw [one_mul] at h3
    exact cg_trans (cg_symm h3) h2
theorem ord_dvd {s q m : Nat} (hq : Pr q) (x : GI) (h1 : cg s (pow x q) one) (hm : cg s (pow x m) one) (hn : ¬ cg s x one) : q ∣ m := by
  refine Classical.byContradiction fun hd => hn ?_
  have := pow_gcd x q m h1 hm
  rw [show Nat.gcd q m = 1 from hq.cop' hd, pow_one] at this
  exact this
end GI
end Go.Rq
