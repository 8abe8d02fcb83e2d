/- How a number is shown to be a prime. -/
import Derived.Test.YtafiafkeigdjhaaWP
namespace Go.Rq
open Go

theorem Pr.two {s n : Nat} (_ : Pr s) (hd : s ∣ n) (hn : n % 2 = 1) : s % 4 = 1 ∨ s % 4 = 3 := by
  have : s % 2 ≠ 0 := fun e => by
    have h2 : 2 ∣ n := Nat.dvd_trans (Nat.dvd_of_mod_eq_zero e) hd
    have := Nat.mod_eq_zero_of_dvd h2
    omega
  omega

/-! pairs by a modulus -/
def gmM (n : Nat) (x y : Nat × Nat) : Nat × Nat := ((x.1 * y.1 + (n - x.2 * y.2 % n)) % n, (x.1 * y.2 + x.2 * y.1) % n)
def gpM (n : Nat) (x : Nat × Nat) : Nat → Nat → Nat × Nat
  | 0, _ => (1, 0)
  | k + 1, e => bif Nat.beq (e % 2) 1 then gmM n (gmM n (gpM n x k (e / 2)) (gpM n x k (e / 2))) x else gmM n (gpM n x k (e / 2)) (gpM n x k (e / 2))
def toG (x : Nat × Nat) : GI := ⟨x.1, x.2⟩
theorem gmM_cg {n : Nat} (hn : 0 < n) (x y : Nat × Nat) : GI.cg n (toG (gmM n x y)) (GI.mul (toG x) (toG y)) := by
  obtain ⟨a, b⟩ := x
  obtain ⟨c, d⟩ := y
  unfold gmM toG
  simp only
  refine ⟨⟨1 + ((b * d / n : Nat) : Int) - (((a * c + (n - b * d % n)) / n : Nat) : Int), - (((a * d + b * c) / n : Nat) : Int)⟩, ?_⟩
  have h1 := Nat.div_add_mod (a * c + (n - b * d % n)) n
  have h2 := Nat.div_add_mod (b * d) n
  have h3 := Nat.div_add_mod (a * d + b * c) n
  have h4 : b * d % n ≤ n := Nat.le_of_lt (Nat.mod_lt _ hn)
  refine GI.ext ?_ ?_
  · simp only [GI.add, GI.sc, GI.mul]
    generalize (a * c + (n - b * d % n)) / n = q1 at *
    generalize (a * c + (n - b * d % n)) % n = r1 at *
    generalize b * d / n = q2 at *
    generalize b * d % n = r2 at *
    have e1 : (n : Int) * q1 + r1 = a * c + (n - r2) := by
      rw [← Int.natCast_sub h4]
      exact_mod_cast h1
    have e2 : (n : Int) * q2 + r2 = b * d := by exact_mod_cast h2
    grind
  · simp only [GI.add, GI.sc, GI.mul]
    generalize (a * d + b * c) / n = q1 at *
    generalize (a * d + b * c) % n = r1 at *
    have e1 : (n : Int) * q1 + r1 = a * d + b * c := by exact_mod_cast h3
    grind
theorem gpM_cg {n : Nat} (hn : 0 < n) (x : Nat × Nat) : ∀ k e, e < 2 ^ k → GI.cg n (toG (gpM n x k e)) (GI.pow (toG x) e)
  | 0, e, h => by
    have : e = 0 := by simpa using h
    subst this
    exact GI.cg_refl _ _
  | k + 1, e, h => by
    have ih := gpM_cg hn x k (e / 2) (by rw [Nat.pow_succ] at h; omega)
    have h2 : GI.cg n (toG (gmM n (gpM n x k (e / 2)) (gpM n x k (e / 2)))) (GI.pow (toG x) (e / 2 + e / 2)) := by
      rw [GI.pow_add]
      exact GI.cg_trans (gmM_cg hn _ _) (GI.cg_mul ih ih)
    show GI.cg n (toG (bif Nat.beq (e % 2) 1 then _ else _)) _
    cases hb : Nat.beq (e % 2) 1
    · have : e % 2 ≠ 1 := fun e' => by rw [← Nat.beq_eq, hb] at e'; cases e'
      rw [cond_false]
      rwa [show e / 2 + e / 2 = e by omega] at h2
    · rw [Nat.beq_eq] at hb
      rw [cond_true]
      have e1 : GI.pow (toG x) e = GI.mul (GI.pow (toG x) (e / 2 + e / 2)) (toG x) := by
        rw [GI.mul_comm]
        show _ = GI.pow (toG x) (e / 2 + e / 2 + 1)
        rw [show e / 2 + e / 2 + 1 = e by omega]
      rw [e1]
      exact GI.cg_trans (gmM_cg hn _ _) (GI.cg_mul h2 (GI.cg_refl _ _))

/-- A row of a proof: u + v i to the power q is 1, less 1 it has an inverse (t inverts its norm). -/
def pRow (n k q u v t : Nat) : Bool :=
  Nat.blt q (2 ^ k) && Nat.beq (gpM n (u, v) k q).1 1 && Nat.beq (gpM n (u, v) k q).2 0 && Nat.beq (t * ((u + (n - 1)) * (u + (n - 1)) + v * v) % n) 1
theorem row_ord {n k q u v t s m : Nat} (hn : 1 < n) (hq : Pr q) (h : pRow n k q u v t = true) (hs : Pr s) (hd : s ∣ n)
    (hm : GI.cg s (GI.pow ⟨u, v⟩ m) GI.one) : GI.cg s (GI.pow ⟨u, v⟩ q) GI.one ∧ q ∣ m := by
  unfold pRow at h
  simp only [Bool.and_eq_true, Nat.beq_eq, Nat.blt_eq] at h
  obtain ⟨⟨⟨h1, h2⟩, h3⟩, h4⟩ := h
  have hp := gpM_cg (n := n) (by omega) (u, v) k q h1
  have e : toG (gpM n (u, v) k q) = GI.one := by
    unfold toG; rw [h2, h3]; rfl
  rw [e] at hp
  have hq1 : GI.cg s (GI.pow ⟨u, v⟩ q) GI.one := GI.cg_dvd hd (GI.cg_symm hp)
  refine ⟨hq1, GI.ord_dvd hq ⟨u, v⟩ hq1 hm fun hc => ?_⟩
  obtain ⟨K, hK⟩ := hc
  obtain ⟨m', rfl⟩ := hd
  have r1 : (u : Int) = 1 + s * K.re := congrArg GI.re hK
  have r2 : (v : Int) = 0 + s * K.im := congrArg GI.im hK
  have hmod := Nat.div_add_mod (t * ((u + (s * m' - 1)) * (u + (s * m' - 1)) + v * v)) (s * m')
  rw [h4] at hmod
  generalize t * ((u + (s * m' - 1)) * (u + (s * m' - 1)) + v * v) / (s * m') = Q at hmod
  have hI : ((s : Int) * m') * Q + 1 = t * ((u + (s * m' - 1)) * (u + (s * m' - 1)) + v * v) := by
    have hle : 1 ≤ s * m' := by omega
    have hc : ((s * m' - 1 : Nat) : Int) = (s : Int) * m' - 1 := by
      rw [Int.natCast_sub hle, Int.natCast_mul]; rfl
    rw [← hc]
    exact_mod_cast hmod
  have hdv : (s : Int) ∣ 1 := by
    refine ⟨(t : Int) * ((K.re + m') * (s * K.re + s * m') + K.im * (s * K.im)) - m' * Q, ?_⟩
    rw [r1, r2] at hI
    grind
  have h1s := Int.le_of_dvd (by omega) hdv
  have := hs.1
  omega

/-! the two proofs -/
theorem row_p {n k q u t s : Nat} (hn : 1 < n) (h2 : n % 2 = 1) (hq : Pr q) (h : pRow n k q u 0 t = true) (hs : Pr s) (hd : s ∣ n) : q ∣ s - 1 := by
  have hf : GI.cg s (GI.pow ⟨u, ((0 : Nat) : Int)⟩ s) ⟨u, ((0 : Nat) : Int)⟩ := by
    rcases hs.two hd h2 with h4 | h4
    · exact (GI.gfrob hs u 0).1 h4
    · have := (GI.gfrob hs u 0).2 h4
      have e : GI.cj ⟨u, ((0 : Nat) : Int)⟩ = ⟨u, ((0 : Nat) : Int)⟩ := by refine GI.ext ?_ ?_ <;> simp [GI.cj]
      rw [e] at this
      exact this
  have hq1 := (row_ord (v := 0) (m := 0) hn hq h hs hd (GI.cg_refl _ _)).1
  refine (row_ord (v := 0) (m := s - 1) hn hq h hs hd ?_).2
  have hs1 := hs.1
  have hq0 := hq.1
  have e1 : GI.pow ⟨u, ((0 : Nat) : Int)⟩ q = GI.mul ⟨u, ((0 : Nat) : Int)⟩ (GI.pow ⟨u, ((0 : Nat) : Int)⟩ (q - 1)) := by
    show _ = GI.pow _ (q - 1 + 1)
    rw [show q - 1 + 1 = q by omega]
  have e2 : GI.pow ⟨u, ((0 : Nat) : Int)⟩ s = GI.mul ⟨u, ((0 : Nat) : Int)⟩ (GI.pow ⟨u, ((0 : Nat) : Int)⟩ (s - 1)) := by
    show _ = GI.pow _ (s - 1 + 1)
    rw [show s - 1 + 1 = s by omega]
  rw [e1] at hq1
  rw [e2] at hf
  generalize GI.pow ⟨u, ((0 : Nat) : Int)⟩ (s - 1) = P at *
  generalize GI.pow ⟨u, ((0 : Nat) : Int)⟩ (q - 1) = Q at *
  have h3 : GI.cg s (GI.mul (GI.mul ⟨u, ((0 : Nat) : Int)⟩ P) Q) (GI.mul ⟨u, ((0 : Nat) : Int)⟩ Q) := GI.cg_mul hf (GI.cg_refl _ _)
  have e3 : GI.mul (GI.mul ⟨u, ((0 : Nat) : Int)⟩ P) Q = GI.mul P (GI.mul ⟨u, ((0 : Nat) : Int)⟩ Q) := by
    rw [GI.mul_comm ⟨u, ((0 : Nat) : Int)⟩ P, GI.mul_assoc]
  rw [e3] at h3
  have h4 := GI.cg_trans (GI.cg_symm (GI.cg_mul (GI.cg_refl s P) hq1)) (GI.cg_trans h3 hq1)
  rwa [GI.mul_one] at h4
theorem row_m {n k q u v t s : Nat} (hn : 1 < n) (hq : Pr q) (h : pRow n k q u v t = true) (hno : Nat.beq ((u * u + v * v) % n) 1 = true) (hs : Pr s) (hd : s ∣ n) :
    (s % 4 = 1 → q ∣ s - 1) ∧ (s % 4 = 3 → q ∣ s + 1) := by
  have hs1 := hs.1
  have hN : GI.cg s (GI.mul ⟨u, v⟩ (GI.cj ⟨u, v⟩)) GI.one := by
    rw [Nat.beq_eq] at hno
    have hmod := Nat.div_add_mod (u * u + v * v) n
    rw [hno] at hmod
    refine GI.cg_dvd hd ⟨⟨(((u * u + v * v) / n : Nat) : Int), 0⟩, ?_⟩
    generalize (u * u + v * v) / n = Q at *
    have hI : (n : Int) * Q + 1 = u * u + v * v := by exact_mod_cast hmod
    refine GI.ext ?_ ?_ <;> simp only [GI.mul, GI.cj, GI.add, GI.sc, GI.one] <;> grind
  have e2 : GI.pow ⟨u, v⟩ s = GI.mul ⟨u, v⟩ (GI.pow ⟨u, v⟩ (s - 1)) := by
    show _ = GI.pow _ (s - 1 + 1)
    rw [show s - 1 + 1 = s by omega]
  constructor
  · intro h4
    refine (row_ord (m := s - 1) hn hq h hs hd ?_).2
    have hf := (GI.gfrob hs u v).1 h4
    rw [e2] at hf
    generalize GI.pow ⟨(u : Int), v⟩ (s - 1) = P at *
    have h3 := GI.cg_mul hf (GI.cg_refl s (GI.cj ⟨u, v⟩))
    have e3 : GI.mul (GI.mul ⟨u, v⟩ P) (GI.cj ⟨u, v⟩) = GI.mul P (GI.mul ⟨u, v⟩ (GI.cj ⟨u, v⟩)) := by
      rw [GI.mul_comm ⟨u, v⟩ P, GI.mul_assoc]
    rw [e3] at h3
    have h5 := GI.cg_trans (GI.cg_symm (GI.cg_mul (GI.cg_refl s P) hN)) (GI.cg_trans h3 hN)
    rwa [GI.mul_one] at h5
  · intro h4
    refine (row_ord (m := s + 1) hn hq h hs hd ?_).2
    have hf := (GI.gfrob hs u v).2 h4
    show GI.cg s (GI.mul ⟨u, v⟩ (GI.pow ⟨u, v⟩ s)) GI.one
    exact GI.cg_trans (GI.cg_mul (GI.cg_refl s _) hf) hN
def lcmL : List Nat → Nat
  | [] => 1
  | q :: r => Nat.lcm q (lcmL r)
theorem lcmL_dvd {m : Nat} : ∀ {l : List Nat}, (∀ q ∈ l, q ∣ m) → lcmL l ∣ m
  | [], _ => Nat.one_dvd m
  | q :: _, h => Nat.lcm_dvd (h q (List.mem_cons_self ..)) (lcmL_dvd fun x hx => h x (List.mem_cons_of_mem _ hx))
def bigB (n : Nat) (l : List Nat) : Bool := Nat.beq (n % 2) 1 && Nat.blt 1 n && Nat.blt 1 (lcmL l) && Nat.blt n ((lcmL l - 1) * (lcmL l - 1))
theorem pock {n : Nat} (l : List Nat) (hb : bigB n l = true) (h : n % 2 = 1 → 1 < n → ∀ s, Pr s → s ∣ n → ∀ q ∈ l, q ∣ s - 1) : Pr n := by
  unfold bigB at hb
  simp only [Bool.and_eq_true, Nat.beq_eq, Nat.blt_eq] at hb
  obtain ⟨⟨⟨h2, h1⟩, hF⟩, hn⟩ := hb
  refine pr_of h1 fun s hs hd => ?_
  have hs1 := hs.1
  have hle := Nat.le_of_dvd (by omega) (lcmL_dvd (h h2 h1 s hs hd))
  have := Nat.mul_le_mul (show lcmL l - 1 ≤ s by omega) (show lcmL l - 1 ≤ s by omega)
  omega
theorem morr {n : Nat} (l : List Nat) (hb : bigB n l = true) (h : n % 2 = 1 → 1 < n → ∀ s, Pr s → s ∣ n → ∀ q ∈ l, (s % 4 = 1 → q ∣ s - 1) ∧ (s % 4 = 3 → q ∣ s + 1)) : Pr n := by
  unfold bigB at hb
  simp only [Bool.and_eq_true, Nat.beq_eq, Nat.blt_eq] at hb
  obtain ⟨⟨⟨h2, h1⟩, hF⟩, hn⟩ := hb
  refine pr_of h1 fun s hs hd => ?_
  have hs1 := hs.1
  have hle : lcmL l - 1 ≤ s := by
    rcases hs.two hd h2 with h4 | h4
    · have := Nat.le_of_dvd (by omega) (lcmL_dvd fun q hq => (h h2 h1 s hs hd q hq).1 h4)
      omega
    · have := Nat.le_of_dvd (by omega) (lcmL_dvd fun q hq => (h h2 h1 s hs hd q hq).2 h4)
      omega
  have := Nat.mul_le_mul hle hle
  omega
def triB (n : Nat) : Nat → Bool
  | 0 => true
  | k + 1 => bif Nat.beq (n % (k + 2)) 0 then false else triB n k
theorem triB_ok {n : Nat} : ∀ {k : Nat}, triB n k = true → ∀ d, 2 ≤ d → d ≤ k + 1 → n % d ≠ 0
  | 0, _, d, h1, h2 => by omega
  | k + 1, h, d, h1, h2 => by
    unfold triB at h
    cases hb : Nat.beq (n % (k + 2)) 0
    · rw [hb, cond_false] at h
      by_cases e : d = k + 2
      · rw [e]; intro e'; rw [← Nat.beq_eq, hb] at e'; cases e'
      · exact triB_ok h d h1 (by omega)
    · rw [hb, cond_true] at h; cases h
theorem trial {n : Nat} (k : Nat) (h : (Nat.blt 1 n && Nat.blt n ((k + 2) * (k + 2)) && triB n k) = true) : Pr n := by
  simp only [Bool.and_eq_true, Nat.blt_eq] at h
  obtain ⟨⟨h1, h2⟩, h3⟩ := h
  refine pr_of h1 fun s hs hd => ?_
  have hs1 := hs.1
  by_cases hsk : s ≤ k + 1
  · exact absurd (Nat.mod_eq_zero_of_dvd hd) (triB_ok h3 s (by omega) hsk)
  · have := Nat.mul_le_mul (show k + 2 ≤ s by omega) (show k + 2 ≤ s by omega)
    omega

/-! Fermat -/
theorem fermat_nat {p : Nat} (hp : Pr p) {a : Nat} (ha : a % p ≠ 0) : a ^ (p - 1) % p = 1 := by
  have hp1 := hp.1
  have hpow : ∀ n : Nat, GI.pow (GI.nat a) n = GI.nat (a ^ n) := by
    intro n
    induction n with
    | zero => rfl
    | succ n ih =>
      show GI.mul (GI.nat a) (GI.pow (GI.nat a) n) = _
      rw [ih, Nat.pow_succ]
      refine GI.ext ?_ ?_ <;> simp [GI.mul, GI.nat, Int.mul_comm]
  have h := GI.fermat hp a
  rw [hpow] at h
  obtain ⟨K, hK⟩ := h
  have e : ((a ^ p : Nat) : Int) = a + p * K.re := congrArg GI.re hK
  have hd : (p : Int) ∣ ((a ^ p : Nat) : Int) - (a : Int) := ⟨K.re, by rw [e]; omega⟩
  have e2 : a ^ p = a * a ^ (p - 1) := by rw [Nat.mul_comm, ← Nat.pow_succ, show (p - 1).succ = p by omega]
  have h1 : 1 ≤ a ^ (p - 1) := Nat.one_le_pow _ _ (Nat.pos_of_ne_zero fun e => ha (by rw [e, Nat.zero_mod]))
  have e3 : ((a ^ p : Nat) : Int) - (a : Int) = ((a * (a ^ (p - 1) - 1) : Nat) : Int) := by
    rw [e2, Nat.mul_sub, Nat.mul_one, Int.natCast_sub (Nat.le_mul_of_pos_right _ h1)]
  rw [e3, Int.natCast_dvd_natCast] at hd
  have hc : Nat.Coprime p a := hp.cop' fun hd => ha (Nat.mod_eq_zero_of_dvd hd)
  obtain ⟨m, hm⟩ := hc.dvd_of_dvd_mul_left hd
  rw [show a ^ (p - 1) = 1 + p * m by omega, Nat.add_mul_mod_self_left, Nat.mod_eq_of_lt hp1]
end Go.Rq
