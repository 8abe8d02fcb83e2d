/- Powers and inverses by a modulus: plain facts. -/
import Derived.Test.YtcmaecfpggmcoaaWN3
namespace Go.Rq
open Go

/-- A power by a modulus. -/
def powM (N a e : Nat) : Nat := a ^ e % N
def PowI (N A e k o : Nat) : Prop := o = A ^ (e / 2 ^ k) * R % N
theorem PowI.start {N A e k : Nat} (h : e < 2 ^ k) : PowI N A e k (1 * R % N) := by
  unfold PowI
  rw [Nat.div_eq_of_lt h, Nat.pow_zero]
theorem PowI.step {N A e k o x : Nat} (h1 : N % 2 = 1) (h : PowI N A e (k + 1) o) (hx : x = A * R % N) :
    (e / 2 ^ k % 2 = 0 → PowI N A e k (montV N o o)) ∧ (e / 2 ^ k % 2 = 1 → PowI N A e k (montV N (montV N o o) x)) := by
  have hd : e / 2 ^ (k + 1) = e / 2 ^ k / 2 := by rw [Nat.div_div_eq_div_mul, Nat.pow_succ]
  unfold PowI at *
  have hs : montV N o o = A ^ (2 * (e / 2 ^ k / 2)) * R % N := by
    rw [h, hd, mont_mul h1, Nat.two_mul, Nat.pow_add]
  constructor
  · intro h0
    rw [hs, show 2 * (e / 2 ^ k / 2) = e / 2 ^ k by omega]
  · intro h0
    rw [hs, hx, mont_mul h1, ← Nat.pow_succ, show (2 * (e / 2 ^ k / 2)).succ = e / 2 ^ k by omega]
theorem PowI.fin {N A e o : Nat} (h1 : N % 2 = 1) (h : PowI N A e 0 o) : montV N o 1 = powM N A e := by
  unfold PowI at h
  unfold powM
  rw [h, mont_out h1, Nat.mul_one, Nat.pow_zero, Nat.div_one]
theorem PowI.lt {N A e k o : Nat} (hN : 0 < N) (h : PowI N A e k o) : o < N := by unfold PowI at h; rw [h]; exact Nat.mod_lt _ hN

/-! halves -/
def halfV (N a : Nat) : Nat := (bif Nat.beq (a % 2) 1 then a + N else a) / 2
theorem halfV_two {N a : Nat} (h1 : N % 2 = 1) (ha : a < N) : halfV N a < N ∧ 2 * halfV N a % N = a % N := by
  unfold halfV
  cases hb : Nat.beq (a % 2) 1
  · have : a % 2 ≠ 1 := fun e => by rw [← Nat.beq_eq, hb] at e; cases e
    simp only [cond_false]
    refine ⟨by omega, ?_⟩
    rw [show 2 * (a / 2) = a by omega]
  · rw [Nat.beq_eq] at hb
    simp only [cond_true]
    refine ⟨by omega, ?_⟩
    rw [show 2 * ((a + N) / 2) = a + N by omega, Nat.add_mod_right]

/-! the inverse, by halving and taking away -/
structure IS where
  u : Nat
  v : Nat
  x : Nat
  y : Nat
def invS (N : Nat) (s : IS) : IS :=
  bif Nat.beq (s.u % 2) 0 then ⟨s.u / 2, s.v, halfV N s.x, s.y⟩
  else bif Nat.beq (s.v % 2) 0 then ⟨s.u, s.v / 2, s.x, halfV N s.y⟩
  else bif Nat.ble s.v s.u then ⟨s.u - s.v, s.v, subM N s.x s.y, s.y⟩
  else ⟨s.u, s.v - s.u, s.x, subM N s.y s.x⟩
def invG (N : Nat) : Nat → IS → IS
  | 0, s => s
  | k + 1, s => bif Nat.beq s.u 0 then s else invG N k (invS N s)
def invF (N a : Nat) : IS := invG N (a % N + N) ⟨a % N, N, 1, 0⟩
def invE (N a : Nat) : Int := bif Nat.beq (invF N a).v 1 then 0 else 6
def invV (N a : Nat) : Nat := bif Nat.beq (invF N a).v 1 then (invF N a).y else 0

/-- What stays true. -/
structure ISOk (N A : Nat) (s : IS) : Prop where
  v0 : 0 < s.v
  vN : s.v ≤ N
  uN : s.u < N
  xN : s.x < N
  yN : s.y < N
  ux : s.u % N = s.x * A % N
  vy : s.v % N = s.y * A % N
  gcd : Nat.gcd s.u s.v = Nat.gcd A N
theorem two_cancel {N a b : Nat} (h1 : N % 2 = 1) (h : 2 * a % N = 2 * b % N) : a % N = b % N := by
  have e := cg' ((N + 1) / 2) h
  rw [← Nat.mul_assoc, ← Nat.mul_assoc, show (N + 1) / 2 * 2 = N + 1 by omega, Nat.add_mul, Nat.add_mul, Nat.one_mul, Nat.one_mul, Nat.mul_add_mod_self_left, Nat.mul_add_mod_self_left] at e
  exact e
theorem subM_lt {N a b : Nat} (h : 0 < N) : subM N a b < N := Nat.mod_lt _ h
theorem subM_add {N a b : Nat} (h : 0 < N) : (subM N a b + b) % N = a % N := by
  unfold subM
  rw [Nat.add_mod, Nat.mod_mod, ← Nat.add_mod]
  have hb := Nat.mod_lt b h
  rw [Nat.add_mod, Nat.add_mod (a % N), Nat.mod_mod]
  have e : (a % N + (N - b % N) % N) % N = (a % N + (N - b % N)) % N := by rw [Nat.add_mod, Nat.mod_mod, Nat.mod_mod, ← Nat.mod_mod a, ← Nat.add_mod]; rw [Nat.mod_mod]
  rw [e, ← Nat.mod_mod b, ← Nat.add_mod, Nat.mod_mod, show a % N + (N - b % N) + b % N = a % N + N by omega, Nat.add_mod_right, Nat.mod_mod]
theorem sub_mul {N a b c A : Nat} (h : 0 < N) (hle : b ≤ a) (ha : a % N = c * A % N) {d : Nat} (hb : b % N = d * A % N) : (a - b) % N = subM N c d * A % N := by
  have e1 : (subM N c d * A + d * A) % N = c * A % N := by rw [← Nat.add_mul]; exact cg A (subM_add h)
  have e2 : ((a - b) + b) % N = (subM N c d * A + b) % N := by
    rw [Nat.sub_add_cancel hle, ha, ← e1, Nat.add_mod, ← hb, ← Nat.add_mod]
  have e3 := congrArg (fun z => (z + (N - b % N)) % N) e2
  have hbN := Nat.mod_lt b h
  have key : ∀ x : Nat, ((x + b) % N + (N - b % N)) % N = x % N := by
    intro x
    have : (x + b) % N = (x + b % N) % N := by rw [Nat.add_mod, ← Nat.mod_mod b, ← Nat.add_mod, Nat.mod_mod]
    rw [this, Nat.add_mod, Nat.mod_mod, ← Nat.add_mod, show x + b % N + (N - b % N) = x + N by omega, Nat.add_mod_right]
  rw [key, key] at e3
  exact e3
theorem gcd_half {a b : Nat} (ha : a % 2 = 0) (hb : b % 2 = 1) : Nat.gcd (a / 2) b = Nat.gcd a b := by
  have h : a = 2 * (a / 2) := by omega
  have hc : Nat.Coprime 2 b := by
    show Nat.gcd 2 b = 1
    rw [Nat.gcd_rec, hb]; rfl
  conv => rhs; rw [h]
  exact (Nat.Coprime.gcd_mul_left_cancel (a / 2) hc).symm
/-- One of both is odd. -/
theorem ISOk.step {N A : Nat} {s : IS} (h1 : N % 2 = 1) (h : ISOk N A s) (hu : s.u ≠ 0) (hodd : s.u % 2 = 1 ∨ s.v % 2 = 1) :
    ISOk N A (invS N s) ∧ (invS N s).u + (invS N s).v < s.u + s.v ∧ ((invS N s).u % 2 = 1 ∨ (invS N s).v % 2 = 1) := by
  have hN : 0 < N := by have := h.uN; omega
  obtain ⟨v0, vN, uN, xN, yN, ux, vy, g⟩ := h
  unfold invS
  cases h2 : Nat.beq (s.u % 2) 0
  · have e2 : s.u % 2 ≠ 0 := fun e => by rw [← Nat.beq_eq, h2] at e; cases e
    simp only [cond_false]
    cases h3 : Nat.beq (s.v % 2) 0
    · have e3 : s.v % 2 ≠ 0 := fun e => by rw [← Nat.beq_eq, h3] at e; cases e
      simp only [cond_false]
      cases h4 : Nat.ble s.v s.u
      · have e4 : ¬ s.v ≤ s.u := by rw [← Nat.ble_eq, h4]; simp
        simp only [cond_false]
        refine ⟨⟨by first | omega | (simp only; omega), by first | omega | (simp only; omega), uN, xN, subM_lt hN, ux, sub_mul hN (by omega) vy ux, ?_⟩, by first | omega | (simp only; omega), .inl (by first | omega | (simp only; omega))⟩
        simp only
        rw [← g, Nat.gcd_comm, Nat.gcd_comm s.u]
        exact Nat.gcd_sub_self_left (by omega)
      · rw [Nat.ble_eq] at h4
        simp only [cond_true]
        refine ⟨⟨v0, vN, by first | omega | (simp only; omega), subM_lt hN, yN, sub_mul hN h4 ux vy, vy, ?_⟩, by first | omega | (simp only; omega), .inr (by first | omega | (simp only; omega))⟩
        simp only
        rw [← g]
        exact Nat.gcd_sub_self_left h4
    · rw [Nat.beq_eq] at h3
      have hh := halfV_two h1 yN
      simp only [cond_true]
      refine ⟨⟨by first | omega | (simp only; omega), by first | omega | (simp only; omega), uN, xN, hh.1, ux, ?_, ?_⟩, by first | omega | (simp only; omega), .inl (by first | omega | (simp only; omega))⟩
      · simp only
        refine two_cancel h1 ?_
        rw [show 2 * (s.v / 2) = s.v by omega, vy, ← Nat.mul_assoc]
        exact (cg A hh.2).symm
      · simp only
        rw [← g, Nat.gcd_comm, Nat.gcd_comm s.u]
        exact gcd_half h3 (by omega)
  · rw [Nat.beq_eq] at h2
    have hh := halfV_two h1 xN
    simp only [cond_true]
    refine ⟨⟨v0, vN, by first | omega | (simp only; omega), hh.1, yN, ?_, vy, ?_⟩, by first | omega | (simp only; omega), .inr (by first | omega | (simp only; omega))⟩
    · simp only
      refine two_cancel h1 ?_
      rw [show 2 * (s.u / 2) = s.u by omega, ux, ← Nat.mul_assoc]
      exact (cg A hh.2).symm
    · simp only
      rw [← g]
      exact gcd_half h2 (by omega)
theorem ISOk.start {N a : Nat} (h1 : N % 2 = 1) (hN : 1 < N) : ISOk N a ⟨a % N, N, 1, 0⟩ ∧ ((a % N) % 2 = 1 ∨ N % 2 = 1) :=
  ⟨⟨by first | omega | (simp only; omega), Nat.le_refl _, Nat.mod_lt _ (by omega), hN, by first | omega | (simp only; omega), by simp, by simp, by
    simp only
    rw [Nat.gcd_comm a, Nat.gcd_rec N a]⟩, .inr h1⟩
/-- Enough rounds: the first number is 0. -/
theorem invG_end {N A : Nat} (h1 : N % 2 = 1) : ∀ {k : Nat} {s : IS}, ISOk N A s → (s.u % 2 = 1 ∨ s.v % 2 = 1) → s.u + s.v ≤ k → ISOk N A (invG N k s) ∧ (invG N k s).u = 0
  | 0, s, h, _, hk => by have := h.v0; omega
  | k + 1, s, h, ho, hk => by
    simp only [invG]
    cases hb : Nat.beq s.u 0
    · have hu : s.u ≠ 0 := fun e => by rw [← Nat.beq_eq, hb] at e; cases e
      simp only [cond_false]
      obtain ⟨a, b, c⟩ := h.step h1 hu ho
      exact invG_end h1 a c (by omega)
    · rw [Nat.beq_eq] at hb
      simp only [cond_true]
      exact ⟨h, hb⟩
/-- More rounds change nothing. -/
theorem invG_more {N : Nat} : ∀ {k j : Nat} {s : IS}, (invG N k s).u = 0 → k ≤ j → invG N j s = invG N k s
  | 0, j, s, h, _ => by
    simp only [invG] at h
    cases j with
    | zero => rfl
    | succ j => simp only [invG, h]; rfl
  | k + 1, 0, _, _, hj => by omega
  | k + 1, j + 1, s, h, hj => by
    simp only [invG] at h ⊢
    cases hb : Nat.beq s.u 0
    · rw [hb] at h
      simp only [cond_false] at h ⊢
      exact invG_more h (by omega)
    · rfl
theorem invF_ok {N a : Nat} (h1 : N % 2 = 1) (hN : 1 < N) : ISOk N a (invF N a) ∧ (invF N a).u = 0 := by
  obtain ⟨h, ho⟩ := ISOk.start (a := a) h1 hN
  exact invG_end h1 h ho (Nat.le_refl _)
theorem invF_gcd {N a : Nat} (h1 : N % 2 = 1) (hN : 1 < N) : (invF N a).v = Nat.gcd a N := by
  obtain ⟨h, h0⟩ := invF_ok (a := a) h1 hN
  have := h.gcd
  rw [h0, Nat.gcd_zero_left] at this
  exact this
/-- The inverse. -/
theorem invV_mul {N a : Nat} (h1 : N % 2 = 1) (hN : 1 < N) (h : Nat.gcd a N = 1) : invE N a = 0 ∧ invV N a < N ∧ invV N a * a % N = 1 := by
  obtain ⟨hk, _⟩ := invF_ok (a := a) h1 hN
  have hv := invF_gcd (a := a) h1 hN
  rw [h] at hv
  have hb : Nat.beq (invF N a).v 1 = true := by rw [hv]; rfl
  have := hk.vy
  rw [hv, Nat.mod_eq_of_lt hN] at this
  unfold invE invV
  rw [hb]
  exact ⟨rfl, hk.yN, this.symm⟩
theorem invV_none {N a : Nat} (h1 : N % 2 = 1) (hN : 1 < N) (h : Nat.gcd a N ≠ 1) : invE N a = 6 ∧ invV N a = 0 := by
  have hv := invF_gcd (a := a) h1 hN
  have hb : Nat.beq (invF N a).v 1 = false := by rw [hv, ← Bool.not_eq_true, Nat.beq_eq]; exact h
  unfold invE invV
  rw [hb]
  exact ⟨rfl, rfl⟩

/-- From s on it comes to the inverse's end. -/
def ISTo (N A : Nat) (s : IS) : Prop := ISOk N A s ∧ (s.u % 2 = 1 ∨ s.v % 2 = 1) ∧ invG N (s.u + s.v) s = invF N A
theorem ISTo.start {N a : Nat} (h1 : N % 2 = 1) (hN : 1 < N) : ISTo N a ⟨a % N, N, 1, 0⟩ := ⟨(ISOk.start h1 hN).1, (ISOk.start h1 hN).2, rfl⟩
theorem ISTo.step {N A : Nat} {s : IS} (h1 : N % 2 = 1) (h : ISTo N A s) (hu : s.u ≠ 0) : ISTo N A (invS N s) ∧ (invS N s).u + (invS N s).v < s.u + s.v := by
  obtain ⟨h2, h3, h4⟩ := h
  obtain ⟨a, b, c⟩ := h2.step h1 hu h3
  refine ⟨⟨a, c, ?_⟩, b⟩
  have e0 := (invG_end h1 a c (Nat.le_refl _)).2
  have e1 := invG_more e0 (j := s.u + s.v) (by omega)
  have e2 := invG_more (invG_end h1 h2 h3 (Nat.le_refl _)).2 (j := s.u + s.v + 1) (by omega)
  have hb : Nat.beq s.u 0 = false := by rw [← Bool.not_eq_true, Nat.beq_eq]; exact hu
  have e3 : invG N (s.u + s.v + 1) s = invG N (s.u + s.v) (invS N s) := by simp only [invG, hb, cond_false]
  rw [← e1, ← e3, e2, h4]
theorem ISTo.fin {N A : Nat} {s : IS} (h : ISTo N A s) (hu : s.u = 0) : invF N A = s := by
  obtain ⟨h2, h3, h4⟩ := h
  rw [← h4]
  obtain ⟨k, hk⟩ : ∃ k, s.u + s.v = k + 1 := ⟨s.u + s.v - 1, by have := h2.v0; omega⟩
  rw [hk]
  simp only [invG, hu]
  rfl
end Go.Rq
