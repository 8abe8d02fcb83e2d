/- Texts lead back to the number, and numbers to the text. -/
import Derived.Test.YtndmoidenbfflaaWM7
namespace Go.Rq
open Go

theorem hex_dig : ∀ d : Fin 16, okH (byteAt HEX d.val) = true ∧ dig (byteAt HEX d.val) = d.val ∧ (byteAt HEX d.val % 256 = 48 → d.val = 0) := by decide +kernel
theorem tx_ok (N L j : Nat) : okH (txF N L j) = true ∧ dig (txF N L j) = N / 2 ^ (4 * (L - 1 - j)) % 16 := by
  have := hex_dig ⟨N / 2 ^ (4 * (L - 1 - j)) % 16, Nat.mod_lt _ (by omega)⟩
  exact ⟨this.1, this.2.1⟩
theorem tx_all (N L : Nat) : ∀ k, allH (txF N L) k = true
  | 0 => rfl
  | k + 1 => by simp only [allH, Bool.and_eq_true]; exact ⟨tx_all N L k, (tx_ok N L k).1⟩
theorem tx_hor {N L : Nat} (hN : N < 2 ^ (4 * L)) : ∀ k, k ≤ L → horN (txF N L) k = N / 2 ^ (4 * (L - k))
  | 0, _ => by simp only [horN, Nat.sub_zero]; exact (Nat.div_eq_of_lt hN).symm
  | k + 1, h => by
    simp only [horN]
    rw [tx_hor hN k (by omega), (tx_ok N L k).2]
    have e1 : N / 2 ^ (4 * (L - k)) = N / 2 ^ (4 * (L - 1 - k)) / 16 := by
      rw [Nat.div_div_eq_div_mul, show (16 : Nat) = 2 ^ 4 from rfl, ← Nat.pow_add]; congr 2; omega
    rw [e1, show L - (k + 1) = L - 1 - k by omega]
    omega
theorem tLen_zero : tLen 0 = 1 := by decide
/-- What is told of a number is read as it. -/
theorem parse_text {N : Nat} (hN : N < R) : parE (tLen N) (txF N (tLen N)) = 0 ∧ parV (tLen N) (txF N (tLen N)) = N := by
  obtain ⟨h1, h2⟩ := tLen_le hN
  obtain ⟨b1, b2⟩ := tLen_bounds (N := N)
  have e1 : Nat.blt 96 (tLen N) = false := by rw [← Bool.not_eq_true, Nat.blt_eq]; omega
  have e2 : Nat.beq (tLen N) 0 = false := by rw [← Bool.not_eq_true, Nat.beq_eq]; omega
  have e3 : (Nat.beq (txF N (tLen N) 0 % 256) 48 && !Nat.beq (tLen N) 1) = false := by
    cases hb : Nat.beq (txF N (tLen N) 0 % 256) 48
    · rfl
    · have h3 := (hex_dig ⟨N / 2 ^ (4 * (tLen N - 1 - 0)) % 16, Nat.mod_lt _ (by omega)⟩).2.2 (by rw [← Nat.beq_eq]; exact hb)
      simp only at h3
      have h4 : N = 0 := by
        refine Classical.byContradiction fun hne => ?_
        have h5 := b2 hne
        have h6 : 0 < N / 2 ^ (4 * (tLen N - 1)) := Nat.div_pos h5 (Nat.two_pow_pos _)
        have h7 : N / 2 ^ (4 * (tLen N - 1)) < 16 := by
          rw [Nat.div_lt_iff_lt_mul (Nat.two_pow_pos _), show (16 : Nat) = 2 ^ 4 from rfl, ← Nat.pow_add]
          refine Nat.lt_of_lt_of_le b1 (Nat.pow_le_pow_right (by omega) (by omega))
        rw [Nat.sub_zero] at h3
        omega
      rw [h4, tLen_zero]; rfl
  have hE : parE (tLen N) (txF N (tLen N)) = 0 := by
    unfold parE
    rw [e1, e2, e3, tx_all]; rfl
  refine ⟨hE, ?_⟩
  unfold parV
  rw [hE]
  show horN (txF N (tLen N)) (tLen N) = N
  rw [tx_hor b1 _ (Nat.le_refl _), Nat.sub_self]
  simp

theorem parE_zero {n : Nat} {f : Nat → Nat} (h : parE n f = 0) : n ≤ 96 ∧ 0 < n ∧ (f 0 % 256 = 48 → n = 1) ∧ allH f n = true ∧ parV n f = horN f n := by
  have hV : parV n f = horN f n := by unfold parV; rw [h]; rfl
  unfold parE at h
  cases e1 : Nat.blt 96 n <;> rw [e1] at h
  · cases e2 : (Nat.beq n 0 || (Nat.beq (f 0 % 256) 48 && !Nat.beq n 1)) <;> rw [e2] at h
    · cases e3 : allH f n <;> rw [e3] at h
      · cases h
      · have h1 : ¬ 96 < n := by rw [← Nat.blt_eq, e1]; simp
        simp only [Bool.or_eq_false_iff, Bool.and_eq_false_iff] at e2
        have h2 : n ≠ 0 := fun e => by have := e2.1; rw [e] at this; cases this
        refine ⟨by omega, by omega, fun h48 => ?_, rfl, hV⟩
        rcases e2.2 with h3 | h3
        · rw [h48] at h3; cases h3
        · cases hb : Nat.beq n 1
          · rw [hb] at h3; cases h3
          · rw [← Nat.beq_eq]; exact hb
    · cases h
  · cases h
theorem parE_other {n : Nat} {f : Nat → Nat} (h : parE n f ≠ 0) : parV n f = 0 := by
  unfold parV
  cases hb : ieq (parE n f) 0
  · rfl
  · rw [ieq_iff] at hb; exact absurd hb h
theorem hor_div {f : Nat → Nat} {n : Nat} (h : allH f n = true) : ∀ k, k ≤ n → horN f n / 2 ^ (4 * (n - k)) = horN f k := by
  intro k hk
  obtain ⟨m, rfl⟩ : ∃ m, n = k + m := ⟨n - k, by omega⟩
  clear hk
  induction m with
  | zero => simp
  | succ m ih =>
    have ih := ih (allH_le h (k + m) (by omega))
    have hd := (okH_t (allH_at h (i := k + m) (by omega))).2.1
    rw [show k + (m + 1) - k = (k + m - k) + 1 by omega]
    show (horN f (k + m) * 16 + dig (f (k + m))) / _ = _
    rw [show 4 * (k + m - k + 1) = 4 + 4 * (k + m - k) by omega, Nat.pow_add, ← Nat.div_div_eq_div_mul]
    rw [show (horN f (k + m) * 16 + dig (f (k + m))) / 2 ^ 4 = horN f (k + m) by omega, ih]
/-- A text that is read is told again. -/
theorem text_parse {n : Nat} {f : Nat → Nat} (h : parE n f = 0) : tLen (horN f n) = n ∧ ∀ j, j < n → txF (horN f n) n j % 256 = f j % 256 := by
  obtain ⟨h96, h0, h48, hall, _⟩ := parE_zero h
  have hlt := horN_lt hall
  have hdig : ∀ j, j < n → horN f n / 2 ^ (4 * (n - 1 - j)) % 16 = dig (f j) := by
    intro j hj
    have e := hor_div hall (j + 1) (by omega)
    rw [show n - (j + 1) = n - 1 - j by omega] at e
    rw [e]
    have hd := (okH_t (allH_at hall hj)).2.1
    simp only [horN]
    omega
  constructor
  · by_cases h1 : n = 1
    · subst h1
      have hb := blen_lt (n := horN f 1) (k := 4) hlt
      unfold tLen tB1
      cases hc : Nat.ble (blen (horN f 1)) 1
      · have : ¬ blen (horN f 1) ≤ 1 := by rw [← Nat.ble_eq, hc]; simp
        simp only [cond_false]; omega
      · simp only [cond_true]
    · have hfirst : horN f n / 2 ^ (4 * (n - 1)) = dig (f 0) := by
        have e := hor_div hall 1 (by omega)
        rw [e]; simp [horN]
      have hne : dig (f 0) ≠ 0 := by
        intro e
        have := (okH_t (allH_at hall h0)).2.2
        rw [e] at this
        have h3 : f 0 % 256 = 48 := by rw [← this]; rfl
        exact h1 (h48 h3)
      have hge : 2 ^ (4 * (n - 1)) ≤ horN f n := by
        refine Classical.byContradiction fun hh => ?_
        rw [Nat.div_eq_of_lt (by omega)] at hfirst
        exact hne hfirst.symm
      have hb1 := blen_lt (n := horN f n) (k := 4 * n) hlt
      have hb2 := blen_shift hge
      have hb3 : 0 < blen (horN f n / 2 ^ (4 * (n - 1))) := by
        rw [hfirst, blen_pos hne]; omega
      unfold tLen tB1
      cases hc : Nat.ble (blen (horN f n)) 1
      · simp only [cond_false]; omega
      · rw [Nat.ble_eq] at hc
        omega
  · intro j hj
    unfold txF
    rw [hdig j hj]
    exact (okH_t (allH_at hall hj)).2.2
theorem read_bytes {N : Nat} (hN : N < R) : rdV 48 (byF N) = N := by
  unfold rdV
  show byN (byF N) 48 = N
  rw [byN_byF N hN 48 (Nat.le_refl _)]
  simp
end Go.Rq
