/- Digits one by one: what the document's Text and Parse go by. -/
import Derived.Test.YtiaongfgkmbaaaaWM8
namespace Go.Rq
open Go

theorem tLen_step {D d : Nat} (h0 : D ≠ 0) (hd : d < 16) : tLen (D * 16 + d) = tLen D + 1 := by
  have h1 := tLen_bounds (N := D)
  have h2 := tLen_bounds (N := D * 16 + d)
  have hn : D * 16 + d ≠ 0 := by omega
  have a1 := h1.1
  have a2 := h1.2 h0
  have b1 := h2.1
  have b2 := h2.2 hn
  have hL : 1 ≤ tLen D := by unfold tLen; omega
  have hL' : 1 ≤ tLen (D * 16 + d) := by unfold tLen; omega
  generalize tLen D = L at *
  generalize tLen (D * 16 + d) = L' at *
  have e1 : 2 ^ (4 * (L + 1)) = 2 ^ (4 * L) * 16 := by rw [show 4 * (L + 1) = 4 * L + 4 by omega, Nat.pow_add]
  have e2 : 2 ^ (4 * L) = 2 ^ (4 * (L - 1)) * 16 := by
    rw [show 4 * L = 4 * (L - 1) + 4 by omega, Nat.pow_add]
  have c1 : 2 ^ (4 * (L' - 1)) < 2 ^ (4 * (L + 1)) := by rw [e1]; omega
  have c2 : 2 ^ (4 * L) < 2 ^ (4 * L' ) := by rw [e2]; omega
  have d1 := (Nat.pow_lt_pow_iff_right (a := 2) (by omega)).1 c1
  have d2 := (Nat.pow_lt_pow_iff_right (a := 2) (by omega)).1 c2
  omega
theorem tLen_small {d : Nat} (h0 : d ≠ 0) (hd : d < 16) : tLen d = 1 := by
  have h := (tLen_bounds (N := d)).2 h0
  have hL' : 1 ≤ tLen d := by unfold tLen; omega
  by_cases h1 : tLen d = 1
  · exact h1
  · have : 2 ^ (4 * 1) ≤ 2 ^ (4 * (tLen d - 1)) := Nat.pow_le_pow_right (by omega) (by omega)
    omega
theorem txF_hi {D d L j : Nat} (hd : d < 16) (hj : j < L) : txF (D * 16 + d) (L + 1) j = txF D L j := by
  unfold txF
  have e : 4 * (L + 1 - 1 - j) = 4 * (L - 1 - j) + 4 := by omega
  have : (D * 16 + d) / 2 ^ (4 * (L + 1 - 1 - j)) = D / 2 ^ (4 * (L - 1 - j)) := by
    rw [e, Nat.pow_add, Nat.mul_comm (2 ^ (4 * (L - 1 - j))), ← Nat.div_div_eq_div_mul]
    congr 1
    omega
  rw [this]
theorem txF_lo {D d L : Nat} (hd : d < 16) : txF (D * 16 + d) (L + 1) L = byteAt HEX d := by
  unfold txF
  rw [show 4 * (L + 1 - 1 - L) = 0 by omega, Nat.pow_zero, Nat.div_one]
  congr 1
  omega
/-- What a byte is as a digit: the document's way. -/
def digB (c : Nat) : Bool := match Nat.ble 48 c && Nat.ble c 57 with
  | true => okH c && Nat.beq (dig c) (c - 48)
  | false => match Nat.ble 97 c && Nat.ble c 102 with
    | true => okH c && Nat.beq (dig c) (c - 97 + 10)
    | false => !okH c
def allD : Nat → Bool
  | 0 => true
  | n + 1 => digB n && allD n
theorem allD_ok : allD 256 = true := by kernel_rfl
theorem allD_at : ∀ {n c : Nat}, allD n = true → c < n → digB c = true
  | n + 1, c, h, hc => by
    unfold allD at h
    rw [Bool.and_eq_true] at h
    by_cases e : c = n
    · rw [e]; exact h.1
    · exact allD_at h.2 (by omega)
theorem okH_mod (c : Nat) : okH (c % 256) = okH c ∧ dig (c % 256) = dig c := by
  have key : ∀ n i, idxB (byteAt HEX) (c % 256) n i = idxB (byteAt HEX) c n i := by
    intro n
    induction n with
    | zero => intro i; rfl
    | succ n ih => intro i; simp only [idxB, Nat.mod_mod, ih]
  unfold okH dig hexI
  rw [key]
  exact ⟨rfl, rfl⟩
theorem dig_09 {c : Nat} (h1 : 48 ≤ c % 256) (h2 : c % 256 ≤ 57) : okH c = true ∧ dig c = c % 256 - 48 := by
  have h := allD_at allD_ok (Nat.mod_lt c (by omega))
  have e1 : (Nat.ble 48 (c % 256) && Nat.ble (c % 256) 57) = true := by rw [Bool.and_eq_true, Nat.ble_eq, Nat.ble_eq]; exact ⟨h1, h2⟩
  unfold digB at h
  rw [e1] at h
  simp only [Bool.and_eq_true, Nat.beq_eq] at h
  rw [(okH_mod c).1, (okH_mod c).2] at h
  exact h
theorem dig_af {c : Nat} (h1 : 97 ≤ c % 256) (h2 : c % 256 ≤ 102) : okH c = true ∧ dig c = c % 256 - 97 + 10 := by
  have h := allD_at allD_ok (Nat.mod_lt c (by omega))
  have e0 : (Nat.ble 48 (c % 256) && Nat.ble (c % 256) 57) = false := by
    rw [← Bool.not_eq_true, Bool.and_eq_true, Nat.ble_eq, Nat.ble_eq]; omega
  have e1 : (Nat.ble 97 (c % 256) && Nat.ble (c % 256) 102) = true := by rw [Bool.and_eq_true, Nat.ble_eq, Nat.ble_eq]; exact ⟨h1, h2⟩
  unfold digB at h
  rw [e0, e1] at h
  simp only [Bool.and_eq_true, Nat.beq_eq] at h
  rw [(okH_mod c).1, (okH_mod c).2] at h
  exact h
theorem dig_no {c : Nat} (h1 : ¬ (48 ≤ c % 256 ∧ c % 256 ≤ 57)) (h2 : ¬ (97 ≤ c % 256 ∧ c % 256 ≤ 102)) : okH c = false := by
  have h := allD_at allD_ok (Nat.mod_lt c (by omega))
  have e0 : (Nat.ble 48 (c % 256) && Nat.ble (c % 256) 57) = false := by
    rw [← Bool.not_eq_true, Bool.and_eq_true, Nat.ble_eq, Nat.ble_eq]; exact h1
  have e1 : (Nat.ble 97 (c % 256) && Nat.ble (c % 256) 102) = false := by
    rw [← Bool.not_eq_true, Bool.and_eq_true, Nat.ble_eq, Nat.ble_eq]; exact h2
  unfold digB at h
  rw [e0, e1] at h
  simp only [Bool.not_eq_true'] at h
  rw [(okH_mod c).1] at h
  exact h
end Go.Rq
