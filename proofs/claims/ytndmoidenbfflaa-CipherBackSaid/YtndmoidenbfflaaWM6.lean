/- Digits: plain facts of numbers written to the base 16. -/
import Derived.Test.YtndmoidenbfflaaWM5
namespace Go.Rq
open Go

abbrev HEX : ByteArray := ⟨#[48, 49, 50, 51, 52, 53, 54, 55, 56, 57, 97, 98, 99, 100, 101, 102]⟩
def idxB (f : Nat → Nat) (c : Nat) : Nat → Nat → Int
  | 0, _ => -1
  | n + 1, i => bif Nat.beq (f i % 256) (c % 256) then Int.ofNat i else idxB f c n (i + 1)
theorem idxB_cases (f : Nat → Nat) (c : Nat) : ∀ n i, (idxB f c n i = -1 ∧ ∀ j, i ≤ j → j < i + n → f j % 256 ≠ c % 256) ∨ ∃ d, idxB f c n i = Int.ofNat d ∧ i ≤ d ∧ d < i + n ∧ f d % 256 = c % 256
  | 0, i => .inl ⟨rfl, fun j h1 h2 => by omega⟩
  | n + 1, i => by
    simp only [idxB]
    cases hb : Nat.beq (f i % 256) (c % 256)
    · have hne : f i % 256 ≠ c % 256 := fun e => by rw [← Nat.beq_eq, hb] at e; cases e
      rcases idxB_cases f c n (i + 1) with ⟨h1, h2⟩ | ⟨d, h1, h2, h3, h4⟩
      · refine .inl ⟨h1, fun j hj1 hj2 => ?_⟩
        by_cases e : j = i
        · subst e; exact hne
        · exact h2 j (by omega) (by omega)
      · exact .inr ⟨d, h1, by omega, by omega, h4⟩
    · exact .inr ⟨i, rfl, Nat.le_refl _, by omega, by rw [← Nat.beq_eq]; exact hb⟩

def hexI (c : Nat) : Int := idxB (byteAt HEX) c 16 0
def okH (c : Nat) : Bool := !ilt (hexI c) 0
def dig (c : Nat) : Nat := (hexI c).toNat
theorem okH_t {c : Nat} (h : okH c = true) : hexI c = Int.ofNat (dig c) ∧ dig c < 16 ∧ byteAt HEX (dig c) % 256 = c % 256 := by
  rcases idxB_cases (byteAt HEX) c 16 0 with ⟨h1, _⟩ | ⟨d, h1, h2, h3, h4⟩
  · have : hexI c = -1 := h1
    unfold okH at h; rw [this] at h; cases h
  · have e : hexI c = Int.ofNat d := h1
    have : dig c = d := by unfold dig; rw [e]; rfl
    rw [this]; exact ⟨e, by omega, h4⟩
theorem okH_f {c : Nat} (h : okH c = false) : hexI c = -1 := by
  rcases idxB_cases (byteAt HEX) c 16 0 with ⟨h1, _⟩ | ⟨d, h1, h2, h3, h4⟩
  · exact h1
  · have e : hexI c = Int.ofNat d := h1
    unfold okH at h; rw [e, (by rw [← Bool.not_eq_true, ilt_iff]; simp : ilt (Int.ofNat d) 0 = false)] at h; cases h

def horN (f : Nat → Nat) : Nat → Nat
  | 0 => 0
  | k + 1 => horN f k * 16 + dig (f k)
def allH (f : Nat → Nat) : Nat → Bool
  | 0 => true
  | k + 1 => allH f k && okH (f k)
theorem allH_le {f : Nat → Nat} {n : Nat} (h : allH f n = true) : ∀ k, k ≤ n → allH f k = true := by
  induction n with
  | zero => intro k hk; have : k = 0 := by omega
            subst this; rfl
  | succ n ih =>
    intro k hk
    simp only [allH, Bool.and_eq_true] at h
    by_cases e : k = n + 1
    · subst e; simp only [allH, Bool.and_eq_true]; exact h
    · exact ih h.1 k (by omega)
theorem allH_at {f : Nat → Nat} {n : Nat} (h : allH f n = true) {i : Nat} (hi : i < n) : okH (f i) = true := by
  have := allH_le h (i + 1) (by omega)
  simp only [allH, Bool.and_eq_true] at this
  exact this.2
theorem horN_lt {f : Nat → Nat} : ∀ {k : Nat}, allH f k = true → horN f k < 2 ^ (4 * k)
  | 0, _ => by simp [horN]
  | k + 1, h => by
    simp only [allH, Bool.and_eq_true] at h
    have := horN_lt h.1
    have hd := (okH_t h.2).2.1
    simp only [horN]
    rw [show 4 * (k + 1) = 4 * k + 4 by omega, Nat.pow_add]
    omega
theorem horN_ltR {f : Nat → Nat} {k : Nat} (hk : k ≤ 96) (h : allH f k = true) : horN f k < R := by
  rw [R_pow]
  exact Nat.lt_of_lt_of_le (horN_lt h) (Nat.pow_le_pow_right (by omega) (by rw [E_eq]; omega))

/-- What a text is read as, and whether. -/
def parE (n : Nat) (f : Nat → Nat) : Int :=
  bif Nat.blt 96 n then 3 else bif Nat.beq n 0 || (Nat.beq (f 0 % 256) 48 && !Nat.beq n 1) then 4 else bif allH f n then 0 else 4
def parV (n : Nat) (f : Nat → Nat) : Nat := bif ieq (parE n f) 0 then horN f n else 0

theorem setlow4_nv (o : Nat → Nat) {d : Nat} (hd : d < 16) (he : nv o % 16 = 0) : nv (upd o 0 (o 0 ||| d)) = nv o + d := by
  have e : nv o ||| d = nv o + d := by
    have := Nat.two_pow_add_eq_or_of_lt (i := 4) (b := d) (by omega) (nv o / 16)
    rw [show 2 ^ 4 * (nv o / 16) = nv o by omega] at this
    exact this.symm
  have h16 : ∀ {n}, 4 ≤ n → 16 ≤ 2 ^ n := fun {n} h => Nat.pow_le_pow_right (n := 2) (i := 4) (by omega) h
  have hlt : nv o ||| d < R := by
    rw [R_pow]
    refine Nat.or_lt_two_pow ?_ (Nat.lt_of_lt_of_le hd (h16 (by rw [E_eq]; omega)))
    rw [← R_pow]; exact nv_lt o
  rw [← e, ← Nat.mod_eq_of_lt hlt]
  refine nv_of_bits fun i r hi hr => ?_
  rw [Nat.testBit_or, tb_word o hi hr]
  by_cases h0 : i = 0
  · subst h0; rw [upd_same, Nat.testBit_or, Nat.mul_zero, Nat.zero_add]
  · rw [upd_ne _ _ h0]
    have : Nat.testBit d (64 * i + r) = false := Nat.testBit_lt_two_pow (Nat.lt_of_lt_of_le hd (h16 (by omega)))
    rw [this, Bool.or_false]

/-- A digit more. -/
def pIn (N : Nat) (d : Nat) : Nat → Nat := upd (wd N) 0 (wd N 0 ||| d)
theorem pIn_nv {x d N : Nat} (hN : N = x * 16 % R) (hx : x * 16 < R) (hd : d < 16) : nv (pIn N d) = x * 16 + d := by
  have e : nv (wd N) = x * 16 := by rw [nv_wd, hN, Nat.mod_mod, Nat.mod_eq_of_lt hx]
  unfold pIn
  rw [setlow4_nv _ hd (by rw [e]; omega), e]

theorem bytesF_congr {n : Nat} {f g : Nat → Nat} (h : ∀ j, j < n → f j % 256 = g j % 256) : bytesF n f = bytesF n g := by
  unfold bytesF
  congr 2
  refine List.map_congr_left fun j hj => ?_
  apply UInt8.toNat_inj.1
  simpa using h j (List.mem_range.1 hj)

/-! a number's digits -/
def tB1 (N : Nat) : Nat := bif Nat.ble (blen N) 1 then 1 else blen N
def tLen (N : Nat) : Nat := (tB1 N - 1) / 4 + 1
def txF (N : Nat) (L : Nat) : Nat → Nat := fun j => byteAt HEX (N / 2 ^ (4 * (L - 1 - j)) % 16)
def DG (a : Nat → Nat) (i : Nat) : Nat := a (i / 16) % W / 2 ^ min (4 * (i % 16)) 64 &&& 15
theorem DG_eq (a : Nat → Nat) {i : Nat} (h : i < 96) : DG a i = nv a / 2 ^ (4 * i) % 16 ∧ DG a i < 16 := by
  have hm : min (4 * (i % 16)) 64 = 4 * (i % 16) := by omega
  have e16 : ∀ x : Nat, x &&& 15 = x % 16 := fun x => Nat.and_two_pow_sub_one_eq_mod x 4
  unfold DG
  rw [hm, e16]
  refine ⟨?_, Nat.mod_lt _ (by omega)⟩
  apply Nat.eq_of_testBit_eq
  intro j
  show Nat.testBit (_ % 2 ^ 4) j = Nat.testBit (_ % 2 ^ 4) j
  rw [Nat.testBit_mod_two_pow, Nat.testBit_mod_two_pow, Nat.testBit_div_two_pow, Nat.testBit_div_two_pow]
  by_cases hj : j < 4
  · simp only [hj, decide_true, Bool.true_and]
    have := tb_word a (k := i / 16) (r := 4 * (i % 16) + j) (by omega) (by omega)
    rw [show j + 4 * i = 64 * (i / 16) + (4 * (i % 16) + j) by omega, this, tb_modW _ (by omega)]
    congr 1; omega
  · simp [hj]
theorem tdiv16 : ∀ i : Fin 96, wrapI ((Int.ofNat i.val).tdiv 16) = Int.ofNat (i.val / 16) := by decide +kernel
theorem tmod16 : ∀ i : Fin 96, (Int.ofNat i.val).tmod 16 = Int.ofNat (i.val % 16) := by decide +kernel
theorem mul4 : ∀ i : Fin 16, wrapI (4 * Int.ofNat i.val) = Int.ofNat (4 * i.val) := by decide +kernel
theorem tdiv4 : ∀ i : Fin 384, wrapI ((Int.ofNat i.val).tdiv 4) = Int.ofNat (i.val / 4) := by decide +kernel
theorem tB1_le {N : Nat} (h : N < R) : 1 ≤ tB1 N ∧ tB1 N ≤ 384 := by
  have hb : blen N ≤ 384 := by
    rw [R_pow] at h
    have := blen_lt h
    rw [E_eq] at this; exact this
  unfold tB1
  cases hc : Nat.ble (blen N) 1
  · have : ¬ blen N ≤ 1 := by rw [← Nat.ble_eq, hc]; simp
    simp only [cond_false]; omega
  · simp only [cond_true]; omega
theorem tLen_le {N : Nat} (h : N < R) : 1 ≤ tLen N ∧ tLen N ≤ 96 := by
  have := tB1_le h
  unfold tLen
  omega
/-- The first digit is no 0, but of the number 0 alone. -/
theorem tLen_bounds {N : Nat} : N < 2 ^ (4 * tLen N) ∧ (N ≠ 0 → 2 ^ (4 * (tLen N - 1)) ≤ N) := by
  have hl := lt_blen N
  constructor
  · refine Nat.lt_of_lt_of_le hl (Nat.pow_le_pow_right (by omega) ?_)
    unfold tLen tB1
    cases hc : Nat.ble (blen N) 1
    · simp only [cond_false]; omega
    · rw [Nat.ble_eq] at hc; simp only [cond_true]; omega
  · intro h0
    have hb := (blen_bounds h0).1
    refine Nat.le_trans (Nat.pow_le_pow_right (by omega) ?_) hb
    unfold tLen tB1
    cases hc : Nat.ble (blen N) 1
    · simp only [cond_false]; omega
    · simp only [cond_true]; omega
end Go.Rq
