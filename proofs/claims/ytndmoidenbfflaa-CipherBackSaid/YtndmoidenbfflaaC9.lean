/- Poly1305 of the document: fold. Printed by genc9.py. -/
import Derived.Test.YtndmoidenbfflaaC8
namespace Go.Proofs.Ytndmoidenbfflaa
open Go.Rq Go
set_option linter.unusedVariables false
set_option linter.unusedSimpArgs false
set_option maxRecDepth 100000
theorem num_div {f : Nat → Nat} {n i : Nat} (h : ∀ j, j < n → f j < 256) (hi : i ≤ n) : num f n / 256 ^ i = num (fun j => f (i + j)) (n - i) := by
  obtain ⟨m, rfl⟩ : ∃ m, n = i + m := ⟨n - i, by omega⟩
  rw [num_split i m, Nat.add_mul_div_left _ _ (Nat.pow_pos (by decide)), Nat.div_eq_of_lt (num_lt fun j hj => h j (by omega)), Nat.zero_add]
  congr 1; omega
theorem num_head (f : Nat → Nat) (n : Nat) : num f (n + 1) = f 0 + 256 * num (fun j => f (1 + j)) n := by
  rw [Nat.add_comm n 1, num_split 1 n]
  simp [num]
abbrev hiV (V : Nat) : Nat := V / 1361129467683753853853498429727072845824
theorem dig130 {w : Nat → Nat} (h : ∀ j, j < 70 → w j < 256) {i : Nat} (h1 : 16 ≤ i) (h2 : i < 70) :
    dgN (hiV (num w 70)) (i - 16) = w i / 4 + (if i + 1 < 70 then w (i + 1) else 0) % 4 * 64 := by
  unfold dgN hiV
  have e1 : num w 70 / 1361129467683753853853498429727072845824 / 256 ^ (i - 16) = num w 70 / 256 ^ i / 4 := by
    rw [Nat.div_div_eq_div_mul, Nat.div_div_eq_div_mul, show (1361129467683753853853498429727072845824 : Nat) = 4 * 256 ^ 16 by decide, Nat.mul_assoc, ← Nat.pow_add, show 16 + (i - 16) = i by omega, Nat.mul_comm 4]
  rw [e1, num_div h (by omega)]
  obtain ⟨m, hm⟩ : ∃ m, 70 - i = m + 1 := ⟨69 - i, by omega⟩
  rw [hm, num_head]
  have hwi := h i h2
  simp only [Nat.add_zero]
  have key : ∀ u T, T % 4 = u % 4 → (w i + 256 * T) / 4 % 256 = w i / 4 + u % 4 * 64 := fun u T hT => by omega
  refine key _ _ ?_
  by_cases hl : i + 1 < 70
  · rw [if_pos hl]
    obtain ⟨m', rfl⟩ : ∃ m', m = m' + 1 := ⟨m - 1, by omega⟩
    rw [num_head]
    simp only [Nat.add_zero]
    omega
  · rw [if_neg hl, show m = 0 by omega]; rfl
theorem wsi_val {n : Nat} {f g : Nat → Nat} (h : ∀ j, j < n → f j = g j) (ρ : Ren) : cvals ρ [.ws .i64 n f] = cvals ρ [.ws .i64 n g] := by
  simp only [cvals, Cell.vals, M, List.append_nil]
  exact List.map_congr_left fun j hj => by rw [h j (List.mem_range.1 hj)]
theorem wrapI_nsub {a b : Nat} (h : b ≤ a) (ha : a < 9223372036854775808) : wrapI (Int.ofNat a - Int.ofNat b) = Int.ofNat (a - b) := by
  rw [show Int.ofNat a - Int.ofNat b = Int.ofNat (a - b) by simp only [Int.ofNat_eq_natCast]; omega]
  exact wrapI_nn (by omega)
theorem wrapI_nadd {a b : Nat} (h : a + b < 9223372036854775808) : wrapI (Int.ofNat a + Int.ofNat b) = Int.ofNat (a + b) := wrapI_nn (n := a + b) h
theorem wrapI_nmul {a b : Nat} (h : a * b < 9223372036854775808) : wrapI (Int.ofNat a * Int.ofNat b) = Int.ofNat (a * b) := wrapI_nn (n := a * b) h
theorem wrapI_ndiv {a b : Nat} (h : a < 9223372036854775808) : wrapI ((Int.ofNat a).tdiv (Int.ofNat b)) = Int.ofNat (a / b) := by
  show wrapI (Int.ofNat (a / b)) = _
  exact wrapI_nn (Nat.lt_of_le_of_lt (Nat.div_le_self _ _) h)
theorem tmodN (a b : Nat) : (Int.ofNat a).tmod (Int.ofNat b) = Int.ofNat (a % b) := rfl
abbrev iB70 (f : Nat → Nat) : Option Blk := some ⟨80, [.ws .i64 70 f], 0, 0⟩
abbrev iB34 (f : Nat → Nat) : Option Blk := some ⟨72, [.ws .i64 34 f], 0, 0⟩
abbrev iB68 (f : Nat → Nat) : Option Blk := some ⟨79, [.ws .i64 68 f], 0, 0⟩
def zer (w : Nat → Nat) : Nat → Nat → Nat
  | 0 => w
  | k + 1 => upd (zer w k) (17 + k) 0
theorem zer_at (w : Nat → Nat) : ∀ k j, zer w k j = if 17 ≤ j ∧ j < 17 + k then 0 else w j
  | 0, j => by rw [if_neg (by omega)]; rfl
  | k + 1, j => by
    show upd (zer w k) (17 + k) 0 j = _
    by_cases e : j = 17 + k
    · subst e; rw [upd_same, if_pos (by omega)]
    · rw [upd_ne _ _ e, zer_at w k j]
      by_cases h : 17 ≤ j ∧ j < 17 + k
      · rw [if_pos h, if_pos (by omega)]
      · rw [if_neg h, if_neg (by omega)]
def lowF (w : Nat → Nat) : Nat → Nat := upd (zer w 53) 16 (w 16 % 4)
theorem lowF_at (w : Nat → Nat) (j : Nat) : lowF w j = if j < 16 then w j else if j = 16 then w 16 % 4 else if j < 70 then 0 else w j := by
  unfold lowF
  by_cases e : j = 16
  · subst e; rw [upd_same, if_neg (by omega), if_pos rfl]
  · rw [upd_ne _ _ e, zer_at]
    by_cases h : 17 ≤ j ∧ j < 17 + 53
    · rw [if_pos h, if_neg (by omega), if_neg e, if_pos (by omega)]
    · rw [if_neg h]
      by_cases h2 : j < 16
      · rw [if_pos h2]
      · rw [if_neg h2, if_neg e, if_neg (by omega)]
theorem lowF_num {w : Nat → Nat} (h : ∀ j, j < 70 → w j < 256) : num (lowF w) 70 = num w 70 % 1361129467683753853853498429727072845824 := by
  rw [show 70 = 16 + (1 + 53) from rfl, num_split 16, num_split 16 (1 + 53), num_split 1 53, num_split 1 53]
  rw [show num (lowF w) 16 = num w 16 from num_congr fun j hj => by rw [lowF_at, if_pos hj]]
  rw [show num (fun j => lowF w (16 + (1 + j))) 53 = 0 from num_zero fun j hj => by rw [lowF_at, if_neg (by omega), if_neg (by omega), if_pos (by omega)]]
  have h1 : num w 16 < 256 ^ 16 := num_lt fun j hj => h j (by omega)
  have e1 : num (fun j => lowF w (16 + j)) 1 = w 16 % 4 := by simp [num, lowF]; rw [upd_same]
  have e2 : num (fun j => w (16 + j)) 1 = w 16 := by simp [num]
  rw [e1, e2]
  generalize num (fun j => w (16 + (1 + j))) 53 = T
  generalize num w 16 = a at *
  have e3 : (256 : Nat) ^ 16 = 340282366920938463463374607431768211456 := by decide
  rw [e3] at h1 ⊢
  rw [Nat.pow_one]
  omega
theorem lowF_lt {w : Nat → Nat} (h : ∀ j, j < 70 → w j < 256) : ∀ j, j < 70 → lowF w j < 256 := fun j hj => by
  rw [lowF_at]
  have := h j hj
  have h16 := h 16 (by decide)
  split
  · exact this
  · split
    · omega
    · decide
/-! the loops' data -/
def InvH (V : Nat) (x : Nat × (Nat → Nat) × Bool) : Prop :=
  16 ≤ x.1 ∧ x.1 ≤ 70 ∧ (∀ m, m < x.1 - 16 → x.2.1 m = dgN (hiV V) m) ∧ (∀ m, x.1 - 16 ≤ m → x.2.1 m = 0) ∧ (x.2.2 = true ↔ ∃ m, m < x.1 - 16 ∧ 0 < x.2.1 m)
def InvC (w2 h : Nat → Nat) (x : Nat × Nat × (Nat → Nat)) : Prop :=
  x.1 ≤ 70 ∧ x.2.1 ≤ 5 ∧ num x.2.2 x.1 + x.2.1 * 256 ^ x.1 = num w2 x.1 + 5 * num h x.1 ∧ (∀ j, j < x.1 → x.2.2 j < 256) ∧ ∀ j, x.1 ≤ j → x.2.2 j = w2 j
def InvW (R : Nat) (w : Nat → Nat) : Prop := (∀ j, j < 70 → w j < 256) ∧ num w 70 % pP = R
theorem invH_step {V i v : Nat} {h : Nat → Nat} {s s' : Bool} (hi : i < 70) (hI : InvH V (i, h, s)) (hv : v = dgN (hiV V) (i - 16)) (hs : s' = true ↔ (s = true ∨ 0 < v)) : InvH V (i + 1, upd h (i - 16) v, s') := by
  obtain ⟨h1, h2, h3, h4, h5⟩ := hI
  simp only at h1 h2 h3 h4 h5
  refine ⟨by simp only; omega, by simp only; omega, fun m hm => ?_, fun m hm => ?_, ?_⟩
  · simp only at hm ⊢
    by_cases e : m = i - 16
    · subst e; rw [upd_same, hv]
    · rw [upd_ne _ _ e]; exact h3 m (by omega)
  · simp only at hm ⊢
    rw [upd_ne _ _ (by omega)]; exact h4 m (by omega)
  · simp only
    rw [hs, h5]
    constructor
    · rintro (⟨m, hm, hp⟩ | hp)
      · exact ⟨m, by omega, by rw [upd_ne _ _ (by omega)]; exact hp⟩
      · exact ⟨i - 16, by omega, by rw [upd_same]; exact hp⟩
    · rintro ⟨m, hm, hp⟩
      by_cases e : m = i - 16
      · subst e; rw [upd_same] at hp; exact .inr hp
      · rw [upd_ne _ _ e] at hp; exact .inl ⟨m, by omega, hp⟩
theorem hiV_lt {V : Nat} (h : V < 256 ^ 70) : hiV V < 256 ^ 54 := by
  have e : (256 : Nat) ^ 70 = 1361129467683753853853498429727072845824 * (64 * 256 ^ 53) := by decide
  rw [e] at h
  have h2 : hiV V < 64 * 256 ^ 53 := (Nat.div_lt_iff_lt_mul (by decide)).2 (by rw [Nat.mul_comm]; exact h)
  exact Nat.lt_of_lt_of_le h2 (by decide)
theorem invH_end {V : Nat} (hV : V < 256 ^ 70) {h : Nat → Nat} {s : Bool} (hI : InvH V (70, h, s)) : num h 70 = hiV V ∧ (∀ j, h j < 256) ∧ (s = true ↔ 0 < hiV V) := by
  obtain ⟨h1, h2, h3, h4, h5⟩ := hI
  simp only at h1 h2 h3 h4 h5
  have e54 : num h 54 = hiV V := by
    rw [num_congr (n := 54) fun j hj => h3 j hj, num_dgN, Nat.mod_eq_of_lt (hiV_lt hV)]
  refine ⟨?_, fun j => ?_, ?_⟩
  · rw [show 70 = 54 + 16 from rfl, num_split 54, e54, num_zero (n := 16) fun j hj => h4 (54 + j) (by omega)]; rfl
  · by_cases hj : j < 54
    · rw [h3 j hj]; exact dgN_lt
    · rw [h4 j (by omega)]; decide
  · rw [h5]
    constructor
    · rintro ⟨m, hm, hp⟩
      rcases Nat.eq_zero_or_pos (hiV V) with e | e
      · rw [h3 m hm, e] at hp; simp [dgN] at hp
      · exact e
    · intro hp
      by_cases hex : ∃ m, m < 54 ∧ 0 < h m
      · exact hex
      · exfalso
        have : num h 54 = 0 := num_zero fun j hj => by
          rcases Nat.eq_zero_or_pos (h j) with e | e
          · exact e
          · exact absurd ⟨j, hj, e⟩ hex
        omega
theorem invC_step {w2 h g : Nat → Nat} {i c : Nat} (hi : i < 70) (hw : w2 i < 256) (hh : h i < 256) (hI : InvC w2 h (i, c, g)) :
    InvC w2 h (i + 1, (c + g i + 5 * h i) / 256, upd g i ((c + g i + 5 * h i) % 256)) := by
  obtain ⟨h1, h2, h3, h4, h5⟩ := hI
  simp only at h1 h2 h3 h4 h5
  have hg := h5 i (Nat.le_refl _)
  refine ⟨hi, by simp only; rw [hg]; omega, ?_, fun j hj => ?_, fun j hj => ?_⟩
  · simp only [num]
    rw [num_upd_ge (Nat.le_refl _), upd_same, Nat.pow_succ, ← hg]
    generalize 256 ^ i = B at *
    have := Nat.mod_add_div (c + g i + 5 * h i) 256
    generalize (c + g i + 5 * h i) / 256 = q at *
    generalize (c + g i + 5 * h i) % 256 = r at *
    have e : (r + 256 * q) * B = (c + g i + 5 * h i) * B := by rw [this]
    grind
  · simp only at hj ⊢
    by_cases e : j = i
    · subst e; rw [upd_same]; omega
    · rw [upd_ne _ _ e]; exact h4 j (by omega)
  · simp only at hj ⊢
    rw [upd_ne _ _ (by omega)]; exact h5 j (by omega)
theorem invC_end {w h g : Nat → Nat} {c : Nat} (hw : ∀ j, j < 70 → w j < 256) (hh : num h 70 = hiV (num w 70)) (hI : InvC (lowF w) h (70, c, g)) : (∀ j, j < 70 → g j < 256) ∧ num g 70 = red (num w 70) := by
  obtain ⟨h1, h2, h3, h4, h5⟩ := hI
  simp only at h1 h2 h3 h4 h5
  refine ⟨h4, ?_⟩
  rw [lowF_num hw, hh] at h3
  have hlt : num w 70 < 256 ^ 70 := num_lt hw
  have hr : num w 70 % 1361129467683753853853498429727072845824 + 5 * hiV (num w 70) < 256 ^ 70 := by
    have a1 := Nat.mod_lt (num w 70) (show 0 < 1361129467683753853853498429727072845824 by decide)
    have a2 := hiV_lt hlt
    have a3 : 1361129467683753853853498429727072845824 + 5 * 256 ^ 54 ≤ 256 ^ 70 := by decide
    generalize hiV (num w 70) = x at *
    generalize num w 70 % 1361129467683753853853498429727072845824 = y at *
    generalize (256 : Nat) ^ 54 = z at *
    omega
  have hc : c = 0 := by
    rcases Nat.eq_zero_or_pos c with e | e
    · exact e
    · have : 256 ^ 70 ≤ c * 256 ^ 70 := Nat.le_mul_of_pos_left _ e
      omega
  rw [hc, Nat.zero_mul, Nat.add_zero] at h3
  exact h3
def InvF (w : Nat → Nat) (x : Nat × Bool) : Prop := 1 ≤ x.1 ∧ x.1 ≤ 16 ∧ (x.2 = true ↔ w 16 = 3 ∧ ∀ j, 1 ≤ j → j < x.1 → w j = 255)
theorem invF_step {w : Nat → Nat} {i : Nat} {b b' : Bool} (hi : i < 16) (hI : InvF w (i, b)) (hb : b' = true ↔ (b = true ∧ w i = 255)) : InvF w (i + 1, b') := by
  obtain ⟨h1, h2, h3⟩ := hI
  simp only at h1 h2 h3
  refine ⟨by simp only; omega, by simp only; omega, ?_⟩
  simp only
  rw [hb, h3]
  constructor
  · rintro ⟨⟨k1, k2⟩, k3⟩
    refine ⟨k1, fun j hj1 hj2 => ?_⟩
    by_cases e : j = i
    · subst e; exact k3
    · exact k2 j hj1 (by omega)
  · rintro ⟨k1, k2⟩
    exact ⟨⟨k1, fun j hj1 hj2 => k2 j hj1 (by omega)⟩, k2 i h1 (by omega)⟩
/-- The number less 2^130 - 5, if it goes. -/
theorem fin_big {w : Nat → Nat} (hw : ∀ j, j < 70 → w j < 256) (hV : num w 70 < 1361129467683753853853498429727072845824) :
    (w 16 = 3 ∧ (∀ j, 1 ≤ j → j < 16 → w j = 255) ∧ 251 ≤ w 0 → ∀ j, upd (fun _ => 0) 0 (w 0 - 251) j = dgN (num w 70 % pP) j) ∧
    (¬ (w 16 = 3 ∧ (∀ j, 1 ≤ j → j < 16 → w j = 255) ∧ 251 ≤ w 0) → num w 70 % pP = num w 70) := by
  have e17 : num w 70 = num w 17 := by
    have := num_split (f := w) 17 53
    rw [show 17 + 53 = 70 from rfl] at this
    have h1 : num w 17 < 256 ^ 17 := num_lt fun j hj => hw j (by omega)
    rcases Nat.eq_zero_or_pos (num (fun j => w (17 + j)) 53) with e | e
    · rw [this, e]; omega
    · have h3 : 256 ^ 17 ≤ 256 ^ 17 * num (fun j => w (17 + j)) 53 := Nat.le_mul_of_pos_right _ e
      have h4 : (256 : Nat) ^ 17 = 87112285931760246646623899502532662132736 := by decide
      omega
  have e16 : num w 17 = num w 16 + w 16 * 340282366920938463463374607431768211456 := by
    show num w 16 + w 16 * 256 ^ 16 = _
    rw [show (256 : Nat) ^ 16 = 340282366920938463463374607431768211456 by decide]
  have e15 : num w 16 = w 0 + 256 * num (fun j => w (1 + j)) 15 := num_head w 15
  have b15 : num (fun j => w (1 + j)) 15 < 256 ^ 15 := num_lt fun j hj => hw (1 + j) (by omega)
  have h15 : (256 : Nat) ^ 15 = 1329227995784915872903807060280344576 := by decide
  have h0 := hw 0 (by decide)
  have full : num (fun _ => 255) 15 = 1329227995784915872903807060280344575 := by decide
  rw [h15] at b15
  constructor
  · rintro ⟨k1, k2, k3⟩ j
    have e : num (fun j => w (1 + j)) 15 = 1329227995784915872903807060280344575 := by
      rw [← full]; exact num_congr fun j hj => k2 (1 + j) (by omega) (by omega)
    have hn : num w 70 % pP = w 0 - 251 := by
      rw [e17, e16, e15, e, k1]
      unfold pP
      generalize w 0 = a at *
      omega
    rw [hn]
    by_cases hj : j = 0
    · subst hj; rw [upd_same]; unfold dgN; rw [Nat.pow_zero, Nat.div_one]; omega
    · rw [upd_ne _ _ hj]
      refine (dgN_zero (Nat.lt_of_lt_of_le (show w 0 - 251 < 256 ^ 1 by omega) (Nat.pow_le_pow_right (by decide) (by omega)))).symm
  · intro hn
    refine Nat.mod_eq_of_lt ?_
    rw [e17, e16, e15] at hV ⊢
    by_cases k1 : w 16 = 3
    · by_cases k2 : num (fun j => w (1 + j)) 15 = 1329227995784915872903807060280344575
      · have k3 : ∀ j, 1 ≤ j → j < 16 → w j = 255 := fun j hj1 hj2 => by
          have := num_inj (f := fun j => w (1 + j)) (g := fun _ => 255) (n := 15) (fun j hj => hw (1 + j) (by omega)) (fun _ _ => by decide) (by rw [k2, full]) (j := j - 1) (by omega)
          rw [show 1 + (j - 1) = j by omega] at this
          exact this
        have k4 : ¬ 251 ≤ w 0 := fun h => hn ⟨k1, k3, h⟩
        rw [k1, k2]
        show w 0 + 256 * 1329227995784915872903807060280344575 + 3 * 340282366920938463463374607431768211456 < 1361129467683753853853498429727072845819
        clear hV e17 e16 e15 b15 full k1 k2 k3 hn hw
        omega
      · rw [k1]
        show w 0 + 256 * num (fun j => w (1 + j)) 15 + 3 * 340282366920938463463374607431768211456 < 1361129467683753853853498429727072845819
        clear hV e17 e16 e15 full k1 hn hw
        omega
    · have : w 16 < 3 := by omega
      show w 0 + 256 * num (fun j => w (1 + j)) 15 + w 16 * 340282366920938463463374607431768211456 < 1361129467683753853853498429727072845819
      clear hV e17 e16 e15 full hn hw k1
      omega

def cFold' : List AV → Option (List Prop × AV)
  | [.v1 (.agg [.ws .i64 70 w])] => some ([∀ j, j < 70 → w j < 256], .v1 (.agg [.ws .i64 34 (dgN (num w 70 % pP))]))
  | _ => none
abbrev ptA (b : Nat) : AV := .v1 (.sc (.pt b 0))
abbrev boA (b : Bool) : AV := .v1 (.sc (.bo b))
abbrev zI : Nat → Nat := fun _ => 0
theorem okFold' : (CallC.pure cFold').Ok Try.prog 55 := by
  intro args pre v e hp
  unfold cFold' at e
  split at e
  rotate_left
  · cases e
  rename_i w0
  cases e
  have hw0 : ∀ j, j < 70 → w0 j < 256 := hp _ (List.mem_cons_self ..)
  refine pure_walk' tt_ok Try.func55 (by kernel_rfl) (by kernel_rfl) (by rfl) (by rfl) ?_
  generalize hR : num w0 70 % pP = R
  refine loopK mixed tt_ok (G := ctxL []) ctxL_nil 0 (by kernel_rfl) (ι := {w // InvW R w}) [1,2] 113 2 (fun _ => [ptA 0, ptA 1]) (fun w => [iB70 w.1, iB34 zI]) (fun w => num w.1 70) (fun w => num w.1 70 < 1361129467683753853853498429727072845824)
    (fun _ => rfl) (fun _ => by kernel_rfl) (fun _ _ h => h.elim) 100 [] ?_ ?_ ?_
  · refine same (p := true = true ∧ ∃ j : {w // InvW R w}, [ptA 0, ptA 1] = [ptA 0, ptA 1] ∧ [iB70 w0, iB34 zI] = [iB70 j.1, iB34 zI]) ?_ (by kernel_rfl)
    exact ⟨rfl, ⟨w0, hw0, hR⟩, rfl, rfl⟩
  · intro ⟨w, hw, hwR⟩ junk
    have hV : num w 70 < 256 ^ 70 := num_lt hw
    refine inB0 (id := 1) (body := blkOf (atB (flatC (loopOf (atK 0 (flatC (bodyOf Try.f55))))))) (by kernel_rfl) ?_
    refine loopK mixed tt_ok (G := ctxL []) ctxL_nil 0 (by kernel_rfl) (ι := {x // InvH (num w 70) x}) [1,2,3,4,5] 113 3 (fun x => [ptA 0, ptA 1, ptA 2, boA x.1.2.2, iv (Int.ofNat x.1.1)]) (fun x => [iB70 w, iB34 zI, iB70 x.1.2.1]) (fun x => 70 - x.1.1) (fun x => x.1.1 = 70)
      (fun _ => rfl) (fun _ => by kernel_rfl) (fun _ _ h => h.elim) 100 [] ?_ ?_ ?_
    · refine same (p := true = true ∧ ∃ j : {x // InvH (num w 70) x}, [ptA 0, ptA 1, ptA 2, boA false, iv (Int.ofNat 16)] = [ptA 0, ptA 1, ptA 2, boA j.1.2.2, iv (Int.ofNat j.1.1)] ∧ [iB70 w, iB34 zI, iB70 zI] = [iB70 w, iB34 zI, iB70 j.1.2.1]) ?_ (by kernel_rfl)
      exact ⟨rfl, ⟨(16, zI, false), by decide, by decide, fun m hm => absurd hm (by simp), fun _ _ => rfl, by simp⟩, rfl, rfl⟩
    · intro ⟨⟨i, h, s⟩, hI⟩ junk
      have h1 := hI.1
      have h2 := hI.2.1
      have hh4 := hI.2.2.2.1 (i - 16) (Nat.le_refl _)
      simp only at h1 h2 hh4
      by_cases hi : i < 70
      · have hwi := hw i hi
        have hd := dig130 hw h1 hi
        have e1 := wrapI_nadd (a := i) (b := 1) (by omega)
        have e2 := wrapI_nsub (a := i) (b := 16) h1 (by omega)
        have e3 := wrapI_ndiv (a := w i) (b := 4) (by omega)
        by_cases hl : i + 1 < 70
        · have hw1 := hw (i + 1) hl
          cases s
          · refine roundF mixed tt_ok (G := ctxL []) ctxL_nil 100 [⟨4,1,.lit (.bo true)⟩,⟨7,1,.lit (.it (Int.ofNat (i+1)))⟩,⟨7,2,.lit (.bo true)⟩,⟨8,1,.lit (.it (Int.ofNat (i+1)))⟩,⟨8,2,.sym⟩,⟨8,3,.sym⟩,⟨9,1,.lit (.it (Int.ofNat (i-16)))⟩,⟨9,3,.sym⟩,⟨9,4,.sym⟩,⟨9,5,.lit (.it (Int.ofNat (w i/4)))⟩,⟨9,7,.lit (.it (Int.ofNat (w (i + 1)%4)))⟩,⟨9,8,.lit (.it (Int.ofNat (w (i + 1)%4*64)))⟩,⟨9,9,.lit (.it (Int.ofNat (w i/4+w (i + 1)%4*64)))⟩,⟨9,10,.sym⟩,⟨9,11,.sym⟩,⟨10,3,.lit (.it (Int.ofNat (i-16)))⟩,⟨10,4,.sym⟩,⟨10,5,.sym⟩,⟨5,1,.lit (.it (Int.ofNat (i+1)))⟩] ?_
            refine same (p := ilt (Int.ofNat i) 70 = true ∧ wrapI (Int.ofNat i + 1) = Int.ofNat (i + 1) ∧ ilt (Int.ofNat (i + 1)) 70 = true ∧ wrapI (Int.ofNat i + 1) = Int.ofNat (i + 1) ∧ ix (i + 1) 70 (wrapI (Int.ofNat i - 16) = Int.ofNat (i - 16) ∧ ix (i) 70 (wrapI ((Int.ofNat (w i)).tdiv 4) = Int.ofNat (w i / 4) ∧ (Int.ofNat (w (i + 1))).tmod 4 = Int.ofNat (w (i + 1) % 4) ∧ wrapI (Int.ofNat (w (i + 1) % 4) * 64) = Int.ofNat (w (i + 1) % 4 * 64) ∧ wrapI (Int.ofNat (w i / 4) + Int.ofNat (w (i + 1) % 4 * 64)) = Int.ofNat (w i / 4 + w (i + 1) % 4 * 64) ∧ ix (i - 16) 70 (wrapI (Int.ofNat i - 16) = Int.ofNat (i - 16) ∧ ix (i - 16) 70 (wrapI (Int.ofNat i + 1) = Int.ofNat (i + 1) ∧ true = true ∧ ∃ j : {x // InvH (num w 70) x}, 70 - j.1.1 < 70 - i ∧ [ptA 0, ptA 1, ptA 2, boA (ilt 0 (Int.ofNat (upd h (i - 16) (w i / 4 + w (i + 1) % 4 * 64) (i - 16)))), iv (Int.ofNat (i + 1))] = [ptA 0, ptA 1, ptA 2, boA j.1.2.2, iv (Int.ofNat j.1.1)] ∧ [iB70 w, iB34 zI, iB70 (upd h (i - 16) (w i / 4 + w (i + 1) % 4 * 64))] = [iB70 w, iB34 zI, iB70 j.1.2.1]))))) ?_ (by kernel_rfl)
            exact ⟨ilt_t (n := 70) hi, ⟨e1, ⟨ilt_t (n := 70) hl, ⟨e1, ix_of hl (⟨e2, ix_of hi (⟨e3, ⟨rfl, ⟨wrapI_nmul (a := w (i + 1) % 4) (b := 64) (by omega), ⟨wrapI_nadd (a := w i / 4) (b := w (i + 1) % 4 * 64) (by omega), ix_of (by omega) (⟨e2, ix_of (by omega) (⟨e1, ⟨rfl, ⟨⟨(i + 1, upd h (i - 16) (w i / 4 + w (i + 1) % 4 * 64), (ilt 0 (Int.ofNat (upd h (i - 16) (w i / 4 + w (i + 1) % 4 * 64) (i - 16))))), invH_step hi hI (by rw [hd]; rw [if_pos hl]) (by rw [upd_same, ilt_iff]; simp only [Int.ofNat_eq_natCast, Bool.false_eq_true, false_or]; omega)⟩, by simp only; omega, rfl, rfl⟩⟩⟩)⟩)⟩⟩⟩⟩)⟩)⟩⟩⟩⟩
          · refine roundF mixed tt_ok (G := ctxL []) ctxL_nil 100 [⟨4,1,.lit (.bo true)⟩,⟨7,1,.lit (.it (Int.ofNat (i+1)))⟩,⟨7,2,.lit (.bo true)⟩,⟨8,1,.lit (.it (Int.ofNat (i+1)))⟩,⟨8,2,.sym⟩,⟨8,3,.sym⟩,⟨9,1,.lit (.it (Int.ofNat (i-16)))⟩,⟨9,3,.sym⟩,⟨9,4,.sym⟩,⟨9,5,.lit (.it (Int.ofNat (w i/4)))⟩,⟨9,7,.lit (.it (Int.ofNat (w (i + 1)%4)))⟩,⟨9,8,.lit (.it (Int.ofNat (w (i + 1)%4*64)))⟩,⟨9,9,.lit (.it (Int.ofNat (w i/4+w (i + 1)%4*64)))⟩,⟨9,10,.sym⟩,⟨9,11,.sym⟩,⟨10,3,.lit (.it (Int.ofNat (i-16)))⟩,⟨10,4,.sym⟩,⟨10,5,.sym⟩,⟨5,1,.lit (.it (Int.ofNat (i+1)))⟩] ?_
            refine same (p := ilt (Int.ofNat i) 70 = true ∧ wrapI (Int.ofNat i + 1) = Int.ofNat (i + 1) ∧ ilt (Int.ofNat (i + 1)) 70 = true ∧ wrapI (Int.ofNat i + 1) = Int.ofNat (i + 1) ∧ ix (i + 1) 70 (wrapI (Int.ofNat i - 16) = Int.ofNat (i - 16) ∧ ix (i) 70 (wrapI ((Int.ofNat (w i)).tdiv 4) = Int.ofNat (w i / 4) ∧ (Int.ofNat (w (i + 1))).tmod 4 = Int.ofNat (w (i + 1) % 4) ∧ wrapI (Int.ofNat (w (i + 1) % 4) * 64) = Int.ofNat (w (i + 1) % 4 * 64) ∧ wrapI (Int.ofNat (w i / 4) + Int.ofNat (w (i + 1) % 4 * 64)) = Int.ofNat (w i / 4 + w (i + 1) % 4 * 64) ∧ ix (i - 16) 70 (wrapI (Int.ofNat i + 1) = Int.ofNat (i + 1) ∧ true = true ∧ ∃ j : {x // InvH (num w 70) x}, 70 - j.1.1 < 70 - i ∧ [ptA 0, ptA 1, ptA 2, boA true, iv (Int.ofNat (i + 1))] = [ptA 0, ptA 1, ptA 2, boA j.1.2.2, iv (Int.ofNat j.1.1)] ∧ [iB70 w, iB34 zI, iB70 (upd h (i - 16) (w i / 4 + w (i + 1) % 4 * 64))] = [iB70 w, iB34 zI, iB70 j.1.2.1])))) ?_ (by kernel_rfl)
            exact ⟨ilt_t (n := 70) hi, ⟨e1, ⟨ilt_t (n := 70) hl, ⟨e1, ix_of hl (⟨e2, ix_of hi (⟨e3, ⟨rfl, ⟨wrapI_nmul (a := w (i + 1) % 4) (b := 64) (by omega), ⟨wrapI_nadd (a := w i / 4) (b := w (i + 1) % 4 * 64) (by omega), ix_of (by omega) (⟨e1, ⟨rfl, ⟨⟨(i + 1, upd h (i - 16) (w i / 4 + w (i + 1) % 4 * 64), true), invH_step hi hI (by rw [hd]; rw [if_pos hl]) (by simp)⟩, by simp only; omega, rfl, rfl⟩⟩⟩)⟩⟩⟩⟩)⟩)⟩⟩⟩⟩
        · skip
          cases s
          · refine roundF mixed tt_ok (G := ctxL []) ctxL_nil 100 [⟨4,1,.lit (.bo true)⟩,⟨7,1,.lit (.it (Int.ofNat (i+1)))⟩,⟨7,2,.lit (.bo false)⟩,⟨9,1,.lit (.it (Int.ofNat (i-16)))⟩,⟨9,3,.sym⟩,⟨9,4,.sym⟩,⟨9,5,.lit (.it (Int.ofNat (w i/4)))⟩,⟨9,7,.lit (.it (Int.ofNat (0%4)))⟩,⟨9,8,.lit (.it (Int.ofNat (0%4*64)))⟩,⟨9,9,.lit (.it (Int.ofNat (w i/4+0%4*64)))⟩,⟨9,10,.sym⟩,⟨9,11,.sym⟩,⟨10,3,.lit (.it (Int.ofNat (i-16)))⟩,⟨10,4,.sym⟩,⟨10,5,.sym⟩,⟨5,1,.lit (.it (Int.ofNat (i+1)))⟩] ?_
            refine same (p := ilt (Int.ofNat i) 70 = true ∧ wrapI (Int.ofNat i + 1) = Int.ofNat (i + 1) ∧ ilt (Int.ofNat (i + 1)) 70 = false ∧ wrapI (Int.ofNat i - 16) = Int.ofNat (i - 16) ∧ ix (i) 70 (wrapI ((Int.ofNat (w i)).tdiv 4) = Int.ofNat (w i / 4) ∧ (Int.ofNat (0)).tmod 4 = Int.ofNat (0 % 4) ∧ wrapI (Int.ofNat (0 % 4) * 64) = Int.ofNat (0 % 4 * 64) ∧ wrapI (Int.ofNat (w i / 4) + Int.ofNat (0 % 4 * 64)) = Int.ofNat (w i / 4 + 0 % 4 * 64) ∧ ix (i - 16) 70 (wrapI (Int.ofNat i - 16) = Int.ofNat (i - 16) ∧ ix (i - 16) 70 (wrapI (Int.ofNat i + 1) = Int.ofNat (i + 1) ∧ true = true ∧ ∃ j : {x // InvH (num w 70) x}, 70 - j.1.1 < 70 - i ∧ [ptA 0, ptA 1, ptA 2, boA (ilt 0 (Int.ofNat (upd h (i - 16) (w i / 4 + 0 % 4 * 64) (i - 16)))), iv (Int.ofNat (i + 1))] = [ptA 0, ptA 1, ptA 2, boA j.1.2.2, iv (Int.ofNat j.1.1)] ∧ [iB70 w, iB34 zI, iB70 (upd h (i - 16) (w i / 4 + 0 % 4 * 64))] = [iB70 w, iB34 zI, iB70 j.1.2.1])))) ?_ (by kernel_rfl)
            exact ⟨ilt_t (n := 70) hi, ⟨e1, ⟨ilt_f (n := 70) hl, ⟨e2, ix_of hi (⟨e3, ⟨rfl, ⟨wrapI_nmul (a := 0 % 4) (b := 64) (by omega), ⟨wrapI_nadd (a := w i / 4) (b := 0 % 4 * 64) (by omega), ix_of (by omega) (⟨e2, ix_of (by omega) (⟨e1, ⟨rfl, ⟨⟨(i + 1, upd h (i - 16) (w i / 4 + 0 % 4 * 64), (ilt 0 (Int.ofNat (upd h (i - 16) (w i / 4 + 0 % 4 * 64) (i - 16))))), invH_step hi hI (by rw [hd]; rw [if_neg hl]) (by rw [upd_same, ilt_iff]; simp only [Int.ofNat_eq_natCast, Bool.false_eq_true, false_or]; omega)⟩, by simp only; omega, rfl, rfl⟩⟩⟩)⟩)⟩⟩⟩⟩)⟩⟩⟩⟩
          · refine roundF mixed tt_ok (G := ctxL []) ctxL_nil 100 [⟨4,1,.lit (.bo true)⟩,⟨7,1,.lit (.it (Int.ofNat (i+1)))⟩,⟨7,2,.lit (.bo false)⟩,⟨9,1,.lit (.it (Int.ofNat (i-16)))⟩,⟨9,3,.sym⟩,⟨9,4,.sym⟩,⟨9,5,.lit (.it (Int.ofNat (w i/4)))⟩,⟨9,7,.lit (.it (Int.ofNat (0%4)))⟩,⟨9,8,.lit (.it (Int.ofNat (0%4*64)))⟩,⟨9,9,.lit (.it (Int.ofNat (w i/4+0%4*64)))⟩,⟨9,10,.sym⟩,⟨9,11,.sym⟩,⟨10,3,.lit (.it (Int.ofNat (i-16)))⟩,⟨10,4,.sym⟩,⟨10,5,.sym⟩,⟨5,1,.lit (.it (Int.ofNat (i+1)))⟩] ?_
            refine same (p := ilt (Int.ofNat i) 70 = true ∧ wrapI (Int.ofNat i + 1) = Int.ofNat (i + 1) ∧ ilt (Int.ofNat (i + 1)) 70 = false ∧ wrapI (Int.ofNat i - 16) = Int.ofNat (i - 16) ∧ ix (i) 70 (wrapI ((Int.ofNat (w i)).tdiv 4) = Int.ofNat (w i / 4) ∧ (Int.ofNat (0)).tmod 4 = Int.ofNat (0 % 4) ∧ wrapI (Int.ofNat (0 % 4) * 64) = Int.ofNat (0 % 4 * 64) ∧ wrapI (Int.ofNat (w i / 4) + Int.ofNat (0 % 4 * 64)) = Int.ofNat (w i / 4 + 0 % 4 * 64) ∧ ix (i - 16) 70 (wrapI (Int.ofNat i + 1) = Int.ofNat (i + 1) ∧ true = true ∧ ∃ j : {x // InvH (num w 70) x}, 70 - j.1.1 < 70 - i ∧ [ptA 0, ptA 1, ptA 2, boA true, iv (Int.ofNat (i + 1))] = [ptA 0, ptA 1, ptA 2, boA j.1.2.2, iv (Int.ofNat j.1.1)] ∧ [iB70 w, iB34 zI, iB70 (upd h (i - 16) (w i / 4 + 0 % 4 * 64))] = [iB70 w, iB34 zI, iB70 j.1.2.1]))) ?_ (by kernel_rfl)
            exact ⟨ilt_t (n := 70) hi, ⟨e1, ⟨ilt_f (n := 70) hl, ⟨e2, ix_of hi (⟨e3, ⟨rfl, ⟨wrapI_nmul (a := 0 % 4) (b := 64) (by omega), ⟨wrapI_nadd (a := w i / 4) (b := 0 % 4 * 64) (by omega), ix_of (by omega) (⟨e1, ⟨rfl, ⟨⟨(i + 1, upd h (i - 16) (w i / 4 + 0 % 4 * 64), true), invH_step hi hI (by rw [hd]; rw [if_neg hl]) (by simp)⟩, by simp only; omega, rfl, rfl⟩⟩⟩)⟩⟩⟩⟩)⟩⟩⟩⟩
      · have hi70 : i = 70 := by omega
        subst hi70
        refine roundF mixed tt_ok (G := ctxL []) ctxL_nil 100 [] ?_
        refine same (p := true = true ∧ ∃ j : {x // InvH (num w 70) x}, j.1.1 = 70 ∧ [ptA 0, ptA 1, ptA 2, boA s, iv (Int.ofNat 70)] = [ptA 0, ptA 1, ptA 2, boA j.1.2.2, iv (Int.ofNat j.1.1)] ∧ [iB70 w, iB34 zI, iB70 h] = [iB70 w, iB34 zI, iB70 j.1.2.1]) ?_ (by kernel_rfl)
        exact ⟨rfl, ⟨(70, h, s), hI⟩, rfl, rfl, rfl⟩
    · intro ⟨⟨i, h, s⟩, hI⟩ junk hi70
      simp only at hi70
      subst hi70
      obtain ⟨hn, hb, hs⟩ := invH_end hV hI
      cases s
      · have h0 : hiV (num w 70) = 0 := by
          rcases Nat.eq_zero_or_pos (hiV (num w 70)) with e | e
          · exact e
          · exact absurd (hs.2 e) (by simp)
        refine evS_q mixed tt_ok (G := ctxL []) ctxL_nil 500 [] (same (p := true = true ∧ ∃ j : {w // InvW R w}, num j.1 70 < 1361129467683753853853498429727072845824 ∧ [ptA 0, ptA 1] = [ptA 0, ptA 1] ∧ [iB70 w, iB34 zI] = [iB70 j.1, iB34 zI]) ?_ (by kernel_rfl))
        exact ⟨rfl, ⟨w, hw, hwR⟩, (Nat.div_eq_zero_iff.1 h0).resolve_left (by decide), rfl, rfl⟩
      · have h0 := hs.1 rfl
        have hbig : 1361129467683753853853498429727072845824 ≤ num w 70 := by
          rcases Nat.lt_or_ge (num w 70) 1361129467683753853853498429727072845824 with e | e
          · rw [show hiV (num w 70) = 0 from Nat.div_eq_of_lt e] at h0; omega
          · exact e
        have h16 := hw 16 (by decide)
        refine loopK mixed tt_ok (G := ctxL []) ctxL_nil 1 (by kernel_rfl) (ι := {x // InvC (lowF w) h x}) [1,2,3,8,9] 113 3 (fun x => [ptA 0, ptA 1, ptA 2, iv (Int.ofNat x.1.2.1), iv (Int.ofNat x.1.1)]) (fun x => [iB70 x.1.2.2, iB34 zI, iB70 h]) (fun x => 70 - x.1.1) (fun x => x.1.1 = 70)
          (fun _ => rfl) (fun _ => by kernel_rfl) (fun _ _ h => h.elim) 4000 [⟨16,2,.lit (.it (Int.ofNat (w 16 % 4)))⟩] ?_ ?_ ?_
        · refine same (p := (Int.ofNat (w 16)).tmod 4 = Int.ofNat (w 16 % 4) ∧ true = true ∧ ∃ j : {x // InvC (lowF w) h x}, [ptA 0, ptA 1, ptA 2, iv (Int.ofNat 0), iv (Int.ofNat 0)] = [ptA 0, ptA 1, ptA 2, iv (Int.ofNat j.1.2.1), iv (Int.ofNat j.1.1)] ∧ [iB70 (lowF w), iB34 zI, iB70 h] = [iB70 j.1.2.2, iB34 zI, iB70 h]) ?_ (by kernel_rfl)
          exact ⟨rfl, rfl, ⟨(0, 0, lowF w), show 0 ≤ 70 by decide, show 0 ≤ 5 by decide, rfl, fun j hj => absurd hj (by simp), fun _ _ => rfl⟩, rfl, rfl⟩
        · intro ⟨⟨i, c, g⟩, hC⟩ junk
          have h1 := hC.1
          have hc5 := hC.2.1
          have hg := hC.2.2.2.2 i (Nat.le_refl _)
          simp only at h1 hc5 hg
          by_cases hi : i < 70
          · have hl := lowF_lt hw i hi
            have hhi := hb i
            refine roundF mixed tt_ok (G := ctxL []) ctxL_nil 100 [⟨19,1,.lit (.bo true)⟩,⟨21,2,.sym⟩,⟨21,3,.sym⟩,⟨21,4,.lit (.it (Int.ofNat (c + g i)))⟩,⟨21,6,.sym⟩,⟨21,7,.sym⟩,⟨21,8,.lit (.it (Int.ofNat (5 * h i)))⟩,⟨21,9,.lit (.it (Int.ofNat (c + g i + 5 * h i)))⟩,⟨22,2,.lit (.it (Int.ofNat ((c + g i + 5 * h i) % 256)))⟩,⟨22,3,.sym⟩,⟨22,4,.sym⟩,⟨23,1,.lit (.it (Int.ofNat ((c + g i + 5 * h i) / 256)))⟩,⟨20,1,.lit (.it (Int.ofNat (i+1)))⟩] ?_
            refine same (p := ilt (Int.ofNat i) 70 = true ∧ ix i 70 (wrapI (Int.ofNat c + Int.ofNat (g i)) = Int.ofNat (c + g i) ∧ ix i 70 (wrapI (5 * Int.ofNat (h i)) = Int.ofNat (5 * h i) ∧ wrapI (Int.ofNat (c + g i) + Int.ofNat (5 * h i)) = Int.ofNat (c + g i + 5 * h i) ∧ (Int.ofNat (c + g i + 5 * h i)).tmod 256 = Int.ofNat ((c + g i + 5 * h i) % 256) ∧ ix i 70 (wrapI ((Int.ofNat (c + g i + 5 * h i)).tdiv 256) = Int.ofNat ((c + g i + 5 * h i) / 256) ∧ wrapI (Int.ofNat i + 1) = Int.ofNat (i + 1) ∧ true = true ∧
              ∃ j : {x // InvC (lowF w) h x}, 70 - j.1.1 < 70 - i ∧ [ptA 0, ptA 1, ptA 2, iv (Int.ofNat ((c + g i + 5 * h i) / 256)), iv (Int.ofNat (i + 1))] = [ptA 0, ptA 1, ptA 2, iv (Int.ofNat j.1.2.1), iv (Int.ofNat j.1.1)] ∧ [iB70 (upd g i ((c + g i + 5 * h i) % 256)), iB34 zI, iB70 h] = [iB70 j.1.2.2, iB34 zI, iB70 h])))) ?_ (by kernel_rfl)
            exact ⟨ilt_t (n := 70) hi, ix_of hi ⟨wrapI_nadd (by omega), ix_of hi ⟨wrapI_nmul (a := 5) (by omega), wrapI_nadd (by omega), rfl, ix_of hi ⟨wrapI_ndiv (b := 256) (by omega), wrapI_nadd (b := 1) (by omega), rfl, ⟨_, invC_step hi hl hhi hC⟩, by simp only; omega, rfl, rfl⟩⟩⟩⟩
          · have hi70 : i = 70 := by omega
            subst hi70
            refine roundF mixed tt_ok (G := ctxL []) ctxL_nil 100 [] ?_
            refine same (p := true = true ∧ ∃ j : {x // InvC (lowF w) h x}, j.1.1 = 70 ∧ [ptA 0, ptA 1, ptA 2, iv (Int.ofNat c), iv (Int.ofNat 70)] = [ptA 0, ptA 1, ptA 2, iv (Int.ofNat j.1.2.1), iv (Int.ofNat j.1.1)] ∧ [iB70 g, iB34 zI, iB70 h] = [iB70 j.1.2.2, iB34 zI, iB70 h]) ?_ (by kernel_rfl)
            exact ⟨rfl, ⟨(70, c, g), hC⟩, rfl, rfl, rfl⟩
        · intro ⟨⟨i, c, g⟩, hC⟩ junk hi70
          simp only at hi70
          subst hi70
          obtain ⟨hg1, hg2⟩ := invC_end hw hn hC
          refine evS_q mixed tt_ok (G := ctxL []) ctxL_nil 500 [] (same (p := true = true ∧ ∃ j : {w // InvW R w}, num j.1 70 < num w 70 ∧ [ptA 0, ptA 1] = [ptA 0, ptA 1] ∧ [iB70 g, iB34 zI] = [iB70 j.1, iB34 zI]) ?_ (by kernel_rfl))
          exact ⟨rfl, ⟨g, hg1, by rw [hg2, red_mod, hwR]⟩, by simp only; rw [hg2]; exact red_lt hbig, rfl, rfl⟩
  · intro ⟨w, hw, hwR⟩ junk hV
    simp only at hV
    obtain ⟨big, small⟩ := fin_big hw hV
    refine loopK mixed tt_ok (G := ctxL []) ctxL_nil 0 (by kernel_rfl) (ι := {x // InvF w x}) [1,2,10,11] 113 2 (fun x => [ptA 0, ptA 1, boA x.1.2, iv (Int.ofNat x.1.1)]) (fun x => [iB70 w, iB34 zI]) (fun x => 16 - x.1.1) (fun x => x.1.1 = 16)
      (fun _ => rfl) (fun _ => by kernel_rfl) (fun _ _ h => h.elim) 500 [] ?_ ?_ ?_
    · refine same (p := true = true ∧ ∃ j : {x // InvF w x}, [ptA 0, ptA 1, boA (ieq (Int.ofNat (w 16)) 3), iv (Int.ofNat 1)] = [ptA 0, ptA 1, boA j.1.2, iv (Int.ofNat j.1.1)] ∧ [iB70 w, iB34 zI] = [iB70 w, iB34 zI]) ?_ (by kernel_rfl)
      refine ⟨rfl, ⟨(1, ieq (Int.ofNat (w 16)) 3), show 1 ≤ 1 by decide, show 1 ≤ 16 by decide, ?_⟩, rfl, rfl⟩
      simp only
      rw [ieq_iff]
      constructor
      · intro h
        exact ⟨by simp only [Int.ofNat_eq_natCast] at h; omega, fun j h1 h2 => by omega⟩
      · rintro ⟨h, _⟩
        rw [h]; rfl
    · intro ⟨⟨i, b⟩, hF⟩ junk
      have h1 := hF.1
      have h2 := hF.2.1
      simp only at h1 h2
      by_cases hi : i < 16
      · have e1 := wrapI_nadd (a := i) (b := 1) (by omega)
        cases b
        · refine roundF mixed tt_ok (G := ctxL []) ctxL_nil 100 [⟨26,1,.lit (.bo true)⟩,⟨28,3,.sym⟩,⟨28,4,.sym⟩,⟨27,1,.lit (.it (Int.ofNat (i+1)))⟩] ?_
          refine same (p := ilt (Int.ofNat i) 16 = true ∧ wrapI (Int.ofNat i + 1) = Int.ofNat (i + 1) ∧ true = true ∧ ∃ j : {x // InvF w x}, 16 - j.1.1 < 16 - i ∧ [ptA 0, ptA 1, boA false, iv (Int.ofNat (i + 1))] = [ptA 0, ptA 1, boA j.1.2, iv (Int.ofNat j.1.1)] ∧ [iB70 w, iB34 zI] = [iB70 w, iB34 zI]) ?_ (by kernel_rfl)
          exact ⟨ilt_t (n := 16) hi, e1, rfl, ⟨(i + 1, false), invF_step hi hF (by simp)⟩, by simp only; omega, rfl, rfl⟩
        · refine roundF mixed tt_ok (G := ctxL []) ctxL_nil 100 [⟨26,1,.lit (.bo true)⟩,⟨28,3,.sym⟩,⟨28,4,.sym⟩,⟨27,1,.lit (.it (Int.ofNat (i+1)))⟩] ?_
          refine same (p := ilt (Int.ofNat i) 16 = true ∧ ix i 70 (wrapI (Int.ofNat i + 1) = Int.ofNat (i + 1) ∧ true = true ∧ ∃ j : {x // InvF w x}, 16 - j.1.1 < 16 - i ∧ [ptA 0, ptA 1, boA (ieq (Int.ofNat (w i)) 255), iv (Int.ofNat (i + 1))] = [ptA 0, ptA 1, boA j.1.2, iv (Int.ofNat j.1.1)] ∧ [iB70 w, iB34 zI] = [iB70 w, iB34 zI])) ?_ (by kernel_rfl)
          exact ⟨ilt_t (n := 16) hi, ix_of (by omega) ⟨e1, rfl, ⟨(i + 1, ieq (Int.ofNat (w i)) 255), invF_step hi hF (by rw [ieq_iff]; simp only [Int.ofNat_eq_natCast, true_and]; omega)⟩, by simp only; omega, rfl, rfl⟩⟩
      · have hi16 : i = 16 := by omega
        subst hi16
        refine roundF mixed tt_ok (G := ctxL []) ctxL_nil 100 [] ?_
        refine same (p := true = true ∧ ∃ j : {x // InvF w x}, j.1.1 = 16 ∧ [ptA 0, ptA 1, boA b, iv (Int.ofNat 16)] = [ptA 0, ptA 1, boA j.1.2, iv (Int.ofNat j.1.1)] ∧ [iB70 w, iB34 zI] = [iB70 w, iB34 zI]) ?_ (by kernel_rfl)
        exact ⟨rfl, ⟨(16, b), hF⟩, rfl, rfl, rfl⟩
    · intro ⟨⟨i, b⟩, hF⟩ junk hi16
      simp only at hi16
      subst hi16
      have hF3 := hF.2.2
      simp only at hF3
      have h00 := hw 0 (by decide)
      have hsm : ∀ (f : Nat → Nat), (∀ j, f j = dgN R j) → endN (.v1 (.agg [.ws .i64 34 (upN f 34)])) (.v1 (.agg [.ws .i64 34 (dgN R)])) := fun f hf => ⟨_, rfl, fun ρ => by
        show Value.agg (cvals ρ [.ws .i64 34 (upN f 34)]).toArray = Value.agg (cvals ρ [.ws .i64 34 (dgN R)]).toArray
        rw [wsi_val (g := dgN R) (fun j hj => by rw [upN_lt hj, hf]) ρ]⟩
      have hsm2 : (∀ j, j < 34 → w j = dgN R j) → endN (.v1 (.agg [.ws .i64 34 (upN w 34)])) (.v1 (.agg [.ws .i64 34 (dgN R)])) := fun hf => ⟨_, rfl, fun ρ => by
        show Value.agg (cvals ρ [.ws .i64 34 (upN w 34)]).toArray = Value.agg (cvals ρ [.ws .i64 34 (dgN R)]).toArray
        rw [wsi_val (g := dgN R) (fun j hj => by rw [upN_lt hj, hf j hj]) ρ]⟩
      have hno : ¬ (w 16 = 3 ∧ (∀ j, 1 ≤ j → j < 16 → w j = 255) ∧ 251 ≤ w 0) → ∀ j, j < 34 → w j = dgN R j := fun hn j hj => by
        rw [← hwR, small hn, num_dig hw (by omega)]
      cases b
      · refine evS_q mixed tt_ok (G := ctxL []) ctxL_nil 2000 [] (same (p := endN (.v1 (.agg [.ws .i64 34 (upN w 34)])) (.v1 (.agg [.ws .i64 34 (dgN R)]))) ?_ (by kernel_rfl))
        exact hsm2 (hno fun h => by
          have := hF3.2 ⟨h.1, h.2.1⟩
          cases this)
      · have hf := hF3.1 rfl
        by_cases hb : 251 ≤ w 0
        · refine evS_q mixed tt_ok (G := ctxL []) ctxL_nil 2000 [⟨29,4,.lit (.bo true)⟩,⟨30,2,.lit (.it (Int.ofNat (w 0 - 251)))⟩] (same (p := (!ilt (Int.ofNat (w 0)) 251) = true ∧ wrapI (Int.ofNat (w 0) - 251) = Int.ofNat (w 0 - 251) ∧ endN (.v1 (.agg [.ws .i64 34 (upN (upd (fun _ => 0) 0 (w 0 - 251)) 34)])) (.v1 (.agg [.ws .i64 34 (dgN R)]))) ?_ (by kernel_rfl))
          exact ⟨by show (!ilt (Int.ofNat (w 0)) (Int.ofNat 251)) = true; rw [ilt_f (n := 251) (i := w 0) (by omega)]; rfl, wrapI_nsub (a := w 0) (b := 251) hb (by omega), hsm _ fun j => by rw [big ⟨hf.1, hf.2, hb⟩ j, hwR]⟩
        · refine evS_q mixed tt_ok (G := ctxL []) ctxL_nil 2000 [⟨29,4,.lit (.bo false)⟩] (same (p := (!ilt (Int.ofNat (w 0)) 251) = false ∧ endN (.v1 (.agg [.ws .i64 34 (upN w 34)])) (.v1 (.agg [.ws .i64 34 (dgN R)]))) ?_ (by kernel_rfl))
          exact ⟨by show (!ilt (Int.ofNat (w 0)) (Int.ofNat 251)) = false; rw [ilt_t (n := 251) (i := w 0) (by omega)]; rfl, hsm2 (hno fun h => hb h.2.2)⟩
end Go.Proofs.Ytndmoidenbfflaa
