/- Poly1305 of the document: times. -/
import Derived.Test.YtndmoidenbfflaaC9
namespace Go.Proofs.Ytndmoidenbfflaa
open Go.Rq Go
set_option linter.unusedVariables false
set_option linter.unusedSimpArgs false
set_option maxRecDepth 100000
/-- i rows and k places of the next are added up. -/
def InvZ (x y : Nat → Nat) (i : Nat) (a : Nat × (Nat → Nat)) : Prop :=
  a.1 ≤ 34 ∧ num a.2 68 = num x i * num y 34 + x i * 256 ^ i * num y a.1 ∧ ∀ j, a.2 j ≤ (34 * i + a.1) * 65025
def InvR (x y : Nat → Nat) (a : Nat × (Nat → Nat)) : Prop :=
  a.1 ≤ 34 ∧ num a.2 68 = num x a.1 * num y 34 ∧ ∀ j, a.2 j ≤ 34 * a.1 * 65025
theorem invZ_step {x y z : Nat → Nat} {i k : Nat} (hi : i < 34) (hk : k < 34) (hx : x i < 256) (hy : y k < 256) (hI : InvZ x y i (k, z)) : InvZ x y i (k + 1, upd z (i + k) (z (i + k) + x i * y k)) := by
  obtain ⟨h1, h2, h3⟩ := hI
  simp only at h1 h2 h3
  refine ⟨hk, ?_, fun j => ?_⟩
  · simp only
    have e := num_upd (f := z) (j := i + k) (x := z (i + k) + x i * y k) (n := 68) (by omega)
    rw [h2] at e
    show num (upd z (i + k) (z (i + k) + x i * y k)) 68 = num x i * num y 34 + x i * 256 ^ i * (num y k + y k * 256 ^ k)
    rw [Nat.pow_add] at e
    generalize num (upd z (i + k) (z (i + k) + x i * y k)) 68 = N at *
    generalize num y k = Y at *
    generalize num x i * num y 34 = Q at *
    generalize 256 ^ i = A at *
    generalize 256 ^ k = B at *
    grind
  · simp only
    clear h2
    have hm : x i * y k ≤ 255 * 255 := Nat.mul_le_mul (by omega) (by omega)
    generalize x i * y k = v at *
    by_cases e : j = i + k
    · subst e; rw [upd_same]; have := h3 (i + k); clear h3; omega
    · rw [upd_ne _ _ e]; exact Nat.le_trans (h3 j) (Nat.mul_le_mul_right _ (Nat.add_le_add_left (Nat.le_succ k) _))
theorem invR_next {x y z : Nat → Nat} {i : Nat} (hi : i < 34) (hI : InvZ x y i (34, z)) : InvR x y (i + 1, z) := by
  obtain ⟨h1, h2, h3⟩ := hI
  simp only at h1 h2 h3
  refine ⟨hi, ?_, fun j => ?_⟩
  · show num z 68 = (num x i + x i * 256 ^ i) * num y 34
    exact h2.trans (Nat.add_mul (num x i) (x i * 256 ^ i) (num y 34)).symm
  · have := h3 j; simp only; omega
theorem invZ_first {x y z : Nat → Nat} {i : Nat} (hI : InvR x y (i, z)) : InvZ x y i (0, z) := by
  obtain ⟨h1, h2, h3⟩ := hI
  simp only at h1 h2 h3
  exact ⟨Nat.zero_le _, by show num z 68 = num x i * num y 34 + x i * 256 ^ i * 0; rw [h2, Nat.mul_zero, Nat.add_zero], fun j => by have := h3 j; simp only; omega⟩
def InvK (z : Nat → Nat) (a : Nat × Nat × (Nat → Nat)) : Prop :=
  a.1 ≤ 70 ∧ a.2.1 ≤ 100000000 ∧ num a.2.2 a.1 + a.2.1 * 256 ^ a.1 = num z (min a.1 68) ∧ ∀ j, j < a.1 → a.2.2 j < 256
theorem carry_put {w : Nat → Nat} {i s N : Nat} (h : num w i + s * 256 ^ i = N) : num (upd w i (s % 256)) (i + 1) + s / 256 * 256 ^ (i + 1) = N := by
  simp only [num]
  rw [num_upd_ge (Nat.le_refl _), upd_same, Nat.pow_succ, ← h]
  generalize 256 ^ i = B at *
  have e : (s % 256 + 256 * (s / 256)) * B = s * B := by rw [Nat.mod_add_div]
  grind
theorem lt_put {w : Nat → Nat} {i v : Nat} (hv : v < 256) (h : ∀ j, j < i → w j < 256) : ∀ j, j < i + 1 → upd w i v j < 256 := fun j hj => by
  by_cases e : j = i
  · subst e; rw [upd_same]; exact hv
  · rw [upd_ne _ _ e]; exact h j (by omega)
theorem invK_low {z w : Nat → Nat} {i c : Nat} (hi : i < 68) (hz : z i ≤ 80000000) (hI : InvK z (i, c, w)) : InvK z (i + 1, (c + z i) / 256, upd w i ((c + z i) % 256)) := by
  obtain ⟨h1, h2, h3, h4⟩ := hI
  simp only at h1 h2 h3 h4
  refine ⟨by simp only; omega, by simp only; omega, ?_, lt_put (Nat.mod_lt _ (by decide)) h4⟩
  simp only
  rw [show min (i + 1) 68 = i + 1 by omega]
  refine carry_put ?_
  rw [show min i 68 = i by omega] at h3
  rw [Nat.add_mul, ← Nat.add_assoc, h3]; rfl
theorem invK_high {z w : Nat → Nat} {i c : Nat} (hi : ¬ i < 68) (hi2 : i < 70) (hI : InvK z (i, c, w)) : InvK z (i + 1, c / 256, upd w i (c % 256)) := by
  obtain ⟨h1, h2, h3, h4⟩ := hI
  simp only at h1 h2 h3 h4
  refine ⟨by simp only; omega, by simp only; omega, ?_, lt_put (Nat.mod_lt _ (by decide)) h4⟩
  simp only
  rw [show min (i + 1) 68 = min i 68 by omega]
  exact carry_put h3
theorem invK_end {x y z w : Nat → Nat} {c : Nat} (hx : ∀ j, j < 34 → x j < 256) (hy : ∀ j, j < 34 → y j < 256) (hR : InvR x y (34, z)) (hI : InvK z (70, c, w)) : (∀ j, j < 70 → w j < 256) ∧ num w 70 = num x 34 * num y 34 := by
  obtain ⟨h1, h2, h3, h4⟩ := hI
  simp only at h1 h2 h3 h4
  have hz := hR.2.1
  simp only at hz
  rw [show min 70 68 = 68 from rfl, hz] at h3
  have hlt : num x 34 * num y 34 < 256 ^ 34 * 256 ^ 34 := Nat.mul_lt_mul'' (num_lt hx) (num_lt hy)
  have hle : (256 : Nat) ^ 34 * 256 ^ 34 ≤ 256 ^ 70 := by decide
  refine ⟨h4, ?_⟩
  rcases Nat.eq_zero_or_pos c with e | e
  · rw [e, Nat.zero_mul, Nat.add_zero] at h3; exact h3
  · have : 256 ^ 70 ≤ c * 256 ^ 70 := Nat.le_mul_of_pos_left _ e
    generalize (256 : Nat) ^ 70 = B at *
    omega
def cTimes' : List AV → Option (List Prop × AV)
  | [.v1 (.agg [.ws .i64 34 x]), .v1 (.agg [.ws .i64 34 y])] => some ([∀ j, j < 34 → x j < 256, ∀ j, j < 34 → y j < 256], .v1 (.agg [.ws .i64 34 (dgN (num x 34 * num y 34 % pP))]))
  | _ => none
def GTm : Ctx := ctxL [(55, .pure cFold')]
theorem GTm_ok : CtxOk Try.prog GTm := ctxL_cons okFold' ctxL_nil
theorem okTimes' : (CallC.pure cTimes').Ok Try.prog 47 := by
  intro args pre v e hp
  unfold cTimes' at e
  split at e
  rotate_left
  · cases e
  rename_i x y
  cases e
  have hx : ∀ j, j < 34 → x j < 256 := hp _ (by simp)
  have hy : ∀ j, j < 34 → y j < 256 := hp (∀ j, j < 34 → y j < 256) (by simp)
  refine pure_walk' tt_ok Try.func47 (by kernel_rfl) (by kernel_rfl) (by rfl) (by rfl) ?_
  refine loopK mixed tt_ok GTm_ok 0 (by kernel_rfl) (ι := {a // InvR x y a}) [2,3,4,5,6] 55 4 (fun a => [ptA 0, ptA 1, ptA 2, ptA 3, iv (Int.ofNat a.1.1)]) (fun a => [iB34 x, iB34 y, iB34 zI, iB68 a.1.2]) (fun a => 34 - a.1.1) (fun a => a.1.1 = 34)
    (fun _ => rfl) (fun _ => by kernel_rfl) (fun _ _ h => h.elim) 100 [] ?_ ?_ ?_
  · refine same (p := true = true ∧ ∃ j : {a // InvR x y a}, [ptA 0, ptA 1, ptA 2, ptA 3, iv (Int.ofNat 0)] = [ptA 0, ptA 1, ptA 2, ptA 3, iv (Int.ofNat j.1.1)] ∧ [iB34 x, iB34 y, iB34 zI, iB68 zI] = [iB34 x, iB34 y, iB34 zI, iB68 j.1.2]) ?_ (by kernel_rfl)
    exact ⟨rfl, ⟨(0, zI), Nat.zero_le _, by show num zI 68 = 0 * num y 34; rw [Nat.zero_mul]; exact num_zero fun _ _ => rfl, fun _ => Nat.zero_le _⟩, rfl, rfl⟩
  · intro ⟨⟨i, z⟩, hI⟩ junk
    have hi34 := hI.1
    simp only at hi34
    by_cases hi : i < 34
    · have hxi := hx i hi
      have ei := wrapI_nadd (a := i) (b := 1) (by omega)
      refine nestF mixed tt_ok GTm_ok (l := flatC (loopOf (atK 0 (flatC (bodyOf Try.f47))))) (lB := flatC (blkOf (atB (flatC (loopOf (atK 0 (flatC (bodyOf Try.f47)))))))) (by kernel_rfl) rfl (by kernel_rfl) rfl
        (ι := {a // InvZ x y i a}) [2,3,4,5,6,7] 55 4 (fun a => [ptA 0, ptA 1, ptA 2, ptA 3, iv (Int.ofNat i), iv (Int.ofNat a.1.1)]) (fun a => [iB34 x, iB34 y, iB34 zI, iB68 a.1.2]) (fun a => 34 - a.1.1) (fun a => a.1.1 = 34)
        (fun _ => rfl) (fun _ => by kernel_rfl) (fun _ _ h => h.elim) 200 [⟨3,1,.lit (.bo true)⟩] [⟨4,1,.lit (.it (Int.ofNat (i+1)))⟩] [] ?_ ?_ ?_
      · refine same (p := ilt (Int.ofNat i) 34 = true ∧ true = true ∧ ∃ j : {a // InvZ x y i a}, [ptA 0, ptA 1, ptA 2, ptA 3, iv (Int.ofNat i), iv (Int.ofNat 0)] = [ptA 0, ptA 1, ptA 2, ptA 3, iv (Int.ofNat i), iv (Int.ofNat j.1.1)] ∧ [iB34 x, iB34 y, iB34 zI, iB68 z] = [iB34 x, iB34 y, iB34 zI, iB68 j.1.2]) ?_ (by kernel_rfl)
        exact ⟨ilt_t (n := 34) hi, rfl, ⟨(0, z), invZ_first hI⟩, rfl, rfl⟩
      · intro ⟨⟨k, z⟩, hZ⟩ junk
        have hk34 := hZ.1
        have hzb := hZ.2.2 (i + k)
        simp only at hk34 hzb
        by_cases hk : k < 34
        · have hyk := hy k hk
          have hm : x i * y k ≤ 255 * 255 := Nat.mul_le_mul (by omega) (by omega)
          have ea := wrapI_nadd (a := i) (b := k) (by omega)
          have ek := wrapI_nadd (a := k) (b := 1) (by omega)
          refine roundF mixed tt_ok GTm_ok 100 [⟨6,1,.lit (.bo true)⟩,⟨8,2,.lit (.it (Int.ofNat (i+k)))⟩,⟨8,5,.lit (.it (Int.ofNat (i+k)))⟩,⟨8,6,.sym⟩,⟨8,7,.sym⟩,⟨8,9,.sym⟩,⟨8,10,.sym⟩,⟨8,12,.sym⟩,⟨8,13,.sym⟩,⟨8,14,.lit (.it (Int.ofNat (x i * y k)))⟩,⟨8,15,.lit (.it (Int.ofNat (z (i+k) + x i * y k)))⟩,⟨8,16,.sym⟩,⟨8,17,.sym⟩,⟨7,1,.lit (.it (Int.ofNat (k+1)))⟩] ?_
          refine same (p := ilt (Int.ofNat k) 34 = true ∧ wrapI (Int.ofNat i + Int.ofNat k) = Int.ofNat (i + k) ∧ wrapI (Int.ofNat i + Int.ofNat k) = Int.ofNat (i + k) ∧ ix (i + k) 68 (ix i 34 (ix k 34 (wrapI (Int.ofNat (x i) * Int.ofNat (y k)) = Int.ofNat (x i * y k) ∧ wrapI (Int.ofNat (z (i + k)) + Int.ofNat (x i * y k)) = Int.ofNat (z (i + k) + x i * y k) ∧ ix (i + k) 68 (wrapI (Int.ofNat k + 1) = Int.ofNat (k + 1) ∧ true = true ∧
            ∃ j : {a // InvZ x y i a}, 34 - j.1.1 < 34 - k ∧ [ptA 0, ptA 1, ptA 2, ptA 3, iv (Int.ofNat i), iv (Int.ofNat (k + 1))] = [ptA 0, ptA 1, ptA 2, ptA 3, iv (Int.ofNat i), iv (Int.ofNat j.1.1)] ∧ [iB34 x, iB34 y, iB34 zI, iB68 (upd z (i + k) (z (i + k) + x i * y k))] = [iB34 x, iB34 y, iB34 zI, iB68 j.1.2]))))) ?_ (by kernel_rfl)
          exact ⟨ilt_t (n := 34) hk, ea, ea, ix_of (by omega) (ix_of hi (ix_of hk ⟨wrapI_nmul (by omega), wrapI_nadd (by omega), ix_of (by omega) ⟨ek, rfl, ⟨_, invZ_step hi hk hxi hyk hZ⟩, by simp only; omega, rfl, rfl⟩⟩))⟩
        · have hk3 : k = 34 := by omega
          subst hk3
          refine roundF mixed tt_ok GTm_ok 100 [] ?_
          refine same (p := true = true ∧ ∃ j : {a // InvZ x y i a}, j.1.1 = 34 ∧ [ptA 0, ptA 1, ptA 2, ptA 3, iv (Int.ofNat i), iv (Int.ofNat 34)] = [ptA 0, ptA 1, ptA 2, ptA 3, iv (Int.ofNat i), iv (Int.ofNat j.1.1)] ∧ [iB34 x, iB34 y, iB34 zI, iB68 z] = [iB34 x, iB34 y, iB34 zI, iB68 j.1.2]) ?_ (by kernel_rfl)
          exact ⟨rfl, ⟨(34, z), hZ⟩, rfl, rfl, rfl⟩
      · intro ⟨⟨k, z⟩, hZ⟩ junk hk
        simp only at hk
        subst hk
        refine same (p := wrapI (Int.ofNat i + 1) = Int.ofNat (i + 1) ∧ true = true ∧ ∃ j : {a // InvR x y a}, 34 - j.1.1 < 34 - i ∧ [ptA 0, ptA 1, ptA 2, ptA 3, iv (Int.ofNat (i + 1))] = [ptA 0, ptA 1, ptA 2, ptA 3, iv (Int.ofNat j.1.1)] ∧ [iB34 x, iB34 y, iB34 zI, iB68 z] = [iB34 x, iB34 y, iB34 zI, iB68 j.1.2]) ?_ (by kernel_rfl)
        exact ⟨ei, rfl, ⟨(i + 1, z), invR_next hi hZ⟩, by simp only; omega, rfl, rfl⟩
    · have hi3 : i = 34 := by omega
      subst hi3
      refine roundF mixed tt_ok GTm_ok 100 [] ?_
      refine same (p := true = true ∧ ∃ j : {a // InvR x y a}, j.1.1 = 34 ∧ [ptA 0, ptA 1, ptA 2, ptA 3, iv (Int.ofNat 34)] = [ptA 0, ptA 1, ptA 2, ptA 3, iv (Int.ofNat j.1.1)] ∧ [iB34 x, iB34 y, iB34 zI, iB68 z] = [iB34 x, iB34 y, iB34 zI, iB68 j.1.2]) ?_ (by kernel_rfl)
      exact ⟨rfl, ⟨(34, z), hI⟩, rfl, rfl, rfl⟩
  · intro ⟨⟨i, z⟩, hR⟩ junk hi
    simp only at hi
    subst hi
    have hzb := hR.2.2
    simp only at hzb
    refine loopK mixed tt_ok GTm_ok 0 (by kernel_rfl) (ι := {a // InvK z a}) [4,5,8,9,10] 55 5 (fun a => [ptA 2, ptA 3, ptA 4, iv (Int.ofNat a.1.2.1), iv (Int.ofNat a.1.1)]) (fun a => [iB34 x, iB34 y, iB34 zI, iB68 z, iB70 a.1.2.2]) (fun a => 70 - a.1.1) (fun a => a.1.1 = 70)
      (fun _ => rfl) (fun _ => by kernel_rfl) (fun _ _ h => h.elim) 100 [] ?_ ?_ ?_
    · refine same (p := true = true ∧ ∃ j : {a // InvK z a}, [ptA 2, ptA 3, ptA 4, iv (Int.ofNat 0), iv (Int.ofNat 0)] = [ptA 2, ptA 3, ptA 4, iv (Int.ofNat j.1.2.1), iv (Int.ofNat j.1.1)] ∧ [iB34 x, iB34 y, iB34 zI, iB68 z, iB70 zI] = [iB34 x, iB34 y, iB34 zI, iB68 z, iB70 j.1.2.2]) ?_ (by kernel_rfl)
      exact ⟨rfl, ⟨(0, 0, zI), Nat.zero_le _, Nat.zero_le _, rfl, fun j hj => absurd hj (by simp)⟩, rfl, rfl⟩
    · intro ⟨⟨i, c, w⟩, hK⟩ junk
      have h1 := hK.1
      have hc := hK.2.1
      simp only at h1 hc
      by_cases hi : i < 70
      · have ei := wrapI_nadd (a := i) (b := 1) (by omega)
        by_cases hi8 : i < 68
        · have hzi := hzb i
          refine roundF mixed tt_ok GTm_ok 100 [⟨12,1,.lit (.bo true)⟩,⟨14,1,.lit (.bo true)⟩,⟨15,2,.sym⟩,⟨15,3,.sym⟩,⟨15,4,.lit (.it (Int.ofNat (c + z i)))⟩,⟨16,2,.lit (.it (Int.ofNat ((c + z i) % 256)))⟩,⟨16,3,.sym⟩,⟨16,4,.sym⟩,⟨17,1,.lit (.it (Int.ofNat ((c + z i) / 256)))⟩,⟨13,1,.lit (.it (Int.ofNat (i+1)))⟩] ?_
          refine same (p := ilt (Int.ofNat i) 70 = true ∧ ilt (Int.ofNat i) 68 = true ∧ ix i 68 (wrapI (Int.ofNat c + Int.ofNat (z i)) = Int.ofNat (c + z i) ∧ (Int.ofNat (c + z i)).tmod 256 = Int.ofNat ((c + z i) % 256) ∧ ix i 70 (wrapI ((Int.ofNat (c + z i)).tdiv 256) = Int.ofNat ((c + z i) / 256) ∧ wrapI (Int.ofNat i + 1) = Int.ofNat (i + 1) ∧ true = true ∧
            ∃ j : {a // InvK z a}, 70 - j.1.1 < 70 - i ∧ [ptA 2, ptA 3, ptA 4, iv (Int.ofNat ((c + z i) / 256)), iv (Int.ofNat (i + 1))] = [ptA 2, ptA 3, ptA 4, iv (Int.ofNat j.1.2.1), iv (Int.ofNat j.1.1)] ∧ [iB34 x, iB34 y, iB34 zI, iB68 z, iB70 (upd w i ((c + z i) % 256))] = [iB34 x, iB34 y, iB34 zI, iB68 z, iB70 j.1.2.2]))) ?_ (by kernel_rfl)
          exact ⟨ilt_t (n := 70) hi, ilt_t (n := 68) hi8, ix_of hi8 ⟨wrapI_nadd (by omega), rfl, ix_of hi ⟨wrapI_ndiv (b := 256) (by omega), ei, rfl, ⟨_, invK_low hi8 (by omega) hK⟩, by simp only; omega, rfl, rfl⟩⟩⟩
        · refine roundF mixed tt_ok GTm_ok 100 [⟨12,1,.lit (.bo true)⟩,⟨14,1,.lit (.bo false)⟩,⟨16,2,.lit (.it (Int.ofNat (c % 256)))⟩,⟨16,3,.sym⟩,⟨16,4,.sym⟩,⟨17,1,.lit (.it (Int.ofNat (c / 256)))⟩,⟨13,1,.lit (.it (Int.ofNat (i+1)))⟩] ?_
          refine same (p := ilt (Int.ofNat i) 70 = true ∧ ilt (Int.ofNat i) 68 = false ∧ (Int.ofNat c).tmod 256 = Int.ofNat (c % 256) ∧ ix i 70 (wrapI ((Int.ofNat c).tdiv 256) = Int.ofNat (c / 256) ∧ wrapI (Int.ofNat i + 1) = Int.ofNat (i + 1) ∧ true = true ∧
            ∃ j : {a // InvK z a}, 70 - j.1.1 < 70 - i ∧ [ptA 2, ptA 3, ptA 4, iv (Int.ofNat (c / 256)), iv (Int.ofNat (i + 1))] = [ptA 2, ptA 3, ptA 4, iv (Int.ofNat j.1.2.1), iv (Int.ofNat j.1.1)] ∧ [iB34 x, iB34 y, iB34 zI, iB68 z, iB70 (upd w i (c % 256))] = [iB34 x, iB34 y, iB34 zI, iB68 z, iB70 j.1.2.2])) ?_ (by kernel_rfl)
          exact ⟨ilt_t (n := 70) hi, ilt_f (n := 68) hi8, rfl, ix_of hi ⟨wrapI_ndiv (b := 256) (by omega), ei, rfl, ⟨_, invK_high hi8 hi hK⟩, by simp only; omega, rfl, rfl⟩⟩
      · have hi7 : i = 70 := by omega
        subst hi7
        refine roundF mixed tt_ok GTm_ok 100 [] ?_
        refine same (p := true = true ∧ ∃ j : {a // InvK z a}, j.1.1 = 70 ∧ [ptA 2, ptA 3, ptA 4, iv (Int.ofNat c), iv (Int.ofNat 70)] = [ptA 2, ptA 3, ptA 4, iv (Int.ofNat j.1.2.1), iv (Int.ofNat j.1.1)] ∧ [iB34 x, iB34 y, iB34 zI, iB68 z, iB70 w] = [iB34 x, iB34 y, iB34 zI, iB68 z, iB70 j.1.2.2]) ?_ (by kernel_rfl)
        exact ⟨rfl, ⟨(70, c, w), hK⟩, rfl, rfl, rfl⟩
    · intro ⟨⟨i, c, w⟩, hK⟩ junk hi
      simp only at hi
      subst hi
      obtain ⟨k1, k2⟩ := invK_end hx hy hR hK
      refine evS_q mixed tt_ok GTm_ok 100 [] (same (p := (∀ j, j < 70 → w j < 256) ∧ endN (.v1 (.agg [.ws .i64 34 (dgN (num w 70 % pP))])) (.v1 (.agg [.ws .i64 34 (dgN (num x 34 * num y 34 % pP))]))) ?_ (by kernel_rfl))
      exact ⟨k1, _, rfl, fun ρ => by rw [k2]⟩
end Go.Proofs.Ytndmoidenbfflaa
