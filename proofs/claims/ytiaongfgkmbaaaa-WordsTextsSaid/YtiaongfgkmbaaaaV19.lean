/- The document's Text. -/
import Derived.Test.YtiaongfgkmbaaaaV18
namespace Go.Proofs.Ytiaongfgkmbaaaa
open Go.Rq Go
set_option linter.unusedVariables false
set_option linter.unusedSimpArgs false

abbrev VTq (r k : Nat) (f : Nat → Nat) : List AV := [pt 0 0, .v1 (.sc (.str k f)), iv (predI r)]
abbrev dgS (d : Nat) : Nat := (d + 1) % W - d % W
abbrev apS (k d : Nat) (f : Nat → Nat) : Nat → Nat := catF k f (fun j => byteAt HEX (d % W + j))
def hiT (N r : Nat) : Nat := N / 2 ^ (4 * r)
theorem hiT_top {N r : Nat} (hr : 4 * r = E) (hN : N < R) : hiT N r = 0 := by
  unfold hiT
  rw [hr, ← R_pow]
  exact Nat.div_eq_of_lt hN
/-- What is told behind the digits but the last r. -/
def InvTq (a : Nat → Nat) (x : Nat × Nat × (Nat → Nat)) : Prop := x.1 ≤ 96 ∧ x.2.1 ≤ 96 ∧ ((0 < x.1 ∧ x.2.1 = 0 ∧ hiT (nv a) x.1 = 0) ∨ (0 < x.2.1 ∧ x.2.1 = tLen (hiT (nv a) x.1) ∧ (hiT (nv a) x.1 ≠ 0 ∨ x.1 = 0) ∧ ∀ j, j < x.2.1 → x.2.2 j % 256 = txF (hiT (nv a) x.1) x.2.1 j % 256))
theorem ne_str (k : Nat) (f : Nat → Nat) : (!eqE k f) = !Nat.beq k 0 := by rw [eqE_eq]
theorem okText' : (CallC.pure cText).Ok Try.prog 21 := by
  intro args pre v h _
  unfold cText at h
  split at h
  rotate_left
  · cases h
  rename_i a
  cases h
  refine pure_walk' tt_ok Try.func21 (by kernel_rfl) (by kernel_rfl) (by kernel_rfl) (by kernel_rfl) ?_
  refine loopF mixed tt_ok (G := ctxL []) ctxL_nil (by kernel_rfl) (ι := {x // InvTq a x}) [1,3,4] 36 1 (fun x => VTq x.1.1 x.1.2.1 x.1.2.2) (fun _ => [nb a]) (fun x => x.1.1) (fun x => x.1.1 = 0)
    (fun _ => rfl) (fun _ => by kernel_rfl) (fun _ _ h => h.elim) 60 [] ?_ ?_ ?_
  · refine same (p := true = true ∧ ∃ j : {x // InvTq a x}, VTq 96 0 (byteAt E0) = VTq j.1.1 j.1.2.1 j.1.2.2 ∧ [nb a] = [nb a]) ?_ (by kernel_rfl)
    refine ⟨rfl, ⟨(96, 0, byteAt E0), Nat.le_refl _, by simp, .inl ⟨by simp, rfl, ?_⟩⟩, rfl, rfl⟩
    exact hiT_top (r := 96) (by rw [E_eq]) (nv_lt a)
  · intro ⟨⟨r, k, f⟩, hr, hk, hs⟩ junk
    simp only at hr hk hs
    cases r with
    | zero =>
      refine roundF mixed tt_ok (G := ctxL []) ctxL_nil 60 [] ?_
      refine same (p := true = true ∧ ∃ j : {x // InvTq a x}, j.1.1 = 0 ∧ VTq 0 k f = VTq j.1.1 j.1.2.1 j.1.2.2 ∧ [nb a] = [nb a]) ?_ (by kernel_rfl)
      exact ⟨rfl, ⟨(0, k, f), hr, hk, hs⟩, rfl, rfl, rfl⟩
    | succ i =>
      have hi : i < 96 := by omega
      obtain ⟨hg1, hg2⟩ := DG_eq a hi
      have hge : (!ilt (Int.ofNat i) 0) = true := by rw [(by rw [← Bool.not_eq_true, ilt_iff]; simp : ilt (Int.ofNat i) 0 = false)]; rfl
      have hp : wrapI (Int.ofNat i - 1) = predI i := predI_eq (by omega)
      have t16 := tdiv16 ⟨i, hi⟩
      have m16 := tmod16 ⟨i, hi⟩
      have m4 := mul4 ⟨i % 16, Nat.mod_lt _ (by omega)⟩
      obtain ⟨d, hd⟩ : ∃ d, d = DG a i := ⟨_, rfl⟩
      have hdd : DG a i = d := hd.symm
      rw [hdd] at hg1 hg2
      obtain ⟨D, hD⟩ : ∃ D, D = hiT (nv a) (i + 1) := ⟨_, rfl⟩
      have hD1 : hiT (nv a) i = D * 16 + d := by
        unfold hiT
        have : D = nv a / 2 ^ (4 * i) / 16 := by
          rw [hD, hiT, show 4 * (i + 1) = 4 * i + 4 by omega, Nat.pow_add, ← Nat.div_div_eq_div_mul]
        omega
      rw [← hD] at hs
      have hW : d % W = d := Nat.mod_eq_of_lt (by simp only [W]; omega)
      have hW1 : (d + 1) % W = d + 1 := Nat.mod_eq_of_lt (by simp only [W]; omega)
      have hsz : dgS d = 1 := by unfold dgS; rw [hW, hW1]; omega
      have ap : (apS k d f k = byteAt HEX d) ∧ ∀ j, j < k → apS k d f j = f j := by
        refine ⟨?_, fun j hj => ?_⟩
        · have : Nat.blt k k = false := by rw [← Bool.not_eq_true, Nat.blt_eq]; omega
          unfold apS catF
          rw [this, cond_false, Nat.sub_self]
          show byteAt HEX (d % W + 0) = _
          rw [hW, Nat.add_zero]
        · have : Nat.blt j k = true := by rw [Nat.blt_eq]; exact hj
          unfold apS catF
          rw [this, cond_true]
      -- what is told when the digit is told
      have told : k + 1 = tLen (D * 16 + d) → (D * 16 + d ≠ 0 ∨ i = 0) → (∀ j, j < k → f j % 256 = txF (D * 16 + d) (k + 1) j % 256) → byteAt HEX d % 256 = txF (D * 16 + d) (k + 1) k % 256 → k < 96 →
          wrapI (Int.ofNat i - 1) = predI i ∧ true = true ∧ ∃ j : {x // InvTq a x}, j.1.1 < i + 1 ∧ VTq i (k + dgS d) (apS k d f) = VTq j.1.1 j.1.2.1 j.1.2.2 ∧ [nb a] = [nb a] := by
        intro h1 h2 h3 h4 h5
        refine ⟨hp, rfl, ⟨(i, k + 1, apS k d f), by simp only; omega, by simp only; omega, .inr ⟨by simp, ?_⟩⟩, by simp only; omega, by rw [hsz], rfl⟩
        simp only
        rw [hD1]
        refine ⟨h1, h2, fun j hj => ?_⟩
        by_cases hjk : j < k
        · rw [ap.2 j hjk]; exact h3 j hjk
        · have : j = k := by omega
          subst this
          rw [ap.1]; exact h4
      have lim : k + dgS d ≤ 1099511627776 := by rw [hsz]; omega
      have b1 : (d + 1) % W < 17 := by rw [hW1]; omega
      have b2 : d % W < (d + 1) % W + 1 := by rw [hW, hW1]; omega
      by_cases hk0 : k = 0
      · subst hk0
        have hDz : D = 0 := by
          rcases hs with h | h
          · exact h.2.2
          · omega
        by_cases hd0 : d = 0
        · have hz : (!Nat.beq (d % W) 0) = false := by rw [hW, hd0]; rfl
          by_cases hi0 : i = 0
          · subst hi0
            refine roundF mixed tt_ok (G := ctxL []) ctxL_nil 60 [⟨5,2,.sym⟩,⟨5,3,.sym⟩,⟨5,7,.sym⟩,⟨5,8,.lit (.w .u64 d)⟩,⟨6,4,.lit (.bo false)⟩,⟨7,4,.sym⟩,⟨7,5,.sym⟩] ?_
            refine same (p := 0 ≤ (0 : Int) ∧ (0 : Int) < ((6 : Nat) : Int) ∧ 0 < 6 ∧ 0 ≤ (0 : Int) ∧ DG a 0 = d ∧ (!Nat.beq (d % W) 0) = false ∧ (d + 1) % W < 17 ∧ d % W < (d + 1) % W + 1 ∧ 0 + dgS d ≤ 1099511627776 ∧ true = true ∧
              ∃ j : {x // InvTq a x}, j.1.1 < 0 + 1 ∧ VTq 0 (0 + dgS d) (apS 0 d f) = VTq j.1.1 j.1.2.1 j.1.2.2 ∧ [nb a] = [nb a]) ?_ (by kernel_rfl)
            refine ⟨Int.le_refl _, by decide, by decide, Int.le_refl _, hdd, hz, b1, b2, lim, (told ?_ (.inr rfl) (fun j hj => absurd hj (Nat.not_lt_zero _)) ?_ (by omega)).2⟩
            · rw [hDz, hd0, tLen_zero]
            · rw [txF_lo hg2]
          · have h3 : ieq (Int.ofNat i) 0 = false := by rw [← Bool.not_eq_true, ieq_iff]; simp only [Int.ofNat_eq_natCast]; omega
            refine roundF mixed tt_ok (G := ctxL []) ctxL_nil 60 [⟨3,1,.lit (.bo true)⟩,⟨5,1,.lit (.it (Int.ofNat (i/16)))⟩,⟨5,2,.sym⟩,⟨5,3,.sym⟩,⟨5,5,.lit (.it (Int.ofNat (i%16)))⟩,⟨5,6,.lit (.it (Int.ofNat (4*(i%16))))⟩,⟨5,7,.sym⟩,⟨5,8,.lit (.w .u64 d)⟩,⟨6,4,.lit (.bo false)⟩,⟨6,8,.lit (.bo false)⟩,⟨4,1,.lit (.it (predI i))⟩] ?_
            refine same (p := (!ilt (Int.ofNat i) 0) = true ∧ wrapI ((Int.ofNat i).tdiv 16) = Int.ofNat (i / 16) ∧ ix (i / 16) 6 ((Int.ofNat i).tmod 16 = Int.ofNat (i % 16) ∧ wrapI (4 * Int.ofNat (i % 16)) = Int.ofNat (4 * (i % 16)) ∧ 0 ≤ Int.ofNat (4 * (i % 16)) ∧ DG a i = d ∧ (!Nat.beq (d % W) 0) = false ∧ ieq (Int.ofNat i) 0 = false ∧
              wrapI (Int.ofNat i - 1) = predI i ∧ true = true ∧ ∃ j : {x // InvTq a x}, j.1.1 < i + 1 ∧ VTq i 0 f = VTq j.1.1 j.1.2.1 j.1.2.2 ∧ [nb a] = [nb a])) ?_ (by kernel_rfl)
            refine ⟨hge, t16, ix_of (by omega) ⟨m16, m4, Int.natCast_nonneg _, hdd, hz, h3, hp, rfl, ⟨(i, 0, f), by simp only; omega, by simp, .inl ⟨by simp only; omega, rfl, ?_⟩⟩, by simp only; omega, rfl, rfl⟩⟩
            simp only
            rw [hD1, hDz, hd0]
        · have hz : (!Nat.beq (d % W) 0) = true := by
            have : Nat.beq (d % W) 0 = false := by rw [← Bool.not_eq_true, Nat.beq_eq, hW]; exact hd0
            rw [this]; rfl
          refine roundF mixed tt_ok (G := ctxL []) ctxL_nil 60 [⟨3,1,.lit (.bo true)⟩,⟨5,1,.lit (.it (Int.ofNat (i/16)))⟩,⟨5,2,.sym⟩,⟨5,3,.sym⟩,⟨5,5,.lit (.it (Int.ofNat (i%16)))⟩,⟨5,6,.lit (.it (Int.ofNat (4*(i%16))))⟩,⟨5,7,.sym⟩,⟨5,8,.lit (.w .u64 d)⟩,⟨6,4,.lit (.bo true)⟩,⟨7,4,.sym⟩,⟨7,5,.sym⟩,⟨4,1,.lit (.it (predI i))⟩] ?_
          refine same (p := (!ilt (Int.ofNat i) 0) = true ∧ wrapI ((Int.ofNat i).tdiv 16) = Int.ofNat (i / 16) ∧ ix (i / 16) 6 ((Int.ofNat i).tmod 16 = Int.ofNat (i % 16) ∧ wrapI (4 * Int.ofNat (i % 16)) = Int.ofNat (4 * (i % 16)) ∧ 0 ≤ Int.ofNat (4 * (i % 16)) ∧ DG a i = d ∧ (!Nat.beq (d % W) 0) = true ∧
            (d + 1) % W < 17 ∧ d % W < (d + 1) % W + 1 ∧ 0 + dgS d ≤ 1099511627776 ∧ wrapI (Int.ofNat i - 1) = predI i ∧ true = true ∧ ∃ j : {x // InvTq a x}, j.1.1 < i + 1 ∧ VTq i (0 + dgS d) (apS 0 d f) = VTq j.1.1 j.1.2.1 j.1.2.2 ∧ [nb a] = [nb a])) ?_ (by kernel_rfl)
          refine ⟨hge, t16, ix_of (by omega) ⟨m16, m4, Int.natCast_nonneg _, hdd, hz, b1, b2, lim, told ?_ (.inl (by omega)) (fun j hj => absurd hj (Nat.not_lt_zero _)) ?_ (by omega)⟩⟩
          · rw [hDz, Nat.zero_mul, Nat.zero_add, Nat.zero_add, tLen_small hd0 hg2]
          · rw [txF_lo hg2]
      · have hs2 : k = tLen D ∧ D ≠ 0 ∧ ∀ j, j < k → f j % 256 = txF D k j % 256 := by
          rcases hs with h | ⟨_, h1, h2, h3⟩
          · exact absurd h.2.1 hk0
          · exact ⟨h1, h2.resolve_right (by omega), h3⟩
        obtain ⟨hkL, hD0, hf⟩ := hs2
        have hne : (!eqE k f) = true := by
          rw [ne_str]
          have : Nat.beq k 0 = false := by rw [← Bool.not_eq_true, Nat.beq_eq]; exact hk0
          rw [this]; rfl
        have hstep := tLen_step hD0 hg2
        have hlt : D * 16 + d < R := by
          rw [← hD1]
          exact Nat.lt_of_le_of_lt (Nat.div_le_self _ _) (nv_lt a)
        have hle := (tLen_le hlt).2
        refine roundF mixed tt_ok (G := ctxL []) ctxL_nil 60 [⟨3,1,.lit (.bo true)⟩,⟨5,1,.lit (.it (Int.ofNat (i/16)))⟩,⟨5,2,.sym⟩,⟨5,3,.sym⟩,⟨5,5,.lit (.it (Int.ofNat (i%16)))⟩,⟨5,6,.lit (.it (Int.ofNat (4*(i%16))))⟩,⟨5,7,.sym⟩,⟨5,8,.lit (.w .u64 d)⟩,⟨6,1,.lit (.bo true)⟩,⟨7,4,.sym⟩,⟨7,5,.sym⟩,⟨4,1,.lit (.it (predI i))⟩] ?_
        refine same (p := (!ilt (Int.ofNat i) 0) = true ∧ wrapI ((Int.ofNat i).tdiv 16) = Int.ofNat (i / 16) ∧ ix (i / 16) 6 ((Int.ofNat i).tmod 16 = Int.ofNat (i % 16) ∧ wrapI (4 * Int.ofNat (i % 16)) = Int.ofNat (4 * (i % 16)) ∧ 0 ≤ Int.ofNat (4 * (i % 16)) ∧ DG a i = d ∧ (!eqE k f) = true ∧
          (d + 1) % W < 17 ∧ d % W < (d + 1) % W + 1 ∧ k + dgS d ≤ 1099511627776 ∧ wrapI (Int.ofNat i - 1) = predI i ∧ true = true ∧ ∃ j : {x // InvTq a x}, j.1.1 < i + 1 ∧ VTq i (k + dgS d) (apS k d f) = VTq j.1.1 j.1.2.1 j.1.2.2 ∧ [nb a] = [nb a])) ?_ (by kernel_rfl)
        refine ⟨hge, t16, ix_of (by omega) ⟨m16, m4, Int.natCast_nonneg _, hdd, hne, b1, b2, lim, told (by omega) (.inl (by omega)) (fun j hj => ?_) ?_ (by omega)⟩⟩
        · rw [txF_hi hg2 hj]; exact hf j hj
        · rw [txF_lo hg2]
  · intro ⟨⟨r, k, f⟩, hr, hk, hs⟩ junk h0
    simp only at hr hk hs h0
    subst h0
    have h00 : hiT (nv a) 0 = nv a := by unfold hiT; rw [Nat.mul_zero, Nat.pow_zero, Nat.div_one]
    rw [h00] at hs
    have hs2 : k = tLen (nv a) ∧ ∀ j, j < k → f j % 256 = txF (nv a) k j % 256 := by
      rcases hs with h | ⟨_, h1, _, h3⟩
      · exact absurd h.1 (Nat.lt_irrefl _)
      · exact ⟨h1, h3⟩
    refine same (p := ∃ v', some (AV.v1 (.sc (.str k f))) = some v' ∧ ∀ ρ, v'.val ρ = (AV.v1 (.sc (.str (tLen (nv a)) (txF (nv a) (tLen (nv a)))))).val ρ) ?_ (by kernel_rfl)
    refine ⟨_, rfl, fun ρ => ?_⟩
    simp only [AV.val, V1.val, Sc.val]
    rw [bytesF_congr hs2.2, hs2.1]
end Go.Proofs.Ytiaongfgkmbaaaa
