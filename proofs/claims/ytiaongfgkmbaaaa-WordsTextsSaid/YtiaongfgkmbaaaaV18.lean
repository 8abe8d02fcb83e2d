/- The document's Parse. -/
import Derived.Test.YtiaongfgkmbaaaaV16
import Derived.Test.YtiaongfgkmbaaaaWT
namespace Go.Proofs.Ytiaongfgkmbaaaa
open Go.Rq Go
set_option linter.unusedVariables false
set_option linter.unusedSimpArgs false

abbrev VPq (n k : Nat) (f : Nat → Nat) : List AV := [strV n f, pt 0 0, pt 1 0, iv (Int.ofNat k)]
def GPq : Ctx := ctxL [(33, .pure cShift)]
theorem GPq_ok : CtxOk Try.prog GPq := ctxL_cons okShift' ctxL_nil
theorem ieq_0 (n : Nat) : ieq (Int.ofNat n) 0 = Nat.beq n 0 := rfl
theorem ilt_1 {n : Nat} (h0 : 0 < n) : ilt 1 (Int.ofNat n) = !Nat.beq n 1 := by
  rw [Bool.eq_iff_iff, ilt_iff, Bool.not_eq_true', ← Bool.not_eq_true, Nat.beq_eq]
  simp only [Int.ofNat_eq_natCast]; omega
theorem okParse' : (CallC.pure cParse).Ok Try.prog 15 := by
  intro args pre v h _
  unfold cParse at h
  split at h
  · rename_i n f
    cases h
    have errCase : ∀ e : Int, parE n f = e → ieq e 0 = false → (∀ h, CallOk Try.prog 15 [strV n f] h (.tup [zN, .sc (.it e)]) h) → ∀ h, CallOk Try.prog 15 [strV n f] h (.tup [numV (parV n f), .sc (.it (parE n f))]) h := by
      intro e he h0 hc h
      refine CallOk.congr (hc h) (fun ρ => ?_) (by kernel_rfl)
      have hv : parV n f = 0 := by unfold parV; rw [he, h0]; rfl
      simp only [AV.val, List.map_cons, List.map_nil]
      rw [hv, he, zero_num]
    cases hl : Nat.blt 96 n
    · have hn : n ≤ 96 := by
        have : ¬ 96 < n := by rw [← Nat.blt_eq, hl]; simp
        omega
      cases h0 : Nat.beq n 0
      · have hn0 : 0 < n := by
          have : n ≠ 0 := fun e => by rw [← Nat.beq_eq, h0] at e; cases e
          omega
        have hi1 := ilt_1 hn0
        have main : (Nat.beq (f 0 % 256) 48 && !Nat.beq n 1) = false → ∀ hs, (evS Try.prog tt GPq 60 (preL (flatC (bodyOf Try.f15))) (fun e s _ => StartE (ι := {x // InvP n f x}) [0,2,4,5] 65 2 (fun x => VPq n x.1.1 f) (fun x => HP x.1.2) (FEnd' tt Try.f15 (.tup [numV (parV n f), .sc (.it (parE n f))])) e s) ⟨frame0 [strV n f] Try.f15.ntmps, []⟩ hs) → ∀ h, CallOk Try.prog 15 [strV n f] h (.tup [numV (parV n f), .sc (.it (parE n f))]) h := by
          intro hz hs hst
          have hpe : parE n f = bif allH f n then 0 else 4 := by unfold parE; rw [hl, h0, hz]; rfl
          refine pure_walk' tt_ok Try.func15 (by kernel_rfl) (by kernel_rfl) (by kernel_rfl) (by kernel_rfl) ?_
          refine loopF mixed tt_ok GPq_ok (by kernel_rfl) (ι := {x // InvP n f x}) [0,2,4,5] 65 2 (fun x => VPq n x.1.1 f) (fun x => HP x.1.2) (fun x => n - x.1.1) (fun x => x.1.1 = n)
            (fun _ => rfl) (fun _ => by kernel_rfl) (fun _ _ h => h.elim) 60 hs hst ?_ ?_
          · intro ⟨⟨k, o⟩, hk, ha, hv⟩ junk
            simp only at hk ha hv
            by_cases hkn : k < n
            · have hm := Nat.mod_lt (f k) (show 0 < 256 by omega)
              have good : okH (f k) = true → wrapI (Int.ofNat k + 1) = Int.ofNat (k + 1) ∧ true = true ∧ ∃ j : {x // InvP n f x}, n - j.1.1 < n - k ∧ VPq n (k + 1) f = VPq n j.1.1 f ∧ HP (pIn (shiftN (nv o) 4 % R) (dig (f k))) = HP j.1.2 := by
                intro hd
                obtain ⟨_, hd16, _⟩ := okH_t hd
                have ha1 : allH f (k + 1) = true := by simp only [allH, Bool.and_eq_true]; exact ⟨ha, hd⟩
                have hlt := horN_ltR (f := f) (k := k + 1) (by omega) ha1
                simp only [horN] at hlt
                refine ⟨wrapI_succ (by omega), rfl, ⟨(k + 1, pIn (shiftN (nv o) 4 % R) (dig (f k))), ?_, ha1, ?_⟩, by simp only; omega, rfl, rfl⟩
                · simp only; omega
                · simp only [horN]
                  rw [← hv] at hlt ⊢
                  exact pIn_nv (x := nv o) (by rw [show shiftN (nv o) 4 = nv o * 2 ^ 4 from rfl]) (by omega) hd16
              have bad : okH (f k) = false → ∃ v', some (AV.tup [zN, .sc (.it 4)]) = some v' ∧ ∀ ρ, v'.val ρ = (AV.tup [numV (parV n f), .sc (.it (parE n f))]).val ρ := by
                intro hd
                refine ⟨_, rfl, fun ρ => ?_⟩
                have hall : allH f n = false := by
                  cases e : allH f n
                  · rfl
                  · have := allH_at e hkn; rw [hd] at this; cases this
                have hE : parE n f = 4 := by rw [hpe, hall]; rfl
                have hV : parV n f = 0 := by unfold parV; rw [hE]; rfl
                simp only [AV.val, List.map_cons, List.map_nil]
                rw [hV, hE, zero_num]
              by_cases h09 : 48 ≤ f k % 256 ∧ f k % 256 ≤ 57
              · obtain ⟨hd, hdv⟩ := dig_09 h09.1 h09.2
                refine roundF mixed tt_ok GPq_ok 60 [⟨7,3,.lit (.bo true)⟩,⟨9,2,.sym⟩,⟨12,1,.lit (.bo true)⟩,⟨12,4,.lit (.bo true)⟩,⟨13,2,.lit (.w .u64 (dig (f k)))⟩,⟨8,1,.lit (.it (Int.ofNat (k+1)))⟩] ?_
                refine same (p := ilt (Int.ofNat k) (Int.ofNat n) = true ∧ 0 ≤ Int.ofNat k ∧ Int.ofNat k < (n : Int) ∧ Nat.ble 48 (f k % 256) = true ∧ Nat.ble (f k % 256) 57 = true ∧ (f k + 208) % 256 = dig (f k) ∧ wrapI (Int.ofNat k + 1) = Int.ofNat (k + 1) ∧ true = true ∧
                  ∃ j : {x // InvP n f x}, n - j.1.1 < n - k ∧ VPq n (k + 1) f = VPq n j.1.1 f ∧ HP (pIn (shiftN (nv o) 4 % R) (dig (f k))) = HP j.1.2) ?_ (by kernel_rfl)
                exact ⟨ilt_t hkn, Int.natCast_nonneg _, by simp; exact hkn, by rw [Nat.ble_eq]; exact h09.1, by rw [Nat.ble_eq]; exact h09.2, by rw [hdv]; omega, good hd⟩
              · by_cases haf : 97 ≤ f k % 256 ∧ f k % 256 ≤ 102
                · obtain ⟨hd, hdv⟩ := dig_af haf.1 haf.2
                  have h1 : Nat.ble 48 (f k % 256) = true := by rw [Nat.ble_eq]; omega
                  have h2 : Nat.ble (f k % 256) 57 = false := by rw [← Bool.not_eq_true, Nat.ble_eq]; omega
                  refine roundF mixed tt_ok GPq_ok 60 [⟨7,3,.lit (.bo true)⟩,⟨9,2,.sym⟩,⟨12,1,.lit (.bo true)⟩,⟨12,4,.lit (.bo false)⟩,⟨14,1,.lit (.bo true)⟩,⟨14,4,.lit (.bo true)⟩,⟨15,3,.lit (.w .u64 (dig (f k)))⟩,⟨8,1,.lit (.it (Int.ofNat (k+1)))⟩] ?_
                  refine same (p := ilt (Int.ofNat k) (Int.ofNat n) = true ∧ 0 ≤ Int.ofNat k ∧ Int.ofNat k < (n : Int) ∧ Nat.ble 48 (f k % 256) = true ∧ Nat.ble (f k % 256) 57 = false ∧ Nat.ble 97 (f k % 256) = true ∧ Nat.ble (f k % 256) 102 = true ∧ (f k + 159) % 256 + 10 = dig (f k) ∧ wrapI (Int.ofNat k + 1) = Int.ofNat (k + 1) ∧ true = true ∧
                    ∃ j : {x // InvP n f x}, n - j.1.1 < n - k ∧ VPq n (k + 1) f = VPq n j.1.1 f ∧ HP (pIn (shiftN (nv o) 4 % R) (dig (f k))) = HP j.1.2) ?_ (by kernel_rfl)
                  exact ⟨ilt_t hkn, Int.natCast_nonneg _, by simp; exact hkn, h1, h2, by rw [Nat.ble_eq]; exact haf.1, by rw [Nat.ble_eq]; exact haf.2, by rw [hdv]; omega, good hd⟩
                · have hd := dig_no h09 haf
                  have tail := bad hd
                  cases h1 : Nat.ble 48 (f k % 256)
                  · have h3 : Nat.ble 97 (f k % 256) = false := by
                      have : ¬ 48 ≤ f k % 256 := by rw [← Nat.ble_eq, h1]; simp
                      rw [← Bool.not_eq_true, Nat.ble_eq]; omega
                    refine roundF mixed tt_ok GPq_ok 60 [⟨7,3,.lit (.bo true)⟩,⟨9,2,.sym⟩,⟨12,1,.lit (.bo false)⟩,⟨14,1,.lit (.bo false)⟩] ?_
                    refine same (p := ilt (Int.ofNat k) (Int.ofNat n) = true ∧ 0 ≤ Int.ofNat k ∧ Int.ofNat k < (n : Int) ∧ Nat.ble 48 (f k % 256) = false ∧ Nat.ble 97 (f k % 256) = false ∧ ∃ v', some (AV.tup [zN, .sc (.it 4)]) = some v' ∧ ∀ ρ, v'.val ρ = (AV.tup [numV (parV n f), .sc (.it (parE n f))]).val ρ) ?_ (by kernel_rfl)
                    exact ⟨ilt_t hkn, Int.natCast_nonneg _, by simp; exact hkn, h1, h3, tail⟩
                  · have g1 : 48 ≤ f k % 256 := by rw [← Nat.ble_eq, h1]
                    have h2 : Nat.ble (f k % 256) 57 = false := by rw [← Bool.not_eq_true, Nat.ble_eq]; omega
                    cases h3 : Nat.ble 97 (f k % 256)
                    · refine roundF mixed tt_ok GPq_ok 60 [⟨7,3,.lit (.bo true)⟩,⟨9,2,.sym⟩,⟨12,1,.lit (.bo true)⟩,⟨12,4,.lit (.bo false)⟩,⟨14,1,.lit (.bo false)⟩] ?_
                      refine same (p := ilt (Int.ofNat k) (Int.ofNat n) = true ∧ 0 ≤ Int.ofNat k ∧ Int.ofNat k < (n : Int) ∧ Nat.ble 48 (f k % 256) = true ∧ Nat.ble (f k % 256) 57 = false ∧ Nat.ble 97 (f k % 256) = false ∧ ∃ v', some (AV.tup [zN, .sc (.it 4)]) = some v' ∧ ∀ ρ, v'.val ρ = (AV.tup [numV (parV n f), .sc (.it (parE n f))]).val ρ) ?_ (by kernel_rfl)
                      exact ⟨ilt_t hkn, Int.natCast_nonneg _, by simp; exact hkn, h1, h2, h3, tail⟩
                    · have g3 : 97 ≤ f k % 256 := by rw [← Nat.ble_eq, h3]
                      have h4 : Nat.ble (f k % 256) 102 = false := by rw [← Bool.not_eq_true, Nat.ble_eq]; omega
                      refine roundF mixed tt_ok GPq_ok 60 [⟨7,3,.lit (.bo true)⟩,⟨9,2,.sym⟩,⟨12,1,.lit (.bo true)⟩,⟨12,4,.lit (.bo false)⟩,⟨14,1,.lit (.bo true)⟩,⟨14,4,.lit (.bo false)⟩] ?_
                      refine same (p := ilt (Int.ofNat k) (Int.ofNat n) = true ∧ 0 ≤ Int.ofNat k ∧ Int.ofNat k < (n : Int) ∧ Nat.ble 48 (f k % 256) = true ∧ Nat.ble (f k % 256) 57 = false ∧ Nat.ble 97 (f k % 256) = true ∧ Nat.ble (f k % 256) 102 = false ∧ ∃ v', some (AV.tup [zN, .sc (.it 4)]) = some v' ∧ ∀ ρ, v'.val ρ = (AV.tup [numV (parV n f), .sc (.it (parE n f))]).val ρ) ?_ (by kernel_rfl)
                      exact ⟨ilt_t hkn, Int.natCast_nonneg _, by simp; exact hkn, h1, h2, h3, h4, tail⟩
            · have : k = n := by omega
              subst this
              refine roundF mixed tt_ok GPq_ok 60 [⟨7,3,.lit (.bo false)⟩] ?_
              refine same (p := ilt (Int.ofNat k) (Int.ofNat k) = false ∧ true = true ∧ ∃ j : {x // InvP k f x}, j.1.1 = k ∧ VPq k k f = VPq k j.1.1 f ∧ HP o = HP j.1.2) ?_ (by kernel_rfl)
              exact ⟨ilt_f (by omega), rfl, ⟨(k, o), hk, ha, hv⟩, rfl, rfl, rfl⟩
          · intro ⟨⟨k, o⟩, hk, ha, hv⟩ junk hkn
            simp only at hk ha hv hkn
            subst hkn
            refine same (p := ∃ v', some (AV.tup [.agg [.ws .u64 6 o], .sc (.it 0)]) = some v' ∧ ∀ ρ, v'.val ρ = (AV.tup [numV (parV k f), .sc (.it (parE k f))]).val ρ) ?_ (by kernel_rfl)
            refine ⟨_, rfl, fun ρ => ?_⟩
            have hE : parE k f = 0 := by rw [hpe, ha]; rfl
            have hV : parV k f = horN f k := by unfold parV; rw [hE]; rfl
            simp only [AV.val, List.map_cons, List.map_nil]
            rw [hV, hE, numV_val (n := horN f k) (by rw [← hv, Nat.mod_eq_of_lt (nv_lt o)]) ρ]
        have start : ∃ j : {x // InvP n f x}, VPq n 0 f = VPq n j.1.1 f ∧ HP (fun _ => 0) = HP j.1.2 := ⟨⟨(0, fun _ => 0), by simp, rfl, by simp only [zero_nv]; rfl⟩, rfl, rfl⟩
        cases h48 : Nat.beq (f 0 % 256) 48
        · refine main (by rw [h48]; rfl) [⟨2,2,.lit (.bo false)⟩,⟨4,2,.lit (.bo false)⟩,⟨4,5,.sym⟩,⟨4,6,.lit (.bo false)⟩] ?_
          refine same (p := ilt 96 (Int.ofNat n) = false ∧ ieq (Int.ofNat n) 0 = false ∧ 0 ≤ (0 : Int) ∧ 0 < (n : Int) ∧ Nat.beq (f 0 % 256) 48 = false ∧ true = true ∧ ∃ j : {x // InvP n f x}, VPq n 0 f = VPq n j.1.1 f ∧ HP (fun _ => 0) = HP j.1.2) ?_ (by kernel_rfl)
          exact ⟨by rw [ilt_96, hl], by rw [ieq_0, h0], Int.le_refl _, by simp; exact hn0, h48, rfl, start⟩
        · cases h1 : Nat.beq n 1
          · refine errCase 4 (by unfold parE; rw [hl, h0, h48, h1]; rfl) rfl ?_
            refine pure_fn mixed tt_ok GPq_ok Try.func15 (by kernel_rfl) (by kernel_rfl) (by kernel_rfl) (by kernel_rfl) 60 [⟨2,2,.lit (.bo false)⟩,⟨4,2,.lit (.bo false)⟩,⟨4,5,.sym⟩,⟨4,6,.lit (.bo true)⟩,⟨4,10,.lit (.bo true)⟩] ?_
            refine same (p := ilt 96 (Int.ofNat n) = false ∧ ieq (Int.ofNat n) 0 = false ∧ 0 ≤ (0 : Int) ∧ 0 < (n : Int) ∧ Nat.beq (f 0 % 256) 48 = true ∧ ilt 1 (Int.ofNat n) = true ∧ some (AV.tup [zN, .sc (.it 4)]) = some (AV.tup [zN, .sc (.it 4)])) ?_ (by kernel_rfl)
            exact ⟨by rw [ilt_96, hl], by rw [ieq_0, h0], Int.le_refl _, by simp; exact hn0, h48, by rw [hi1, h1]; rfl, rfl⟩
          · refine main (by rw [h1]; simp) [⟨2,2,.lit (.bo false)⟩,⟨4,2,.lit (.bo false)⟩,⟨4,5,.sym⟩,⟨4,6,.lit (.bo true)⟩,⟨4,10,.lit (.bo false)⟩] ?_
            refine same (p := ilt 96 (Int.ofNat n) = false ∧ ieq (Int.ofNat n) 0 = false ∧ 0 ≤ (0 : Int) ∧ 0 < (n : Int) ∧ Nat.beq (f 0 % 256) 48 = true ∧ ilt 1 (Int.ofNat n) = false ∧ true = true ∧ ∃ j : {x // InvP n f x}, VPq n 0 f = VPq n j.1.1 f ∧ HP (fun _ => 0) = HP j.1.2) ?_ (by kernel_rfl)
            exact ⟨by rw [ilt_96, hl], by rw [ieq_0, h0], Int.le_refl _, by simp; exact hn0, h48, by rw [hi1, h1]; rfl, rfl, start⟩
      · refine errCase 4 (by unfold parE; rw [hl, h0]; rfl) rfl ?_
        refine pure_fn mixed tt_ok GPq_ok Try.func15 (by kernel_rfl) (by kernel_rfl) (by kernel_rfl) (by kernel_rfl) 60 [⟨2,2,.lit (.bo false)⟩,⟨4,2,.lit (.bo true)⟩] ?_
        refine same (p := ilt 96 (Int.ofNat n) = false ∧ ieq (Int.ofNat n) 0 = true ∧ some (AV.tup [zN, .sc (.it 4)]) = some (AV.tup [zN, .sc (.it 4)])) ?_ (by kernel_rfl)
        exact ⟨by rw [ilt_96, hl], by rw [ieq_0, h0], rfl⟩
    · refine errCase 3 (by unfold parE; rw [hl]; rfl) rfl ?_
      refine pure_fn mixed tt_ok GPq_ok Try.func15 (by kernel_rfl) (by kernel_rfl) (by kernel_rfl) (by kernel_rfl) 60 [⟨2,2,.lit (.bo true)⟩] ?_
      refine same (p := ilt 96 (Int.ofNat n) = true ∧ some (AV.tup [zN, .sc (.it 3)]) = some (AV.tup [zN, .sc (.it 3)])) ?_ (by kernel_rfl)
      exact ⟨by rw [ilt_96, hl], rfl⟩
  · cases h
end Go.Proofs.Ytiaongfgkmbaaaa
