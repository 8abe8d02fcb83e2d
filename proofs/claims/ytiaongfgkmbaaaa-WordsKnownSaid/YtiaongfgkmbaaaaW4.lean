/- Shifts, off their runs. -/
import Derived.Test.YtiaongfgkmbaaaaW3
import Derived.Test.YtiaongfgkmbaaaaWM3
namespace Go.Proofs.Ytiaongfgkmbaaaa
open Go.Rq Go

def cShift : List AV → Option (List Prop × AV)
  | [.v1 (.agg [.ws .u64 6 a]), .v1 (.sc (.it n))] => some ([], numA (shiftN (nv a) n % R))
  | _ => none

theorem zero_nv : nv (fun _ => 0) = 0 := by simp [nv]
theorem ilt_not {x y : Int} (h : ¬ x < y) : ilt x y = false := by rw [← Bool.not_eq_true, ilt_iff]; exact h
theorem ilt_yes {x y : Int} (h : x < y) : ilt x y = true := by rw [ilt_iff]; exact h

/-! the document's -/
def InvD (a : Nat → Nat) (n : Int) (x : Nat × (Nat → Nat)) : Prop := x.1 ≤ 384 ∧ ∀ j, j < 384 → Nat.testBit (x.2 (j / 64)) (j % 64) = (decide (j < x.1) && tbI (nv a) (Int.ofNat j - n))
def VD (n : Int) (i : Nat) : List AV := [iv n, pt 0 0, pt 1 0, pt 2 0, iv (Int.ofNat i)]
def HD (a out : Nat → Nat) : Heap := [nb a, nb (fun _ => 0), nb out]
theorem okShift' : (CallC.pure cShift).Ok Try.prog 33 := by
  intro args pre v h _
  unfold cShift at h
  split at h
  · rename_i a n
    cases h
    by_cases hn : n ≤ -384 ∨ 384 ≤ n
    · rw [shift_far (nv a) (nv_lt a) hn]
      intro h
      refine CallOk.congr (v := .v1 (.agg [.ws .u64 6 (fun _ => 0)])) ?_ (fun ρ => numA_val (by rw [zero_nv]; rfl) ρ) (by kernel_rfl)
      by_cases h2 : 384 ≤ n
      · refine pure_fn mixed tt_ok G0_ok Try.func33 (by kernel_rfl) (by kernel_rfl) (by kernel_rfl) (by kernel_rfl) 50 [⟨2,1,.lit (.bo true)⟩] ?_ h
        refine same (p := (!ilt n 384) = true ∧ some (AV.v1 (.agg [.ws .u64 6 (fun _ => 0)])) = some (AV.v1 (.agg [.ws .u64 6 (fun _ => 0)]))) ⟨?_, rfl⟩ (by kernel_rfl)
        rw [ilt_not (by omega)]; rfl
      · refine pure_fn mixed tt_ok G0_ok Try.func33 (by kernel_rfl) (by kernel_rfl) (by kernel_rfl) (by kernel_rfl) 50 [⟨2,1,.lit (.bo false)⟩, ⟨2,4,.lit (.bo true)⟩] ?_ h
        refine same (p := (!ilt n 384) = false ∧ (!ilt (-384) n) = true ∧ some (AV.v1 (.agg [.ws .u64 6 (fun _ => 0)])) = some (AV.v1 (.agg [.ws .u64 6 (fun _ => 0)]))) ⟨?_, ?_, rfl⟩ (by kernel_rfl)
        · rw [ilt_yes (by omega)]; rfl
        · rw [ilt_not (by omega)]; rfl
    · have hn1 : -384 < n := by omega
      have hn2 : n < 384 := by omega
      refine pure_walk' tt_ok Try.func33 (by kernel_rfl) (by kernel_rfl) (by kernel_rfl) (by kernel_rfl) ?_
      refine loopF mixed tt_ok GL_ok (by kernel_rfl) (ι := {x // InvD a n x}) [1,2,4,5,6] 36 3 (fun x => VD n x.1.1) (fun x => HD a x.1.2) (fun x => 384 - x.1.1) (fun x => x.1.1 = 384)
        (fun _ => rfl) (fun _ => by kernel_rfl) (fun _ _ h => h.elim) 50 [⟨2,1,.lit (.bo false)⟩, ⟨2,4,.lit (.bo false)⟩] ?_ ?_ ?_
      · refine same (p := (!ilt n 384) = false ∧ (!ilt (-384) n) = false ∧ true = true ∧ ∃ j : {x // InvD a n x}, VD n 0 = VD n j.1.1 ∧ HD a (fun _ => 0) = HD a j.1.2) ?_ (by kernel_rfl)
        refine ⟨by rw [ilt_yes (by omega)]; rfl, by rw [ilt_yes (by omega)]; rfl, rfl, ⟨(0, (fun _ => 0)), by omega, fun j _ => by simp⟩, rfl, rfl⟩
      · intro ⟨⟨i, out⟩, hi, hv⟩ junk
        simp only at hi hv
        by_cases h6 : i < 384
        · have hw : wrapI (Int.ofNat i - n) = Int.ofNat i - n := wrapI_id (by simp only [Int.ofNat_eq_natCast]; omega) (by simp only [Int.ofNat_eq_natCast]; omega)
          have hs : wrapI (Int.ofNat i + 1) = Int.ofNat (i + 1) := wrapI_succ (by omega)
          have h64 : i / 64 < 6 := by omega
          have next : ∀ out', (∀ j, Nat.testBit (out' (j / 64)) (j % 64) = (Nat.testBit (out (j / 64)) (j % 64) || (decide (i = j) && tbI (nv a) (Int.ofNat i - n)))) →
              ∃ j : {x // InvD a n x}, 384 - j.1.1 < 384 - i ∧ VD n (i + 1) = VD n j.1.1 ∧ HD a out' = HD a j.1.2 := by
            intro out' ho
            refine ⟨⟨(i + 1, out'), by simp only; omega, fun j hj => ?_⟩, by simp only; omega, rfl, rfl⟩
            simp only
            rw [ho j, hv j hj]
            by_cases e : i = j
            · subst e
              have : i < i + 1 := by omega
              simp [this]
            · by_cases l : j < i
              · have : j < i + 1 := by omega
                simp [l, this, e]
              · have : ¬ j < i + 1 := by omega
                simp [l, this, e]
          cases hb : tbI (nv a) (Int.ofNat i - n)
          · refine roundF mixed tt_ok GL_ok 50 [⟨5,1,.lit (.bo true)⟩, ⟨7,3,.lit (.it (Int.ofNat i - n))⟩, ⟨7,5,.lit (.bo false)⟩, ⟨6,1,.lit (.it (Int.ofNat (i+1)))⟩] ?_
            refine same (p := ilt (Int.ofNat i) 384 = true ∧ wrapI (Int.ofNat i - n) = Int.ofNat i - n ∧ ieq (bitI (nv a) (Int.ofNat i - n)) 1 = false ∧ wrapI (Int.ofNat i + 1) = Int.ofNat (i + 1) ∧
              true = true ∧ ∃ j : {x // InvD a n x}, 384 - j.1.1 < 384 - i ∧ VD n (i + 1) = VD n j.1.1 ∧ HD a out = HD a j.1.2) ?_ (by kernel_rfl)
            exact ⟨ilt_t h6, hw, by rw [bitI_tb, hb], hs, rfl, next out fun j => by rw [hb]; simp⟩
          · refine roundF mixed tt_ok GL_ok 50 [⟨5,1,.lit (.bo true)⟩, ⟨7,3,.lit (.it (Int.ofNat i - n))⟩, ⟨7,5,.lit (.bo true)⟩, ⟨8,1,.lit (.it (Int.ofNat (i/64)))⟩, ⟨8,3,.lit (.it (Int.ofNat (i/64)))⟩, ⟨8,4,.sym⟩, ⟨8,5,.sym⟩, ⟨8,7,.lit (.it (Int.ofNat (i%64)))⟩, ⟨8,10,.sym⟩, ⟨8,11,.sym⟩, ⟨6,1,.lit (.it (Int.ofNat (i+1)))⟩] ?_
            refine same (p := ilt (Int.ofNat i) 384 = true ∧ wrapI (Int.ofNat i - n) = Int.ofNat i - n ∧ ieq (bitI (nv a) (Int.ofNat i - n)) 1 = true ∧ wrapI ((Int.ofNat i).tdiv 64) = Int.ofNat (i / 64) ∧ wrapI ((Int.ofNat i).tdiv 64) = Int.ofNat (i / 64) ∧
              ix (i / 64) 6 ((Int.ofNat i).tmod 64 = Int.ofNat (i % 64) ∧ ix (i / 64) 6 (wrapI (Int.ofNat i + 1) = Int.ofNat (i + 1) ∧
              true = true ∧ ∃ j : {x // InvD a n x}, 384 - j.1.1 < 384 - i ∧ VD n (i + 1) = VD n j.1.1 ∧ HD a (upd out (i / 64) (out (i / 64) ||| 1 * 2 ^ min (i % 64) 64)) = HD a j.1.2))) ?_ (by kernel_rfl)
            refine ⟨ilt_t h6, hw, by rw [bitI_tb, hb], tdiv64 ⟨i, h6⟩, tdiv64 ⟨i, h6⟩, ix_of h64 ⟨tmod64 ⟨i, h6⟩, ix_of h64 ⟨hs, rfl, next _ fun j => ?_⟩⟩⟩
            rw [setbit, hb, Bool.and_true]
        · have : i = 384 := by omega
          subst this
          refine roundF mixed tt_ok GL_ok 50 [] ?_
          refine same (p := true = true ∧ ∃ j : {x // InvD a n x}, j.1.1 = 384 ∧ VD n 384 = VD n j.1.1 ∧ HD a out = HD a j.1.2) ?_ (by kernel_rfl)
          exact ⟨rfl, ⟨(384, out), hi, hv⟩, rfl, rfl, rfl⟩
      · intro ⟨⟨i, out⟩, hi, hv⟩ junk h6
        simp only at hi hv h6
        subst h6
        refine same (p := ∃ v', some (AV.v1 (.agg [.ws .u64 6 out])) = some v' ∧ ∀ ρ, v'.val ρ = (numA (shiftN (nv a) n % R)).val ρ) ?_ (by kernel_rfl)
        refine ⟨_, rfl, fun ρ => ?_⟩
        refine numA_val ?_ ρ
        rw [Nat.mod_mod]
        refine nv_of_bits fun k r hk hr => ?_
        have := hv (64 * k + r) (by omega)
        rw [show (64 * k + r) / 64 = k by omega, show (64 * k + r) % 64 = r by omega] at this
        rw [this, shiftN_tb]
        have : 64 * k + r < 384 := by omega
        simp [this]
  · cases h

/-! the words' -/
def hintsB (bp : Bool) : List Hint := [⟨12,1,.lit (.bo bp)⟩, ⟨12,1,.lit (.bo bp)⟩, ⟨12,1,.lit (.bo bp)⟩, ⟨12,1,.lit (.bo bp)⟩, ⟨12,1,.lit (.bo bp)⟩, ⟨12,1,.lit (.bo bp)⟩]
theorem okShift : (CallC.pure cShift).Ok Try.prog 32 := by
  intro args pre v h _
  unfold cShift at h
  split at h
  · rename_i a n
    cases h
    intro h
    by_cases hn : n ≤ -384 ∨ 384 ≤ n
    · rw [shift_far (nv a) (nv_lt a) hn]
      refine CallOk.congr (v := .v1 (.agg [.ws .u64 6 (fun _ => 0)])) ?_ (fun ρ => numA_val (by rw [zero_nv]; rfl) ρ) (by kernel_rfl)
      by_cases h2 : n ≤ -384
      · refine pure_fn mixed tt_ok G0_ok Try.func32 (by kernel_rfl) (by kernel_rfl) (by kernel_rfl) (by kernel_rfl) 50 [⟨2,1,.lit (.bo true)⟩] ?_ h
        refine same (p := (!ilt (-384) n) = true ∧ some (AV.v1 (.agg [.ws .u64 6 (fun _ => 0)])) = some (AV.v1 (.agg [.ws .u64 6 (fun _ => 0)]))) ⟨?_, rfl⟩ (by kernel_rfl)
        rw [ilt_not (by omega)]; rfl
      · refine pure_fn mixed tt_ok G0_ok Try.func32 (by kernel_rfl) (by kernel_rfl) (by kernel_rfl) (by kernel_rfl) 50 [⟨2,1,.lit (.bo false)⟩, ⟨2,4,.lit (.bo true)⟩] ?_ h
        refine same (p := (!ilt (-384) n) = false ∧ (!ilt n 384) = true ∧ some (AV.v1 (.agg [.ws .u64 6 (fun _ => 0)])) = some (AV.v1 (.agg [.ws .u64 6 (fun _ => 0)]))) ⟨?_, ?_, rfl⟩ (by kernel_rfl)
        · rw [ilt_yes (by omega)]; rfl
        · rw [ilt_not (by omega)]; rfl
    · have hn1 : -384 < n := by omega
      have hn2 : n < 384 := by omega
      have hp := places ⟨(n + 383).toNat, by omega⟩
      have en : (((n + 383).toNat : Nat) : Int) - 383 = n := by omega
      simp only [en] at hp
      generalize hbb : (n % 64).toNat = b at hp
      generalize hww : n / 64 = w at hp
      have hb : b < 64 := by omega
      have hnw : n = 64 * w + b := by omega
      have hu : toU .u64 (Int.ofNat b) % W = b := by
        show b % W % W = b
        rw [Nat.mod_mod, Nat.mod_eq_of_lt (by simp only [W]; omega)]
      have s1 : min (toU .u64 (Int.ofNat b) % W) 64 = b := by rw [hu, Nat.min_eq_left (by omega)]
      have hw : w = -6 ∨ w = -5 ∨ w = -4 ∨ w = -3 ∨ w = -2 ∨ w = -1 ∨ w = 0 ∨ w = 1 ∨ w = 2 ∨ w = 3 ∨ w = 4 ∨ w = 5 := by omega
      have key : ∀ bp, bp = decide (0 < b) → CallOk Try.prog 32 [.v1 (.agg [.ws .u64 6 a]), .v1 (.sc (.it n))] h (numA (shiftN (nv a) n % R)) h := by
        intro bp hbp
        have hlt : Nat.blt 0 (toU .u64 (Int.ofNat b) % W) = bp := by
          rw [hu, hbp, Bool.eq_iff_iff, Nat.blt_eq, decide_eq_true_eq]
        have s2 : shO a w (min (toU .u64 (Int.ofNat b) % W) 64) (min ((64 + (W - toU .u64 (Int.ofNat b) % W)) % W) 64) bp 6 = shO a w b (64 - b) bp 6 := by
          rw [s1, hu]
          cases bp with
          | true =>
            have h0 : 0 < b := by simpa using hbp.symm
            have : min ((64 + (W - b)) % W) 64 = 64 - b := by simp only [W]; omega
            rw [this]
          | false =>
            have h0 : b = 0 := by have := hbp.symm; simp at this; exact this
            simp only [shO, stepSh]
        refine CallOk.congr (v := .v1 (.agg [.ws .u64 6 (shO a w (min (toU .u64 (Int.ofNat b) % W) 64) (min ((64 + (W - toU .u64 (Int.ofNat b) % W)) % W) 64) bp 6)])) ?_ (fun ρ => numA_val (by rw [s2, shO_nv a w hb bp hbp hnw, Nat.mod_mod]) ρ) (by kernel_rfl)
        refine pure_fn mixed tt_ok G0_ok Try.func32 (by kernel_rfl) (by kernel_rfl) (by kernel_rfl) (by kernel_rfl) 50 (⟨2,1,.lit (.bo false)⟩ :: ⟨2,4,.lit (.bo false)⟩ :: ⟨4,1,.lit (.it w)⟩ :: ⟨4,3,.lit (.it (Int.ofNat b))⟩ :: hintsB bp) ?_ h
        have pr : (!ilt (-384) n) = false ∧ (!ilt n 384) = false ∧ n.fdiv (2 ^ 6) = w ∧ bitsI .and n 63 = Int.ofNat b ∧ Nat.blt 0 (toU .u64 (Int.ofNat b) % W) = bp ∧ Nat.blt 0 (toU .u64 (Int.ofNat b) % W) = bp ∧ Nat.blt 0 (toU .u64 (Int.ofNat b) % W) = bp ∧ Nat.blt 0 (toU .u64 (Int.ofNat b) % W) = bp ∧ Nat.blt 0 (toU .u64 (Int.ofNat b) % W) = bp ∧ Nat.blt 0 (toU .u64 (Int.ofNat b) % W) = bp ∧
            some (AV.v1 (.agg [.ws .u64 6 (shO a w (min (toU .u64 (Int.ofNat b) % W) 64) (min ((64 + (W - toU .u64 (Int.ofNat b) % W)) % W) 64) bp 6)])) = some (AV.v1 (.agg [.ws .u64 6 (shO a w (min (toU .u64 (Int.ofNat b) % W) 64) (min ((64 + (W - toU .u64 (Int.ofNat b) % W)) % W) 64) bp 6)])) :=
          ⟨by rw [ilt_yes (by omega)]; rfl, by rw [ilt_yes (by omega)]; rfl, hp.2, hp.1, hlt, hlt, hlt, hlt, hlt, hlt, rfl⟩
        clear s2 hlt hbp s1 hu hnw hbb hww hp en
        revert pr
        rcases hw with rfl | rfl | rfl | rfl | rfl | rfl | rfl | rfl | rfl | rfl | rfl | rfl <;> cases bp <;> exact fun pr => same pr (by kernel_rfl)
      exact key _ rfl
  · cases h
end Go.Proofs.Ytiaongfgkmbaaaa
