/- The document's addition and subtraction, off their loops. -/
import Derived.Test.YtiaongfgkmbaaaaW2
namespace Go.Proofs.Ytiaongfgkmbaaaa
open Go.Rq Go

abbrev pt (b o : Nat) : AV := .v1 (.sc (.pt b o))
abbrev wv (n : Nat) : AV := .v1 (.sc (.w .u64 n))
abbrev iv (z : Int) : AV := .v1 (.sc (.it z))
abbrev nb (f : Nat → Nat) : Option Blk := some ⟨24, [.ws .u64 6 f], 0, 0⟩

/-! Add -/
def InvA (a b : Nat → Nat) (x : Nat × (Nat → Nat) × Nat) : Prop := x.1 ≤ 6 ∧ x.2.2 ≤ 1 ∧ nvn x.2.1 x.1 + W ^ x.1 * x.2.2 = nvn a x.1 + nvn b x.1
def VA (i c : Nat) : List AV := [pt 0 0, pt 1 0, pt 2 0, pt 3 0, wv c, iv (Int.ofNat i)]
def HA (a b out : Nat → Nat) : Heap := [nb a, nb b, nb (fun _ => 0), nb out]

theorem okAdd' : (CallC.pure cAdd).Ok Try.prog 23 := by
  intro args pre v h _
  unfold cAdd at h
  split at h
  · rename_i a b
    cases h
    refine pure_walk' tt_ok Try.func23 (by kernel_rfl) (by kernel_rfl) (by kernel_rfl) (by kernel_rfl) ?_
    refine loopF mixed tt_ok G0_ok (by kernel_rfl) (ι := {x // InvA a b x}) [2,3,4,6,7,8] 41 4 (fun x => VA x.1.1 x.1.2.2) (fun x => HA a b x.1.2.1) (fun x => 6 - x.1.1) (fun x => x.1.1 = 6)
      (fun _ => rfl) (fun _ => by kernel_rfl) (fun _ _ h => h.elim) 50 [] ?_ ?_ ?_
    · refine same (p := true = true ∧ ∃ j : {x // InvA a b x}, VA 0 0 = VA j.1.1 j.1.2.2 ∧ HA a b (fun _ => 0) = HA a b j.1.2.1) ?_ (by kernel_rfl)
      exact ⟨rfl, ⟨(0, (fun _ => 0), 0), by simp [InvA, nvn]⟩, rfl, rfl⟩
    · intro ⟨⟨i, out, c⟩, hi, hc, hv⟩ junk
      simp only at hi hc hv
      by_cases h6 : i < 6
      · refine roundF mixed tt_ok G0_ok 50 [⟨4,1,.lit (.bo true)⟩, ⟨6,1,.sym⟩, ⟨6,2,.sym⟩, ⟨6,4,.sym⟩, ⟨6,5,.sym⟩, ⟨7,2,.sym⟩, ⟨7,3,.sym⟩, ⟨8,4,.sym⟩, ⟨8,5,.sym⟩, ⟨9,1,.sym⟩, ⟨9,2,.sym⟩, ⟨5,1,.lit (.it (Int.ofNat (i+1)))⟩] ?_
        let LF : Nat → Prop := fun c' => wrapI (Int.ofNat i + 1) = Int.ofNat (i + 1) ∧ true = true ∧ ∃ j : {x // InvA a b x}, 6 - j.1.1 < 6 - i ∧ VA (i + 1) c' = VA j.1.1 j.1.2.2 ∧ HA a b (upd out i (a i + b i + c)) = HA a b j.1.2.1
        have lf : ∀ c', c' = carryD (a i) (b i) c → LF c' := by
          intro c' hc'
          refine ⟨wrapI_succ (by omega), rfl, ⟨(i + 1, upd out i (a i + b i + c), c'), ?_, ?_, ?_⟩, by simp only; omega, rfl, rfl⟩
          · simp only; omega
          · simp only; rw [hc']; exact carryD_le _ _ _
          · simp only
            have := carryD_eq (a i) (b i) c hc
            rw [← hc'] at this
            rw [nvn_upd]
            simp only [nvn, Nat.pow_succ]
            have e : W ^ i * ((a i + b i + c) % W) + W ^ i * W * c' = W ^ i * (a i % W) + W ^ i * (b i % W) + W ^ i * c := by
              rw [Nat.mul_assoc, ← Nat.mul_add, this, Nat.mul_add, Nat.mul_add]
            omega
        refine same (p := ilt (Int.ofNat i) 6 = true ∧ ix i 6 (ix i 6 (ix i 6 (ix i 6 (ix i 6 (match Nat.blt (upd out i (a i + b i + c) i % W) ((a i + b i) % W) with
          | true => LF 1
          | false => match Nat.blt ((a i + b i) % W) (a i % W) with
            | true => LF 1
            | false => LF 0)))))) ?_ (by kernel_rfl)
        refine ⟨ilt_t h6, ix_of h6 <| ix_of h6 <| ix_of h6 <| ix_of h6 <| ix_of h6 ?_⟩
        rw [upd_same]
        cases h1 : Nat.blt ((a i + b i + c) % W) ((a i + b i) % W)
        · cases h2 : Nat.blt ((a i + b i) % W) (a i % W)
          · exact lf 0 (by unfold carryD; rw [h1, h2]; rfl)
          · exact lf 1 (by unfold carryD; rw [h1, h2]; rfl)
        · exact lf 1 (by unfold carryD; rw [h1]; rfl)
      · have : i = 6 := by omega
        subst this
        refine roundF mixed tt_ok G0_ok 50 [] ?_
        refine same (p := true = true ∧ ∃ j : {x // InvA a b x}, j.1.1 = 6 ∧ VA 6 c = VA j.1.1 j.1.2.2 ∧ HA a b out = HA a b j.1.2.1) ?_ (by kernel_rfl)
        exact ⟨rfl, ⟨(6, out, c), hi, hc, hv⟩, rfl, rfl, rfl⟩
    · intro ⟨⟨i, out, c⟩, hi, hc, hv⟩ junk h6
      simp only at hi hc hv h6
      subst h6
      refine same (p := ∃ v', some (AV.tup [.agg [.ws .u64 6 out], .sc (.bo (Nat.beq (c % W) (1 % W)))]) = some v' ∧ ∀ ρ, v'.val ρ = (AV.tup [numV ((nv a + nv b) % R), .sc (.bo (Nat.ble R (nv a + nv b)))]).val ρ) ?_ (by kernel_rfl)
      refine ⟨_, rfl, fun ρ => ?_⟩
      rw [← nv_nvn, ← nv_nvn, ← nv_nvn, ← R_eq] at hv
      have := sum_end hc hv (nv_lt out)
      simp only [AV.val, List.map_cons, List.map_nil]
      rw [numV_val (n := (nv a + nv b) % R) (by rw [Nat.mod_mod, ← this.1, Nat.mod_eq_of_lt (nv_lt out)]) ρ, this.2]
  · cases h

/-! Sub -/
def InvS (a b : Nat → Nat) (x : Nat × (Nat → Nat) × Nat) : Prop := x.1 ≤ 6 ∧ x.2.2 ≤ 1 ∧ nvn x.2.1 x.1 + nvn b x.1 = nvn a x.1 + W ^ x.1 * x.2.2
theorem okSub' : (CallC.pure cSub).Ok Try.prog 25 := by
  intro args pre v h _
  unfold cSub at h
  split at h
  · rename_i a b
    cases h
    refine pure_walk' tt_ok Try.func25 (by kernel_rfl) (by kernel_rfl) (by kernel_rfl) (by kernel_rfl) ?_
    refine loopF mixed tt_ok G0_ok (by kernel_rfl) (ι := {x // InvS a b x}) [2,3,4,6,7,8] 41 4 (fun x => VA x.1.1 x.1.2.2) (fun x => HA a b x.1.2.1) (fun x => 6 - x.1.1) (fun x => x.1.1 = 6)
      (fun _ => rfl) (fun _ => by kernel_rfl) (fun _ _ h => h.elim) 50 [] ?_ ?_ ?_
    · refine same (p := true = true ∧ ∃ j : {x // InvS a b x}, VA 0 0 = VA j.1.1 j.1.2.2 ∧ HA a b (fun _ => 0) = HA a b j.1.2.1) ?_ (by kernel_rfl)
      exact ⟨rfl, ⟨(0, (fun _ => 0), 0), by simp [InvS, nvn]⟩, rfl, rfl⟩
    · intro ⟨⟨i, out, c⟩, hi, hc, hv⟩ junk
      simp only at hi hc hv
      by_cases h6 : i < 6
      · refine roundF mixed tt_ok G0_ok 50 [⟨4,1,.lit (.bo true)⟩, ⟨6,1,.sym⟩, ⟨6,2,.sym⟩, ⟨6,4,.sym⟩, ⟨6,5,.sym⟩, ⟨7,1,.sym⟩, ⟨7,2,.sym⟩,  ⟨7,4,.sym⟩, ⟨7,5,.sym⟩,⟨8,4,.sym⟩, ⟨8,5,.sym⟩, ⟨5,1,.lit (.it (Int.ofNat (i+1)))⟩] ?_
        let LF : Nat → Prop := fun c' => wrapI (Int.ofNat i + 1) = Int.ofNat (i + 1) ∧ true = true ∧ ∃ j : {x // InvS a b x}, 6 - j.1.1 < 6 - i ∧ VA (i + 1) c' = VA j.1.1 j.1.2.2 ∧ HA a b (upd out i (a i + (W - b i % W) + (W - c % W))) = HA a b j.1.2.1
        have lf : ∀ c', c' = borrowD (a i) (b i) c → LF c' := by
          intro c' hc'
          refine ⟨wrapI_succ (by omega), rfl, ⟨(i + 1, upd out i (a i + (W - b i % W) + (W - c % W)), c'), ?_, ?_, ?_⟩, by simp only; omega, rfl, rfl⟩
          · simp only; omega
          · simp only; rw [hc']; exact borrowD_le _ _ _
          · simp only
            have := borrowD_eq (a i) (b i) c hc
            rw [← hc'] at this
            rw [nvn_upd]
            simp only [nvn, Nat.pow_succ]
            have e : W ^ i * ((a i + (W - b i % W) + (W - c % W)) % W) + (W ^ i * (b i % W) + W ^ i * c) = W ^ i * (a i % W) + W ^ i * W * c' := by
              rw [Nat.mul_assoc, ← Nat.mul_add, ← Nat.mul_add, this, Nat.mul_add]
            omega
        refine same (p := ilt (Int.ofNat i) 6 = true ∧ ix i 6 (ix i 6 (ix i 6 (ix i 6 (ix i 6 (match Nat.blt ((a i + (W - b i % W)) % W) (c % W) with
          | true => LF 1
          | false => match Nat.blt (a i % W) (b i % W) with
            | true => LF 1
            | false => LF 0)))))) ?_ (by kernel_rfl)
        refine ⟨ilt_t h6, ix_of h6 <| ix_of h6 <| ix_of h6 <| ix_of h6 <| ix_of h6 ?_⟩
        cases h1 : Nat.blt ((a i + (W - b i % W)) % W) (c % W)
        · cases h2 : Nat.blt (a i % W) (b i % W)
          · exact lf 0 (by unfold borrowD; rw [h1, h2]; rfl)
          · exact lf 1 (by unfold borrowD; rw [h1, h2]; rfl)
        · exact lf 1 (by unfold borrowD; rw [h1]; rfl)
      · have : i = 6 := by omega
        subst this
        refine roundF mixed tt_ok G0_ok 50 [] ?_
        refine same (p := true = true ∧ ∃ j : {x // InvS a b x}, j.1.1 = 6 ∧ VA 6 c = VA j.1.1 j.1.2.2 ∧ HA a b out = HA a b j.1.2.1) ?_ (by kernel_rfl)
        exact ⟨rfl, ⟨(6, out, c), hi, hc, hv⟩, rfl, rfl, rfl⟩
    · intro ⟨⟨i, out, c⟩, hi, hc, hv⟩ junk h6
      simp only at hi hc hv h6
      subst h6
      refine same (p := ∃ v', some (AV.tup [.agg [.ws .u64 6 out], .sc (.bo (Nat.beq (c % W) (1 % W)))]) = some v' ∧ ∀ ρ, v'.val ρ = (AV.tup [numV ((nv a + R - nv b) % R), .sc (.bo (Nat.blt (nv a) (nv b)))]).val ρ) ?_ (by kernel_rfl)
      refine ⟨_, rfl, fun ρ => ?_⟩
      rw [← nv_nvn, ← nv_nvn, ← nv_nvn, ← R_eq] at hv
      have := diff_end hc hv (nv_lt out) (nv_lt b)
      simp only [AV.val, List.map_cons, List.map_nil]
      rw [numV_val (n := (nv a + R - nv b) % R) (by rw [Nat.mod_mod, ← this.1]) ρ, this.2]
  · cases h
end Go.Proofs.Ytiaongfgkmbaaaa
