/- Text: which digits are told of a number. -/
import Derived.Test.YtiaongfgkmbaaaaW8
import Derived.Test.YtiaongfgkmbaaaaW6
import Derived.Test.YtiaongfgkmbaaaaWM6
import Derived.Test.YtiaongfgkmbaaaaFwP
namespace Go.Proofs.Ytiaongfgkmbaaaa
open Go.Rq Go

def GT : Ctx := ctxL [(36, .pure cLen)]
theorem GT_ok : CtxOk Try.prog GT := ctxL_cons okLen ctxL_nil
def cText : List AV → Option (List Prop × AV)
  | [.v1 (.agg [.ws .u64 6 a])] => some ([], .v1 (.sc (.str (tLen (nv a)) (txF (nv a) (tLen (nv a))))))
  | _ => none
abbrev nilS : AV := .v1 (.sc (.rw (.slice none 0 0)))
/-- A list of bytes that is appended to: k of them, at slot s. -/
def bS (s : Nat) : Nat → AV
  | 0 => nilS
  | k + 1 => .v1 (.sc (.so s (k + 1)))
def bB (f : Nat → Nat) : Nat → Option Blk
  | 0 => none
  | k + 1 => some ⟨5, [.ws .u8 (k + 1) f], 1, 1⟩
def bD : Nat → Option Blk
  | 0 => none
  | _ + 1 => some ⟨0, [], 2, 0⟩
def VX (r k : Nat) : List AV := [pt 0 0, bS 1 k, iv (predI r)]
def HX (a f : Nat → Nat) (k : Nat) : Heap := [nb a, bB f k, bD k]
def InvX (a : Nat → Nat) (x : Nat × Nat × (Nat → Nat)) : Prop := x.1 + x.2.1 = tLen (nv a) ∧ ∀ j, j < x.2.1 → x.2.2 j % 256 = txF (nv a) (tLen (nv a)) j % 256

theorem okText : (CallC.pure cText).Ok Try.prog 20 := by
  intro args pre v h _
  unfold cText at h
  split at h
  · rename_i a
    cases h
    have hL := tLen_le (nv_lt a)
    refine pure_walk' tt_ok Try.func20 (by kernel_rfl) (by kernel_rfl) (by kernel_rfl) (by kernel_rfl) ?_
    refine loopR mixed tt_ok GT_ok (by kernel_rfl) (ι := {x // InvX a x}) [0,77,78] [0,4,5] [0,1,2] [1,3,4] 29 (fun x => VX x.1.1 x.1.2.1) (fun x => HX a x.1.2.2 x.1.2.1) (fun x => x.1.1) (fun x => x.1.1 = 0)
      (fun x => by
        obtain ⟨⟨r, k, f⟩, _⟩ := x
        cases k <;> kernel_rfl) (fun _ _ h => h.elim) (fun _ h => h.elim) 60 [⟨2,2,.lit (.it (Int.ofNat (tB1 (nv a))))⟩, ⟨2,3,.lit (.it (Int.ofNat (tB1 (nv a) - 1)))⟩, ⟨2,4,.lit (.it (predI (tLen (nv a))))⟩] ?_ ?_ ?_
    · refine same (p := (bif ilt (Int.ofNat (blen (nv a))) 1 then 1 else Int.ofNat (blen (nv a))) = Int.ofNat (tB1 (nv a)) ∧ wrapI (Int.ofNat (tB1 (nv a)) - 1) = Int.ofNat (tB1 (nv a) - 1) ∧ wrapI ((Int.ofNat (tB1 (nv a) - 1)).tdiv 4) = predI (tLen (nv a)) ∧ true = true ∧ true = true ∧
        ∃ j : {x // InvX a x}, VX (tLen (nv a)) 0 = VX j.1.1 j.1.2.1 ∧ HX a (fun _ => 0) 0 = HX a j.1.2.2 j.1.2.1) ?_ (by kernel_rfl)
      have hb := tB1_le (nv_lt a)
      refine ⟨?_, ?_, ?_, rfl, rfl, ⟨(tLen (nv a), 0, fun _ => 0), by simp, fun j hj => by simp at hj⟩, rfl, rfl⟩
      · unfold tB1
        cases hc : Nat.ble (blen (nv a)) 1
        · have h1 : ¬ blen (nv a) ≤ 1 := by rw [← Nat.ble_eq, hc]; simp
          have : ilt (Int.ofNat (blen (nv a))) 1 = false := by rw [← Bool.not_eq_true, ilt_iff]; simp; omega
          rw [this]; rfl
        · rw [Nat.ble_eq] at hc
          by_cases h1 : blen (nv a) = 1
          · rw [h1]; rfl
          · have h0 : blen (nv a) = 0 := by omega
            rw [h0]; rfl
      · have := predI_eq (k := tB1 (nv a)) (by omega)
        rw [this]
        obtain ⟨m, hm⟩ : ∃ m, tB1 (nv a) = m + 1 := ⟨tB1 (nv a) - 1, by omega⟩
        rw [hm]; rfl
      · exact tdiv4 ⟨tB1 (nv a) - 1, by omega⟩
    · intro ⟨⟨r, k, f⟩, hs, hf⟩ junk
      simp only at hs hf
      cases r with
      | zero =>
        refine roundF mixed tt_ok GT_ok 60 [] ?_
        cases k with
        | zero => omega
        | succ k =>
          refine same (p := true = true ∧ true = true ∧ ∃ j : {x // InvX a x}, j.1.1 = 0 ∧ VX 0 (k + 1) = VX j.1.1 j.1.2.1 ∧ HX a f (k + 1) = HX a j.1.2.2 j.1.2.1) ?_ (by kernel_rfl)
          exact ⟨rfl, rfl, ⟨(0, k + 1, f), hs, hf⟩, rfl, rfl, rfl⟩
      | succ i =>
        have hi : i < 96 := by omega
        obtain ⟨hg1, hg2⟩ := DG_eq a hi
        have hge : (!ilt (Int.ofNat i) 0) = true := by rw [(by rw [← Bool.not_eq_true, ilt_iff]; simp : ilt (Int.ofNat i) 0 = false)]; rfl
        have hp : wrapI (Int.ofNat i - 1) = predI i := predI_eq (by omega)
        have hmodW : DG a i % W = DG a i := Nat.mod_eq_of_lt (by simp only [W]; omega)
        have next : ∀ (k : Nat) (f g : Nat → Nat), i + 1 + k = tLen (nv a) → (∀ j, j < k → f j % 256 = txF (nv a) (tLen (nv a)) j % 256) → (∀ j, j < k → g j = f j) → g k = byteAt HEX (DG a i % W) →
            ∃ j : {x // InvX a x}, j.1.1 < i + 1 ∧ VX i (k + 1) = VX j.1.1 j.1.2.1 ∧ HX a g (k + 1) = HX a j.1.2.2 j.1.2.1 := by
          intro k f g hs hf h1 h2
          refine ⟨⟨(i, k + 1, g), by simp only; omega, fun j hj => ?_⟩, by simp only; omega, rfl, rfl⟩
          simp only at hj ⊢
          by_cases hjk : j < k
          · rw [h1 j hjk]; exact hf j hjk
          · have : j = k := by omega
            subst this
            rw [h2, hmodW, hg1]
            unfold txF
            rw [show tLen (nv a) - 1 - j = i by omega]
        have t16 := tdiv16 ⟨i, hi⟩
        have m16 := tmod16 ⟨i, hi⟩
        have m4 := mul4 ⟨i % 16, Nat.mod_lt _ (by omega)⟩
        cases k with
        | zero =>
          refine roundF mixed tt_ok GT_ok 60 [⟨3,1,.lit (.bo true)⟩,⟨5,2,.lit (.it (Int.ofNat (i/16)))⟩,⟨5,3,.sym⟩,⟨5,4,.sym⟩,⟨5,6,.lit (.it (Int.ofNat (i%16)))⟩,⟨5,7,.lit (.it (Int.ofNat (4*(i%16))))⟩,⟨5,8,.sym⟩,⟨5,10,.sym⟩,⟨4,1,.lit (.it (predI i))⟩] ?_
          refine same (p := (!ilt (Int.ofNat i) 0) = true ∧ wrapI ((Int.ofNat i).tdiv 16) = Int.ofNat (i / 16) ∧ ix (i / 16) 6 ((Int.ofNat i).tmod 16 = Int.ofNat (i % 16) ∧ wrapI (4 * Int.ofNat (i % 16)) = Int.ofNat (4 * (i % 16)) ∧ 0 ≤ Int.ofNat (4 * (i % 16)) ∧ DG a i % W < 16 ∧
            wrapI (Int.ofNat i - 1) = predI i ∧ true = true ∧ true = true ∧ ∃ j : {x // InvX a x}, j.1.1 < i + 1 ∧ VX i 1 = VX j.1.1 j.1.2.1 ∧ HX a (upd (fun _ => 0) 0 (byteAt HEX (DG a i % W))) 1 = HX a j.1.2.2 j.1.2.1)) ?_ (by kernel_rfl)
          exact ⟨hge, t16, ix_of (by omega) ⟨m16, m4, Int.natCast_nonneg _, by rw [hmodW]; exact hg2, hp, rfl, rfl, next 0 f _ hs hf (fun j hj => by omega) (by rw [upd_same])⟩⟩
        | succ k =>
          refine roundF mixed tt_ok GT_ok 60 [⟨3,1,.lit (.bo true)⟩,⟨5,2,.lit (.it (Int.ofNat (i/16)))⟩,⟨5,3,.sym⟩,⟨5,4,.sym⟩,⟨5,6,.lit (.it (Int.ofNat (i%16)))⟩,⟨5,7,.lit (.it (Int.ofNat (4*(i%16))))⟩,⟨5,8,.sym⟩,⟨5,10,.sym⟩,⟨5,12,.sym⟩,⟨4,1,.lit (.it (predI i))⟩] ?_
          refine same (p := (!ilt (Int.ofNat i) 0) = true ∧ wrapI ((Int.ofNat i).tdiv 16) = Int.ofNat (i / 16) ∧ ix (i / 16) 6 ((Int.ofNat i).tmod 16 = Int.ofNat (i % 16) ∧ wrapI (4 * Int.ofNat (i % 16)) = Int.ofNat (4 * (i % 16)) ∧ 0 ≤ Int.ofNat (4 * (i % 16)) ∧ DG a i % W < 16 ∧
            k + 1 = k + 1 ∧ 1 ≤ 1 ∧ k + 1 + 1 ≤ 17179869184 ∧ (false = true → 0 < 1) ∧
            wrapI (Int.ofNat i - 1) = predI i ∧ true = true ∧ true = true ∧ ∃ j : {x // InvX a x}, j.1.1 < i + 1 ∧ VX i (k + 1 + 1) = VX j.1.1 j.1.2.1 ∧ HX a (catF (k + 1) f (fun j => upd (fun _ => 0) 0 (byteAt HEX (DG a i % W)) j)) (k + 1 + 1) = HX a j.1.2.2 j.1.2.1)) ?_ (by kernel_rfl)
          refine ⟨hge, t16, ix_of (by omega) ⟨m16, m4, Int.natCast_nonneg _, by rw [hmodW]; exact hg2, rfl, Nat.le_refl _, by omega, fun h => (by cases h), hp, rfl, rfl, next (k + 1) f _ hs hf (fun j hj => ?_) ?_⟩⟩
          · unfold catF
            have : Nat.blt j (k + 1) = true := by rw [Nat.blt_eq]; exact hj
            rw [this]; rfl
          · unfold catF
            have : Nat.blt (k + 1) (k + 1) = false := by rw [← Bool.not_eq_true, Nat.blt_eq]; omega
            rw [this]
            simp only [cond_false, Nat.sub_self]
            rw [upd_same]
    · intro ⟨⟨r, k, f⟩, hs, hf⟩ junk h0
      simp only at hs hf h0
      subst h0
      cases k with
      | zero => omega
      | succ k =>
        refine evS_q mixed tt_ok GT_ok 60 [⟨6,1,.sym⟩] ?_
        refine same (p := k + 1 = k + 1 ∧ k + 1 = k + 1 ∧ ∃ v', some (AV.v1 (.sc (.str (k + 1) f))) = some v' ∧ ∀ ρ, v'.val ρ = (AV.v1 (.sc (.str (tLen (nv a)) (txF (nv a) (tLen (nv a)))))).val ρ) ?_ (by kernel_rfl)
        refine ⟨rfl, rfl, _, rfl, fun ρ => ?_⟩
        have : tLen (nv a) = k + 1 := by omega
        simp only [AV.val, V1.val, Sc.val]
        rw [bytesF_congr hf, this]
  · cases h
end Go.Proofs.Ytiaongfgkmbaaaa
