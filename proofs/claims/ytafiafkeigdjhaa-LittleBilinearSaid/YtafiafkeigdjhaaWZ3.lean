/- Points of the little curves: laws at the level of numbers. -/
import Derived.Test.YtafiafkeigdjhaaWZ2
namespace Go.Rq
open Go
set_option linter.unusedVariables false

def negL (p : Nat) (P : LP) : LP := ⟨P.x, zSub p 0 P.y, P.z⟩
section
variable {p : Nat}
theorem Gp.nz (h : Gp p) : NeZero p := ⟨by have := h.pos; omega⟩
theorem on_sum (h : Gp p) {P Q : LP} (hP : OnP p P) (hQ : OnP p Q) : OnP p (sumN p P Q) := by
  haveI := h.nz
  rw [sumN_eq h hP hQ]
  exact on_ofE h ((ecZ h).on_add (on_toE h hP) (on_toE h hQ))
theorem on_mulP (h : Gp p) {P : LP} (hP : OnP p P) (n : Nat) : OnP p (mulP p P n) :=
  powB_keep (q := OnP p) (OnP.zero p) (fun _ hx => on_sum h hx hx) (fun _ hx => on_sum h hx hP) _ _
theorem lt_sum (h : Gp p) {P Q : LP} (hP : P.x < p ∧ P.y < p) (hQ : Q.x < p ∧ Q.y < p) : (sumN p P Q).x < p ∧ (sumN p P Q).y < p := by
  have h0 := h.pos
  unfold sumN
  cases P.z
  · cases Q.z
    · cases upB P Q
      · exact ⟨zSub_lt h, zSub_lt h⟩
      · exact ⟨h0, h0⟩
    · exact hP
  · exact hQ
theorem sum_comm (h : Gp p) {P Q : LP} (hP : OnP p P) (hQ : OnP p Q) : sumN p P Q = sumN p Q P := by
  haveI := h.nz
  rw [sumN_eq h hP hQ, sumN_eq h hQ hP, (ecZ h).add_comm (on_toE h hP) (on_toE h hQ)]
theorem sum_assoc (h : Gp p) {P Q S : LP} (hP : OnP p P) (hQ : OnP p Q) (hS : OnP p S) : sumN p (sumN p P Q) S = sumN p P (sumN p Q S) := by
  haveI := h.nz
  have a1 := on_toE h hP
  have a2 := on_toE h hQ
  have a3 := on_toE h hS
  rw [sumN_eq h (on_sum h hP hQ) hS, sumN_eq h hP (on_sum h hQ hS), sumN_eq h hP hQ, sumN_eq h hQ hS, toE_ofE, toE_ofE, (ecZ h).assoc a1 a2 a3]
theorem sum_zero {P : LP} (hz : P.z = false) : sumN p P zeroL = P := by
  unfold sumN
  rw [hz]; rfl
theorem mulP_eq (h : Gp p) [NeZero p] {P : LP} (hP : OnP p P) (n : Nat) : mulP p P n = ofE ((ecZ h).mul n (toE P)) := by
  have a1 := on_toE h hP
  induction n using Nat.strongRecOn with
  | ind n ih =>
    by_cases h0 : n = 0
    · subst h0; rfl
    · have e := ih (n / 2) (by omega)
      have hh := on_mulP h hP (n / 2)
      have e2 : sumN p (mulP p P (n / 2)) (mulP p P (n / 2)) = ofE ((ecZ h).mul (n / 2 + n / 2) (toE P)) := by
        rw [sumN_eq h hh hh, e, toE_ofE, ← (ecZ h).mul_add a1]
      by_cases hb : n % 2 = 1
      · have : mulP p P n = sumN p (sumN p (mulP p P (n / 2)) (mulP p P (n / 2))) P := powB_odd _ _ _ hb
        rw [this, sumN_eq h (on_sum h hh hh) hP, e2, toE_ofE]
        show ofE ((ecZ h).mul (n / 2 + n / 2 + 1) (toE P)) = _
        rw [show n / 2 + n / 2 + 1 = n by omega]
      · have : mulP p P n = sumN p (mulP p P (n / 2)) (mulP p P (n / 2)) := powB_even _ _ _ h0 hb
        rw [this, e2, show n / 2 + n / 2 = n by omega]
theorem mulP_add (h : Gp p) {P : LP} (hP : OnP p P) (m n : Nat) : mulP p P (m + n) = sumN p (mulP p P m) (mulP p P n) := by
  haveI := h.nz
  rw [sumN_eq h (on_mulP h hP m) (on_mulP h hP n), mulP_eq h hP, mulP_eq h hP m, mulP_eq h hP n, toE_ofE, toE_ofE, (ecZ h).mul_add (on_toE h hP)]
theorem mulP_mul (h : Gp p) {P : LP} (hP : OnP p P) (m n : Nat) : mulP p (mulP p P m) n = mulP p P (m * n) := by
  haveI := h.nz
  rw [mulP_eq h (on_mulP h hP m), mulP_eq h hP m, toE_ofE, (ecZ h).mul_mul (on_toE h hP), ← mulP_eq h hP]
theorem mulP_sum (h : Gp p) {P Q : LP} (hP : OnP p P) (hQ : OnP p Q) (n : Nat) : mulP p (sumN p P Q) n = sumN p (mulP p P n) (mulP p Q n) := by
  haveI := h.nz
  rw [mulP_eq h (on_sum h hP hQ), sumN_eq h (on_mulP h hP n) (on_mulP h hQ n), sumN_eq h hP hQ, mulP_eq h hP, mulP_eq h hQ, toE_ofE, toE_ofE, toE_ofE, (ecZ h).mul_dist (on_toE h hP) (on_toE h hQ)]
theorem negL_eq (h : Gp p) [NeZero p] {P : LP} (hP : OnP p P) : negL p P = ofE (EC.neg (toE (p := p) P)) := by
  obtain ⟨hx, hy⟩ := hP.lt h
  obtain ⟨x, y, z⟩ := P
  cases z
  · obtain ⟨a, rfl⟩ := fin_of hx
    obtain ⟨b, rfl⟩ := fin_of hy
    show _ = ofE (EC.neg (some (Fin.ofNat p a.val, Fin.ofNat p b.val)))
    rw [ofNat_val, ofNat_val]
    show LP.mk a.val (zSub p 0 b.val) false = LP.mk a.val (0 - b).val false
    rw [fv_sub, fZero]
  · unfold OnP onB at hP
    simp only [cond_true, Bool.and_eq_true, Nat.beq_eq] at hP
    obtain ⟨rfl, rfl⟩ := hP
    show LP.mk 0 ((0 + (p - 0)) % p) true = zeroL
    rw [Nat.zero_add, Nat.sub_zero, Nat.mod_self]
    rfl
theorem on_neg (h : Gp p) {P : LP} (hP : OnP p P) : OnP p (negL p P) := by
  haveI := h.nz
  rw [negL_eq h hP]
  exact on_ofE h ((ecZ h).on_neg (on_toE h hP))
theorem sum_neg (h : Gp p) {P : LP} (hP : OnP p P) : sumN p P (negL p P) = zeroL := by
  haveI := h.nz
  rw [sumN_eq h hP (on_neg h hP), negL_eq h hP, toE_ofE, (ecZ h).add_neg]
  rfl
end
end Go.Rq
