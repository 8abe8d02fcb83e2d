/- Points of the little curves: what their functions tell, and that they are a group's. -/
import Derived.Test.YtafiafkeigdjhaaWZ
import Derived.Test.YtafiafkeigdjhaaWE
import Derived.Test.YtafiafkeigdjhaaWP7
namespace Go.Rq
open Go
set_option linter.unusedVariables false
set_option linter.unusedSectionVars false

structure LP where
  x : Nat
  y : Nat
  z : Bool
def onB (p : Nat) (P : LP) : Bool := bif P.z then (Nat.beq P.x 0 && Nat.beq P.y 0) else (Nat.blt P.x p && (Nat.blt P.y p && Nat.beq (zMul p P.y P.y) (zRight p P.x)))
def slN (p : Nat) (P Q : LP) : Nat :=
  bif Nat.beq P.x Q.x then zMul p (zAdd p (zAdd p (zAdd p (zMul p P.x P.x) (zMul p P.x P.x)) (zMul p P.x P.x)) 1) (zInv p (zAdd p P.y P.y))
  else zMul p (zSub p Q.y P.y) (zInv p (zSub p Q.x P.x))
/-- Does the line of two points go straight up? -/
def upB (P Q : LP) : Bool := Nat.beq P.x Q.x && (!Nat.beq P.y Q.y || Nat.beq P.y 0)
def byN (p : Nat) (m : Nat) (P Q : LP) : LP := ⟨zSub p (zSub p (zMul p m m) P.x) Q.x, zSub p (zMul p m (zSub p P.x (zSub p (zSub p (zMul p m m) P.x) Q.x))) P.y, false⟩
def zeroL : LP := ⟨0, 0, true⟩
def sumN (p : Nat) (P Q : LP) : LP := bif P.z then Q else bif Q.z then P else bif upB P Q then zeroL else byN p (slN p P Q) P Q
def mulP (p : Nat) (P : LP) (n : Nat) : LP := powB (fun t => sumN p t t) (fun t => sumN p t P) zeroL n
def OnP (p : Nat) (P : LP) : Prop := onB p P = true

theorem OnP.zero (p : Nat) : OnP p zeroL := rfl
theorem OnP.lt {p : Nat} {P : LP} (h : OnP p P) (hp : Gp p) : P.x < p ∧ P.y < p := by
  unfold OnP onB at h
  have := hp.pos
  cases hz : P.z
  · rw [hz, cond_false] at h
    simp only [Bool.and_eq_true, Nat.blt_eq] at h
    exact ⟨h.1, h.2.1⟩
  · rw [hz, cond_true] at h
    simp only [Bool.and_eq_true, Nat.beq_eq] at h
    omega

theorem Gp.pr {p : Nat} (h : Gp p) : Pr p := h.elim (fun e => e ▸ lpr4) (fun e => e ▸ lpr3)

/-! the field -/
theorem zPow_eq (p a : Nat) (hp : 1 < p) : ∀ k n, n < 2 ^ k → foldB (fun t => zMul p t t) (fun t => zMul p t a) 1 k n = a ^ n % p
  | 0, n, h => by
    have : n = 0 := by simpa using h
    subst this
    rw [Nat.pow_zero, Nat.mod_eq_of_lt hp]; rfl
  | k + 1, n, h => by
    have h2 : n / 2 < 2 ^ k := by rw [Nat.pow_succ] at h; omega
    have ih := zPow_eq p a hp k (n / 2) h2
    unfold foldB
    rw [ih]
    have e : zMul p (a ^ (n / 2) % p) (a ^ (n / 2) % p) = a ^ (n / 2 + n / 2) % p := by
      unfold zMul
      rw [← Nat.mul_mod, Nat.pow_add]
    rw [e]
    cases hb : Nat.beq (n % 2) 1
    · rw [cond_false]
      have : n % 2 ≠ 1 := fun e => by rw [← Nat.beq_eq, hb] at e; cases e
      rw [show n / 2 + n / 2 = n by omega]
    · rw [cond_true]
      rw [Nat.beq_eq] at hb
      unfold zMul
      rw [Nat.mod_mul_mod, ← Nat.pow_succ, show (n / 2 + n / 2).succ = n by omega]
theorem zPow_pow {p a n : Nat} (hp : 1 < p) : zPow p a n = a ^ n % p := by
  by_cases h : n = 0
  · subst h; exact zPow_eq p a hp 0 0 (by decide)
  · exact zPow_eq p a hp _ n (blen_bounds h).2
theorem zInv_mul {p a : Nat} (hp : Gp p) (ha : a % p ≠ 0) : zMul p a (zInv p a) = 1 := by
  have hb := hp.big
  unfold zInv
  rw [zPow_pow (by omega)]
  unfold zMul
  rw [Nat.mul_mod_mod, Nat.mul_comm, ← Nat.pow_succ, show (p - 2).succ = p - 1 by omega]
  exact fermat_nat hp.pr ha

section
variable {p : Nat} [NeZero p]
theorem fv_add (a b : Fin p) : (a + b).val = zAdd p a.val b.val := rfl
theorem fv_mul (a b : Fin p) : (a * b).val = zMul p a.val b.val := rfl
theorem fv_sub (a b : Fin p) : (a - b).val = zSub p a.val b.val := by
  show ((p - b.val) + a.val) % p = _
  rw [Nat.add_comm]; rfl
def fInv (h : Gp p) (a : Fin p) : Fin p := ⟨zInv p a.val, zInv_lt h⟩
theorem fOne (h : Gp p) : (1 : Fin p).val = 1 := Nat.mod_eq_of_lt (Nat.lt_trans (show 1 < 700000 by decide) h.big)
theorem fZero : (0 : Fin p).val = 0 := Nat.zero_mod p
theorem fInv_ok (h : Gp p) (a : Fin p) (ha : a ≠ 0) : a * fInv h a = 1 := by
  apply Fin.ext
  rw [fv_mul, fOne h]
  refine zInv_mul h fun e => ha (Fin.ext ?_)
  rw [Nat.mod_eq_of_lt a.isLt] at e
  rw [e, fZero]
theorem fTwo (h : Gp p) : (1 + 1 : Fin p) ≠ 0 := by
  intro e
  have := congrArg Fin.val e
  rw [fv_add, fOne h, fZero] at this
  unfold zAdd at this
  have hb := h.big
  rw [Nat.mod_eq_of_lt (by omega)] at this
  omega
theorem fDom (h : Gp p) {a b : Fin p} (e : a * b = 0) : a = 0 ∨ b = 0 := by
  by_cases ha : a = 0
  · exact .inl ha
  · refine .inr ?_
    have h1 := fInv_ok h a ha
    have : fInv h a * (a * b) = fInv h a * 0 := by rw [e]
    grind
def ecZ (h : Gp p) : EC (Fin p) where
  a := 1
  b := 0
  inv := fInv h
  inv_ok := fInv_ok h
  two := fTwo h
  ns := fun x e e2 => by
    have h1 : x * (x * x + 1) = 0 := by grind
    rcases fDom h h1 with h2 | h2
    · subst h2
      have : (1 : Fin p) = 0 := by grind
      have := congrArg Fin.val this
      rw [fOne h, fZero] at this
      exact absurd this (by decide)
    · have : (1 + 1 : Fin p) = 0 := by grind
      exact fTwo h this
def toE (P : LP) : Option (Fin p × Fin p) := bif P.z then none else some (Fin.ofNat p P.x, Fin.ofNat p P.y)
def ofE : Option (Fin p × Fin p) → LP
  | none => zeroL
  | some q => ⟨q.1.val, q.2.val, false⟩
theorem fin_of {n : Nat} (h : n < p) : ∃ a : Fin p, n = a.val := ⟨⟨n, h⟩, rfl⟩
theorem ofNat_val (a : Fin p) : Fin.ofNat p a.val = a := Fin.ext (Nat.mod_eq_of_lt a.isLt)
theorem toE_ofE (e : Option (Fin p × Fin p)) : toE (ofE e) = e := by
  match e with
  | none => rfl
  | some (a, b) =>
    show some (Fin.ofNat p a.val, Fin.ofNat p b.val) = _
    rw [ofNat_val, ofNat_val]
theorem ofE_toE (h : Gp p) {P : LP} (hP : OnP p P) : ofE (toE (p := p) P) = P := by
  obtain ⟨hx, hy⟩ := hP.lt h
  obtain ⟨x, y, z⟩ := P
  cases z
  · show LP.mk (x % p) (y % p) false = _
    rw [Nat.mod_eq_of_lt hx, Nat.mod_eq_of_lt hy]
  · unfold OnP onB at hP
    simp only [cond_true, Bool.and_eq_true, Nat.beq_eq] at hP
    obtain ⟨rfl, rfl⟩ := hP
    rfl
theorem on_iff (h : Gp p) (a b : Fin p) : OnP p ⟨a.val, b.val, false⟩ ↔ (ecZ h).on (some (a, b)) := by
  have h1 : Nat.blt a.val p = true := by rw [Nat.blt_eq]; exact a.isLt
  have h2 : Nat.blt b.val p = true := by rw [Nat.blt_eq]; exact b.isLt
  have e1 : zMul p b.val b.val = (b * b).val := rfl
  have e2 : zRight p a.val = (a * a * a + a).val := rfl
  unfold OnP onB EC.on
  simp only [cond_false, h1, h2, Bool.true_and, Nat.beq_eq, e1, e2]
  show _ ↔ b * b = a * a * a + 1 * a + 0
  rw [show a * a * a + 1 * a + 0 = a * a * a + a by grind, Fin.ext_iff]
theorem on_toE (h : Gp p) {P : LP} (hP : OnP p P) : (ecZ h).on (toE P) := by
  obtain ⟨hx, hy⟩ := hP.lt h
  obtain ⟨x, y, z⟩ := P
  cases z
  · obtain ⟨a, rfl⟩ := fin_of hx
    obtain ⟨b, rfl⟩ := fin_of hy
    show (ecZ h).on (some (Fin.ofNat p a.val, Fin.ofNat p b.val))
    rw [ofNat_val, ofNat_val]
    exact (on_iff h a b).1 hP
  · trivial
theorem on_ofE (h : Gp p) {e : Option (Fin p × Fin p)} (he : (ecZ h).on e) : OnP p (ofE e) := by
  match e with
  | none => rfl
  | some (a, b) => exact (on_iff h a b).2 he
theorem slN_eq (h : Gp p) (a b c d : Fin p) : slN p ⟨a.val, b.val, false⟩ ⟨c.val, d.val, false⟩ = ((ecZ h).slope (a, b) (c, d)).val := by
  unfold slN EC.slope
  by_cases hx : a = c
  · subst hx
    rw [if_pos rfl, show Nat.beq a.val a.val = true by rw [Nat.beq_eq], cond_true]
    have : zAdd p (zAdd p (zAdd p (zMul p a.val a.val) (zMul p a.val a.val)) (zMul p a.val a.val)) 1 = (a * a + a * a + a * a + 1).val := by
      rw [fv_add, fOne h]; rfl
    show zMul p (zAdd p (zAdd p (zAdd p (zMul p a.val a.val) (zMul p a.val a.val)) (zMul p a.val a.val)) 1) _ = _
    rw [this]
    rfl
  · rw [if_neg hx]
    have : Nat.beq a.val c.val = false := by rw [← Bool.not_eq_true, Nat.beq_eq]; exact fun e => hx (Fin.ext e)
    show (bif Nat.beq a.val c.val then _ else _) = _
    rw [this, cond_false, fv_mul]
    show _ = zMul p (d - b).val (zInv p (c - a).val)
    rw [fv_sub, fv_sub]
theorem up_iff (h : Gp p) {a b c d : Fin p} (h1 : (ecZ h).on (some (a, b))) (h2 : (ecZ h).on (some (c, d))) : upB ⟨a.val, b.val, false⟩ ⟨c.val, d.val, false⟩ = true ↔ EC.Opp (a, b) (c, d) := by
  unfold upB EC.Opp
  simp only [Bool.and_eq_true, Bool.or_eq_true, Nat.beq_eq, Bool.not_eq_true', ← Bool.not_eq_true]
  have e0 : b.val = 0 ↔ b = 0 := by rw [Fin.ext_iff, fZero]
  rw [← Fin.ext_iff, ← Fin.ext_iff, e0]
  refine ⟨fun ⟨hx, hy⟩ => ⟨hx, ?_⟩, fun ⟨hx, hy⟩ => ⟨hx, ?_⟩⟩
  · subst hx
    have e : (b - d) * (b + d) = 0 := by
      have g1 : b * b = a * a * a + 1 * a + 0 := h1
      have g2 : d * d = a * a * a + 1 * a + 0 := h2
      grind
    rcases fDom h e with e | e
    · have hbd : b = d := by grind
      rcases hy with hy | hy
      · exact absurd hbd hy
      · subst hbd; rw [hy]; grind
    · exact e
  · by_cases hbd : b = d
    · refine .inr ?_
      subst hbd
      have : (1 + 1) * b = 0 := by grind
      rcases fDom h this with e | e
      · exact absurd e (fTwo h)
      · exact e
    · exact .inl hbd
/-- The sum is the group's. -/
theorem sumN_eq (h : Gp p) {P Q : LP} (hP : OnP p P) (hQ : OnP p Q) : sumN p P Q = ofE ((ecZ h).add (toE P) (toE Q)) := by
  obtain ⟨hx, hy⟩ := hP.lt h
  obtain ⟨hu, hv⟩ := hQ.lt h
  have h1 := on_toE h hP
  have h2 := on_toE h hQ
  have i1 := ofE_toE h hP
  have i2 := ofE_toE h hQ
  obtain ⟨x, y, z⟩ := P
  obtain ⟨u, v, w⟩ := Q
  cases z
  · cases w
    · obtain ⟨a, rfl⟩ := fin_of hx
      obtain ⟨b, rfl⟩ := fin_of hy
      obtain ⟨c, rfl⟩ := fin_of hu
      obtain ⟨d, rfl⟩ := fin_of hv
      have e1 : toE (p := p) ⟨a.val, b.val, false⟩ = some (a, b) := by
        show some (Fin.ofNat p a.val, Fin.ofNat p b.val) = _
        rw [ofNat_val, ofNat_val]
      have e2 : toE (p := p) ⟨c.val, d.val, false⟩ = some (c, d) := by
        show some (Fin.ofNat p c.val, Fin.ofNat p d.val) = _
        rw [ofNat_val, ofNat_val]
      rw [e1] at h1 ⊢
      rw [e2] at h2 ⊢
      have hup := up_iff h h1 h2
      show (bif upB ⟨a.val, b.val, false⟩ ⟨c.val, d.val, false⟩ then zeroL else byN p (slN p ⟨a.val, b.val, false⟩ ⟨c.val, d.val, false⟩) ⟨a.val, b.val, false⟩ ⟨c.val, d.val, false⟩) = _
      cases hb : upB ⟨a.val, b.val, false⟩ ⟨c.val, d.val, false⟩
      · have hn : ¬ EC.Opp (a, b) (c, d) := fun e => by rw [hup.2 e] at hb; cases hb
        rw [cond_false, slN_eq h, (ecZ h).add_sl h1 h2 hn ((ecZ h).slope_ok h1 h2 hn)]
        generalize (ecZ h).slope (a, b) (c, d) = m
        unfold byN EC.by' ofE
        simp only [fv_sub, fv_mul]
      · rw [cond_true, (ecZ h).add_opp (hup.1 hb)]
        rfl
    · show LP.mk x y false = ofE ((ecZ h).add _ none)
      rw [(ecZ h).add_zero]
      exact i1.symm
  · show LP.mk u v w = ofE ((ecZ h).add none _)
    exact i2.symm
end
end Go.Rq
