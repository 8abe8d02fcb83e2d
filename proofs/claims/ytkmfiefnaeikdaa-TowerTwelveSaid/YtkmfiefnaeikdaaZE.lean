/- Joined: WG7 T20. -/
import Derived.Test.YtkmfiefnaeikdaaZB
import Derived.Test.YtkmfiefnaeikdaaZD
/- Squares in the great field. -/
namespace Go.Rq
open Go
set_option linter.unusedVariables false

section
variable {α : Type} [CR α]
theorem cr_q1 {x y : α} (h : x * x = y * y) : (x - y) * (x + y) = 0 := by grind
theorem cr_q2 {x y : α} (h : x + y = 0) : x = 0 - y := by grind
theorem cr_q3 (x : α) : (0 - x) * (0 - x) = x * x := by grind
theorem cr_q4 (x : α) : (0 - 1) * x = 0 - x := by grind
theorem cr_q5 {a b s h : α} (hn : s * s = a * a + b * b) (hh : (1 + 1) * h = 1) : (a + s) * h * ((a + (0 - s)) * h) = (0 - 1) * (b * h * (b * h)) := by grind
theorem cr_q6 (x : α) : x * 0 = 0 := by grind
theorem cr_q7 {x y a b s h i t : α} (hn : s * s = a * a + b * b) (hh : (1 + 1) * h = 1) (hx : x * x = (a + s) * h) (hi : (x + x) * i = 1) (hy : y = b * i) : x * y + y * x = b ∧ (x * x) * (x * x - y * y - a) = 0 := by
  refine ⟨by grind, ?_⟩
  have e1 : (x + x) * y = b := by grind
  have e2 : (x * x) * (y * y) = b * h * (b * h) := by
    have : (x * y) = b * h := by grind
    grind
  grind
theorem cr_q8 (c : α) : c * c - 0 * 0 = c * c := by grind
theorem cr_q9 (c : α) : c * 0 + 0 * c = 0 := by grind
theorem cr_q10 (c : α) : 0 * 0 - c * c = 0 - c * c := by grind
theorem cr_q11 (c : α) : 0 * c + c * 0 = 0 := by grind
theorem cr_q12 (a : α) : 0 - (0 - a) = a := by grind
theorem cr_q13 (x y : α) : (0 - x) * (0 - x) - (0 - y) * (0 - y) = x * x - y * y := by grind
theorem cr_q14 (x y : α) : (0 - x) * (0 - y) + (0 - y) * (0 - x) = x * y + y * x := by grind
theorem cr_q15 {a b : α} (h : a - b = 0) : a = b := by grind
theorem cr_q17 (a : α) : a * a + 0 * 0 = a * a := by grind
theorem cr_dbl {x i : α} (e : x + x = 0) (h : (1 + 1) * i = 1) : x = 0 := by
  have h1 : (x + x) * i = x * ((1 + 1) * i) := by clear e h; grind
  rw [h, e, Rg.zero_mul, Rg.mul_one] at h1
  exact h1.symm
theorem cr_q16 (s : α) : (0 - s) * (0 - s) = s * s := by grind
end

def ch (x : Fp) : Fp := x ^ ((pN - 1) / 2)
theorem ch_mul (x y : Fp) : ch (x * y) = ch x * ch y := mul_pow' x y _
theorem fp_m1 : ofN (pN - 1) = 0 - 1 := Fin.ext (by kernel_rfl)
theorem ch_m1 : ch (0 - 1) = 0 - 1 := by
  unfold ch
  have e2 : (pN - 1) / 2 = 2 * ((pN - 3) / 4) + 1 := by decide
  rw [e2, Rg.pow_succ, pow_mul', Rg.pow_two, cr_m1, Rg.one_pow, Rg.one_mul]
theorem ch_two : ch (ofN 2) = 0 - 1 := by unfold ch; rw [two_sq, fp_m1]
theorem ch_cases {x : Fp} (h : x ≠ 0) : ch x = 1 ∨ ch x = 0 - 1 := by
  have e : pN - 1 = (pN - 1) / 2 + (pN - 1) / 2 := by decide
  have h1 := fp_pow1 h
  rw [e, Rg.pow_add] at h1
  have h2 : ch x * ch x = 1 * 1 := h1.trans (Rg.mul_one _).symm
  rcases fp_dom (cr_q1 h2) with h3 | h3
  · exact .inl (cr_q15 h3)
  · exact .inr (cr_q2 h3)
theorem ch_one : ch 1 = 1 := Rg.one_pow _
theorem one_ne_m1 : (1 : Fp) ≠ 0 - 1 := fun e => absurd (congrArg Fin.val e) (by decide)
theorem one_ne_0 : (1 : Fp) ≠ 0 := fun e => absurd (congrArg Fin.val e) (by decide)
def sqr (x : Fp) : Prop := ∃ s : Fp, s * s = x
def rtF (x : Fp) : Fp := x ^ ((pN + 1) / 4)
theorem ch_sq {s : Fp} (h : s ≠ 0) : ch (s * s) = 1 := by
  rw [ch_mul]
  rcases ch_cases h with e | e <;> rw [e]
  · exact Rg.mul_one _
  · exact cr_m1
theorem rtF_sq (x : Fp) : rtF x * rtF x = ch x * x := by
  unfold rtF ch
  rw [← Rg.pow_add, ← Rg.pow_succ]
  have e : (pN + 1) / 4 + (pN + 1) / 4 = (pN - 1) / 2 + 1 := by decide
  rw [e]
theorem mul_ne {x y : Fp} (hx : x ≠ 0) (hy : y ≠ 0) : x * y ≠ 0 := fun e => by rcases fp_dom e with e | e <;> contradiction
theorem sqr_iff {x : Fp} (h : x ≠ 0) : sqr x ↔ ch x = 1 := by
  constructor
  · intro ⟨s, hs⟩
    have : s ≠ 0 := fun e => h (by rw [← hs, e]; exact cr_q6 0)
    rw [← hs]; exact ch_sq this
  · intro e
    exact ⟨rtF x, by rw [rtF_sq, e, Rg.one_mul]⟩
theorem rtF_iff (x : Fp) : rtF x * rtF x = x ↔ sqr x := by
  constructor
  · intro h; exact ⟨_, h⟩
  · intro h
    by_cases h0 : x = 0
    · subst h0; rw [rtF_sq]; exact cr_q6 _
    · rw [rtF_sq, (sqr_iff h0).1 h, Rg.one_mul]
theorem sqr_neg {x : Fp} (h : ¬ sqr x) : sqr (0 - x) := by
  have h0 : x ≠ 0 := fun e => h ⟨0, by rw [e]; exact cr_q6 0⟩
  have h1 : ch x = 0 - 1 := (ch_cases h0).resolve_left fun e => h ((sqr_iff h0).2 e)
  have h2 : 0 - x ≠ 0 := fun e => h0 (by have := cr_q2 (x := x) (y := 0) (by rw [Rg.add_zero]; exact (cr_q12 x).symm.trans (by rw [e]; exact Rg.sub_self 0)); rw [this]; exact Rg.sub_self 0)
  rw [sqr_iff h2, ← cr_q4, ch_mul, ch_m1, h1]
  exact cr_m1
/-- Of n and of 2 n just one is a square. -/
theorem sqr_two {x : Fp} (h : x ≠ 0) : sqr x ↔ ¬ sqr (x * ofN 2) := by
  have h2 : ofN 2 ≠ 0 := fun e => absurd (congrArg Fin.val e) (by decide)
  rw [sqr_iff h, sqr_iff (mul_ne h h2), ch_mul, ch_two]
  rcases ch_cases h with e | e <;> rw [e]
  · exact ⟨fun _ => by rw [Rg.one_mul]; exact fun e => one_ne_m1 e.symm, fun _ => rfl⟩
  · exact ⟨fun e => absurd e.symm one_ne_m1, fun e => absurd cr_m1 e⟩
/-- A product that is -1 times a square: one of both is a square. -/
theorem sqr_one {x y z : Fp} (hz : z ≠ 0) (h : x * y = (0 - 1) * (z * z)) : sqr x ∨ sqr y := by
  have hm : (0 - 1 : Fp) ≠ 0 := fun e => absurd (congrArg Fin.val e) (by decide)
  have hxy : x * y ≠ 0 := by rw [h]; exact mul_ne hm (mul_ne hz hz)
  have hx : x ≠ 0 := fun e => hxy (by rw [e]; exact Rg.zero_mul y)
  have hy : y ≠ 0 := fun e => hxy (by rw [e]; exact Rg.mul_zero x)
  have h1 : ch x * ch y = 0 - 1 := by rw [← ch_mul, h, ch_mul, ch_m1, ch_sq hz, Rg.mul_one]
  rw [sqr_iff hx, sqr_iff hy]
  rcases ch_cases hx with e | e
  · exact .inl e
  · rcases ch_cases hy with e' | e'
    · exact .inr e'
    · rw [e, e', cr_m1] at h1; exact absurd h1 one_ne_m1
theorem f2_sq {x y : F2p} (h : x * x = y * y) : x = y ∨ x = ⟨0 - y.x, 0 - y.y⟩ := by
  rcases F2p.dom (cr_q1 h) with h | h
  · exact .inl (cr_q15 h)
  · exact .inr (cr_q2 h)
end Go.Rq

/- What a root of a number of two parts is. -/
namespace Go.Proofs.Ytkmfiefnaeikdaa
open Go.Rq Go
set_option maxRecDepth 100000

theorem rtC_eq (x : Fp) : rtC x = rtF x := ePow_eq x _
theorem rtOk_sq (x : Fp) : rtOk x = true ↔ sqr x := by rw [rtOk_iff, rtC_eq, rtF_iff]
theorem eInv_mul {x : Fp} (h : x ≠ 0) : x * eInv x = 1 := by unfold eInv; rw [ePow_eq]; exact fp_inv h
theorem hf_mul : (1 + 1) * hf = 1 := eInv_mul fun e => absurd (congrArg Fin.val e) (by decide)
theorem hf_ne : hf ≠ 0 := fun e => by
  have := hf_mul
  rw [e, cr_q6] at this
  exact one_ne_0 this.symm
theorem two_ne {x : Fp} (h : x ≠ 0) : x + x ≠ 0 := fun e => h (cr_dbl e hf_mul)
theorem ls_sq (x y : Fp) : (⟨lsX x y, lsY x y⟩ : F2p) * ⟨lsX x y, lsY x y⟩ = ⟨x, y⟩ * ⟨x, y⟩ := by
  unfold lsX lsY
  cases lsB x y
  · rfl
  · exact F2p.ext (cr_q13 x y) (cr_q14 x y)
theorem r2s_ok {a b s : Fp} (hb : b ≠ 0) (hn : s * s = nor2 a b) : ∃ x y, r2s a b s = r2l x y ∧ (⟨x, y⟩ : F2p) * ⟨x, y⟩ = ⟨a, b⟩ := by
  have hp := cr_q5 (a := a) (b := b) (s := s) (h := hf) hn hf_mul
  have hbh : b * hf ≠ 0 := mul_ne hb hf_ne
  have hne : (a + s) * hf * ((a + (0 - s)) * hf) ≠ 0 := by
    rw [hp]
    exact mul_ne (fun e => absurd (congrArg Fin.val e) (by decide)) (mul_ne hbh hbh)
  have go : ∀ s' : Fp, s' * s' = nor2 a b → (a + s') * hf ≠ 0 → r2k a s' = true → (⟨r2x a s', r2y b (r2x a s')⟩ : F2p) * ⟨r2x a s', r2y b (r2x a s')⟩ = ⟨a, b⟩ := by
    intro s' hs' hne' hk
    have hx : r2x a s' * r2x a s' = (a + s') * hf := (rtOk_iff _).1 hk
    have hx0 : r2x a s' ≠ 0 := fun e => hne' (by rw [← hx, e]; exact cr_q6 0)
    obtain ⟨h1, h2⟩ := cr_q7 (t := (0 : Fp)) hs' hf_mul hx (eInv_mul (two_ne hx0)) (y := r2y b (r2x a s')) rfl
    have h3 := (fp_dom h2).resolve_left (mul_ne hx0 hx0)
    exact F2p.ext (cr_q15 h3) h1
  unfold r2s
  cases h1 : r2k a s
  · have h2 : r2k a (0 - s) = true := by
      rcases sqr_one hbh hp with h | h
      · have : r2k a s = true := (rtOk_sq _).2 h
        rw [h1] at this; cases this
      · exact (rtOk_sq _).2 h
    rw [cond_false, h2, cond_true]
    exact ⟨_, _, rfl, go _ ((cr_q16 s).trans hn) (fun e => hne (by rw [e]; exact cr_q6 _)) h2⟩
  · rw [cond_true]
    exact ⟨_, _, rfl, go _ hn (fun e => hne (by rw [e]; exact Rg.zero_mul _)) h1⟩
theorem r2_yes {a b : Fp} (h : sqr (nor2 a b)) : ∃ x y, r2 a b = r2l x y ∧ (⟨x, y⟩ : F2p) * ⟨x, y⟩ = ⟨a, b⟩ := by
  unfold r2
  cases hb : Nat.beq b.val 0
  · have hb0 : b ≠ 0 := fun e => by rw [e] at hb; cases hb
    have hk := (rtOk_sq _).2 h
    rw [cond_false, hk, cond_true]
    exact r2s_ok hb0 ((rtOk_iff _).1 hk)
  · have hb0 : b = 0 := Fin.ext (Nat.beq_eq.mp hb)
    subst hb0
    rw [cond_true]
    cases ha : rtOk a
    · rw [cond_false]
      refine ⟨_, _, rfl, ?_⟩
      have hn : sqr (0 - a) := sqr_neg fun e => by rw [(rtOk_sq a).2 e] at ha; cases ha
      have hs : rtC (0 - a) * rtC (0 - a) = 0 - a := (rtOk_iff _).1 ((rtOk_sq _).2 hn)
      refine F2p.ext ?_ (cr_q11 _)
      show 0 * 0 - rtC (0 - a) * rtC (0 - a) = a
      rw [cr_q10, hs, cr_q12]
    · rw [cond_true]
      refine ⟨_, _, rfl, ?_⟩
      have hs : rtC a * rtC a = a := (rtOk_iff _).1 ha
      refine F2p.ext ?_ (cr_q9 _)
      show rtC a * rtC a - 0 * 0 = a
      rw [cr_q8, hs]
theorem r2_no {a b : Fp} (h : ¬ sqr (nor2 a b)) : r2 a b = r2n := by
  have hk : rtOk (nor2 a b) = false := by rw [← Bool.not_eq_true, rtOk_sq]; exact h
  have hb : Nat.beq b.val 0 = false := by
    rw [← Bool.not_eq_true, Nat.beq_eq]
    intro e
    have hb0 : b = 0 := Fin.ext e
    exact h ⟨a, by rw [hb0]; exact (cr_q17 a).symm⟩
  unfold r2
  rw [hb, cond_false, hk, cond_false]
theorem rt_yes {z : F2p} (h : sqr (F2p.nrm z)) : F2p.rtE z = 0 ∧ F2p.rt z * F2p.rt z = z := by
  obtain ⟨a, b⟩ := z
  obtain ⟨x, y, hr, hm⟩ := r2_yes (a := a) (b := b) h
  have h3 := rt_of hr
  rw [h3.1, h3.2, r2l_x, r2l_y, r2l_e, ls_sq]
  exact ⟨rfl, hm⟩
theorem rt_no {z : F2p} (h : ¬ sqr (F2p.nrm z)) : F2p.rtE z = 6 ∧ F2p.rt z = 0 := by
  obtain ⟨a, b⟩ := z
  have h3 := rt_of (r2_no (a := a) (b := b) h)
  rw [h3.1, h3.2]
  exact ⟨rfl, rfl⟩
theorem rt_lesser {z : F2p} {x y : Fp} (h : r2 z.x z.y = r2l x y) : F2p.rt z = ⟨lsX x y, lsY x y⟩ := by
  obtain ⟨a, b⟩ := z
  rw [(rt_of h).1]; rfl
end Go.Proofs.Ytkmfiefnaeikdaa
