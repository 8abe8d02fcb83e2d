/- Joined: WO WU WJ WV WI WI2 L20 L21. -/
import Derived.Test.YtafiafkeigdjhaaWZ3
import Derived.Test.YtafiafkeigdjhaaWE
import Derived.Test.YtafiafkeigdjhaaWA
import Derived.Test.YtafiafkeigdjhaaWP
import Derived.Test.YtafiafkeigdjhaaLAw
/- The curve y y = x x x + x over a prime p with p % 4 = 3 has p + 1 points: so p + 1 times each is the zero. -/
namespace Go.Rq
open Go

set_option linter.unusedVariables false
namespace LO
def ngM (N a : Nat) : Nat := (N - a % N) % N
theorem pr_mul {N a b : Nat} (hp : Pr N) (h : N ∣ a * b) : N ∣ a ∨ N ∣ b := by
  by_cases ha : N ∣ a
  · exact .inl ha
  · exact .inr ((hp.cop' ha).dvd_of_dvd_mul_left h)
def hV (N a : Nat) : Nat := a ^ ((N - 1) / 2) % N
theorem hV_two {N a : Nat} (hp : Pr N) (h2 : N % 2 = 1) (ha : a % N ≠ 0) : hV N a = 1 ∨ hV N a = N - 1 := by
  have h1 := hp.1
  have hs : hV N a * hV N a % N = 1 := by
    unfold hV
    rw [← Nat.mul_mod, ← Nat.pow_add, show (N - 1) / 2 + (N - 1) / 2 = N - 1 by omega]
    exact fermat_nat hp ha
  have hlt : hV N a < N := Nat.mod_lt _ (by omega)
  generalize hV N a = h at *
  have h0 : h ≠ 0 := fun e => by rw [e, Nat.zero_mul, Nat.zero_mod] at hs; omega
  have hd : N ∣ (h - 1) * (h + 1) := by
    obtain ⟨k, rfl⟩ : ∃ k, h = k + 1 := ⟨h - 1, by omega⟩
    have e : (k + 1) * (k + 1) = k * (k + 2) + 1 := by grind
    rw [e] at hs
    rw [Nat.add_sub_cancel]
    show N ∣ k * (k + 2)
    have := Nat.div_add_mod (k * (k + 2) + 1) N
    rw [hs] at this
    exact ⟨(k * (k + 2) + 1) / N, by omega⟩
  rcases pr_mul hp hd with h3 | h3
  · refine .inl ?_
    have := Nat.eq_zero_of_dvd_of_lt h3 (by omega)
    omega
  · have := Nat.le_of_dvd (by omega) h3
    exact .inr (by omega)
theorem odd_pow {N x y : Nat} (h : N ∣ x + y) : ∀ k : Nat, N ∣ x ^ (2 * k + 1) + y ^ (2 * k + 1)
  | 0 => by rw [Nat.mul_zero, Nat.zero_add, Nat.pow_one, Nat.pow_one]; exact h
  | k + 1 => by
    have ih := odd_pow h k
    obtain ⟨c, hc⟩ := ih
    obtain ⟨d, hd⟩ := h
    have e : ∀ z : Nat, z ^ (2 * (k + 1) + 1) = z * z * z ^ (2 * k + 1) := fun z => by
      rw [show 2 * (k + 1) + 1 = (2 * k + 1) + 2 by omega, Nat.pow_add, Nat.mul_comm, Nat.pow_two]
    rw [e, e]
    generalize x ^ (2 * k + 1) = X at *
    generalize y ^ (2 * k + 1) = Y at *
    have hI : (N : Int) ∣ ((x * x * X + y * y * Y : Nat) : Int) := by
      refine ⟨(x : Int) * x * c + (Y : Int) * (y - x) * d, ?_⟩
      have h1 : (X : Int) + Y = N * c := by exact_mod_cast hc
      have h2 : (x : Int) + y = N * d := by exact_mod_cast hd
      simp only [Int.natCast_add, Int.natCast_mul]
      grind
    exact Int.natCast_dvd_natCast.1 hI
theorem neg_sum {N a : Nat} (h : 0 < N) : N ∣ a + ngM N a := by
  have h1 := Nat.mod_lt a h
  have h2 := Nat.div_add_mod a N
  refine Nat.dvd_of_mod_eq_zero ?_
  unfold ngM
  by_cases h0 : a % N = 0
  · rw [h0, Nat.sub_zero, Nat.mod_self, Nat.add_zero]; exact h0
  · rw [Nat.mod_eq_of_lt (show N - a % N < N by omega), show a + (N - a % N) = N + N * (a / N) by omega, Nat.add_mul_mod_self_left, Nat.mod_self]
theorem neg_ne {N a : Nat} (h : 0 < N) (ha : a % N ≠ 0) : ngM N a % N ≠ 0 := fun e => by
  have h1 := Nat.mod_lt a h
  unfold ngM at e
  rw [Nat.mod_eq_of_lt (show N - a % N < N by omega), Nat.mod_eq_of_lt (show N - a % N < N by omega)] at e
  omega
theorem hV_neg {N a : Nat} (hp : Pr N) (h4 : N % 4 = 3) (ha : a % N ≠ 0) : (hV N a = 1 ↔ hV N (ngM N a) ≠ 1) := by
  have h1 := hp.1
  have hN : 0 < N := by omega
  have hd := odd_pow (neg_sum (a := a) hN) ((N - 3) / 4)
  have e : 2 * ((N - 3) / 4) + 1 = (N - 1) / 2 := by omega
  rw [e] at hd
  have hs : (hV N a + hV N (ngM N a)) % N = 0 := by
    unfold hV
    rw [← Nat.add_mod]
    exact Nat.mod_eq_zero_of_dvd hd
  rcases hV_two hp (by omega) ha with g1 | g1 <;> rcases hV_two hp (by omega) (neg_ne hN ha) with g2 | g2
  · rw [g1, g2, Nat.mod_eq_of_lt (by omega)] at hs; omega
  · rw [g1, g2]; constructor
    · intro _; omega
    · intro _; rfl
  · rw [g1, g2]; constructor
    · intro _; omega
    · intro h; exact absurd rfl h
  · rw [g1, g2, show N - 1 + (N - 1) = N + (N - 2) by omega, Nat.add_mod_left, Nat.mod_eq_of_lt (by omega)] at hs; omega
theorem sq_half {N a : Nat} (h4 : N % 4 = 3) : a ^ ((N + 1) / 4) % N * (a ^ ((N + 1) / 4) % N) % N = hV N a * a % N := by
  unfold hV
  rw [← Nat.mul_mod, ← Nat.pow_add, show (N + 1) / 4 + (N + 1) / 4 = (N - 1) / 2 + 1 by omega, Nat.pow_succ, Nat.mod_mul_mod]
theorem sq_ok {N a : Nat} (hp : Pr N) (h4 : N % 4 = 3) (ha : a % N ≠ 0) : (a ^ ((N + 1) / 4) % N * (a ^ ((N + 1) / 4) % N) % N = a % N ↔ hV N a = 1) := by
  have h1 := hp.1
  rw [sq_half h4]
  constructor
  · intro h
    rcases hV_two hp (by omega) ha with g | g
    · exact g
    · rw [g] at h
      have hm := Nat.sub_mod_eq_zero_of_mod_eq h
      have e : (N - 1) * a - a = (N - 2) * a := by
        rw [show N - 1 = N - 2 + 1 by omega, Nat.add_mul, Nat.one_mul, Nat.add_sub_cancel]
      rw [e] at hm
      rcases pr_mul hp (Nat.dvd_of_mod_eq_zero hm) with h3 | h3
      · have := Nat.eq_zero_of_dvd_of_lt h3 (by omega)
        omega
      · exact absurd (Nat.mod_eq_zero_of_dvd h3) ha
  · intro h
    rw [h, Nat.one_mul]
end LO
open LO
/-! lists without a repetition -/
theorem perm_of {α : Type} [DecidableEq α] : ∀ {A B : List α}, A.Nodup → (∀ a ∈ A, a ∈ B) → A.length = B.length → A.Perm B
  | [], B, _, _, hl => by
    have : B = [] := List.eq_nil_of_length_eq_zero hl.symm
    subst this; exact List.Perm.refl _
  | a :: A, B, hn, hs, hl => by
    have ha : a ∈ B := hs a (List.mem_cons_self ..)
    obtain ⟨h1, h2⟩ := List.nodup_cons.1 hn
    have hlB : (B.erase a).length = A.length := by
      rw [List.length_erase_of_mem ha]; simp only [List.length_cons] at hl; omega
    have ih : A.Perm (B.erase a) := perm_of h2 (fun b hb => (List.mem_erase_of_ne (fun (e : b = a) => h1 (by rw [← e]; exact hb))).2 (hs b (List.mem_cons_of_mem _ hb))) hlB.symm
    exact (ih.cons a).trans (List.perm_cons_erase ha).symm

namespace EC
variable {F : Type} [i : CR F] (C : EC F) [DecidableEq F]
/-- The sum of points. -/
def sumL : List (Option (F × F)) → Option (F × F)
  | [] => none
  | p :: r => C.add p (sumL r)
theorem on_sumL : ∀ {l : List (Option (F × F))}, (∀ p ∈ l, C.on p) → C.on (C.sumL l)
  | [], _ => trivial
  | p :: r, h => C.on_add (h p (List.mem_cons_self ..)) (on_sumL fun q hq => h q (List.mem_cons_of_mem _ hq))
theorem sumL_perm {l m : List (Option (F × F))} (hp : l.Perm m) (h : ∀ p ∈ l, C.on p) : C.sumL l = C.sumL m := by
  induction hp with
  | nil => rfl
  | cons a _ ih => simp only [sumL]; rw [ih fun q hq => h q (List.mem_cons_of_mem _ hq)]
  | swap a b r =>
    have ha : C.on a := h a (by simp)
    have hb : C.on b := h b (by simp)
    have hr : C.on (C.sumL r) := C.on_sumL fun q hq => h q (by simp [hq])
    simp only [sumL]
    rw [← C.assoc hb ha hr, C.add_comm hb ha, C.assoc ha hb hr]
  | trans h1 _ ih1 ih2 => rw [ih1 h, ih2 fun q hq => h q (h1.mem_iff.2 hq)]
theorem sumL_add {p : Option (F × F)} (hp : C.on p) : ∀ {l : List (Option (F × F))}, (∀ q ∈ l, C.on q) → C.sumL (l.map (C.add p)) = C.add (C.mul l.length p) (C.sumL l)
  | [], _ => by
    show none = C.add none none
    rfl
  | q :: r, h => by
    have hq : C.on q := h q (List.mem_cons_self ..)
    have hr : C.on (C.sumL r) := C.on_sumL fun s hs => h s (List.mem_cons_of_mem _ hs)
    have hm := C.on_mul hp r.length
    simp only [List.map_cons, sumL, List.length_cons]
    rw [sumL_add hp fun s hs => h s (List.mem_cons_of_mem _ hs)]
    rw [C.mul_add hp r.length 1, C.mul_one]
    rw [← C.assoc (C.on_add hp hq) hm hr, C.assoc hp hq hm, C.add_comm hq hm, ← C.assoc hp hm hq, C.add_comm hp hm, C.assoc (C.on_add hm hp) hq hr]
/-- A list of all points, none twice: as many times each is the zero. -/
theorem mul_all {l : List (Option (F × F))} (hn : l.Nodup) (hon : ∀ q ∈ l, C.on q) (hall : ∀ q, C.on q → q ∈ l) {p : Option (F × F)} (hp : C.on p) : C.mul l.length p = none := by
  have hn2 : (l.map (C.add p)).Nodup := by
    have key : ∀ m : List (Option (F × F)), (∀ q ∈ m, C.on q) → m.Nodup → (m.map (C.add p)).Nodup := by
      intro m
      induction m with
      | nil => intro _ _; exact List.nodup_nil
      | cons q r ih =>
        intro h1 h2
        obtain ⟨h3, h4⟩ := List.nodup_cons.1 h2
        refine List.nodup_cons.2 ⟨fun hm => ?_, ih (fun s hs => h1 s (List.mem_cons_of_mem _ hs)) h4⟩
        obtain ⟨s, hs, e⟩ := List.mem_map.1 hm
        have e1 := C.back hp (h1 s (List.mem_cons_of_mem _ hs))
        have e2 := C.back hp (h1 q (List.mem_cons_self ..))
        rw [e, e2] at e1
        exact h3 (e1 ▸ hs)
    exact key l hon hn
  have hpm : (l.map (C.add p)).Perm l := perm_of hn2 (fun q hq => by
    obtain ⟨s, hs, rfl⟩ := List.mem_map.1 hq
    exact hall _ (C.on_add hp (hon s hs))) (by simp)
  have e := C.sumL_perm hpm (fun q hq => by
    obtain ⟨s, hs, rfl⟩ := List.mem_map.1 hq
    exact C.on_add hp (hon s hs))
  rw [C.sumL_add hp hon] at e
  have hS := C.on_sumL hon
  have hX := C.on_mul hp l.length
  have b1 := C.back hS hX
  rw [C.add_comm hS hX, e] at b1
  have b2 := C.back (q := none) hS trivial
  rw [C.add_zero] at b2
  rw [← b1, b2]
end EC

section
variable {p : Nat} [NeZero p]
def gX (x : Fin p) : Fin p := x * x * x + x
def rX (x : Fin p) : Fin p := Fin.ofNat p ((gX x).val ^ ((p + 1) / 4))
theorem Gp.four (h : Gp p) : p % 4 = 3 := by
  rcases h with rfl | rfl <;> decide
theorem gX_neg (h : Gp p) (x : Fin p) : gX (0 - x) = 0 - gX x := by unfold gX; grind
theorem rX_sq (x : Fin p) : (rX x * rX x).val = (gX x).val ^ ((p + 1) / 4) % p * ((gX x).val ^ ((p + 1) / 4) % p) % p := rfl
theorem rX_ok (h : Gp p) {x : Fin p} (hx : gX x ≠ 0) : rX x * rX x = gX x ↔ hV p (gX x).val = 1 := by
  have hl := (gX x).isLt
  have hn : (gX x).val % p ≠ 0 := fun e => hx (Fin.ext (by rw [Nat.mod_eq_of_lt hl] at e; rw [e, fZero]))
  have := sq_ok h.pr h.four hn
  rw [Fin.ext_iff, rX_sq, ← this, Nat.mod_eq_of_lt hl]
theorem rX_zero (h : Gp p) {x : Fin p} (hx : gX x = 0) : rX x = 0 := by
  have hb := h.big
  unfold rX
  rw [hx, fZero, Nat.zero_pow (by omega)]
  rfl
theorem ok_neg (h : Gp p) {x : Fin p} (hx : gX x ≠ 0) : rX x * rX x = gX x ↔ ¬ rX (0 - x) * rX (0 - x) = gX (0 - x) := by
  have hl := (gX x).isLt
  have hn : (gX x).val % p ≠ 0 := fun e => hx (Fin.ext (by rw [Nat.mod_eq_of_lt hl] at e; rw [e, fZero]))
  have hx' : gX (0 - x) ≠ 0 := fun e => hx (by rw [gX_neg h] at e; grind)
  rw [rX_ok h hx, rX_ok h hx', hV_neg h.pr h.four hn]
  have e : (gX (0 - x)).val = ngM p (gX x).val := by
    rw [gX_neg h, fv_sub, fZero]
    unfold zSub ngM
    rw [Nat.mod_eq_of_lt hl, Nat.zero_add]
  rw [e]
theorem sq_hV (h : Gp p) {x y : Fin p} (hx : gX x ≠ 0) (e : y * y = gX x) : rX x * rX x = gX x := by
  rw [rX_ok h hx]
  have hy : y.val % p ≠ 0 := fun e2 => hx (by
    have : y = 0 := Fin.ext (by rw [Nat.mod_eq_of_lt y.isLt] at e2; rw [e2, fZero])
    rw [← e, this]; grind)
  have e3 : (gX x).val = y.val * y.val % p := by rw [← e]; rfl
  have h4 := h.four
  unfold hV
  rw [e3, ← Nat.pow_mod, ← Nat.pow_two, ← Nat.pow_mul, show 2 * ((p - 1) / 2) = p - 1 by omega]
  exact fermat_nat h.pr hy
/-- A point for each number. -/
def phi (x : Fin p) : Fin p × Fin p := if rX x * rX x = gX x then (x, rX x) else (0 - x, 0 - rX (0 - x))
theorem phi_on (h : Gp p) (x : Fin p) : (ecZ h).on (some (phi x)) := by
  show (phi x).2 * (phi x).2 = (phi x).1 * (phi x).1 * (phi x).1 + 1 * (phi x).1 + 0
  unfold phi
  by_cases ho : rX x * rX x = gX x
  · rw [if_pos ho]
    simp only
    rw [ho]; unfold gX; grind
  · rw [if_neg ho]
    have hx : gX x ≠ 0 := fun e => ho (by rw [rX_zero h e, e]; grind)
    have : rX (0 - x) * rX (0 - x) = gX (0 - x) := by
      by_cases h2 : rX (0 - x) * rX (0 - x) = gX (0 - x)
      · exact h2
      · exact absurd ((ok_neg h hx).2 h2) ho
    simp only
    have e : (0 - rX (0 - x)) * (0 - rX (0 - x)) = gX (0 - x) := by rw [← this]; grind
    rw [e]; unfold gX; grind
theorem phi_inj (h : Gp p) {x y : Fin p} (e : phi x = phi y) : x = y := by
  have mix : ∀ {x y : Fin p}, rX x * rX x = gX x → ¬ rX y * rX y = gX y → phi x = phi y → False := by
    intro x y hx hy e
    unfold phi at e
    rw [if_pos hx, if_neg hy] at e
    have e1 : x = 0 - y := congrArg Prod.fst e
    have e2 : rX x = 0 - rX (0 - y) := congrArg Prod.snd e
    rw [← e1] at e2
    have e3 : (1 + 1) * rX x = 0 := by grind
    rcases fDom h e3 with e4 | e4
    · exact fTwo h e4
    · have g0 : gX x = 0 := by rw [← hx, e4]; grind
      have g1 : gX y = 0 := by
        have := gX_neg h y
        rw [← e1, g0] at this
        grind
      exact hy (by rw [rX_zero h g1, g1]; grind)
  by_cases hx : rX x * rX x = gX x
  · by_cases hy : rX y * rX y = gX y
    · unfold phi at e
      rw [if_pos hx, if_pos hy] at e
      exact congrArg Prod.fst e
    · exact (mix hx hy e).elim
  · by_cases hy : rX y * rX y = gX y
    · exact (mix hy hx e.symm).elim
    · unfold phi at e
      rw [if_neg hx, if_neg hy] at e
      have e1 : 0 - x = 0 - y := congrArg Prod.fst e
      grind
theorem phi_all (h : Gp p) {x y : Fin p} (ho : (ecZ h).on (some (x, y))) : ∃ t, phi t = (x, y) := by
  have e : y * y = gX x := by
    have : y * y = x * x * x + 1 * x + 0 := ho
    rw [this]; unfold gX; grind
  by_cases h0 : gX x = 0
  · have hy : y = 0 := by
      rw [h0] at e
      rcases fDom h e with e | e <;> exact e
    refine ⟨x, ?_⟩
    unfold phi
    rw [if_pos (by rw [rX_zero h h0, h0]; grind), rX_zero h h0, hy]
  · have hx := sq_hV h h0 e
    have e2 : (y - rX x) * (y + rX x) = 0 := by
      have : (y - rX x) * (y + rX x) = y * y - rX x * rX x := by grind
      rw [this, e, hx]; grind
    rcases fDom h e2 with e3 | e3
    · refine ⟨x, ?_⟩
      unfold phi
      rw [if_pos hx]
      have : y = rX x := by grind
      rw [this]
    · refine ⟨0 - x, ?_⟩
      have e4 : 0 - (0 - x) = x := by grind
      unfold phi
      rw [if_neg ((ok_neg h h0).1 hx), e4]
      have : y = 0 - rX x := by grind
      rw [this]
/-- All points. -/
def allP (p : Nat) [NeZero p] : List (Option (Fin p × Fin p)) := none :: (List.range p).map fun n => some (phi (Fin.ofNat p n))
theorem len_allP : (allP p).length = p + 1 := by simp [allP]
theorem nodup_allP (h : Gp p) : (allP p).Nodup := by
  have key : ∀ l : List Nat, (∀ n ∈ l, n < p) → l.Nodup → (l.map fun n => some (phi (Fin.ofNat p n))).Nodup := by
    intro l
    induction l with
    | nil => intro _ _; exact List.nodup_nil
    | cons a r ih =>
      intro h1 h2
      obtain ⟨h3, h4⟩ := List.nodup_cons.1 h2
      refine List.nodup_cons.2 ⟨fun hm => ?_, ih (fun s hs => h1 s (List.mem_cons_of_mem _ hs)) h4⟩
      obtain ⟨s, hs, e⟩ := List.mem_map.1 hm
      have e1 := phi_inj h (Option.some.inj e)
      have e2 := congrArg Fin.val e1
      have ha := h1 a (List.mem_cons_self ..)
      have hb := h1 s (List.mem_cons_of_mem _ hs)
      have e3 : s % p = a % p := e2
      rw [Nat.mod_eq_of_lt ha, Nat.mod_eq_of_lt hb] at e3
      exact h3 (e3 ▸ hs)
  refine List.nodup_cons.2 ⟨fun hm => ?_, key _ (fun n hn => List.mem_range.1 hn) List.nodup_range⟩
  obtain ⟨s, _, e⟩ := List.mem_map.1 hm
  cases e
/-- p + 1 times a point is the zero. -/
theorem mul_order (h : Gp p) {e : Option (Fin p × Fin p)} (he : (ecZ h).on e) : (ecZ h).mul (p + 1) e = none := by
  rw [← len_allP (p := p)]
  refine (ecZ h).mul_all (nodup_allP h) (fun q hq => ?_) (fun q hq => ?_) he
  · rcases List.mem_cons.1 hq with rfl | hq
    · trivial
    · obtain ⟨n, _, rfl⟩ := List.mem_map.1 hq
      exact phi_on h _
  · cases q with
    | none => exact List.mem_cons_self ..
    | some q =>
      obtain ⟨x, y⟩ := q
      obtain ⟨t, ht⟩ := phi_all h hq
      refine List.mem_cons_of_mem _ (List.mem_map.2 ⟨t.val, List.mem_range.2 t.isLt, ?_⟩)
      rw [ofNat_val, ht]
end
theorem mulP_order {p : Nat} (h : Gp p) {P : LP} (hP : OnP p P) : mulP p P (p + 1) = zeroL := by
  haveI := h.nz
  rw [mulP_eq h hP, mul_order h (on_toE h hP)]
  rfl
end Go.Rq

/- What lines of a curve tell at points: brackets, sums on either side, and multiples. -/
namespace Go.Rq
open Go

set_option linter.unusedSectionVars false
set_option linter.unusedSimpArgs false
set_option linter.unusedVariables false
namespace EC
variable {F : Type} [i : CR F] (C : EC F)

/-- A line of the slope l through p, at X. -/
def lnv (l : F) (p X : F × F) : F := X.2 - p.2 - l * (X.1 - p.1)
theorem lnv_sl {p q X : F × F} {l : F} (h : C.Sl p q l) : lnv l p X = lnv l q X := by
  obtain ⟨h1, _⟩ := h
  unfold lnv
  grind
/-- A line at a point and at the one against it. -/
theorem lnv_neg {p q X : F × F} {l : F} (hp : C.on (some p)) (h : C.Sl p q l) (hX : C.on (some X)) :
    lnv l p X * lnv l p (X.1, 0 - X.2) = (0 - 1) * ((X.1 - p.1) * ((X.1 - q.1) * (X.1 - (by' l p q).1))) := by
  obtain ⟨x, y⟩ := p
  obtain ⟨u, v⟩ := q
  obtain ⟨s, t⟩ := X
  simp only [on, Sl, by', lnv] at *
  obtain ⟨h1, h2⟩ := h
  have e1 : v = y - l * (x - u) := mv2 h1
  have e2 : C.a = l * (y + v) - (x * x + x * u + u * u) := mv3 h2
  have e3 : C.b = y * y - x * x * x - C.a * x := mv6 hp
  rw [e3, e2, e1] at hX
  clear e1 e2 e3 h1 h2 hp
  grind
/-- Two lines, the second one through the sum. -/
theorem lnv_two {p q X : F × F} {l t : F} (hp : C.on (some p)) (h : C.Sl p q l) (hX : C.on (some X)) :
    lnv l p X * lnv t (by' l p q) X = (X.1 - (by' l p q).1) * (X.1 * X.1 + ((by' l p q).1 + l * t) * X.1 + ((by' l p q).1 * ((by' l p q).1 + l * t) + C.a + l * ((by' l p q).2 - t * (by' l p q).1) + (p.2 - l * p.1) * t) - (l + t) * X.2) := by
  obtain ⟨x, y⟩ := p
  obtain ⟨u, v⟩ := q
  obtain ⟨s, w⟩ := X
  simp only [on, Sl, by', lnv] at *
  obtain ⟨h1, h2⟩ := h
  have e1 : v = y - l * (x - u) := mv2 h1
  have e2 : C.a = l * (y + v) - (x * x + x * u + u * u) := mv3 h2
  have e3 : C.b = y * y - x * x * x - C.a * x := mv6 hp
  rw [e3, e2, e1] at hX
  rw [e2, e1]
  clear e1 e2 e3 h1 h2 hp
  grind
/-- Brackets, where nothing is alike. -/
theorem lnv_cocycle {p q s X : F × F} {l m k : F} (hp : C.on (some p)) (hq : C.on (some q)) (h1 : C.Sl p q l) (h2 : C.Sl q s m) (hk : k * (l - m) = p.1 - s.1) (hd : l - m ≠ 0) (hX : C.on (some X)) :
    lnv l p X * lnv (k - l) (by' l p q) X * (X.1 - (by' m q s).1) = lnv m q X * lnv (k - m) (by' m q s) X * (X.1 - (by' l p q).1) := by
  rw [C.lnv_two hp h1 hX, C.lnv_two hq h2 hX]
  obtain ⟨x, y⟩ := p
  obtain ⟨u, v⟩ := q
  obtain ⟨z, w⟩ := s
  obtain ⟨X, Y⟩ := X
  obtain ⟨a1, a2⟩ := h1
  obtain ⟨b1, b2⟩ := h2
  simp only [by'] at *
  have e1 : y = v + l * (x - u) := mv a1
  have e2 : w = v + m * (z - u) := mv5 (by rw [b1, mv4])
  have e3 : C.a = l * (y + v) - (x * x + x * u + u * u) := mv3 a2
  have e4 : u * u + u * z + z * z + (l * (y + v) - (x * x + x * u + u * u)) = m * (v + w) := by rw [← e3]; exact b2
  have e5 : x = z + k * (l - m) := by clear e1 e2 e3 e4 a1 a2 b1 b2 hX hp hq hd; grind
  have e6 : (1 + 1) * v = k * (x + z + u - l * l) - (l + m) * (z - u) := by
    refine C.cancel hd ?_
    rw [e1, e2] at e4
    clear e1 e2 e3 a1 a2 b1 b2 hX hp hq
    grind
  refine C.cancel C.two ?_
  rw [e3, e1, e5]
  rw [e5] at e6
  clear e1 e2 e3 e4 e5 a1 a2 b1 b2 hX hp hq hk hd
  grind
/-- The three points of a line: what their numbers make. -/
theorem three {a b : F × F} {l : F} (ha : C.on (some a)) (h : C.Sl a b l) :
    a.1 * b.1 + a.1 * (by' l a b).1 + b.1 * (by' l a b).1 = C.a - (1 + 1) * l * (a.2 - l * a.1) ∧ a.1 * b.1 * (by' l a b).1 = (a.2 - l * a.1) * (a.2 - l * a.1) - C.b := by
  obtain ⟨x, y⟩ := a
  obtain ⟨u, v⟩ := b
  obtain ⟨h1, h2⟩ := h
  simp only [on, by'] at *
  have e1 : v = y - l * (x - u) := mv2 h1
  have e2 : C.a = l * (y + v) - (x * x + x * u + u * u) := mv3 h2
  have e3 : C.b = y * y - x * x * x - C.a * x := mv6 ha
  rw [e3, e2, e1]
  clear e1 e2 e3 h1 h2 ha
  constructor <;> grind
theorem line3 {a b : F × F} {l : F} (h : C.Sl a b l) : b.2 = l * b.1 + (a.2 - l * a.1) ∧ 0 - (by' l a b).2 = l * (by' l a b).1 + (a.2 - l * a.1) := by
  obtain ⟨x, y⟩ := a
  obtain ⟨u, v⟩ := b
  obtain ⟨h1, _⟩ := h
  simp only [by'] at *
  constructor <;> grind
/-- A line at the three points of another one. -/
theorem prod3 {l n m k x1 x2 x3 s2 s3 : F} (e2 : x1 * x2 + x1 * x3 + x2 * x3 = s2) (e3 : x1 * x2 * x3 = s3) (e1 : x1 + x2 + x3 = m * m) :
    (m * x1 + k - l * x1 - n) * ((m * x2 + k - l * x2 - n) * (m * x3 + k - l * x3 - n)) = (m - l) * (m - l) * (m - l) * s3 + (m - l) * (m - l) * (k - n) * s2 + (m - l) * (k - n) * (k - n) * (m * m) + (k - n) * (k - n) * (k - n) := by
  rw [← e1, ← e2, ← e3]
  grind
/-- Two lines: one at the three points of the other. -/
theorem lnv_both {a b x y : F × F} {l m : F} (ha : C.on (some a)) (h : C.Sl a b l) (hx : C.on (some x)) (k : C.Sl x y m) :
    lnv l a x * (lnv l a y * lnv l a ((by' m x y).1, 0 - (by' m x y).2)) = (0 - 1) * (lnv m x a * (lnv m x b * lnv m x ((by' l a b).1, 0 - (by' l a b).2))) := by
  obtain ⟨p2, p3⟩ := C.three ha h
  obtain ⟨q2, q3⟩ := C.three hx k
  obtain ⟨i1, i2⟩ := C.line3 h
  obtain ⟨j1, j2⟩ := C.line3 k
  have p1 : a.1 + b.1 + (by' l a b).1 = l * l := by simp only [by']; clear p2 p3 q2 q3 i1 i2 j1 j2 ha h hx k; grind
  have q1 : x.1 + y.1 + (by' m x y).1 = m * m := by simp only [by']; clear p2 p3 q2 q3 i1 i2 j1 j2 p1 ha h hx k; grind
  have a0 : a.2 = l * a.1 + (a.2 - l * a.1) := by clear p2 p3 q2 q3 i1 i2 j1 j2 p1 q1 ha h hx k; grind
  have x0 : x.2 = m * x.1 + (x.2 - m * x.1) := by clear p2 p3 q2 q3 i1 i2 j1 j2 p1 q1 ha h hx k a0; grind
  unfold lnv
  simp only
  generalize by' l a b = c at *
  generalize by' m x y = z at *
  generalize a.2 - l * a.1 = n at *
  generalize x.2 - m * x.1 = r at *
  have L := prod3 (l := l) (n := n) (m := m) (k := r) q2 q3 q1
  have R := prod3 (l := m) (n := r) (m := l) (k := n) p2 p3 p1
  have f1 : ∀ s t : F, t = m * s + r → t - a.2 - l * (s - a.1) = m * s + r - l * s - n := by
    intro s t e; rw [e, a0]; clear L R p2 p3 q2 q3 i1 i2 j1 j2 p1 q1 ha h hx k x0 a0 e; grind
  have f2 : ∀ s t : F, t = l * s + n → t - x.2 - m * (s - x.1) = l * s + n - m * s - r := by
    intro s t e; rw [e, x0]; clear L R p2 p3 q2 q3 i1 i2 j1 j2 p1 q1 ha h hx k x0 a0 e f1; grind
  rw [f1 _ _ x0, f1 _ _ j1, f1 _ _ j2, f2 _ _ a0, f2 _ _ i1, f2 _ _ i2, L, R]
  clear L R p2 p3 q2 q3 i1 i2 j1 j2 p1 q1 ha h hx k x0 a0 f1 f2
  grind

/-- A line's third point. -/
theorem sl_third {p q : F × F} {l : F} (h : C.Sl p q l) : C.Sl q ((by' l p q).1, 0 - (by' l p q).2) l := by
  obtain ⟨x, y⟩ := p
  obtain ⟨u, v⟩ := q
  obtain ⟨h1, h2⟩ := h
  simp only [by'] at *
  have e1 : v = y - l * (x - u) := mv2 h1
  have e2 : C.a = l * (y + v) - (x * x + x * u + u * u) := mv3 h2
  refine ⟨?_, ?_⟩
  · simp only; rw [e1]; clear e1 e2 h1 h2; grind
  · simp only; rw [e2, e1]; clear e1 e2 h1 h2; grind
/-- The line of a point's opposite and the sum. -/
theorem sl_back {p q : F × F} {l : F} (h : C.Sl p q l) : C.Sl (p.1, 0 - p.2) (by' l p q) (0 - l) := by
  obtain ⟨x, y⟩ := p
  obtain ⟨u, v⟩ := q
  obtain ⟨h1, h2⟩ := h
  simp only [by'] at *
  have e1 : v = y - l * (x - u) := mv2 h1
  have e2 : C.a = l * (y + v) - (x * x + x * u + u * u) := mv3 h2
  refine ⟨?_, ?_⟩
  · simp only; clear e1 e2 h1 h2; grind
  · simp only; rw [e2, e1]; clear e1 e2 h1 h2; grind

/-! what lines tell, up to what is told as 1 -/
variable [DecidableEq F]
/-- Two sets of points of a curve; what is told of numbers, products kept, and of two points' distance 1. -/
structure Sd where
  N : F → F
  mulN : ∀ a b, N (a * b) = N a * N b
  negN : N (0 - 1) = 1
  A : Option (F × F) → Prop
  B : Option (F × F) → Prop
  Aon : ∀ {p}, A p → C.on p
  Bon : ∀ {p}, B p → C.on p
  Aadd : ∀ {p q}, A p → A q → A (C.add p q)
  Badd : ∀ {p q}, B p → B q → B (C.add p q)
  A0 : A none
  B0 : B none
  An : ∀ {p}, A p → A (neg p)
  Bn : ∀ {p}, B p → B (neg p)
  nv : ∀ {a b}, A (some a) → B (some b) → N (b.1 - a.1) = 1
end EC

namespace EC.Sd
variable {F : Type} [i : CR F] {C : EC F} [DecidableEq F] (S : C.Sd)
def swap : C.Sd where
  N := S.N
  mulN := S.mulN
  negN := S.negN
  A := S.B
  B := S.A
  Aon := S.Bon
  Bon := S.Aon
  Aadd := S.Badd
  Badd := S.Aadd
  A0 := S.B0
  B0 := S.A0
  An := S.Bn
  Bn := S.An
  nv := fun {a b} ha hb => by
    have e : b.1 - a.1 = (0 - 1) * (a.1 - b.1) := by grind
    rw [e, S.mulN, S.negN, S.nv hb ha]; grind
/-- What the line of two points tells of a third one. -/
def L (P Q X : Option (F × F)) : F :=
  match P, Q, X with
  | some p, some q, some x => if Opp p q then 1 else S.N (lnv (C.slope p q) p x)
  | _, _, _ => 1
theorem L0 (Q X : Option (F × F)) : S.L none Q X = 1 := by cases Q <;> cases X <;> rfl
theorem L1 (P X : Option (F × F)) : S.L P none X = 1 := by cases P <;> cases X <;> rfl
theorem L2 (P Q : Option (F × F)) : S.L P Q none = 1 := by cases P <;> cases Q <;> rfl
theorem L_opp {p q : F × F} (h : Opp p q) (X : Option (F × F)) : S.L (some p) (some q) X = 1 := by
  cases X with
  | none => rfl
  | some x => show (if Opp p q then 1 else _) = _; rw [if_pos h]
theorem L_sl {p q x : F × F} {l : F} (hp : C.on (some p)) (hq : C.on (some q)) (h : ¬ Opp p q) (hl : C.Sl p q l) : S.L (some p) (some q) (some x) = S.N (lnv l p x) := by
  have := C.sl_unique h (C.slope_ok hp hq h) hl
  show (if Opp p q then 1 else S.N (lnv (C.slope p q) p x)) = _
  rw [if_neg h, this]
theorem oneN : S.N 1 = 1 := by
  have e : (1 : F) = (0 - 1) * (0 - 1) := by grind
  rw [e, S.mulN, S.negN]; grind
theorem L_comm {P Q : Option (F × F)} (hP : C.on P) (hQ : C.on Q) (X : Option (F × F)) : S.L P Q X = S.L Q P X := by
  match P, Q, X with
  | none, Q, X => rw [S.L0, S.L1]
  | some p, none, X => rw [S.L0, S.L1]
  | some p, some q, none => rfl
  | some p, some q, some x =>
    by_cases h : Opp p q
    · rw [S.L_opp h, S.L_opp h.symm]
    · have hl := C.slope_ok hP hQ h
      rw [S.L_sl hP hQ h hl, S.L_sl hQ hP (fun h' => h h'.symm) (hl.symm C), C.lnv_sl hl]
theorem L_neg {P Q X : Option (F × F)} (hP : S.A P) (hQ : S.A Q) (hX : S.B X) : S.L P Q X * S.L P Q (neg X) = 1 := by
  match P, Q, X with
  | none, Q, X => rw [S.L0, S.L0]; grind
  | some p, none, X => rw [S.L1, S.L1]; grind
  | some p, some q, none => show (1 : F) * 1 = 1; grind
  | some p, some q, some x =>
    by_cases h : Opp p q
    · rw [S.L_opp h, S.L_opp h]; grind
    · have o1 := S.Aon hP
      have o2 := S.Aon hQ
      have hl := C.slope_ok o1 o2 h
      have e := C.lnv_neg o1 hl (S.Bon hX)
      have hs : S.A (some (by' (C.slope p q) p q)) := by
        have := S.Aadd hP hQ
        rw [C.add_sl o1 o2 h hl] at this; exact this
      show S.L (some p) (some q) (some x) * S.L (some p) (some q) (some (x.1, 0 - x.2)) = 1
      rw [S.L_sl o1 o2 h hl, S.L_sl o1 o2 h hl, ← S.mulN, e, S.mulN, S.mulN, S.mulN, S.negN, S.nv hP hX, S.nv hQ hX, S.nv hs hX]
      grind
theorem opp_of_none {p q : F × F} (hp : C.on (some p)) (hq : C.on (some q)) (h : C.add (some p) (some q) = none) : Opp p q := by
  rcases C.add_cases hp hq with ⟨h1, _⟩ | ⟨_, l, _, e⟩
  · exact h1
  · rw [h] at e; cases e
/-- A point's opposite and the sum. -/
theorem L_back {Q R X : Option (F × F)} (hQ : S.A Q) (hR : S.A R) (hX : S.B X) : S.L Q R X * S.L (neg Q) (C.add Q R) X = 1 := by
  match Q, R, X with
  | none, R, X => show _ * S.L none _ X = 1; rw [S.L0, S.L0]; grind
  | some q, none, X =>
    rw [S.L1, C.add_zero]
    have : Opp (q.1, 0 - q.2) q := ⟨rfl, by show (0 - q.2) + q.2 = 0; grind⟩
    show 1 * S.L (some (q.1, 0 - q.2)) (some q) X = 1
    rw [S.L_opp this]; grind
  | some q, some s, none => rw [S.L2, S.L2]; grind
  | some q, some s, some x =>
    have o1 := S.Aon hQ
    have o2 := S.Aon hR
    by_cases h : Opp q s
    · rw [S.L_opp h, C.add_opp h, S.L1]; grind
    · have hm := C.slope_ok o1 o2 h
      have ht := C.add_sl o1 o2 h hm
      have ot := C.on_add o1 o2
      rw [ht] at ot
      rw [ht]
      have on1 : C.on (some (q.1, 0 - q.2)) := C.on_neg o1
      have hno : ¬ Opp (q.1, 0 - q.2) (by' (C.slope q s) q s) := fun ho => by
        have b := C.back o1 o2
        rw [ht] at b
        have b2 : C.add (some (q.1, 0 - q.2)) (some (by' (C.slope q s) q s)) = some s := b
        rw [C.add_opp ho] at b2
        cases b2
      show S.L (some q) (some s) (some x) * S.L (some (q.1, 0 - q.2)) (some (by' (C.slope q s) q s)) (some x) = 1
      rw [S.L_sl on1 ot hno (C.sl_back hm)]
      have e : lnv (0 - C.slope q s) (q.1, 0 - q.2) x = (0 - 1) * lnv (C.slope q s) q (x.1, 0 - x.2) := by unfold lnv; simp only; grind
      rw [e, S.mulN, S.negN]
      have := S.L_neg hQ hR hX
      have e2 : S.L (some q) (some s) (neg (some x)) = S.N (lnv (C.slope q s) q (x.1, 0 - x.2)) := S.L_sl (x := (x.1, 0 - x.2)) o1 o2 h hm
      rw [e2] at this
      rw [← this]; grind
/-- **Brackets.** -/
theorem L_cocycle {P Q R X : Option (F × F)} (hP : S.A P) (hQ : S.A Q) (hR : S.A R) (hX : S.B X) : S.L P Q X * S.L (C.add P Q) R X = S.L Q R X * S.L P (C.add Q R) X := by
  match P, Q, R, X with
  | none, Q, R, X => rw [C.zero_add, S.L0, S.L0]; grind
  | some p, none, R, X => rw [C.zero_add, C.add_zero, S.L1, S.L0]
  | some p, some q, none, X => rw [C.add_zero, S.L1, S.L1]; grind
  | some p, some q, some s, none => rw [S.L2, S.L2, S.L2, S.L2]
  | some p, some q, some s, some x =>
    have o1 := S.Aon hP
    have o2 := S.Aon hQ
    have o3 := S.Aon hR
    have hass := C.assoc o1 o2 o3
    have negOf : ∀ {a b : F × F}, Opp a b → neg (some b) = some a := by
      intro a b ⟨e1, e2⟩
      show some (b.1, 0 - b.2) = some a
      rw [Option.some.injEq]
      refine Prod.ext e1.symm ?_
      show 0 - b.2 = a.2
      grind
    by_cases h1 : Opp p q
    · rw [S.L_opp h1, C.add_opp h1, S.L0]
      have := S.L_back hQ hR hX
      rw [negOf h1] at this
      rw [this]; grind
    · by_cases h2 : Opp q s
      · rw [S.L_opp h2, C.add_opp h2, S.L1]
        have := S.L_back hQ hP hX
        have e : neg (some q) = some s := negOf h2.symm
        rw [e, C.add_comm o2 o1] at this
        rw [S.L_comm o1 o2, S.L_comm (C.on_add o1 o2) o3, this]; grind
      · have hl := C.slope_ok o1 o2 h1
        have hm := C.slope_ok o2 o3 h2
        have e1 := C.add_sl o1 o2 h1 hl
        have e2 := C.add_sl o2 o3 h2 hm
        have a1 := S.Aadd hP hQ
        have a2 := S.Aadd hQ hR
        generalize C.slope p q = l at *
        generalize C.slope q s = m at *
        rw [e1] at a1
        rw [e2] at a2
        have p1 := S.Aon a1
        have p2 := S.Aon a2
        rw [e1, e2] at hass
        rw [e1, e2]
        by_cases h3 : Opp (by' l p q) s
        · rw [C.add_opp h3] at hass
          have h4 := opp_of_none o1 p2 hass.symm
          rw [S.L_opp h3, S.L_opp h4, S.L_sl o1 o2 h1 hl]
          have e : s = ((by' l p q).1, 0 - (by' l p q).2) := Prod.ext h3.1.symm (by have := h3.2; show s.2 = 0 - (by' l p q).2; grind)
          have h5 : C.Sl q s l := by rw [e]; exact C.sl_third hl
          rw [S.L_sl o2 o3 h2 h5, C.lnv_sl hl]
        · by_cases h4 : Opp p (by' m q s)
          · rw [C.add_opp h4] at hass
            exact absurd (opp_of_none p1 o3 hass) h3
          · by_cases hd : l - m = 0
            · have hlm : l = m := by grind
              rcases C.onLine hl (hlm ▸ hm) with e | e
              · subst e
                have e3 : by' m q p = by' l p q := by rw [← hlm, ← C.by_symm hl]
                rw [e3, S.L_comm o1 o2, S.L_comm p1 o1]
              · exact absurd e h3
            · have hk : ∃ k, k * (l - m) = p.1 - s.1 := ⟨(p.1 - s.1) * C.inv (l - m), by have := C.inv_ok _ hd; generalize C.inv (l - m) = t at *; generalize l - m = d at *; grind⟩
              obtain ⟨k, hk⟩ := hk
              have t1 := C.third hl hm hk hd
              have t2 := C.third (k := k) (hm.symm C) (hl.symm C) (by clear hass e1 e2 o1 o2 o3 p1 p2 h1 h2 h3 h4 t1; grind) (by clear hass e1 e2 o1 o2 o3 p1 p2 h1 h2 h3 h4 t1; intro e; exact hd (by grind))
              rw [← C.by_symm hm] at t2
              rw [S.L_sl o1 o2 h1 hl, S.L_sl p1 o3 h3 t1, S.L_sl o2 o3 h2 hm, S.L_sl o1 p2 h4 (t2.symm C), ← C.lnv_sl t2]
              have e := C.lnv_cocycle (X := x) o1 o2 hl hm hk hd (S.Bon hX)
              have e3 := congrArg S.N e
              rw [S.mulN, S.mulN, S.mulN, S.mulN, S.nv a1 hX, S.nv a2 hX] at e3
              rw [Rg.mul_one, Rg.mul_one] at e3
              exact e3
/-- **Lines that change sides.** -/
theorem L_both {P Q X Y : Option (F × F)} (hP : S.A P) (hQ : S.A Q) (hX : S.B X) (hY : S.B Y) :
    S.L P Q X * (S.L P Q Y * S.L P Q (neg (C.add X Y))) = S.swap.L X Y P * (S.swap.L X Y Q * S.swap.L X Y (neg (C.add P Q))) := by
  have one3 : ∀ {a b : F}, a * b = 1 → a * (b * 1) = 1 := by intro a b h; grind
  have one4 : ∀ {a b : F}, a * b = 1 → a * (1 * b) = 1 := by intro a b h; grind
  have one5 : ∀ {a b : F}, a * b = 1 → 1 * (a * b) = 1 := by intro a b h; grind
  have o111 : (1 : F) * (1 * 1) = 1 := by grind
  match P, Q, X, Y with
  | none, Q, X, Y =>
    rw [S.L0, S.L0, S.L0, S.swap.L2, C.zero_add, o111]
    exact (one5 (S.swap.L_neg hX hY hQ)).symm
  | some p, none, X, Y =>
    rw [S.L1, S.L1, S.L1, S.swap.L2, C.add_zero, o111]
    exact (one4 (S.swap.L_neg hX hY hP)).symm
  | some p, some q, none, Y =>
    rw [S.swap.L0, S.swap.L0, S.swap.L0, S.L2, C.zero_add, o111]
    exact one5 (S.L_neg hP hQ hY)
  | some p, some q, some x, none =>
    rw [S.swap.L1, S.swap.L1, S.swap.L1, S.L2, C.add_zero, o111]
    exact one4 (S.L_neg hP hQ hX)
  | some p, some q, some x, some y =>
    have o1 := S.Aon hP
    have o2 := S.Aon hQ
    have o3 := S.Bon hX
    have o4 := S.Bon hY
    have negOf : ∀ {a b : F × F}, Opp a b → neg (some a) = some b := by
      intro a b ⟨e1, e2⟩
      show some (a.1, 0 - a.2) = some b
      rw [Option.some.injEq]
      refine Prod.ext e1 ?_
      show 0 - a.2 = b.2
      grind
    by_cases h1 : Opp p q
    · rw [S.L_opp h1, S.L_opp h1, S.L_opp h1, C.add_opp h1, o111]
      have := S.swap.L_neg hX hY hP
      rw [negOf h1] at this
      show 1 = _ * (_ * S.swap.L _ _ none)
      rw [S.swap.L2]
      exact (one3 this).symm
    · by_cases h2 : Opp x y
      · rw [S.swap.L_opp h2, S.swap.L_opp h2, S.swap.L_opp h2, C.add_opp h2, o111]
        have := S.L_neg hP hQ hX
        rw [negOf h2] at this
        show _ * (_ * S.L _ _ none) = 1
        rw [S.L2]
        exact one3 this
      · have hl := C.slope_ok o1 o2 h1
        have hm := C.slope_ok o3 o4 h2
        have e1 := C.add_sl o1 o2 h1 hl
        have e2 := C.add_sl o3 o4 h2 hm
        generalize C.slope p q = l at *
        generalize C.slope x y = m at *
        rw [e1, e2]
        show S.L (some p) (some q) (some x) * (S.L (some p) (some q) (some y) * S.L (some p) (some q) (some ((by' m x y).1, 0 - (by' m x y).2))) = S.swap.L (some x) (some y) (some p) * (S.swap.L (some x) (some y) (some q) * S.swap.L (some x) (some y) (some ((by' l p q).1, 0 - (by' l p q).2)))
        rw [S.L_sl o1 o2 h1 hl, S.L_sl o1 o2 h1 hl, S.L_sl o1 o2 h1 hl, S.swap.L_sl o3 o4 h2 hm, S.swap.L_sl o3 o4 h2 hm, S.swap.L_sl o3 o4 h2 hm]
        have e := congrArg S.N (C.lnv_both o1 hl o3 hm)
        rw [S.mulN, S.mulN, S.mulN, S.negN, Rg.one_mul, S.mulN, S.mulN] at e
        exact e

/-! multiples -/
theorem A_mul {P : Option (F × F)} (hP : S.A P) : ∀ n, S.A (C.mul n P)
  | 0 => S.A0
  | n + 1 => S.Aadd (A_mul hP n) hP
/-- What the lines of the multiples up to n make. -/
def Fn : Nat → Option (F × F) → Option (F × F) → F
  | 0, _, _ => 1
  | n + 1, P, X => Fn n P X * S.L (C.mul n P) P X
theorem Fn_add {P X : Option (F × F)} (hP : S.A P) (hX : S.B X) (m : Nat) : ∀ n, S.Fn (m + n) P X = S.Fn m P X * S.Fn n P X * S.L (C.mul m P) (C.mul n P) X
  | 0 => by show S.Fn m P X = S.Fn m P X * 1 * S.L _ none X; rw [S.L1]; grind
  | n + 1 => by
    show S.Fn (m + n) P X * S.L (C.mul (m + n) P) P X = S.Fn m P X * (S.Fn n P X * S.L (C.mul n P) P X) * S.L (C.mul m P) (C.add (C.mul n P) P) X
    have e := S.L_cocycle (S.A_mul hP m) (S.A_mul hP n) hP hX
    rw [Fn_add hP hX m n, C.mul_add (S.Aon hP)]
    grind
theorem L_six {a b e f X : Option (F × F)} (ha : S.A a) (hb : S.A b) (he : S.A e) (hf : S.A f) (hX : S.B X) :
    S.L a b X * (S.L (C.add a b) (C.add e f) X * S.L e f X) = S.L a e X * (S.L b f X * S.L (C.add a e) (C.add b f) X) := by
  have oa := S.Aon ha
  have ob := S.Aon hb
  have oe := S.Aon he
  have c1 := S.L_cocycle (S.Aadd ha hb) he hf hX
  have c2 := S.L_cocycle hb ha he hX
  have c3 := S.L_cocycle (S.Aadd ha he) hb hf hX
  have k1 := S.L_comm ob oa X
  have k2 := S.L_comm ob (C.on_add oa oe) X
  have a1 : C.add (C.add a e) b = C.add (C.add a b) e := by rw [C.assoc oa oe ob, C.add_comm oe ob, C.assoc oa ob oe]
  rw [C.add_comm ob oa] at c2
  rw [a1] at c3
  rw [k1, k2] at c2
  grind
/-- **The sum of two points.** -/
theorem Fn_sum {P Q X : Option (F × F)} (hP : S.A P) (hQ : S.A Q) (hX : S.B X) : ∀ n, S.Fn n P X * (S.Fn n Q X * S.L (C.mul n P) (C.mul n Q) X) = S.Fn n (C.add P Q) X * S.L P Q X ^ n
  | 0 => by show (1 : F) * (1 * S.L none none X) = 1 * _; rw [S.L0, Rg.pow_zero]; grind
  | n + 1 => by
    have ih := Fn_sum hP hQ hX n
    have e := S.L_six (S.A_mul hP n) (S.A_mul hQ n) hP hQ hX
    show S.Fn n P X * S.L (C.mul n P) P X * (S.Fn n Q X * S.L (C.mul n Q) Q X * S.L (C.add (C.mul n P) P) (C.add (C.mul n Q) Q) X) = S.Fn n (C.add P Q) X * S.L (C.mul n (C.add P Q)) (C.add P Q) X * S.L P Q X ^ (n + 1)
    rw [C.mul_dist (S.Aon hP) (S.Aon hQ), Rg.pow_succ]
    generalize S.L P Q X ^ n = t at *
    grind
/-- **At the sum of two points.** -/
theorem Fn_at {P X Y : Option (F × F)} (hP : S.A P) (hX : S.B X) (hY : S.B Y) : ∀ n, S.Fn n P X * (S.Fn n P Y * S.Fn n P (neg (C.add X Y))) = S.swap.L X Y P ^ n * S.swap.L X Y (neg (C.mul n P))
  | 0 => by show (1 : F) * (1 * 1) = _ * S.swap.L X Y none; rw [S.swap.L2, Rg.pow_zero]; grind
  | n + 1 => by
    have ih := Fn_at hP hX hY n
    have e := S.L_both (S.A_mul hP n) hP hX hY
    have k := S.swap.L_neg hX hY (S.A_mul hP n)
    show S.Fn n P X * S.L (C.mul n P) P X * (S.Fn n P Y * S.L (C.mul n P) P Y * (S.Fn n P (neg (C.add X Y)) * S.L (C.mul n P) P (neg (C.add X Y)))) = S.swap.L X Y P ^ (n + 1) * S.swap.L X Y (neg (C.add (C.mul n P) P))
    rw [Rg.pow_succ]
    generalize S.swap.L X Y P ^ n = t at *
    grind
theorem Fn_neg {P X : Option (F × F)} (hP : S.A P) (hX : S.B X) : ∀ n, S.Fn n P X * S.Fn n P (neg X) = 1
  | 0 => by show (1 : F) * 1 = 1; grind
  | n + 1 => by
    have ih := Fn_neg hP hX n
    have e := S.L_neg (S.A_mul hP n) hP hX
    show S.Fn n P X * S.L (C.mul n P) P X * (S.Fn n P (neg X) * S.L (C.mul n P) P (neg X)) = 1
    grind
end EC.Sd
end Go.Rq

/- Sums to a prime's power, in any commutative ring where the prime is 0. -/
namespace Go.Rq
open Go

section
variable {α : Type} [CR α]
theorem mul_pow' (x y : α) : ∀ n : Nat, (x * y) ^ n = x ^ n * y ^ n
  | 0 => by rw [Rg.pow_zero, Rg.pow_zero, Rg.pow_zero]; grind
  | n + 1 => by rw [Rg.pow_succ, Rg.pow_succ, Rg.pow_succ, mul_pow' x y n]; grind
theorem pow_mul' (x : α) (m : Nat) : ∀ n : Nat, x ^ (m * n) = (x ^ m) ^ n
  | 0 => by rw [Nat.mul_zero, Rg.pow_zero, Rg.pow_zero]
  | n + 1 => by rw [Nat.mul_succ, Rg.pow_add, pow_mul' x m n, Rg.pow_succ]
theorem pow_zero_pos {n : Nat} (h : 0 < n) : (0 : α) ^ n = 0 := by
  obtain ⟨m, rfl⟩ : ∃ m, n = m + 1 := ⟨n - 1, by omega⟩
  rw [Rg.pow_succ]; grind
def bS (x y : α) (n : Nat) : Nat → α
  | 0 => 1
  | k + 1 => y * bS x y n k + Rg.nc (R := α) (chs n (k + 1)) * x ^ (k + 1)
theorem bS_step (x y : α) (n : Nat) : ∀ k, bS x y (n + 1) (k + 1) = bS x y n (k + 1) + x * bS x y n k
  | 0 => by
    have e : chs (n + 1) (0 + 1) = chs n 0 + chs n 1 := rfl
    simp only [bS]
    rw [e, chs_zero, Rg.nc_add, Rg.nc_one, Rg.pow_one]
    grind
  | k + 1 => by
    have ih := bS_step x y n k
    have e : chs (n + 1) (k + 2) = chs n (k + 1) + chs n (k + 2) := rfl
    have e1 : bS x y n (k + 1) = y * bS x y n k + Rg.nc (R := α) (chs n (k + 1)) * x ^ (k + 1) := rfl
    show y * bS x y (n + 1) (k + 1) + Rg.nc (R := α) (chs (n + 1) (k + 2)) * x ^ (k + 2) = (y * bS x y n (k + 1) + Rg.nc (R := α) (chs n (k + 2)) * x ^ (k + 2)) + x * bS x y n (k + 1)
    rw [ih, e, Rg.nc_add, Rg.pow_succ x (k + 1)]
    generalize x ^ (k + 1) = P at *
    generalize bS x y n k = B at *
    generalize bS x y n (k + 1) = C at *
    generalize Rg.nc (R := α) (chs n (k + 1)) = c at *
    generalize Rg.nc (R := α) (chs n (k + 2)) = d at *
    grind
theorem bS_pow (x y : α) : ∀ n, bS x y n n = (x + y) ^ n
  | 0 => by rw [Rg.pow_zero]; rfl
  | n + 1 => by
    rw [bS_step]
    show (y * bS x y n n + Rg.nc (R := α) (chs n (n + 1)) * x ^ (n + 1)) + x * bS x y n n = (x + y) ^ (n + 1)
    rw [chs_big (by omega), bS_pow x y n, Rg.nc_zero, Rg.pow_succ]
    grind
theorem bS_zero {s : Nat} (hs : Pr s) (h0 : Rg.nc (R := α) s = 0) (x y : α) : ∀ k, k < s → bS x y s k = y ^ k
  | 0, _ => by rw [Rg.pow_zero]; rfl
  | k + 1, h => by
    obtain ⟨m, hm⟩ := chs_dvd hs h
    show y * bS x y s k + Rg.nc (R := α) (chs s (k + 1)) * x ^ (k + 1) = _
    rw [bS_zero hs h0 x y k (by omega), hm, Rg.nc_mul, h0, Rg.pow_succ]
    grind
/-- The power of a sum. -/
theorem frobR {s : Nat} (hs : Pr s) (h0 : Rg.nc (R := α) s = 0) (x y : α) : (x + y) ^ s = x ^ s + y ^ s := by
  obtain ⟨n, rfl⟩ : ∃ n, s = n + 1 := ⟨s - 1, by have := hs.1; omega⟩
  rw [← bS_pow]
  show y * bS x y (n + 1) n + Rg.nc (R := α) (chs (n + 1) (n + 1)) * x ^ (n + 1) = _
  rw [bS_zero hs h0 x y n (by omega), chs_self, Rg.nc_one, Rg.pow_succ, Rg.pow_succ]
  grind
theorem fermatR {s : Nat} (hs : Pr s) (h0 : Rg.nc (R := α) s = 0) : ∀ a : Nat, Rg.nc (R := α) a ^ s = Rg.nc a
  | 0 => by rw [Rg.nc_zero]; exact pow_zero_pos (by have := hs.1; omega)
  | a + 1 => by rw [Rg.nc_succ, frobR hs h0, fermatR hs h0 a, Rg.one_pow]
end
end Go.Rq

/- Numbers of two parts, i i = -1, over a ring: a ring; over a field where -1 is no square: a field; conjugates are powers. -/
namespace Go.Rq
open Go
set_option linter.unusedSectionVars false

structure Cx (F : Type) where
  x : F
  y : F
theorem Cx.ext {F : Type} {a b : Cx F} (h1 : a.x = b.x) (h2 : a.y = b.y) : a = b := by cases a; cases b; simp_all
section
variable {R : Type} [CR R]
theorem cg1 (u v : R) : u * 1 - v * 0 = u := by grind
theorem cg2 (u v : R) : u * 0 + v * 1 = v := by grind
theorem cg3 (u v : R) : 1 * u - 0 * v = u := by grind
theorem cg4 (u v : R) : 1 * v + 0 * u = v := by grind
theorem cg5 (u v : R) : 0 * u - 0 * v = 0 := by grind
theorem cg6 (u v : R) : 0 * v + 0 * u = 0 := by grind
theorem cg7 (u v : R) : u * 0 - v * 0 = 0 := by grind
theorem cg8 (u v : R) : u * 0 + v * 0 = 0 := by grind
theorem cg9 (c u v : R) : c * u = c * u - 0 * v := by grind
theorem cg0 (c u v : R) : c * u = c * u + 0 * v := by grind
end
namespace Cx
variable {F : Type} [CR F]
def nc (n : Nat) : F := Rg.nc n
def ic (n : Int) : F := Rg.ic n
def npow (a : Cx F) : Nat → Cx F
  | 0 => ⟨1, 0⟩
  | n + 1 => ⟨(npow a n).x * a.x - (npow a n).y * a.y, (npow a n).x * a.y + (npow a n).y * a.x⟩
instance : Add (Cx F) := ⟨fun a b => ⟨a.x + b.x, a.y + b.y⟩⟩
instance : Sub (Cx F) := ⟨fun a b => ⟨a.x - b.x, a.y - b.y⟩⟩
instance : Neg (Cx F) := ⟨fun a => ⟨-a.x, -a.y⟩⟩
instance : Mul (Cx F) := ⟨fun a b => ⟨a.x * b.x - a.y * b.y, a.x * b.y + a.y * b.x⟩⟩
instance : NatCast (Cx F) := ⟨fun n => ⟨nc n, 0⟩⟩
instance : IntCast (Cx F) := ⟨fun n => ⟨ic n, 0⟩⟩
instance (n : Nat) : OfNat (Cx F) n := ⟨⟨OfNat.ofNat n, 0⟩⟩
instance : SMul Nat (Cx F) := ⟨fun n a => ⟨nc n * a.x, nc n * a.y⟩⟩
instance : SMul Int (Cx F) := ⟨fun n a => ⟨ic n * a.x, ic n * a.y⟩⟩
instance : HPow (Cx F) Nat (Cx F) := ⟨npow⟩
theorem add_x (a b : Cx F) : (a + b).x = a.x + b.x := rfl
theorem add_y (a b : Cx F) : (a + b).y = a.y + b.y := rfl
theorem sub_x (a b : Cx F) : (a - b).x = a.x - b.x := rfl
theorem sub_y (a b : Cx F) : (a - b).y = a.y - b.y := rfl
theorem neg_x (a : Cx F) : (-a).x = -a.x := rfl
theorem neg_y (a : Cx F) : (-a).y = -a.y := rfl
theorem mul_x (a b : Cx F) : (a * b).x = a.x * b.x - a.y * b.y := rfl
theorem mul_y (a b : Cx F) : (a * b).y = a.x * b.y + a.y * b.x := rfl
theorem one_x : (1 : Cx F).x = 1 := rfl
theorem one_y : (1 : Cx F).y = 0 := rfl
theorem zero_x : (0 : Cx F).x = 0 := rfl
theorem zero_y : (0 : Cx F).y = 0 := rfl
theorem ic_neg (i : Int) : ic (F := F) (-i) = -ic i := Rg.ic_neg i
theorem ic_nat (n : Nat) : ic (F := F) (n : Int) = nc n := Rg.ic_nat n
instance : CR (Cx F) where
  natCast := inferInstance
  ofNat := inferInstance
  nsmul := inferInstance
  npow := inferInstance
  intCast := inferInstance
  zsmul := inferInstance
  add_zero a := Cx.ext (by rw [add_x, zero_x]; grind) (by rw [add_y, zero_y]; grind)
  add_comm a b := Cx.ext (by rw [add_x, add_x]; grind) (by rw [add_y, add_y]; grind)
  add_assoc a b c := Cx.ext (by simp only [add_x]; grind) (by simp only [add_y]; grind)
  mul_assoc a b c := Cx.ext (by simp only [mul_x, mul_y]; grind) (by simp only [mul_x, mul_y]; grind)
  mul_one a := Cx.ext (cg1 a.x a.y) (cg2 a.x a.y)
  one_mul a := Cx.ext (cg3 a.x a.y) (cg4 a.x a.y)
  left_distrib a b c := Cx.ext (by simp only [mul_x, add_x, add_y]; grind) (by simp only [mul_y, add_x, add_y]; grind)
  right_distrib a b c := Cx.ext (by simp only [mul_x, add_x, add_y]; grind) (by simp only [mul_y, add_x, add_y]; grind)
  zero_mul a := Cx.ext (cg5 a.x a.y) (cg6 a.x a.y)
  mul_zero a := Cx.ext (cg7 a.x a.y) (cg8 a.x a.y)
  pow_zero _ := rfl
  pow_succ _ _ := rfl
  ofNat_succ n := Cx.ext (Rg.ofNat_succ n) (Rg.add_zero (0 : F)).symm
  ofNat_eq_natCast n := Cx.ext (Rg.ofNat_nc n) rfl
  nsmul_eq_natCast_mul n a := Cx.ext (cg9 (nc n) a.x a.y) (cg0 (nc n) a.y a.x)
  neg_add_cancel a := Cx.ext (by rw [add_x, neg_x, zero_x]; grind) (by rw [add_y, neg_y, zero_y]; grind)
  sub_eq_add_neg a b := Cx.ext (by rw [add_x, neg_x, sub_x]; grind) (by rw [add_y, neg_y, sub_y]; grind)
  neg_zsmul i a := Cx.ext (by show ic (-i) * a.x = -(ic i * a.x); rw [ic_neg]; grind) (by show ic (-i) * a.y = -(ic i * a.y); rw [ic_neg]; grind)
  zsmul_natCast_eq_nsmul n a := Cx.ext (by show ic (n : Int) * a.x = nc n * a.x; rw [ic_nat]) (by show ic (n : Int) * a.y = nc n * a.y; rw [ic_nat])
  intCast_ofNat n := Cx.ext (Rg.ic_ofNat n) rfl
  intCast_neg i := Cx.ext (Rg.ic_neg i) (by show (0 : F) = -0; grind)
  mul_comm a b := Cx.ext (by rw [mul_x, mul_x]; grind) (by rw [mul_y, mul_y]; grind)
def re (a : F) : Cx F := ⟨a, 0⟩
def conj (a : Cx F) : Cx F := ⟨a.x, -a.y⟩
def im : Cx F := ⟨0, 1⟩
theorem parts (a : Cx F) : a = re a.x + im * re a.y := Cx.ext (by rw [add_x, mul_x]; show a.x = a.x + (0 * a.y - 1 * 0); grind) (by rw [add_y, mul_y]; show a.y = 0 + (0 * 0 + 1 * a.y); grind)
theorem im_im : (im : Cx F) * im = re (-1) := Cx.ext (by rw [mul_x]; show (0 : F) * 0 - 1 * 1 = -1; grind) (by rw [mul_y]; show (0 : F) * 1 + 1 * 0 = 0; grind)
theorem re_mul (a b : F) : re a * re b = re (a * b) := Cx.ext (by rw [mul_x]; show a * b - 0 * 0 = a * b; grind) (by rw [mul_y]; show a * 0 + 0 * b = 0; grind)
theorem re_pow (a : F) : ∀ n : Nat, re a ^ n = re (a ^ n)
  | 0 => by rw [Rg.pow_zero, Rg.pow_zero]; rfl
  | n + 1 => by rw [Rg.pow_succ, Rg.pow_succ, re_pow a n, re_mul]
theorem nc_re (n : Nat) : Rg.nc (R := Cx F) n = re (Rg.nc n) := by
  induction n with
  | zero => rw [Rg.nc_zero, Rg.nc_zero]; rfl
  | succ n ih => 
    rw [Rg.nc_succ, Rg.nc_succ, ih]
    exact Cx.ext rfl (by show (0 : F) + 0 = 0; grind)
theorem im_pow : ∀ k : Nat, (im : Cx F) ^ (2 * k) = re ((-1 : F) ^ k)
  | 0 => by rw [Nat.mul_zero, Rg.pow_zero, Rg.pow_zero]; rfl
  | k + 1 => by
    rw [show 2 * (k + 1) = 2 * k + 1 + 1 by omega, Rg.pow_succ, Rg.pow_succ, im_pow k, Rg.mul_assoc, im_im, re_mul, Rg.pow_succ]
theorem m1_pow2 : ∀ k : Nat, ((-1 : F)) ^ (2 * k) = 1
  | 0 => by rw [Nat.mul_zero, Rg.pow_zero]
  | k + 1 => by rw [show 2 * (k + 1) = 2 * k + 1 + 1 by omega, Rg.pow_succ, Rg.pow_succ, m1_pow2 k]; grind
theorem m1_odd (k : Nat) : ((-1 : F)) ^ (2 * k + 1) = -1 := by rw [Rg.pow_succ, m1_pow2]; grind
/-- The power p is the conjugate. -/
theorem frob {p : Nat} (hp : Pr p) (h4 : p % 4 = 3) (h0 : Rg.nc (R := F) p = 0) (hf : ∀ a : F, a ^ p = a) (z : Cx F) : z ^ p = conj z := by
  have hz : Rg.nc (R := Cx F) p = 0 := by rw [nc_re, h0]; rfl
  have e := parts z
  have hi : (im : Cx F) ^ p = re (-1 : F) * im := by
    have : p = 2 * (2 * (p / 4) + 1) + 1 := by omega
    rw [this, Rg.pow_succ, im_pow, m1_odd]
  have h1 : (re z.x + im * re z.y) ^ p = re z.x + re (-1 : F) * im * re z.y := by
    rw [frobR hp hz, mul_pow', re_pow, re_pow, hf, hf, hi]
  rw [← e] at h1
  rw [h1]
  refine Cx.ext ?_ ?_
  · rw [add_x, mul_x, mul_x, mul_y]; show z.x + ((-1 * 0 - 0 * 1) * z.y - (-1 * 1 + 0 * 0) * 0) = z.x; grind
  · rw [add_y, mul_y, mul_x, mul_y]; show 0 + ((-1 * 0 - 0 * 1) * 0 + (-1 * 1 + 0 * 0) * z.y) = -z.y; grind
theorem conj_mul (a b : Cx F) : conj (a * b) = conj a * conj b := Cx.ext (by rw [mul_x]; show a.x * b.x - a.y * b.y = a.x * b.x - -a.y * -b.y; grind) (by rw [mul_y]; show -(a.x * b.y + a.y * b.x) = a.x * -b.y + -a.y * b.x; grind)
theorem conj_conj (a : Cx F) : conj (conj a) = a := Cx.ext rfl (by show - -a.y = a.y; grind)
def nrm (a : Cx F) : F := a.x * a.x + a.y * a.y
theorem conj_nrm (a : Cx F) : a * conj a = re (nrm a) := Cx.ext (by rw [mul_x]; show a.x * a.x - a.y * -a.y = a.x * a.x + a.y * a.y; grind) (by rw [mul_y]; show a.x * -a.y + a.y * a.x = 0; grind)
end Cx
end Go.Rq

/- The little curves' pairing: plain: sums on either side, and that the group is that of one point. -/
namespace Go.Rq
open Go
set_option linter.unusedVariables false
set_option linter.unusedSectionVars false
set_option linter.unusedSimpArgs false

/-! the field F(i) -/
section
variable {p : Nat} [NeZero p]
instance (p : Nat) [NeZero p] : DecidableEq (Cx (Fin p)) := fun a b =>
  if h1 : a.x = b.x then (if h2 : a.y = b.y then .isTrue (Cx.ext h1 h2) else .isFalse fun e => h2 (by rw [e])) else .isFalse fun e => h1 (by rw [e])
theorem hV_one (h : Gp p) : LO.hV p 1 = 1 := by
  unfold LO.hV
  rw [Nat.one_pow, Nat.mod_eq_of_lt (Nat.lt_trans (by decide) h.big)]
theorem nrm_zero (h : Gp p) {x y : Fin p} (e : x * x + y * y = 0) : y = 0 := by
  refine Classical.byContradiction fun hy => ?_
  have h1 := fInv_ok h y hy
  obtain ⟨t, ht⟩ : ∃ t, t = x * fInv h y := ⟨_, rfl⟩
  have e1 : t * t + 1 = 0 := by
    have : t * t + 1 = (x * x + y * y) * (fInv h y * fInv h y) := by rw [ht]; grind
    rw [this, e]; grind
  have hb := h.big
  have h4 := h.four
  have e2 : t.val * t.val % p = LO.ngM p 1 := by
    have := congrArg Fin.val (show t * t = 0 - 1 by grind)
    rw [fv_mul, fv_sub, fZero, fOne h] at this
    unfold zMul zSub at this
    rw [this]
    unfold LO.ngM
    rw [Nat.mod_eq_of_lt (show 1 < p by omega), Nat.zero_add]
  have e3 : LO.hV p (LO.ngM p 1) = 1 := by
    have ht0 : t.val % p ≠ 0 := fun e0 => by
      have : t = 0 := Fin.ext (by rw [Nat.mod_eq_of_lt t.isLt] at e0; rw [e0, fZero])
      rw [this] at e1
      have := congrArg Fin.val (show (1 : Fin p) = 0 by grind)
      rw [fOne h, fZero] at this
      exact absurd this (by decide)
    unfold LO.hV
    rw [← e2, ← Nat.pow_mod, ← Nat.pow_two, ← Nat.pow_mul, show 2 * ((p - 1) / 2) = p - 1 by omega]
    exact fermat_nat h.pr ht0
  exact (LO.hV_neg h.pr h.four (by rw [Nat.mod_eq_of_lt (by omega)]; omega)).1 (hV_one h) e3
theorem nrm_ne (h : Gp p) {z : Cx (Fin p)} (hz : z ≠ 0) : Cx.nrm z ≠ 0 := fun e => hz (by
  have h1 : z.y = 0 := nrm_zero h e
  have h2 : z.x = 0 := nrm_zero h (x := z.y) (y := z.x) (by unfold Cx.nrm at e; grind)
  exact Cx.ext h2 h1)
def kInv (h : Gp p) (z : Cx (Fin p)) : Cx (Fin p) := Cx.conj z * Cx.re (fInv h (Cx.nrm z))
theorem kInv_ok (h : Gp p) (z : Cx (Fin p)) (hz : z ≠ 0) : z * kInv h z = 1 := by
  unfold kInv
  rw [← Rg.mul_assoc, Cx.conj_nrm, Cx.re_mul, fInv_ok h _ (nrm_ne h hz)]; rfl
theorem kDom (h : Gp p) {a b : Cx (Fin p)} (e : a * b = 0) : a = 0 ∨ b = 0 := by
  by_cases ha : a = 0
  · exact .inl ha
  · refine .inr ?_
    have h1 := kInv_ok h a ha
    have : kInv h a * (a * b) = kInv h a * 0 := by rw [e]
    grind
theorem kTwo (h : Gp p) : (1 + 1 : Cx (Fin p)) ≠ 0 := fun e => fTwo h (congrArg Cx.x e)
def ecK (h : Gp p) : EC (Cx (Fin p)) where
  a := 1
  b := 0
  inv := kInv h
  inv_ok := kInv_ok h
  two := kTwo h
  ns := fun x e e2 => by
    have h1 : x * (x * x + 1) = 0 := by grind
    rcases kDom h h1 with h2 | h2
    · subst h2
      have : (1 : Cx (Fin p)) = 0 := by grind
      have := congrArg Fin.val (congrArg Cx.x this)
      rw [Cx.one_x, Cx.zero_x, fOne h, fZero] at this
      exact absurd this (by decide)
    · have : (1 + 1 : Cx (Fin p)) = 0 := by grind
      exact kTwo h this
theorem f_fermat (h : Gp p) (a : Fin p) : a ^ p = a := by
  have h0 : Rg.nc (R := Fin p) p = 0 := by
    have key : ∀ n : Nat, (Rg.nc (R := Fin p) n).val = n % p := by
      intro n
      induction n with
      | zero => rw [Rg.nc_zero, fZero, Nat.zero_mod]
      | succ n ih => rw [Rg.nc_succ, fv_add, ih, fOne h]; unfold zAdd; rw [Nat.mod_add_mod]
    exact Fin.ext (by rw [key, Nat.mod_self, fZero])
  have := fermatR (α := Fin p) h.pr h0 a.val
  have key : ∀ n : Nat, (Rg.nc (R := Fin p) n).val = n % p := by
    intro n
    induction n with
    | zero => rw [Rg.nc_zero, fZero, Nat.zero_mod]
    | succ n ih => rw [Rg.nc_succ, fv_add, ih, fOne h]; unfold zAdd; rw [Nat.mod_add_mod]
  have e : Rg.nc (R := Fin p) a.val = a := Fin.ext (by rw [key, Nat.mod_eq_of_lt a.isLt])
  rw [e] at this
  exact this
theorem f_char (h : Gp p) : Rg.nc (R := Fin p) p = 0 := by
  have key : ∀ n : Nat, (Rg.nc (R := Fin p) n).val = n % p := by
    intro n
    induction n with
    | zero => rw [Rg.nc_zero, fZero, Nat.zero_mod]
    | succ n ih => rw [Rg.nc_succ, fv_add, ih, fOne h]; unfold zAdd; rw [Nat.mod_add_mod]
  exact Fin.ext (by rw [key, Nat.mod_self, fZero])
theorem k_frob (h : Gp p) (z : Cx (Fin p)) : z ^ p = Cx.conj z := Cx.frob h.pr h.four (f_char h) (f_fermat h) z
theorem cancel_pow {α : Type} [CR α] {z w : α} (hw : z * w = 1) {n : Nat} (e : z ^ (n + 1) = z) : z ^ n = 1 := by
  have : z ^ (n + 1) * w = z * w := by rw [e]
  rw [Rg.pow_succ, Rg.mul_assoc, hw, Rg.mul_one] at this
  exact this
theorem k_order (h : Gp p) {z : Cx (Fin p)} (hz : z ≠ 0) : z ^ ((p - 1) * (p + 1)) = 1 := by
  refine cancel_pow (kInv_ok h z hz) ?_
  have hb := h.big
  have e : (p - 1) * (p + 1) + 1 = p * p := by
    obtain ⟨q, rfl⟩ : ∃ q, p = q + 1 := ⟨p - 1, by omega⟩
    rw [Nat.add_sub_cancel]; grind
  rw [e, pow_mul', k_frob h, k_frob h, Cx.conj_conj]
theorem f_pow1 (h : Gp p) {x : Fin p} (hx : x ≠ 0) : x ^ (p - 1) = 1 := by
  refine cancel_pow (fInv_ok h x hx) ?_
  have hb := h.big
  rw [show p - 1 + 1 = p by omega]
  exact f_fermat h x

/-! points of the field, and turned ones -/
theorem re_add (a b : Fin p) : Cx.re a + Cx.re b = Cx.re (a + b) := Cx.ext rfl (by show (0 : Fin p) + 0 = 0; grind)
theorem re_sub (a b : Fin p) : Cx.re a - Cx.re b = Cx.re (a - b) := Cx.ext rfl (by show (0 : Fin p) - 0 = 0; grind)
theorem re_inj {a b : Fin p} (e : Cx.re a = Cx.re b) : a = b := congrArg Cx.x e
def emb : Option (Fin p × Fin p) → Option (Cx (Fin p) × Cx (Fin p))
  | none => none
  | some q => some (Cx.re q.1, Cx.re q.2)
def trn : Option (Fin p × Fin p) → Option (Cx (Fin p) × Cx (Fin p))
  | none => none
  | some q => some (Cx.re (0 - q.1), ⟨0, q.2⟩)
theorem emb_on (h : Gp p) {P : Option (Fin p × Fin p)} (hP : (ecZ h).on P) : (ecK h).on (emb P) := by
  match P with
  | none => trivial
  | some (x, y) =>
    have hP : y * y = x * x * x + 1 * x + 0 := hP
    show Cx.re y * Cx.re y = Cx.re x * Cx.re x * Cx.re x + Cx.re 1 * Cx.re x + Cx.re 0
    rw [Cx.re_mul, Cx.re_mul, Cx.re_mul, Cx.re_mul, re_add, re_add, hP]
theorem trn_on (h : Gp p) {P : Option (Fin p × Fin p)} (hP : (ecZ h).on P) : (ecK h).on (trn P) := by
  match P with
  | none => trivial
  | some (x, y) =>
    have hP : y * y = x * x * x + 1 * x + 0 := hP
    show (⟨0, y⟩ : Cx (Fin p)) * ⟨0, y⟩ = Cx.re (0 - x) * Cx.re (0 - x) * Cx.re (0 - x) + Cx.re 1 * Cx.re (0 - x) + Cx.re 0
    rw [Cx.re_mul, Cx.re_mul, Cx.re_mul, re_add, re_add]
    refine Cx.ext ?_ ?_
    · rw [Cx.mul_x]; show 0 * 0 - y * y = (0 - x) * (0 - x) * (0 - x) + 1 * (0 - x) + 0; grind
    · rw [Cx.mul_y]; show 0 * y + y * 0 = 0; grind
theorem emb_add (h : Gp p) {P Q : Option (Fin p × Fin p)} (hP : (ecZ h).on P) (hQ : (ecZ h).on Q) : emb ((ecZ h).add P Q) = (ecK h).add (emb P) (emb Q) := by
  match P, Q with
  | none, Q => rfl
  | some q, none => rfl
  | some q, some r =>
    rcases (ecZ h).add_cases hP hQ with ⟨ho, e⟩ | ⟨ho, l, hl, e⟩
    · rw [e]
      have : EC.Opp (Cx.re q.1, Cx.re q.2) (Cx.re r.1, Cx.re r.2) := ⟨by rw [ho.1], by show Cx.re q.2 + Cx.re r.2 = Cx.re 0; rw [re_add, ho.2]⟩
      exact ((ecK h).add_opp this).symm
    · rw [e]
      have hno : ¬ EC.Opp (Cx.re q.1, Cx.re q.2) (Cx.re r.1, Cx.re r.2) := fun k => ho ⟨re_inj k.1, by
        have : Cx.re q.2 + Cx.re r.2 = Cx.re 0 := k.2
        rw [re_add] at this; exact re_inj this⟩
      have hs : (ecK h).Sl (Cx.re q.1, Cx.re q.2) (Cx.re r.1, Cx.re r.2) (Cx.re l) := by
        refine ⟨?_, ?_⟩
        · show Cx.re q.2 - Cx.re r.2 = Cx.re l * (Cx.re q.1 - Cx.re r.1)
          rw [re_sub, re_sub, Cx.re_mul, hl.1]
        · show Cx.re q.1 * Cx.re q.1 + Cx.re q.1 * Cx.re r.1 + Cx.re r.1 * Cx.re r.1 + Cx.re 1 = Cx.re l * (Cx.re q.2 + Cx.re r.2)
          have := hl.2
          rw [Cx.re_mul, Cx.re_mul, Cx.re_mul, re_add, re_add, re_add, re_add, Cx.re_mul]
          exact congrArg Cx.re this
      rw [show emb (some q) = some (Cx.re q.1, Cx.re q.2) from rfl, show emb (some r) = some (Cx.re r.1, Cx.re r.2) from rfl, (ecK h).add_sl (emb_on h hP) (emb_on h hQ) hno hs]
      show some (Cx.re (l * l - q.1 - r.1), Cx.re (l * (q.1 - (l * l - q.1 - r.1)) - q.2)) = some (Cx.re l * Cx.re l - Cx.re q.1 - Cx.re r.1, Cx.re l * (Cx.re q.1 - (Cx.re l * Cx.re l - Cx.re q.1 - Cx.re r.1)) - Cx.re q.2)
      rw [Cx.re_mul, re_sub, re_sub, re_sub, Cx.re_mul, re_sub]
theorem trn_add (h : Gp p) {P Q : Option (Fin p × Fin p)} (hP : (ecZ h).on P) (hQ : (ecZ h).on Q) : trn ((ecZ h).add P Q) = (ecK h).add (trn P) (trn Q) := by
  match P, Q with
  | none, Q => rfl
  | some q, none => rfl
  | some q, some r =>
    rcases (ecZ h).add_cases hP hQ with ⟨ho, e⟩ | ⟨ho, l, hl, e⟩
    · rw [e]
      have : EC.Opp (Cx.re (0 - q.1), (⟨0, q.2⟩ : Cx (Fin p))) (Cx.re (0 - r.1), ⟨0, r.2⟩) := ⟨by rw [ho.1], Cx.ext (by show (0 : Fin p) + 0 = 0; grind) ho.2⟩
      exact ((ecK h).add_opp this).symm
    · rw [e]
      have hno : ¬ EC.Opp (Cx.re (0 - q.1), (⟨0, q.2⟩ : Cx (Fin p))) (Cx.re (0 - r.1), ⟨0, r.2⟩) := fun k => ho ⟨by
        have := re_inj k.1
        grind, congrArg Cx.y k.2⟩
      have hs : (ecK h).Sl (Cx.re (0 - q.1), (⟨0, q.2⟩ : Cx (Fin p))) (Cx.re (0 - r.1), ⟨0, r.2⟩) ⟨0, 0 - l⟩ := by
        obtain ⟨l1, l2⟩ := hl
        have l2 : q.1 * q.1 + q.1 * r.1 + r.1 * r.1 + 1 = l * (q.2 + r.2) := l2
        refine ⟨Cx.ext ?_ ?_, Cx.ext ?_ ?_⟩
        · rw [Cx.sub_x, Cx.mul_x, Cx.sub_x, Cx.sub_y]; show (0 : Fin p) - 0 = 0 * ((0 - q.1) - (0 - r.1)) - (0 - l) * (0 - 0); grind
        · rw [Cx.sub_y, Cx.mul_y, Cx.sub_x, Cx.sub_y]; show q.2 - r.2 = 0 * (0 - 0) + (0 - l) * ((0 - q.1) - (0 - r.1)); rw [l1]; grind
        · show (Cx.re (0 - q.1) * Cx.re (0 - q.1) + Cx.re (0 - q.1) * Cx.re (0 - r.1) + Cx.re (0 - r.1) * Cx.re (0 - r.1) + Cx.re 1).x = _
          rw [Cx.re_mul, Cx.re_mul, Cx.re_mul, re_add, re_add, re_add, Cx.mul_x, Cx.add_x, Cx.add_y]
          show (0 - q.1) * (0 - q.1) + (0 - q.1) * (0 - r.1) + (0 - r.1) * (0 - r.1) + 1 = 0 * (0 + 0) - (0 - l) * (q.2 + r.2)
          grind
        · show (Cx.re (0 - q.1) * Cx.re (0 - q.1) + Cx.re (0 - q.1) * Cx.re (0 - r.1) + Cx.re (0 - r.1) * Cx.re (0 - r.1) + Cx.re 1).y = _
          rw [Cx.re_mul, Cx.re_mul, Cx.re_mul, re_add, re_add, re_add, Cx.mul_y, Cx.add_x, Cx.add_y]
          show (0 : Fin p) = 0 * (q.2 + r.2) + (0 - l) * (0 + 0)
          grind
      rw [show trn (some q) = some (Cx.re (0 - q.1), ⟨0, q.2⟩) from rfl, show trn (some r) = some (Cx.re (0 - r.1), ⟨0, r.2⟩) from rfl, (ecK h).add_sl (trn_on h hP) (trn_on h hQ) hno hs]
      show some (Cx.re (0 - (l * l - q.1 - r.1)), (⟨0, l * (q.1 - (l * l - q.1 - r.1)) - q.2⟩ : Cx (Fin p))) = some ((⟨0, 0 - l⟩ : Cx (Fin p)) * ⟨0, 0 - l⟩ - Cx.re (0 - q.1) - Cx.re (0 - r.1), (⟨0, 0 - l⟩ : Cx (Fin p)) * (Cx.re (0 - q.1) - ((⟨0, 0 - l⟩ : Cx (Fin p)) * ⟨0, 0 - l⟩ - Cx.re (0 - q.1) - Cx.re (0 - r.1))) - ⟨0, q.2⟩)
      have e2 : (⟨0, 0 - l⟩ : Cx (Fin p)) * ⟨0, 0 - l⟩ = Cx.re (0 - l * l) := Cx.ext (by rw [Cx.mul_x]; show 0 * 0 - (0 - l) * (0 - l) = 0 - l * l; grind) (by rw [Cx.mul_y]; show 0 * (0 - l) + (0 - l) * 0 = 0; grind)
      rw [e2, re_sub, re_sub, re_sub, Option.some.injEq, Prod.mk.injEq]
      refine ⟨congrArg Cx.re (by grind), Cx.ext ?_ ?_⟩
      · rw [Cx.sub_x, Cx.mul_x]; show (0 : Fin p) = 0 * ((0 - q.1) - (0 - l * l - (0 - q.1) - (0 - r.1))) - (0 - l) * 0 - 0; grind
      · rw [Cx.sub_y, Cx.mul_y]; show l * (q.1 - (l * l - q.1 - r.1)) - q.2 = 0 * 0 + (0 - l) * ((0 - q.1) - (0 - l * l - (0 - q.1) - (0 - r.1))) - q.2; grind
theorem emb_neg (P : Option (Fin p × Fin p)) : emb (EC.neg P) = EC.neg (emb P) := by
  match P with
  | none => rfl
  | some (x, y) => exact congrArg some (Prod.ext rfl (Cx.ext rfl (by show (0 : Fin p) = 0 - 0; grind)))
theorem trn_neg (P : Option (Fin p × Fin p)) : trn (EC.neg P) = EC.neg (trn P) := by
  match P with
  | none => rfl
  | some (x, y) => exact congrArg some (Prod.ext rfl (Cx.ext (by show (0 : Fin p) = 0 - 0; grind) rfl))
theorem emb_mul (h : Gp p) {P : Option (Fin p × Fin p)} (hP : (ecZ h).on P) : ∀ n, emb ((ecZ h).mul n P) = (ecK h).mul n (emb P)
  | 0 => rfl
  | n + 1 => by
    show emb ((ecZ h).add ((ecZ h).mul n P) P) = (ecK h).add ((ecK h).mul n (emb P)) (emb P)
    rw [emb_add h ((ecZ h).on_mul hP n) hP, emb_mul h hP n]
end
end Go.Rq

/- The little curves' pairing is bilinear, and the group is that of one point: plain. -/
namespace Go.Rq
open Go
set_option linter.unusedVariables false
set_option linter.unusedSectionVars false
set_option linter.unusedSimpArgs false

namespace EC
variable {F : Type} [i : CR F] (C : EC F) [DecidableEq F]
theorem cancelL {p q s : Option (F × F)} (hp : C.on p) (hq : C.on q) (hs : C.on s) (e : C.add p q = C.add p s) : q = s := by
  have h1 := C.back hp hq
  rw [e, C.back hp hs] at h1
  exact h1.symm
theorem mul_mod {p : Option (F × F)} (hp : C.on p) {r : Nat} (h : C.mul r p = none) (n : Nat) : C.mul n p = C.mul (n % r) p := by
  have e := Nat.div_add_mod n r
  have h1 : C.mul (r * (n / r)) p = none := by rw [← C.mul_mul hp, h, C.mul_zero]
  rw [← e, C.mul_add hp, h1, C.zero_add, e]
end EC

theorem nodup_le {α : Type} [DecidableEq α] : ∀ {A B : List α}, A.Nodup → (∀ a ∈ A, a ∈ B) → A.length ≤ B.length
  | [], _, _, _ => Nat.zero_le _
  | a :: A, B, hn, hs => by
    have ha : a ∈ B := hs a (List.mem_cons_self ..)
    obtain ⟨h1, h2⟩ := List.nodup_cons.1 hn
    have ih := nodup_le (B := B.erase a) h2 fun b hb => (List.mem_erase_of_ne (fun (e : b = a) => h1 (by rw [← e]; exact hb))).2 (hs b (List.mem_cons_of_mem _ hb))
    rw [List.length_erase_of_mem ha] at ih
    have := List.length_pos_of_mem ha
    simp only [List.length_cons]; omega
theorem nodup_map {β : Type} (g : Nat → β) : ∀ {l : List Nat}, l.Nodup → (∀ a ∈ l, ∀ b ∈ l, g a = g b → a = b) → (l.map g).Nodup
  | [], _, _ => List.nodup_nil
  | a :: r, h, hi => by
    obtain ⟨h3, h4⟩ := List.nodup_cons.1 h
    refine List.nodup_cons.2 ⟨fun hm => ?_, nodup_map g h4 fun x hx y hy => hi x (List.mem_cons_of_mem _ hx) y (List.mem_cons_of_mem _ hy)⟩
    obtain ⟨s, hs, e⟩ := List.mem_map.1 hm
    have := hi s (List.mem_cons_of_mem _ hs) a (List.mem_cons_self ..) e
    exact h3 (this ▸ hs)
/-- A number below a prime has one that makes 1 with it. -/
theorem inv_mod {r d : Nat} (hr : Pr r) (h0 : d ≠ 0) (hd : d < r) : ∃ k, d * d ^ (r - 2) = 1 + r * k := by
  have h1 := hr.1
  have e := fermat_nat hr (a := d) (by rw [Nat.mod_eq_of_lt hd]; exact h0)
  rw [show r - 1 = r - 2 + 1 by omega, Nat.pow_succ, Nat.mul_comm] at e
  have := Nat.div_add_mod (d * d ^ (r - 2)) r
  rw [e] at this
  exact ⟨d * d ^ (r - 2) / r, by omega⟩

theorem mem_allP {p : Nat} [NeZero p] (h : Gp p) {q : Option (Fin p × Fin p)} (hq : (ecZ h).on q) : q ∈ allP p := by
  cases q with
  | none => exact List.mem_cons_self ..
  | some q =>
    obtain ⟨x, y⟩ := q
    obtain ⟨t, ht⟩ := phi_all h hq
    refine List.mem_cons_of_mem _ (List.mem_map.2 ⟨t.val, List.mem_range.2 t.isLt, ?_⟩)
    rw [ofNat_val, ht]
section
variable {p : Nat} [NeZero p] (h : Gp p) {r c : Nat}
/-- What a suite's r and c are. -/
structure RcOk (p r c : Nat) : Prop where
  rc : c * r = p + 1
  ev : c % 2 = 0
  rp : Pr r
  od : r % 2 = 1
  big : p + 1 < r * r
variable (k : RcOk p r c)
/-- The group. -/
def Grp (r : Nat) (P : Option (Fin p × Fin p)) : Prop := (ecZ h).on P ∧ (ecZ h).mul r P = none
theorem Grp.add {h : Gp p} {r : Nat} {P Q : Option (Fin p × Fin p)} (hP : Grp h r P) (hQ : Grp h r Q) : Grp h r ((ecZ h).add P Q) :=
  ⟨(ecZ h).on_add hP.1 hQ.1, by rw [(ecZ h).mul_dist hP.1 hQ.1, hP.2, hQ.2]; rfl⟩
theorem Grp.neg {h : Gp p} {r : Nat} {P : Option (Fin p × Fin p)} (hP : Grp h r P) : Grp h r (EC.neg P) := by
  refine ⟨(ecZ h).on_neg hP.1, ?_⟩
  have e := (ecZ h).add_neg P
  have e2 := congrArg ((ecZ h).mul r) e
  rw [(ecZ h).mul_dist hP.1 ((ecZ h).on_neg hP.1), hP.2, (ecZ h).mul_zero] at e2
  exact e2
theorem Grp.mul {h : Gp p} {r : Nat} {P : Option (Fin p × Fin p)} (hP : Grp h r P) (n : Nat) : Grp h r ((ecZ h).mul n P) :=
  ⟨(ecZ h).on_mul hP.1 n, by rw [(ecZ h).mul_mul hP.1, Nat.mul_comm, ← (ecZ h).mul_mul hP.1, hP.2, (ecZ h).mul_zero]⟩
include k in
/-- A multiple that is no multiple of r is the zero at the zero alone. -/
theorem Grp.unit {P : Option (Fin p × Fin p)} (hP : Grp h r P) {d : Nat} (h0 : d ≠ 0) (hd : d < r) (e : (ecZ h).mul d P = none) : P = none := by
  obtain ⟨t, ht⟩ := inv_mod k.rp h0 hd
  have e1 : (ecZ h).mul (d * d ^ (r - 2)) P = none := by rw [← (ecZ h).mul_mul hP.1, e, (ecZ h).mul_zero]
  rw [ht, (ecZ h).mul_add hP.1, (ecZ h).mul_one, ← (ecZ h).mul_mul hP.1, hP.2, (ecZ h).mul_zero, (ecZ h).add_zero] at e1
  exact e1
include k in
/-- The order of a point that is not the zero. -/
theorem Grp.inj {g : Option (Fin p × Fin p)} (hg : Grp h r g) (g0 : g ≠ none) {i j : Nat} (hi : i < r) (hj : j < r) (e : (ecZ h).mul i g = (ecZ h).mul j g) : i = j := by
  have key : ∀ {i j : Nat}, i < j → j < r → (ecZ h).mul i g = (ecZ h).mul j g → False := fun {i j} hij hj e => by
    have e2 : (ecZ h).mul j g = (ecZ h).add ((ecZ h).mul i g) ((ecZ h).mul (j - i) g) := by rw [← (ecZ h).mul_add hg.1]; congr 1; omega
    have e3 : (ecZ h).add ((ecZ h).mul i g) none = (ecZ h).add ((ecZ h).mul i g) ((ecZ h).mul (j - i) g) := by rw [(ecZ h).add_zero, ← e2, e]
    have e4 := (ecZ h).cancelL ((ecZ h).on_mul hg.1 i) (q := none) trivial ((ecZ h).on_mul hg.1 _) e3
    exact g0 (Grp.unit h k hg (by omega) (by omega) e4.symm)
  rcases Nat.lt_trichotomy i j with hl | hl | hl
  · exact (key hl hj e).elim
  · exact hl
  · exact (key hl hi e.symm).elim
include k in
/-- **All points of the group are multiples of one.** -/
theorem Grp.cyc {g P : Option (Fin p × Fin p)} (hg : Grp h r g) (g0 : g ≠ none) (hP : Grp h r P) : ∃ m, m < r ∧ P = (ecZ h).mul m g := by
  refine Classical.byContradiction fun hne => ?_
  have hr := k.rp.1
  have hno : ∀ m, P ≠ (ecZ h).mul m g := fun m e => hne ⟨m % r, Nat.mod_lt _ (by omega), by rw [e]; exact (ecZ h).mul_mod hg.1 hg.2 m⟩
  -- i g + j P, for i, j below r
  let pt : Nat → Option (Fin p × Fin p) := fun n => (ecZ h).add ((ecZ h).mul (n / r) g) ((ecZ h).mul (n % r) P)
  have hon : ∀ n, (ecZ h).on (pt n) := fun n => (ecZ h).on_add ((ecZ h).on_mul hg.1 _) ((ecZ h).on_mul hP.1 _)
  have main : ∀ {i j i' j' : Nat}, i < r → i' < r → j < r → j' < r → (ecZ h).add ((ecZ h).mul i g) ((ecZ h).mul j P) = (ecZ h).add ((ecZ h).mul i' g) ((ecZ h).mul j' P) → j < j' → False := by
    intro i j i' j' hi hi' hj hj' e hlt
    have og := hg.1
    have oP := hP.1
    have a1 := (ecZ h).on_mul og i
    have a2 := (ecZ h).on_mul og i'
    have a3 := (ecZ h).on_mul oP j
    have a4 := (ecZ h).on_mul oP (j' - j)
    have e1 : (ecZ h).mul j' P = (ecZ h).add ((ecZ h).mul j P) ((ecZ h).mul (j' - j) P) := by rw [← (ecZ h).mul_add oP]; congr 1; omega
    rw [e1, (ecZ h).add_comm a1 a3, (ecZ h).add_comm a2 ((ecZ h).on_add a3 a4), (ecZ h).assoc a3 a4 a2] at e
    have e2 := (ecZ h).cancelL a3 a1 ((ecZ h).on_add a4 a2) e
    -- i g = d P + i' g; add (r - i') g
    have a5 := (ecZ h).on_mul og (r - i')
    have e3 : (ecZ h).mul (i + (r - i')) g = (ecZ h).mul (j' - j) P := by
      rw [(ecZ h).mul_add og, e2, (ecZ h).assoc a4 a2 a5, ← (ecZ h).mul_add og, show i' + (r - i') = r by omega, hg.2, (ecZ h).add_zero]
    obtain ⟨t, ht⟩ := inv_mod k.rp (show j' - j ≠ 0 by omega) (show j' - j < r by omega)
    have e4 : (ecZ h).mul ((j' - j) * (j' - j) ^ (r - 2)) P = P := by
      rw [ht, (ecZ h).mul_add oP, (ecZ h).mul_one, ← (ecZ h).mul_mul oP, hP.2, (ecZ h).mul_zero, (ecZ h).add_zero]
    rw [← (ecZ h).mul_mul oP, ← e3, (ecZ h).mul_mul og] at e4
    exact hno _ e4.symm
  have hinj : ∀ a ∈ List.range (r * r), ∀ b ∈ List.range (r * r), pt a = pt b → a = b := by
    intro a ha b hb e
    have la : a / r < r := by rw [Nat.div_lt_iff_lt_mul (by omega)]; exact List.mem_range.1 ha
    have lb : b / r < r := by rw [Nat.div_lt_iff_lt_mul (by omega)]; exact List.mem_range.1 hb
    have ma := Nat.mod_lt a (show 0 < r by omega)
    have mb := Nat.mod_lt b (show 0 < r by omega)
    have hj : a % r = b % r := by
      rcases Nat.lt_trichotomy (a % r) (b % r) with hl | hl | hl
      · exact (main la lb ma mb e hl).elim
      · exact hl
      · exact (main lb la mb ma e.symm hl).elim
    have e' : (ecZ h).add ((ecZ h).mul (a / r) g) ((ecZ h).mul (a % r) P) = (ecZ h).add ((ecZ h).mul (b / r) g) ((ecZ h).mul (b % r) P) := e
    rw [hj] at e'
    have o1 := (ecZ h).on_mul hg.1 (a / r)
    have o2 := (ecZ h).on_mul hg.1 (b / r)
    have o3 := (ecZ h).on_mul hP.1 (b % r)
    rw [(ecZ h).add_comm o1 o3, (ecZ h).add_comm o2 o3] at e'
    have hi := Grp.inj h k hg g0 la lb ((ecZ h).cancelL o3 o1 o2 e')
    have d1 := Nat.div_add_mod a r
    have d2 := Nat.div_add_mod b r
    rw [← d1, ← d2, hi, hj]
  have hle := nodup_le (nodup_map pt List.nodup_range hinj) (B := allP p) fun x hx => by
    obtain ⟨n, _, rfl⟩ := List.mem_map.1 hx
    exact mem_allP h (hon n)
  rw [List.length_map, List.length_range, len_allP] at hle
  have := k.big
  omega

end
/-! the pairing -/
section
variable {p : Nat} [NeZero p] {r c : Nat}
def Nk (p c : Nat) [NeZero p] (z : Cx (Fin p)) : Cx (Fin p) := z ^ (c * (p - 1))
theorem Nk_mul (z w : Cx (Fin p)) : Nk p c (z * w) = Nk p c z * Nk p c w := mul_pow' z w _
theorem Nk_pow (h : Gp p) (k : RcOk p r c) {z : Cx (Fin p)} (hz : z ≠ 0) : Nk p c z ^ r = 1 := by
  unfold Nk
  rw [← pow_mul', show c * (p - 1) * r = (p - 1) * (p + 1) by rw [← k.rc, Nat.mul_comm c, Nat.mul_assoc]]
  exact k_order h hz
theorem Nk_re (h : Gp p) {a : Fin p} (ha : a ≠ 0) : Nk p c (Cx.re a) = 1 := by
  unfold Nk
  rw [Cx.re_pow, Nat.mul_comm, pow_mul', f_pow1 h ha, Rg.one_pow]; rfl
/-- A turned point of the group is at no distance 0 from a point. -/
theorem apart (h : Gp p) (k : RcOk p r c) {P Q : Fin p × Fin p} (hP : (ecZ h).on (some P)) (hQ : Grp h r (some Q)) : (0 - Q.1) - P.1 ≠ 0 := by
  intro e
  obtain ⟨x, y⟩ := P
  obtain ⟨u, v⟩ := Q
  have h1 : y * y = x * x * x + 1 * x + 0 := hP
  have h2 : v * v = u * u * u + 1 * u + 0 := hQ.1
  have e1 : x = 0 - u := by simp only at e; grind
  have h3 : y * y + v * v = 0 := by rw [h1, h2, e1]; grind
  have h4 : v = 0 := nrm_zero h h3
  subst h4
  have ho : EC.Opp ((u, 0) : Fin p × Fin p) (u, 0) := ⟨rfl, by show (0 : Fin p) + 0 = 0; grind⟩
  have h5 : (ecZ h).mul 2 (some (u, 0)) = none := by
    show (ecZ h).add ((ecZ h).mul 1 (some (u, 0))) (some (u, 0)) = none
    rw [(ecZ h).mul_one, (ecZ h).add_opp ho]
  have hr := k.rp.1
  have := k.od
  have := Grp.unit h k hQ (d := 2) (by omega) (by omega) h5
  cases this
def sdK (h : Gp p) (k : RcOk p r c) : (ecK h).Sd where
  N := Nk p c
  mulN := Nk_mul
  negN := by
    have e : (0 - 1 : Cx (Fin p)) = Cx.re (0 - 1) := Cx.ext rfl (by show (0 : Fin p) - 0 = 0; grind)
    rw [e]
    refine Nk_re h fun e2 => ?_
    have : (1 : Fin p) = 0 := by grind
    have := congrArg Fin.val this
    rw [fOne h, fZero] at this
    exact absurd this (by decide)
  A := fun X => ∃ P, (ecZ h).on P ∧ X = emb P
  B := fun X => ∃ Q, Grp h r Q ∧ X = trn Q
  Aon := fun ⟨P, hP, e⟩ => e ▸ emb_on h hP
  Bon := fun ⟨Q, hQ, e⟩ => e ▸ trn_on h hQ.1
  Aadd := fun ⟨P, hP, e⟩ ⟨Q, hQ, f⟩ => ⟨(ecZ h).add P Q, (ecZ h).on_add hP hQ, by rw [e, f, emb_add h hP hQ]⟩
  Badd := fun ⟨P, hP, e⟩ ⟨Q, hQ, f⟩ => ⟨(ecZ h).add P Q, hP.add hQ, by rw [e, f, trn_add h hP.1 hQ.1]⟩
  A0 := ⟨none, trivial, rfl⟩
  B0 := ⟨none, ⟨trivial, (ecZ h).mul_zero r⟩, rfl⟩
  An := fun ⟨P, hP, e⟩ => ⟨EC.neg P, (ecZ h).on_neg hP, by rw [e, emb_neg]⟩
  Bn := fun ⟨Q, hQ, e⟩ => ⟨EC.neg Q, hQ.neg, by rw [e, trn_neg]⟩
  nv := fun {a b} ⟨P, hP, e⟩ ⟨Q, hQ, f⟩ => by
    match P, Q with
    | none, _ => cases e
    | some _, none => cases f
    | some P, some Q =>
      cases e
      cases f
      show Nk p c (Cx.re (0 - Q.1) - Cx.re P.1) = 1
      rw [re_sub]
      exact Nk_re h (apart h k hP hQ)
/-- What is told of a unit, to the power r, is 1. -/
theorem L_pow (h : Gp p) (k : RcOk p r c) (P Q X : Option (Cx (Fin p) × Cx (Fin p))) (S : (ecK h).Sd) (hN : S.N = Nk p c) (hL : ∃ t, S.L P Q X * t = 1) : S.L P Q X ^ r = 1 := by
  match P, Q, X with
  | none, _, _ => rw [S.L0, Rg.one_pow]
  | some p, none, _ => rw [S.L1, Rg.one_pow]
  | some p, some q, none => rw [S.L2, Rg.one_pow]
  | some a, some b, some x =>
    by_cases ho : EC.Opp a b
    · rw [S.L_opp ho, Rg.one_pow]
    · have e : S.L (some a) (some b) (some x) = S.N (EC.lnv ((ecK h).slope a b) a x) := by
        show (if EC.Opp a b then 1 else _) = _
        rw [if_neg ho]
      obtain ⟨t, ht⟩ := hL
      rw [e, hN] at ht ⊢
      refine Nk_pow h k fun e0 => ?_
      have hb := h.big
      rw [e0] at ht
      unfold Nk at ht
      have h1 : 0 < c * (p - 1) := Nat.mul_pos (Nat.pos_of_ne_zero fun e => by have := k.rc; rw [e, Nat.zero_mul] at this; omega) (by omega)
      rw [pow_zero_pos h1] at ht
      have : (1 : Cx (Fin p)) = 0 := by grind
      have := congrArg Fin.val (congrArg Cx.x this)
      rw [Cx.one_x, Cx.zero_x, fOne h, fZero] at this
      exact absurd this (by decide)
/-- The number of two points of the group. -/
def eP (h : Gp p) (k : RcOk p r c) (P Q : Option (Fin p × Fin p)) : Cx (Fin p) := (sdK h k).Fn r (emb P) (trn Q)
variable (h : Gp p) (k : RcOk p r c) {P P' Q Q' : Option (Fin p × Fin p)} (hP : Grp h r P) (hP' : Grp h r P') (hQ : Grp h r Q) (hQ' : Grp h r Q')
include hP hP' hQ in
theorem eP_addL : eP h k ((ecZ h).add P P') Q = eP h k P Q * eP h k P' Q := by
  have a1 : (sdK h k).A (emb P) := ⟨P, hP.1, rfl⟩
  have a2 : (sdK h k).A (emb P') := ⟨P', hP'.1, rfl⟩
  have b1 : (sdK h k).B (trn Q) := ⟨Q, hQ, rfl⟩
  have e := (sdK h k).Fn_sum a1 a2 b1 r
  have hl := L_pow h k (emb P) (emb P') (trn Q) (sdK h k) rfl ⟨_, (sdK h k).L_neg a1 a2 b1⟩
  rw [← emb_mul h hP.1, hP.2, ← emb_mul h hP'.1, hP'.2] at e
  have e0 : (sdK h k).L (emb none) (emb none) (trn Q) = 1 := (sdK h k).L0 _ _
  rw [e0, hl, ← emb_add h hP.1 hP'.1] at e
  unfold eP
  rw [Rg.mul_one, Rg.mul_one] at e
  exact e.symm
include hP hQ hQ' in
theorem eP_addR : eP h k P ((ecZ h).add Q Q') = eP h k P Q * eP h k P Q' := by
  have a1 : (sdK h k).A (emb P) := ⟨P, hP.1, rfl⟩
  have b1 : (sdK h k).B (trn Q) := ⟨Q, hQ, rfl⟩
  have b2 : (sdK h k).B (trn Q') := ⟨Q', hQ', rfl⟩
  have e := (sdK h k).Fn_at a1 b1 b2 r
  have hl := L_pow h k (trn Q) (trn Q') (emb P) (sdK h k).swap rfl ⟨_, (sdK h k).swap.L_neg b1 b2 a1⟩
  have en := (sdK h k).Fn_neg (X := trn ((ecZ h).add Q Q')) a1 ⟨_, hQ.add hQ', rfl⟩ r
  rw [← emb_mul h hP.1, hP.2, hl, ← trn_add h hQ.1 hQ'.1] at e
  have e0 : (sdK h k).swap.L (trn Q) (trn Q') (EC.neg (emb none)) = 1 := (sdK h k).swap.L2 _ _
  rw [e0] at e
  unfold eP
  generalize (sdK h k).Fn r (emb P) (EC.neg (trn ((ecZ h).add Q Q'))) = t at *
  grind
theorem eP_0 (Q : Option (Fin p × Fin p)) : eP h k none Q = 1 := by
  have key : ∀ n, (sdK h k).Fn n (emb none) (trn Q) = 1 := by
    intro n
    induction n with
    | zero => rfl
    | succ n ih =>
      show (sdK h k).Fn n (emb none) (trn Q) * (sdK h k).L ((ecK h).mul n none) none (trn Q) = 1
      rw [ih, (sdK h k).L1]; grind
  exact key r
theorem eP_R0 (P : Option (Fin p × Fin p)) : eP h k P none = 1 := by
  have key : ∀ n, (sdK h k).Fn n (emb P) (trn none) = 1 := by
    intro n
    induction n with
    | zero => rfl
    | succ n ih =>
      show (sdK h k).Fn n (emb P) (trn none) * (sdK h k).L ((ecK h).mul n (emb P)) (emb P) none = 1
      rw [ih, (sdK h k).L2]; grind
  exact key r
include hP hQ in
theorem eP_mulL : ∀ m : Nat, eP h k ((ecZ h).mul m P) Q = eP h k P Q ^ m
  | 0 => by rw [Rg.pow_zero]; exact eP_0 h k Q
  | m + 1 => by
    show eP h k ((ecZ h).add ((ecZ h).mul m P) P) Q = _
    rw [eP_addL h k (hP.mul m) hP hQ, eP_mulL m, Rg.pow_succ]
include hP hQ in
theorem eP_mulR : ∀ m : Nat, eP h k P ((ecZ h).mul m Q) = eP h k P Q ^ m
  | 0 => by rw [Rg.pow_zero]; exact eP_R0 h k P
  | m + 1 => by
    show eP h k P ((ecZ h).add ((ecZ h).mul m Q) Q) = _
    rw [eP_addR h k hP (hQ.mul m) hQ, eP_mulR m, Rg.pow_succ]
include hP hQ in
theorem eP_pow : eP h k P Q ^ r = 1 := by
  rw [← eP_mulL h k hP hQ, hP.2]
  exact eP_0 h k Q
include hP hQ in
theorem eP_sym {g : Option (Fin p × Fin p)} (hg : Grp h r g) (g0 : g ≠ none) : eP h k P Q = eP h k Q P := by
  obtain ⟨m, _, rfl⟩ := Grp.cyc h k hg g0 hP
  obtain ⟨n, _, rfl⟩ := Grp.cyc h k hg g0 hQ
  rw [eP_mulL h k hg (hg.mul n), eP_mulR h k hg hg, eP_mulL h k hg (hg.mul m), eP_mulR h k hg hg, ← pow_mul', ← pow_mul', Nat.mul_comm]
include hP hQ in
/-- The number is 1 at the zero alone, if it is not 1 at one point. -/
theorem eP_one {g : Option (Fin p × Fin p)} (hg : Grp h r g) (h1 : eP h k g g ≠ 1) : eP h k P Q = 1 ↔ P = none ∨ Q = none := by
  have g0 : g ≠ none := fun e => h1 (by rw [e]; exact eP_0 h k _)
  constructor
  · intro e
    obtain ⟨m, hm, rfl⟩ := Grp.cyc h k hg g0 hP
    obtain ⟨n, hn, rfl⟩ := Grp.cyc h k hg g0 hQ
    rw [eP_mulL h k hg (hg.mul n), eP_mulR h k hg hg, ← pow_mul'] at e
    have key : ∀ d : Nat, eP h k g g ^ d = 1 → r ∣ d := by
      intro d hd
      refine Classical.byContradiction fun hnd => ?_
      have hr := k.rp.1
      have hpow : ∀ t, eP h k g g ^ (r * t) = 1 := fun t => by rw [pow_mul', eP_pow h k hg hg, Rg.one_pow]
      have hm0 : d % r ≠ 0 := fun e => hnd (Nat.dvd_of_mod_eq_zero e)
      have hd2 : eP h k g g ^ (d % r) = 1 := by
        rw [← Nat.div_add_mod d r, Rg.pow_add, hpow, Rg.one_mul] at hd
        exact hd
      obtain ⟨t, ht⟩ := inv_mod k.rp hm0 (Nat.mod_lt _ (by omega))
      have e2 : eP h k g g ^ (d % r * (d % r) ^ (r - 2)) = 1 := by rw [pow_mul', hd2, Rg.one_pow]
      rw [ht, Rg.pow_add, hpow, Rg.pow_one, Rg.mul_one] at e2
      exact h1 e2
    have hdv := key _ e
    rcases LO.pr_mul k.rp hdv with hd | hd
    · refine .inr ?_
      have := Nat.eq_zero_of_dvd_of_lt hd hn
      rw [this]; rfl
    · refine .inl ?_
      have := Nat.eq_zero_of_dvd_of_lt hd hm
      rw [this]; rfl
  · rintro (e | e)
    · rw [e]; exact eP_0 h k _
    · rw [e]; exact eP_R0 h k _
end
end Go.Rq

/- The number of two points, as the code reckons it, is the pairing's. -/
namespace Go.Proofs.Ytafiafkeigdjhaa
open Go.Rq Go
set_option linter.unusedVariables false
set_option linter.unusedSectionVars false
set_option linter.unusedSimpArgs false

theorem CuOk.rc {s : Int} {p r c gx gy : Nat} (h : CuOk s p r c gx gy) : RcOk p r c := by
  rcases h with ⟨_, rfl, rfl, rfl, _⟩ | ⟨_, rfl, rfl, rfl, _⟩
  · exact ⟨by decide, by decide, trial 255 (by kernel_rfl), by decide, by decide⟩
  · exact ⟨by decide, by decide, lpr2, by decide, by decide⟩
section
variable {p : Nat} [NeZero p]
def toK (f : Nat → Nat) : Cx (Fin p) := ⟨Fin.ofNat p (f 0), Fin.ofNat p (f 1)⟩
theorem on_add' (a b : Nat) : Fin.ofNat p (zAdd p a b) = Fin.ofNat p a + Fin.ofNat p b := Fin.ext (by
  show (a + b) % p % p = (a % p + b % p) % p
  rw [Nat.mod_mod, ← Nat.add_mod])
theorem on_mul' (a b : Nat) : Fin.ofNat p (zMul p a b) = Fin.ofNat p a * Fin.ofNat p b := Fin.ext (by
  show a * b % p % p = (a % p) * (b % p) % p
  rw [Nat.mod_mod, ← Nat.mul_mod])
theorem on_sub' {a b : Nat} (hb : b ≤ p) : Fin.ofNat p (zSub p a b) = Fin.ofNat p a - Fin.ofNat p b := by
  have e : Fin.ofNat p (zSub p a b) + Fin.ofNat p b = Fin.ofNat p a := by
    rw [← on_add']
    refine Fin.ext ?_
    show ((a + (p - b)) % p + b) % p % p = a % p
    rw [Nat.mod_mod, Nat.mod_add_mod, show a + (p - b) + b = a + p by omega, Nat.add_mod_right]
  rw [← e]; grind
theorem toK_mul (h : Gp p) (a b : Nat → Nat) : toK (p := p) (k2 p a b) = toK a * toK b := by
  refine Cx.ext ?_ ?_
  · rw [Cx.mul_x]
    show Fin.ofNat p (zSub p (zMul p (a 0) (b 0)) (zMul p (a 1) (b 1))) = _
    rw [on_sub' (Nat.le_of_lt (zMul_lt h)), on_mul', on_mul']; rfl
  · rw [Cx.mul_y]
    show Fin.ofNat p (zAdd p (zMul p (a 0) (b 1)) (zMul p (a 1) (b 0))) = _
    rw [on_add', on_mul', on_mul']; rfl
theorem toK_one (h : Gp p) : toK (p := p) one2 = 1 := Cx.ext (Fin.ext rfl) (Fin.ext rfl)
theorem toK_pow (h : Gp p) (a : Nat → Nat) : ∀ n, toK (p := p) (pow2 p a n) = toK (p := p) a ^ n := by
  intro n
  induction n using Nat.strongRecOn with
  | ind n ih =>
    by_cases h0 : n = 0
    · subst h0; rw [Rg.pow_zero]; exact toK_one h
    · have e := ih (n / 2) (by omega)
      by_cases hb : n % 2 = 1
      · have : pow2 p a n = k2 p (k2 p (pow2 p a (n / 2)) (pow2 p a (n / 2))) a := powB_odd _ _ _ hb
        rw [this, toK_mul h, toK_mul h, e, ← Rg.pow_add, ← Rg.pow_succ, show n / 2 + n / 2 + 1 = n by omega]
      · have : pow2 p a n = k2 p (pow2 p a (n / 2)) (pow2 p a (n / 2)) := powB_even _ _ _ h0 hb
        rw [this, toK_mul h, e, ← Rg.pow_add, show n / 2 + n / 2 = n by omega]
theorem toK_line {t Q : LP} (m : Nat) (ht : t.y ≤ p) : toK (p := p) (lineF p t m Q) = EC.lnv (Cx.re (Fin.ofNat p m)) (Cx.re (Fin.ofNat p t.x), Cx.re (Fin.ofNat p t.y)) (Cx.re (0 - Fin.ofNat p Q.x), ⟨0, Fin.ofNat p Q.y⟩) := by
  unfold EC.lnv
  refine Cx.ext ?_ ?_
  · rw [Cx.sub_x, Cx.sub_x, Cx.mul_x, Cx.sub_x, Cx.sub_y]
    show Fin.ofNat p (zSub p (zMul p m (zAdd p Q.x t.x)) t.y) = 0 - Fin.ofNat p t.y - (Fin.ofNat p m * (0 - Fin.ofNat p Q.x - Fin.ofNat p t.x) - 0 * (0 - 0))
    rw [on_sub' ht, on_mul', on_add']; grind
  · rw [Cx.sub_y, Cx.sub_y, Cx.mul_y, Cx.sub_x, Cx.sub_y]
    show Fin.ofNat p Q.y = Fin.ofNat p Q.y - 0 - (Fin.ofNat p m * (0 - 0) + 0 * (0 - Fin.ofNat p Q.x - Fin.ofNat p t.x))
    grind
theorem toK_inj {a b c d : Nat} (ha : a < p) (hb : b < p) (hc : c < p) (hd : d < p) (e : toK (p := p) (f2' a b) = toK (f2' c d)) : a = c ∧ b = d := by
  have e1 : a % p = c % p := congrArg Fin.val (congrArg Cx.x e)
  have e2 : b % p = d % p := congrArg Fin.val (congrArg Cx.y e)
  rw [Nat.mod_eq_of_lt ha, Nat.mod_eq_of_lt hc] at e1
  rw [Nat.mod_eq_of_lt hb, Nat.mod_eq_of_lt hd] at e2
  exact ⟨e1, e2⟩
theorem toE_some {P : LP} (hz : P.z = false) : toE (p := p) P = some (Fin.ofNat p P.x, Fin.ofNat p P.y) := by
  unfold toE; rw [hz]; rfl
theorem toE_none {P : LP} (hz : P.z = true) : toE (p := p) P = none := by
  unfold toE; rw [hz]; rfl
/-- The group, as the code tells it. -/
theorem in_grp (h : Gp p) {r : Nat} (hr : r < W) {P : LP} (hi : inN p r P = true) : Grp h r (toE P) := by
  have ho := in_on hi
  refine ⟨on_toE h ho, ?_⟩
  unfold inN at hi
  rw [Bool.and_eq_true, Nat.mod_eq_of_lt hr] at hi
  have e := mulP_eq h ho r
  rw [e] at hi
  cases hm : (ecZ h).mul r (toE P) with
  | none => rfl
  | some q => rw [hm] at hi; cases hi.2
theorem grp_in (h : Gp p) {r : Nat} (hr : r < W) {P : LP} (ho : OnP p P) (hg : Grp h r (toE P)) : inN p r P = true := by
  unfold inN
  rw [Bool.and_eq_true, Nat.mod_eq_of_lt hr, mulP_eq h ho, hg.2]
  exact ⟨ho, rfl⟩
theorem emb_sl (h : Gp p) {q r : Fin p × Fin p} {l : Fin p} (hl : (ecZ h).Sl q r l) : (ecK h).Sl (Cx.re q.1, Cx.re q.2) (Cx.re r.1, Cx.re r.2) (Cx.re l) := by
  refine ⟨?_, ?_⟩
  · show Cx.re q.2 - Cx.re r.2 = Cx.re l * (Cx.re q.1 - Cx.re r.1)
    rw [re_sub, re_sub, Cx.re_mul, hl.1]
  · show Cx.re q.1 * Cx.re q.1 + Cx.re q.1 * Cx.re r.1 + Cx.re r.1 * Cx.re r.1 + Cx.re 1 = Cx.re l * (Cx.re q.2 + Cx.re r.2)
    have := hl.2
    rw [Cx.re_mul, Cx.re_mul, Cx.re_mul, re_add, re_add, re_add, re_add, Cx.re_mul]
    exact congrArg Cx.re this
theorem emb_opp {q r : Fin p × Fin p} (k : EC.Opp (Cx.re q.1, Cx.re q.2) (Cx.re r.1, Cx.re r.2)) : EC.Opp q r := ⟨re_inj k.1, by
  have : Cx.re q.2 + Cx.re r.2 = Cx.re 0 := k.2
  rw [re_add] at this; exact re_inj this⟩
theorem fin_val {n : Nat} (h : n < p) : (Fin.ofNat p n).val = n := Nat.mod_eq_of_lt h
variable {r c : Nat}
/-- What a line tells is the power of what the code multiplies by. -/
theorem line_L (h : Gp p) (k : RcOk p r c) {T U Q : LP} (hT : OnP p T) (hU : OnP p U) (zT : T.z = false) (zU : U.z = false) (zQ : Q.z = false) (hno : (ecZ h).add (toE T) (toE U) ≠ none) :
    (sdK h k).L (emb (toE T)) (emb (toE U)) (trn (toE Q)) = Nk p c (toK (lineF p T (slN p T U) Q)) := by
  have o1 := on_toE h hT
  have o2 := on_toE h hU
  have l1 := hT.lt h
  have l2 := hU.lt h
  rw [toK_line _ (Nat.le_of_lt l1.2)]
  rw [toE_some zT] at o1 hno ⊢
  rw [toE_some zU] at o2 hno ⊢
  rw [toE_some zQ]
  have ho : ¬ EC.Opp (Fin.ofNat p T.x, Fin.ofNat p T.y) (Fin.ofNat p U.x, Fin.ofNat p U.y) := fun e => hno ((ecZ h).add_opp e)
  have hsl := (ecZ h).slope_ok o1 o2 ho
  have e := slN_eq h (Fin.ofNat p T.x) (Fin.ofNat p T.y) (Fin.ofNat p U.x) (Fin.ofNat p U.y)
  rw [fin_val l1.1, fin_val l1.2, fin_val l2.1, fin_val l2.2] at e
  have eT : (⟨T.x, T.y, false⟩ : LP) = T := by rw [← zT]
  have eU : (⟨U.x, U.y, false⟩ : LP) = U := by rw [← zU]
  rw [eT, eU] at e
  rw [e, ofNat_val]
  exact (sdK h k).L_sl (emb_on h o1) (emb_on h o2) (fun e => ho (emb_opp e)) (emb_sl h hsl)
theorem Nk_one : Nk p c 1 = 1 := Rg.one_pow _
variable {P Q : LP}
/-- **The walk of two points.** -/
theorem walk_Fn (h : Gp p) (k : RcOk p r c) (hr : r < W) (hP : inN p r P = true) (hQ : inN p r Q = true) (zP : P.z = false) (zQ : Q.z = false) : ∀ j n, 2 ^ j + n % 2 ^ j ≤ r →
    Nk p c (toK (walkK p P Q j n).f) = (sdK h k).Fn (2 ^ j + n % 2 ^ j) (emb (toE P)) (trn (toE Q)) ∧ (2 ^ j + n % 2 ^ j < r → toE (walkK p P Q j n).t = (ecZ h).mul (2 ^ j + n % 2 ^ j) (toE P))
  | 0, n, hn => by
    rw [Nat.pow_zero, Nat.mod_one]
    refine ⟨?_, fun _ => ((ecZ h).mul_one _).symm⟩
    show Nk p c (toK one2) = 1 * (sdK h k).L none (emb (toE P)) (trn (toE Q))
    rw [(sdK h k).L0, toK_one h, Nk_one]; grind
  | j + 1, n, hn => by
    have gP := in_grp h hr hP
    have gQ := in_grp h hr hQ
    have oP := in_on hP
    have hP0 : toE (p := p) P ≠ none := by rw [toE_some zP]; exact fun e => by cases e
    obtain ⟨M, hM⟩ : ∃ M, M = 2 ^ j + n / 2 % 2 ^ j := ⟨_, rfl⟩
    have hM2 : 2 ^ (j + 1) + n % 2 ^ (j + 1) = 2 * M + n % 2 := by
      have e1 : n % 2 ^ (j + 1) = 2 * (n / 2 % 2 ^ j) + n % 2 := by
        rw [Nat.pow_succ, Nat.mul_comm (2 ^ j) 2, Nat.mod_mul]; omega
      rw [e1, hM, Nat.pow_succ]; omega
    rw [hM2] at hn ⊢
    have hM1 : 1 ≤ M := by rw [hM]; have := Nat.two_pow_pos j; omega
    have hod := k.od
    have hlt : 2 * M < r := by omega
    obtain ⟨i1, i2⟩ := walk_Fn h k hr hP hQ zP zQ j (n / 2) (by omega)
    rw [← hM] at i1 i2
    have i2 := i2 (by omega)
    have hok := walk_ok h (Q := Q) oP j (n / 2)
    obtain ⟨st, hst⟩ : ∃ s, s = walkK p P Q j (n / 2) := ⟨_, rfl⟩
    rw [← hst] at i1 i2 hok
    obtain ⟨f, t⟩ := st
    have i1 : Nk p c (toK f) = (sdK h k).Fn M (emb (toE P)) (trn (toE Q)) := i1
    have i2 : toE t = (ecZ h).mul M (toE P) := i2
    have ht : OnP p t := hok.2
    -- the point's multiple is not the zero, nor its double
    have nz : ∀ d, d ≠ 0 → d < r → (ecZ h).mul d (toE P) ≠ none := fun d h0 hd e => hP0 (Grp.unit h k gP h0 hd e)
    have zt : t.z = false := by
      cases hz : t.z
      · rfl
      · rw [toE_none hz] at i2; exact absurd i2.symm (nz M (by omega) (by omega))
    have a1 : (sdK h k).A (emb (toE P)) := ⟨_, gP.1, rfl⟩
    have b1 : (sdK h k).B (trn (toE Q)) := ⟨_, gQ, rfl⟩
    have dbl : (ecZ h).add (toE t) (toE t) = (ecZ h).mul (2 * M) (toE P) := by rw [i2, ← (ecZ h).mul_add gP.1, show M + M = 2 * M by omega]
    have e2 : toE (sumN p t t) = (ecZ h).mul (2 * M) (toE P) := by rw [sumN_eq h ht ht, toE_ofE, dbl]
    have hT := on_sum h ht ht
    have hL := line_L h k ht ht zt zt zQ (by rw [dbl]; exact nz _ (by omega) hlt)
    have f2 : Nk p c (toK (k2 p (k2 p f f) (lineF p t (slN p t t) Q))) = (sdK h k).Fn (2 * M) (emb (toE P)) (trn (toE Q)) := by
      rw [toK_mul h, toK_mul h, Nk_mul, Nk_mul, i1, ← hL, show 2 * M = M + M by omega, (sdK h k).Fn_add a1 b1, i2, emb_mul h gP.1]
    by_cases hb : n % 2 = 1
    · rw [hb] at hn ⊢
      rw [walk_odd hb, ← hst]
      have edb : dbS p Q ⟨f, t⟩ = ⟨k2 p (k2 p f f) (lineF p t (slN p t t) Q), sumN p t t⟩ := rfl
      have zT : (sumN p t t).z = false := by
        cases hz : (sumN p t t).z
        · rfl
        · rw [toE_none hz] at e2; exact absurd e2.symm (nz (2 * M) (by omega) hlt)
      have lT := hT.lt h
      have lP := oP.lt h
      rcases Nat.lt_or_ge (2 * M + 1) r with hlt1 | hge
      · -- another point: the line is taken
        have e3 : (ecZ h).add (toE (sumN p t t)) (toE P) = (ecZ h).mul (2 * M + 1) (toE P) := by rw [e2]; rfl
        have hx : (sumN p t t).x ≠ P.x := fun ex => by
          have q1 := on_toE h hT
          have q2 := gP.1
          rw [toE_some zT] at q1 e3 e2
          rw [toE_some zP] at q2 e3 e2
          rw [ex] at q1 e3 e2
          have c1 : Fin.ofNat p (sumN p t t).y * Fin.ofNat p (sumN p t t).y = Fin.ofNat p P.x * Fin.ofNat p P.x * Fin.ofNat p P.x + 1 * Fin.ofNat p P.x + 0 := q1
          have c2 : Fin.ofNat p P.y * Fin.ofNat p P.y = Fin.ofNat p P.x * Fin.ofNat p P.x * Fin.ofNat p P.x + 1 * Fin.ofNat p P.x + 0 := q2
          have c3 : (Fin.ofNat p (sumN p t t).y - Fin.ofNat p P.y) * (Fin.ofNat p (sumN p t t).y + Fin.ofNat p P.y) = 0 := by grind
          rcases fDom h c3 with c4 | c4
          · have c5 : Fin.ofNat p (sumN p t t).y = Fin.ofNat p P.y := by grind
            rw [c5, ← toE_some zP] at e2
            have := Grp.inj h k gP hP0 (i := 1) (j := 2 * M) (by omega) hlt (by rw [(ecZ h).mul_one]; exact e2)
            omega
          · have : EC.Opp (Fin.ofNat p P.x, Fin.ofNat p (sumN p t t).y) (Fin.ofNat p P.x, Fin.ofNat p P.y) := ⟨rfl, c4⟩
            rw [(ecZ h).add_opp this, ← toE_some zP] at e3
            exact nz (2 * M + 1) (by omega) hlt1 e3.symm
        have hL2 := line_L h k hT oP zT zP zQ (by rw [e3]; exact nz _ (by omega) hlt1)
        have ead : adS p P Q (dbS p Q ⟨f, t⟩) = ⟨k2 p (k2 p (k2 p f f) (lineF p t (slN p t t) Q)) (lineF p (sumN p t t) (slN p (sumN p t t) P) Q), sumN p (sumN p t t) P⟩ := by
          rw [edb]; unfold adS; rw [beq_f hx]; rfl
        rw [ead]
        refine ⟨?_, fun _ => ?_⟩
        · rw [toK_mul h, Nk_mul, f2, ← hL2, e2, emb_mul h gP.1]; rfl
        · show toE (sumN p (sumN p t t) P) = _
          rw [sumN_eq h hT oP, toE_ofE, e3]
      · -- the last one: the point against it
        have er : 2 * M + 1 = r := by omega
        have e3 : (ecZ h).add (toE (sumN p t t)) (toE P) = none := by
          rw [e2]
          have : (ecZ h).mul (2 * M + 1) (toE P) = none := by rw [er]; exact gP.2
          exact this
        have hx : (sumN p t t).x = P.x := by
          rw [toE_some zT, toE_some zP] at e3
          have q1 := on_toE h hT
          have q2 := gP.1
          rw [toE_some zT] at q1
          rw [toE_some zP] at q2
          have ho := EC.Sd.opp_of_none q1 q2 e3
          have := congrArg Fin.val ho.1
          rw [fin_val lT.1, fin_val lP.1] at this
          exact this
        have ead : adS p P Q (dbS p Q ⟨f, t⟩) = ⟨k2 p (k2 p f f) (lineF p t (slN p t t) Q), sumN p t t⟩ := by
          rw [edb]; unfold adS; rw [beq_t hx]; rfl
        rw [ead]
        refine ⟨?_, fun hlt2 => by omega⟩
        rw [f2]
        show _ = (sdK h k).Fn (2 * M) (emb (toE P)) (trn (toE Q)) * (sdK h k).L ((ecK h).mul (2 * M) (emb (toE P))) (emb (toE P)) (trn (toE Q))
        rw [← emb_mul h gP.1, ← e2]
        have q1 := on_toE h hT
        have q2 := gP.1
        rw [toE_some zT] at q1 e3 ⊢
        rw [toE_some zP] at q2 e3 ⊢
        have ho := EC.Sd.opp_of_none q1 q2 e3
        have ho2 : EC.Opp (Cx.re (Fin.ofNat p (sumN p t t).x), Cx.re (Fin.ofNat p (sumN p t t).y)) (Cx.re (Fin.ofNat p P.x), Cx.re (Fin.ofNat p P.y)) := ⟨congrArg Cx.re ho.1, by show Cx.re _ + Cx.re _ = Cx.re 0; rw [re_add]; exact congrArg Cx.re ho.2⟩
        have : (sdK h k).L (emb (some (Fin.ofNat p (sumN p t t).x, Fin.ofNat p (sumN p t t).y))) (emb (some (Fin.ofNat p P.x, Fin.ofNat p P.y))) (trn (toE Q)) = 1 := (sdK h k).L_opp ho2 _
        rw [this, Rg.mul_one]
    · have hb0 : n % 2 = 0 := by omega
      rw [hb0, Nat.add_zero] at hn ⊢
      rw [walk_even hb, ← hst]
      have edb : dbS p Q ⟨f, t⟩ = ⟨k2 p (k2 p f f) (lineF p t (slN p t t) Q), sumN p t t⟩ := rfl
      rw [edb]
      exact ⟨f2, fun _ => e2⟩
/-- **The code's number is the pairing's.** -/
theorem pairN_eq (h : Gp p) (k : RcOk p r c) (hr : r < W) (hP : inN p r P = true) (hQ : inN p r Q = true) : toK (pairN p r c P Q) = eP h k (toE P) (toE Q) := by
  unfold pairN
  cases zP : P.z
  · cases zQ : Q.z
    · rw [Bool.false_or, cond_false, toK_pow h, Nat.mod_eq_of_lt hr]
      have h1 := k.rp.1
      obtain ⟨b1, b2⟩ := blen_bounds (show r ≠ 0 by omega)
      have hb : 1 ≤ blen r := by rw [blen_half (show r ≠ 0 by omega)]; omega
      have e : 2 ^ (blen r - 1) + r % 2 ^ (blen r - 1) = r := by
        have h2 : r < 2 ^ (blen r - 1) * 2 := by rw [← Nat.pow_succ, show (blen r - 1).succ = blen r by omega]; exact b2
        have h3 : r / 2 ^ (blen r - 1) = 1 := by
          rw [Nat.div_eq_iff (Nat.two_pow_pos _)]; omega
        have := Nat.div_add_mod r (2 ^ (blen r - 1))
        rw [h3, Nat.mul_one] at this
        exact this
      have := (walk_Fn h k hr hP hQ zP zQ (blen r - 1) r (by omega)).1
      rw [e] at this
      exact this
    · rw [Bool.or_true, cond_true, toE_none zQ, eP_R0]; exact toK_one h
  · rw [Bool.true_or, cond_true, toE_none zP, eP_0]; exact toK_one h
end
end Go.Proofs.Ytafiafkeigdjhaa

/- What the law of the little pairing asks. -/
namespace Go.Proofs.Ytafiafkeigdjhaa
open Go.Rq Go
set_option linter.unusedVariables false
set_option linter.unusedSectionVars false
abbrev hL' : LP := ⟨613740293506734924, 666621259561003659, false⟩
theorem hL_in' : inN 1152921504606846223 72057594037927889 hL' = true := by kernel_rfl
theorem hL_p1' : pairN 1152921504606846223 72057594037927889 16 hL' hL' 1 = 152963554084142207 := by kernel_rfl
theorem pairN_lt {p r c : Nat} (h : Gp p) (P Q : LP) : Lt2 p (pairN p r c P Q) := by
  unfold pairN
  cases P.z || Q.z
  · exact pow2_lt h _ _
  · exact one2_lt h
abbrev rd2 (p : Nat) (a : Nat → Nat) : Nat → Nat := f2' (a 0 % W % p) (a 1 % W % p)
theorem CuOk.rw' {s : Int} {p r c gx gy : Nat} (h : CuOk s p r c gx gy) : r < W := by
  rcases h with ⟨_, rfl, rfl, rfl, _⟩ | ⟨_, rfl, rfl, rfl, _⟩ <;> decide
section
variable {p : Nat} [NeZero p]
theorem toK_rd (h : Gp p) {a : Nat → Nat} (ha : Lt2 p a) : toK (p := p) (rd2 p a) = toK a := by
  have hw : p < W := Nat.lt_trans h.lt (by decide)
  refine Cx.ext (Fin.ext ?_) (Fin.ext ?_)
  · show a 0 % W % p % p = a 0 % p
    rw [Nat.mod_mod, Nat.mod_eq_of_lt (Nat.lt_trans ha.1 hw)]
  · show a 1 % W % p % p = a 1 % p
    rw [Nat.mod_mod, Nat.mod_eq_of_lt (Nat.lt_trans ha.2 hw)]
theorem eq2_of {F G : Nat → Nat} (hF : Lt2 p F) (hG : Lt2 p G) (e : toK (p := p) F = toK G) : (eqN W 2 F G && true) = true := by
  rw [Bool.and_true, eqN_iff]
  have e1 : F 0 % p = G 0 % p := congrArg Fin.val (congrArg Cx.x e)
  have e2 : F 1 % p = G 1 % p := congrArg Fin.val (congrArg Cx.y e)
  rw [Nat.mod_eq_of_lt hF.1, Nat.mod_eq_of_lt hG.1] at e1
  rw [Nat.mod_eq_of_lt hF.2, Nat.mod_eq_of_lt hG.2] at e2
  intro i hi
  have : i = 0 ∨ i = 1 := by omega
  rcases this with rfl | rfl
  · rw [e1]
  · rw [e2]
theorem eq2_to (h : Gp p) {F G : Nat → Nat} (hF : Lt2 p F) (hG : Lt2 p G) (e : (eqN W 2 F G && true) = true) : toK (p := p) F = toK G := by
  rw [Bool.and_true, eqN_iff] at e
  have hw : p < W := Nat.lt_trans h.lt (by decide)
  have e1 := e 0 (by omega)
  have e2 := e 1 (by omega)
  rw [Nat.mod_eq_of_lt (Nat.lt_trans hF.1 hw), Nat.mod_eq_of_lt (Nat.lt_trans hG.1 hw)] at e1
  rw [Nat.mod_eq_of_lt (Nat.lt_trans hF.2 hw), Nat.mod_eq_of_lt (Nat.lt_trans hG.2 hw)] at e2
  unfold toK
  rw [e1, e2]
theorem toK_y (f : Nat → Nat) : (toK (p := p) f).y.val = f 1 % p := rfl
theorem gen_ok {s : Int} {r c gx gy : Nat} (hC : CuOk s p r c gx gy) : ∃ g, Grp hC.gp r g ∧ eP hC.gp hC.rc g g ≠ 1 := by
  have h := hC.gp
  have k := hC.rc
  have hr := hC.rw'
  rcases hC with ⟨_, rfl, rfl, rfl, _⟩ | ⟨_, rfl, rfl, rfl, _⟩
  · refine ⟨toE gL, in_grp h hr gL_in, fun e => ?_⟩
    rw [← pairN_eq h k hr gL_in gL_in] at e
    have e3 := congrArg Fin.val (congrArg Cx.y e)
    rw [toK_y, gL_p1, Cx.one_y, fZero] at e3
    exact absurd e3 (by decide)
  · refine ⟨toE hL', in_grp h hr hL_in', fun e => ?_⟩
    rw [← pairN_eq h k hr hL_in' hL_in'] at e
    have e3 := congrArg Fin.val (congrArg Cx.y e)
    rw [toK_y, hL_p1', Cx.one_y, fZero] at e3
    exact absurd e3 (by decide)
variable {s : Int} {r c gx gy : Nat} (hC : CuOk s p r c gx gy) {A B C : LP} (ha : inN p r A = true) (hb : inN p r B = true) (hc : inN p r C = true)
include hC
theorem toE_sum (hA : OnP p A) (hB : OnP p B) : toE (p := p) (sumN p A B) = (ecZ hC.gp).add (toE A) (toE B) := by rw [sumN_eq hC.gp hA hB, toE_ofE]
theorem toE_mul (hA : OnP p A) (n : Nat) : toE (p := p) (mulP p A n) = (ecZ hC.gp).mul n (toE A) := by rw [mulP_eq hC.gp hA, toE_ofE]
include ha in
theorem in_mul (n : Nat) : inN p r (mulP p A n) = true := by
  have g := in_grp hC.gp hC.rw' ha
  refine grp_in hC.gp hC.rw' (on_mulP hC.gp (in_on ha) n) ?_
  rw [toE_mul hC (in_on ha)]; exact g.mul n
include ha hb in
theorem in_sum : inN p r (sumN p A B) = true := by
  refine grp_in hC.gp hC.rw' (on_sum hC.gp (in_on ha) (in_on hb)) ?_
  rw [toE_sum hC (in_on ha) (in_on hb)]; exact (in_grp hC.gp hC.rw' ha).add (in_grp hC.gp hC.rw' hb)
include ha hb hc in
theorem bl_sum : (eqN W 2 (pairN p r c (sumN p A B) C) (k2 p (rd2 p (pairN p r c A C)) (rd2 p (pairN p r c B C))) && true) = true := by
  have h := hC.gp
  refine eq2_of (p := p) (pairN_lt h _ _) (k2_lt h _ _) ?_
  rw [toK_mul h, toK_rd h (pairN_lt h _ _), toK_rd h (pairN_lt h _ _), pairN_eq h hC.rc hC.rw' (in_sum hC ha hb) hc, pairN_eq h hC.rc hC.rw' ha hc, pairN_eq h hC.rc hC.rw' hb hc, toE_sum hC (in_on ha) (in_on hb)]
  exact eP_addL h hC.rc (in_grp h hC.rw' ha) (in_grp h hC.rw' hb) (in_grp h hC.rw' hc)
include ha hc in
theorem bl_sym : (eqN W 2 (pairN p r c C A) (pairN p r c A C) && true) = true := by
  have h := hC.gp
  refine eq2_of (p := p) (pairN_lt h _ _) (pairN_lt h _ _) ?_
  obtain ⟨g, hg, h1⟩ := gen_ok hC
  rw [pairN_eq h hC.rc hC.rw' hc ha, pairN_eq h hC.rc hC.rw' ha hc]
  exact eP_sym h hC.rc (in_grp h hC.rw' hc) (in_grp h hC.rw' ha) hg (fun e => h1 (by rw [e]; exact eP_0 h hC.rc _))
include ha hc in
theorem bl_mul (m n : Nat) : (eqN W 2 (pairN p r c (mulP p A m) (mulP p C n)) (pow2 p (rd2 p (pairN p r c A C)) (m * n)) && true) = true := by
  have h := hC.gp
  refine eq2_of (p := p) (pairN_lt h _ _) (pow2_lt h _ _) ?_
  have gA := in_grp h hC.rw' ha
  have gC := in_grp h hC.rw' hc
  rw [toK_pow h, toK_rd h (pairN_lt h _ _), pairN_eq h hC.rc hC.rw' (in_mul hC ha m) (in_mul hC hc n), pairN_eq h hC.rc hC.rw' ha hc, toE_mul hC (in_on ha), toE_mul hC (in_on hc)]
  rw [eP_mulL h hC.rc gA (gC.mul n), eP_mulR h hC.rc gA gC, ← pow_mul', Nat.mul_comm]
abbrev oneB : Nat → Nat := upd (upd (fun _ => 0) 0 1) 1 0
omit hC in
theorem oneB_lt (h : Gp p) : Lt2 p oneB := one2_lt h
include ha hc in
theorem bl_one : (eqN W 2 (pow2 p (rd2 p (pairN p r c A C)) r) oneB && true) = true := by
  have h := hC.gp
  refine eq2_of (p := p) (pow2_lt h _ _) (oneB_lt h) ?_
  rw [toK_pow h, toK_rd h (pairN_lt h _ _), pairN_eq h hC.rc hC.rw' ha hc, eP_pow h hC.rc (in_grp h hC.rw' ha) (in_grp h hC.rw' hc)]
  exact (toK_one h).symm
include ha hc in
theorem bl_triv : (eqN W 2 (pairN p r c A C) oneB && true) = (A.z || C.z) := by
  have h := hC.gp
  obtain ⟨g, hg, h1⟩ := gen_ok hC
  have gA := in_grp h hC.rw' ha
  have gC := in_grp h hC.rw' hc
  have key := eP_one h hC.rc gA gC hg h1
  rw [Bool.eq_iff_iff, Bool.or_eq_true]
  have hz : ∀ P : LP, toE (p := p) P = none ↔ P.z = true := fun P => by
    cases hz : P.z
    · rw [toE_some hz]; simp
    · rw [toE_none hz]; simp
  rw [← hz A, ← hz C, ← key, ← pairN_eq h hC.rc hC.rw' ha hc]
  constructor
  · intro e
    rw [eq2_to (p := p) h (pairN_lt h _ _) (oneB_lt h) e]
    exact toK_one h
  · intro e
    exact eq2_of (p := p) (pairN_lt h _ _) (oneB_lt h) (by rw [e]; exact (toK_one h).symm)
end
end Go.Proofs.Ytafiafkeigdjhaa
