/- Points of a curve y y = x x x + a x + b over a field: a group. -/
import Derived.Test.YtafiafkeigdjhaaWA
namespace Go.Rq
open Go

/-- A curve over a field: inverses, 2 is not 0, no point is singular. -/
structure EC (F : Type) [CR F] where
  a : F
  b : F
  inv : F → F
  inv_ok : ∀ x : F, x ≠ 0 → x * inv x = 1
  two : (1 + 1 : F) ≠ 0
  ns : ∀ x : F, x * x * x + a * x + b = 0 → x * x + x * x + x * x + a ≠ 0

set_option linter.unusedSectionVars false
set_option linter.unusedSimpArgs false
namespace EC
variable {F : Type} [i : CR F] (C : EC F)

theorem mv {x y z : F} (h : x - y = z) : x = y + z := by grind
theorem mv2 {x y z u : F} (h : x - y = z * u) : y = x - z * u := by grind
theorem mv3 {x y z : F} (h : x + y = z) : y = z - x := by grind
theorem mv4 {m u z : F} : m * (u - z) = -(m * (z - u)) := by grind
theorem mv5 {x y z : F} (h : x - y = -z) : y = x + z := by grind
theorem mv6 {x y z u : F} (h : x = y + z + u) : u = x - y - z := by grind
include C in
theorem cancel {x u v : F} (h : x ≠ 0) (e : x * u = x * v) : u = v := by
  have h1 := C.inv_ok x h
  have h2 : C.inv x * (x * u) = C.inv x * (x * v) := by rw [e]
  grind
include C in
theorem dom {x y : F} (h : x * y = 0) : x = 0 ∨ y = 0 := by
  by_cases hx : x = 0
  · exact .inl hx
  · exact .inr (C.cancel hx (by rw [h]; grind))
theorem sub_ne {x y : F} (h : x ≠ y) : x - y ≠ 0 := fun e => h (by grind)

def on : Option (F × F) → Prop
  | none => True
  | some p => p.2 * p.2 = p.1 * p.1 * p.1 + C.a * p.1 + C.b
def neg : Option (F × F) → Option (F × F)
  | none => none
  | some p => some (p.1, 0 - p.2)
variable [DecidableEq F]
def slope (p q : F × F) : F :=
  if p.1 = q.1 then (p.1 * p.1 + p.1 * p.1 + p.1 * p.1 + C.a) * C.inv (p.2 + p.2) else (q.2 - p.2) * C.inv (q.1 - p.1)
def by' (l : F) (p q : F × F) : F × F := (l * l - p.1 - q.1, l * (p.1 - (l * l - p.1 - q.1)) - p.2)
/-- The line through two points has this slope. -/
def Sl (p q : F × F) (l : F) : Prop := p.2 - q.2 = l * (p.1 - q.1) ∧ p.1 * p.1 + p.1 * q.1 + q.1 * q.1 + C.a = l * (p.2 + q.2)
def Opp (p q : F × F) : Prop := p.1 = q.1 ∧ p.2 + q.2 = 0
instance [DecidableEq F] (p q : F × F) : Decidable (Opp p q) := by unfold Opp; infer_instance
def add : Option (F × F) → Option (F × F) → Option (F × F)
  | none, q => q
  | some p, none => some p
  | some p, some q => if Opp p q then none else some (by' (C.slope p q) p q)


theorem Sl.symm {p q : F × F} {l : F} (h : C.Sl p q l) : C.Sl q p l := by
  obtain ⟨h1, h2⟩ := h
  exact ⟨by grind, by grind⟩
theorem slope_ok {p q : F × F} (hp : C.on (some p)) (hq : C.on (some q)) (h : ¬ Opp p q) : C.Sl p q (C.slope p q) := by
  obtain ⟨x, y⟩ := p
  obtain ⟨u, v⟩ := q
  simp only [on, Sl, slope, Opp] at *
  by_cases hx : x = u
  · subst hx
    rw [if_pos rfl]
    have h0 : y + v ≠ 0 := fun e => h ⟨rfl, e⟩
    have h1 : (y + v) * (y - v) = 0 := by grind
    rcases C.dom h1 with h2 | h2
    · exact absurd h2 h0
    · have : y = v := by grind
      subst this
      have := C.inv_ok _ h0
      constructor <;> grind
  · rw [if_neg hx]
    have h0 : u - x ≠ 0 := sub_ne (Ne.symm hx)
    have h1 := C.inv_ok _ h0
    have h2 : y - v = (v - y) * C.inv (u - x) * (x - u) := by grind
    refine ⟨h2, C.cancel h0 ?_⟩
    generalize C.inv (u - x) = w at *
    grind
theorem sl_unique {p q : F × F} {l m : F} (h : ¬ Opp p q) (h1 : C.Sl p q l) (h2 : C.Sl p q m) : l = m := by
  obtain ⟨a1, a2⟩ := h1
  obtain ⟨b1, b2⟩ := h2
  by_cases e : l - m = 0
  · grind
  · refine absurd ⟨?_, ?_⟩ h
    · have : (l - m) * (p.1 - q.1) = (l - m) * 0 := by grind
      have := C.cancel e this
      grind
    · have : (l - m) * (p.2 + q.2) = (l - m) * 0 := by grind
      exact C.cancel e this
theorem add_sl {p q : F × F} {l : F} (hp : C.on (some p)) (hq : C.on (some q)) (h : ¬ Opp p q) (hl : C.Sl p q l) : C.add (some p) (some q) = some (by' l p q) := by
  have := C.sl_unique h (C.slope_ok hp hq h) hl
  show (if Opp p q then none else some (by' (C.slope p q) p q)) = _
  rw [if_neg h, this]
theorem add_opp {p q : F × F} (h : Opp p q) : C.add (some p) (some q) = none := by
  show (if Opp p q then none else some (by' (C.slope p q) p q)) = _
  rw [if_pos h]
theorem add_cases {p q : F × F} (hp : C.on (some p)) (hq : C.on (some q)) : (Opp p q ∧ C.add (some p) (some q) = none) ∨ (¬ Opp p q ∧ ∃ l, C.Sl p q l ∧ C.add (some p) (some q) = some (by' l p q)) := by
  by_cases h : Opp p q
  · exact .inl ⟨h, C.add_opp h⟩
  · exact .inr ⟨h, _, C.slope_ok hp hq h, C.add_sl hp hq h (C.slope_ok hp hq h)⟩
omit [DecidableEq F] in
theorem on_by {p q : F × F} {l : F} (hp : C.on (some p)) (h : C.Sl p q l) : C.on (some (by' l p q)) := by
  obtain ⟨x, y⟩ := p
  obtain ⟨u, v⟩ := q
  simp only [on, Sl, by'] at *
  obtain ⟨h1, h2⟩ := h
  have e1 : v = y - l * (x - u) := mv2 h1
  have e2 : C.a = l * (y + v) - (x * x + x * u + u * u) := mv3 h2
  have e3 : C.b = y * y - x * x * x - C.a * x := mv6 hp
  rw [e3, e2, e1]
  clear e1 e2 e3 h1 h2 hp
  grind
theorem on_add {p q : Option (F × F)} (hp : C.on p) (hq : C.on q) : C.on (C.add p q) := by
  match p, q with
  | none, q => exact hq
  | some p, none => exact hp
  | some p, some q =>
    rcases C.add_cases hp hq with ⟨_, e⟩ | ⟨_, l, hl, e⟩
    · rw [e]; trivial
    · rw [e]; exact C.on_by hp hl
omit [DecidableEq F] in
theorem on_neg {p : Option (F × F)} (hp : C.on p) : C.on (neg p) := by
  match p with
  | none => trivial
  | some (x, y) =>
    simp only [on, neg] at *
    grind
omit [DecidableEq F] in
theorem by_symm {p q : F × F} {l : F} (h : C.Sl p q l) : by' l p q = by' l q p := by
  obtain ⟨x, y⟩ := p
  obtain ⟨u, v⟩ := q
  simp only [Sl, by'] at *
  obtain ⟨h1, h2⟩ := h
  rw [Prod.mk.injEq]
  constructor <;> grind
omit [DecidableEq F] i in
theorem Opp.symm [CR F] {p q : F × F} (h : Opp p q) : Opp q p := ⟨h.1.symm, by have := h.2; grind⟩
theorem add_comm {p q : Option (F × F)} (hp : C.on p) (hq : C.on q) : C.add p q = C.add q p := by
  match p, q with
  | none, none => rfl
  | none, some q => rfl
  | some p, none => rfl
  | some p, some q =>
    rcases C.add_cases hp hq with ⟨h, e⟩ | ⟨h, l, hl, e⟩
    · rw [e, C.add_opp h.symm]
    · rw [e, C.add_sl hq hp (fun h' => h h'.symm) (hl.symm C), C.by_symm hl]
theorem add_zero (p : Option (F × F)) : C.add p none = p := by cases p <;> rfl
theorem zero_add (p : Option (F × F)) : C.add none p = p := rfl
theorem add_neg (p : Option (F × F)) : C.add p (neg p) = none := by
  match p with
  | none => rfl
  | some p => exact C.add_opp ⟨rfl, by show p.2 + (0 - p.2) = 0; grind⟩
omit [DecidableEq F] in
theorem neg_neg (p : Option (F × F)) : neg (neg p) = p := by
  match p with
  | none => rfl
  | some (x, y) => simp only [neg]; rw [show (0 - (0 - y) : F) = y by grind]
theorem neg_add {p q : Option (F × F)} (hp : C.on p) (hq : C.on q) : neg (C.add p q) = C.add (neg p) (neg q) := by
  match p, q with
  | none, q => rfl
  | some p, none => rfl
  | some p, some q =>
    have hp' : C.on (some (p.1, 0 - p.2)) := C.on_neg hp
    have hq' : C.on (some (q.1, 0 - q.2)) := C.on_neg hq
    show neg (C.add (some p) (some q)) = C.add (some (p.1, 0 - p.2)) (some (q.1, 0 - q.2))
    rcases C.add_cases hp hq with ⟨h, e⟩ | ⟨h, l, hl, e⟩
    · rw [e]
      have ho : Opp (p.1, 0 - p.2) (q.1, 0 - q.2) := ⟨h.1, by have := h.2; show (0 - p.2) + (0 - q.2) = 0; grind⟩
      exact (C.add_opp ho).symm
    · rw [e, C.add_sl (l := 0 - l) hp' hq' (fun h' => h ⟨h'.1, by have : (0 - p.2) + (0 - q.2) = 0 := h'.2; grind⟩) ⟨by have := hl.1; show (0 - p.2) - (0 - q.2) = _; grind, by have := hl.2; show _ = (0 - l) * ((0 - p.2) + (0 - q.2)); grind⟩]
      show some (_, _) = some (_, _)
      simp only [by']
      rw [Option.some.injEq, Prod.mk.injEq]
      constructor <;> grind
/-- Back again. -/
theorem back {p q : Option (F × F)} (hp : C.on p) (hq : C.on q) : C.add (neg p) (C.add p q) = q := by
  match p, q with
  | none, q => rfl
  | some p, none =>
    have h := C.add_neg (neg (some p))
    rw [neg_neg] at h
    exact h
  | some (x, y), some (u, v) =>
    have hp' : C.on (some (x, 0 - y)) := C.on_neg hp
    rcases C.add_cases hp hq with ⟨h, e⟩ | ⟨h, l, hl, e⟩
    · rw [e, C.add_zero]
      obtain ⟨h1, h2⟩ := h
      simp only [neg, Opp] at *
      rw [Option.some.injEq, Prod.mk.injEq]
      exact ⟨h1, by grind⟩
    · rw [e]
      have ha := C.on_by hp hl
      obtain ⟨h1, h2⟩ := hl
      have e1 : v = y - l * (x - u) := mv2 h1
      have e2 : C.a = l * (y + v) - (x * x + x * u + u * u) := mv3 h2
      have hs : C.Sl (x, 0 - y) (by' l (x, y) (u, v)) (0 - l) := by
        refine ⟨?_, ?_⟩
        · simp only [by']; clear e1 e2 h1 h2 ha hp' hp hq; grind
        · simp only [by']; rw [e2, e1]; clear e1 e2 h1 h2 ha hp' hp hq; grind
      have e4 : by' (0 - l) (x, 0 - y) (by' l (x, y) (u, v)) = (u, v) := by
        simp only [by']
        rw [Prod.mk.injEq]
        exact ⟨by clear e1 e2 h1 h2 ha hp' hp hq; grind, by rw [e1]; clear e1 e2 h1 h2 ha hp' hp hq; grind⟩
      by_cases ho : Opp (x, 0 - y) (by' l (x, y) (u, v))
      · exfalso
        obtain ⟨o1, o2⟩ := ho
        simp only [by'] at o1 o2
        have y0 : (1 + 1) * y = (1 + 1) * 0 := by rw [← o1] at o2; clear e1 e2 h1 h2 ha hp' hp hq; grind
        have y0 := C.cancel C.two y0
        simp only [on] at hp
        refine C.ns x (by rw [← hp, y0]; grind) ?_
        rw [e2, e1, y0]
        have : u = l * l - x - x := by clear e1 e2 h1 h2 ha hp' hp hq; grind
        rw [this]
        grind
      · have h9 := C.add_sl (p := (x, 0 - y)) hp' ha ho hs
        rw [e4] at h9
        exact h9

/-- A slope of the sum and a third point. -/
theorem third {p q s : F × F} {l m k : F} (h1 : C.Sl p q l) (h2 : C.Sl q s m) (hk : k * (l - m) = p.1 - s.1) (hd : l - m ≠ 0) : C.Sl (by' l p q) s (k - l) := by
  obtain ⟨x, y⟩ := p
  obtain ⟨u, v⟩ := q
  obtain ⟨z, w⟩ := s
  obtain ⟨a1, a2⟩ := h1
  obtain ⟨b1, b2⟩ := h2
  simp only at *
  have e1 : y = v + l * (x - u) := mv a1
  have e2 : w = v + m * (z - u) := mv5 (by rw [b1, mv4])
  have e3 : C.a = l * (y + v) - (x * x + x * u + u * u) := mv3 a2
  have e4 : u * u + u * z + z * z + (l * (y + v) - (x * x + x * u + u * u)) = m * (v + w) := by rw [← e3]; exact b2
  have e6 : ∀ t, (l - m) * ((k - l) * t) = (x - z - l * (l - m)) * t := by intro t; rw [← hk]; clear e4 e3 e2 e1 hk a1 a2 b1 b2 hd; grind
  refine ⟨C.cancel hd ?_, C.cancel hd ?_⟩
  · simp only [by']
    rw [e6]
    rw [e1, e2] at e4
    rw [e1, e2]
    clear e6 e3 hk a1 a2 b1 b2 e1 e2 hd
    grind
  · simp only [by']
    rw [e6]
    rw [e3]
    rw [e1, e2] at e4
    rw [e1, e2]
    clear e6 e3 hk a1 a2 b1 b2 e1 e2 hd
    grind
/-- Three points on a line: the last one is the first one, or stands against the sum. -/
theorem onLine {p q s : F × F} {l : F} (h1 : C.Sl p q l) (h2 : C.Sl q s l) : p = s ∨ Opp (by' l p q) s := by
  obtain ⟨x, y⟩ := p
  obtain ⟨u, v⟩ := q
  obtain ⟨z, w⟩ := s
  obtain ⟨a1, a2⟩ := h1
  obtain ⟨b1, b2⟩ := h2
  simp only at *
  have e1 : y = v + l * (x - u) := mv a1
  have e2 : w = v + l * (z - u) := mv5 (by rw [b1, mv4])
  have e3 : C.a = l * (y + v) - (x * x + x * u + u * u) := mv3 a2
  have e4 : u * u + u * z + z * z + (l * (y + v) - (x * x + x * u + u * u)) = l * (v + w) := by rw [← e3]; exact b2
  rw [e1, e2] at e4
  have e5 : (x - z) * (l * l - x - u - z) = 0 := by clear e1 e2 e3 a1 a2 b1 b2; grind
  rcases C.dom e5 with h | h
  · refine .inl ?_
    have hx : x = z := by clear e1 e2 e3 e4 e5 a1 a2 b1 b2; grind
    rw [Prod.mk.injEq]
    exact ⟨hx, by rw [e1, e2, hx]⟩
  · refine .inr ⟨?_, ?_⟩
    · simp only [by']; clear e1 e2 e3 e4 e5 a1 a2 b1 b2; grind
    · simp only [by']
      have hx : l * l - x - u = z := by clear e1 e2 e3 e4 e5 a1 a2 b1 b2; grind
      rw [hx, e1, e2]
      clear e1 e2 e3 e4 e5 a1 a2 b1 b2 h hx; grind
theorem assoc_gen {p q s : F × F} {l m : F} (hp : C.on (some p)) (hq : C.on (some q)) (hs : C.on (some s)) (h1 : C.Sl p q l) (h2 : C.Sl q s m)
    (n3 : ¬ Opp (by' l p q) s) (n4 : ¬ Opp p (by' m q s)) : C.add (some (by' l p q)) (some s) = C.add (some p) (some (by' m q s)) := by
  have ha := C.on_by hp h1
  have hb := C.on_by hq h2
  by_cases hd : l - m = 0
  · have hlm : l = m := by grind
    subst hlm
    rcases C.onLine h1 h2 with e | e
    · subst e
      rw [C.add_comm ha hs, C.by_symm h1]
    · exact absurd e n3
  · have hk : ∃ k, k * (l - m) = p.1 - s.1 := ⟨(p.1 - s.1) * C.inv (l - m), by have := C.inv_ok _ hd; generalize C.inv (l - m) = t at *; generalize l - m = d at *; grind⟩
    obtain ⟨k, hk⟩ := hk
    have t1 := C.third h1 h2 hk hd
    have t2 := C.third (k := k) (h2.symm C) (h1.symm C) (by clear n3 n4 ha hb hp hq hs h1 h2 t1; grind) (by clear n3 n4 ha hb hp hq hs h1 h2 t1; intro e; exact hd (by grind))
    rw [← C.by_symm h2] at t2
    rw [C.add_sl ha hs n3 t1, C.add_sl hp hb n4 (t2.symm C), C.by_symm t1]
    obtain ⟨x, y⟩ := p
    obtain ⟨u, v⟩ := q
    obtain ⟨z, w⟩ := s
    have e1 := mv h1.1
    have e2 : w = v + m * (z - u) := mv5 (by have := h2.1; simp only at this; rw [this, mv4])
    simp only at e1 hk
    simp only [by']
    clear n3 n4 ha hb hp hq hs h1 h2 t1 t2 hd
    have e3 : x = z + k * (l - m) := by clear e1 e2; grind
    rw [Option.some.injEq, Prod.mk.injEq, e1, e2, e3]
    clear e1 e2 e3 hk
    constructor <;> grind
/-- Sums may be put into brackets otherwise. -/
theorem assoc {p q s : Option (F × F)} (hp : C.on p) (hq : C.on q) (hs : C.on s) : C.add (C.add p q) s = C.add p (C.add q s) := by
  match p, q, s with
  | none, q, s => rfl
  | some p, none, s => rfl
  | some p, some q, none => rw [C.add_zero, C.add_zero]
  | some p, some q, some s =>
    rcases C.add_cases hp hq with ⟨h1, e1⟩ | ⟨h1, l, hl, e1⟩
    · -- p against q
      have hpq : neg (some q) = some p := by
        obtain ⟨x, y⟩ := p
        obtain ⟨u, v⟩ := q
        obtain ⟨o1, o2⟩ := h1
        simp only at o1 o2
        show some (u, 0 - v) = _
        rw [o1, Option.some.injEq, Prod.mk.injEq]
        exact ⟨rfl, by clear hp hq hs e1 o1; grind⟩
      rw [e1, ← hpq, C.back hq hs, C.zero_add]
    · rcases C.add_cases hq hs with ⟨h2, e2⟩ | ⟨h2, m, hm, e2⟩
      · have hqs : neg (some q) = some s := by
          obtain ⟨x, y⟩ := q
          obtain ⟨u, v⟩ := s
          obtain ⟨o1, o2⟩ := h2
          simp only at o1 o2
          show some (x, 0 - y) = _
          rw [o1, Option.some.injEq, Prod.mk.injEq]
          exact ⟨rfl, by clear hp hq hs e1 e2 o1 hl h1; grind⟩
        rw [e2, C.add_zero, C.add_comm hp hq, ← hqs, C.add_comm (C.on_add hq hp) (C.on_neg hq), C.back hq hp]
      · have ha := C.on_by hp hl
        have hb := C.on_by hq hm
        by_cases h3 : Opp (by' l p q) s
        · -- s against the sum
          have hn : neg (C.add (some p) (some q)) = some s := by
            rw [e1]
            obtain ⟨u, v⟩ := s
            obtain ⟨o1, o2⟩ := h3
            simp only at o1 o2
            show some (_, _) = _
            rw [← o1, Option.some.injEq, Prod.mk.injEq]
            exact ⟨rfl, by generalize (by' l p q).2 = t at *; clear hp hq hs e1 e2 o1 hl h1 ha hb hm h2; grind⟩
          have hpq := C.on_add hp hq
          rw [← hn, C.add_neg, C.neg_add hp hq, C.add_comm (C.on_neg hp) (C.on_neg hq)]
          have := C.back (C.on_neg hq) (C.on_neg hp)
          rw [neg_neg] at this
          rw [this, C.add_neg]
        · by_cases h4 : Opp p (by' m q s)
          · have hn : neg (C.add (some q) (some s)) = some p := by
              rw [e2]
              obtain ⟨u, v⟩ := p
              obtain ⟨o1, o2⟩ := h4
              simp only at o1 o2
              show some (_, _) = _
              rw [o1, Option.some.injEq, Prod.mk.injEq]
              exact ⟨rfl, by generalize (by' m q s).2 = t at *; clear hp hq hs e1 e2 o1 hl h1 ha hb hm h2 h3; grind⟩
            have hqs := C.on_add hq hs
            rw [← hn, C.add_comm (C.on_neg hqs) hqs, C.add_neg, C.neg_add hq hs, C.add_comm (C.on_neg hq) (C.on_neg hs)]
            rw [C.add_comm (C.on_add (C.on_neg hs) (C.on_neg hq)) hq, C.add_comm (C.on_neg hs) (C.on_neg hq)]
            have := C.back (C.on_neg hq) (C.on_neg hs)
            rw [neg_neg] at this
            rw [this, C.add_comm (C.on_neg hs) hs, C.add_neg]
          · rw [e1, e2]
            exact C.assoc_gen hp hq hs hl hm h3 h4

/-! multiples -/
def mul : Nat → Option (F × F) → Option (F × F)
  | 0, _ => none
  | n + 1, p => C.add (mul n p) p
theorem on_mul {p : Option (F × F)} (hp : C.on p) : ∀ n, C.on (C.mul n p)
  | 0 => trivial
  | n + 1 => C.on_add (on_mul hp n) hp
theorem mul_one (p : Option (F × F)) : C.mul 1 p = p := by cases p <;> rfl
theorem mul_add {p : Option (F × F)} (hp : C.on p) (m : Nat) : ∀ n, C.mul (m + n) p = C.add (C.mul m p) (C.mul n p)
  | 0 => (C.add_zero _).symm
  | n + 1 => by
    show C.add (C.mul (m + n) p) p = C.add _ (C.add (C.mul n p) p)
    rw [mul_add hp m n, C.assoc (C.on_mul hp m) (C.on_mul hp n) hp]
theorem mul_mul {p : Option (F × F)} (hp : C.on p) (m : Nat) : ∀ n, C.mul n (C.mul m p) = C.mul (m * n) p
  | 0 => rfl
  | n + 1 => by
    show C.add (C.mul n (C.mul m p)) (C.mul m p) = C.mul (m * n + m) p
    rw [C.mul_add hp, mul_mul hp m n]
theorem mul_zero : ∀ n, C.mul n none = none
  | 0 => rfl
  | n + 1 => by show C.add (C.mul n none) none = none; rw [mul_zero n]; rfl
theorem mul_dist {p q : Option (F × F)} (hp : C.on p) (hq : C.on q) : ∀ n, C.mul n (C.add p q) = C.add (C.mul n p) (C.mul n q)
  | 0 => rfl
  | n + 1 => by
    show C.add (C.mul n (C.add p q)) (C.add p q) = C.add (C.add (C.mul n p) p) (C.add (C.mul n q) q)
    have h1 := C.on_mul hp n
    have h2 := C.on_mul hq n
    rw [mul_dist hp hq n, C.assoc h1 h2 (C.on_add hp hq), C.assoc h1 hp (C.on_add h2 hq), ← C.assoc h2 hp hq, C.add_comm h2 hp, C.assoc hp h2 hq]
end EC
end Go.Rq
