/- Data that is flat: numbers, bools, arrays and structs of them; opened and shut. -/
import Derived.Test.YtafiafkeigdjhaaFwO
namespace Go.Rq
open Go
set_option linter.unusedVariables false

inductive CK where
  | i (k : IntKind)
  | b

def CsOk : List CK → List Value → Prop
  | [], [] => True
  | .i k :: r, .int k' n :: vs => k' = k ∧ (Lit.int k n).wf = true ∧ CsOk r vs
  | .b :: r, .bool _ :: vs => CsOk r vs
  | _, _ => False

mutual
inductive FlatTy (P : Program) : TypeId → List CK → Prop
  | int {t : TypeId} {k : IntKind} (hu : P.underlying t = some (.int k)) : FlatTy P t [.i k]
  | bool {t : TypeId} (hu : P.underlying t = some .bool) : FlatTy P t [.b]
  | arr {t e : TypeId} {n : Nat} {sk : List CK} (hu : P.underlying t = some (.array n e)) (he : FlatTy P e sk) (hc : P.cellsOf e = sk.length) (ht : P.cellsOf t = n * sk.length) : FlatTy P t (List.replicate n sk).flatten
  | str {t : TypeId} {fs : Array Field} {sk : List CK} (hu : P.underlying t = some (.struct fs)) (hf : FlatFs P 0 fs.toList sk) (ht : P.cellsOf t = sk.length) : FlatTy P t sk
inductive FlatFs (P : Program) : Nat → List Field → List CK → Prop
  | nil (o : Nat) : FlatFs P o [] []
  | cons {f : Field} {fs : List Field} {o : Nat} {sk r : List CK} (ho : f.offset = o) (h : FlatTy P f.type sk) (hc : P.cellsOf f.type = sk.length) (hr : FlatFs P (o + sk.length) fs r) : FlatFs P o (f :: fs) (sk ++ r)
end

theorem CsOk.append : ∀ {a b : List CK} {xs ys : List Value}, CsOk a xs → CsOk b ys → CsOk (a ++ b) (xs ++ ys)
  | [], _, [], _, _, h => h
  | .i k :: r, b, .int k' n :: vs, ys, h, h2 => ⟨h.1, h.2.1, CsOk.append (a := r) h.2.2 h2⟩
  | .b :: r, b, .bool _ :: vs, ys, h, h2 => CsOk.append (a := r) h h2
  | [], _, _ :: _, _, h, _ => h.elim
  | .i _ :: _, _, [], _, h, _ => h.elim
  | .b :: _, _, [], _, h, _ => h.elim
theorem CsOk.len : ∀ {a : List CK} {xs : List Value}, CsOk a xs → xs.length = a.length
  | [], [], _ => rfl
  | .i k :: r, .int k' n :: vs, h => by simp [CsOk.len (a := r) h.2.2]
  | .b :: r, .bool _ :: vs, h => by simp [CsOk.len (a := r) h]
  | [], _ :: _, h => h.elim
  | .i _ :: _, [], h => h.elim
  | .b :: _, [], h => h.elim
theorem CsOk.slices {sk : List CK} : ∀ {n : Nat} {cs : List Value}, cs.length = n * sk.length → (∀ i, i < n → CsOk sk ((cs.drop (i * sk.length)).take sk.length)) → CsOk (List.replicate n sk).flatten cs
  | 0, cs, hl, _ => by
    have : cs = [] := by simpa using hl
    subst this; trivial
  | n + 1, cs, hl, h => by
    rw [List.replicate_succ, List.flatten_cons, ← List.take_append_drop sk.length cs]
    refine CsOk.append (by simpa using h 0 (by omega)) (CsOk.slices (by rw [List.length_drop, hl, Nat.succ_mul]; omega) fun i hi => ?_)
    have := h (i + 1) (by omega)
    rw [List.drop_drop]
    rw [show sk.length + i * sk.length = (i + 1) * sk.length by rw [Nat.succ_mul]; omega]
    exact this

section
variable {H : Type} {enc : TypeId × Value → H} {P : Program}
theorem mapM_congr' {α β : Type} {f g : α → Option β} : ∀ {l : List α}, (∀ x ∈ l, f x = g x) → l.mapM f = l.mapM g
  | [], _ => rfl
  | x :: r, h => by
    rw [List.mapM_cons, List.mapM_cons, h x (by simp), mapM_congr' fun y hy => h y (by simp [hy])]
mutual
theorem FlatTy.same {t : TypeId} {sk : List CK} (h : FlatTy P t sk) : ∀ (fuel : Nat) (cs : List Value) (w w' : World) (b b' : Nat) (sp sp' : Nat → Bool) (hd hd' : Bool),
    DataW.trod enc P w b sp hd fuel t cs = DataW.trod enc P w' b' sp' hd' fuel t cs := by
  intro fuel cs w w' b b' sp sp' hd hd'
  cases fuel with
  | zero => simp [DataW.trod]
  | succ m =>
    unfold DataW.trod
    cases h with
    | int hu => rw [hu]; cases cs with
      | nil => rfl
      | cons c r => cases r <;> cases c <;> rfl
    | bool hu => rw [hu]; cases cs with
      | nil => rfl
      | cons c r => cases r <;> cases c <;> rfl
    | arr hu he hc ht =>
      rw [hu]
      simp only
      rw [mapM_congr' fun i _ => FlatTy.same he m _ w w' b b' sp sp' hd hd']
    | str hu hf ht =>
      rw [hu]
      simp only
      rw [FlatFs.same hf m cs w w' b b' sp sp' hd hd']
theorem FlatFs.same {o : Nat} {fs : List Field} {sk : List CK} (h : FlatFs P o fs sk) : ∀ (fuel : Nat) (cs : List Value) (w w' : World) (b b' : Nat) (sp sp' : Nat → Bool) (hd hd' : Bool),
    (fs.mapM fun f => DataW.trod enc P w b sp hd fuel f.type ((cs.drop f.offset).take (P.cellsOf f.type))) = fs.mapM fun f => DataW.trod enc P w' b' sp' hd' fuel f.type ((cs.drop f.offset).take (P.cellsOf f.type)) := by
  intro fuel cs w w' b b' sp sp' hd hd'
  cases h with
  | nil => rfl
  | cons ho h hc hr => rw [List.mapM_cons, List.mapM_cons, FlatTy.same h fuel _ w w' b b' sp sp' hd hd', FlatFs.same hr fuel cs w w' b b' sp sp' hd hd']
end

theorem flatMap_nil {α β : Type} {xs : List (α × List β)} (h : ∀ (i : Nat) (x : α × List β), xs[i]? = some x → x.2 = []) : xs.flatMap (·.2) = [] := by
  rw [List.flatMap_eq_nil_iff]
  intro x hx
  obtain ⟨i, hi⟩ := List.getElem?_of_mem hx
  exact h i x hi
def CellsT (H : Type) (enc : TypeId × Value → H) (P : Program) (t : TypeId) (sk : List CK) : Prop :=
  ∀ (fuel : Nat) (cs : List Value) (w : World) (b : Nat) (sp : Nat → Bool) (hd : Bool) (x : DataW H × List MemPlace), DataW.trod enc P w b sp hd fuel t cs = some x → CsOk sk cs ∧ x.2 = []
def CellsF (H : Type) (enc : TypeId × Value → H) (P : Program) (o : Nat) (fs : List Field) (sk : List CK) : Prop :=
  ∀ (fuel : Nat) (cs : List Value) (w : World) (b : Nat) (sp : Nat → Bool) (hd : Bool) (xs : List (DataW H × List MemPlace)),
    cs.length = o + sk.length → xs.length = fs.length → (∀ (i : Nat) (f : Field), fs[i]? = some f → DataW.trod enc P w b sp hd fuel f.type ((cs.drop f.offset).take (P.cellsOf f.type)) = xs[i]?) → CsOk sk (cs.drop o) ∧ xs.flatMap (·.2) = []
theorem cells_arr {t e : TypeId} {n : Nat} {sk : List CK} (hu : P.underlying t = some (.array n e)) (he : CellsT H enc P e sk) (hc : P.cellsOf e = sk.length) (ht : P.cellsOf t = n * sk.length) : CellsT H enc P t (List.replicate n sk).flatten := by
  intro fuel cs w b sp hd x hx
  obtain ⟨xs, m, rfl, rfl, hl, hn, hi⟩ := DataW.trod_array hu hx
  have key : ∀ i, i < xs.length → ∃ y, xs[i]? = some y := fun i hi => ⟨xs[i], by simp [hi]⟩
  refine ⟨CsOk.slices (by rw [hl, ht]) fun i h1 => ?_, flatMap_nil fun i y hy => ?_⟩
  · obtain ⟨y, hy⟩ := key i (by omega)
    have := hi i h1
    rw [hy] at this
    rw [← hc]
    exact (he m _ w b sp hd y this).1
  · have h1 : i < xs.length := (List.getElem?_eq_some_iff.1 hy).1
    have := hi i (by omega)
    rw [hy] at this
    exact (he m _ w b sp hd y this).2
theorem cells_str {t : TypeId} {fs : Array Field} {sk : List CK} (hu : P.underlying t = some (.struct fs)) (hf : CellsF H enc P 0 fs.toList sk) (ht : P.cellsOf t = sk.length) : CellsT H enc P t sk := by
  intro fuel cs w b sp hd x hx
  obtain ⟨xs, m, rfl, rfl, hl, hn, hi⟩ := DataW.trod_struct hu hx
  have := hf m cs w b sp hd xs (by rw [hl, ht]; simp) (by simpa using hn) fun i f hf => hi i f (by simpa using hf)
  exact ⟨by simpa using this.1, this.2⟩
theorem cells_cons {f : Field} {fs : List Field} {o : Nat} {sk r : List CK} (ho : f.offset = o) (h : CellsT H enc P f.type sk) (hc : P.cellsOf f.type = sk.length) (hr : CellsF H enc P (o + sk.length) fs r) : CellsF H enc P o (f :: fs) (sk ++ r) := by
  intro fuel cs w b sp hd xs hl hx hi
  cases xs with
  | nil => simp at hx
  | cons y ys =>
    have h0 := hi 0 f rfl
    simp only [List.getElem?_cons_zero] at h0
    have c0 := h fuel _ w b sp hd y h0
    have cr := hr fuel cs w b sp hd ys (by rw [hl, List.length_append]; omega) (by simpa using hx) fun i f' hf' => by
      have := hi (i + 1) f' (by simpa using hf')
      simpa using this
    refine ⟨?_, by rw [List.flatMap_cons, c0.2, cr.2]; rfl⟩
    rw [← List.take_append_drop sk.length (cs.drop o)]
    refine CsOk.append ?_ ?_
    · rw [← hc, ← ho]; exact c0.1
    · rw [List.drop_drop]; exact cr.1
theorem FlatTy.cells {t : TypeId} {sk : List CK} (h : FlatTy P t sk) : CellsT H enc P t sk := by
  refine FlatTy.rec (motive_1 := fun t sk _ => CellsT H enc P t sk) (motive_2 := fun o fs sk _ => CellsF H enc P o fs sk) ?_ ?_ ?_ ?_ ?_ ?_ h
  · intro t k hu fuel cs w b sp hd x hx
    obtain ⟨n, rfl, rfl, hw⟩ := DataW.trod_int hu hx
    exact ⟨⟨rfl, hw, trivial⟩, rfl⟩
  · intro t hu fuel cs w b sp hd x hx
    obtain ⟨n, rfl, rfl⟩ := DataW.trod_bool hu hx
    exact ⟨trivial, rfl⟩
  · intro t e n sk hu _ hc ht he
    exact cells_arr hu he hc ht
  · intro t fs sk hu _ ht hf
    exact cells_str hu hf ht
  · intro o fuel cs w b sp hd xs hl hx hi
    have : xs = [] := by simpa using hx
    subst this
    rw [List.drop_eq_nil_of_le (by simp at hl; omega)]
    exact ⟨trivial, rfl⟩
  · intro f fs o sk r ho _ hc _ h hr
    exact cells_cons ho h hc hr

/-- Flat data, handed back in whatever world. -/
theorem FlatTy.trod {t : TypeId} {sk : List CK} (h : FlatTy P t sk) {w : World} {b : Nat} {sp : Nat → Bool} {hd : Bool} {v : Value} {d : DataW H} {p : List MemPlace} (hT : DataW.Trod enc P w b sp hd t v d p) :
    CsOk sk v.cells.toList ∧ p = [] ∧ ∀ (w' : World) (b' : Nat) (sp' : Nat → Bool) (hd' : Bool), DataW.Trod enc P w' b' sp' hd' t v d [] := by
  obtain ⟨fuel, hf⟩ := hT
  have hc := h.cells fuel _ w b sp hd _ hf
  have hp : p = [] := hc.2
  subst hp
  exact ⟨hc.1, rfl, fun w' b' sp' hd' => ⟨fuel, by rw [← FlatTy.same h fuel _ w w' b b' sp sp' hd hd']; exact hf⟩⟩
end

/-! off the cells -/
theorem wf_u64 {z : Int} (h : (Lit.int .u64 z).wf = true) : Int.ofNat (z.toNat % M .u64) = z := by
  simp only [Lit.wf, IntKind.min, IntKind.max, IntKind.signed, IntKind.bits, Bool.and_eq_true] at h
  simp only [M, Int.ofNat_eq_natCast]
  simp at h
  omega
theorem CsOk.u64 {r : List CK} : ∀ {n : Nat} {vs : List Value}, CsOk (List.replicate n (.i .u64) ++ r) vs → ∃ (g : Nat → Nat) (vs' : List Value), vs = (Cell.ws .u64 n g).vals (fun _ => 0) ++ vs' ∧ CsOk r vs'
  | 0, vs, h => ⟨fun _ => 0, vs, by simp [Cell.vals], by simpa using h⟩
  | n + 1, vs, h => by
    rw [List.replicate_succ, List.cons_append] at h
    match vs, h with
    | .int k' z :: vs, h =>
      obtain ⟨rfl, hw, hr⟩ := h
      obtain ⟨g, vs', rfl, h'⟩ := CsOk.u64 (n := n) (r := r) hr
      refine ⟨fun j => match j with | 0 => z.toNat | j + 1 => g j, vs', ?_, h'⟩
      simp only [Cell.vals, List.range_succ_eq_map, List.map_cons, List.map_map, List.cons_append, wf_u64 hw]
      rfl
theorem CsOk.bo {r : List CK} {vs : List Value} (h : CsOk (.b :: r) vs) : ∃ (b : Bool) (vs' : List Value), vs = .bool b :: vs' ∧ CsOk r vs' := by
  match vs, h with
  | .bool b :: vs, h => exact ⟨b, vs, rfl, h⟩
theorem CsOk.int {k : IntKind} {r : List CK} {vs : List Value} (h : CsOk (.i k :: r) vs) : ∃ (z : Int) (vs' : List Value), vs = .int k z :: vs' ∧ (Lit.int k z).wf = true ∧ CsOk r vs' := by
  match vs, h with
  | .int k' b :: vs, h => obtain ⟨rfl, hw, hr⟩ := h; exact ⟨b, vs, rfl, hw, hr⟩
theorem CsOk.nil {vs : List Value} (h : CsOk [] vs) : vs = [] := by
  match vs, h with
  | [], _ => rfl
end Go.Rq
