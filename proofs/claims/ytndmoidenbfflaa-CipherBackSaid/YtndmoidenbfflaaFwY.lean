/- Functions that are handed slices to read: one walk over windows, for whatever slice. -/
import Derived.Test.YtndmoidenbfflaaFwR
namespace Go.Rq
open Go

/-! values, k slots further on -/
def mvSc (k : Nat) : Sc → Sc
  | .pt b o => .pt (k + b) o
  | .sl b o l c => .sl (k + b) o l c
  | .so b n => .so (k + b) n
  | .sv b o n => .sv (k + b) o n
  | .fn f caps => .fn f (caps.map fun c => k + c)
  | s => s
def mvCell (k : Nat) : Cell → Cell
  | .ws k n f => .ws k n f
  | .one s => .one (mvSc k s)
def mvCells (k : Nat) : List Cell → List Cell
  | [] => []
  | c :: r => mvCell k c :: mvCells k r
def mvV1 (k : Nat) : V1 → V1
  | .sc s => .sc (mvSc k s)
  | .agg cs => .agg (mvCells k cs)
def mvV1s (k : Nat) : List V1 → List V1
  | [] => []
  | v :: r => mvV1 k v :: mvV1s k r
def mvAV (k : Nat) : AV → AV
  | .v1 v => .v1 (mvV1 k v)
  | .tup l => .tup (mvV1s k l)
  | .raw v => .raw v

section
variable {k : Nat} {ρ : Ren}
theorem mvSc_val {s : Sc} : (mvSc k s).val ρ = s.val (fun i => ρ (k + i)) := by
  cases s with
  | fn f caps =>
    simp only [mvSc, Sc.val, List.map_map]
    congr 2
  | _ => rfl
theorem mvCells_vals : ∀ {cs : List Cell}, cvals ρ (mvCells k cs) = cvals (fun i => ρ (k + i)) cs
  | [] => rfl
  | c :: r => by
    simp only [mvCells, cvals]
    rw [mvCells_vals (cs := r)]
    cases c with
    | ws _ _ _ => rfl
    | one s => simp only [mvCell, Cell.vals, mvSc_val]
theorem mvV1_val {v : V1} : (mvV1 k v).val ρ = v.val (fun i => ρ (k + i)) := by
  cases v with
  | sc s => exact mvSc_val
  | agg cs => simp only [mvV1, V1.val]; rw [mvCells_vals]
theorem mvAV_val {v : AV} : (mvAV k v).val ρ = v.val (fun i => ρ (k + i)) := by
  cases v with
  | v1 v => exact mvV1_val
  | tup l =>
    have key : ∀ l : List V1, (mvV1s k l).map (V1.val ρ) = l.map (V1.val (fun i => ρ (k + i))) := by
      intro l
      induction l with
      | nil => rfl
      | cons v r ih => simp only [mvV1s, List.map_cons, mvV1_val, ih]
    simp only [mvAV, AV.val]
    rw [key l]
  | raw v => rfl
variable {D E : Nat → Prop} (hD : ∀ i, D i → E (k + i))
include hD
theorem mvSc_ok {s : Sc} (h : s.ok D) : (mvSc k s).ok E := by
  cases s with
  | pt b o => exact hD _ h
  | sl b o l c => exact hD _ h
  | so b n => exact ⟨hD _ h.1, hD _ h.2⟩
  | sv b o n => exact ⟨hD _ h.1, hD _ h.2⟩
  | fn f caps =>
    intro c hc
    obtain ⟨d, hd, rfl⟩ := List.mem_map.1 hc
    exact hD _ (h d hd)
  | rw v => exact h
  | _ => trivial
theorem mvCells_ok : ∀ {cs : List Cell}, cok D cs → cok E (mvCells k cs)
  | [], _ => fun c hc => by cases hc
  | c :: r, h => fun d hd => by
    rcases List.mem_cons.1 hd with rfl | hd
    · have := h c (List.mem_cons_self ..)
      cases c with
      | ws _ _ _ => trivial
      | one s => exact mvSc_ok hD this
    · exact mvCells_ok (cs := r) (fun e he => h e (List.mem_cons_of_mem _ he)) d hd
theorem mvV1_ok {v : V1} (h : v.ok D) : (mvV1 k v).ok E := by
  cases v with
  | sc s => exact mvSc_ok hD h
  | agg cs => exact mvCells_ok hD h
theorem mvAV_ok {v : AV} (h : v.ok D) : (mvAV k v).ok E := by
  cases v with
  | v1 v => exact mvV1_ok hD h
  | tup l =>
    have key : ∀ l : List V1, (∀ v ∈ l, v.ok D) → ∀ v ∈ mvV1s k l, v.ok E := by
      intro l
      induction l with
      | nil => intro _ v hv; cases hv
      | cons v r ih =>
        intro h u hu
        rcases List.mem_cons.1 hu with rfl | hu
        · exact mvV1_ok hD (h _ (List.mem_cons_self ..))
        · exact ih (fun x hx => h x (List.mem_cons_of_mem _ hx)) u hu
    exact key l h
  | raw v => trivial
end

/-! blocks put into holes -/
def fillH : Heap → Nat → List Blk → Heap
  | h, _, [] => h
  | h, s, b :: r => fillH (hset h s b) (s + 1) r
theorem hget_fillH : ∀ {l : List Blk} {h : Heap} {s : Nat}, (∀ t, t < l.length → s + t < h.length) → ∀ i, hget (fillH h s l) i = if s ≤ i ∧ i < s + l.length then l[i - s]? else hget h i
  | [], h, s, _, i => by
    rw [if_neg (by simp only [List.length_nil]; omega)]; rfl
  | b :: r, h, s, hl, i => by
    have h0 : s < h.length := hl 0 (by simp)
    simp only [fillH]
    rw [hget_fillH (l := r) (fun t ht => by rw [length_hset]; have := hl (t + 1) (by simpa using ht); omega)]
    simp only [List.length_cons]
    by_cases hi : s + 1 ≤ i ∧ i < s + 1 + r.length
    · rw [if_pos hi, if_pos (by omega)]
      obtain ⟨d, hd⟩ : ∃ d, i - s = d + 1 := ⟨i - s - 1, by omega⟩
      rw [show i - (s + 1) = d by omega, hd]; rfl
    · rw [if_neg hi]
      by_cases he : i = s
      · subst he
        rw [hget_hset_same h0, if_pos (by omega), Nat.sub_self]; rfl
      · rw [hget_hset_ne he, if_neg (by omega)]

theorem hget_map : ∀ {l : List Blk} {i : Nat}, hget (l.map some) i = l[i]?
  | [], _ => rfl
  | _ :: _, 0 => rfl
  | _ :: r, i + 1 => by simpa [hget] using hget_map (l := r) (i := i)
theorem hget_app : ∀ {a b : Heap} {i : Nat}, hget (a ++ b) i = if i < a.length then hget a i else hget b (i - a.length)
  | [], b, i => by simp
  | _ :: _, b, 0 => by simp [hget]
  | x :: r, b, i + 1 => by
    simp only [List.cons_append, hget, List.length_cons]
    rw [hget_app (a := r)]
    by_cases h : i < r.length
    · rw [if_pos h, if_pos (by omega)]
    · rw [if_neg h, if_neg (by omega), Nat.add_sub_add_right]

/-- New blocks of plain cells, put into holes. -/
theorem RelH.fill {ρ σ ρ2 : Ren} {h : Heap} {w : World} (r : RelH ρ h w) {l : List Blk} (k : RelH σ (l.map some) w) (hpl : ∀ b ∈ l, plainCs b.cells = true) (hl3 : ∀ b ∈ l, b.lo < 3) {s : Nat} (hho : ∀ t, t < l.length → isHole h (s + t) = true)
    (hne : ∀ t, Lv (l.map some) t → ∀ i b, hget h i = some b → b.lo ≠ 2 → σ t ≠ ρ i) (hag : Agree (Dm h) ρ ρ2) (hnew : ∀ t, t < l.length → ρ2 (s + t) = σ t) :
    RelH ρ2 (fillH h s l) w ∧ (∀ i, Dm h i → Dm (fillH h s l) i) ∧ (∀ t, t < l.length → Dm (fillH h s l) (s + t)) ∧ (∀ i, Dm (fillH h s l) i → ¬ Dm h i → ∃ t, i = s + t ∧ t < l.length) := by
  have hlen : ∀ t, t < l.length → s + t < h.length := fun t ht => (isHole_lt (hho t ht)).1
  have hget1 := hget_fillH hlen
  have hnd : ∀ i, Dm h i → ¬ (s ≤ i ∧ i < s + l.length) := fun i ⟨b, hb⟩ hi => by
    have := (isHole_lt (hho (i - s) (by omega))).2
    rw [show s + (i - s) = i by omega, hb] at this
    cases this
  have hin : ∀ i b, hget (fillH h s l) i = some b → (∃ t, i = s + t ∧ t < l.length ∧ hget (l.map some) t = some b) ∨ hget h i = some b := fun i b hb => by
    rw [hget1] at hb
    by_cases hi : s ≤ i ∧ i < s + l.length
    · rw [if_pos hi] at hb
      exact .inl ⟨i - s, by omega, by omega, by rw [hget_map]; exact hb⟩
    · rw [if_neg hi] at hb
      exact .inr hb
  have hmem : ∀ t b, hget (l.map some) t = some b → b ∈ l := fun t b hb => by
    rw [hget_map] at hb
    exact List.mem_of_getElem? hb
  have hokp : ∀ {b : Blk}, plainCs b.cells = true → Go.Rq.cok (fun _ => False) b.cells := fun {b} hb => zok_of (v := .agg b.cells) hb
  have hplv : ∀ {b : Blk}, plainCs b.cells = true → ∀ ρ ρ', cvals ρ b.cells = cvals ρ' b.cells := fun {b} hb ρ ρ' =>
    cvals_agree (D := fun _ => False) (fun _ h => h.elim) (hokp hb)
  have hsub : ∀ i, Dm h i → Dm (fillH h s l) i := fun i hi => by
    obtain ⟨b, hb⟩ := hi
    exact ⟨b, by rw [hget1, if_neg (hnd i ⟨b, hb⟩)]; exact hb⟩
  refine ⟨⟨fun i b hb => ?_, fun i b hb h0 => ?_, fun i b hb h1 => ?_, fun i b hb => ?_, fun i j hi hj he => ?_, fun i b hb h3 => ?_, fun i j b hi hb h3 => ?_⟩, hsub, fun t ht => ?_, fun i ⟨b, hb⟩ hn => ?_⟩
  · rcases hin i b hb with ⟨t, rfl, ht, hk⟩ | hb'
    · exact cok_mono (fun _ h => h.elim) (hokp (hpl b (hmem t b hk)))
    · exact cok_mono hsub (r.cok i b hb')
  · rcases hin i b hb with ⟨t, rfl, ht, hk⟩ | hb'
    · have := k.row t b hk h0
      rw [hnew t ht, hplv (hpl b (hmem t b hk)) ρ2 σ]
      exact this
    · have := r.row i b hb' h0
      rw [hag i ⟨b, hb'⟩, cvals_agree hag (r.cok i b hb')]
      exact this
  · rcases hin i b hb with ⟨t, rfl, ht, hk⟩ | hb'
    · obtain ⟨⟨cur, e1, e2, e3, e4, e5, e6⟩, ⟨c, hc⟩⟩ := k.own t b hk h1
      have ht1 : t + 1 < l.length := by simpa using hget_lt hc
      have f1 := hnew t ht
      have f2 : ρ2 (s + t + 1) = σ (t + 1) := hnew (t + 1) ht1
      refine ⟨⟨cur, ?_, ?_, ?_, ?_, e5, ?_⟩, ?_⟩
      · rw [f1]; exact e1
      · rw [f1, f2]; exact e2
      · rw [f1, f2]; exact e3
      · rw [f1, f2]; exact e4
      · rw [hplv (hpl b (hmem t b hk)) ρ2 σ]; exact e6
      · refine ⟨c, ?_⟩
        rw [hget1, if_pos (by omega), show s + t + 1 - s = t + 1 by omega, ← hget_map]
        exact hc
    · obtain ⟨k1, k2⟩ := r.own i b hb' h1
      exact ⟨k1.agree hag ⟨b, hb'⟩ k2 (r.cok i b hb') rfl, hsub _ k2⟩
  · rcases hin i b hb with ⟨t, rfl, ht, hk⟩ | hb'
    · exact k.few t b hk
    · exact r.few i b hb'
  · obtain ⟨b, hb, hbl⟩ := hi
    obtain ⟨c, hc, hcl⟩ := hj
    rcases hin i b hb with ⟨t, rfl, ht, hk⟩ | hb' <;> rcases hin j c hc with ⟨u, rfl, hu, hk'⟩ | hc'
    · rw [hnew t ht, hnew u hu] at he
      rw [k.inj t u ⟨b, hk, hbl⟩ ⟨c, hk', hcl⟩ he]
    · rw [hnew t ht, hag j ⟨c, hc'⟩] at he
      exact absurd he (hne t ⟨b, hk, hbl⟩ j c hc' (by omega))
    · rw [hnew u hu, hag i ⟨b, hb'⟩] at he
      exact absurd he.symm (hne u ⟨c, hk', hcl⟩ i b hb' (by omega))
    · rw [hag i ⟨b, hb'⟩, hag j ⟨c, hc'⟩] at he
      exact r.inj i j ⟨b, hb', hbl⟩ ⟨c, hc', hcl⟩ he
  · rcases hin i b hb with ⟨t, rfl, ht, hk⟩ | hb'
    · have := hl3 b (hmem t b hk); omega
    · exact (r.win i b hb' h3).agree hag ⟨b, hb'⟩ (r.cok i b hb') rfl
  · rcases hin j b hb with ⟨t, rfl, ht, hk⟩ | hb'
    · have := hl3 b (hmem t b hk); omega
    · obtain ⟨c, hc, hcl⟩ := hi
      rw [hag j ⟨b, hb'⟩]
      rcases hin i c hc with ⟨u, rfl, hu, hk'⟩ | hc'
      · rw [hnew u hu]
        exact hne u ⟨c, hk', hcl⟩ j b hb' (by omega)
      · rw [hag i ⟨c, hc'⟩]
        exact r.sep i j b ⟨c, hc', hcl⟩ hb' h3
  · refine ⟨l[t], ?_⟩
    rw [hget1, if_pos (by omega), Nat.add_sub_cancel_left]
    exact List.getElem?_eq_getElem ht
  · rcases hin i b hb with ⟨t, e, ht, _⟩ | hb'
    · exact ⟨t, e, ht⟩
    · exact absurd ⟨b, hb'⟩ hn

/-- **A function that reads its slices' windows W, and hands back the new blocks Bo**: off its own walk. -/
theorem view_core {P : Program} {T : TT} (hT : TTOk P T) {f : FuncId} {fn : Func} (hf : P.funcs[f]? = some fn) (hb : fn.body = some (bodyOf fn)) (hn : (fn.name == "runtime.NumGoroutine") = false)
    {args args' : List AV} {h W : Heap} (outs : List Nat) (slot : Nat) (Bo : List Blk) (V0 : AV) {ρ ρW : Ren} {w : World} (hr : RelH ρ h w) (rW : RelH ρW W w)
    (hW3 : ∀ i b, hget W i = some b → b.lo = 3 ∨ b.lo = 0) (hWd : ∀ i, i < W.length → Dm W i) (hin : ∀ j, Dm W j → ∃ i, Dm h i ∧ ρW j = ρ i)
    (hav : args'.map (AV.val ρW) = args.map (AV.val ρ)) (hab : ∀ x ∈ args', x.ok (Dm W))
    (hBo : Bo.all (fun b => plainCs b.cells && Nat.blt b.lo 3) = true) (hBo2 : heapB (Bo.map some) 0 (Bo.map some) = true) (hV : avB (Bo.map some) V0 = true) (hol : outs.length = Bo.length)
    (hho : ∀ t, t < Bo.length → isHole h (slot + t) = true)
    (hwalk : AWqS P (Dm W) (flatC (bodyOf fn)) (FEndM T fn (upto 0 W.length ++ outs) (mvAV W.length V0) (W ++ Bo.map some)) ⟨frame0 args' fn.ntmps, W⟩)
    (o : Oper) (a : Act) (next : Act → World → Prop) (Q : Exit → Act → World → Prop)
    (hnext : ∀ ρ' w', StepR (Dm h) ρ w (Dm (fillH h slot Bo)) ρ' w' → RelH ρ' (fillH h slot Bo) w' → (mvAV slot V0).ok (Dm (fillH h slot Bo)) → next (a.put o.dst ((mvAV slot V0).val ρ')) w') :
    o.upon P a next Q ((callFunc f (args.map (AV.val ρ)).toArray).run P w) := by
  rw [enter_run hf hb hn, Oper.upon_enter]
  refine calls_of_wp hf hb ?_
  have haok := hab
  have hrel : Rel ρW ⟨frame0 args' fn.ntmps, W⟩ { tmps := (args.map (AV.val ρ)).toArray ++ Array.replicate (fn.ntmps - (args.map (AV.val ρ)).toArray.size) undef, defers := [] } w := by
    refine ⟨?_, rfl, fun x hx => ?_, rW⟩
    · have hl : args'.length = args.length := by have := congrArg List.length hav; simpa using this
      apply Array.ext'
      simp [frame0, hav, hl, undefA, AV.val, undef]
    · unfold frame0 at hx
      rcases List.mem_append.1 hx with hx | hx
      · exact haok x hx
      · have := (List.mem_replicate.1 hx).2
        subst this
        intro v hv; cases hv
  refine wp_mono (AWq.of_flat _ hwalk ρW w ρW _ w hrel (StepR.refl _ _ _)) fun e a' w' ⟨s', ρ', q, r', st⟩ => ?_
  have fin : (chkB (upto 0 W.length ++ outs) (pickH (upto 0 W.length ++ outs) s'.h (upto 0 W.length ++ outs)) = true ∧ heapB (pickH (upto 0 W.length ++ outs) s'.h (upto 0 W.length ++ outs)) 0 (pickH (upto 0 W.length ++ outs) s'.h (upto 0 W.length ++ outs)) = true ∧
      SimH (pickH (upto 0 W.length ++ outs) s'.h (upto 0 W.length ++ outs)) (W ++ Bo.map some) ∧ ∃ v', resA T s' fn.results.toList = some v' ∧ avB (pickH (upto 0 W.length ++ outs) s'.h (upto 0 W.length ++ outs)) (bkAV (upto 0 W.length ++ outs) v') = true ∧ ∀ ρ, (bkAV (upto 0 W.length ++ outs) v').val ρ = (mvAV W.length V0).val ρ) →
      a'.defers = [] ∧ ∃ u, (results fn a'.tmps).run P w' = .ok u w' ∧ next (a.put o.dst u) w' := by
    intro ⟨q1, q1b, q2, v', q3, q3b, q4⟩
    have hres := resA_run hT r' (fn := fn) q3
    refine ⟨r'.defers, _, hres.1, ?_⟩
    generalize hmc : upto 0 W.length ++ outs = mc at q1 q1b q2 q3b q4
    obtain ⟨rK0, hsubK0⟩ := r'.mem.view rfl q1 q1b
    have hmclen : mc.length = W.length + Bo.length := by rw [← hmc, List.length_append, length_upto, hol]
    unfold chkB at q1
    simp only [Bool.and_eq_true] at q1
    have hD1 : ∀ i, Dm (pickH mc s'.h mc) i → i < mc.length ∧ mc.length < 1000000 := fun i ⟨b, hg⟩ => ⟨(hget_pickH hg).1, by rw [← Nat.blt_eq]; exact q1.2.2⟩
    -- the windows, as they were
    have hKW : ∀ i b, hget W i = some b → hget (W ++ Bo.map some) i = some b := fun i b hb => by rw [hget_app, if_pos (hget_lt hb)]; exact hb
    have hmcW : ∀ i, i < W.length → rnm mc ρ' i = ρW i := fun i hi => by
      simp only [rnm]
      rw [← hmc, nthN_app (by rw [length_upto]; exact hi), nthN_upto hi, Nat.zero_add]
      exact st.agree i (hWd i hi)
    have hmcO : ∀ t, t < Bo.length → rnm mc ρ' (W.length + t) = ρ' (nthN outs t) := fun t ht => by
      simp only [rnm]
      rw [← hmc, nthN_app2 (by rw [length_upto]; omega), length_upto, Nat.add_sub_cancel_left]
    have hkeep : ∀ B, B < w.heap.size → w'.heap[B]? = w.heap[B]? := fun B hB => by
      by_cases hex : ∃ j, Dm W j ∧ ρW j = B
      · obtain ⟨j, ⟨b, hj⟩, e⟩ := hex
        have hjl := hget_lt hj
        obtain ⟨b0, hb0, ht, hlo, hhi, hcv⟩ := q2.at (hKW j b hj)
        have hag : cvals (rnm mc ρ') b.cells = cvals ρW b.cells := cvals_agree (D := Dm W) (fun t ⟨c, hc⟩ => hmcW t (hget_lt hc)) (rW.cok j b hj)
        rcases hW3 j b hj with h3 | h3
        · obtain ⟨arr, fr, a1, a2, _⟩ := rW.win j b hj h3
          obtain ⟨arr', fr', b1, b2, _⟩ := rK0.win j b0 hb0 (by omega)
          rw [hmcW j hjl, e] at b1
          rw [e] at a1
          rw [hcv, hag, a2] at b2
          have e3 := wrapB_inj (Option.some.inj b2)
          rw [a1, b1, e3.1, e3.2, ht]
        · have a1 := rW.row j b hj h3
          have b1 := rK0.row j b0 hb0 (by omega)
          rw [hmcW j hjl, e] at b1
          rw [e] at a1
          rw [a1, b1, hcv, hag, ht, hlo, hhi]
      · exact st.keep B hB fun j hj e => hex ⟨j, hj, e⟩
    have stF : StepR (fun _ => False) (fun _ => 0) w (fun _ => False) (fun _ => 0) w' :=
      ⟨fun _ _ => rfl, fun _ h => h, st.size, st.os, st.tape, st.output, fun b hb _ => hkeep b hb, fun _ h => h.elim⟩
    obtain ⟨hr1, st1⟩ := hr.keep stF
    -- the new blocks
    have hBs : ∀ b ∈ Bo, plainCs b.cells = true ∧ b.lo < 3 := fun b hb => by
      have := List.all_eq_true.1 hBo b hb
      simp only [Bool.and_eq_true, Nat.blt_eq] at this
      exact this
    have hKB : ∀ t b, hget (Bo.map some) t = some b → hget (W ++ Bo.map some) (W.length + t) = some b := fun t b hb => by
      rw [hget_app, if_neg (by omega), Nat.add_sub_cancel_left]; exact hb
    have hlB : ∀ t b, hget (Bo.map some) t = some b → t < Bo.length ∧ b ∈ Bo := fun t b hb => by
      have h1 := hget_lt hb
      rw [hget_map] at hb
      exact ⟨by simpa using h1, List.mem_of_getElem? hb⟩
    have hokp : ∀ b ∈ Bo, Go.Rq.cok (fun _ => False) b.cells := fun b hb => zok_of (v := .agg b.cells) (hBs b hb).1
    have hplv : ∀ b ∈ Bo, ∀ ρ ρ', cvals ρ b.cells = cvals ρ' b.cells := fun b hb ρ ρ' => cvals_agree (D := fun _ => False) (fun _ h => h.elim) (hokp b hb)
    let σ : Ren := fun t => rnm mc ρ' (W.length + t)
    have hLK : ∀ t, Lv (Bo.map some) t → Lv (pickH mc s'.h mc) (W.length + t) := fun t ⟨b, hb, hl⟩ => by
      obtain ⟨b0, e1, e2, e3, e4, e5⟩ := q2.at (hKB t b hb)
      exact ⟨b0, e1, by omega⟩
    have rB : RelH σ (Bo.map some) w' := by
      refine ⟨fun t b hb => cok_mono (fun _ h => h.elim) (hokp b (hlB t b hb).2), fun t b hb h0 => ?_, fun t b hb h1 => ?_, fun t b hb => by have := (hBs b (hlB t b hb).2).2; omega, fun i j hi hj he => ?_, fun t b hb h3 => ?_, fun i j b hi hb h3 => ?_⟩
      · obtain ⟨b0, e1, e2, e3, e4, e5⟩ := q2.at (hKB t b hb)
        have := rK0.row _ b0 e1 (by omega)
        rw [e2, e3, e4, e5, hplv b (hlB t b hb).2 _ σ] at this
        exact this
      · obtain ⟨b0, e1, e2, e3, e4, e5⟩ := q2.at (hKB t b hb)
        obtain ⟨⟨cur, g1, g2, g3, g4, g5, g6⟩, g7⟩ := rK0.own _ b0 e1 (by omega)
        have hl : clen b0.cells = clen b.cells := by rw [← length_cvals fun _ => 0, ← length_cvals fun _ => 0, e5]
        have hd := (heapB_spec hBo2 t b hb).2.2 h1
        rw [Nat.zero_add] at hd
        exact ⟨⟨cur, by rw [← e2]; exact g1, by rw [← e4]; exact g2, g3, g4, by rw [← hl]; exact g5, by rw [← hl, g6, e5, hplv b (hlB t b hb).2 _ σ]⟩, hd⟩
      · have := rK0.inj _ _ (hLK i hi) (hLK j hj) he
        omega
      · have := (hBs b (hlB t b hb).2).2; omega
      · have := (hBs b (hlB j b hb).2).2; omega
    have hwinK : ∀ j, Dm W j → ∃ b0, hget (pickH mc s'.h mc) j = some b0 ∧ (b0.lo = 3 ∨ b0.lo = 0) := fun j ⟨b, hb⟩ => by
      obtain ⟨b0, e1, e2, e3, e4, e5⟩ := q2.at (hKW j b hb)
      exact ⟨b0, e1, by have := hW3 j b hb; omega⟩
    have hnotW : ∀ t, Lv (Bo.map some) t → ∀ j, Dm W j → σ t ≠ ρW j := fun t ht j hj e => by
      obtain ⟨b0, e1, e2⟩ := hwinK j hj
      have e' : rnm mc ρ' (W.length + t) = rnm mc ρ' j := by rw [hmcW j (Dm_lt hj)]; exact e
      rcases e2 with e2 | e2
      · exact rK0.sep _ j b0 (hLK t ht) e1 e2 e'
      · have := rK0.inj _ _ (hLK t ht) ⟨b0, e1, by omega⟩ e'
        have := Dm_lt hj
        omega
    have hfr : ∀ t, t < Bo.length → Dm (Bo.map some) t → w.heap.size ≤ σ t ∨ ∃ j, Dm W j ∧ σ t = ρW j := fun t ht hd => by
      have e := hmcO t ht
      by_cases hdw : Dm W (nthN outs t)
      · exact .inr ⟨_, hdw, by show rnm mc ρ' (W.length + t) = _; rw [e, st.agree _ hdw]⟩
      · have hdd : Dm s'.h (nthN outs t) := by
          obtain ⟨b, hb⟩ := hd
          obtain ⟨b0, e1, _⟩ := q2.at (hKB t b hb)
          have := hsubK0 _ ⟨b0, e1⟩
          rw [← hmc, nthN_app2 (by rw [length_upto]; omega), length_upto, Nat.add_sub_cancel_left] at this
          exact this
        rcases st.fresh _ hdd hdw with h3 | ⟨j, h3, h4⟩
        · exact .inl (by show _ ≤ rnm mc ρ' (W.length + t); rw [e]; exact h3)
        · exact .inr ⟨j, h3, by show rnm mc ρ' (W.length + t) = _; rw [e, h4]⟩
    have hfrL : ∀ t, Lv (Bo.map some) t → w.heap.size ≤ σ t := fun t ht => by
      have hl : t < Bo.length := by have := Dm_lt ht.dm; simpa using this
      rcases hfr t hl ht.dm with h1 | ⟨j, h1, h2⟩
      · exact h1
      · exact absurd h2 (hnotW t ht j h1)
    let ρ2 : Ren := fun i => if slot ≤ i ∧ i < slot + Bo.length then σ (i - slot) else ρ i
    have hnd : ∀ i, Dm h i → ¬ (slot ≤ i ∧ i < slot + Bo.length) := fun i ⟨b, hb⟩ hi => by
      have := (isHole_lt (hho (i - slot) (by omega))).2
      rw [show slot + (i - slot) = i by omega, hb] at this
      cases this
    have hag : Agree (Dm h) ρ ρ2 := fun i hi => if_neg (hnd i hi)
    have hnew : ∀ t, t < Bo.length → ρ2 (slot + t) = σ t := fun t ht => by
      show (if _ then _ else _) = _
      rw [if_pos (by omega), Nat.add_sub_cancel_left]
    obtain ⟨rF, hF1, hF2, hF3⟩ := hr1.fill rB (fun b hb => (hBs b hb).1) (fun b hb => (hBs b hb).2) hho (fun t ht i b hi hl e => by
      have h1 := hfrL t ht
      have h2 : ρ i < w.heap.size := by
        by_cases h3 : b.lo = 3
        · exact hr.ltW hi h3
        · exact hr.lt ⟨b, hi, by have := hr.few i b hi; omega⟩
      omega) hag hnew
    have hvok : V0.ok (Dm (Bo.map some)) := avB_spec hV
    have hlt : ∀ t, Dm (Bo.map some) t → t < Bo.length := fun t ht => by have := Dm_lt ht; simpa using this
    have hstep : StepR (Dm h) ρ w (Dm (fillH h slot Bo)) ρ2 w' := by
      refine ⟨hag, hF1, st.size, st.os, st.tape, st.output, fun b hb _ => hkeep b hb, fun i hi hni => ?_⟩
      obtain ⟨t, rfl, ht⟩ := hF3 i hi hni
      rw [hnew t ht]
      rcases hfr t ht ⟨Bo[t], by rw [hget_map]; exact List.getElem?_eq_getElem ht⟩ with h1 | ⟨j, h1, h2⟩
      · exact .inl h1
      · obtain ⟨i, hi, e⟩ := hin j h1
        exact .inr ⟨i, hi, by rw [h2, e]⟩
    have := hnext ρ2 w' hstep rF (mvAV_ok (D := Dm (Bo.map some)) (fun t ht => hF2 t (hlt t ht)) hvok)
    have e1 : v'.val ρ' = (mvAV slot V0).val ρ2 := by
      rw [← bkAV_val (ρ := ρ') hD1 (avB_spec q3b), q4, mvAV_val, mvAV_val]
      exact (AV.val_agree (D := Dm (Bo.map some)) (ρ := fun i => rnm mc ρ' (W.length + i)) (ρ' := fun i => ρ2 (slot + i)) (fun t ht => hnew t (hlt t ht)) hvok).symm
    rw [e1]
    exact this
  cases e with
  | normal => exact fin q
  | ret => exact fin q
  | exit j => exact q.elim
  | goto l => exact q.elim
  | panic ch => exact q.elim
  | outgrown => exact q.elim
end Go.Rq
