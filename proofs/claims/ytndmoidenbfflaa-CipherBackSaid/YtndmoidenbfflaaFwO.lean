/- A function's run as the kit says it. -/
import Derived.Test.YtndmoidenbfflaaFwN
import Derived.RowKit3
import Derived.OpenShut
namespace Go.Rq
open Go

structure StepW (w w' : World) : Prop where
  os : w'.os = w.os
  output : w'.output = w.output
  size : w.heap.size ≤ w'.heap.size
  keep : ∀ b, b < w.heap.size → w'.heap[b]? = w.heap[b]?
theorem StepW.frame {w w' : World} (h : StepW w w') (may : MemPlace → Prop) : w.keptBut w' may := by
  refine ⟨h.os, h.output, fun i hi => ?_⟩
  rw [h.keep i hi]
  cases w.heap[i]? with
  | none => trivial
  | some b => cases b <;> simp
theorem StepW.old {w w' : World} (h : StepW w w') (a : Addr) (ha : a.block < w.heap.size) : w'.frozen? a = w.frozen? a := by
  unfold World.frozen?
  rw [h.keep _ ha]

theorem pure_calls {P : Program} {T : TT} (hT : TTOk P T) {f : FuncId} {fn : Func} (hf : P.funcs[f]? = some fn) (hb : fn.body = some (bodyOf fn))
    {args : List AV} (hargs : args.all vokB = true) {v : AV} (hv : vokB v = true)
    (h : AWqS P (fun _ => False) (flatC (bodyOf fn)) (FEnd' T fn v) ⟨frame0 args fn.ntmps, []⟩) (w : World) :
    Calls P f (args.map (AV.val fun _ => 0)).toArray w (fun e w' => e = .returned (v.val fun _ => 0) ∧ StepW w w') := by
  have hargs : ∀ x ∈ args, x.ok fun _ => False := fun x hx => vok_of (List.all_eq_true.1 hargs x hx)
  have hv : v.ok fun _ => False := vok_of hv
  have h : AWp P (bodyOf fn) (FEnd' T fn v) ⟨frame0 args fn.ntmps, []⟩ := by
    intro ρ a w r
    have e : Dm ([] : Heap) = fun _ => False := by funext i; simp [Dm, hget]
    have := AWq.of_flat _ h ρ w ρ a w r (by rw [e]; exact StepR.refl _ _ _)
    rw [e]
    exact this
  refine calls_of_wp hf hb ?_
  have hrel : Rel (fun _ => 0) ⟨frame0 args fn.ntmps, []⟩ { tmps := (args.map (AV.val fun _ => 0)).toArray ++ Array.replicate (fn.ntmps - (args.map (AV.val fun _ => 0)).toArray.size) undef, defers := [] } w := by
    refine ⟨?_, rfl, fun x hx => ?_, RelH.nil _ _⟩
    · apply Array.ext'
      simp [frame0, undefA, AV.val, undef]
    · unfold frame0 at hx
      rcases List.mem_append.1 hx with hx | hx
      · exact AV.ok_mono (fun _ h => h.elim) (hargs x hx)
      · have := (List.mem_replicate.1 hx).2
        subst this
        intro v hv; cases hv
  refine wp_mono (h _ _ w hrel) fun e a' w' ⟨s', ρ', q, r', st⟩ => ?_
  have fin : (∃ v', resA T s' fn.results.toList = some v' ∧ ∀ ρ, v'.val ρ = v.val ρ) → a'.defers = [] ∧ ∃ u, (results fn a'.tmps).run P w' = .ok u w' ∧ (Ending.returned u = .returned (v.val fun _ => 0) ∧ StepW w w') := by
    intro ⟨v', hres, hvv⟩
    have := resA_run hT r' (fn := fn) hres
    refine ⟨r'.defers, _, this.1, ?_, ⟨st.os, st.output, st.size, fun b hb => st.keep b hb (fun i hi => ?_)⟩⟩
    · rw [hvv ρ', val_ok_any hv ρ' fun _ => 0]
    · obtain ⟨c, hc⟩ := hi; simp [hget] at hc
  cases e with
  | normal => exact fin q
  | ret => exact fin q
  | exit j => exact q.elim
  | goto l => exact q.elim
  | panic ch => exact q.elim
  | outgrown => exact q.elim
end Go.Rq
