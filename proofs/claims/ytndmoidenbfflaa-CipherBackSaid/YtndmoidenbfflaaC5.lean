/- Poly1305 of the code: times. -/
import Derived.Test.YtndmoidenbfflaaC4
namespace Go.Proofs.Ytndmoidenbfflaa
open Go.Rq Go
set_option linter.unusedVariables false
set_option linter.unusedSimpArgs false
def cTimesP (args : List AV) (h : Heap) (slot : Nat) : Option (List Prop × AV × Heap) :=
  match args with
  | [.v1 (.sc (.pt p 0))] => match hget h p with
    | some ⟨t0, [.ws .u64 3 f, .ws .u64 2 r], 0, 0⟩ => some ([], .tup [], hset h p ⟨t0, [.ws .u64 3 (tmF f r), .ws .u64 2 r], 0, 0⟩)
    | _ => none
  | _ => none
def GTi : Ctx := ctxL [(53, .pure cAdd64), (56, .pure cMul64), (57, .mem cFold)]
theorem GTi_ok : CtxOk Try.prog GTi := ctxL_cons okAdd64 <| ctxL_cons okMul64 <| ctxL_cons okFold ctxL_nil
theorem okTimesP : (CallC.mem cTimesP).Ok Try.prog 54 := by
  intro args h slot pre v h' e hp
  unfold cTimesP at e
  split at e
  rotate_left
  · cases e
  rename_i p
  split at e
  rotate_left
  · cases e
  rename_i t0 f r hb0
  cases e
  have hl := hget_lt hb0
  refine mem_walk tt_ok Try.func54 (by kernel_rfl) (by kernel_rfl) [p] [] slot [plB t0 f r] [plB t0 (tmF f r) r] (args' := [.v1 (.sc (.pt 0 0))]) (vK := .tup [])
    (by kernel_rfl) ?_ (by kernel_rfl) ?_ (by kernel_rfl) (fun i hi => ?_) (by kernel_rfl) (by kernel_rfl) (fun i hi => ?_) (by kernel_rfl) ?_ rfl (fun t ht => by simp at ht) (fun i hi _ => ?_) ?_
  · show [pickB _ (hget h p)] = _
    rw [hb0]; rfl
  · show [AV.v1 (.sc (.pt (bk [p] p) 0))] = _
    rw [bk_one]
  · have : i = 0 := by simpa using hi
    subst this; exact ⟨_, rfl, by simp⟩
  · have : i = 0 := by simpa using hi
    subst this; exact ⟨_, rfl⟩
  · show [pickB _ (hget (hset h p _) p)] = _
    rw [hget_hset_same hl]; rfl
  · exact hget_hset_ne fun e => hi 0 (by simp) (by rw [e]; rfl)
  · refine evS_q mixed tt_ok GTi_ok 500 [] (same (p := 0 % 18446744073709551616 ≤ 1 ∧ tc1 f r % 18446744073709551616 ≤ 1 ∧ tc2 f r % 18446744073709551616 ≤ 1 ∧ 0 % 18446744073709551616 ≤ 1 ∧ td1 f r % 18446744073709551616 ≤ 1 ∧ 0 % 18446744073709551616 ≤ 1 ∧ endM [0] [plB t0 (tmF f r) r] [plB t0 (tmF f r) r] (.tup []) (.tup [])) ?_ (by kernel_rfl))
    exact ⟨by decide, le1_mod (tc1_le f r), le1_mod (tc2_le f r), by decide, le1_mod (td1_le f r), by decide, endM_same rfl rfl⟩
end Go.Proofs.Ytndmoidenbfflaa
