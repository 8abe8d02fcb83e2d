/- The k-th loop of a list of codes. -/
import Derived.Test.YtndmoidenbfflaaFwR
namespace Go.Rq
open Go

def preK : Nat → List Code → List Code
  | 0, l => preL l
  | k + 1, l => preL l ++ (atL l :: preK k (postL l))
def atK : Nat → List Code → Code
  | 0, l => atL l
  | k + 1, l => atK k (postL l)
def postK : Nat → List Code → List Code
  | 0, l => postL l
  | k + 1, l => postK k (postL l)
def hasK : Nat → List Code → Bool
  | 0, l => hasL l
  | k + 1, l => match hasL l with
    | true => hasK k (postL l)
    | false => false
theorem atL_eq : ∀ {l : List Code}, hasL l = true → l = preL l ++ atL l :: postL l
  | [], h => by cases h
  | c :: r, h => by
    simp only [hasL] at h
    cases hc : isLoop c
    · simp only [preL, atL, postL, hc]
      rw [hc] at h
      exact congrArg (c :: ·) (atL_eq (l := r) h)
    · simp only [preL, atL, postL, hc, List.nil_append]
theorem splitK : ∀ {k : Nat} {l : List Code}, hasK k l = true → l = preK k l ++ .block (loopId (atK k l)) (.loop (loopOf (atK k l))) :: postK k l
  | 0, _, h => splitL h
  | k + 1, l, h => by
    simp only [hasK] at h
    cases hl : hasL l
    · rw [hl] at h; cases h
    · rw [hl] at h
      have h1 := atL_eq hl
      have h2 := splitK (k := k) (l := postL l) h
      simp only [preK, atK, postK, List.append_assoc, List.cons_append]
      rw [← h2]
      exact h1

theorem loopK {P : Program} {T : TT} {G : Ctx} {D : Nat → Prop} (hmx : P.follows .mixedOrders = true) (hT : TTOk P T) (hG : CtxOk P G) (kk : Nat) {l : List Code} (hl : hasK kk l = true) {Q : Exit → AS → Prop} {s0 : AS} {ι : Type} (ks : List Nat) (n m : Nat) (V : ι → List AV) (H : ι → Heap) (μ : ι → Nat) (E : ι → Prop)
    (hm : ∀ i, (H i).length = m) (hb : ∀ i, liveB (V i) (H i) = true) (hD : ∀ i j, D j → Dm (H i) j) (fuel : Nat) (hs : List Hint)
    (start : evS P T G fuel (preK kk l) (fun e s _ => StartE ks n m V H Q e s) s0 hs)
    (step : ∀ i junk, AWq P D (loopOf (atK kk l)) (RoundE (loopId (atK kk l)) ks n m V H μ i E Q) ⟨mkT ks (V i) n junk, H i⟩)
    (fin : ∀ j junk, E j → AWqS P D (postK kk l) Q ⟨mkT ks (V j) n junk, H j⟩) :
    AWqS P D l Q s0 := by
  rw [splitK hl]
  refine loopS ks n m V H μ E hm hb hD ((evS_q hmx hT hG fuel hs start).mono fun e s q => ?_) step fin
  cases e <;> exact q
end Go.Rq
