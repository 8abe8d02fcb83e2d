/- A loop in a block in a loop's body. -/
import Derived.Test.YtndmoidenbfflaaFwM
namespace Go.Rq
open Go

def isBlk : Code → Bool
  | .block _ _ => true
  | _ => false
def blkOf : Code → Code
  | .block _ c => c
  | _ => .skip
def hasB : List Code → Bool
  | [] => false
  | c :: r => match isBlk c with
    | true => true
    | false => hasB r
def preB : List Code → List Code
  | [] => []
  | c :: r => match isBlk c with
    | true => []
    | false => c :: preB r
def atB : List Code → Code
  | [] => .skip
  | c :: r => match isBlk c with
    | true => c
    | false => atB r
def postB : List Code → List Code
  | [] => []
  | c :: r => match isBlk c with
    | true => r
    | false => postB r
theorem blk_eq {c : Code} (h : isBlk c = true) : c = .block (loopId c) (blkOf c) := by
  unfold isBlk at h
  split at h
  · rfl
  · cases h
theorem splitB : ∀ {l : List Code}, hasB l = true → l = preB l ++ .block (loopId (atB l)) (blkOf (atB l)) :: postB l
  | [], h => by cases h
  | c :: r, h => by
    simp only [hasB] at h
    cases hc : isBlk c
    · simp only [preB, atB, postB, hc]
      rw [hc] at h
      exact congrArg (c :: ·) (splitB (l := r) h)
    · simp only [preB, atB, postB, hc]
      rw [← blk_eq hc]; rfl

/-- What comes behind the block: the rest of the list. -/
def PostE (P : Program) (T : TT) (G : Ctx) (fuel id : Nat) (post : List Code) (hs : List Hint) (R : Exit → AS → Prop) : Exit → AS → Prop
  | .normal, s => evS P T G fuel post (fun e s _ => R e s) s hs
  | .exit j, s => match Nat.beq j id with
    | true => evS P T G fuel post (fun e s _ => R e s) s hs
    | false => R (.exit j) s
  | e, s => R e s

/-- Ahead of the block, then ahead of its loop. -/
def BothE (P : Program) (T : TT) (G : Ctx) (fuel : Nat) (pre : List Code) (Q : Exit → AS → Prop) (R : Exit → AS → Prop) : Exit → AS → List Hint → Prop
  | .normal, s, hs => evS P T G fuel pre (fun e s _ => Q e s) s hs
  | e, s, _ => R e s

theorem nestF {P : Program} {T : TT} {G : Ctx} {D : Nat → Prop} (hmx : P.follows .mixedOrders = true) (hT : TTOk P T) (hG : CtxOk P G) {c : Code} {l lB : List Code} (hl : hasB l = true) (hlc : l = flatC c)
    (hlB : hasL lB = true) (hlBc : lB = flatC (blkOf (atB l))) {R : Exit → AS → Prop} {s0 : AS} {ι : Type} (ks : List Nat) (n m : Nat) (V : ι → List AV) (H : ι → Heap) (μ : ι → Nat) (E : ι → Prop)
    (hm : ∀ i, (H i).length = m) (hb : ∀ i, liveB (V i) (H i) = true) (hD : ∀ i j, D j → Dm (H i) j) (fuel : Nat) (hs hs2 hs3 : List Hint)
    (start : evS P T G fuel (preB l) (fun e s hs => BothE P T G fuel (preL lB) (StartE ks n m V H (PostE P T G fuel (loopId (atB l)) (postB l) hs2 R)) R e s hs) s0 hs)
    (step : ∀ i junk, AWq P D (loopOf (atL lB)) (RoundE (loopId (atL lB)) ks n m V H μ i E (PostE P T G fuel (loopId (atB l)) (postB l) hs2 R)) ⟨mkT ks (V i) n junk, H i⟩)
    (fin : ∀ j junk, E j → evS P T G fuel (postL lB) (fun e s _ => PostE P T G fuel (loopId (atB l)) (postB l) hs2 R e s) ⟨mkT ks (V j) n junk, H j⟩ hs3) :
    AWq P D c R s0 := by
  refine AWq.of_flat c ?_
  rw [← hlc, splitB hl]
  refine AWqS.app ((evS_sound hmx hT hG start).mono fun e s ⟨hs', q⟩ => ?_)
  have post : ∀ s, evS P T G fuel (postB l) (fun e s _ => R e s) s hs2 → AWqS P D (postB l) R s := fun s h => evS_q hmx hT hG fuel hs2 h
  cases e with
  | normal =>
    show AWq P D (.block _ _) _ s
    refine AWq.block (AWq.of_flat _ ?_)
    rw [← hlBc, splitL hlB]
    have q : evS P T G fuel (preL lB) (fun e s _ => StartE ks n m V H (PostE P T G fuel (loopId (atB l)) (postB l) hs2 R) e s) s hs' := q
    have main : AWqS P D (preL lB ++ .block (loopId (atL lB)) (.loop (loopOf (atL lB))) :: postL lB) (PostE P T G fuel (loopId (atB l)) (postB l) hs2 R) s :=
      loopS ks n m V H μ E hm hb hD ((evS_q hmx hT hG fuel hs' q).mono fun e s q => by cases e <;> exact q) step fun j junk e => evS_q hmx hT hG fuel hs3 (fin j junk e)
    refine main.mono fun e s q => ?_
    cases e with
    | normal => exact post s q
    | exit j =>
      simp only [PostE] at q
      split at q
      · rename_i hj
        have : j = loopId (atB l) := Nat.beq_eq.mp hj
        simp only [this, if_true]
        exact post s q
      · rename_i hj
        have : j ≠ loopId (atB l) := fun e => by rw [← Nat.beq_eq, hj] at e; cases e
        simp only [this, if_false]
        exact q
    | _ => exact q
  | _ => exact q
end Go.Rq
