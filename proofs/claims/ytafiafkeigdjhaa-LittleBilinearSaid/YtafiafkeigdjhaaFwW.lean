/- A loop that is left with other live slots, other data, than it is gone round with. -/
import Derived.Test.YtafiafkeigdjhaaFwS
namespace Go.Rq
open Go
set_option linter.unusedVariables false

def RoundX {ι κ : Type} (id : Nat) (ks n' : List Nat) (n m : Nat) (V : ι → List AV) (H : ι → Heap) (μ : ι → Nat) (i : ι) (V' : κ → List AV) (H' : κ → Heap) (E : κ → Prop) (Q : Exit → AS → Prop) : Exit → AS → Prop
  | .normal, s => LK ks n m (fun vs h => ∃ j, μ j < μ i ∧ vs = V j ∧ h = H j) s
  | .exit b, s => match Nat.beq b id with
    | true => LK n' n m (fun vs h => ∃ j, E j ∧ vs = V' j ∧ h = H' j) s
    | false => Q (.exit b) s
  | e, s => Q e s

theorem loopX {P : Program} {T : TT} {G : Ctx} {D : Nat → Prop} (hmx : P.follows .mixedOrders = true) (hT : TTOk P T) (hG : CtxOk P G) (kk : Nat) {l : List Code} (hl : hasK kk l = true) {Q : Exit → AS → Prop} {s0 : AS} {ι κ : Type} (ks ks' : List Nat) (n m : Nat)
    (V : ι → List AV) (H : ι → Heap) (μ : ι → Nat) (V' : κ → List AV) (H' : κ → Heap) (E : κ → Prop)
    (hm : ∀ i, (H i).length = m) (hb : ∀ i, liveB (V i) (H i) = true) (hD : ∀ i j, D j → Dm (H i) j)
    (hm' : ∀ i, (H' i).length = m) (hb' : ∀ i, liveB (V' i) (H' i) = true) (hD' : ∀ i j, D j → Dm (H' i) j) (fuel : Nat) (hs : List Hint)
    (start : evS P T G fuel (preK kk l) (fun e s _ => StartE ks n m V H Q e s) s0 hs)
    (step : ∀ i junk, AWq P D (loopOf (atK kk l)) (RoundX (loopId (atK kk l)) ks ks' n m V H μ i V' H' E Q) ⟨mkT ks (V i) n junk, H i⟩)
    (fin : ∀ j junk, E j → AWqS P D (postK kk l) Q ⟨mkT ks' (V' j) n junk, H' j⟩) :
    AWqS P D l Q s0 := by
  rw [splitK hl]
  generalize loopId (atK kk l) = id at *
  refine AWqS.app ((evS_q hmx hT hG fuel hs start).mono fun e s q => ?_)
  cases e with
  | normal =>
    have q : LK ks n m (fun vs h => ∃ j, vs = V j ∧ h = H j) s := q
    obtain ⟨j, hv, hg⟩ := q.2
    have hl : Live ks (V j) n (H j) s := q.live hv hg (hm j)
    show AWqS P D (.block id (.loop _) :: _) Q s
    refine AWq.liveLoop (Q := fun e s' => match e with
      | .normal => AWqS P D (postK kk l) Q s'
      | e => Q e s') ks n V H μ hb hD (fun i junk => (step i junk).mono fun e s' q => ?_) j hl
    cases e with
    | normal =>
      have q : LK ks n m (fun vs h => ∃ k, μ k < μ _ ∧ vs = V k ∧ h = H k) s' := q
      obtain ⟨k, hk, hv, hg⟩ := q.2
      exact ⟨k, hk, q.live hv hg (hm k)⟩
    | exit b =>
      simp only [RoundX] at q
      split at q
      · rename_i hbe
        have : b = id := Nat.beq_eq.mp hbe
        simp only [this, if_true]
        obtain ⟨k, hk, hv, hg⟩ := q.2
        exact AWqS.of_live (q.live hv hg (hm' k)) (hb' k) (hD' k) fun junk => fin k junk hk
      · rename_i hbe
        have : b ≠ id := fun e => by rw [← Nat.beq_eq, hbe] at e; cases e
        simp only [this, if_false]
        exact q
    | _ => exact q
  | _ => exact q
end Go.Rq
