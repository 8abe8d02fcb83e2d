/- A loop's body that is one block: its codes stand by themselves. -/
import Derived.Test.YtndmoidenbfflaaFwN
import Derived.Test.YtndmoidenbfflaaFwS
import Derived.Test.YtndmoidenbfflaaFwP
namespace Go.Rq
open Go
theorem awqs_nil {P : Program} {D : Nat → Prop} {Q : Exit → AS → Prop} {s : AS} (h : Q .normal s) : AWqS P D [] Q s :=
  fun _ _ ρ _ _ r st => ⟨s, ρ, h, r, st⟩
/-- How a block's codes end, seen from behind the block. -/
def InE (id : Nat) (R : Exit → AS → Prop) : Exit → AS → Prop
  | .normal, s => R .normal s
  | .exit j, s => match Nat.beq j id with
    | true => R .normal s
    | false => R (.exit j) s
  | e, s => R e s
theorem inB0 {P : Program} {D : Nat → Prop} {c : Code} {id : Nat} {body : Code} (hc : flatC c = [.block id body]) {R : Exit → AS → Prop} {s0 : AS}
    (h : AWqS P D (flatC body) (InE id R) s0) : AWq P D c R s0 := by
  refine AWq.of_flat c ?_
  rw [hc]
  show AWq P D (.block id body) _ s0
  refine AWq.block (AWq.of_flat _ (h.mono fun e s q => ?_))
  cases e with
  | normal => exact awqs_nil q
  | exit j =>
    simp only [InE] at q
    split at q
    · rename_i hj
      have : j = id := Nat.beq_eq.mp hj
      simp only [this, if_true]
      exact awqs_nil q
    · rename_i hj
      have : j ≠ id := fun e => by rw [← Nat.beq_eq, hj] at e; cases e
      simp only [this, if_false]
      exact q
  | _ => exact q

/-- loopR, where the names at the end of a round are other ones from round to round. -/
theorem loopRm {P : Program} {T : TT} {G : Ctx} {D : Nat → Prop} (hmx : P.follows .mixedOrders = true) (hT : TTOk P T) (hG : CtxOk P G) (kk : Nat) {l : List Code} (hl : hasK kk l = true) {Q : Exit → AS → Prop} {s0 : AS} {ι : Type} (ms : List Nat) (m me : ι → List Nat) (ks : List Nat) (n : Nat) (V : ι → List AV) (H : ι → Heap) (μ : ι → Nat) (E : ι → Prop)
    (hb : ∀ i, liveB (V i) (H i) = true) (hD : ∀ i j, D j → Dm (H i) j) (hf : ∀ j, D j → nthN ms j = j ∧ ∀ i, nthN (m i) j = j ∧ nthN (me i) j = j) (fuel : Nat) (hs : List Hint)
    (start : evS P T G fuel (preK kk l) (fun e s _ => StartR ms ks n V H Q e s) s0 hs)
    (step : ∀ i junk, AWq P D (loopOf (atK kk l)) (RoundR (loopId (atK kk l)) (m i) (me i) ks n V H μ i E Q) ⟨mkT ks (V i) n junk, H i⟩)
    (fin : ∀ j junk, E j → AWqS P D (postK kk l) Q ⟨mkT ks (V j) n junk, H j⟩) :
    AWqS P D l Q s0 := by
  rw [splitK hl]
  generalize loopId (atK kk l) = id at *
  refine AWqS.app ((evS_q hmx hT hG fuel hs start).mono fun e s q => ?_)
  cases e with
  | normal =>
    have q : LKR ms ks n (fun vs h => ∃ j, vs = V j ∧ h = H j) s := q
    obtain ⟨j, hv, hg⟩ := q.2.2
    have hl : LiveR ms ks (V j) n (H j) s := q.live hv hg
    show AWqS P D (.block id (.loop _) :: _) Q s
    refine AWq.liveLoopR (Q := fun e s' => match e with
      | .normal => AWqS P D (postK kk l) Q s'
      | e => Q e s') ks n V H μ hb hD (fun i junk => (step i junk).mono fun e s' q => ?_) j ⟨ms, fun i hi => (hf i hi).1, hl⟩
    cases e with
    | normal =>
      have q : LKR (m i) ks n (fun vs h => ∃ k, μ k < μ _ ∧ vs = V k ∧ h = H k) s' := q
      obtain ⟨k, hk, hv, hg⟩ := q.2.2
      exact ⟨k, hk, m i, fun j hj => ((hf j hj).2 i).1, q.live hv hg⟩
    | exit b =>
      simp only [RoundR] at q
      split at q
      · rename_i hbe
        have : b = id := Nat.beq_eq.mp hbe
        simp only [this, if_true]
        obtain ⟨k, hk, hv, hg⟩ := q.2.2
        exact AWqS.of_liveR (q.live hv hg) (hb k) (hD k) (fun j hj => ((hf j hj).2 i).2) fun junk => fin k junk hk
      · rename_i hbe
        have : b ≠ id := fun e => by rw [← Nat.beq_eq, hbe] at e; cases e
        simp only [this, if_false]
        exact q
    | _ => exact q
  | _ => exact q
end Go.Rq
