/- Tables of contracts; a loop between what comes ahead of it and what comes behind it. -/
import Derived.Test.YtndmoidenbfflaaFw
namespace Go.Rq
open Go

def ctxL : List (Nat × CallC) → Ctx
  | [], _ => none
  | p :: r, f => match Nat.beq f p.1 with
    | true => some p.2
    | false => ctxL r f
theorem ctxL_nil {P : Program} : CtxOk P (ctxL []) := fun f c h => by cases h
theorem ctxL_cons {P : Program} {n : Nat} {c : CallC} {l : List (Nat × CallC)} (h : c.Ok P n) (hl : CtxOk P (ctxL l)) : CtxOk P (ctxL ((n, c) :: l)) := by
  intro f c' e
  simp only [ctxL] at e
  split at e
  · rename_i hb
    rw [Nat.beq_eq] at hb
    subst hb
    cases e; exact h
  · exact hl f c' e

/-- The live slots and the first blocks of a state, as KK says. -/
def LK (ks : List Nat) (n m : Nat) (KK : List AV → Heap → Prop) (s : AS) : Prop := Nat.beq s.t.length n = true ∧ KK (pickT s.t ks) (takeH m s.h)

theorem LK.live {ks : List Nat} {n m : Nat} {KK : List AV → Heap → Prop} {s : AS} (h : LK ks n m KK s) {vs : List AV} {g : Heap} (hv : pickT s.t ks = vs) (hg : takeH m s.h = g) (hm : g.length = m) : Live ks vs n g s :=
  ⟨Nat.beq_eq.mp h.1, hv, by rw [hm]; exact hg⟩

/-- What a round ends with: it goes on with less, or the block is left, or the function. -/
def RoundE {ι : Type} (id : Nat) (ks : List Nat) (n m : Nat) (V : ι → List AV) (H : ι → Heap) (μ : ι → Nat) (i : ι) (E : ι → Prop) (Q : Exit → AS → Prop) : Exit → AS → Prop
  | .normal, s => LK ks n m (fun vs h => ∃ j, μ j < μ i ∧ vs = V j ∧ h = H j) s
  | .exit b, s => match Nat.beq b id with
    | true => LK ks n m (fun vs h => ∃ j, E j ∧ vs = V j ∧ h = H j) s
    | false => Q (.exit b) s
  | e, s => Q e s

theorem loopS {P : Program} {D : Nat → Prop} {pre post : List Code} {id : Nat} {c : Code} {Q : Exit → AS → Prop} {s0 : AS} {ι : Type} (ks : List Nat) (n m : Nat) (V : ι → List AV) (H : ι → Heap) (μ : ι → Nat) (E : ι → Prop)
    (hm : ∀ i, (H i).length = m) (hb : ∀ i, liveB (V i) (H i) = true) (hD : ∀ i j, D j → Dm (H i) j)
    (start : AWqS P D pre (fun e s => match e with
      | .normal => LK ks n m (fun vs h => ∃ j, vs = V j ∧ h = H j) s
      | e => Q e s) s0)
    (step : ∀ i junk, AWq P D c (RoundE id ks n m V H μ i E Q) ⟨mkT ks (V i) n junk, H i⟩)
    (fin : ∀ j junk, E j → AWqS P D post Q ⟨mkT ks (V j) n junk, H j⟩) :
    AWqS P D (pre ++ .block id (.loop c) :: post) Q s0 := by
  refine AWqS.app (start.mono fun e s q => ?_)
  cases e with
  | normal =>
    obtain ⟨j, hv, hg⟩ := q.2
    have hl : Live ks (V j) n (H j) s := q.live hv hg (hm j)
    show AWqS P D (.block id (.loop c) :: post) Q s
    refine AWq.liveLoop (Q := fun e s' => match e with
      | .normal => AWqS P D post Q s'
      | e => Q e s') ks n V H μ hb hD (fun i junk => (step i junk).mono fun e s' q => ?_) j hl
    cases e with
    | normal =>
      have q : LK ks n m (fun vs h => ∃ k, μ k < μ _ ∧ vs = V k ∧ h = H k) s' := q
      obtain ⟨k, hk, hv, hg⟩ := q.2
      exact ⟨k, hk, q.live hv hg (hm k)⟩
    | exit b =>
      simp only [RoundE] at q
      split at q
      · rename_i hbe
        have : b = id := Nat.beq_eq.mp hbe
        simp only [this, if_true]
        obtain ⟨k, hk, hv, hg⟩ := q.2
        exact AWqS.of_live (q.live hv hg (hm k)) (hb k) (hD k) fun junk => fin k junk hk
      · rename_i hbe
        have : b ≠ id := fun e => by rw [← Nat.beq_eq, hbe] at e; cases e
        simp only [this, if_false]
        exact q
    | _ => exact q
  | _ => exact q

/-- A function's end, up to what its result stands for. -/
def FEnd' (T : TT) (fn : Func) (v : AV) : Exit → AS → Prop
  | .normal, s | .ret, s => ∃ v', resA T s fn.results.toList = some v' ∧ ∀ ρ, v'.val ρ = v.val ρ
  | _, _ => False

theorem pure_walk' {P : Program} {T : TT} (hT : TTOk P T) {f : FuncId} {fn : Func} (hf : P.funcs[f]? = some fn) (hb : fn.body = some (bodyOf fn)) (hn : (fn.name == "runtime.NumGoroutine") = false)
    {args : List AV} (hargs : args.all vokB = true) {v : AV} (hv : vokB v = true)
    (h : AWqS P (fun _ => False) (flatC (bodyOf fn)) (FEnd' T fn v) ⟨frame0 args fn.ntmps, []⟩) : ∀ h, CallOk P f args h v h := by
  have hargs : ∀ x ∈ args, x.ok fun _ => False := fun x hx => vok_of (List.all_eq_true.1 hargs x hx)
  have hv : v.ok fun _ => False := vok_of hv
  have h : AWp P (bodyOf fn) (FEnd' T fn v) ⟨frame0 args fn.ntmps, []⟩ := by
    intro ρ a w r
    have e : Dm ([] : Heap) = fun _ => False := by funext i; simp [Dm, hget]
    have := AWq.of_flat _ h ρ w ρ a w r (by rw [e]; exact StepR.refl _ _ _)
    rw [e]
    exact this
  intro hp ρ w hr _ o a next Q hnext
  rw [enter_run hf hb hn, Oper.upon_enter]
  refine calls_of_wp hf hb ?_
  have hrel : Rel (fun _ => 0) ⟨frame0 args fn.ntmps, []⟩ { tmps := (args.map (AV.val ρ)).toArray ++ Array.replicate (fn.ntmps - (args.map (AV.val ρ)).toArray.size) undef, defers := [] } w := by
    refine ⟨?_, rfl, fun x hx => ?_, RelH.nil _ _⟩
    · have : args.map (AV.val fun _ => 0) = args.map (AV.val ρ) := List.map_congr_left fun x hx => val_ok_any (hargs x hx) _ _
      apply Array.ext'
      simp [frame0, this, undefA, AV.val, undef]
    · unfold frame0 at hx
      rcases List.mem_append.1 hx with hx | hx
      · exact AV.ok_mono (fun _ h => h.elim) (hargs x hx)
      · have := (List.mem_replicate.1 hx).2
        subst this
        intro v hv; cases hv
  refine wp_mono (h _ _ w hrel) fun e a' w' ⟨s', ρ', q, r', st⟩ => ?_
  have fin : (∃ v', resA T s' fn.results.toList = some v' ∧ ∀ ρ, v'.val ρ = v.val ρ) → a'.defers = [] ∧ ∃ u, (results fn a'.tmps).run P w' = .ok u w' ∧ next (a.put o.dst u) w' := by
    intro ⟨v', hres, hvv⟩
    have := resA_run hT r' (fn := fn) hres
    refine ⟨r'.defers, _, this.1, ?_⟩
    rw [hvv ρ', val_ok_any hv ρ' ρ]
    have st' : StepR (fun _ => False) (fun _ => 0) w (Dm s'.h) ρ' w' := by
      have e : Dm ([] : Heap) = fun _ => False := by funext i; simp [Dm, hget]
      rw [e] at st
      exact st
    have hk := hr.keep st'
    exact hnext ρ w' hk.2 hk.1 (AV.ok_mono (fun _ h => h.elim) hv)
  cases e with
  | normal => exact fin q
  | ret => exact fin q
  | exit j => exact q.elim
  | goto l => exact q.elim
  | panic ch => exact q.elim
  | outgrown => exact q.elim

/-- An index lies within: what an address asks. -/
def ix (i n : Nat) (q : Prop) : Prop := 0 ≤ Int.ofNat i ∧ Int.ofNat i < (n : Int) ∧ i < n ∧ q
theorem ix_of {i n : Nat} {q : Prop} (h : i < n) (k : q) : ix i n q := ⟨Int.natCast_nonneg _, by simp; exact h, h, k⟩
theorem ilt_t {i n : Nat} (h : i < n) : ilt (Int.ofNat i) (Int.ofNat n) = true := by rw [ilt_iff]; simp; exact h
theorem ilt_f {i n : Nat} (h : ¬ i < n) : ilt (Int.ofNat i) (Int.ofNat n) = false := by rw [← Bool.not_eq_true, ilt_iff]; simp; omega

/-! the first loop of a list of codes -/
def isLoop : Code → Bool
  | .block _ (.loop _) => true
  | _ => false
def loopId : Code → Nat
  | .block id _ => id
  | _ => 0
def loopOf : Code → Code
  | .block _ (.loop c) => c
  | _ => .skip
def hasL : List Code → Bool
  | [] => false
  | c :: r => match isLoop c with
    | true => true
    | false => hasL r
def preL : List Code → List Code
  | [] => []
  | c :: r => match isLoop c with
    | true => []
    | false => c :: preL r
def atL : List Code → Code
  | [] => .skip
  | c :: r => match isLoop c with
    | true => c
    | false => atL r
def postL : List Code → List Code
  | [] => []
  | c :: r => match isLoop c with
    | true => r
    | false => postL r
theorem loop_eq {c : Code} (h : isLoop c = true) : c = .block (loopId c) (.loop (loopOf c)) := by
  unfold isLoop at h
  split at h
  · rfl
  · cases h
theorem splitL : ∀ {l : List Code}, hasL l = true → l = preL l ++ .block (loopId (atL l)) (.loop (loopOf (atL l))) :: postL l
  | [], h => by cases h
  | c :: r, h => by
    simp only [hasL] at h
    cases hc : isLoop c
    · simp only [preL, atL, postL, hc]
      rw [hc] at h
      exact congrArg (c :: ·) (splitL (l := r) h)
    · simp only [preL, atL, postL, hc]
      rw [← loop_eq hc]; rfl

def StartE {ι : Type} (ks : List Nat) (n m : Nat) (V : ι → List AV) (H : ι → Heap) (Q : Exit → AS → Prop) : Exit → AS → Prop
  | .normal, s => LK ks n m (fun vs h => ∃ j, vs = V j ∧ h = H j) s
  | e, s => Q e s

theorem loopF {P : Program} {T : TT} {G : Ctx} {D : Nat → Prop} (hmx : P.follows .mixedOrders = true) (hT : TTOk P T) (hG : CtxOk P G) {l : List Code} (hl : hasL l = true) {Q : Exit → AS → Prop} {s0 : AS} {ι : Type} (ks : List Nat) (n m : Nat) (V : ι → List AV) (H : ι → Heap) (μ : ι → Nat) (E : ι → Prop)
    (hm : ∀ i, (H i).length = m) (hb : ∀ i, liveB (V i) (H i) = true) (hD : ∀ i j, D j → Dm (H i) j) (fuel : Nat) (hs : List Hint)
    (start : evS P T G fuel (preL l) (fun e s _ => StartE ks n m V H Q e s) s0 hs)
    (step : ∀ i junk, AWq P D (loopOf (atL l)) (RoundE (loopId (atL l)) ks n m V H μ i E Q) ⟨mkT ks (V i) n junk, H i⟩)
    (fin : ∀ j junk, E j → evS P T G fuel (postL l) (fun e s _ => Q e s) ⟨mkT ks (V j) n junk, H j⟩ []) :
    AWqS P D l Q s0 := by
  rw [splitL hl]
  refine loopS ks n m V H μ E hm hb hD ((evS_q hmx hT hG fuel hs start).mono fun e s q => ?_) step fun j junk e => evS_q hmx hT hG fuel [] (fin j junk e)
  cases e <;> exact q

theorem roundF {P : Program} {T : TT} {G : Ctx} {D : Nat → Prop} (hmx : P.follows .mixedOrders = true) (hT : TTOk P T) (hG : CtxOk P G) (fuel : Nat) {c : Code} {Q : Exit → AS → Prop} {s : AS} (hs : List Hint) (h : ev P T G fuel c (fun e s _ => Q e s) s hs) : AWq P D c Q s :=
  ev_q hmx hT hG fuel hs h
end Go.Rq
