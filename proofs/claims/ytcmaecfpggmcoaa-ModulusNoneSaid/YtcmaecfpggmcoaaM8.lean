/- A modulus that is nil, or that nobody made: each method tells nothing. Printed by gennone.py. -/
import Derived.Test.YtcmaecfpggmcoaaM1
namespace Go.Proofs.Ytcmaecfpggmcoaa
open Go.Rq Go

abbrev nilP : AV := .v1 (.sc (.rw (.pointer none)))
def CZ (F : List AV → Option AV) (args : List AV) (h : Heap) : Option (List Prop × AV) :=
  match args with
  | .v1 (.sc (.rw (.pointer none))) :: rest => match F rest with
    | some v => some ([], v)
    | none => none
  | .v1 (.sc (.pt b 0)) :: rest => match hget h b with
    | some ⟨_, [.ws .u64 6 n, .one (.w .u64 l), .ws .u64 6 w], 0, 0⟩ => match F rest with
      | some v => some ([l % W = 0], v)
      | none => none
    | _ => none
  | _ => none
theorem CZ_ok {F : List AV → Option AV} {f : FuncId} {fn : Func} (hf : Try.prog.funcs[f]? = some fn) (hb : fn.body = some (bodyOf fn)) (hn : (fn.name == "runtime.NumGoroutine") = false)
    (hF : ∀ rest v, F rest = some v → rest.all vokB = true ∧ vokB v = true ∧ (∀ h, CallOk Try.prog f (nilP :: rest) h v h) ∧
      ∀ y n l w, l % W = 0 → AWqS Try.prog (Dm [some (mB y n l w)]) (flatC (bodyOf fn)) (FEndR tt fn v (mB y n l w)) ⟨frame0 (.v1 (.sc (.pt 0 0)) :: rest) fn.ntmps, [some (mB y n l w)]⟩) : (CallC.rd (CZ F)).Ok Try.prog f := by
  refine ⟨fun args h pre v e hp => ?_, fun args h slot blk hs ha => ?_⟩
  · unfold CZ at e
    split at e
    · rename_i rest
      split at e
      · rename_i v' hv
        cases e
        exact (hF rest _ hv).2.2.1 h
      · cases e
    · rename_i b rest
      split at e
      · rename_i y n l w hg
        split at e
        · rename_i v' hv
          cases e
          obtain ⟨h1, h2, _, h3⟩ := hF rest _ hv
          exact rd_blk tt_ok hf hb hn (blk := mB y n l w) rfl rfl h1 h2 hg (h3 y n l w (hp _ (List.mem_cons_self ..)))
        · cases e
      · cases e
    · cases e
  · unfold CZ
    split
    · rfl
    · rename_i b rest
      have hb' : Dm h b := ha _ (List.mem_cons_self ..)
      have hne : b ≠ slot := fun e => by
        obtain ⟨x, hx⟩ := hb'
        rw [e, (isHole_lt hs).2] at hx; cases hx
      rw [hget_hset_ne hne]
    · rfl

/-! none -/
def zNone : List AV → Option AV
  | [] => some (.v1 (.sc (.bo true)))
  | _ => none
theorem okZNone : (CallC.rd (CZ zNone)).Ok Try.prog 48 := by
  refine CZ_ok Try.func48 (by kernel_rfl) (by kernel_rfl) fun rest v e => ?_
  unfold zNone at e
  split at e
  · cases e
    refine ⟨rfl, rfl, ?_, fun y n l w hl => ?_⟩
    · exact pure_fn mixed tt_ok G0_ok Try.func48 (by kernel_rfl) (by kernel_rfl) (by kernel_rfl) (by kernel_rfl) 50 [] (same (p := some (AV.v1 (.sc (.bo true))) = some (AV.v1 (.sc (.bo true)))) rfl (by kernel_rfl))
    · refine evS_q mixed tt_ok G0_ok 50 [⟨1,7,.lit (.bo true)⟩] ?_
      refine same (p := Nat.beq (l % W) (0 % W) = true ∧ some (mB y n l w) = some (mB y n l w) ∧ ∃ v', some (AV.v1 (.sc (.bo true))) = some v' ∧ vokB v' = true ∧ ∀ ρ, v'.val ρ = (AV.v1 (.sc (.bo true))).val ρ) ?_ (by kernel_rfl)
      exact ⟨by rw [hl]; rfl, rfl, _, rfl, rfl, fun _ => rfl⟩
  · cases e
def GZ : Ctx := ctxL [(48, .rd (CZ zNone))]
theorem GZ_ok : CtxOk Try.prog GZ := ctxL_cons okZNone ctxL_nil
abbrev zA : AV := .v1 (.agg [.ws .u64 6 fun _ => 0])
abbrev zE : AV := .tup [.agg [.ws .u64 6 fun _ => 0], .sc (.it 1)]

/-! N -/
def zN : List AV → Option AV
  | [] => some zA
  | _ => none
theorem okZN : (CallC.rd (CZ zN)).Ok Try.prog 16 := by
  refine CZ_ok Try.func16 (by kernel_rfl) (by kernel_rfl) fun rest v e => ?_
  unfold zN at e
  split at e
  · cases e
    refine ⟨rfl, rfl, ?_, fun y n l w hl => ?_⟩
    · exact pure_fn mixed tt_ok GZ_ok Try.func16 (by kernel_rfl) (by kernel_rfl) (by kernel_rfl) (by kernel_rfl) 50 [] (same (p := some zA = some zA) rfl (by kernel_rfl))
    · refine evS_q mixed tt_ok GZ_ok 50 [] ?_
      refine same (p := l % W = 0 ∧ some (mB y n l w) = some (mB y n l w) ∧ ∃ v', some zA = some v' ∧ vokB v' = true ∧ ∀ ρ, v'.val ρ = (zA).val ρ) ?_ (by kernel_rfl)
      exact ⟨hl, rfl, _, rfl, rfl, fun _ => rfl⟩
  · cases e
/-! Reduce -/
def zReduce : List AV → Option AV
  | [.v1 (.agg [.ws .u64 6 a])] => some zA
  | _ => none
theorem okZReduce : (CallC.rd (CZ zReduce)).Ok Try.prog 17 := by
  refine CZ_ok Try.func17 (by kernel_rfl) (by kernel_rfl) fun rest v e => ?_
  unfold zReduce at e
  split at e
  · rename_i a; cases e
    refine ⟨rfl, rfl, ?_, fun y n l w hl => ?_⟩
    · exact pure_fn mixed tt_ok GZ_ok Try.func17 (by kernel_rfl) (by kernel_rfl) (by kernel_rfl) (by kernel_rfl) 50 [] (same (p := some zA = some zA) rfl (by kernel_rfl))
    · refine evS_q mixed tt_ok GZ_ok 50 [] ?_
      refine same (p := l % W = 0 ∧ some (mB y n l w) = some (mB y n l w) ∧ ∃ v', some zA = some v' ∧ vokB v' = true ∧ ∀ ρ, v'.val ρ = (zA).val ρ) ?_ (by kernel_rfl)
      exact ⟨hl, rfl, _, rfl, rfl, fun _ => rfl⟩
  · cases e
/-! Wide -/
def zWide : List AV → Option AV
  | [.v1 (.agg [.ws .u64 6 a]), .v1 (.agg [.ws .u64 6 b])] => some zA
  | _ => none
theorem okZWide : (CallC.rd (CZ zWide)).Ok Try.prog 19 := by
  refine CZ_ok Try.func19 (by kernel_rfl) (by kernel_rfl) fun rest v e => ?_
  unfold zWide at e
  split at e
  · rename_i a b; cases e
    refine ⟨rfl, rfl, ?_, fun y n l w hl => ?_⟩
    · exact pure_fn mixed tt_ok GZ_ok Try.func19 (by kernel_rfl) (by kernel_rfl) (by kernel_rfl) (by kernel_rfl) 50 [] (same (p := some zA = some zA) rfl (by kernel_rfl))
    · refine evS_q mixed tt_ok GZ_ok 50 [] ?_
      refine same (p := l % W = 0 ∧ some (mB y n l w) = some (mB y n l w) ∧ ∃ v', some zA = some v' ∧ vokB v' = true ∧ ∀ ρ, v'.val ρ = (zA).val ρ) ?_ (by kernel_rfl)
      exact ⟨hl, rfl, _, rfl, rfl, fun _ => rfl⟩
  · cases e
/-! Add -/
def zAdd : List AV → Option AV
  | [.v1 (.agg [.ws .u64 6 a]), .v1 (.agg [.ws .u64 6 b])] => some zA
  | _ => none
theorem okZAdd : (CallC.rd (CZ zAdd)).Ok Try.prog 21 := by
  refine CZ_ok Try.func21 (by kernel_rfl) (by kernel_rfl) fun rest v e => ?_
  unfold zAdd at e
  split at e
  · rename_i a b; cases e
    refine ⟨rfl, rfl, ?_, fun y n l w hl => ?_⟩
    · exact pure_fn mixed tt_ok GZ_ok Try.func21 (by kernel_rfl) (by kernel_rfl) (by kernel_rfl) (by kernel_rfl) 50 [] (same (p := some zA = some zA) rfl (by kernel_rfl))
    · refine evS_q mixed tt_ok GZ_ok 50 [] ?_
      refine same (p := l % W = 0 ∧ some (mB y n l w) = some (mB y n l w) ∧ ∃ v', some zA = some v' ∧ vokB v' = true ∧ ∀ ρ, v'.val ρ = (zA).val ρ) ?_ (by kernel_rfl)
      exact ⟨hl, rfl, _, rfl, rfl, fun _ => rfl⟩
  · cases e
/-! Sub -/
def zSub : List AV → Option AV
  | [.v1 (.agg [.ws .u64 6 a]), .v1 (.agg [.ws .u64 6 b])] => some zA
  | _ => none
theorem okZSub : (CallC.rd (CZ zSub)).Ok Try.prog 23 := by
  refine CZ_ok Try.func23 (by kernel_rfl) (by kernel_rfl) fun rest v e => ?_
  unfold zSub at e
  split at e
  · rename_i a b; cases e
    refine ⟨rfl, rfl, ?_, fun y n l w hl => ?_⟩
    · exact pure_fn mixed tt_ok GZ_ok Try.func23 (by kernel_rfl) (by kernel_rfl) (by kernel_rfl) (by kernel_rfl) 50 [] (same (p := some zA = some zA) rfl (by kernel_rfl))
    · refine evS_q mixed tt_ok GZ_ok 50 [] ?_
      refine same (p := l % W = 0 ∧ some (mB y n l w) = some (mB y n l w) ∧ ∃ v', some zA = some v' ∧ vokB v' = true ∧ ∀ ρ, v'.val ρ = (zA).val ρ) ?_ (by kernel_rfl)
      exact ⟨hl, rfl, _, rfl, rfl, fun _ => rfl⟩
  · cases e
def GZn : Ctx := ctxL [(23, .rd (CZ zSub))]
theorem GZn_ok : CtxOk Try.prog GZn := ctxL_cons okZSub ctxL_nil
/-! Neg -/
def zNeg : List AV → Option AV
  | [.v1 (.agg [.ws .u64 6 a])] => some zA
  | _ => none
theorem okZNeg : (CallC.rd (CZ zNeg)).Ok Try.prog 25 := by
  refine CZ_ok Try.func25 (by kernel_rfl) (by kernel_rfl) fun rest v e => ?_
  unfold zNeg at e
  split at e
  · rename_i a; cases e
    refine ⟨rfl, rfl, ?_, fun y n l w hl => ?_⟩
    · exact pure_fn mixed tt_ok GZn_ok Try.func25 (by kernel_rfl) (by kernel_rfl) (by kernel_rfl) (by kernel_rfl) 50 [] (same (p := some zA = some zA) rfl (by kernel_rfl))
    · refine evS_q mixed tt_ok GZn_ok 50 [] ?_
      refine same (p := l % W = 0 ∧ some (mB y n l w) = some (mB y n l w) ∧ ∃ v', some zA = some v' ∧ vokB v' = true ∧ ∀ ρ, v'.val ρ = (zA).val ρ) ?_ (by kernel_rfl)
      exact ⟨hl, rfl, _, rfl, rfl, fun _ => rfl⟩
  · cases e
/-! Mul -/
def zMul : List AV → Option AV
  | [.v1 (.agg [.ws .u64 6 a]), .v1 (.agg [.ws .u64 6 b])] => some zA
  | _ => none
theorem okZMul : (CallC.rd (CZ zMul)).Ok Try.prog 27 := by
  refine CZ_ok Try.func27 (by kernel_rfl) (by kernel_rfl) fun rest v e => ?_
  unfold zMul at e
  split at e
  · rename_i a b; cases e
    refine ⟨rfl, rfl, ?_, fun y n l w hl => ?_⟩
    · exact pure_fn mixed tt_ok GZ_ok Try.func27 (by kernel_rfl) (by kernel_rfl) (by kernel_rfl) (by kernel_rfl) 50 [] (same (p := some zA = some zA) rfl (by kernel_rfl))
    · refine evS_q mixed tt_ok GZ_ok 50 [] ?_
      refine same (p := l % W = 0 ∧ some (mB y n l w) = some (mB y n l w) ∧ ∃ v', some zA = some v' ∧ vokB v' = true ∧ ∀ ρ, v'.val ρ = (zA).val ρ) ?_ (by kernel_rfl)
      exact ⟨hl, rfl, _, rfl, rfl, fun _ => rfl⟩
  · cases e
/-! Pow -/
def zPow : List AV → Option AV
  | [.v1 (.agg [.ws .u64 6 a]), .v1 (.agg [.ws .u64 6 b])] => some zA
  | _ => none
theorem okZPow : (CallC.rd (CZ zPow)).Ok Try.prog 31 := by
  refine CZ_ok Try.func31 (by kernel_rfl) (by kernel_rfl) fun rest v e => ?_
  unfold zPow at e
  split at e
  · rename_i a b; cases e
    refine ⟨rfl, rfl, ?_, fun y n l w hl => ?_⟩
    · exact pure_fn mixed tt_ok GZ_ok Try.func31 (by kernel_rfl) (by kernel_rfl) (by kernel_rfl) (by kernel_rfl) 50 [] (same (p := some zA = some zA) rfl (by kernel_rfl))
    · refine evS_q mixed tt_ok GZ_ok 50 [] ?_
      refine same (p := l % W = 0 ∧ some (mB y n l w) = some (mB y n l w) ∧ ∃ v', some zA = some v' ∧ vokB v' = true ∧ ∀ ρ, v'.val ρ = (zA).val ρ) ?_ (by kernel_rfl)
      exact ⟨hl, rfl, _, rfl, rfl, fun _ => rfl⟩
  · cases e
/-! Inv -/
def zInv : List AV → Option AV
  | [.v1 (.agg [.ws .u64 6 a])] => some zE
  | _ => none
theorem okZInv : (CallC.rd (CZ zInv)).Ok Try.prog 29 := by
  refine CZ_ok Try.func29 (by kernel_rfl) (by kernel_rfl) fun rest v e => ?_
  unfold zInv at e
  split at e
  · rename_i a; cases e
    refine ⟨rfl, rfl, ?_, fun y n l w hl => ?_⟩
    · exact pure_fn mixed tt_ok GZ_ok Try.func29 (by kernel_rfl) (by kernel_rfl) (by kernel_rfl) (by kernel_rfl) 50 [] (same (p := some zE = some zE) rfl (by kernel_rfl))
    · refine evS_q mixed tt_ok GZ_ok 50 [] ?_
      refine same (p := l % W = 0 ∧ some (mB y n l w) = some (mB y n l w) ∧ ∃ v', some zE = some v' ∧ vokB v' = true ∧ ∀ ρ, v'.val ρ = (zE).val ρ) ?_ (by kernel_rfl)
      exact ⟨hl, rfl, _, rfl, rfl, fun _ => rfl⟩
  · cases e
/-! Root -/
def zRoot : List AV → Option AV
  | [.v1 (.agg [.ws .u64 6 a])] => some zE
  | _ => none
theorem okZRoot : (CallC.rd (CZ zRoot)).Ok Try.prog 14 := by
  refine CZ_ok Try.func14 (by kernel_rfl) (by kernel_rfl) fun rest v e => ?_
  unfold zRoot at e
  split at e
  · rename_i a; cases e
    refine ⟨rfl, rfl, ?_, fun y n l w hl => ?_⟩
    · exact pure_fn mixed tt_ok GZ_ok Try.func14 (by kernel_rfl) (by kernel_rfl) (by kernel_rfl) (by kernel_rfl) 50 [] (same (p := some zE = some zE) rfl (by kernel_rfl))
    · refine evS_q mixed tt_ok GZ_ok 50 [] ?_
      refine same (p := l % W = 0 ∧ some (mB y n l w) = some (mB y n l w) ∧ ∃ v', some zE = some v' ∧ vokB v' = true ∧ ∀ ρ, v'.val ρ = (zE).val ρ) ?_ (by kernel_rfl)
      exact ⟨hl, rfl, _, rfl, rfl, fun _ => rfl⟩
  · cases e
end Go.Proofs.Ytcmaecfpggmcoaa
