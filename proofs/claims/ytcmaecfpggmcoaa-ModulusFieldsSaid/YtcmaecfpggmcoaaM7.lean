/- A modulus: roots. -/
import Derived.Test.YtcmaecfpggmcoaaM4
namespace Go.Proofs.Ytcmaecfpggmcoaa
open Go.Rq Go

def rootC (N a : Nat) : Nat := powM N a ((N + 1) / 4)
def rootOk (N a : Nat) : Bool := Nat.beq (rootC N a * rootC N a % N) (a % N)
def rootX (N c : Nat) : Nat := bif Nat.blt (subM N 0 c) c then subM N 0 c else c
def rootV (N a : Nat) : Nat := bif Nat.beq (N % 4) 1 then 0 else bif rootOk N a then rootX N (rootC N a) else 0
def rootE (N a : Nat) : Int := bif Nat.beq (N % 4) 1 then 2 else bif rootOk N a then 0 else 6
def GRt : Ctx := ctxL [(48, .rd (CM fNone)), (34, .pure cOf), (49, .pure cAdd), (47, .pure cShift), (31, .rd (CM fPow)), (27, .rd (CM fMul)), (17, .rd (CM fRed)), (25, .rd (CM fNeg)), (35, .pure cCmp)]
theorem GRt_ok : CtxOk Try.prog GRt := ctxL_cons okNone <| ctxL_cons okOf <| ctxL_cons okAdd <| ctxL_cons okShift <| ctxL_cons okPow <| ctxL_cons okMMul <| ctxL_cons okRed <| ctxL_cons okMNeg <| ctxL_cons okCmp ctxL_nil
def fRoot (n : Nat → Nat) (l : Nat) (w : Nat → Nat) : List AV → Option (List Prop × AV)
  | [.v1 (.agg [.ws .u64 6 a])] => some ([ModI n l w], .tup [numV (rootV (nv n) (nv a)), .sc (.it (rootE (nv n) (nv a)))])
  | _ => none
theorem low_two (a : Nat → Nat) (c : Nat) (hc : c < 4) : Nat.beq ((a 0 &&& 3) % W) (c % W) = Nat.beq (nv a % 4) c := by
  have h0 : a 0 &&& 3 = a 0 % 4 := Nat.and_two_pow_sub_one_eq_mod (a 0) 2
  have h1 : (a 0 &&& 3) % W = nv a % 4 := by
    rw [h0]
    unfold nv
    have h2 : a 0 % 4 < 4 := Nat.mod_lt _ (by omega)
    generalize a 1 % W + W * (a 2 % W + W * (a 3 % W + W * (a 4 % W + W * (a 5 % W)))) = z
    simp only [W]
    omega
  have h3 : c % W = c := Nat.mod_eq_of_lt (by simp only [W]; omega)
  rw [h1, h3]
theorem powM_lt {N x : Nat} (h : 0 < N) (e : Nat) : powM N x e < N := by unfold powM; exact Nat.mod_lt _ h
theorem shift_two (N : Nat) : shiftN N (-2) = N / 4 := by show N / 2 ^ (1 + 1) = N / 4; rfl
theorem okRoot : (CallC.rd (CM fRoot)).Ok Try.prog 14 := by
  refine CM_ok Try.func14 (by kernel_rfl) (by kernel_rfl) fun n l w rest pre v e hp => ?_
  unfold fRoot at e
  split at e
  · rename_i a
    cases e
    have hM : ModI n l w := hp _ (List.mem_cons_self ..)
    have hs := hM.small
    have h3 := hM.three
    have hnR := nv_lt n
    refine ⟨rfl, rfl, fun y => ?_⟩
    have endP : ∀ (x : Nat → Nat) (e : Int), nv x = rootV (nv n) (nv a) → e = rootE (nv n) (nv a) →
        endV y n l w (.tup [.agg [.ws .u64 6 x], .sc (.it e)]) (.tup [numV (rootV (nv n) (nv a)), .sc (.it (rootE (nv n) (nv a)))]) := by
      intro x e h1 h2
      refine endV_of rfl fun ρ => ?_
      simp only [AV.val, List.map_cons, List.map_nil, h2]
      rw [numV_val (n := rootV (nv n) (nv a)) (by rw [← h1, Nat.mod_eq_of_lt (nv_lt x)]) ρ]
    cases h4 : Nat.beq (nv n % 4) 1
    · have he : nv (wd (shiftN (nv (wd ((nv n + nv (wd (1 % W))) % R))) (-2) % R)) = (nv n + 1) / 4 := by
        rw [nv_one, shift_two, nv_wd, nv_wd, Nat.mod_mod, Nat.mod_mod, Nat.mod_eq_of_lt (show nv n + 1 < R by omega), Nat.mod_eq_of_lt (show (nv n + 1) / 4 < R by omega)]
      obtain ⟨C, hC⟩ : ∃ C, C = wd (powM (nv n) (nv a) (nv (wd (shiftN (nv (wd ((nv n + nv (wd (1 % W))) % R))) (-2) % R)))) := ⟨_, rfl⟩
      have hCv : nv C = rootC (nv n) (nv a) := by
        rw [hC, he, nv_wd, Nat.mod_eq_of_lt (Nat.lt_trans (powM_lt hM.pos _) hnR)]; rfl
      have hD : nv (wd (subM (nv n) 0 (nv C))) = subM (nv n) 0 (nv C) := by
        rw [nv_wd, Nat.mod_eq_of_lt (Nat.lt_trans (subM_lt hM.pos) hnR)]
      cases hok : rootOk (nv n) (nv a)
      · refine evS_q mixed tt_ok GRt_ok 60 [⟨3,6,.lit (.bo false)⟩,⟨7,7,.lit (.bo true)⟩] ?_
        refine same (p := ModI n l w ∧ Nat.beq ((n 0 &&& 3) % W) (1 % W) = false ∧ ModI n l w ∧ ModI n l w ∧ ModI n l w ∧
          (!(eqN W 6 (wd (nv (wd (powM (nv n) (nv a) (nv (wd (shiftN (nv (wd ((nv n + nv (wd (1 % W))) % R))) (-2) % R))))) * nv (wd (powM (nv n) (nv a) (nv (wd (shiftN (nv (wd ((nv n + nv (wd (1 % W))) % R))) (-2) % R))))) % nv n)) (wd (nv a % nv n)) && true)) = true ∧
          endV y n l w (.tup [.agg [.ws .u64 6 (fun _ => 0)], .sc (.it 6)]) (.tup [numV (rootV (nv n) (nv a)), .sc (.it (rootE (nv n) (nv a)))])) ?_ (by kernel_rfl)
        rw [← hC]
        refine ⟨hM, by rw [low_two n 1 (by omega), h4], hM, hM, hM, ?_, endP _ _ ?_ ?_⟩
        · rw [neW_nv]; rfl
          rw [nv_modN hM, nv_modN hM, hCv]
          intro e
          unfold rootOk at hok
          rw [e, ← Bool.not_eq_true, Nat.beq_eq] at hok
          exact hok rfl
        · rw [zero_nv]; unfold rootV; rw [h4, hok]; rfl
        · unfold rootE; rw [h4, hok]; rfl
      · have hsq : (!(eqN W 6 (wd (nv C * nv C % nv n)) (wd (nv a % nv n)) && true)) = false := by
          rw [eqW_nv]; rfl
          rw [nv_modN hM, nv_modN hM, hCv]
          unfold rootOk at hok
          rwa [Nat.beq_eq] at hok
        cases hlt : Nat.blt (subM (nv n) 0 (nv C)) (nv C)
        · refine evS_q mixed tt_ok GRt_ok 60 [⟨3,6,.lit (.bo false)⟩,⟨7,7,.lit (.bo false)⟩,⟨10,3,.lit (.bo false)⟩] ?_
          refine same (p := ModI n l w ∧ Nat.beq ((n 0 &&& 3) % W) (1 % W) = false ∧ ModI n l w ∧ ModI n l w ∧ ModI n l w ∧
            (!(eqN W 6 (wd (nv (wd (powM (nv n) (nv a) (nv (wd (shiftN (nv (wd ((nv n + nv (wd (1 % W))) % R))) (-2) % R))))) * nv (wd (powM (nv n) (nv a) (nv (wd (shiftN (nv (wd ((nv n + nv (wd (1 % W))) % R))) (-2) % R))))) % nv n)) (wd (nv a % nv n)) && true)) = false ∧ ModI n l w ∧ ilt (cmpI (nv (wd (subM (nv n) 0 (nv (wd (powM (nv n) (nv a) (nv (wd (shiftN (nv (wd ((nv n + nv (wd (1 % W))) % R))) (-2) % R))))))))) (nv (wd (powM (nv n) (nv a) (nv (wd (shiftN (nv (wd ((nv n + nv (wd (1 % W))) % R))) (-2) % R))))))) 0 = false ∧
            endV y n l w (.tup [.agg [.ws .u64 6 (wd (powM (nv n) (nv a) (nv (wd (shiftN (nv (wd ((nv n + nv (wd (1 % W))) % R))) (-2) % R)))))], .sc (.it 0)]) (.tup [numV (rootV (nv n) (nv a)), .sc (.it (rootE (nv n) (nv a)))])) ?_ (by kernel_rfl)
          rw [← hC]
          refine ⟨hM, by rw [low_two n 1 (by omega), h4], hM, hM, hM, hsq, hM, by rw [cmp_lt', hD, hlt], endP _ _ ?_ ?_⟩
          · unfold rootV rootX; rw [h4, hok, ← hCv, hlt]; rfl
          · unfold rootE; rw [h4, hok]; rfl
        · refine evS_q mixed tt_ok GRt_ok 60 [⟨3,6,.lit (.bo false)⟩,⟨7,7,.lit (.bo false)⟩,⟨10,3,.lit (.bo true)⟩] ?_
          refine same (p := ModI n l w ∧ Nat.beq ((n 0 &&& 3) % W) (1 % W) = false ∧ ModI n l w ∧ ModI n l w ∧ ModI n l w ∧
            (!(eqN W 6 (wd (nv (wd (powM (nv n) (nv a) (nv (wd (shiftN (nv (wd ((nv n + nv (wd (1 % W))) % R))) (-2) % R))))) * nv (wd (powM (nv n) (nv a) (nv (wd (shiftN (nv (wd ((nv n + nv (wd (1 % W))) % R))) (-2) % R))))) % nv n)) (wd (nv a % nv n)) && true)) = false ∧ ModI n l w ∧ ilt (cmpI (nv (wd (subM (nv n) 0 (nv (wd (powM (nv n) (nv a) (nv (wd (shiftN (nv (wd ((nv n + nv (wd (1 % W))) % R))) (-2) % R))))))))) (nv (wd (powM (nv n) (nv a) (nv (wd (shiftN (nv (wd ((nv n + nv (wd (1 % W))) % R))) (-2) % R))))))) 0 = true ∧
            endV y n l w (.tup [.agg [.ws .u64 6 (wd (subM (nv n) 0 (nv (wd (powM (nv n) (nv a) (nv (wd (shiftN (nv (wd ((nv n + nv (wd (1 % W))) % R))) (-2) % R))))))))], .sc (.it 0)]) (.tup [numV (rootV (nv n) (nv a)), .sc (.it (rootE (nv n) (nv a)))])) ?_ (by kernel_rfl)
          rw [← hC]
          refine ⟨hM, by rw [low_two n 1 (by omega), h4], hM, hM, hM, hsq, hM, by rw [cmp_lt', hD, hlt], endP _ _ ?_ ?_⟩
          · rw [hD]; unfold rootV rootX; rw [h4, hok, ← hCv, hlt]; rfl
          · unfold rootE; rw [h4, hok]; rfl
    · refine evS_q mixed tt_ok GRt_ok 60 [⟨3,6,.lit (.bo true)⟩] ?_
      refine same (p := ModI n l w ∧ Nat.beq ((n 0 &&& 3) % W) (1 % W) = true ∧ endV y n l w (.tup [.agg [.ws .u64 6 (fun _ => 0)], .sc (.it 2)]) (.tup [numV (rootV (nv n) (nv a)), .sc (.it (rootE (nv n) (nv a)))])) ?_ (by kernel_rfl)
      refine ⟨hM, by rw [low_two n 1 (by omega), h4], endP _ _ ?_ ?_⟩
      · rw [zero_nv]; unfold rootV; rw [h4]; rfl
      · unfold rootE; rw [h4]; rfl
  · cases e
end Go.Proofs.Ytcmaecfpggmcoaa
