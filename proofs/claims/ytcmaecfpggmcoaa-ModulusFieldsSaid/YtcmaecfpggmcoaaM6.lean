/- by, awake. -/
import Derived.Test.YtcmaecfpggmcoaaM5
namespace Go.Proofs.Ytcmaecfpggmcoaa
open Go.Rq Go

def GBy : Ctx := ctxL [(34, .pure cOf), (13, .mem cNew)]
theorem GBy_ok : CtxOk Try.prog GBy := ctxL_cons okOf <| ctxL_cons okNew ctxL_nil
abbrev byB (k : Nat) : Blk := ⟨53, mCs (wd (k % W)) (newL (wd (k % W))) (wd (R * R % nv (wd (k % W)))), 0, 0⟩
def cBy (args : List AV) (h : Heap) (slot : Nat) : Option (List Prop × AV × Heap) :=
  match args with
  | [.v1 (.sc (.w .u64 k))] => match isHole h slot with
    | true => some ([MayM (nv (wd (k % W)))], .v1 (.sc (.pt slot 0)), hset h slot (byB k))
    | false => none
  | _ => none
theorem okBy : (CallC.mem cBy).Ok Try.prog 41 := by
  intro args h slot pre v h' e hp
  unfold cBy at e
  split at e
  · rename_i k
    split at e
    · rename_i hh
      cases e
      have hMay : MayM (nv (wd (k % W))) := hp _ (List.mem_cons_self ..)
      refine mem_walk tt_ok Try.func41 (by kernel_rfl) (by kernel_rfl) [] [1] slot [] [some (byB k)] (args' := [.v1 (.sc (.w .u64 k))]) (vK := .v1 (.sc (.pt 0 0)))
        (by kernel_rfl) rfl (by kernel_rfl) rfl (by kernel_rfl) (fun i hi => by simp at hi) (by kernel_rfl) (by kernel_rfl) (fun i hi => by
          have : i = 0 := by simpa using hi
          subst this; exact ⟨_, rfl⟩) (by kernel_rfl) ?_ ?_ (fun t ht => by
          have : t = 0 := by simpa using ht
          subst this; exact hh) (fun i _ hi => ?_) ?_
      · show [pickB [slot] (hget (hset h slot _) slot)] = _
        rw [hget_hset_same (isHole_lt hh).1]; rfl
      · show AV.v1 (.sc (.pt (bk [slot] slot) 0)) = _
        have : bk [slot] slot = 0 := by simp [bk, idxN]
        rw [this]
      · exact hget_hset_ne fun e => hi 0 (by simp) (by omega)
      · refine evS_q mixed tt_ok GBy_ok 60 [] ?_
        refine same (p := MayM (nv (wd (k % W))) ∧ true = true ∧ true = true ∧ SimH [some (byB k)] [some (byB k)] ∧ ∃ v', some (AV.v1 (.sc (.pt 1 0))) = some v' ∧ avB [some (byB k)] (bkAV [1] v') = true ∧ ∀ ρ, (bkAV [1] v').val ρ = (AV.v1 (.sc (.pt 0 0))).val ρ) ?_ (by kernel_rfl)
        exact ⟨hMay, rfl, rfl, ⟨⟨rfl, rfl, rfl, fun _ => rfl⟩, trivial⟩, _, rfl, rfl, fun _ => rfl⟩
    · cases e
  · cases e

def GAw : Ctx := ctxL [(34, .pure cOf), (41, .mem cBy), (29, .rd (CM fInv)), (21, .rd (CM fAdd)), (23, .rd (CM fSub)), (27, .rd (CM fMul)), (31, .rd (CM fPow))]
theorem GAw_ok : CtxOk Try.prog GAw := ctxL_cons okOf <| ctxL_cons okBy <| ctxL_cons okInv <| ctxL_cons okMAdd <| ctxL_cons okMSub <| ctxL_cons okMMul <| ctxL_cons okPow ctxL_nil
def cAwakeM : List AV → Option (List Prop × AV)
  | [] => some ([], .v1 (.sc (.bo true)))
  | _ => none
theorem okAwakeM : (CallC.pure cAwakeM).Ok Try.prog 33 := by
  intro args pre v h _
  unfold cAwakeM at h
  split at h
  · cases h
    have h7 : nv (wd (7 % W)) = 7 := nv_small (by decide)
    have hMay : MayM (nv (wd (7 % W))) := by rw [h7]; exact ⟨rfl, by decide, by omega⟩
    have hM : ModI (wd (7 % W)) (newL (wd (7 % W))) (wd (R * R % nv (wd (7 % W)))) := may_ok hMay (by
      rw [nv_wd, Nat.mod_eq_of_lt (Nat.lt_trans (Nat.mod_lt _ (by rw [h7]; omega)) (nv_lt (wd (7 % W))))])
    refine pure_fn mixed tt_ok GAw_ok Try.func33 (by kernel_rfl) (by kernel_rfl) (by kernel_rfl) (by kernel_rfl) 60 [] ?_
    exact same (p := MayM (nv (wd (7 % W))) ∧ ModI (wd (7 % W)) (newL (wd (7 % W))) (wd (R * R % nv (wd (7 % W)))) ∧ ModI (wd (7 % W)) (newL (wd (7 % W))) (wd (R * R % nv (wd (7 % W)))) ∧ ModI (wd (7 % W)) (newL (wd (7 % W))) (wd (R * R % nv (wd (7 % W)))) ∧ ModI (wd (7 % W)) (newL (wd (7 % W))) (wd (R * R % nv (wd (7 % W)))) ∧ ModI (wd (7 % W)) (newL (wd (7 % W))) (wd (R * R % nv (wd (7 % W)))) ∧
      some (AV.v1 (.sc (.bo true))) = some (AV.v1 (.sc (.bo true)))) ⟨hMay, hM, hM, hM, hM, hM, rfl⟩ (by kernel_rfl)
  · cases h
end Go.Proofs.Ytcmaecfpggmcoaa
