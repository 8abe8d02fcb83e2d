/- The contracts of the functions of words, off their runs: adding, subtracting, comparing. -/
import Derived.Test.YtiaongfgkmbaaaaTT
import Derived.Test.YtiaongfgkmbaaaaWM
namespace Go.Proofs.Ytiaongfgkmbaaaa
open Go.Rq Go

theorem okAdd64 : (CallC.pure cAdd64).Ok Try.prog 46 := add64_ok Try.func46 (by kernel_rfl) (by kernel_rfl) (by kernel_rfl) (by kernel_rfl)
theorem okSub64 : (CallC.pure cSub64).Ok Try.prog 47 := sub64_ok Try.func47 (by kernel_rfl) (by kernel_rfl) (by kernel_rfl) (by kernel_rfl)

def GA : Ctx := fun f => bif Nat.beq f 46 then some (.pure cAdd64) else bif Nat.beq f 47 then some (.pure cSub64) else none
theorem GA_ok : CtxOk Try.prog GA := by
  intro f c h
  unfold GA at h
  cases h1 : Nat.beq f 46
  · rw [h1] at h
    cases h2 : Nat.beq f 47
    · rw [h2] at h; cases h
    · rw [h2] at h; cases h; rw [Nat.beq_eq] at h2; subst h2; exact okSub64
  · rw [h1] at h; cases h; rw [Nat.beq_eq] at h1; subst h1; exact okAdd64

/-! Of -/
def cOf : List AV → Option (List Prop × AV)
  | [.v1 (.sc (.w .u64 n))] => some ([], numA (n % W))
  | _ => none
theorem of_nv (n : Nat) : nv (upd (fun _ => 0) 0 n) = (n % W) % R := by
  have : n % W < R := Nat.lt_trans (Nat.mod_lt _ (by decide)) (by decide)
  rw [Nat.mod_eq_of_lt this]
  unfold nv
  rw [upd_same, upd_ne _ _ (by decide), upd_ne _ _ (by decide), upd_ne _ _ (by decide), upd_ne _ _ (by decide), upd_ne _ _ (by decide)]
  simp
theorem okOf : (CallC.pure cOf).Ok Try.prog 38 := by
  intro args pre v h _
  unfold cOf at h
  split at h
  · rename_i n
    cases h
    intro h
    refine CallOk.congr (v := .v1 (.agg [.ws .u64 6 (upd (fun _ => 0) 0 n)])) (pure_fn mixed tt_ok GA_ok Try.func38 (by kernel_rfl) (by kernel_rfl) (by kernel_rfl) (by kernel_rfl) 50 [] ?_ h) (fun ρ => numA_val (of_nv n) ρ) (by kernel_rfl)
    exact same (p := some (AV.v1 (.agg [.ws .u64 6 (upd (fun _ => 0) 0 n)])) = some (AV.v1 (.agg [.ws .u64 6 (upd (fun _ => 0) 0 n)]))) rfl (by kernel_rfl)
  · cases h
theorem okOf' : (CallC.pure cOf).Ok Try.prog 39 := by
  intro args pre v h _
  unfold cOf at h
  split at h
  · rename_i n
    cases h
    intro h
    refine CallOk.congr (v := .v1 (.agg [.ws .u64 6 (upd (fun _ => 0) 0 n)])) (pure_fn mixed tt_ok GA_ok Try.func39 (by kernel_rfl) (by kernel_rfl) (by kernel_rfl) (by kernel_rfl) 50 [] ?_ h) (fun ρ => numA_val (of_nv n) ρ) (by kernel_rfl)
    exact same (p := some (AV.v1 (.agg [.ws .u64 6 (upd (fun _ => 0) 0 n)])) = some (AV.v1 (.agg [.ws .u64 6 (upd (fun _ => 0) 0 n)]))) rfl (by kernel_rfl)
  · cases h

/-! Add, Sub -/
def cAdd : List AV → Option (List Prop × AV)
  | [.v1 (.agg [.ws .u64 6 a]), .v1 (.agg [.ws .u64 6 b])] => some ([], .tup [numV ((nv a + nv b) % R), .sc (.bo (Nat.ble R (nv a + nv b)))])
  | _ => none
def cSub : List AV → Option (List Prop × AV)
  | [.v1 (.agg [.ws .u64 6 a]), .v1 (.agg [.ws .u64 6 b])] => some ([], .tup [numV ((nv a + R - nv b) % R), .sc (.bo (Nat.blt (nv a) (nv b)))])
  | _ => none
def vAdd0 (a b : Nat → Nat) : AV := .tup [.agg [.ws .u64 6 (addO a b 6)], .sc (.bo (Nat.beq (addC a b 6 % W) (1 % W)))]
def vSub0 (a b : Nat → Nat) : AV := .tup [.agg [.ws .u64 6 (subO a b 6)], .sc (.bo (Nat.beq (subC a b 6 % W) (1 % W)))]
theorem vAdd_val (a b : Nat → Nat) (ρ : Ren) : (vAdd0 a b).val ρ = (AV.tup [numV ((nv a + nv b) % R), .sc (.bo (Nat.ble R (nv a + nv b)))]).val ρ := by
  simp only [vAdd0, AV.val, List.map_cons, List.map_nil]
  rw [numV_val (n := (nv a + nv b) % R) (by rw [(add_sum a b).1, Nat.mod_mod]) ρ, (add_sum a b).2]
theorem vSub_val (a b : Nat → Nat) (ρ : Ren) : (vSub0 a b).val ρ = (AV.tup [numV ((nv a + R - nv b) % R), .sc (.bo (Nat.blt (nv a) (nv b)))]).val ρ := by
  simp only [vSub0, AV.val, List.map_cons, List.map_nil]
  rw [numV_val (n := (nv a + R - nv b) % R) (by rw [(sub_diff a b).1, Nat.mod_mod]) ρ, (sub_diff a b).2]

theorem okAdd : (CallC.pure cAdd).Ok Try.prog 22 := by
  intro args pre v h _
  unfold cAdd at h
  split at h
  · rename_i a b
    cases h
    intro h
    refine CallOk.congr (v := vAdd0 a b) (pure_fn mixed tt_ok GA_ok Try.func22 (by kernel_rfl) (by kernel_rfl) (by kernel_rfl) (by kernel_rfl) 100 [] ?_ h) (vAdd_val a b) (by kernel_rfl)
    exact same (p := addC a b 0 % W ≤ 1 ∧ addC a b 1 % W ≤ 1 ∧ addC a b 2 % W ≤ 1 ∧ addC a b 3 % W ≤ 1 ∧ addC a b 4 % W ≤ 1 ∧ addC a b 5 % W ≤ 1 ∧ some (vAdd0 a b) = some (vAdd0 a b))
      ⟨addC_le' a b 0, addC_le' a b 1, addC_le' a b 2, addC_le' a b 3, addC_le' a b 4, addC_le' a b 5, rfl⟩ (by kernel_rfl)
  · cases h
theorem okSub : (CallC.pure cSub).Ok Try.prog 24 := by
  intro args pre v h _
  unfold cSub at h
  split at h
  · rename_i a b
    cases h
    intro h
    refine CallOk.congr (v := vSub0 a b) (pure_fn mixed tt_ok GA_ok Try.func24 (by kernel_rfl) (by kernel_rfl) (by kernel_rfl) (by kernel_rfl) 100 [] ?_ h) (vSub_val a b) (by kernel_rfl)
    exact same (p := subC a b 0 % W ≤ 1 ∧ subC a b 1 % W ≤ 1 ∧ subC a b 2 % W ≤ 1 ∧ subC a b 3 % W ≤ 1 ∧ subC a b 4 % W ≤ 1 ∧ subC a b 5 % W ≤ 1 ∧ some (vSub0 a b) = some (vSub0 a b))
      ⟨subC_le' a b 0, subC_le' a b 1, subC_le' a b 2, subC_le' a b 3, subC_le' a b 4, subC_le' a b 5, rfl⟩ (by kernel_rfl)
  · cases h

/-! Compare -/
def cCmp : List AV → Option (List Prop × AV)
  | [.v1 (.agg [.ws .u64 6 a]), .v1 (.agg [.ws .u64 6 b])] => some ([], .v1 (.sc (.it (cmpI (nv a) (nv b)))))
  | _ => none
theorem okCmp : (CallC.pure cCmp).Ok Try.prog 26 := by
  intro args pre v h _
  unfold cCmp at h
  split at h
  · rename_i a b
    cases h
    refine pure_fn mixed tt_ok GA_ok Try.func26 (by kernel_rfl) (by kernel_rfl) (by kernel_rfl) (by kernel_rfl) 100 [] ?_
    refine same (p := cmpP a b (fun z => some (AV.v1 (.sc (.it z))) = some (AV.v1 (.sc (.it (cmpI (nv a) (nv b)))))) 6) (cmpP_of a b _ 6 (by rw [← nv_nvn, ← nv_nvn])) (by kernel_rfl)
  · cases h
theorem okCmp' : (CallC.pure cCmp).Ok Try.prog 27 := by
  intro args pre v h _
  unfold cCmp at h
  split at h
  · rename_i a b
    cases h
    refine pure_fn mixed tt_ok GA_ok Try.func27 (by kernel_rfl) (by kernel_rfl) (by kernel_rfl) (by kernel_rfl) 100 [] ?_
    refine same (p := cmpP a b (fun z => some (AV.v1 (.sc (.it z))) = some (AV.v1 (.sc (.it (cmpI (nv a) (nv b)))))) 6) (cmpP_of a b _ 6 (by rw [← nv_nvn, ← nv_nvn])) (by kernel_rfl)
  · cases h
end Go.Proofs.Ytiaongfgkmbaaaa
