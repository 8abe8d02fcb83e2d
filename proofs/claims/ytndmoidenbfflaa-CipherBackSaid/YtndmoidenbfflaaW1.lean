/- The contracts of the functions of words, off their runs: adding, subtracting, comparing. -/
import Derived.Test.YtndmoidenbfflaaTT
import Derived.Test.YtndmoidenbfflaaWM
namespace Go.Proofs.Ytndmoidenbfflaa
open Go.Rq Go

theorem okAdd64 : (CallC.pure cAdd64).Ok Try.prog 53 := add64_ok Try.func53 (by kernel_rfl) (by kernel_rfl) (by kernel_rfl) (by kernel_rfl)
/-! Of -/
def cOf : List AV → Option (List Prop × AV)
  | [.v1 (.sc (.w .u64 n))] => some ([], numA (n % W))
  | _ => none
theorem of_nv (n : Nat) : nv (upd (fun _ => 0) 0 n) = (n % W) % R := by
  have : n % W < R := Nat.lt_trans (Nat.mod_lt _ (by decide)) (by decide)
  rw [Nat.mod_eq_of_lt this]
  unfold nv
  rw [upd_same, upd_ne _ _ (by decide), upd_ne _ _ (by decide), upd_ne _ _ (by decide), upd_ne _ _ (by decide), upd_ne _ _ (by decide)]
  simp
/-! Add, Sub -/
def cAdd : List AV → Option (List Prop × AV)
  | [.v1 (.agg [.ws .u64 6 a]), .v1 (.agg [.ws .u64 6 b])] => some ([], .tup [numV ((nv a + nv b) % R), .sc (.bo (Nat.ble R (nv a + nv b)))])
  | _ => none
def cSub : List AV → Option (List Prop × AV)
  | [.v1 (.agg [.ws .u64 6 a]), .v1 (.agg [.ws .u64 6 b])] => some ([], .tup [numV ((nv a + R - nv b) % R), .sc (.bo (Nat.blt (nv a) (nv b)))])
  | _ => none
def vAdd0 (a b : Nat → Nat) : AV := .tup [.agg [.ws .u64 6 (addO a b 6)], .sc (.bo (Nat.beq (addC a b 6 % W) (1 % W)))]
def vSub0 (a b : Nat → Nat) : AV := .tup [.agg [.ws .u64 6 (subO a b 6)], .sc (.bo (Nat.beq (subC a b 6 % W) (1 % W)))]
theorem vAdd_val (a b : Nat → Nat) (ρ : Ren) : (vAdd0 a b).val ρ = (AV.tup [numV ((nv a + nv b) % R), .sc (.bo (Nat.ble R (nv a + nv b)))]).val ρ := by
  simp only [vAdd0, AV.val, List.map_cons, List.map_nil]
  rw [numV_val (n := (nv a + nv b) % R) (by rw [(add_sum a b).1, Nat.mod_mod]) ρ, (add_sum a b).2]
theorem vSub_val (a b : Nat → Nat) (ρ : Ren) : (vSub0 a b).val ρ = (AV.tup [numV ((nv a + R - nv b) % R), .sc (.bo (Nat.blt (nv a) (nv b)))]).val ρ := by
  simp only [vSub0, AV.val, List.map_cons, List.map_nil]
  rw [numV_val (n := (nv a + R - nv b) % R) (by rw [(sub_diff a b).1, Nat.mod_mod]) ρ, (sub_diff a b).2]

/-! Compare -/
def cCmp : List AV → Option (List Prop × AV)
  | [.v1 (.agg [.ws .u64 6 a]), .v1 (.agg [.ws .u64 6 b])] => some ([], .v1 (.sc (.it (cmpI (nv a) (nv b)))))
  | _ => none
end Go.Proofs.Ytndmoidenbfflaa
