/- The point near a number, by the document. Printed by genl11.py. -/
import Derived.Test.YtafiafkeigdjhaaL10
import Derived.Test.YtafiafkeigdjhaaWZ4
namespace Go.Proofs.Ytafiafkeigdjhaa
open Go.Rq Go
set_option linter.unusedVariables false
set_option linter.unusedSimpArgs false
theorem quarter_eq {p : Nat} (hP : Gp p) : (p + 1) % W / 4 % W = (p + 1) / 4 := by
  have := hP.lt
  have e : (p + 1) % W = p + 1 := Nat.mod_eq_of_lt (by simp only [W]; omega)
  rw [e]
  exact Nat.mod_eq_of_lt (by simp only [W]; omega)
def y2n : List AV → Option (List Prop × AV)
  | [.v1 (.agg [.one (.w .u64 p), .one (.w .u64 r), .one (.w .u64 c), .one (.w .u64 gx), .one (.w .u64 gy), .one (.bo gz)]), .v1 (.sc (.w .u64 n))] => some ([Gp p], .tup [.agg (pC (nearP p (n % W)).x (nearP p (n % W)).y (nearP p (n % W)).z), .sc (.it (Int.ofNat (nearK p (n % W))))])
  | _ => none
def GNr' : Ctx := ctxL [(47, .pure (z1 zRight)), (65, .pure (zn zPow)), (46, .pure (z2 zMul)), (66, .pure (z1 fun p b => zSub p 0 b)), (53, .pure (z2 zAdd))]
theorem GNr'_ok : CtxOk Try.prog GNr' := ctxL_cons okZRight' <| ctxL_cons okZPow' <| ctxL_cons okZMul' <| ctxL_cons okZNeg' <| ctxL_cons okZAdd' ctxL_nil
abbrev VNr' (p x k : Nat) : List AV := [uv ((x + k) % p), pt 0 0, pt 1 0, iv (Int.ofNat k)]
abbrev HNr' (p r c gx gy : Nat) (gz : Bool) : Heap := [some ⟨29, cvC p r c gx gy gz, 0, 0⟩, pB ⟨0, 0, false⟩]
theorem okNear' : (CallC.pure y2n).Ok Try.prog 37 := by
  intro args pre v e hp
  unfold y2n at e
  split at e
  rotate_left
  · cases e
  rename_i p r c gx gy gz n
  cases e
  have hP : Gp p := hp _ (by simp)
  obtain ⟨x, hx⟩ : ∃ x, x = n % W := ⟨_, rfl⟩
  rw [← hx]
  obtain ⟨n1, n2, n3⟩ := near_spec hP x
  obtain ⟨K, hK⟩ : ∃ K, K = nearK p x := ⟨_, rfl⟩
  rw [← hK] at n1 n2 n3
  have hlt := hP.lt
  have hq := quarter_eq hP
  refine pure_walk' tt_ok Try.func37 (by kernel_rfl) (by kernel_rfl) (by rfl) (by rfl) ?_
  refine loopK mixed tt_ok GNr'_ok 0 (by kernel_rfl) (ι := {k // k ≤ K}) [1,2,4,6] 42 2 (fun k => VNr' p x k.1) (fun k => HNr' p r c gx gy gz) (fun k => K - k.1) (fun k => False)
    (fun _ => rfl) (fun _ => by kernel_rfl) (fun _ _ h => h.elim) 60 [⟨1,3,.sym⟩] ?_ ?_ (fun _ _ h => h.elim)
  · refine same (p := Nat.beq (p % W) 0 = false ∧ true = true ∧ ∃ j : {k // k ≤ K}, [uv (n % W % (p % W)), pt 0 0, pt 1 0, iv (Int.ofNat 0)] = VNr' p x j.1 ∧ HNr' p r c gx gy gz = HNr' p r c gx gy gz) ?_ (by kernel_rfl)
    refine ⟨by rw [hP.mod]; exact beq_f (by have := hP.pos; omega), rfl, ⟨0, Nat.zero_le _⟩, ?_, rfl⟩
    rw [hP.mod, ← hx]; rfl
  · intro ⟨k, hk⟩ junk
    have hk : k ≤ K := hk
    obtain ⟨X, hX⟩ : ∃ X, X = (x + k) % p := ⟨_, rfl⟩
    have hXl : X < p := by rw [hX]; exact Nat.mod_lt _ hP.pos
    have hRl : zRight p X < p := zRight_lt hP
    have hYl : zPow p (zRight p X) ((p + 1) / 4) < p := zPow_lt hP
    have hb : Nat.beq (zMul p (zPow p (zRight p X) ((p + 1) / 4)) (zPow p (zRight p X) ((p + 1) / 4)) % W) (zRight p X % W) = okX p X := by
      rw [lt_w hP (zMul_lt hP), lt_w hP hRl]; rfl
    show AWq _ _ _ _ ⟨mkT [1,2,4,6] [uv ((x + k) % p), pt 0 0, pt 1 0, iv (Int.ofNat k)] 42 junk, _⟩
    rw [← hX]
    by_cases hkK : k = K
    · have hok : okX p X = true := by rw [hX, hkK]; exact n1
      refine roundF mixed tt_ok GNr'_ok 60 [⟨6,5,.lit (.bo true)⟩] ?_
      refine same (p := Gp p ∧ X < p ∧ Gp p ∧ zRight p X < p ∧ Gp p ∧ zPow p (zRight p X) ((p + 1) % W / 4 % W) < p ∧ zPow p (zRight p X) ((p + 1) % W / 4 % W) < p ∧
        Nat.beq (zMul p (zPow p (zRight p X) ((p + 1) % W / 4 % W)) (zPow p (zRight p X) ((p + 1) % W / 4 % W)) % W) (zRight p X % W) = true ∧ Gp p ∧ zPow p (zRight p X) ((p + 1) % W / 4 % W) < p ∧
        endV (.tup [.agg (pC X (bif Nat.blt (zSub p 0 (zPow p (zRight p X) ((p + 1) % W / 4 % W)) % W) (zPow p (zRight p X) ((p + 1) % W / 4 % W) % W) then zSub p 0 (zPow p (zRight p X) ((p + 1) % W / 4 % W)) else zPow p (zRight p X) ((p + 1) % W / 4 % W)) false), .sc (.it (Int.ofNat k))])
          (.tup [.agg (pC (nearP p x).x (nearP p x).y (nearP p x).z), .sc (.it (Int.ofNat (nearK p x)))])) ?_ (by kernel_rfl)
      rw [hq]
      refine ⟨hP, hXl, hP, hRl, hP, hYl, hYl, by rw [hb]; exact hok, hP, hYl, endV_eq ?_⟩
      unfold nearP rootX
      rw [← hK, ← hkK, ← hX]
    · have hok : okX p X = false := by rw [hX]; exact n2 k (by omega)
      refine roundF mixed tt_ok GNr'_ok 60 [⟨6,5,.lit (.bo false)⟩,⟨3,1,.lit (.it (Int.ofNat (k+1)))⟩] ?_
      refine same (p := Gp p ∧ X < p ∧ Gp p ∧ zRight p X < p ∧ Gp p ∧ zPow p (zRight p X) ((p + 1) % W / 4 % W) < p ∧ zPow p (zRight p X) ((p + 1) % W / 4 % W) < p ∧
        Nat.beq (zMul p (zPow p (zRight p X) ((p + 1) % W / 4 % W)) (zPow p (zRight p X) ((p + 1) % W / 4 % W)) % W) (zRight p X % W) = false ∧ Gp p ∧ X < p ∧ 1 < p ∧ wrapI (Int.ofNat k + 1) = Int.ofNat (k + 1) ∧ true = true ∧
        ∃ j : {k // k ≤ K}, K - j.1 < K - k ∧ [uv (zAdd p X 1), pt 0 0, pt 1 0, iv (Int.ofNat (k + 1))] = VNr' p x j.1 ∧ HNr' p r c gx gy gz = HNr' p r c gx gy gz) ?_ (by kernel_rfl)
      rw [hq]
      refine ⟨hP, hXl, hP, hRl, hP, hYl, hYl, by rw [hb]; exact hok, hP, hXl, one_lt hP, wrapI_succ (by omega), rfl, ⟨k + 1, by omega⟩, by simp only; omega, ?_, rfl⟩
      have e : zAdd p X 1 = (x + (k + 1)) % p := by
        rw [hX]; unfold zAdd
        rw [Nat.mod_add_mod]; rfl
      rw [e]
end Go.Proofs.Ytafiafkeigdjhaa
