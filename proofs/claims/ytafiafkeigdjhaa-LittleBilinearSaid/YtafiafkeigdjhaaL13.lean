/- little.Near of a suite. -/
import Derived.Test.YtafiafkeigdjhaaL12
namespace Go.Proofs.Ytafiafkeigdjhaa
open Go.Rq Go
set_option linter.unusedVariables false
set_option linter.unusedSimpArgs false
section
variable {s : Int} {p r c gx gy : Nat}
def kNear (s : Int) (p r c gx gy : Nat) : List AV → Option (List Prop × AV)
  | [.v1 (.sc (.it t)), .v1 (.sc (.w .u64 n))] => some ([t = s], .tup [.agg (pC (nearP p (n % W)).x (nearP p (n % W)).y (nearP p (n % W)).z), .sc (.it (Int.ofNat (nearK p (n % W)))), .sc (.it 0)])
  | _ => none
def GNr (s : Int) (p r c gx gy : Nat) : Ctx := ctxL [(42, .pure (kChk0 (fun t => t = s) (chV p r c gx gy 0))), (62, .pure (z1 zRight)), (61, .pure (zn zPow)), (63, .pure (z2 zMul)), (60, .pure (z2 zSub)), (64, .pure (z2 zAdd))]
theorem GNr_ok (hC : CuOk s p r c gx gy) : CtxOk Try.prog (GNr s p r c gx gy) := ctxL_cons (okChk0 hC) <| ctxL_cons okZRight <| ctxL_cons okZPow <| ctxL_cons okZMul <| ctxL_cons okZSub <| ctxL_cons okZAdd ctxL_nil
abbrev VNr (p x k : Nat) : List AV := [uv ((x + k) % p), pt 0 0, pt 2 0, iv (Int.ofNat k)]
abbrev HNr (p r c gx gy : Nat) : Heap := [pB ⟨0, 0, false⟩, none, some ⟨72, cvC p r c gx gy false, 0, 0⟩]
theorem okENear (hC : CuOk s p r c gx gy) : (CallC.pure (kNear s p r c gx gy)).Ok Try.prog 34 := by
  intro args pre v e hp
  unfold kNear at e
  split at e
  rotate_left
  · cases e
  rename_i t n
  cases e
  have hs : t = s := hp _ (by simp)
  have hP : Gp p := hC.gp
  obtain ⟨x, hx⟩ : ∃ x, x = n % W := ⟨_, rfl⟩
  rw [← hx]
  obtain ⟨n1, n2, n3⟩ := near_spec hP x
  obtain ⟨K, hK⟩ : ∃ K, K = nearK p x := ⟨_, rfl⟩
  rw [← hK] at n1 n2 n3
  have hlt := hP.lt
  have hq := quarter_eq hP
  refine pure_walk' tt_ok Try.func34 (by kernel_rfl) (by kernel_rfl) (by rfl) (by rfl) ?_
  refine loopK mixed tt_ok (GNr_ok hC) 0 (by kernel_rfl) (ι := {k // k ≤ K}) [1,4,7,9] 54 3 (fun k => VNr p x k.1) (fun k => HNr p r c gx gy) (fun k => K - k.1) (fun k => False)
    (fun _ => rfl) (fun _ => by kernel_rfl) (fun _ _ h => h.elim) 60 [⟨4,3,.sym⟩] ?_ ?_ (fun _ _ h => h.elim)
  · refine same (p := t = s ∧ Nat.beq (p % W) 0 = false ∧ true = true ∧ ∃ j : {k // k ≤ K}, [uv (n % W % (p % W)), pt 0 0, pt 2 0, iv (Int.ofNat 0)] = VNr p x j.1 ∧ HNr p r c gx gy = HNr p r c gx gy) ?_ (by kernel_rfl)
    refine ⟨hs, by rw [hP.mod]; exact beq_f (by have := hP.pos; omega), rfl, ⟨0, Nat.zero_le _⟩, ?_, rfl⟩
    rw [hP.mod, ← hx]; rfl
  · intro ⟨k, hk⟩ junk
    have hk : k ≤ K := hk
    obtain ⟨X, hX⟩ : ∃ X, X = (x + k) % p := ⟨_, rfl⟩
    have hXl : X < p := by rw [hX]; exact Nat.mod_lt _ hP.pos
    have hRl : zRight p X < p := zRight_lt hP
    have hYl : zPow p (zRight p X) ((p + 1) / 4) < p := zPow_lt hP
    have hb : Nat.beq (zMul p (zPow p (zRight p X) ((p + 1) / 4)) (zPow p (zRight p X) ((p + 1) / 4)) % W) (zRight p X % W) = okX p X := by
      rw [lt_w hP (zMul_lt hP), lt_w hP hRl]; rfl
    show AWq _ _ _ _ ⟨mkT [1,4,7,9] [uv ((x + k) % p), pt 0 0, pt 2 0, iv (Int.ofNat k)] 54 junk, _⟩
    rw [← hX]
    by_cases hkK : k = K
    · have hok : okX p X = true := by rw [hX, hkK]; exact n1
      refine roundF mixed tt_ok (GNr_ok hC) 60 [⟨8,7,.lit (.bo true)⟩] ?_
      refine same (p := Gp p ∧ X < p ∧ Gp p ∧ zRight p X < p ∧ Gp p ∧ zPow p (zRight p X) ((p + 1) % W / 4 % W) < p ∧ zPow p (zRight p X) ((p + 1) % W / 4 % W) < p ∧ Gp p ∧ X < p ∧
        Nat.beq (zMul p (zPow p (zRight p X) ((p + 1) % W / 4 % W)) (zPow p (zRight p X) ((p + 1) % W / 4 % W)) % W) (zRight p X % W) = true ∧ Gp p ∧ 0 < p ∧ zPow p (zRight p X) ((p + 1) % W / 4 % W) < p ∧
        endV (.tup [.agg (pC X (bif Nat.blt (zSub p 0 (zPow p (zRight p X) ((p + 1) % W / 4 % W)) % W) (zPow p (zRight p X) ((p + 1) % W / 4 % W) % W) then zSub p 0 (zPow p (zRight p X) ((p + 1) % W / 4 % W)) else zPow p (zRight p X) ((p + 1) % W / 4 % W)) false), .sc (.it (Int.ofNat k)), .sc (.it 0)])
          (.tup [.agg (pC (nearP p x).x (nearP p x).y (nearP p x).z), .sc (.it (Int.ofNat (nearK p x))), .sc (.it 0)])) ?_ (by kernel_rfl)
      rw [hq]
      refine ⟨hP, hXl, hP, hRl, hP, hYl, hYl, hP, hXl, by rw [hb]; exact hok, hP, hP.pos, hYl, endV_eq ?_⟩
      unfold nearP rootX
      rw [← hK, ← hkK, ← hX]
    · have hok : okX p X = false := by rw [hX]; exact n2 k (by omega)
      refine roundF mixed tt_ok (GNr_ok hC) 60 [⟨8,7,.lit (.bo false)⟩,⟨6,1,.lit (.it (Int.ofNat (k+1)))⟩] ?_
      refine same (p := Gp p ∧ X < p ∧ Gp p ∧ zRight p X < p ∧ Gp p ∧ zPow p (zRight p X) ((p + 1) % W / 4 % W) < p ∧ zPow p (zRight p X) ((p + 1) % W / 4 % W) < p ∧ Gp p ∧ X < p ∧
        Nat.beq (zMul p (zPow p (zRight p X) ((p + 1) % W / 4 % W)) (zPow p (zRight p X) ((p + 1) % W / 4 % W)) % W) (zRight p X % W) = false ∧ Gp p ∧ X < p ∧ 1 < p ∧ wrapI (Int.ofNat k + 1) = Int.ofNat (k + 1) ∧ true = true ∧
        ∃ j : {k // k ≤ K}, K - j.1 < K - k ∧ [uv (zAdd p X 1), pt 0 0, pt 2 0, iv (Int.ofNat (k + 1))] = VNr p x j.1 ∧ HNr p r c gx gy = HNr p r c gx gy) ?_ (by kernel_rfl)
      rw [hq]
      refine ⟨hP, hXl, hP, hRl, hP, hYl, hYl, hP, hXl, by rw [hb]; exact hok, hP, hXl, one_lt hP, wrapI_succ (by omega), rfl, ⟨k + 1, by omega⟩, by simp only; omega, ?_, rfl⟩
      have e : zAdd p X 1 = (x + (k + 1)) % p := by
        rw [hX]; unfold zAdd
        rw [Nat.mod_add_mod]; rfl
      rw [e]
end
end Go.Proofs.Ytafiafkeigdjhaa
