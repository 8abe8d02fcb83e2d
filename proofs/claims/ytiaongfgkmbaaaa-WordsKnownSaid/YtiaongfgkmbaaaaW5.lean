/- Division, off its loops. -/
import Derived.Test.YtiaongfgkmbaaaaW4
import Derived.Test.YtiaongfgkmbaaaaWM4
namespace Go.Proofs.Ytiaongfgkmbaaaa
open Go.Rq Go

def GD : Ctx := ctxL [(36, .pure cLen), (34, .pure cBit), (35, .pure cBit), (32, .pure cShift), (26, .pure cCmp), (27, .pure cCmp), (24, .pure cSub), (25, .pure cSub), (23, .pure cAdd)]
theorem GD_ok : CtxOk Try.prog GD := ctxL_cons okLen <| ctxL_cons okBit <| ctxL_cons okBit' <| ctxL_cons okShift <| ctxL_cons okCmp <| ctxL_cons okCmp' <| ctxL_cons okSub <| ctxL_cons okSub' <| ctxL_cons okAdd' ctxL_nil

def divV (x y : Nat) : AV := match Nat.beq y 0 with
  | true => .tup [numV 0, numV 0, .sc (.it 2)]
  | false => .tup [numV (x / y), numV (x % y), .sc (.it 0)]
def cDiv : List AV → Option (List Prop × AV)
  | [.v1 (.agg [.ws .u64 6 a]), .v1 (.agg [.ws .u64 6 b])] => some ([], divV (nv a) (nv b))
  | _ => none
def VQ (k : Nat) : List AV := [pt 0 0, pt 1 0, pt 2 0, pt 3 0, pt 4 0, pt 5 0, iv (predI k)]
def HQ (a b q r : Nat → Nat) : Heap := [nb a, nb b, nb (fun _ => 0), nb (fun _ => 0), nb q, nb r]
def InvQ (a b : Nat → Nat) (x : Nat × (Nat → Nat) × (Nat → Nat)) : Prop := x.1 ≤ 384 ∧ DivI (nv a) (nv b) x.1 (nv x.2.1) (nv x.2.2)
theorem divV_ok (x y : Nat) : vokB (divV x y) = true := by
  unfold divV; cases Nat.beq y 0 <;> rfl

theorem okDiv : (CallC.pure cDiv).Ok Try.prog 30 := by
  intro args pre v h _
  unfold cDiv at h
  split at h
  · rename_i a b
    cases h
    cases hz : Nat.beq (nv b) 0
    · have hB : 0 < nv b := by
        have : nv b ≠ 0 := fun e => by rw [← Nat.beq_eq, hz] at e; cases e
        omega
      have hBR := nv_lt b
      have hAR : nv a < 2 ^ E := by have := nv_lt a; rw [R_pow] at this; exact this
      have he : (eqN W 6 b (fun _ => 0) && true) = false := by rw [eqN_nv, hz]; rfl
      have hv : divV (nv a) (nv b) = .tup [numV (nv a / nv b), numV (nv a % nv b), .sc (.it 0)] := by unfold divV; rw [hz]
      rw [hv]
      refine pure_walk' tt_ok Try.func30 (by kernel_rfl) (by kernel_rfl) (by kernel_rfl) (by kernel_rfl) ?_
      refine loopF mixed tt_ok GD_ok (by kernel_rfl) (ι := {x // InvQ a b x}) [2,3,4,5,7,8,9] 61 6 (fun x => VQ x.1.1) (fun x => HQ a b x.1.2.1 x.1.2.2) (fun x => x.1.1) (fun x => x.1.1 = 0)
        (fun _ => rfl) (fun _ => by kernel_rfl) (fun _ _ h => h.elim) 60 [⟨1,2,.lit (.bo false)⟩, ⟨4,2,.lit (.it (predI (blen (nv a))))⟩] ?_ ?_ ?_
      · refine same (p := (eqN W 6 b (fun _ => 0) && true) = false ∧ wrapI (Int.ofNat (blen (nv a)) - 1) = predI (blen (nv a)) ∧ true = true ∧ ∃ j : {x // InvQ a b x}, VQ (blen (nv a)) = VQ j.1.1 ∧ HQ a b (fun _ => 0) (fun _ => 0) = HQ a b j.1.2.1 j.1.2.2) ?_ (by kernel_rfl)
        refine ⟨he, predI_eq (by have := blen_lt hAR; rw [E_eq] at this; omega), rfl, ⟨((blen (nv a)), (fun _ => 0), (fun _ => 0)), by have := blen_lt hAR; rw [E_eq] at this; simp only; omega, by simp only [zero_nv]; exact DivI.start hB (lt_blen _)⟩, rfl, rfl⟩
      · intro ⟨⟨k, q, r⟩, hk, hd⟩ junk
        simp only at hk hd
        cases k with
        | zero =>
          refine roundF mixed tt_ok GD_ok 60 [] ?_
          refine same (p := true = true ∧ ∃ j : {x // InvQ a b x}, j.1.1 = 0 ∧ VQ 0 = VQ j.1.1 ∧ HQ a b q r = HQ a b j.1.2.1 j.1.2.2) ?_ (by kernel_rfl)
          exact ⟨rfl, ⟨(0, q, r), hk, hd⟩, rfl, rfl, rfl⟩
        | succ k =>
          have hk : k < 384 := by omega
          have h64 : k / 64 < 6 := by omega
          have hge : (!ilt (Int.ofNat k) 0) = true := by rw [ilt_not (by simp)]; rfl
          have hs : wrapI (Int.ofNat k - 1) = predI k := predI_eq (by omega)
          have ds := div_step hd hBR hk (N := shiftN (nv r) 1 % R) (by rw [show shiftN (nv r) 1 = nv r * 2 ^ 1 from rfl]; congr 1; omega)
          have next : ∀ q' r', DivI (nv a) (nv b) k (nv q') (nv r') → ∃ j : {x // InvQ a b x}, j.1.1 < k + 1 ∧ VQ k = VQ j.1.1 ∧ HQ a b q' r' = HQ a b j.1.2.1 j.1.2.2 :=
            fun q' r' hd' => ⟨⟨(k, q', r'), by simp only; omega, hd'⟩, by simp only; omega, rfl, rfl⟩
          cases ht : Nat.ble R (2 * nv r)
          · have ht' : ¬ R ≤ 2 * nv r := by rw [← Nat.ble_eq, ht]; simp
            cases hc : Nat.ble (nv b) (nv (dIn (shiftN (nv r) 1 % R) (nv a) k))
            · have hc' : ¬ nv b ≤ nv (dIn (shiftN (nv r) 1 % R) (nv a) k) := by rw [← Nat.ble_eq, hc]; simp
              refine roundF mixed tt_ok GD_ok 60 [⟨5,1,.lit (.bo true)⟩, ⟨10,1,.lit (.bo false)⟩, ⟨10,6,.lit (.bo false)⟩, ⟨6,1,.lit (.it (predI k))⟩] ?_
              refine same (p := (!ilt (Int.ofNat k) 0) = true ∧ Nat.beq (r 5 % W / 2 ^ min 63 64 % W) (1 % W) = false ∧ (!ilt (cmpI (nv (dIn (shiftN (nv r) 1 % R) (nv a) k)) (nv b)) 0) = false ∧ wrapI (Int.ofNat k - 1) = predI k ∧
                true = true ∧ ∃ j : {x // InvQ a b x}, j.1.1 < k + 1 ∧ VQ k = VQ j.1.1 ∧ HQ a b q (dIn (shiftN (nv r) 1 % R) (nv a) k) = HQ a b j.1.2.1 j.1.2.2) ?_ (by kernel_rfl)
              exact ⟨hge, by rw [top_bit, ht], by rw [cmp_ge, hc], hs, rfl, next _ _ (ds.2 ht' hc')⟩
            · have hc' : nv b ≤ nv (dIn (shiftN (nv r) 1 % R) (nv a) k) := by rw [← Nat.ble_eq, hc]
              refine roundF mixed tt_ok GD_ok 60 [⟨5,1,.lit (.bo true)⟩, ⟨10,1,.lit (.bo false)⟩, ⟨10,6,.lit (.bo true)⟩, ⟨12,1,.lit (.it (Int.ofNat (k/64)))⟩, ⟨12,2,.sym⟩, ⟨12,3,.sym⟩, ⟨12,5,.lit (.it (Int.ofNat (k%64)))⟩, ⟨12,8,.sym⟩, ⟨12,9,.sym⟩, ⟨6,1,.lit (.it (predI k))⟩] ?_
              refine same (p := (!ilt (Int.ofNat k) 0) = true ∧ Nat.beq (r 5 % W / 2 ^ min 63 64 % W) (1 % W) = false ∧ (!ilt (cmpI (nv (dIn (shiftN (nv r) 1 % R) (nv a) k)) (nv b)) 0) = true ∧ wrapI ((Int.ofNat k).tdiv 64) = Int.ofNat (k / 64) ∧
                ix (k / 64) 6 ((Int.ofNat k).tmod 64 = Int.ofNat (k % 64) ∧ ix (k / 64) 6 (wrapI (Int.ofNat k - 1) = predI k ∧
                true = true ∧ ∃ j : {x // InvQ a b x}, j.1.1 < k + 1 ∧ VQ k = VQ j.1.1 ∧ HQ a b (upd q (k / 64) (q (k / 64) ||| 1 * 2 ^ min (k % 64) 64)) (wd ((nv (dIn (shiftN (nv r) 1 % R) (nv a) k) + R - nv b) % R)) = HQ a b j.1.2.1 j.1.2.2))) ?_ (by kernel_rfl)
              exact ⟨hge, by rw [top_bit, ht], by rw [cmp_ge, hc], tdiv64 ⟨k, hk⟩, ix_of h64 ⟨tmod64 ⟨k, hk⟩, ix_of h64 ⟨hs, rfl, next _ _ (ds.1 (.inr hc'))⟩⟩⟩
          · have ht' : R ≤ 2 * nv r := by rw [← Nat.ble_eq, ht]
            refine roundF mixed tt_ok GD_ok 60 [⟨5,1,.lit (.bo true)⟩, ⟨10,1,.lit (.bo true)⟩, ⟨12,1,.lit (.it (Int.ofNat (k/64)))⟩, ⟨12,2,.sym⟩, ⟨12,3,.sym⟩, ⟨12,5,.lit (.it (Int.ofNat (k%64)))⟩, ⟨12,8,.sym⟩, ⟨12,9,.sym⟩, ⟨6,1,.lit (.it (predI k))⟩] ?_
            refine same (p := (!ilt (Int.ofNat k) 0) = true ∧ Nat.beq (r 5 % W / 2 ^ min 63 64 % W) (1 % W) = true ∧ wrapI ((Int.ofNat k).tdiv 64) = Int.ofNat (k / 64) ∧
                ix (k / 64) 6 ((Int.ofNat k).tmod 64 = Int.ofNat (k % 64) ∧ ix (k / 64) 6 (wrapI (Int.ofNat k - 1) = predI k ∧
                true = true ∧ ∃ j : {x // InvQ a b x}, j.1.1 < k + 1 ∧ VQ k = VQ j.1.1 ∧ HQ a b (upd q (k / 64) (q (k / 64) ||| 1 * 2 ^ min (k % 64) 64)) (wd ((nv (dIn (shiftN (nv r) 1 % R) (nv a) k) + R - nv b) % R)) = HQ a b j.1.2.1 j.1.2.2))) ?_ (by kernel_rfl)
            exact ⟨hge, by rw [top_bit, ht], tdiv64 ⟨k, hk⟩, ix_of h64 ⟨tmod64 ⟨k, hk⟩, ix_of h64 ⟨hs, rfl, next _ _ (ds.1 (.inl ht'))⟩⟩⟩
      · intro ⟨⟨k, q, r⟩, hk, hd⟩ junk h6
        simp only at hk hd h6
        subst h6
        refine same (p := ∃ v', some (AV.tup [.agg [.ws .u64 6 q], .agg [.ws .u64 6 r], .sc (.it 0)]) = some v' ∧ ∀ ρ, v'.val ρ = (AV.tup [numV (nv a / nv b), numV (nv a % nv b), .sc (.it 0)]).val ρ) ?_ (by kernel_rfl)
        refine ⟨_, rfl, fun ρ => ?_⟩
        simp only [AV.val, List.map_cons, List.map_nil]
        rw [numV_val (n := nv a / nv b) (by rw [← hd.fin.1, Nat.mod_eq_of_lt (nv_lt q)]) ρ, numV_val (n := nv a % nv b) (by rw [← hd.fin.2, Nat.mod_eq_of_lt (nv_lt r)]) ρ]
    · intro h
      have he : (eqN W 6 b (fun _ => 0) && true) = true := by rw [eqN_nv, hz]; rfl
      have hv : divV (nv a) (nv b) = .tup [numV 0, numV 0, .sc (.it 2)] := by unfold divV; rw [hz]
      rw [hv]
      refine CallOk.congr (v := .tup [.agg [.ws .u64 6 (fun _ => 0)], .agg [.ws .u64 6 (fun _ => 0)], .sc (.it 2)]) ?_ (fun ρ => by
        simp only [AV.val, List.map_cons, List.map_nil]
        rw [numV_val (n := 0) (by rw [zero_nv]; rfl) ρ]) (by kernel_rfl)
      refine pure_fn mixed tt_ok GD_ok Try.func30 (by kernel_rfl) (by kernel_rfl) (by kernel_rfl) (by kernel_rfl) 60 [⟨1,2,.lit (.bo true)⟩] ?_ h
      exact same (p := (eqN W 6 b (fun _ => 0) && true) = true ∧ some (AV.tup [.agg [.ws .u64 6 (fun _ => 0)], .agg [.ws .u64 6 (fun _ => 0)], .sc (.it 2)]) = some (AV.tup [.agg [.ws .u64 6 (fun _ => 0)], .agg [.ws .u64 6 (fun _ => 0)], .sc (.it 2)])) ⟨he, rfl⟩ (by kernel_rfl)
  · cases h

theorem okDiv' : (CallC.pure cDiv).Ok Try.prog 31 := by
  intro args pre v h _
  unfold cDiv at h
  split at h
  · rename_i a b
    cases h
    cases hz : Nat.beq (nv b) 0
    · have hB : 0 < nv b := by
        have : nv b ≠ 0 := fun e => by rw [← Nat.beq_eq, hz] at e; cases e
        omega
      have hBR := nv_lt b
      have hAR : nv a < 2 ^ E := by have := nv_lt a; rw [R_pow] at this; exact this
      have he : (eqN W 6 b (fun _ => 0) && true) = false := by rw [eqN_nv, hz]; rfl
      have hv : divV (nv a) (nv b) = .tup [numV (nv a / nv b), numV (nv a % nv b), .sc (.it 0)] := by unfold divV; rw [hz]
      rw [hv]
      refine pure_walk' tt_ok Try.func31 (by kernel_rfl) (by kernel_rfl) (by kernel_rfl) (by kernel_rfl) ?_
      refine loopF mixed tt_ok GD_ok (by kernel_rfl) (ι := {x // InvQ a b x}) [2,3,4,5,7,8,9] 64 6 (fun x => VQ x.1.1) (fun x => HQ a b x.1.2.1 x.1.2.2) (fun x => x.1.1) (fun x => x.1.1 = 0)
        (fun _ => rfl) (fun _ => by kernel_rfl) (fun _ _ h => h.elim) 60 [⟨2,2,.lit (.bo false)⟩] ?_ ?_ ?_
      · refine same (p := (eqN W 6 b (fun _ => 0) && true) = false ∧ true = true ∧ ∃ j : {x // InvQ a b x}, VQ 384 = VQ j.1.1 ∧ HQ a b (fun _ => 0) (fun _ => 0) = HQ a b j.1.2.1 j.1.2.2) ?_ (by kernel_rfl)
        refine ⟨he, rfl, ⟨(384, (fun _ => 0), (fun _ => 0)), by simp, by simp only [zero_nv]; exact (DivI.start hB hAR : DivI (nv a) (nv b) E 0 0)⟩, rfl, rfl⟩
      · intro ⟨⟨k, q, r⟩, hk, hd⟩ junk
        simp only at hk hd
        cases k with
        | zero =>
          refine roundF mixed tt_ok GD_ok 60 [] ?_
          refine same (p := true = true ∧ ∃ j : {x // InvQ a b x}, j.1.1 = 0 ∧ VQ 0 = VQ j.1.1 ∧ HQ a b q r = HQ a b j.1.2.1 j.1.2.2) ?_ (by kernel_rfl)
          exact ⟨rfl, ⟨(0, q, r), hk, hd⟩, rfl, rfl, rfl⟩
        | succ k =>
          have hk : k < 384 := by omega
          have h64 : k / 64 < 6 := by omega
          have hge : (!ilt (Int.ofNat k) 0) = true := by rw [ilt_not (by simp)]; rfl
          have hs : wrapI (Int.ofNat k - 1) = predI k := predI_eq (by omega)
          have ds := div_step hd hBR hk (N := (nv r + nv r) % R) (by congr 1; omega)
          have next : ∀ q' r', DivI (nv a) (nv b) k (nv q') (nv r') → ∃ j : {x // InvQ a b x}, j.1.1 < k + 1 ∧ VQ k = VQ j.1.1 ∧ HQ a b q' r' = HQ a b j.1.2.1 j.1.2.2 :=
            fun q' r' hd' => ⟨⟨(k, q', r'), by simp only; omega, hd'⟩, by simp only; omega, rfl, rfl⟩
          cases ht : Nat.ble R (2 * nv r)
          · have ht' : ¬ R ≤ 2 * nv r := by rw [← Nat.ble_eq, ht]; simp
            cases hc : Nat.ble (nv b) (nv (dIn ((nv r + nv r) % R) (nv a) k))
            · have hc' : ¬ nv b ≤ nv (dIn ((nv r + nv r) % R) (nv a) k) := by rw [← Nat.ble_eq, hc]; simp
              refine roundF mixed tt_ok GD_ok 60 [⟨5,1,.lit (.bo true)⟩, ⟨7,3,.lit (.bo false)⟩, ⟨10,5,.lit (.bo false)⟩, ⟨6,1,.lit (.it (predI k))⟩] ?_
              refine same (p := (!ilt (Int.ofNat k) 0) = true ∧ Nat.beq (r 5 % W / 2 ^ min 63 64 % W) (1 % W) = false ∧ (!ilt (cmpI (nv (dIn ((nv r + nv r) % R) (nv a) k)) (nv b)) 0) = false ∧ wrapI (Int.ofNat k - 1) = predI k ∧
                true = true ∧ ∃ j : {x // InvQ a b x}, j.1.1 < k + 1 ∧ VQ k = VQ j.1.1 ∧ HQ a b q (dIn ((nv r + nv r) % R) (nv a) k) = HQ a b j.1.2.1 j.1.2.2) ?_ (by kernel_rfl)
              exact ⟨hge, by rw [top_bit, ht], by rw [cmp_ge, hc], hs, rfl, next _ _ (ds.2 ht' hc')⟩
            · have hc' : nv b ≤ nv (dIn ((nv r + nv r) % R) (nv a) k) := by rw [← Nat.ble_eq, hc]
              refine roundF mixed tt_ok GD_ok 60 [⟨5,1,.lit (.bo true)⟩, ⟨7,3,.lit (.bo false)⟩, ⟨10,5,.lit (.bo true)⟩, ⟨12,1,.lit (.it (Int.ofNat (k/64)))⟩, ⟨12,3,.lit (.it (Int.ofNat (k/64)))⟩, ⟨12,4,.sym⟩, ⟨12,5,.sym⟩, ⟨12,7,.lit (.it (Int.ofNat (k%64)))⟩, ⟨12,10,.sym⟩, ⟨12,11,.sym⟩, ⟨6,1,.lit (.it (predI k))⟩] ?_
              refine same (p := (!ilt (Int.ofNat k) 0) = true ∧ Nat.beq (r 5 % W / 2 ^ min 63 64 % W) (1 % W) = false ∧ (!ilt (cmpI (nv (dIn ((nv r + nv r) % R) (nv a) k)) (nv b)) 0) = true ∧ wrapI ((Int.ofNat k).tdiv 64) = Int.ofNat (k / 64) ∧ wrapI ((Int.ofNat k).tdiv 64) = Int.ofNat (k / 64) ∧
                ix (k / 64) 6 ((Int.ofNat k).tmod 64 = Int.ofNat (k % 64) ∧ ix (k / 64) 6 (wrapI (Int.ofNat k - 1) = predI k ∧
                true = true ∧ ∃ j : {x // InvQ a b x}, j.1.1 < k + 1 ∧ VQ k = VQ j.1.1 ∧ HQ a b (upd q (k / 64) (q (k / 64) ||| 1 * 2 ^ min (k % 64) 64)) (wd ((nv (dIn ((nv r + nv r) % R) (nv a) k) + R - nv b) % R)) = HQ a b j.1.2.1 j.1.2.2))) ?_ (by kernel_rfl)
              exact ⟨hge, by rw [top_bit, ht], by rw [cmp_ge, hc], tdiv64 ⟨k, hk⟩, tdiv64 ⟨k, hk⟩, ix_of h64 ⟨tmod64 ⟨k, hk⟩, ix_of h64 ⟨hs, rfl, next _ _ (ds.1 (.inr hc'))⟩⟩⟩
          · have ht' : R ≤ 2 * nv r := by rw [← Nat.ble_eq, ht]
            refine roundF mixed tt_ok GD_ok 60 [⟨5,1,.lit (.bo true)⟩, ⟨7,3,.lit (.bo true)⟩, ⟨12,1,.lit (.it (Int.ofNat (k/64)))⟩, ⟨12,3,.lit (.it (Int.ofNat (k/64)))⟩, ⟨12,4,.sym⟩, ⟨12,5,.sym⟩, ⟨12,7,.lit (.it (Int.ofNat (k%64)))⟩, ⟨12,10,.sym⟩, ⟨12,11,.sym⟩, ⟨6,1,.lit (.it (predI k))⟩] ?_
            refine same (p := (!ilt (Int.ofNat k) 0) = true ∧ Nat.beq (r 5 % W / 2 ^ min 63 64 % W) (1 % W) = true ∧ wrapI ((Int.ofNat k).tdiv 64) = Int.ofNat (k / 64) ∧ wrapI ((Int.ofNat k).tdiv 64) = Int.ofNat (k / 64) ∧
                ix (k / 64) 6 ((Int.ofNat k).tmod 64 = Int.ofNat (k % 64) ∧ ix (k / 64) 6 (wrapI (Int.ofNat k - 1) = predI k ∧
                true = true ∧ ∃ j : {x // InvQ a b x}, j.1.1 < k + 1 ∧ VQ k = VQ j.1.1 ∧ HQ a b (upd q (k / 64) (q (k / 64) ||| 1 * 2 ^ min (k % 64) 64)) (wd ((nv (dIn ((nv r + nv r) % R) (nv a) k) + R - nv b) % R)) = HQ a b j.1.2.1 j.1.2.2))) ?_ (by kernel_rfl)
            exact ⟨hge, by rw [top_bit, ht], tdiv64 ⟨k, hk⟩, tdiv64 ⟨k, hk⟩, ix_of h64 ⟨tmod64 ⟨k, hk⟩, ix_of h64 ⟨hs, rfl, next _ _ (ds.1 (.inl ht'))⟩⟩⟩
      · intro ⟨⟨k, q, r⟩, hk, hd⟩ junk h6
        simp only at hk hd h6
        subst h6
        refine same (p := ∃ v', some (AV.tup [.agg [.ws .u64 6 q], .agg [.ws .u64 6 r], .sc (.it 0)]) = some v' ∧ ∀ ρ, v'.val ρ = (AV.tup [numV (nv a / nv b), numV (nv a % nv b), .sc (.it 0)]).val ρ) ?_ (by kernel_rfl)
        refine ⟨_, rfl, fun ρ => ?_⟩
        simp only [AV.val, List.map_cons, List.map_nil]
        rw [numV_val (n := nv a / nv b) (by rw [← hd.fin.1, Nat.mod_eq_of_lt (nv_lt q)]) ρ, numV_val (n := nv a % nv b) (by rw [← hd.fin.2, Nat.mod_eq_of_lt (nv_lt r)]) ρ]
    · intro h
      have he : (eqN W 6 b (fun _ => 0) && true) = true := by rw [eqN_nv, hz]; rfl
      have hv : divV (nv a) (nv b) = .tup [numV 0, numV 0, .sc (.it 2)] := by unfold divV; rw [hz]
      rw [hv]
      refine CallOk.congr (v := .tup [.agg [.ws .u64 6 (fun _ => 0)], .agg [.ws .u64 6 (fun _ => 0)], .sc (.it 2)]) ?_ (fun ρ => by
        simp only [AV.val, List.map_cons, List.map_nil]
        rw [numV_val (n := 0) (by rw [zero_nv]; rfl) ρ]) (by kernel_rfl)
      refine pure_fn mixed tt_ok GD_ok Try.func31 (by kernel_rfl) (by kernel_rfl) (by kernel_rfl) (by kernel_rfl) 60 [⟨2,2,.lit (.bo true)⟩] ?_ h
      exact same (p := (eqN W 6 b (fun _ => 0) && true) = true ∧ some (AV.tup [.agg [.ws .u64 6 (fun _ => 0)], .agg [.ws .u64 6 (fun _ => 0)], .sc (.it 2)]) = some (AV.tup [.agg [.ws .u64 6 (fun _ => 0)], .agg [.ws .u64 6 (fun _ => 0)], .sc (.it 2)])) ⟨he, rfl⟩ (by kernel_rfl)
  · cases h
end Go.Proofs.Ytiaongfgkmbaaaa
