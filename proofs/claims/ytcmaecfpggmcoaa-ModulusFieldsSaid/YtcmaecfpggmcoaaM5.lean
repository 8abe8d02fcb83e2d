/- A modulus is made; awake. -/
import Derived.Test.YtcmaecfpggmcoaaM4
import Derived.Test.YtcmaecfpggmcoaaFwS
namespace Go.Proofs.Ytcmaecfpggmcoaa
open Go.Rq Go

/-! New -/
def newL (a : Nat → Nat) : Nat := 0 + (W - nwt (a 0) 6 % W)
def MayM (N : Nat) : Prop := N % 2 = 1 ∧ blen N ≤ 382 ∧ 3 ≤ N
theorem may_ok {a w : Nat → Nat} (h : MayM (nv a)) (hw : nv w = R * R % nv a) : ModI a (newL a) w := by
  obtain ⟨h1, h2, h3⟩ := h
  have ho : a 0 % 2 = 1 := by
    have e : nv a % 2 = a 0 % W % 2 := by
      unfold nv
      generalize a 1 % W + W * (a 2 % W + W * (a 3 % W + W * (a 4 % W + W * (a 5 % W)))) = z
      simp only [W]
      omega
    rw [e] at h1
    simp only [W] at h1
    omega
  refine ⟨h1, h3, ?_, ?_, hw⟩
  · have := lt_blen (nv a)
    have h4 : nv a < 2 ^ (E - 2) := Nat.lt_of_lt_of_le this (Nat.pow_le_pow_right (by omega) (by rw [E_eq]; omega))
    have h5 : R = 2 ^ (E - 2) * 4 := by rw [R_pow, show (4 : Nat) = 2 ^ 2 from rfl, ← Nat.pow_add]; congr 1
    rw [h5]; omega
  · have := low_gen (w := W) (x := a 0) (v := nwt (a 0) 6) (by decide) (nwt_six ho)
    unfold newL
    rw [Nat.zero_add]
    rw [Nat.add_mod, Nat.mul_mod] at this
    rw [Nat.add_mod, Nat.mul_mod, Nat.mod_mod, Nat.mod_mod]
    rw [Nat.mod_mod] at this
    exact this
def cNew (args : List AV) (h : Heap) (slot : Nat) : Option (List Prop × AV × Heap) :=
  match args with
  | [.v1 (.agg [.ws .u64 6 a])] => match isHole h slot with
    | true => some ([MayM (nv a)], .tup [.sc (.pt slot 0), .sc (.it 0)], hset h slot ⟨53, mCs a (newL a) (wd (R * R % nv a)), 0, 0⟩)
    | false => none
  | _ => none
def GNw : Ctx := ctxL [(34, .pure cOf), (45, .pure cLen), (35, .pure cCmp), (47, .pure cShift), (46, .rd (CM fLess))]
theorem GNw_ok : CtxOk Try.prog GNw := ctxL_cons okOf <| ctxL_cons okLen <| ctxL_cons okCmp <| ctxL_cons okShift <| ctxL_cons okLess ctxL_nil
def VNw (i : Nat) : List AV := [pt 4 0, pt 6 0, iv (Int.ofNat i)]
def HNw (a x : Nat → Nat) (l : Nat) : Heap := [nb a, none, none, none, some ⟨53, mCs a l (fun _ => 0), 0, 0⟩, none, nb x]
def pw2 (k : Nat) : Nat := 2 ^ k
def InvNw (a : Nat → Nat) (x : Nat × (Nat → Nat)) : Prop := x.1 ≤ 768 ∧ nv x.2 = pw2 x.1 % nv a
theorem ilt_n (k : Nat) (n : Nat) : ilt (Int.ofNat k) (Int.ofNat n) = Nat.blt k n := by
  rw [Bool.eq_iff_iff, ilt_iff, Nat.blt_eq]; simp
theorem nv_small {c : Nat} (h : c < W) : nv (wd (c % W)) = c := by
  rw [nv_wd, Nat.mod_eq_of_lt h, Nat.mod_eq_of_lt (Nat.lt_trans h (by decide))]
theorem dbl_step {N x i : Nat} (hN : 0 < N) (hs : 4 * N ≤ R) (hx : x = pw2 i % N) : nv (wd (lessV N (nv (wd (shiftN x 1 % R))))) = pw2 (i + 1) % N := by
  unfold pw2 at *
  have hlt : x < N := by rw [hx]; exact Nat.mod_lt _ hN
  have e1 : nv (wd (shiftN x 1 % R)) = x * 2 := by
    show nv (wd (x * 2 ^ 1 % R)) = x * 2
    rw [Nat.pow_one, nv_wd, Nat.mod_mod, Nat.mod_eq_of_lt (by omega)]
  have e2 : lessV N (x * 2) < R := by
    rw [lessV_mod (by omega)]
    exact Nat.lt_of_lt_of_le (Nat.mod_lt _ hN) (by omega)
  rw [e1, nv_wd, Nat.mod_eq_of_lt e2, lessV_mod (by omega), hx, Nat.pow_succ, Nat.mul_mod, Nat.mod_mod, ← Nat.mul_mod]
theorem R2_pow : R * R = pw2 (E + E) := by unfold pw2; rw [R_pow, ← Nat.pow_add]
theorem ws64_val {f g : Nat → Nat} (h : nv f = nv g) (ρ : Ren) : cvals ρ [.ws .u64 6 f] = cvals ρ [.ws .u64 6 g] := by
  simp only [cvals, Cell.vals, List.append_nil]
  refine List.map_congr_left fun j hj => ?_
  have hj' := List.mem_range.1 hj
  have e : f j % W = g j % W := by rw [← wd_nv f j hj', ← wd_nv g j hj', h]
  simp only [W] at e
  simp only [M, e]
theorem cvals_cons (ρ : Ren) (c : Cell) (r : List Cell) : cvals ρ (c :: r) = cvals ρ [c] ++ cvals ρ r := by simp [cvals]
theorem mCs_val {n w w' : Nat → Nat} {l : Nat} (h : nv w = nv w') (ρ : Ren) : cvals ρ (mCs n l w) = cvals ρ (mCs n l w') := by
  rw [cvals_cons, cvals_cons ρ (.one _), cvals_cons ρ (.ws .u64 6 n) [.one (.w .u64 l), .ws .u64 6 w'], cvals_cons ρ (.one _) [.ws .u64 6 w'], ws64_val h]

theorem okNew : (CallC.mem cNew).Ok Try.prog 13 := by
  intro args h slot pre v h' e hp
  unfold cNew at e
  split at e
  · rename_i a
    split at e
    · rename_i hh
      cases e
      have hMay : MayM (nv a) := hp _ (List.mem_cons_self ..)
      have hM : ModI a (newL a) (wd (R * R % nv a)) := may_ok hMay (by
        have h3 : 0 < nv a := by have := hMay.2.2; omega
        rw [nv_wd, Nat.mod_eq_of_lt (Nat.lt_trans (Nat.mod_lt _ h3) (nv_lt a))])
      refine mem_walk tt_ok Try.func13 (by kernel_rfl) (by kernel_rfl) [] [4] slot [] [some ⟨53, mCs a (newL a) (wd (R * R % nv a)), 0, 0⟩] (args' := [nm a]) (vK := .tup [.sc (.pt 0 0), .sc (.it 0)])
        (by kernel_rfl) rfl (by kernel_rfl) rfl (by kernel_rfl) (fun i hi => by simp at hi) (by kernel_rfl) (by kernel_rfl) (fun i hi => by
          have : i = 0 := by simpa using hi
          subst this; exact ⟨_, rfl⟩) (by kernel_rfl) ?_ ?_ (fun t ht => by
          have : t = 0 := by simpa using ht
          subst this; exact hh) (fun i _ hi => ?_) ?_
      · show [pickB [slot] (hget (hset h slot _) slot)] = _
        rw [hget_hset_same (isHole_lt hh).1]; rfl
      · show AV.tup [.sc (.pt (bk [slot] slot) 0), .sc (.it 0)] = _
        have : bk [slot] slot = 0 := by simp [bk, idxN]
        rw [this]
      · exact hget_hset_ne fun e => hi 0 (by simp) (by omega)
      · obtain ⟨Z, hZ⟩ : ∃ Z : Nat → Nat, Z = nwt (a 0) := ⟨_, rfl⟩
        refine loopK mixed tt_ok GNw_ok 1 (by kernel_rfl) (ι := {x // InvNw a x}) [4,6,43] 55 7 (fun x => VNw x.1.1) (fun x => HNw a x.1.2 (newL a)) (fun x => 768 - x.1.1) (fun x => x.1.1 = 768)
          (fun _ => rfl) (fun _ => by kernel_rfl) (fun _ _ h => by obtain ⟨_, h⟩ := h; simp [hget] at h) 60
          [⟨1,3,.lit (.bo false)⟩,⟨1,7,.lit (.bo false)⟩,⟨1,13,.lit (.bo false)⟩,⟨7,6,.lit (.w .u64 (Z 1))⟩,⟨7,6,.lit (.w .u64 (Z 2))⟩,⟨7,6,.lit (.w .u64 (Z 3))⟩,⟨7,6,.lit (.w .u64 (Z 4))⟩,⟨7,6,.lit (.w .u64 (Z 5))⟩,⟨7,6,.lit (.w .u64 (Z 6))⟩,⟨9,2,.lit (.w .u64 (newL a))⟩] ?_ ?_ ?_
        · refine same (p := Nat.beq ((a 0 &&& 1) % W) (0 % W) = false ∧ ilt 382 (Int.ofNat (blen (nv a))) = false ∧ ilt (cmpI (nv a) (nv (wd (3 % W)))) 0 = false ∧
            a 0 * (2 + (W - a 0 * a 0 % W)) = Z 1 ∧ Z 1 * (2 + (W - a 0 * Z 1 % W)) = Z 2 ∧ Z 2 * (2 + (W - a 0 * Z 2 % W)) = Z 3 ∧ Z 3 * (2 + (W - a 0 * Z 3 % W)) = Z 4 ∧ Z 4 * (2 + (W - a 0 * Z 4 % W)) = Z 5 ∧ Z 5 * (2 + (W - a 0 * Z 5 % W)) = Z 6 ∧
            0 + (W - Z 6 % W) = newL a ∧ true = true ∧ ∃ j : {x // InvNw a x}, VNw 0 = VNw j.1.1 ∧ HNw a (wd (1 % W)) (newL a) = HNw a j.1.2 (newL a)) ?_ (by kernel_rfl)
          subst hZ
          refine ⟨?_, ?_, ?_, rfl, rfl, rfl, rfl, rfl, rfl, rfl, rfl, ⟨(0, wd (1 % W)), by simp, ?_⟩, rfl, rfl⟩
          · rw [low_bit a 0 (by omega), ← Bool.not_eq_true, Nat.beq_eq]
            have := hMay.1; omega
          · show ilt (Int.ofNat 382) _ = false
            rw [ilt_n, ← Bool.not_eq_true, Nat.blt_eq]
            have := hMay.2.1; omega
          · rw [cmp_lt', nv_small (by decide), ← Bool.not_eq_true, Nat.blt_eq]
            have := hMay.2.2; omega
          · simp only
            rw [nv_one, show pw2 0 = 1 from rfl, Nat.mod_eq_of_lt]
            have := hMay.2.2; omega
        · intro ⟨⟨i, x⟩, hi, hx⟩ junk
          simp only at hi hx
          by_cases h768 : i < 768
          · refine roundF mixed tt_ok GNw_ok 60 [⟨12,0,.lit (.bo true)⟩,⟨14,0,.lit (.it (Int.ofNat (i+1)))⟩] ?_
            refine same (p := ilt (Int.ofNat i) 768 = true ∧ wrapI (Int.ofNat i + 1) = Int.ofNat (i + 1) ∧ true = true ∧ ∃ j : {x // InvNw a x}, 768 - j.1.1 < 768 - i ∧ VNw (i + 1) = VNw j.1.1 ∧ HNw a (wd (lessV (nv a) (nv (wd (shiftN (nv x) 1 % R))))) (newL a) = HNw a j.1.2 (newL a)) ?_ (by kernel_rfl)
            refine ⟨ilt_t (n := 768) h768, wrapI_succ (by omega), rfl, ⟨(i + 1, wd (lessV (nv a) (nv (wd (shiftN (nv x) 1 % R))))), by simp only; omega, ?_⟩, by simp only; omega, rfl, rfl⟩
            exact dbl_step hM.pos hM.small hx
          · have : i = 768 := by omega
            subst this
            refine roundF mixed tt_ok GNw_ok 60 [] ?_
            refine same (p := true = true ∧ ∃ j : {x // InvNw a x}, j.1.1 = 768 ∧ VNw 768 = VNw j.1.1 ∧ HNw a x (newL a) = HNw a j.1.2 (newL a)) ?_ (by kernel_rfl)
            exact ⟨rfl, ⟨(768, x), hi, hx⟩, rfl, rfl, rfl⟩
        · intro ⟨⟨i, x⟩, hi, hx⟩ junk h768
          simp only at hi hx h768
          subst h768
          refine evS_q mixed tt_ok GNw_ok 60 [] ?_
          refine same (p := true = true ∧ true = true ∧ SimH [some ⟨53, mCs a (newL a) x, 0, 0⟩] [some ⟨53, mCs a (newL a) (wd (R * R % nv a)), 0, 0⟩] ∧ ∃ v', some (AV.tup [.sc (.pt 4 0), .sc (.it 0)]) = some v' ∧ avB [some ⟨53, mCs a (newL a) x, 0, 0⟩] (bkAV [4] v') = true ∧ ∀ ρ, (bkAV [4] v').val ρ = (AV.tup [.sc (.pt 0 0), .sc (.it 0)]).val ρ) ?_ (by kernel_rfl)
          refine ⟨rfl, rfl, ⟨⟨rfl, rfl, rfl, fun ρ => mCs_val ?_ ρ⟩, trivial⟩, _, rfl, rfl, fun _ => rfl⟩
          rw [hM.wide, R2_pow, hx]
          rfl
    · cases e
  · cases e

/-- None is made of a number that may be none. -/
def cNewNo : List AV → Option (List Prop × AV)
  | [.v1 (.agg [.ws .u64 6 a])] => some ([¬ MayM (nv a)], .tup [.sc (.rw (.pointer none)), .sc (.it 2)])
  | _ => none
theorem okNewNo : (CallC.pure cNewNo).Ok Try.prog 13 := by
  intro args pre v e hp
  unfold cNewNo at e
  split at e
  · rename_i a
    cases e
    have hMay : ¬ MayM (nv a) := hp _ (List.mem_cons_self ..)
    cases h1 : Nat.beq (nv a % 2) 0
    · have h1' : nv a % 2 ≠ 0 := fun e => by rw [← Nat.beq_eq, h1] at e; cases e
      cases h2 : Nat.blt 382 (blen (nv a))
      · have h2' : ¬ 382 < blen (nv a) := by rw [← Nat.blt_eq, h2]; simp
        have h3 : nv a < 3 := by
          refine Classical.byContradiction fun hh => hMay ⟨by omega, by omega, by omega⟩
        refine pure_fn mixed tt_ok GNw_ok Try.func13 (by kernel_rfl) (by kernel_rfl) (by kernel_rfl) (by kernel_rfl) 60 [⟨1,3,.lit (.bo false)⟩,⟨1,7,.lit (.bo false)⟩,⟨1,13,.lit (.bo true)⟩] ?_
        refine same (p := Nat.beq ((a 0 &&& 1) % W) (0 % W) = false ∧ ilt 382 (Int.ofNat (blen (nv a))) = false ∧ ilt (cmpI (nv a) (nv (wd (3 % W)))) 0 = true ∧ some (AV.tup [.sc (.rw (.pointer none)), .sc (.it 2)]) = some (AV.tup [.sc (.rw (.pointer none)), .sc (.it 2)])) ?_ (by kernel_rfl)
        exact ⟨by rw [low_bit a 0 (by omega), h1], by show ilt (Int.ofNat 382) _ = false; rw [ilt_n, h2], by rw [cmp_lt', nv_small (by decide), Nat.blt_eq]; exact h3, rfl⟩
      · refine pure_fn mixed tt_ok GNw_ok Try.func13 (by kernel_rfl) (by kernel_rfl) (by kernel_rfl) (by kernel_rfl) 60 [⟨1,3,.lit (.bo false)⟩,⟨1,7,.lit (.bo true)⟩] ?_
        refine same (p := Nat.beq ((a 0 &&& 1) % W) (0 % W) = false ∧ ilt 382 (Int.ofNat (blen (nv a))) = true ∧ some (AV.tup [.sc (.rw (.pointer none)), .sc (.it 2)]) = some (AV.tup [.sc (.rw (.pointer none)), .sc (.it 2)])) ?_ (by kernel_rfl)
        exact ⟨by rw [low_bit a 0 (by omega), h1], by show ilt (Int.ofNat 382) _ = true; rw [ilt_n, h2], rfl⟩
    · refine pure_fn mixed tt_ok GNw_ok Try.func13 (by kernel_rfl) (by kernel_rfl) (by kernel_rfl) (by kernel_rfl) 60 [⟨1,3,.lit (.bo true)⟩] ?_
      refine same (p := Nat.beq ((a 0 &&& 1) % W) (0 % W) = true ∧ some (AV.tup [.sc (.rw (.pointer none)), .sc (.it 2)]) = some (AV.tup [.sc (.rw (.pointer none)), .sc (.it 2)])) ?_ (by kernel_rfl)
      exact ⟨by rw [low_bit a 0 (by omega), h1], rfl⟩
  · cases e
end Go.Proofs.Ytcmaecfpggmcoaa
