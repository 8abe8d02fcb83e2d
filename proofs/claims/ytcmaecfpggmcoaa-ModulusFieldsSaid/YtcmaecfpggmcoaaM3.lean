/- A modulus: powers, halves, inverses. -/
import Derived.Test.YtcmaecfpggmcoaaM2
import Derived.Test.YtcmaecfpggmcoaaWN4
namespace Go.Proofs.Ytcmaecfpggmcoaa
open Go.Rq Go

/-! Pow -/
def GPw : Ctx := ctxL [(48, .rd (CM fNone)), (52, .rd (CM fMont)), (34, .pure cOf), (45, .pure cLen), (58, .pure cBit)]
theorem GPw_ok : CtxOk Try.prog GPw := ctxL_cons okNone <| ctxL_cons okMont <| ctxL_cons okOf <| ctxL_cons okLen <| ctxL_cons okBit ctxL_nil
def fPow (n : Nat → Nat) (l : Nat) (w : Nat → Nat) : List AV → Option (List Prop × AV)
  | [.v1 (.agg [.ws .u64 6 a]), .v1 (.agg [.ws .u64 6 e])] => some ([ModI n l w], numA (powM (nv n) (nv a) (nv e)))
  | _ => none
def VPw (k : Nat) : List AV := [pt 0 0, pt 1 0, pt 2 0, pt 3 0, pt 8 0, pt 9 0, iv (predI k)]
def HPw (y : TypeId) (n : Nat → Nat) (l : Nat) (w a e x o : Nat → Nat) : Heap := [some (mB y n l w), nb a, nb e, nb (fun _ => 0), none, none, none, none, nb x, nb o]
def InvPw (n a e : Nat → Nat) (x : Nat × (Nat → Nat)) : Prop := x.1 ≤ 384 ∧ PowI (nv n) (nv a) (nv e) x.1 (nv x.2)
theorem Dm_cons {x : Blk} {r : Heap} : ∀ j, Dm [some x] j → Dm (some x :: r) j := Dm_one
theorem ilt_nn (k : Nat) : ilt (Int.ofNat k) 0 = false := by rw [← Bool.not_eq_true, ilt_iff]; simp
theorem okPow : (CallC.rd (CM fPow)).Ok Try.prog 31 := by
  refine CM_ok Try.func31 (by kernel_rfl) (by kernel_rfl) fun n l w rest pre v e hp => ?_
  unfold fPow at e
  split at e
  · rename_i a e
    cases e
    rename_i e
    have hM : ModI n l w := hp _ (List.mem_cons_self ..)
    refine ⟨rfl, rfl, fun y => ?_⟩
    have hbl : blen (nv e) ≤ 384 := by
      have := nv_lt e; rw [R_pow] at this
      have := blen_lt this; rw [E_eq] at this; exact this
    obtain ⟨X, hX⟩ : ∃ X : Nat → Nat, X = wd (montV (nv n) (nv a) (nv w)) := ⟨_, rfl⟩
    have hXv : nv X = nv a * R % nv n := by rw [hX, nv_mont hM, hM.wide, mont_in hM.odd]
    refine loopF mixed tt_ok GPw_ok (by kernel_rfl) (ι := {x // InvPw n a e x}) [0,4,5,6,7,8,9] 50 10 (fun x => VPw x.1.1) (fun x => HPw y n l w a e X x.1.2) (fun x => x.1.1) (fun x => x.1.1 = 0)
      (fun _ => rfl) (fun _ => by kernel_rfl) (fun _ => Dm_cons) 60 [⟨4,2,.lit (.it (predI (blen (nv e))))⟩] ?_ ?_ ?_
    · refine same (p := ModI n l w ∧ ModI n l w ∧ (nv a < nv n ∨ nv w < nv n) ∧ ModI n l w ∧ (nv (wd (1 % W)) < nv n ∨ nv w < nv n) ∧ wrapI (Int.ofNat (blen (nv e)) - 1) = predI (blen (nv e)) ∧ true = true ∧
        ∃ j : {x // InvPw n a e x}, VPw (blen (nv e)) = VPw j.1.1 ∧ HPw y n l w a e (wd (montV (nv n) (nv a) (nv w))) (wd (montV (nv n) (nv (wd (1 % W))) (nv w))) = HPw y n l w a e X j.1.2) ?_ (by kernel_rfl)
      refine ⟨hM, hM, .inr hM.wlt, hM, .inr hM.wlt, predI_eq (by omega), rfl, ⟨(blen (nv e), wd (montV (nv n) (nv (wd (1 % W))) (nv w))), hbl, ?_⟩, rfl, by rw [hX]⟩
      simp only
      rw [nv_mont hM, nv_one, hM.wide, mont_in hM.odd]
      exact PowI.start (lt_blen _)
    · intro ⟨⟨k, o⟩, hk, ho⟩ junk
      simp only at hk ho
      cases k with
      | zero =>
        refine roundF mixed tt_ok GPw_ok 60 [] ?_
        refine same (p := true = true ∧ ∃ j : {x // InvPw n a e x}, j.1.1 = 0 ∧ VPw 0 = VPw j.1.1 ∧ HPw y n l w a e X o = HPw y n l w a e X j.1.2) ?_ (by kernel_rfl)
        exact ⟨rfl, ⟨(0, o), hk, ho⟩, rfl, rfl, rfl⟩
      | succ k =>
        have st := ho.step hM.odd hXv
        have hol := ho.lt hM.pos
        have hge : (!ilt (Int.ofNat k) 0) = true := by rw [ilt_nn]; rfl
        have hs : wrapI (Int.ofNat k - 1) = predI k := predI_eq (by omega)
        have next : ∀ o', PowI (nv n) (nv a) (nv e) k (nv o') → ∃ j : {x // InvPw n a e x}, j.1.1 < k + 1 ∧ VPw k = VPw j.1.1 ∧ HPw y n l w a e X o' = HPw y n l w a e X j.1.2 :=
          fun o' h' => ⟨⟨(k, o'), by simp only; omega, h'⟩, by simp only; omega, rfl, rfl⟩
        have hbit : nv e / 2 ^ k % 2 = 0 ∨ nv e / 2 ^ k % 2 = 1 := by omega
        rcases hbit with h0 | h0
        · refine roundF mixed tt_ok GPw_ok 60 [⟨5,1,.lit (.bo true)⟩,⟨8,3,.lit (.bo false)⟩,⟨6,1,.lit (.it (predI k))⟩] ?_
          refine same (p := (!ilt (Int.ofNat k) 0) = true ∧ ModI n l w ∧ (nv o < nv n ∨ nv o < nv n) ∧ ieq (Int.ofNat (nv e / 2 ^ k % 2)) 1 = false ∧ wrapI (Int.ofNat k - 1) = predI k ∧ true = true ∧
            ∃ j : {x // InvPw n a e x}, j.1.1 < k + 1 ∧ VPw k = VPw j.1.1 ∧ HPw y n l w a e X (wd (montV (nv n) (nv o) (nv o))) = HPw y n l w a e X j.1.2) ?_ (by kernel_rfl)
          exact ⟨hge, hM, .inl hol, by rw [h0]; rfl, hs, rfl, next _ (by rw [nv_mont hM]; exact st.1 h0)⟩
        · refine roundF mixed tt_ok GPw_ok 60 [⟨5,1,.lit (.bo true)⟩,⟨8,3,.lit (.bo true)⟩,⟨6,1,.lit (.it (predI k))⟩] ?_
          refine same (p := (!ilt (Int.ofNat k) 0) = true ∧ ModI n l w ∧ (nv o < nv n ∨ nv o < nv n) ∧ ieq (Int.ofNat (nv e / 2 ^ k % 2)) 1 = true ∧ ModI n l w ∧ (nv (wd (montV (nv n) (nv o) (nv o))) < nv n ∨ nv X < nv n) ∧ wrapI (Int.ofNat k - 1) = predI k ∧ true = true ∧
            ∃ j : {x // InvPw n a e x}, j.1.1 < k + 1 ∧ VPw k = VPw j.1.1 ∧ HPw y n l w a e X (wd (montV (nv n) (nv (wd (montV (nv n) (nv o) (nv o)))) (nv X))) = HPw y n l w a e X j.1.2) ?_ (by kernel_rfl)
          exact ⟨hge, hM, .inl hol, by rw [h0]; rfl, hM, .inl (by rw [nv_mont hM]; exact montV_lt hM.pos), hs, rfl, next _ (by rw [nv_mont hM, nv_mont hM]; exact st.2 h0)⟩
    · intro ⟨⟨k, o⟩, hk, ho⟩ junk h0
      simp only at hk ho h0
      subst h0
      refine same (p := ModI n l w ∧ (nv o < nv n ∨ nv (wd (1 % W)) < nv n) ∧ endV y n l w (numA (montV (nv n) (nv o) (nv (wd (1 % W))))) (numA (powM (nv n) (nv a) (nv e)))) ?_ (by kernel_rfl)
      exact ⟨hM, .inl (ho.lt hM.pos), endV_num (by rw [nv_one]; exact ho.fin hM.odd)⟩
  · cases e

/-! half -/
def GHf : Ctx := ctxL [(49, .pure cAdd), (47, .pure cShift)]
theorem GHf_ok : CtxOk Try.prog GHf := ctxL_cons okAdd <| ctxL_cons okShift ctxL_nil
def fHalf (n : Nat → Nat) (l : Nat) (w : Nat → Nat) : List AV → Option (List Prop × AV)
  | [.v1 (.agg [.ws .u64 6 a])] => some ([ModI n l w, nv a < nv n], numA (halfV (nv n) (nv a)))
  | _ => none
theorem and_one (x : Nat) : x &&& 1 = x % 2 := Nat.and_two_pow_sub_one_eq_mod x 1
theorem low_bit (a : Nat → Nat) (c : Nat) (hc : c < 2) : Nat.beq ((a 0 &&& 1) % W) (c % W) = Nat.beq (nv a % 2) c := by
  have h1 : (a 0 &&& 1) % W = nv a % 2 := by
    rw [and_one]
    unfold nv
    have h2 : a 0 % 2 < 2 := Nat.mod_lt _ (by omega)
    generalize a 1 % W + W * (a 2 % W + W * (a 3 % W + W * (a 4 % W + W * (a 5 % W)))) = z
    simp only [W]
    omega
  have h3 : c % W = c := Nat.mod_eq_of_lt (by simp only [W]; omega)
  rw [h1, h3]
theorem shift_one (N : Nat) : shiftN N (-1) = N / 2 := by show N / 2 ^ (0 + 1) = N / 2; rw [Nat.zero_add, Nat.pow_one]
theorem okHalf : (CallC.rd (CM fHalf)).Ok Try.prog 57 := by
  refine CM_ok Try.func57 (by kernel_rfl) (by kernel_rfl) fun n l w rest pre v e hp => ?_
  unfold fHalf at e
  split at e
  · rename_i a
    cases e
    have hM : ModI n l w := hp _ (List.mem_cons_self ..)
    have ha : nv a < nv n := hp _ (List.mem_cons_of_mem _ (List.mem_cons_self ..))
    have hs := hM.small
    refine ⟨rfl, rfl, fun y => ?_⟩
    cases hb : Nat.beq (nv a % 2) 1
    · refine evS_q mixed tt_ok GHf_ok 50 [⟨1,3,.lit (.bo false)⟩] ?_
      refine same (p := Nat.beq ((a 0 &&& 1) % W) (1 % W) = false ∧ endV y n l w (numA (shiftN (nv a) (-1) % R)) (numA (halfV (nv n) (nv a)))) ?_ (by kernel_rfl)
      refine ⟨by rw [low_bit a 1 (by omega), hb], endV_num ?_⟩
      rw [shift_one]
      unfold halfV
      rw [hb, cond_false]
      exact Nat.mod_eq_of_lt (by have := nv_lt a; omega)
    · refine evS_q mixed tt_ok GHf_ok 50 [⟨1,3,.lit (.bo true)⟩] ?_
      refine same (p := Nat.beq ((a 0 &&& 1) % W) (1 % W) = true ∧ endV y n l w (numA (shiftN (nv (wd ((nv a + nv n) % R))) (-1) % R)) (numA (halfV (nv n) (nv a)))) ?_ (by kernel_rfl)
      refine ⟨by rw [low_bit a 1 (by omega), hb], endV_num ?_⟩
      rw [shift_one, nv_wd, Nat.mod_mod, Nat.mod_eq_of_lt (show nv a + nv n < R by omega)]
      unfold halfV
      rw [hb, cond_true]
      exact Nat.mod_eq_of_lt (by omega)
  · cases e
end Go.Proofs.Ytcmaecfpggmcoaa
