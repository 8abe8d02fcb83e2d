/- Products, off their loops. -/
import Derived.Test.YtiaongfgkmbaaaaW5
import Derived.Test.YtiaongfgkmbaaaaFwN
import Derived.Test.YtiaongfgkmbaaaaWM5
namespace Go.Proofs.Ytiaongfgkmbaaaa
open Go.Rq Go

def GM : Ctx := ctxL [(46, .pure cAdd64), (48, .pure cMul64)]
theorem GM_ok : CtxOk Try.prog GM := ctxL_cons okAdd64 (ctxL_cons okMul64 ctxL_nil)
abbrev nb12 (f : Nat → Nat) : Option Blk := some ⟨61, [.ws .u64 12 f], 0, 0⟩
def cMul : List AV → Option (List Prop × AV)
  | [.v1 (.agg [.ws .u64 6 a]), .v1 (.agg [.ws .u64 6 b])] => some ([], .tup [numV (nv a * nv b % R), numV (nv a * nv b / R)])
  | _ => none
theorem mulV_val {a b lo hi : Nat → Nat} (h1 : nv lo = nv a * nv b % R) (h2 : nv hi = nv a * nv b / R) (ρ : Ren) :
    (AV.tup [.agg [.ws .u64 6 lo], .agg [.ws .u64 6 hi]]).val ρ = (AV.tup [numV (nv a * nv b % R), numV (nv a * nv b / R)]).val ρ := by
  simp only [AV.val, List.map_cons, List.map_nil]
  rw [numV_val (n := nv a * nv b % R) (by rw [h1, Nat.mod_mod]) ρ, numV_val (n := nv a * nv b / R) (by rw [← h2, Nat.mod_eq_of_lt (nv_lt hi)]) ρ]

def VM (i : Nat) : List AV := [pt 0 0, pt 1 0, pt 2 0, pt 3 0, pt 4 0, iv (Int.ofNat i)]
def VN (i c k : Nat) : List AV := [pt 0 0, pt 1 0, pt 2 0, pt 3 0, pt 4 0, iv (Int.ofNat i), wv c, iv (Int.ofNat i), iv (Int.ofNat k)]
def HM (a b all : Nat → Nat) : Heap := [nb a, nb b, nb (fun _ => 0), nb (fun _ => 0), nb12 all]
def InvM (a b : Nat → Nat) (x : Nat × (Nat → Nat)) : Prop := x.1 ≤ 6 ∧ sB W x.2 (x.1 + 6) = sB W a x.1 * sB W b 6
def InvN (a b : Nat → Nat) (i : Nat) (x : Nat × (Nat → Nat) × Nat) : Prop := x.1 ≤ 6 ∧ RowI W a b 6 i x.1 x.2.1 x.2.2

theorem okMul : (CallC.pure cMul).Ok Try.prog 28 := by
  intro args pre v h _
  unfold cMul at h
  split at h
  · rename_i a b
    cases h
    refine pure_walk' tt_ok Try.func28 (by kernel_rfl) (by kernel_rfl) (by kernel_rfl) (by kernel_rfl) ?_
    refine loopF mixed tt_ok GM_ok (by kernel_rfl) (ι := {x // InvM a b x}) [2,3,4,5,6,13] 69 5 (fun x => VM x.1.1) (fun x => HM a b x.1.2) (fun x => 6 - x.1.1) (fun x => x.1.1 = 6)
      (fun _ => rfl) (fun _ => by kernel_rfl) (fun _ _ h => h.elim) 60 [] ?_ ?_ ?_
    · refine same (p := true = true ∧ ∃ j : {x // InvM a b x}, VM 0 = VM j.1.1 ∧ HM a b (fun _ => 0) = HM a b j.1.2) ?_ (by kernel_rfl)
      exact ⟨rfl, ⟨(0, (fun _ => 0)), by omega, by simp [sB]⟩, rfl, rfl⟩
    · intro ⟨⟨i, all⟩, hi, hv⟩ junk
      simp only at hi hv
      by_cases h6 : i < 6
      · have hsm : ∀ j, all j % W < W := fun j => Nat.mod_lt _ (by decide)
        refine nestF mixed tt_ok GM_ok (l := flatC (loopOf (atL (flatC (bodyOf Try.f28))))) (lB := flatC (blkOf (atB (flatC (loopOf (atL (flatC (bodyOf Try.f28)))))))) (by kernel_rfl) rfl (by kernel_rfl) rfl
          (ι := {x // InvN a b i x}) [2,3,4,5,6,7,8,13,16] 69 5 (fun x => VN i x.1.2.2 x.1.1) (fun x => HM a b x.1.2.1) (fun x => 6 - x.1.1) (fun x => x.1.1 = 6)
          (fun _ => rfl) (fun _ => by kernel_rfl) (fun _ _ h => h.elim) 60 [⟨3,0,.lit (.bo true)⟩] [⟨17,0,.lit (.it (Int.ofNat (i+1)))⟩] [⟨16,1,.lit (.it (Int.ofNat (i+6)))⟩,⟨16,3,.sym⟩, ⟨16,4,.sym⟩] ?_ ?_ ?_
        · refine same (p := ilt (Int.ofNat i) 6 = true ∧ true = true ∧ ∃ j : {x // InvN a b i x}, VN i 0 0 = VN i j.1.2.2 j.1.1 ∧ HM a b all = HM a b j.1.2.1) ?_ (by kernel_rfl)
          exact ⟨ilt_t h6, rfl, ⟨(0, all, 0), by omega, RowI.start (by decide) hv hsm⟩, rfl, rfl⟩
        · intro ⟨⟨k, all, c⟩, hk, hr⟩ junk
          simp only at hk hr
          by_cases hk6 : k < 6
          · refine roundF mixed tt_ok GM_ok 60 [⟨7,0,.lit (.bo true)⟩, ⟨9,1,.sym⟩, ⟨9,2,.sym⟩, ⟨9,4,.sym⟩, ⟨9,5,.sym⟩, ⟨10,3,.lit (.it (Int.ofNat (i+k)))⟩, ⟨10,4,.sym⟩, ⟨10,5,.sym⟩, ⟨14,2,.lit (.it (Int.ofNat (i+k)))⟩, ⟨14,5,.sym⟩, ⟨14,6,.sym⟩, ⟨15,0,.lit (.it (Int.ofNat (k+1)))⟩] ?_
            refine same (p := ilt (Int.ofNat k) 6 = true ∧ ix i 6 (ix k 6 (wrapI (Int.ofNat i + Int.ofNat k) = Int.ofNat (i + k) ∧ ix (i + k) 12 (0 % W ≤ 1 ∧ 0 % W ≤ 1 ∧ wrapI (Int.ofNat i + Int.ofNat k) = Int.ofNat (i + k) ∧ ix (i + k) 12 (wrapI (Int.ofNat k + 1) = Int.ofNat (k + 1) ∧
              true = true ∧ ∃ j : {x // InvN a b i x}, 6 - j.1.1 < 6 - k ∧ VN i (mHi (a i) (b k) (all (i + k)) c) (k + 1) = VN i j.1.2.2 j.1.1 ∧ HM a b (upd all (i + k) (mLo (a i) (b k) (all (i + k)) c)) = HM a b j.1.2.1))))) ?_ (by kernel_rfl)
            have hik : wrapI (Int.ofNat i + Int.ofNat k) = Int.ofNat (i + k) := by
              have : Int.ofNat i + Int.ofNat k = Int.ofNat (i + k) := rfl
              rw [this, wrapI_small (by omega)]
            have st := m_step (x := a i) (y := b k) (p := all (i + k)) hr.carry
            refine ⟨ilt_t hk6, ix_of h6 <| ix_of hk6 ⟨hik, ix_of (by omega) ⟨by decide, by decide, hik, ix_of (by omega) ⟨wrapI_succ (by omega), rfl, ?_⟩⟩⟩⟩
            exact ⟨⟨(k + 1, upd all (i + k) (mLo (a i) (b k) (all (i + k)) c), mHi (a i) (b k) (all (i + k)) c), by simp only; omega, hr.step hk6 st.1 (Nat.mod_lt _ (by decide)) st.2⟩, by simp only; omega, rfl, rfl⟩
          · have : k = 6 := by omega
            subst this
            refine roundF mixed tt_ok GM_ok 60 [] ?_
            refine same (p := true = true ∧ ∃ j : {x // InvN a b i x}, j.1.1 = 6 ∧ VN i c 6 = VN i j.1.2.2 j.1.1 ∧ HM a b all = HM a b j.1.2.1) ?_ (by kernel_rfl)
            exact ⟨rfl, ⟨(6, all, c), hk, hr⟩, rfl, rfl, rfl⟩
        · intro ⟨⟨k, all, c⟩, hk, hr⟩ junk h66
          simp only at hk hr h66
          subst h66
          refine same (p := wrapI (Int.ofNat i + 6) = Int.ofNat (i + 6) ∧ ix (i + 6) 12 (wrapI (Int.ofNat i + 1) = Int.ofNat (i + 1) ∧ true = true ∧ ∃ j : {x // InvM a b x}, 6 - j.1.1 < 6 - i ∧ VM (i + 1) = VM j.1.1 ∧ HM a b (upd all (i + 6) c) = HM a b j.1.2)) ?_ (by kernel_rfl)
          have e6 : wrapI (Int.ofNat i + 6) = Int.ofNat (i + 6) := by
            have : Int.ofNat i + 6 = Int.ofNat (i + 6) := rfl
            rw [this, wrapI_small (by omega)]
          exact ⟨e6, ix_of (by omega) ⟨wrapI_succ (by omega), rfl, ⟨(i + 1, upd all (i + 6) c), by simp only; omega, (hr.fin (Nat.le_refl _)).1⟩, by simp only; omega, rfl, rfl⟩⟩
      · have : i = 6 := by omega
        subst this
        refine roundF mixed tt_ok GM_ok 60 [] ?_
        refine same (p := true = true ∧ ∃ j : {x // InvM a b x}, j.1.1 = 6 ∧ VM 6 = VM j.1.1 ∧ HM a b all = HM a b j.1.2) ?_ (by kernel_rfl)
        exact ⟨rfl, ⟨(6, all), hi, hv⟩, rfl, rfl, rfl⟩
    · intro ⟨⟨i, all⟩, hi, hv⟩ junk h6
      simp only at hi hv h6
      subst h6
      refine same (p := ∃ v', some (AV.tup [.agg [.ws .u64 6 all], .agg [.ws .u64 6 (fun j => all (6 + j))]]) = some v' ∧ ∀ ρ, v'.val ρ = (AV.tup [numV (nv a * nv b % R), numV (nv a * nv b / R)]).val ρ) ?_ (by kernel_rfl)
      exact ⟨_, rfl, mulV_val (mul_halves hv).1 (mul_halves hv).2⟩
  · cases h

/-! the document's -/
abbrev nb24 (f : Nat → Nat) : Option Blk := some ⟨65, [.ws .u64 24 f], 0, 0⟩
def cHalves : List AV → Option (List Prop × AV)
  | [.v1 (.agg [.ws .u64 6 a])] => some ([], .v1 (.agg [.ws .u64 12 (hO a 6)]))
  | _ => none
theorem okHalves : (CallC.pure cHalves).Ok Try.prog 49 := by
  intro args pre v h _
  unfold cHalves at h
  split at h
  · rename_i a
    cases h
    refine pure_fn mixed tt_ok G0_ok Try.func49 (by kernel_rfl) (by kernel_rfl) (by kernel_rfl) (by kernel_rfl) 100 [] ?_
    exact same (p := some (AV.v1 (.agg [.ws .u64 12 (hO a 6)])) = some (AV.v1 (.agg [.ws .u64 12 (hO a 6)]))) rfl (by kernel_rfl)
  · cases h
def GH : Ctx := ctxL [(49, .pure cHalves)]
theorem GH_ok : CtxOk Try.prog GH := ctxL_cons okHalves ctxL_nil
def VR (i : Nat) : List AV := [pt 2 0, pt 3 0, pt 6 0, pt 7 0, pt 8 0, iv (Int.ofNat i)]
def VS (i c k : Nat) : List AV := [pt 2 0, pt 3 0, pt 6 0, pt 7 0, pt 8 0, iv (Int.ofNat i), wv c, iv (Int.ofNat k)]
def HR (a b all : Nat → Nat) : Heap := [nb a, nb b, nb (fun _ => 0), nb (fun _ => 0), none, none, nb12 (hO a 6), nb12 (hO b 6), nb24 all]
def InvR (a b : Nat → Nat) (x : Nat × (Nat → Nat)) : Prop := x.1 ≤ 12 ∧ sB B32 x.2 (x.1 + 12) = sB B32 (hO a 6) x.1 * sB B32 (hO b 6) 12 ∧ ∀ j, x.2 j % W < B32
def InvT (a b : Nat → Nat) (i : Nat) (x : Nat × (Nat → Nat) × Nat) : Prop := x.1 ≤ 12 ∧ RowI B32 (hO a 6) (hO b 6) 12 i x.1 x.2.1 x.2.2
theorem hO_mod (a : Nat → Nat) (j : Nat) : hO a 6 j % W < B32 := Nat.lt_of_le_of_lt (Nat.mod_le _ _) (hO_small a 6 j)

theorem okMul' : (CallC.pure cMul).Ok Try.prog 29 := by
  intro args pre v h _
  unfold cMul at h
  split at h
  · rename_i a b
    cases h
    refine pure_walk' tt_ok Try.func29 (by kernel_rfl) (by kernel_rfl) (by kernel_rfl) (by kernel_rfl) ?_
    refine loopF mixed tt_ok GH_ok (by kernel_rfl) (ι := {x // InvR a b x}) [4,5,6,7,8,9] 88 9 (fun x => VR x.1.1) (fun x => HR a b x.1.2) (fun x => 12 - x.1.1) (fun x => x.1.1 = 12)
      (fun _ => rfl) (fun _ => by kernel_rfl) (fun _ _ h => h.elim) 60 [] ?_ ?_ ?_
    · refine same (p := true = true ∧ ∃ j : {x // InvR a b x}, VR 0 = VR j.1.1 ∧ HR a b (fun _ => 0) = HR a b j.1.2) ?_ (by kernel_rfl)
      exact ⟨rfl, ⟨(0, (fun _ => 0)), by omega, by simp [sB], fun j => Nat.zero_lt_of_lt (show 1 < B32 by decide)⟩, rfl, rfl⟩
    · intro ⟨⟨i, all⟩, hi, hv, hsm⟩ junk
      simp only at hi hv hsm
      by_cases h6 : i < 12
      · refine nestF mixed tt_ok GH_ok (l := flatC (loopOf (atL (flatC (bodyOf Try.f29))))) (lB := flatC (blkOf (atB (flatC (loopOf (atL (flatC (bodyOf Try.f29)))))))) (by kernel_rfl) rfl (by kernel_rfl) rfl
          (ι := {x // InvT a b i x}) [4,5,6,7,8,9,10,11] 88 9 (fun x => VS i x.1.2.2 x.1.1) (fun x => HR a b x.1.2.1) (fun x => 12 - x.1.1) (fun x => x.1.1 = 12)
          (fun _ => rfl) (fun _ => by kernel_rfl) (fun _ _ h => h.elim) 60 [⟨4,1,.lit (.bo true)⟩] [⟨5,1,.lit (.it (Int.ofNat (i+1)))⟩] [⟨13,1,.lit (.it (Int.ofNat (i+12)))⟩,⟨13,3,.sym⟩, ⟨13,4,.sym⟩] ?_ ?_ ?_
        · refine same (p := ilt (Int.ofNat i) 12 = true ∧ true = true ∧ ∃ j : {x // InvT a b i x}, VS i 0 0 = VS i j.1.2.2 j.1.1 ∧ HR a b all = HR a b j.1.2.1) ?_ (by kernel_rfl)
          exact ⟨ilt_t h6, rfl, ⟨(0, all, 0), by omega, RowI.start (by decide) hv hsm⟩, rfl, rfl⟩
        · intro ⟨⟨k, all, c⟩, hk, hr⟩ junk
          simp only at hk hr
          by_cases hk6 : k < 12
          · refine roundF mixed tt_ok GH_ok 60 [⟨8,1,.lit (.bo true)⟩, ⟨10,1,.sym⟩, ⟨10,2,.sym⟩, ⟨10,4,.sym⟩, ⟨10,5,.sym⟩, ⟨10,9,.lit (.it (Int.ofNat (i+k)))⟩, ⟨10,10,.sym⟩, ⟨10,11,.sym⟩, ⟨11,2,.lit (.it (Int.ofNat (i+k)))⟩, ⟨11,5,.sym⟩, ⟨11,6,.sym⟩, ⟨9,1,.lit (.it (Int.ofNat (k+1)))⟩] ?_
            refine same (p := ilt (Int.ofNat k) 12 = true ∧ ix i 12 (ix k 12 (wrapI (Int.ofNat i + Int.ofNat k) = Int.ofNat (i + k) ∧ ix (i + k) 24 (wrapI (Int.ofNat i + Int.ofNat k) = Int.ofNat (i + k) ∧ ix (i + k) 24 (wrapI (Int.ofNat k + 1) = Int.ofNat (k + 1) ∧
              true = true ∧ ∃ j : {x // InvT a b i x}, 12 - j.1.1 < 12 - k ∧ VS i (tS (hO a 6 i) (hO b 6 k) (all (i + k)) c % W / 2 ^ min 32 64) (k + 1) = VS i j.1.2.2 j.1.1 ∧ HR a b (upd all (i + k) (tS (hO a 6 i) (hO b 6 k) (all (i + k)) c &&& 4294967295)) = HR a b j.1.2.1))))) ?_ (by kernel_rfl)
            have hik : wrapI (Int.ofNat i + Int.ofNat k) = Int.ofNat (i + k) := by
              have : Int.ofNat i + Int.ofNat k = Int.ofNat (i + k) := rfl
              rw [this, wrapI_small (by omega)]
            have st := s_step (x := hO a 6 i) (y := hO b 6 k) (p := all (i + k)) (hO_mod a i) (hO_mod b k) (hr.small _) hr.carry
            refine ⟨ilt_t hk6, ix_of h6 <| ix_of hk6 ⟨hik, ix_of (by omega) ⟨hik, ix_of (by omega) ⟨wrapI_succ (by omega), rfl, ?_⟩⟩⟩⟩
            exact ⟨⟨(k + 1, upd all (i + k) (tS (hO a 6 i) (hO b 6 k) (all (i + k)) c &&& 4294967295), tS (hO a 6 i) (hO b 6 k) (all (i + k)) c % W / 2 ^ min 32 64), by simp only; omega, hr.step hk6 st.1 st.2.1 st.2.2⟩, by simp only; omega, rfl, rfl⟩
          · have : k = 12 := by omega
            subst this
            refine roundF mixed tt_ok GH_ok 60 [] ?_
            refine same (p := true = true ∧ ∃ j : {x // InvT a b i x}, j.1.1 = 12 ∧ VS i c 12 = VS i j.1.2.2 j.1.1 ∧ HR a b all = HR a b j.1.2.1) ?_ (by kernel_rfl)
            exact ⟨rfl, ⟨(12, all, c), hk, hr⟩, rfl, rfl, rfl⟩
        · intro ⟨⟨k, all, c⟩, hk, hr⟩ junk h66
          simp only at hk hr h66
          subst h66
          refine same (p := wrapI (Int.ofNat i + 12) = Int.ofNat (i + 12) ∧ ix (i + 12) 24 (wrapI (Int.ofNat i + 1) = Int.ofNat (i + 1) ∧ true = true ∧ ∃ j : {x // InvR a b x}, 12 - j.1.1 < 12 - i ∧ VR (i + 1) = VR j.1.1 ∧ HR a b (upd all (i + 12) c) = HR a b j.1.2)) ?_ (by kernel_rfl)
          have e6 : wrapI (Int.ofNat i + 12) = Int.ofNat (i + 12) := by
            have : Int.ofNat i + 12 = Int.ofNat (i + 12) := rfl
            rw [this, wrapI_small (by omega)]
          have hf := hr.fin (show B32 ≤ W by decide)
          exact ⟨e6, ix_of (by omega) ⟨wrapI_succ (by omega), rfl, ⟨(i + 1, upd all (i + 12) c), by simp only; omega, hf.1, hf.2⟩, by simp only; omega, rfl, rfl⟩⟩
      · have : i = 12 := by omega
        subst this
        refine roundF mixed tt_ok GH_ok 60 [] ?_
        refine same (p := true = true ∧ ∃ j : {x // InvR a b x}, j.1.1 = 12 ∧ VR 12 = VR j.1.1 ∧ HR a b all = HR a b j.1.2) ?_ (by kernel_rfl)
        exact ⟨rfl, ⟨(12, all), hi, hv, hsm⟩, rfl, rfl, rfl⟩
    · intro ⟨⟨i, all⟩, hi, hv, hsm⟩ junk h6
      simp only at hi hv hsm h6
      subst h6
      refine same (p := ∃ v', some (AV.tup [.agg [.ws .u64 6 (jO all 0 6)], .agg [.ws .u64 6 (jO all 12 6)]]) = some v' ∧ ∀ ρ, v'.val ρ = (AV.tup [numV (nv a * nv b % R), numV (nv a * nv b / R)]).val ρ) ?_ (by kernel_rfl)
      have hm := mul_ends hsm (x := nv a) (y := nv b) (by rw [← hO_nv a, ← hO_nv b]; exact hv)
      exact ⟨_, rfl, mulV_val hm.1 hm.2⟩
  · cases h
end Go.Proofs.Ytiaongfgkmbaaaa
