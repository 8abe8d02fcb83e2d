/- Poly1305 of the code: tagOf. -/
import Derived.Test.YtndmoidenbfflaaC7
namespace Go.Proofs.Ytndmoidenbfflaa
open Go.Rq Go
set_option linter.unusedVariables false
set_option linter.unusedSimpArgs false
set_option maxRecDepth 100000
def chk1 (b : Nat → Nat) (m k : Nat) : Nat := num (fun j => b (16 * k + j) % 256) (min (m - 16 * k) 16) + 256 ^ min (m - 16 * k) 16
def accN (b : Nat → Nat) (m r : Nat) : Nat → Nat
  | 0 => 0
  | k + 1 => (accN b m r k + chk1 b m k) * r % pP
def rF (l h : Nat) : Nat → Nat := upd (upd (fun _ => 0) 0 (l &&& 1152921487695413247)) 1 (h &&& 1152921487695413244)
def rN (kf : Nat → Nat) : Nat := vR (rF (pcL kf) (pcH kf))
def tagN (kf b : Nat → Nat) (m : Nat) : Nat := accN b m (rN kf) ((m + 15) / 16) + num (fun j => kf (16 + j) % 256) 16
theorem rF_bd (l h : Nat) : rF l h 0 % 18446744073709551616 < 1152921504606846976 ∧ rF l h 1 % 18446744073709551616 < 1152921504606846976 := by
  have h0 : rF l h 0 = l &&& 1152921487695413247 := rfl
  have h1 : rF l h 1 = h &&& 1152921487695413244 := rfl
  have k0 : l &&& 1152921487695413247 ≤ 1152921487695413247 := Nat.and_le_right
  have k1 : h &&& 1152921487695413244 ≤ 1152921487695413244 := Nat.and_le_right
  rw [h0, h1]
  omega
theorem acc_step {f g : Nat → Nat} {l h m k : Nat} {A : Nat} (h2 : f 2 % 18446744073709551616 ≤ 5) (hA : vA f % pP = A) :
    let q := min (m - 16 * k) 16
    let F := tmF (pcF f (fuF q fun j => g (16 * k + j))) (rF l h)
    vA F % pP = (A + chk1 g m k) * vR (rF l h) % pP ∧ vA F < 2722258935367507707706996859454145691638 ∧ F 2 % 18446744073709551616 ≤ 5 := by
  intro q F
  obtain ⟨e1, e2⟩ := pcF_eq (f := f) (g := fun j => g (16 * k + j)) (n := q) (by omega) h2
  obtain ⟨b0, b1⟩ := rF_bd l h
  obtain ⟨t1, t2⟩ := tmF_eq e2 b0 b1
  refine ⟨?_, ?_, t2⟩
  · have e3 : (vA f + chk1 g m k) % pP = (A + chk1 g m k) % pP := by rw [← hA, Nat.mod_add_mod]
    rw [t1, red_mod, e1]
    show (vA f + chk1 g m k) * vR (rF l h) % pP = _
    rw [Nat.mul_mod, e3, ← Nat.mul_mod]
  · rw [t1]
    exact red_bd (Nat.lt_of_lt_of_le (Nat.mul_lt_mul'' (vA_lt e2) (vR_lt b1)) (by decide))
def GTg : Ctx := ctxL [(44, .rd cLow64), (45, .mem cPiece), (46, .mem cEndP)]
theorem GTg_ok : CtxOk Try.prog GTg := ctxL_cons okLow64 <| ctxL_cons okPiece <| ctxL_cons okEndP ctxL_nil
def cTagOf (args : List AV) (h : Heap) (slot : Nat) : Option (List Prop × AV × Heap) :=
  match args with
  | [x, y] => match vw h x, vw h y, isHole h slot with
    | some (n, kf, p1), some (m, bf, p2), true => some (p1 ++ p2 ++ [n = 32, m < 4000000000000000000], .v1 (.sc (.sl slot 0 16 16)), hset h slot (uB16 (dgN (tagN kf bf m))))
    | _, _, _ => none
  | _ => none
def InvTg (o n : Nat) (g : Nat → Nat) (r : Nat) (x : Nat × Nat × Nat × (Nat → Nat)) : Prop :=
  x.1 ≤ (n + 15) / 16 ∧ (0 < n - 16 * x.1 → x.2.1 = o + 16 * x.1) ∧ n - 16 * x.1 ≤ x.2.2.1 ∧ vA x.2.2.2 % pP = accN g n r x.1 ∧ vA x.2.2.2 < 2722258935367507707706996859454145691638 ∧ x.2.2.2 2 % 18446744073709551616 ≤ 5
abbrev VTg (o1 e1 n : Nat) (x : Nat × Nat × Nat × (Nat → Nat)) : List AV := [.v1 (.sc (.sl 0 o1 32 (e1 + 32))), .v1 (.sc (.sl 1 x.2.1 (n - 16 * x.1) x.2.2.1)), .v1 (.sc (.pt 4 0))]
abbrev HTg (t1 o1 : Nat) (kf : Nat → Nat) (v1 : WrapV) (t2 o2 n : Nat) (g : Nat → Nat) (v2 : WrapV) (r : Nat → Nat) (x : Nat × Nat × Nat × (Nat → Nat)) : Heap := [wB t1 o1 32 kf v1, wB t2 o2 n g v2, none, none, plB 71 x.2.2.2 r]
theorem okTagOf : (CallC.mem cTagOf).Ok Try.prog 33 := by
  intro args h slot pre v h' e hp
  unfold cTagOf at e
  split at e
  rotate_left
  · cases e
  rename_i x y
  split at e
  rotate_left
  · cases e
  rename_i n kf p1 m bf p2 h1 h2 hh
  cases e
  have hn : n = 32 := hp (n = 32) (by simp)
  have hm : m < 4000000000000000000 := hp (m < 4000000000000000000) (by simp)
  subst hn
  generalize hF : dgN (tagN kf bf m) = F
  refine views_call tt_ok Try.func33 (by kernel_rfl) (by kernel_rfl) [.vs 32 kf, .vs m bf] (args := [x, y])
    ⟨⟨p1, h1, fun p hq => hp p (by simp [hq])⟩, ⟨p2, h2, fun p hq => hp p (by simp [hq])⟩, trivial⟩ slot [uB16 F] (.v1 (.sc (.sl 0 0 16 16))) rfl rfl rfl (fun t ht => by
      have : t = 0 := by simpa using ht
      subst this; exact hh) fun a W hi => ?_
  rcases hi with _ | _ | ⟨w1, h0, hi⟩ | ⟨t1, o1, c1, v1, kc1, hi⟩ | _
  · exact absurd h0 (by decide)
  obtain ⟨e1, rfl⟩ : ∃ e1, c1 = e1 + 32 := ⟨c1 - 32, by omega⟩
  have x8 : addN o1 8 = o1 + 8 := addN_eq ..
  have x16 : addN o1 16 = o1 + 16 := addN_eq ..
  have hkl : (lo64 fun j => kf (o1 - o1 + j)) = pcL kf := by rw [win_fun]; rfl
  have hkh : (lo64 fun j => kf (addN o1 8 - o1 + j)) = pcH kf := by
    unfold pcH
    congr 1; funext j; rw [x8]; congr 1; omega
  have hks : (fun j => kf (addN o1 16 - o1 + j) % 256) = fun j => kf (16 + j) % 256 := by
    funext j; rw [x16]; congr 2; omega
  rcases hi with _ | _ | ⟨w2, h0, hi⟩ | ⟨t2, o2, c2, v2, kc2, hi⟩ | _
  · cases hi
    subst h0
    refine ⟨[4], rfl, ?_⟩
    refine evS_q mixed tt_ok GTg_ok 500 [] (same (p := o1 ≤ o1 ∧ o1 - o1 + 32 ≤ 32 ∧ 32 ≤ e1 + 32 ∧ 8 ≤ 32 ∧ o1 ≤ addN o1 8 ∧ addN o1 8 - o1 + 24 ≤ 32 ∧ 24 ≤ e1 + 32 - 8 ∧ 8 ≤ 24 ∧
      o1 ≤ addN o1 16 ∧ addN o1 16 - o1 + 16 ≤ 32 ∧ 16 = 16 ∧ 16 ≤ e1 + 32 - 16 ∧ (0 : Nat) % 18446744073709551616 ≤ 7 ∧ vA (fun _ => 0) < 2722258935367507707706996859454145691638 ∧
      endM [0, 4] [wB t1 o1 32 kf v1, some (uB16 (dgN (vA (fun _ => 0) % pP + num (fun j => kf (addN o1 16 - o1 + j) % 256) 16)))] [wB t1 o1 32 kf v1, some (uB16 F)] (.v1 (.sc (.sl 4 0 16 16))) (.v1 (.sc (.sl 1 0 16 16)))) ?_ (by kernel_rfl))
    refine ⟨Nat.le_refl _, win_le, by omega, by decide, by omega, by omega, by omega, by decide, by omega, by omega, rfl, by omega, by decide, by decide, endM_ok ⟨simB_refl _, ⟨rfl, rfl, rfl, fun ρ => ?_⟩, trivial⟩ rfl fun _ => rfl⟩
    rw [hks, ← hF]; rfl
  · cases hi
    refine ⟨[5], rfl, ?_⟩
    refine loopK mixed tt_ok GTg_ok 0 (by kernel_rfl) (ι := {x // InvTg o2 m bf (rN kf) x}) [0,1,5] 35 5 (fun x => VTg o1 e1 m x.1) (fun x => HTg t1 o1 kf v1 t2 o2 m bf v2 (rF (pcL kf) (pcH kf)) x.1) (fun x => m - 16 * x.1.1) (fun x => m - 16 * x.1.1 = 0)
      (fun _ => rfl) (fun _ => by kernel_rfl) (fun x j h => by have := Dm_lt h; simp at this; have : j = 0 ∨ j = 1 := by omega
                                                               rcases this with rfl | rfl <;> exact ⟨_, rfl⟩) 500 [] ?_ ?_ ?_
    · refine same (p := o1 ≤ o1 ∧ o1 - o1 + 32 ≤ 32 ∧ 32 ≤ e1 + 32 ∧ 8 ≤ 32 ∧ o1 ≤ addN o1 8 ∧ addN o1 8 - o1 + 24 ≤ 32 ∧ 24 ≤ e1 + 32 - 8 ∧ 8 ≤ 24 ∧ true = true ∧
        ∃ j : {x // InvTg o2 m bf (rN kf) x}, VTg o1 e1 m (0, o2, c2, fun _ => 0) = VTg o1 e1 m j.1 ∧ HTg t1 o1 kf v1 t2 o2 m bf v2 (rF (lo64 fun j => kf (o1 - o1 + j)) (lo64 fun j => kf (addN o1 8 - o1 + j))) (0, o2, c2, fun _ => 0) = HTg t1 o1 kf v1 t2 o2 m bf v2 (rF (pcL kf) (pcH kf)) j.1) ?_ (by kernel_rfl)
      refine ⟨Nat.le_refl _, win_le, by omega, by decide, by omega, by omega, by omega, by decide, rfl, ⟨(0, o2, c2, fun _ => 0), Nat.zero_le _, fun _ => rfl, ?_, show vA (fun _ => 0) % pP = 0 by decide, show vA (fun _ => 0) < 2722258935367507707706996859454145691638 by decide, show 0 % 18446744073709551616 ≤ 5 by decide⟩, rfl, ?_⟩
      · show m - 16 * 0 ≤ c2
        omega
      · rw [hkl, hkh]
    · intro ⟨⟨k, off, cap, f⟩, hk, hoff, hcap, hA, hB, h2⟩ junk
      simp only at hk hoff hcap hA hB h2
      have hst := acc_step (g := bf) (l := pcL kf) (h := pcH kf) (m := m) (k := k) h2 hA
      simp only at hst
      generalize hR : rF (pcL kf) (pcH kf) = R at *
      have hrn : vR R = rN kf := by rw [← hR]; rfl
      by_cases h0 : 0 < m - 16 * k
      · have hoff := hoff h0
        generalize hq : min (m - 16 * k) 16 = q at *
        have hX : (bif Nat.beq cap 0 then off else addN off 0) = off := by
          cases Nat.beq cap 0
          · exact addN_eq ..
          · rfl
        have hq1 : q ≤ m - 16 * k ∧ q ≤ 16 ∧ 0 < q := by omega
        refine roundF mixed tt_ok GTg_ok 500 [⟨2,2,.lit (.bo true)⟩,⟨3,2,.lit (.it (Int.ofNat q))⟩,⟨4,3,.sym⟩,⟨5,2,.sym⟩] ?_
        refine same (p := ilt 0 (Int.ofNat (m - 16 * k)) = true ∧ (bif ilt 16 (Int.ofNat (m - 16 * k)) then 16 else Int.ofNat (m - 16 * k)) = Int.ofNat q ∧ 0 ≤ Int.ofNat q ∧ Int.ofNat q < ((cap + 1 : Nat) : Int) ∧
          o2 ≤ (bif Nat.beq cap 0 then off else addN off 0) ∧ (bif Nat.beq cap 0 then off else addN off 0) - o2 + (q - 0) ≤ m ∧ q - 0 ≤ 16 ∧ 0 ≤ Int.ofNat q ∧ Int.ofNat q < ((m - 16 * k + 1 : Nat) : Int) ∧ true = true ∧
          ∃ j : {x // InvTg o2 m bf (rN kf) x}, m - 16 * j.1.1 < m - 16 * k ∧ [.v1 (.sc (.sl 0 o1 32 (e1 + 32))), .v1 (.sc (.sl 1 (bif Nat.beq cap q then off else addN off q) (m - 16 * k - q) (cap - q))), .v1 (.sc (.pt 4 0))] = VTg o1 e1 m j.1 ∧
            HTg t1 o1 kf v1 t2 o2 m bf v2 R (0, 0, 0, tmF (pcF f (fuF (q - 0) fun j => bf ((bif Nat.beq cap 0 then off else addN off 0) - o2 + j))) R) = HTg t1 o1 kf v1 t2 o2 m bf v2 R j.1) ?_ (by kernel_rfl)
        rw [hX]
        have hfe : (fun j => bf (off - o2 + j)) = fun j => bf (16 * k + j) := by funext j; congr 1; omega
        rw [hfe]
        refine ⟨ilt_t (n := m - 16 * k) (i := 0) h0, ?_, Int.natCast_nonneg _, by simp only [Int.ofNat_eq_natCast]; omega, by omega, by omega, by omega, Int.natCast_nonneg _, by simp only [Int.ofNat_eq_natCast]; omega, rfl,
          ⟨(k + 1, (bif Nat.beq cap q then off else addN off q), cap - q, tmF (pcF f (fuF (q - 0) fun j => bf (16 * k + j))) R), by simp only; omega, fun h => ?_, by simp only; omega, ?_, hst.2.1, hst.2.2⟩, by simp only; omega, ?_, rfl⟩
        · by_cases hlt : 16 < m - 16 * k
          · have : ilt 16 (Int.ofNat (m - 16 * k)) = true := by rw [ilt_iff]; simp only [Int.ofNat_eq_natCast]; omega
            rw [this, cond_true, show q = 16 by omega]; rfl
          · have : ilt 16 (Int.ofNat (m - 16 * k)) = false := by rw [← Bool.not_eq_true, ilt_iff]; simp only [Int.ofNat_eq_natCast]; omega
            rw [this, cond_false, show q = m - 16 * k by omega]
        · simp only at h ⊢
          have : Nat.beq cap q = false := by rw [← Bool.not_eq_true, Nat.beq_eq]; omega
          rw [this, cond_false, addN_eq]; omega
        · simp only
          rw [Nat.sub_zero, hst.1, hrn]; rfl
        · rw [show m - 16 * k - q = m - 16 * (k + 1) by omega]
      · refine roundF mixed tt_ok GTg_ok 500 [⟨2,2,.lit (.bo false)⟩] ?_
        refine same (p := ilt 0 (Int.ofNat (m - 16 * k)) = false ∧ true = true ∧ ∃ j : {x // InvTg o2 m bf (rN kf) x}, m - 16 * j.1.1 = 0 ∧ VTg o1 e1 m (k, off, cap, f) = VTg o1 e1 m j.1 ∧ HTg t1 o1 kf v1 t2 o2 m bf v2 R (k, off, cap, f) = HTg t1 o1 kf v1 t2 o2 m bf v2 R j.1) ?_ (by kernel_rfl)
        exact ⟨ilt_f (n := m - 16 * k) (i := 0) h0, rfl, ⟨(k, off, cap, f), hk, hoff, hcap, hA, hB, h2⟩, by simp only; omega, rfl, rfl⟩
    · intro ⟨⟨k, off, cap, f⟩, hk, hoff, hcap, hA, hB, h2⟩ junk hE
      simp only at hk hoff hcap hA hB h2 hE
      have hkK : k = (m + 15) / 16 := by omega
      generalize rF (pcL kf) (pcH kf) = R
      refine evS_q mixed tt_ok GTg_ok 500 [] (same (p := o1 ≤ addN o1 16 ∧ addN o1 16 - o1 + 16 ≤ 32 ∧ 16 = 16 ∧ 16 ≤ e1 + 32 - 16 ∧ f 2 % 18446744073709551616 ≤ 7 ∧ vA f < 2722258935367507707706996859454145691638 ∧
        endM [0, 1, 5] [wB t1 o1 32 kf v1, wB t2 o2 m bf v2, some (uB16 (dgN (vA f % pP + num (fun j => kf (addN o1 16 - o1 + j) % 256) 16)))] [wB t1 o1 32 kf v1, wB t2 o2 m bf v2, some (uB16 F)] (.v1 (.sc (.sl 5 0 16 16))) (.v1 (.sc (.sl 2 0 16 16)))) ?_ (by kernel_rfl))
      refine ⟨by omega, by omega, rfl, by omega, by omega, hB, endM_ok ⟨simB_refl _, simB_refl _, ⟨rfl, rfl, rfl, fun ρ => ?_⟩, trivial⟩ rfl fun _ => rfl⟩
      rw [hks, hA, ← hF, hkK]; rfl
end Go.Proofs.Ytndmoidenbfflaa
