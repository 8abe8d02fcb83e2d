/- Poly1305 of the code: the end. -/
import Derived.Test.YtndmoidenbfflaaC6
namespace Go.Proofs.Ytndmoidenbfflaa
open Go.Rq Go
set_option linter.unusedVariables false
set_option linter.unusedSimpArgs false
def num2 (b : Nat → Nat) : Nat := b 0 % 18446744073709551616 + b 1 % 18446744073709551616 * 18446744073709551616
def enO (b : Nat → Nat) : Nat → Nat := fun j => b (j / 8) % 18446744073709551616 / 2 ^ (8 * (j % 8)) % 18446744073709551616
theorem enO_eq {b : Nat → Nat} {j : Nat} (hj : j < 16) : enO b j % 256 = dgN (num2 b) j := by
  unfold enO dgN num2
  have : j = 0 ∨ j = 1 ∨ j = 2 ∨ j = 3 ∨ j = 4 ∨ j = 5 ∨ j = 6 ∨ j = 7 ∨ j = 8 ∨ j = 9 ∨ j = 10 ∨ j = 11 ∨ j = 12 ∨ j = 13 ∨ j = 14 ∨ j = 15 := by omega
  rcases this with rfl | rfl | rfl | rfl | rfl | rfl | rfl | rfl | rfl | rfl | rfl | rfl | rfl | rfl | rfl | rfl
  all_goals simp only [show (0 : Nat) / 8 = 0 from rfl, Nat.reduceDiv, Nat.reduceMod, Nat.reduceMul, Nat.reducePow]
  all_goals
    generalize b 0 = x
    generalize b 1 = y
    omega
theorem dgN_mod {x j : Nat} (hj : j < 16) : dgN (x % 340282366920938463463374607431768211456) j = dgN x j := by
  have h : ∀ n, j < n → dgN (x % 256 ^ n) j = dgN x j := fun n hn => by
    rw [← num_dgN, num_dig (fun j _ => dgN_lt) hn]
  exact h 16 hj
def geF (f : Nat → Nat) : Nat → Nat := upd (upd (upd (fun _ => 0) 0 (aS (f 0) 5 0)) 1 (aS (f 1) 0 (aC (f 0) 5 0))) 2 (f 2 + aC (f 1) 0 (aC (f 0) 5 0))
def enB (b : Nat → Nat) (l h : Nat) : Nat → Nat := upd (upd b 0 (aS (b 0) l 0)) 1 (upd b 0 (aS (b 0) l 0) 1 + (h + aC (b 0) l 0))
theorem en_lin {m0 v0 l d1 x : Nat} (s1 : m0 + 18446744073709551616 * d1 = v0 + l) (hm : m0 < 18446744073709551616) : m0 + (x + d1) % 18446744073709551616 * 18446744073709551616 = (v0 + l + x * 18446744073709551616) % 340282366920938463463374607431768211456 := by
  rw [← s1]; omega
theorem mod2_lin {a v h : Nat} : (a + (v % 18446744073709551616 + h) * 18446744073709551616) % 340282366920938463463374607431768211456 = (a + (v + h) * 18446744073709551616) % 340282366920938463463374607431768211456 := by omega
theorem enB_eq {b : Nat → Nat} {l h : Nat} (hl : l < 18446744073709551616) : num2 (enB b l h) = (num2 b + (l + h * 18446744073709551616)) % 340282366920938463463374607431768211456 := by
  have v0 : enB b l h 0 = b 0 + l + 0 := rfl
  have v1 : enB b l h 1 = b 1 + (h + aC (b 0) l 0) := rfl
  unfold num2
  rw [v0, v1]
  have s1 := aSC (b 0) l 0
  generalize aC (b 0) l 0 = d1 at *
  rw [Nat.mod_eq_of_lt hl, Nat.zero_mod, Nat.add_zero] at s1
  rw [← Nat.add_assoc, en_lin s1 (Nat.mod_lt _ (by decide))]
  rw [show b 0 % 18446744073709551616 + b 1 % 18446744073709551616 * 18446744073709551616 + (l + h * 18446744073709551616) = b 0 % 18446744073709551616 + l + (b 1 % 18446744073709551616 + h) * 18446744073709551616 by
    rw [Nat.add_mul]; omega]
  exact mod2_lin.symm
theorem ge_lin {m0 m1 v0 v1 f2 d1 d2 : Nat} (s1 : m0 + 18446744073709551616 * d1 = v0 + 5) (s2 : m1 + 18446744073709551616 * d2 = v1 + d1) : m0 + m1 * 18446744073709551616 + (f2 + d2) * 340282366920938463463374607431768211456 = v0 + v1 * 18446744073709551616 + f2 * 340282366920938463463374607431768211456 + 5 := by omega
theorem geF_eq {f : Nat → Nat} (h2 : f 2 % 18446744073709551616 ≤ 7) : num2 (geF f) + (geF f 2 % 18446744073709551616) * 340282366920938463463374607431768211456 = vA f + 5 := by
  have v0 : geF f 0 = f 0 + 5 + 0 := rfl
  have v1 : geF f 1 = f 1 + 0 + aC (f 0) 5 0 := rfl
  have v2 : geF f 2 = f 2 + aC (f 1) 0 (aC (f 0) 5 0) := rfl
  unfold num2 vA
  rw [v0, v1, v2]
  have s1 := aSC (f 0) 5 0
  have k1 := aC_le (x := f 0) (y := 5) (c := 0) (by decide)
  generalize aC (f 0) 5 0 = d1 at *
  have s2 := aSC (f 1) 0 d1
  have k2 := aC_le (x := f 1) (y := 0) (c := d1) (le1_mod k1)
  generalize aC (f 1) 0 d1 = d2 at *
  rw [show 5 % 18446744073709551616 = 5 from rfl, Nat.zero_mod, Nat.add_zero] at s1
  rw [Nat.zero_mod, Nat.add_zero, le1_id k1] at s2
  rw [show (f 2 + d2) % 18446744073709551616 = f 2 % 18446744073709551616 + d2 by omega]
  exact ge_lin s1 s2
theorem low_num2 {f : Nat → Nat} : vA f = num2 f + (f 2 % 18446744073709551616) * 340282366920938463463374607431768211456 := rfl
theorem num2_lt (f : Nat → Nat) : num2 f < 340282366920938463463374607431768211456 := by unfold num2; omega
theorem lt_lin {n t v : Nat} (hn : n < 340282366920938463463374607431768211456) (e : n + t * 340282366920938463463374607431768211456 = v + 5) (ht : t < 4) : v < 1361129467683753853853498429727072845819 := by omega
theorem ge_lin2 {n t v : Nat} (hn : n < 340282366920938463463374607431768211456) (e : n + t * 340282366920938463463374607431768211456 = v + 5) (ht : ¬ t < 4) (hv : v < 2722258935367507707706996859454145691638) :
    1361129467683753853853498429727072845819 ≤ v ∧ n = (v - 1361129467683753853853498429727072845819) % 340282366920938463463374607431768211456 := by omega
theorem sumA {n t s : Nat} : (n + s) % 340282366920938463463374607431768211456 = (n + t * 340282366920938463463374607431768211456 + s) % 340282366920938463463374607431768211456 := by omega
/-- What end tells. -/
theorem endF_eq {f : Nat → Nat} {s : Nat → Nat} {j : Nat} (h2 : f 2 % 18446744073709551616 ≤ 7) (hv : vA f < 2722258935367507707706996859454145691638) (hj : j < 16) :
    (geF f 2 % 18446744073709551616 < 4 → enO (enB f (pcL s) (pcH s)) j % 256 = dgN (vA f % pP + num (b8 s) 16) j % 256) ∧
    (¬ geF f 2 % 18446744073709551616 < 4 → enO (enB (geF f) (pcL s) (pcH s)) j % 256 = dgN (vA f % pP + num (b8 s) 16) j % 256) := by
  have hl : pcL s < 18446744073709551616 := lo64_lt _
  have e16 : num (b8 s) 16 = pcL s + pcH s * 18446744073709551616 := by
    rw [show 16 = 8 + 8 from rfl, num_split 8, Nat.mul_comm]
    rw [show pcL s = num (b8 s) 8 from lo64_num _, show pcH s = num (fun j => b8 s (8 + j)) 8 from lo64_num _]
  have hg := geF_eq h2
  have hn := num2_lt (geF f)
  rw [e16, Nat.mod_eq_of_lt (dgN_lt : dgN _ j < 256)]
  constructor
  · intro ht
    have hlt := lt_lin hn hg ht
    rw [enO_eq hj, enB_eq hl, show vA f % pP = vA f from Nat.mod_eq_of_lt hlt, sumA (t := f 2 % 18446744073709551616), ← low_num2, dgN_mod hj]
  · intro ht
    obtain ⟨k1, k2⟩ := ge_lin2 hn hg ht hv
    rw [enO_eq hj, enB_eq hl, show vA f % pP = vA f - 1361129467683753853853498429727072845819 from by unfold pP; omega, k2, Nat.mod_add_mod, dgN_mod hj]
abbrev uB16 (f : Nat → Nat) : Blk := ⟨5, [.ws .u8 16 f], 0, 0⟩
def cEndP (args : List AV) (h : Heap) (slot : Nat) : Option (List Prop × AV × Heap) :=
  match args with
  | [.v1 (.sc (.pt p 0)), .v1 (.sc (.sl b o n c))] => match hget h p, hget h b, Nat.beq p b, isHole h slot with
    | some ⟨t0, [.ws .u64 3 f, .ws .u64 2 r], 0, 0⟩, some ⟨t1, [.ws .u8 N g, .one (.rw (.func fd ar ca))], 3, hi⟩, false, true =>
      some ([hi ≤ o, (o - hi) + n ≤ N, n = 16, 16 ≤ c, f 2 % 18446744073709551616 ≤ 7, vA f < 2722258935367507707706996859454145691638], .v1 (.sc (.sl slot 0 16 16)),
        hset h slot (uB16 (dgN (vA f % pP + num (fun j => g ((o - hi) + j) % 256) 16))))
    | _, _, _, _ => none
  | _ => none
set_option maxRecDepth 100000
theorem okEndP : (CallC.mem cEndP).Ok Try.prog 46 := by
  intro args h slot pre v h' e hp
  unfold cEndP at e
  split at e
  rotate_left
  · cases e
  rename_i p b o n c
  split at e
  rotate_left
  · cases e
  rename_i t0 f r t1 N g fd ar ca hi hb0 hb1 hpb hh
  cases e
  have hl := hget_lt hb0
  have hne : p ≠ b := fun e => by subst e; simp at hpb
  have h1 : hi ≤ o := hp _ (by simp)
  have h2 : (o - hi) + n ≤ N := hp _ (by simp)
  have h3 : n = 16 := hp (n = 16) (by simp)
  have h4 : 16 ≤ c := hp (16 ≤ c) (by simp)
  have h5 : f 2 % 18446744073709551616 ≤ 7 := hp (f 2 % 18446744073709551616 ≤ 7) (by simp)
  have h6 : vA f < 2722258935367507707706996859454145691638 := hp (vA f < 2722258935367507707706996859454145691638) (by simp)
  subst h3
  obtain ⟨e, rfl⟩ : ∃ e, c = e + 16 := ⟨c - 16, by omega⟩
  have hbk := bk_two hpb
  have hsl := isHole_lt hh
  have hps : p ≠ slot := fun e => by rw [e, hsl.2] at hb0; cases hb0
  have hbs : b ≠ slot := fun e => by rw [e, hsl.2] at hb1; cases hb1
  have hF : ∀ j, j < 16 → _ := fun j hj => endF_eq (f := f) (s := fun j => g ((o - hi) + j)) h5 h6 hj
  have ht : Nat.blt (geF f 2 % 18446744073709551616) 4 = true ↔ geF f 2 % 18446744073709551616 < 4 := by rw [Nat.blt_eq]
  have hx : (fun j => g ((o - hi) + (8 + j))) = fun j => g (addN o 8 - hi + j) := by funext j; rw [addN_eq]; congr 1; omega
  have hpc : pcH (fun j => g ((o - hi) + j)) = lo64 fun j => g (addN o 8 - hi + j) := by unfold pcH; rw [hx]
  have hpl : pcL (fun j => g ((o - hi) + j)) = lo64 fun j => g (o - hi + j) := rfl
  rw [hpc, hpl] at hF
  generalize hFF : dgN (vA f % pP + num (fun j => g ((o - hi) + j) % 256) 16) = F
  rw [show dgN (vA f % pP + num (b8 fun j => g ((o - hi) + j)) 16) = F from hFF] at hF
  clear hFF hpc hpl hx
  have hchk2 : ∀ H : Heap, nextB [p, b] H = true → chkB [p, b] H = true := fun H hH => by
    unfold chkB
    rw [hH]
    simp only [nodupB, notIn, hpb]
    rfl
  have hpsb : Nat.beq p slot = false := by rw [← Bool.not_eq_true, Nat.beq_eq]; exact hps
  have hbsb : Nat.beq b slot = false := by rw [← Bool.not_eq_true, Nat.beq_eq]; exact hbs
  have hspb : Nat.beq slot p = false := by rw [← Bool.not_eq_true, Nat.beq_eq]; exact fun e => hps e.symm
  have hsbb : Nat.beq slot b = false := by rw [← Bool.not_eq_true, Nat.beq_eq]; exact fun e => hbs e.symm
  have hss : Nat.beq slot slot = true := by simp
  have hchk3 : ∀ H : Heap, nextB [p, b, slot] H = true → chkB [p, b, slot] H = true := fun H hH => by
    unfold chkB
    rw [hH]
    simp only [nodupB, notIn, hpb, hpsb, hbsb]
    rfl
  refine mem_walkW tt_ok Try.func46 (by kernel_rfl) (by kernel_rfl) [p, b] [8] slot [plB t0 f r, wbB t1 N g fd ar ca hi] [plB t0 f r, wbB t1 N g fd ar ca hi, some (uB16 F)] (args' := [.v1 (.sc (.pt 0 0)), .v1 (.sc (.sl 1 o 16 (e + 16)))]) (vK := .v1 (.sc (.sl 2 0 16 16)))
    (hchk2 _ (by kernel_rfl)) ?_ (by kernel_rfl) ?_ (by kernel_rfl) (fun i hi => ?_) (fun i b hb h3 => ?_) (by kernel_rfl) (by kernel_rfl) (fun i hi => ?_) (hchk3 _ (by kernel_rfl)) ?_ ?_ (fun t ht => by
      have : t = 0 := by simpa using ht
      subst this; exact hh) (fun i hi h2 => ?_) ?_
  · show [pickB _ (hget h p), pickB _ (hget h b)] = _
    rw [hb0, hb1]; rfl
  · show [AV.v1 (.sc (.pt (bk [p, b] p) 0)), AV.v1 (.sc (.sl (bk [p, b] b) o 16 (e + 16)))] = _
    rw [hbk.1, hbk.2]
  · have : i = 0 ∨ i = 1 := by simp at hi; omega
    rcases this with rfl | rfl
    · exact .inl ⟨_, rfl, by simp⟩
    · exact .inr ⟨_, rfl, rfl, rfl⟩
  · match i, hb with
    | 0, hb => cases hb; cases h3
    | 1, hb => exact ⟨by simp, hb⟩
    | 2, hb => cases hb; cases h3
    | i + 3, hb => simp [hget] at hb
  · have : i = 0 ∨ i = 1 ∨ i = 2 := by simp at hi; omega
    rcases this with rfl | rfl | rfl
    · exact ⟨_, rfl⟩
    · exact ⟨_, rfl⟩
    · exact ⟨_, rfl⟩
  · show [pickB _ (hget (hset h slot _) p), pickB _ (hget (hset h slot _) b), pickB _ (hget (hset h slot _) slot)] = _
    rw [hget_hset_same hsl.1, hget_hset_ne hps, hget_hset_ne hbs, hb0, hb1]; rfl
  · show AV.v1 (.sc (.sl (bk [p, b, slot] slot) 0 16 16)) = _
    have : bk [p, b, slot] slot = 2 := by simp only [bk, idxN, hspb, hsbb, hss]
    rw [this]
  · exact hget_hset_ne fun e => h2 0 (by simp) (by rw [e]; rfl)
  · cases hbt : Nat.blt (geF f 2 % 18446744073709551616) 4
    · have hnt : ¬ geF f 2 % 18446744073709551616 < 4 := fun h => by rw [ht.2 h] at hbt; cases hbt
      refine evS_q mixed tt_ok GPc_ok 1500 [⟨6,2,.lit (.bo false)⟩] (same (p := 0 % 18446744073709551616 ≤ 1 ∧ aC (f 0) 5 0 % 18446744073709551616 ≤ 1 ∧ Nat.blt (geF f 2 % 18446744073709551616) 4 = false ∧ hi ≤ o ∧ (o - hi) + 16 ≤ N ∧ 16 ≤ e + 16 ∧ 8 ≤ 16 ∧ 0 % 18446744073709551616 ≤ 1 ∧ hi ≤ addN o 8 ∧ addN o 8 - hi + 8 ≤ N ∧ 8 ≤ e + 16 - 8 ∧ 8 ≤ 8 ∧
        endM [0, 1, 8] [plB t0 f r, wbB t1 N g fd ar ca hi, some (uB16 (upN (enO (enB (geF f) (lo64 fun j => g (o - hi + j)) (lo64 fun j => g (addN o 8 - hi + j)))) 16))] [plB t0 f r, wbB t1 N g fd ar ca hi, some (uB16 F)] (.v1 (.sc (.sl 8 0 16 16))) (.v1 (.sc (.sl 2 0 16 16)))) ?_ (by kernel_rfl))
      exact ⟨by decide, le1_mod (aC_le (by decide)), hbt, h1, h2, by omega, by decide, by decide, by rw [addN_eq]; omega, by rw [addN_eq]; omega, by omega, by decide,
        endM_ok ⟨simB_refl _, simB_refl _, ⟨rfl, rfl, rfl, fun ρ => ws8_val (fun j hj => by rw [upN_lt hj]; exact (hF j hj).2 hnt) ρ⟩, trivial⟩ rfl fun _ => rfl⟩
    · have hnt : geF f 2 % 18446744073709551616 < 4 := ht.1 hbt
      refine evS_q mixed tt_ok GPc_ok 1500 [⟨6,2,.lit (.bo true)⟩] (same (p := 0 % 18446744073709551616 ≤ 1 ∧ aC (f 0) 5 0 % 18446744073709551616 ≤ 1 ∧ Nat.blt (geF f 2 % 18446744073709551616) 4 = true ∧ hi ≤ o ∧ (o - hi) + 16 ≤ N ∧ 16 ≤ e + 16 ∧ 8 ≤ 16 ∧ 0 % 18446744073709551616 ≤ 1 ∧ hi ≤ addN o 8 ∧ addN o 8 - hi + 8 ≤ N ∧ 8 ≤ e + 16 - 8 ∧ 8 ≤ 8 ∧
        endM [0, 1, 8] [plB t0 f r, wbB t1 N g fd ar ca hi, some (uB16 (upN (enO (enB f (lo64 fun j => g (o - hi + j)) (lo64 fun j => g (addN o 8 - hi + j)))) 16))] [plB t0 f r, wbB t1 N g fd ar ca hi, some (uB16 F)] (.v1 (.sc (.sl 8 0 16 16))) (.v1 (.sc (.sl 2 0 16 16)))) ?_ (by kernel_rfl))
      exact ⟨by decide, le1_mod (aC_le (by decide)), hbt, h1, h2, by omega, by decide, by decide, by rw [addN_eq]; omega, by rw [addN_eq]; omega, by omega, by decide,
        endM_ok ⟨simB_refl _, simB_refl _, ⟨rfl, rfl, rfl, fun ρ => ws8_val (fun j hj => by rw [upN_lt hj]; exact (hF j hj).1 hnt) ρ⟩, trivial⟩ rfl fun _ => rfl⟩
end Go.Proofs.Ytndmoidenbfflaa
