/- Poly1305 of the code: a piece. -/
import Derived.Test.YtndmoidenbfflaaC5
namespace Go.Proofs.Ytndmoidenbfflaa
open Go.Rq Go
set_option linter.unusedVariables false
set_option linter.unusedSimpArgs false
def fuF (n : Nat) (g : Nat → Nat) : Nat → Nat := upd (putF 0 n (fun _ => 0) g) n 1
def pcL (u : Nat → Nat) : Nat := lo64 fun j => u j
def pcH (u : Nat → Nat) : Nat := lo64 fun j => u (8 + j)
def pcF (f u : Nat → Nat) : Nat → Nat := upd (foV f (pcL u) (pcH u)) 2 (foV f (pcL u) (pcH u) 2 + (foD f (pcL u) (pcH u) + u 16 % 256))
theorem fuF_at {n : Nat} {g : Nat → Nat} {j : Nat} : fuF n g j = if j < n then g j else if j = n then 1 else 0 := by
  unfold fuF
  by_cases h : j = n
  · subst h; rw [upd_same, if_neg (by omega), if_pos rfl]
  · rw [upd_ne _ _ h]
    unfold putF
    by_cases h2 : j < n
    · have e1 : Nat.ble 0 j = true := by simp
      have e2 : Nat.blt j (0 + n) = true := by rw [Nat.blt_eq]; omega
      rw [e1, e2, if_pos h2]; rfl
    · have e2 : Nat.blt j (0 + n) = false := by rw [← Bool.not_eq_true, Nat.blt_eq]; omega
      rw [e2, Bool.and_false, cond_false, if_neg h2, if_neg h]
theorem fuF_num {n : Nat} {g : Nat → Nat} (h : n ≤ 16) : num (b8 (fuF n g)) 17 = num (b8 g) n + 256 ^ n := by
  obtain ⟨m, hm⟩ : ∃ m, 17 = n + (1 + m) := ⟨16 - n, by omega⟩
  rw [hm, num_split n, num_split 1]
  rw [show num (b8 (fuF n g)) n = num (b8 g) n from num_congr fun j hj => by simp only [b8]; rw [fuF_at, if_pos hj]]
  rw [show num (fun j => b8 (fuF n g) (n + j)) 1 = 1 by
    show 0 + (fuF n g (n + 0) % 256) * 256 ^ 0 = 1
    rw [fuF_at, if_neg (by omega), if_pos (by omega)]]
  rw [show num (fun j => b8 (fuF n g) (n + (1 + j))) m = 0 from num_zero fun j _ => by simp only [b8]; rw [fuF_at, if_neg (by omega), if_neg (by omega)]]
  omega
theorem pc_lin {m0 m1 v0 v1 f2 l h t d1 d2 : Nat} (s1 : m0 + 18446744073709551616 * d1 = v0 + l) (s2 : m1 + 18446744073709551616 * d2 = v1 + h + d1) :
    m0 + m1 * 18446744073709551616 + (f2 + (d2 + t)) * 340282366920938463463374607431768211456 = v0 + v1 * 18446744073709551616 + f2 * 340282366920938463463374607431768211456 + (l + h * 18446744073709551616 + t * 340282366920938463463374607431768211456) := by omega
theorem pc_top {f2 d t : Nat} (h : f2 % 18446744073709551616 ≤ 5) (hd : d ≤ 1) (ht : t ≤ 1) : (f2 + (d + t)) % 18446744073709551616 = f2 % 18446744073709551616 + (d + t) := by omega
theorem pcF_eq {f g : Nat → Nat} {n : Nat} (hn : n ≤ 16) (h2 : f 2 % 18446744073709551616 ≤ 5) :
    vA (pcF f (fuF n g)) = vA f + (num (b8 g) n + 256 ^ n) ∧ pcF f (fuF n g) 2 % 18446744073709551616 ≤ 7 := by
  have hl := lo64_lt fun j => fuF n g j
  have hh := lo64_lt fun j => fuF n g (8 + j)
  have e17 := fuF_num (g := g) hn
  rw [show 17 = 8 + (8 + 1) from rfl, num_split 8, num_split 8 1] at e17
  rw [show num (b8 (fuF n g)) 8 = pcL (fuF n g) from (lo64_num _).symm, show num (fun j => b8 (fuF n g) (8 + j)) 8 = pcH (fuF n g) from (lo64_num _).symm] at e17
  rw [show num (fun j => b8 (fuF n g) (8 + (8 + j))) 1 = fuF n g 16 % 256 by simp [num]] at e17
  have ht : fuF n g 16 % 256 ≤ 1 := by
    rw [fuF_at]
    split
    · omega
    · split <;> decide
  have hl : pcL (fuF n g) < 18446744073709551616 := hl
  have hh : pcH (fuF n g) < 18446744073709551616 := hh
  have v0 : pcF f (fuF n g) 0 = f 0 + pcL (fuF n g) + 0 := rfl
  have v1 : pcF f (fuF n g) 1 = f 1 + pcH (fuF n g) + aC (f 0) (pcL (fuF n g)) 0 := rfl
  have v2 : pcF f (fuF n g) 2 = f 2 + (aC (f 1) (pcH (fuF n g)) (aC (f 0) (pcL (fuF n g)) 0) + fuF n g 16 % 256) := rfl
  unfold vA
  rw [v0, v1, v2, ← e17]
  generalize pcL (fuF n g) = l at *
  generalize pcH (fuF n g) = h at *
  generalize fuF n g 16 % 256 = t at *
  have s1 := aSC (f 0) l 0
  have k1 := aC_le (x := f 0) (y := l) (c := 0) (by decide)
  generalize aC (f 0) l 0 = d1 at *
  have s2 := aSC (f 1) h d1
  have k2 := aC_le (x := f 1) (y := h) (c := d1) (le1_mod k1)
  generalize aC (f 1) h d1 = d2 at *
  rw [Nat.mod_eq_of_lt hl, Nat.zero_mod, Nat.add_zero] at s1
  rw [Nat.mod_eq_of_lt hh, le1_id k1] at s2
  have q := pc_top h2 k2 ht
  rw [q]
  refine ⟨?_, by omega⟩
  rw [show (256 : Nat) ^ 8 = 18446744073709551616 by decide]
  rw [pc_lin (f2 := f 2 % 18446744073709551616) (t := t) s1 s2]
  rw [Nat.mul_add, ← Nat.mul_assoc]
  omega
def cPiece (args : List AV) (h : Heap) (slot : Nat) : Option (List Prop × AV × Heap) :=
  match args with
  | [.v1 (.sc (.pt p 0)), .v1 (.sc (.sl b o n c))] => match hget h p, hget h b, Nat.beq p b with
    | some ⟨t0, [.ws .u64 3 f, .ws .u64 2 r], 0, 0⟩, some ⟨t1, [.ws .u8 N g, .one (.rw (.func fd ar ca))], 3, hi⟩, false =>
      some ([hi ≤ o, (o - hi) + n ≤ N, n ≤ 16], .tup [], hset h p ⟨t0, [.ws .u64 3 (tmF (pcF f (fuF n fun j => g ((o - hi) + j))) r), .ws .u64 2 r], 0, 0⟩)
    | _, _, _ => none
  | _ => none
def GPc : Ctx := ctxL [(53, .pure cAdd64), (44, .rd cLow64), (54, .mem cTimesP)]
theorem GPc_ok : CtxOk Try.prog GPc := ctxL_cons okAdd64 <| ctxL_cons okLow64 <| ctxL_cons okTimesP ctxL_nil
theorem bk_two {p b : Nat} (h : Nat.beq p b = false) : bk [p, b] p = 0 ∧ bk [p, b] b = 1 := by
  have h2 : Nat.beq b p = false := by
    rw [← Bool.not_eq_true, Nat.beq_eq] at h ⊢
    exact fun e => h e.symm
  have h3 : ∀ x, Nat.beq x x = true := fun x => by simp
  constructor
  · simp only [bk, idxN, h3]
  · simp only [bk, idxN, h2, h3]
abbrev wbB (t N : Nat) (g : Nat → Nat) (fd : Fn) (ar : Array Value) (ca : Array Value) (hi : Nat) : Option Blk := some ⟨t, [.ws .u8 N g, .one (.rw (.func fd ar ca))], 3, hi⟩
theorem okPiece : (CallC.mem cPiece).Ok Try.prog 45 := by
  intro args h slot pre v h' e hp
  unfold cPiece at e
  split at e
  rotate_left
  · cases e
  rename_i p b o n c
  split at e
  rotate_left
  · cases e
  rename_i t0 f r t1 N g fd ar ca hi hb0 hb1 hpb
  cases e
  have hl := hget_lt hb0
  have hne : p ≠ b := fun e => by subst e; simp at hpb
  have h1 : hi ≤ o := hp _ (by simp)
  have h2 : (o - hi) + n ≤ N := hp _ (by simp)
  have h3 : n ≤ 16 := hp (n ≤ 16) (by simp)
  have hbk := bk_two hpb
  generalize hF : tmF (pcF f (fuF n fun j => g ((o - hi) + j))) r = F
  have hchk : ∀ H : Heap, nextB [p, b] H = true → chkB [p, b] H = true := fun H hH => by
    unfold chkB
    rw [hH]
    simp only [nodupB, notIn, hpb]
    rfl
  refine mem_walkW tt_ok Try.func45 (by kernel_rfl) (by kernel_rfl) [p, b] [] slot [plB t0 f r, wbB t1 N g fd ar ca hi] [plB t0 F r, wbB t1 N g fd ar ca hi] (args' := [.v1 (.sc (.pt 0 0)), .v1 (.sc (.sl 1 o n c))]) (vK := .tup [])
    (hchk _ (by kernel_rfl)) ?_ (by kernel_rfl) ?_ (by kernel_rfl) (fun i hi => ?_) (fun i b hb h3 => ?_) (by kernel_rfl) (by kernel_rfl) (fun i hi => ?_) (hchk _ (by kernel_rfl)) ?_ rfl (fun t ht => by simp at ht) (fun i hi _ => ?_) ?_
  · show [pickB _ (hget h p), pickB _ (hget h b)] = _
    rw [hb0, hb1]; rfl
  · show [AV.v1 (.sc (.pt (bk [p, b] p) 0)), AV.v1 (.sc (.sl (bk [p, b] b) o n c))] = _
    rw [hbk.1, hbk.2]
  · have : i = 0 ∨ i = 1 := by simp at hi; omega
    rcases this with rfl | rfl
    · exact .inl ⟨_, rfl, by simp⟩
    · exact .inr ⟨_, rfl, rfl, rfl⟩
  · match i, hb with
    | 0, hb => cases hb; cases h3
    | 1, hb => exact ⟨by simp, hb⟩
    | i + 2, hb => simp [hget] at hb
  · have : i = 0 ∨ i = 1 := by simp at hi; omega
    rcases this with rfl | rfl
    · exact ⟨_, rfl⟩
    · exact ⟨_, rfl⟩
  · show [pickB _ (hget (hset h p _) p), pickB _ (hget (hset h p _) b)] = _
    rw [hget_hset_same hl, hget_hset_ne (fun e => hne e.symm), hb1]; rfl
  · exact hget_hset_ne fun e => hi 0 (by simp) (by rw [e]; rfl)
  · subst hF
    refine evS_q mixed tt_ok GPc_ok 500 [⟨1,2,.sym⟩,⟨2,2,.sym⟩,⟨2,3,.sym⟩] (same (p := hi ≤ o ∧ (o - hi) + n ≤ N ∧ n = n ∧ n ≤ 17 ∧ 0 + n ≤ 17 ∧ 0 ≤ Int.ofNat n ∧ Int.ofNat n < ((17 : Nat) : Int) ∧ n < 17 ∧ 17 ≤ 17 ∧ 17 ≤ 17 ∧ 8 ≤ 17 ∧ 0 % 18446744073709551616 ≤ 1 ∧ 17 ≤ 17 ∧ 9 ≤ 9 ∧ 8 ≤ 9 ∧
      foC f (pcL (fuF n fun j => g ((o - hi) + j))) % 18446744073709551616 ≤ 1 ∧ endM [0, 1] [plB t0 (tmF (pcF f (fuF n fun j => g ((o - hi) + j))) r) r, wbB t1 N g fd ar ca hi] [plB t0 (tmF (pcF f (fuF n fun j => g ((o - hi) + j))) r) r, wbB t1 N g fd ar ca hi] (.tup []) (.tup [])) ?_ (by kernel_rfl))
    exact ⟨h1, h2, rfl, by omega, by omega, Int.natCast_nonneg _, by simp only [Int.ofNat_eq_natCast]; omega, by omega, by decide, by decide, by decide, by decide, by decide, by decide, by decide, foC_le _ _, endM_same rfl rfl⟩
end Go.Proofs.Ytndmoidenbfflaa
