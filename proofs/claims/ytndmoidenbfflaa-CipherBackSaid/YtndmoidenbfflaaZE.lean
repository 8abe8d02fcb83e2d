/- Joined: C31 C32 C33 C34 C35 C36 C37 C38 C39. -/
import Derived.Test.YtndmoidenbfflaaZC
import Derived.Test.YtndmoidenbfflaaRows
import Derived.Test.YtndmoidenbfflaaC19
import Derived.ProofKit
import Derived.Carry
import Derived.ChangeSlices
import Derived.ChangeMaps5
/- The chapter's examples, reckoned. -/
namespace Go.Proofs.Ytndmoidenbfflaa
open Go.Rq Go
set_option linter.unusedVariables false
set_option linter.unusedSimpArgs false
set_option maxRecDepth 100000
/-! lists that the kernel reckons at once -/
def fc {α : Type} (n : Nat) (k : Nat → α) : α := Nat.rec (k 0) (fun m _ => k (m + 1)) n
theorem fc_eq {α : Type} (n : Nat) (k : Nat → α) : fc n k = k n := by cases n <;> rfl
def frc {α : Type} : List Nat → (List Nat → α) → α
  | [], k => k []
  | x :: r, k => fc x fun y => frc r fun s => k (y :: s)
theorem frc_eq {α : Type} : ∀ (l : List Nat) (k : List Nat → α), frc l k = k l
  | [], _ => rfl
  | x :: r, k => by
    show fc x (fun y => frc r fun s => k (y :: s)) = _
    rw [fc_eq, frc_eq r]
def lf (l : List Nat) : Nat → Nat := fun j => l.getD j 0
def tabL (n : Nat) (f : Nat → Nat) : List Nat := (List.range n).map f
theorem lf_tab {n : Nat} {f : Nat → Nat} {j : Nat} (h : j < n) : lf (tabL n f) j = f j := by
  unfold lf tabL
  rw [List.getD_eq_getElem?_getD, List.getElem?_map, List.getElem?_range h]
  rfl
abbrev P32 : Nat := 4294967296
/-- Alike in the first sixteen words. -/
def Lk (f g : Nat → Nat) : Prop := ∀ j, j < 16 → f j % 4294967296 = g j % 4294967296
theorem upd_lk {f g : Nat → Nat} {a x y : Nat} (h : Lk f g) (hx : x % 4294967296 = y % 4294967296) : Lk (upd f a x) (upd g a y) := fun j hj => by
  unfold upd
  cases hb : Nat.beq j a
  · rw [cond_false, cond_false]; exact h j hj
  · rw [cond_true, cond_true]; exact hx
theorem rot_lk {x y k : Nat} (h : x % 4294967296 = y % 4294967296) (hk : k ≤ 32) : rotV x k % 4294967296 = rotV y k % 4294967296 := by
  unfold rotV
  rw [h]
  have e1 : ∀ a b : Nat, (a ||| b) % 2 ^ 32 = (a % 2 ^ 32) ||| (b % 2 ^ 32) := fun a b => Nat.or_mod_two_pow
  show (x * 2 ^ k ||| _) % 2 ^ 32 = (y * 2 ^ k ||| _) % 2 ^ 32
  rw [e1, e1, Nat.mul_mod, show x % 2 ^ 32 = y % 2 ^ 32 from h, ← Nat.mul_mod]
theorem xor_lk {x y z w : Nat} (h : x % 4294967296 = y % 4294967296) (k : z % 4294967296 = w % 4294967296) : (x ^^^ z) % 4294967296 = (y ^^^ w) % 4294967296 := by
  show (x ^^^ z) % 2 ^ 32 = (y ^^^ w) % 2 ^ 32
  rw [Nat.xor_mod_two_pow, Nat.xor_mod_two_pow, show x % 2 ^ 32 = y % 2 ^ 32 from h, show z % 2 ^ 32 = w % 2 ^ 32 from k]
theorem qA_lk {f g : Nat → Nat} {a b : Nat} (h : Lk f g) (ha : a < 16) (hb : b < 16) : Lk (qA f a b) (qA g a b) :=
  upd_lk h (by rw [Nat.add_mod, h a ha, h b hb, ← Nat.add_mod])
theorem qR_lk {f g : Nat → Nat} {d a k : Nat} (h : Lk f g) (hd : d < 16) (ha : a < 16) (hk : k ≤ 32) : Lk (qR f d a k) (qR g d a k) :=
  upd_lk h (rot_lk (xor_lk (h d hd) (h a ha)) hk)
theorem qrF_lk {f g : Nat → Nat} {a b c d : Nat} (h : Lk f g) (ha : a < 16) (hb : b < 16) (hc : c < 16) (hd : d < 16) : Lk (qrF a b c d f) (qrF a b c d g) := by
  unfold qrF
  exact qR_lk (qA_lk (qR_lk (qA_lk (qR_lk (qA_lk (qR_lk (qA_lk h ha hb) hd ha (by decide)) hc hd) hb hc (by decide)) ha hb) hd ha (by decide)) hc hd) hb hc (by decide)
def mTab (f : Nat → Nat) : List Nat := tabL 16 fun j => f j % 4294967296
theorem mTab_lk (f : Nat → Nat) : Lk (lf (mTab f)) f := fun j hj => by
  unfold mTab
  rw [lf_tab hj, Nat.mod_mod]
theorem Lk.trans {f g h : Nat → Nat} (a : Lk f g) (b : Lk g h) : Lk f h := fun j hj => (a j hj).trans (b j hj)
abbrev Q4 := Nat × Nat × Nat × Nat
def q4ok : List Q4 → Bool
  | [] => true
  | (a, b, c, d) :: r => Nat.blt a 16 && (Nat.blt b 16 && (Nat.blt c 16 && (Nat.blt d 16 && q4ok r)))
def goF : List Q4 → (Nat → Nat) → Nat → Nat
  | [], f => f
  | (a, b, c, d) :: r, f => goF r (qrF a b c d f)
def goL : List Q4 → List Nat → List Nat
  | [], l => l
  | (a, b, c, d) :: r, l => frc (mTab (qrF a b c d (lf l))) fun m => goL r m
theorem goL_lk : ∀ {qs : List Q4} {l : List Nat} {f : Nat → Nat}, q4ok qs = true → Lk (lf l) f → Lk (lf (goL qs l)) (goF qs f)
  | [], _, _, _, h => h
  | (a, b, c, d) :: r, l, f, hq, h => by
    unfold q4ok at hq
    simp only [Bool.and_eq_true, Nat.blt_eq] at hq
    show Lk (lf (frc (mTab (qrF a b c d (lf l))) fun m => goL r m)) (goF r (qrF a b c d f))
    rw [frc_eq]
    exact goL_lk hq.2.2.2.2 ((mTab_lk _).trans (qrF_lk h hq.1 hq.2.1 hq.2.2.1 hq.2.2.2.1))
def rq : List Q4 := [(0, 4, 8, 12), (1, 5, 9, 13), (2, 6, 10, 14), (3, 7, 11, 15), (0, 5, 10, 15), (1, 6, 11, 12), (2, 7, 8, 13), (3, 4, 9, 14)]
def rqN : Nat → List Q4
  | 0 => []
  | n + 1 => rqN n ++ rq
theorem goF_app : ∀ (a b : List Q4) (f : Nat → Nat), goF (a ++ b) f = goF b (goF a f)
  | [], _, _ => rfl
  | (_, _, _, _) :: r, b, f => goF_app r b _
theorem itF_go (f : Nat → Nat) : ∀ n, itF n f = goF (rqN n) f
  | 0 => rfl
  | n + 1 => by
    show rndF (itF n f) = goF (rqN n ++ rq) f
    rw [goF_app, ← itF_go f n]
    rfl
/-- A block's bytes, as a list. -/
def blkL (f g : Nat → Nat) (c : Nat) : List Nat :=
  frc (mTab (iniF (kw f) (kw g) c)) fun s => frc (goL (rqN 10) s) fun x => tabL 64 fun j => (lf x (j / 4) + lf s (j / 4)) % 4294967296 / 2 ^ (8 * (j % 4)) % 256
theorem blkL_eq {f g : Nat → Nat} {c j : Nat} (hj : j < 64) : lf (blkL f g c) j = blkF f g c j % 256 := by
  unfold blkL
  rw [frc_eq, frc_eq, lf_tab hj]
  have h1 := mTab_lk (iniF (kw f) (kw g) c)
  have h2 := goL_lk (qs := rqN 10) (by decide) h1
  rw [← itF_go] at h2
  unfold blkF outF
  have hj4 : j / 4 < 16 := by omega
  have e : (lf (goL (rqN 10) (mTab (iniF (kw f) (kw g) c))) (j / 4) + lf (mTab (iniF (kw f) (kw g) c)) (j / 4)) % 4294967296 = (itF 10 (iniF (kw f) (kw g) c) (j / 4) + iniF (kw f) (kw g) c (j / 4)) % 4294967296 := by
    rw [Nat.add_mod, h2 _ hj4, h1 _ hj4, ← Nat.add_mod]
  rw [e]
  have : (itF 10 (iniF (kw f) (kw g) c) (j / 4) + iniF (kw f) (kw g) c (j / 4)) % 4294967296 / 2 ^ (8 * (j % 4)) < 4294967296 :=
    Nat.lt_of_le_of_lt (Nat.div_le_self _ _) (Nat.mod_lt _ (by decide))
  rw [Nat.mod_eq_of_lt this]
end Go.Proofs.Ytndmoidenbfflaa

/- The examples' numbers. Printed by genc32.py. -/
namespace Go.Proofs.Ytndmoidenbfflaa
open Go.Rq Go
set_option linter.unusedVariables false
set_option linter.unusedSimpArgs false
set_option maxRecDepth 100000
def onceL : List Nat := [133, 214, 190, 120, 87, 85, 109, 51, 127, 68, 82, 254, 66, 213, 6, 168, 1, 3, 128, 138, 251, 13, 178, 253, 74, 191, 246, 175, 65, 73, 245, 27]
def msgL : List Nat := [67, 114, 121, 112, 116, 111, 103, 114, 97, 112, 104, 105, 99, 32, 70, 111, 114, 117, 109, 32, 82, 101, 115, 101, 97, 114, 99, 104, 32, 71, 114, 111, 117, 112]
def b0L : List Nat := [138, 220, 145, 253, 159, 244, 240, 245, 27, 15, 173, 80, 255, 21, 214, 55, 228, 14, 253, 162, 6, 204, 82, 199, 131, 167, 66, 0, 80, 60, 21, 130, 205, 152, 51, 54, 125, 10, 84, 213, 125, 60, 158, 153, 143, 73, 14, 230, 156, 163, 76, 31, 249, 233, 57, 167, 85, 132, 197, 45, 105, 10, 53, 212]
def boL : List Nat := [176, 151, 200, 237, 119, 35, 74, 155, 248, 72, 59, 175, 162, 193, 35, 247, 242, 222, 241, 119, 70, 82, 209, 85, 109, 142, 254, 105, 168, 9, 215, 96, 44, 188, 61, 230, 172, 133, 222, 141, 174, 56, 95, 10, 55, 241, 202, 86, 183, 136, 254, 5, 213, 82, 164, 24, 82, 28, 190, 172, 138, 157, 37, 193]
theorem num_mod {f g : Nat → Nat} {n : Nat} (h : ∀ j, j < n → f j % 256 = g j % 256) : num (fun j => f j % 256) n = num (fun j => g j % 256) n := num_congr h
theorem lo32_mod {f g : Nat → Nat} (h : ∀ j, j < 4 → f j % 256 = g j % 256) : lo32 f = lo32 g := by
  unfold lo32
  rw [h 0 (by decide), h 1 (by decide), h 2 (by decide), h 3 (by decide)]
theorem lo64_mod {f g : Nat → Nat} (h : ∀ j, j < 8 → f j % 256 = g j % 256) : lo64 f = lo64 g := by
  unfold lo64
  rw [lo32_mod (f := f) (g := g) fun j hj => h j (by omega), lo32_mod (f := fun j => f (4 + j)) (g := fun j => g (4 + j)) fun j hj => h (4 + j) (by omega)]
theorem accN_mod {b b' : Nat → Nat} {m r : Nat} (h : ∀ j, j < m → b j % 256 = b' j % 256) : ∀ k, accN b m r k = accN b' m r k
  | 0 => rfl
  | k + 1 => by
    show (accN b m r k + chk1 b m k) * r % pP = (accN b' m r k + chk1 b' m k) * r % pP
    rw [accN_mod h k, show chk1 b m k = chk1 b' m k by
      unfold chk1
      rw [num_congr fun j hj => h (16 * k + j) (by omega)]]
theorem tagN_mod {f f' b b' : Nat → Nat} {m : Nat} (h : ∀ j, j < 32 → f j % 256 = f' j % 256) (hb : ∀ j, j < m → b j % 256 = b' j % 256) : tagN f b m = tagN f' b' m := by
  unfold tagN rN
  rw [show pcL f = pcL f' from lo64_mod fun j hj => h j (by omega), show pcH f = pcH f' from lo64_mod fun j hj => h (8 + j) (by omega), accN_mod hb,
    num_congr (n := 16) (f := fun j => f (16 + j) % 256) (g := fun j => f' (16 + j) % 256) fun j hj => h (16 + j) (by omega)]
theorem b1_known : (blkL idF nonF 1).take 8 = [16, 241, 231, 228, 209, 59, 89, 21] := by kernel_rfl
theorem b0_known : blkL idF nonF 0 = b0L := by kernel_rfl
theorem bo_known : blkL (lf onceL) nonF 0 = boL := by kernel_rfl
theorem t1_known : tagN (lf onceL) (lf msgL) 34 = 905406785994486245610219399192143267496 := by kernel_rfl
theorem t0_known : tagN (lf b0L) (fun _ => 0) 16 = 866494876554015909630955030692209320590 := by kernel_rfl
theorem to_known : tagN (lf boL) (fun _ => 0) 16 = 140585244238279042143536513628083362958 := by kernel_rfl
/-- The tag of nothing. -/
theorem all0 {q b : Nat → Nat} : ∀ j, j < allL 0 0 → allF 0 q 0 b j % 256 = 0 := fun j hj => by
  have hj : j < 16 := hj
  have e := allF_len (K := 0) (N := 0) (q := q) (b := b) (i := j) hj
  rw [show up16 0 + up16 0 + j = j by rw [up16_0]; omega] at e
  rw [e]
  unfold kbF
  have : ∀ i, dgN 0 i = 0 := fun i => by unfold dgN; simp
  rw [this, this]
  cases Nat.blt j 8 <;> rfl
theorem sea0 {f g q b : Nat → Nat} {kl : List Nat} (h : ∀ j, j < 32 → blkF f g 0 j % 256 = lf kl j % 256) : seaN f g 0 q 0 b = tagN (lf kl) (fun _ => 0) 16 :=
  tagN_mod h fun j hj => all0 j hj
theorem onceL_lt : ∀ j, j < 64 → lf boL j % 256 = lf boL j := by decide
theorem b0L_lt : ∀ j, j < 64 → lf b0L j % 256 = lf b0L j := by decide
theorem sea_key {q b : Nat → Nat} : seaN idF nonF 0 q 0 b = 866494876554015909630955030692209320590 := by
  rw [sea0 (kl := b0L) fun j hj => ?_, t0_known]
  rw [← b0_known, blkL_eq (by omega), Nat.mod_mod]
theorem sea_once {q b : Nat → Nat} : seaN (lf onceL) nonF 0 q 0 b = 140585244238279042143536513628083362958 := by
  rw [sea0 (kl := boL) fun j hj => ?_, to_known]
  rw [← bo_known, blkL_eq (by omega), Nat.mod_mod]
end Go.Proofs.Ytndmoidenbfflaa

/- The laws' own copies, filled bytes and eight bytes. -/
namespace Go.Proofs.Ytndmoidenbfflaa
open Go.Rq Go
set_option linter.unusedVariables false
set_option linter.unusedSimpArgs false
set_option maxRecDepth 100000
set_option maxHeartbeats 4000000
/-! CopyBytes, of whatever is read -/
def cCpy (args : List AV) (h : Heap) (slot : Nat) : Option (List Prop × AV × Heap) :=
  match args with
  | [x] => match vw h x with
    | some (0, b, p) => match isHole h slot with
      | true => some (p, .v1 (.sc (.sl slot 0 0 0)), hset h slot ⟨5, [.ws .u8 0 (fun _ => 0)], 0, 0⟩)
      | false => none
    | some (k + 1, b, p) => match isHole h slot && isHole h (slot + 1) with
      | true => some (p ++ [k + 1 ≤ limN], .v1 (.sc (.so slot (k + 1))), hset (hset h slot ⟨5, [.ws .u8 (k + 1) b], 1, 1⟩) (slot + 1) ⟨0, [], 2, 0⟩)
      | false => none
    | none => none
  | _ => none
theorem okCpy : (CallC.mem cCpy).Ok Try.prog 25 := by
  intro args h slot pre v h' e hp
  unfold cCpy at e
  split at e
  rotate_left
  · cases e
  rename_i x
  split at e
  · rename_i b p h1
    split at e
    rotate_left
    · cases e
    rename_i hh
    cases e
    refine views_call tt_ok Try.func25 (by kernel_rfl) (by kernel_rfl) [.vs 0 b] (args := [x])
      ⟨⟨_, h1, hp⟩, trivial⟩ slot [⟨5, [.ws .u8 0 (fun _ => 0)], 0, 0⟩] (.v1 (.sc (.sl 0 0 0 0))) rfl rfl rfl (fun t ht => by
      have : t = 0 := by simpa using ht
      subst this; exact hh) fun a W hi => ?_
    rcases hi with _ | _ | ⟨w1, h01, hi⟩ | ⟨t1, o1, c1, v1, kc1, hi⟩ | _
    · cases hi
      exact ⟨[0], rfl, evS_q mixed tt_ok (G := ctxL []) ctxL_nil 40 [] (same (p := endM [0] [u8B 0 (fun _ => 0)] [u8B 0 (fun _ => 0)] (.v1 (.sc (.sl 0 0 0 0))) (.v1 (.sc (.sl 0 0 0 0)))) (endM_ok (simH_refl _) rfl fun _ => rfl) (by kernel_rfl))⟩
    · cases hi
      exact ⟨[1], rfl, evS_q mixed tt_ok (G := ctxL []) ctxL_nil 40 [] (same (p := endM [0, 1] [wB t1 o1 0 b v1, u8B 0 (fun _ => 0)] [wB t1 o1 0 b v1, u8B 0 (fun _ => 0)] (.v1 (.sc (.sl 1 0 0 0))) (.v1 (.sc (.sl 1 0 0 0)))) (endM_ok (simH_refl _) rfl fun _ => rfl) (by kernel_rfl))⟩
  · rename_i k b p h1
    split at e
    rotate_left
    · cases e
    rename_i hh
    cases e
    simp only [Bool.and_eq_true] at hh
    have hl : k + 1 ≤ limN := hp (k + 1 ≤ limN) (by simp)
    refine views_call tt_ok Try.func25 (by kernel_rfl) (by kernel_rfl) [.vs (k + 1) b] (args := [x])
      ⟨⟨p, h1, fun q hq => hp q (by simp [hq])⟩, trivial⟩ slot [⟨5, [.ws .u8 (k + 1) b], 1, 1⟩, ⟨0, [], 2, 0⟩] (.v1 (.sc (.so 0 (k + 1)))) rfl rfl rfl (fun t ht => by
      have : t = 0 ∨ t = 1 := by simp at ht; omega
      rcases this with rfl | rfl
      · exact hh.1
      · exact hh.2) fun a W hi => ⟨[2, 3], rfl, ?_⟩
    rcases hi with _ | _ | ⟨w1, h01, hi⟩ | ⟨t1, o1, c1, v1, kc1, hi⟩ | _
    · omega
    · cases hi
      refine evS_q mixed tt_ok (G := ctxL []) ctxL_nil 40 [⟨1,2,.sym⟩] (same (p := o1 ≤ o1 ∧ o1 - o1 + (k + 1) ≤ k + 1 ∧ 0 + (k + 1) ≤ limN ∧ (false = true → 0 < k + 1) ∧ endM [0,2,3] [wB t1 o1 (k + 1) b v1, soN (k + 1) (fun j => b (o1 - o1 + j)), deB] [wB t1 o1 (k + 1) b v1, soN (k + 1) b, deB] (.v1 (.sc (.so 2 (0 + (k + 1))))) (.v1 (.sc (.so 1 (k + 1))))) ?_ (by kernel_rfl))
      refine ⟨Nat.le_refl _, win_le, by omega, fun h => (by cases h), endM_ok ⟨simB_refl _, ⟨rfl, rfl, rfl, fun ρ => by rw [win_fun]⟩, simB_refl _, trivial⟩ rfl fun ρ => ?_⟩
      rw [Nat.zero_add]; rfl
  · cases e
/-! eight -/
def cEig (args : List AV) (h : Heap) (slot : Nat) : Option (List Prop × AV × Heap) :=
  match args with
  | [.v1 (.sc (.it (.ofNat n)))] => match isHole h slot && isHole h (slot + 1) with
    | true => some ([], .v1 (.sc (.so slot 8)), hset (hset h slot ⟨5, [.ws .u8 8 (dgN n)], 1, 1⟩) (slot + 1) ⟨0, [], 2, 0⟩)
    | false => none
  | _ => none
def eiQ (n : Nat) : Nat → Nat → Prop → Prop
  | _, 0, q => q
  | i, k + 1, q => toU .u8 ((Int.ofNat n).fdiv ((2 : Int) ^ (min (8 * i) 64))) = dgN n i ∧ eiQ n (i + 1) k q
theorem eiQ_of {n : Nat} {q : Prop} (h : q) : ∀ (k i : Nat), i + k = 8 → eiQ n i k q
  | 0, _, _ => h
  | k + 1, i, hk => ⟨toU_dg (by omega), eiQ_of h k (i + 1) (by omega)⟩
theorem okEig0 : (CallC.mem cEig).Ok Try.prog 39 := by
  intro args h slot pre v h' e hp
  unfold cEig at e
  split at e
  rotate_left
  · cases e
  rename_i n
  split at e
  rotate_left
  · cases e
  rename_i hh
  cases e
  simp only [Bool.and_eq_true] at hh
  refine views_call tt_ok Try.func39 (by kernel_rfl) (by kernel_rfl) [.pl (iv (Int.ofNat n))] (args := [iv (Int.ofNat n)]) ⟨⟨rfl, rfl⟩, trivial⟩ slot [⟨5, [.ws .u8 8 (dgN n)], 1, 1⟩, ⟨0, [], 2, 0⟩] (.v1 (.sc (.so 0 8))) rfl rfl rfl (fun t ht => by
      have : t = 0 ∨ t = 1 := by simp at ht; omega
      rcases this with rfl | rfl
      · exact hh.1
      · exact hh.2) fun a W hi => ⟨[22, 23], rfl, ?_⟩
  rcases hi with _ | hi | _ | _ | _
  cases hi
  refine evS_q mixed tt_ok (G := ctxL []) ctxL_nil 200 [⟨5,5,.lit (.w .u8 (dgN n 0))⟩,⟨5,5,.lit (.w .u8 (dgN n 1))⟩,⟨5,5,.lit (.w .u8 (dgN n 2))⟩,⟨5,5,.lit (.w .u8 (dgN n 3))⟩,⟨5,5,.lit (.w .u8 (dgN n 4))⟩,⟨5,5,.lit (.w .u8 (dgN n 5))⟩,⟨5,5,.lit (.w .u8 (dgN n 6))⟩,⟨5,5,.lit (.w .u8 (dgN n 7))⟩]
    (same (p := eiQ n 0 8 (endM [22, 23] [soN 8 (apN 1 (upd (fun _ => 0) 0 (dgN n 0)) (fun i => dgN n (i + 1)) 7), deB] [soN 8 (dgN n), deB] (.v1 (.sc (.so 22 8))) (.v1 (.sc (.so 0 8))))) ?_ (by kernel_rfl))
  have hA : ∀ j, j < 1 + 7 → apN 1 (upd (fun _ => 0) 0 (dgN n 0)) (fun i => dgN n (i + 1)) 7 j = dgN n j := apN_at (fun j hj => by
    have : j = 0 := by omega
    subst this; rfl) fun i hi => by rw [Nat.add_comm]
  refine eiQ_of ?_ 8 0 rfl
  exact endM_ok ⟨⟨rfl, rfl, rfl, fun ρ => ws8_val (fun j hj => by rw [hA j (by omega)]) ρ⟩, simB_refl _, trivial⟩ rfl fun _ => rfl
/-! filled -/
def cFilL (args : List AV) (h : Heap) (slot : Nat) : Option (List Prop × AV × Heap) :=
  match args with
  | [x] => match vw h x with
    | some (0, b, p) => match isHole h slot with
      | true => some (p, .v1 (.sc (.sl slot 0 0 0)), hset h slot ⟨5, [.ws .u8 0 (fun _ => 0)], 0, 0⟩)
      | false => none
    | some (k + 1, b, p) => match isHole h slot && isHole h (slot + 1) with
      | true => some (p ++ [k + 1 ≤ 4000000000], .v1 (.sc (.so slot (up16 (k + 1)))), hset (hset h slot ⟨5, [.ws .u8 (up16 (k + 1)) (filF (k + 1) b)], 1, 1⟩) (slot + 1) ⟨0, [], 2, 0⟩)
      | false => none
    | none => none
  | _ => none
def GCp : Ctx := ctxL [(25, .mem cCpy)]
theorem GCp_ok : CtxOk Try.prog GCp := ctxL_cons okCpy ctxL_nil
theorem okFilLS : (CallC.mem cFilS).Ok Try.prog 38 := by
  intro args h slot pre v h' e hp
  unfold cFilS at e
  split at e
  rotate_left
  · cases e
  rename_i x
  split at e
  rotate_left
  · cases e
  rename_i N b p h1 hh
  cases e
  simp only [Bool.and_eq_true] at hh
  have hN0 : 0 < N := hp (0 < N) (by simp)
  have hN : N ≤ 4000000000 := hp (N ≤ 4000000000) (by simp)
  generalize hF : filF N b = F
  refine views_call tt_ok Try.func38 (by kernel_rfl) (by kernel_rfl) [.vs N b] (args := [x])
    ⟨⟨p, h1, fun p hq => hp p (by simp [hq])⟩, trivial⟩ slot [⟨5, [.ws .u8 (up16 N) F], 1, 1⟩, ⟨0, [], 2, 0⟩] (.v1 (.sc (.so 0 (up16 N)))) rfl rfl rfl (fun t ht => by
      have : t = 0 ∨ t = 1 := by simp at ht; omega
      rcases this with rfl | rfl
      · exact hh.1
      · exact hh.2) fun a W hi => ⟨[1, 2], rfl, ?_⟩
  rcases hi with _ | _ | ⟨w1, h0, hi⟩ | ⟨t1, o1, c1, v1, kc1, hi⟩ | _
  · omega
  cases hi
  obtain ⟨k, rfl⟩ : ∃ k, N = k + 1 := ⟨N - 1, by omega⟩
  have hu : up16 (k + 1) = (k + 1 + 15) / 16 * 16 := rfl
  have e1 : (fun j => b (o1 - o1 + j)) = b := win_fun
  refine loopR mixed tt_ok GCp_ok (by kernel_rfl) (ι := {x // InvFi (k + 1) b x}) [0,1,2] [0,4,5] [0,1,2] [3] 14 (fun x => VFi x.1.1) (fun x => HFi (wB t1 o1 (k + 1) b v1) x.1.1 x.1.2) (fun x => up16 (k + 1) - x.1.1) (fun x => x.1.1 = up16 (k + 1))
    (fun x => by kernel_rfl) (fun x j h => by
      have := Dm_lt h
      simp at this
      subst this
      exact ⟨_, rfl⟩) (fun j h => by
      have := Dm_lt h
      simp at this
      subst this
      exact ⟨rfl, rfl, rfl⟩) 60 [] ?_ ?_ ?_
  · refine same (p := o1 ≤ o1 ∧ o1 - o1 + (k + 1) ≤ k + 1 ∧ k + 1 ≤ c1 ∧ k + 1 ≤ limN ∧ true = true ∧ true = true ∧ ∃ j : {x // InvFi (k + 1) b x}, VFi (k + 1) = VFi j.1.1 ∧ HFi (wB t1 o1 (k + 1) b v1) (k + 1) (fun j => b (o1 - o1 + j)) = HFi (wB t1 o1 (k + 1) b v1) j.1.1 j.1.2) ?_ (by kernel_rfl)
    rw [e1]
    have hl : k + 1 ≤ limN := Nat.le_trans (show k + 1 ≤ 4000000000 by omega) (by decide)
    exact ⟨Nat.le_refl _, win_le, kc1, hl, rfl, rfl, ⟨(k + 1, b), Nat.le_refl _, by simp only; omega, fun j hj => (filF_lt hj).symm⟩, rfl, rfl⟩
  · intro ⟨⟨L, o⟩, hI⟩ junk
    obtain ⟨i1, i2, i3⟩ := hI
    simp only at i1 i2 i3
    by_cases hL : L % 16 = 0
    · refine roundF mixed tt_ok GCp_ok 100 [⟨2,2,.lit (.it (Int.ofNat (L % 16)))⟩,⟨2,3,.lit (.bo false)⟩] ?_
      refine same (p := (Int.ofNat L).tmod 16 = Int.ofNat (L % 16) ∧ (!ieq (Int.ofNat (L % 16)) 0) = false ∧ true = true ∧ true = true ∧ ∃ j : {x // InvFi (k + 1) b x}, j.1.1 = up16 (k + 1) ∧ VFi L = VFi j.1.1 ∧ HFi (wB t1 o1 (k + 1) b v1) L o = HFi (wB t1 o1 (k + 1) b v1) j.1.1 j.1.2) ?_ (by kernel_rfl)
      exact ⟨rfl, by rw [hL]; rfl, rfl, rfl, ⟨(L, o), i1, i2, i3⟩, by simp only; omega, rfl, rfl⟩
    · refine roundF mixed tt_ok GCp_ok 100 [⟨2,2,.lit (.it (Int.ofNat (L % 16)))⟩,⟨2,3,.lit (.bo true)⟩,⟨3,2,.sym⟩] ?_
      refine same (p := (Int.ofNat L).tmod 16 = Int.ofNat (L % 16) ∧ (!ieq (Int.ofNat (L % 16)) 0) = true ∧ L = L ∧ 0 + 1 ≤ 1 ∧ L + 1 ≤ limN ∧ (false = true → 0 < 1) ∧ true = true ∧ true = true ∧ ∃ j : {x // InvFi (k + 1) b x}, up16 (k + 1) - j.1.1 < up16 (k + 1) - L ∧ VFi (L + 1) = VFi j.1.1 ∧ HFi (wB t1 o1 (k + 1) b v1) (L + 1) (apF L o 0) = HFi (wB t1 o1 (k + 1) b v1) j.1.1 j.1.2) ?_ (by kernel_rfl)
      have hl : L + 1 ≤ limN := Nat.le_trans (show L + 1 ≤ 4000000017 by omega) (by decide)
      exact ⟨rfl, neq16_t hL, rfl, by omega, hl, fun h => (by cases h), rfl, rfl, ⟨(L + 1, apF L o 0), by simp only; omega, by simp only; omega, apF_at i3 (filF_ge i1).symm⟩, by simp only; omega, rfl, rfl⟩
  · intro ⟨⟨L, o⟩, hI⟩ junk hE
    obtain ⟨i1, i2, i3⟩ := hI
    simp only at i1 i2 i3 hE
    refine evS_q mixed tt_ok GCp_ok 60 [] (same (p := endM [0, 1, 2] [wB t1 o1 (k + 1) b v1, soN L o, deB] [wB t1 o1 (k + 1) b v1, soN (up16 (k + 1)) F, deB] (.v1 (.sc (.so 1 L))) (.v1 (.sc (.so 1 (up16 (k + 1)))))) ?_ (by kernel_rfl))
    rw [← hE]
    exact endM_ok ⟨simB_refl _, ⟨rfl, rfl, rfl, fun ρ => ws8_val (fun j hj => by rw [i3 j hj, hF]) ρ⟩, simB_refl _, trivial⟩ rfl fun _ => rfl
theorem okFilL0 : ∀ (args : List AV) (h : Heap) (slot : Nat) (b : Nat → Nat) (p : List Prop) (x : AV), args = [x] → vw h x = some (0, b, p) → (∀ q ∈ p, q) → isHole h slot = true →
    CallOk Try.prog 38 args h (.v1 (.sc (.sl slot 0 0 0))) (hset h slot ⟨5, [.ws .u8 0 (fun _ => 0)], 0, 0⟩) := by
  intro args h slot b p x e h1 hp hh
  subst e
  refine views_call tt_ok Try.func38 (by kernel_rfl) (by kernel_rfl) [.vs 0 b] (args := [x])
    ⟨⟨p, h1, hp⟩, trivial⟩ slot [⟨5, [.ws .u8 0 (fun _ => 0)], 0, 0⟩] (.v1 (.sc (.sl 0 0 0 0))) rfl rfl rfl (fun t ht => by
      have : t = 0 := by simpa using ht
      subst this; exact hh) fun a W hi => ?_
  rcases hi with _ | _ | ⟨w1, h01, hi⟩ | ⟨t1, o1, c1, v1, kc1, hi⟩ | _
  · cases hi
    exact ⟨[0], rfl, evS_q mixed tt_ok GCp_ok 60 [] (same (p := endM [0] [u8B 0 (fun _ => 0)] [u8B 0 (fun _ => 0)] (.v1 (.sc (.sl 0 0 0 0))) (.v1 (.sc (.sl 0 0 0 0)))) (endM_ok (simH_refl _) rfl fun _ => rfl) (by kernel_rfl))⟩
  · cases hi
    exact ⟨[1], rfl, evS_q mixed tt_ok GCp_ok 60 [] (same (p := o1 ≤ o1 ∧ o1 - o1 + 0 ≤ 0 ∧ 0 ≤ c1 ∧ endM [0, 1] [wB t1 o1 0 b v1, u8B 0 (fun _ => 0)] [wB t1 o1 0 b v1, u8B 0 (fun _ => 0)] (.v1 (.sc (.sl 1 0 0 0))) (.v1 (.sc (.sl 1 0 0 0)))) ⟨Nat.le_refl _, win_le, kc1, endM_ok (simH_refl _) rfl fun _ => rfl⟩ (by kernel_rfl))⟩
theorem okFilL : (CallC.mem cFilL).Ok Try.prog 38 := by
  intro args h slot pre v h' e hp
  unfold cFilL at e
  split at e
  rotate_left
  · cases e
  rename_i x
  split at e
  · rename_i b p h1
    split at e
    · rename_i hh
      cases e
      exact okFilL0 _ h slot b _ x rfl h1 hp hh
    · cases e
  · rename_i k b p h1
    split at e
    · rename_i hh
      cases e
      refine okFilLS [x] h slot (p ++ [0 < k + 1, k + 1 ≤ 4000000000]) _ _ ?_ fun q hq => ?_
      · unfold cFilS
        simp only [h1, hh]
      · rcases List.mem_append.1 hq with hq | hq
        · exact hp q (by simp [hq])
        · simp only [List.mem_cons, List.not_mem_nil, or_false] at hq
          rcases hq with rfl | rfl
          · exact Nat.succ_pos k
          · exact hp (k + 1 ≤ 4000000000) (by simp)
    · cases e
  · cases e
end Go.Proofs.Ytndmoidenbfflaa

/- The law's own tag. Printed by genc34.py. -/
namespace Go.Proofs.Ytndmoidenbfflaa
open Go.Rq Go
set_option linter.unusedVariables false
set_option linter.unusedSimpArgs false
set_option maxRecDepth 100000
set_option maxHeartbeats 4000000
theorem all_two {K N C L : Nat} {q b F : Nat → Nat} (hC : C = L) (hL : L = up16 K + up16 N) (hF : ∀ j, j < L → F j = allF K q N b j) : ∀ j, j < L + 8 + 8 → catF (C + 8) (catF C F (dgN K)) (dgN N) j = allF K q N b j := fun j hj => by
  subst hC
  unfold catF
  by_cases h1 : j < C + 8
  · rw [blt_t h1, cond_true]
    by_cases h2 : j < C
    · rw [blt_t h2, cond_true, hF j h2]
    · rw [blt_f (by omega), cond_false]
      have e := allF_len (K := K) (N := N) (q := q) (b := b) (i := j - C) (by omega)
      rw [← hL, show C + (j - C) = j by omega] at e
      rw [e]
      unfold kbF
      rw [blt_t (by omega), cond_true]
  · rw [blt_f (by omega), cond_false]
    have e := allF_len (K := K) (N := N) (q := q) (b := b) (i := j - C) (by omega)
    rw [← hL, show C + (j - C) = j by omega] at e
    rw [e]
    unfold kbF
    rw [blt_f (by omega), cond_false, show j - (C + 8) = j - C - 8 by omega]
theorem lt_tag {f g F q b : Nat → Nat} {K N C L : Nat} (hC : C = L) (hL : L = up16 K + up16 N) (hF : ∀ j, j < L → F j = allF K q N b j) (bk : Nat → Nat) (hbk : ∀ j, j < 32 → bk j = blkF f g 0 j) :
    dgN (tagN bk (catF (C + 8) (catF C F (dgN K)) (dgN N)) (L + 8 + 8)) = dgN (seaN f g K q N b) := by
  have h := all_two hC hL hF
  subst hL
  unfold seaN allL
  rw [tagN_congr hbk h]
theorem lt_tag0 {f g q b : Nat → Nat} (bk : Nat → Nat) (hbk : ∀ j, j < 32 → bk j = blkF f g 0 j) : dgN (tagN bk (catF 8 (dgN 0) (dgN 0)) (0 + 8 + 8)) = dgN (seaN f g 0 q 0 b) := by
  have h := all_two (K := 0) (N := 0) (C := 0) (L := 0) (F := fun _ => 0) (q := q) (b := b) rfl rfl (fun j hj => absurd hj (by omega))
  have e : catF 8 (dgN 0) (dgN 0) = catF (0 + 8) (catF 0 (fun _ => 0) (dgN 0)) (dgN 0) := by
    funext j
    show catF 8 (dgN 0) (dgN 0) j = catF 8 (catF 0 (fun _ => 0) (dgN 0)) (dgN 0) j
    have : catF 0 (fun _ => 0) (dgN 0) = dgN 0 := by
      funext i
      unfold catF
      rw [blt_f (Nat.zero_le i), cond_false, Nat.sub_zero]
    rw [this]
  unfold seaN allL
  rw [e, tagN_congr hbk h]
  rfl
theorem all_lo0 {K : Nat} {q b : Nat → Nat} : ∀ j, j < up16 K + 0 → catF (up16 K) (filF K q) (fun _ => 0) j = allF K q 0 b j := fun j hj => by
  unfold catF
  rw [blt_t (by omega), cond_true]
  exact (allF_lo (by omega)).symm
def cLt (args : List AV) (h : Heap) (slot : Nat) : Option (List Prop × AV × Heap) :=
  match args with
  | [x, y, z, m] => match vw h x, vw h y, vw h z, vw h m, isHole h slot with
    | some (n1, f, p1), some (n2, g, p2), some (N, b, p3), some (K, q, p4), true => some (p1 ++ p2 ++ p3 ++ p4 ++ [n1 = 32, n2 = 12, N ≤ 3000, K ≤ 3000], .tup [.sc (.sl slot 0 16 16), .sc (.bo true)], hset h slot (uB16 (dgN (seaN f g K q N b))))
    | _, _, _, _, _ => none
  | _ => none
def GLt : Ctx := ctxL [(9, .mem cBlS), (38, .mem cFilL), (39, .mem cEig), (13, .mem cTagS)]
theorem GLt_ok : CtxOk Try.prog GLt := ctxL_cons okBlS <| ctxL_cons okFilL <| ctxL_cons okEig0 <| ctxL_cons okTagS ctxL_nil
theorem lt_nn {t1 o1 c1 t2 o2 c2 t3 o3 c3 t4 o4 c4 n k : Nat} {f g b q F : Nat → Nat} {v1 v2 v3 v4 : WrapV} {w3 w4 : Option Addr} (kc1 : 32 ≤ c1) (kc2 : 12 ≤ c2) (kc3 : 0 ≤ c3) (kc4 : 0 ≤ c4) (hn : 0 ≤ 3000) (hk : 0 ≤ 3000)
    (hF : dgN (seaN f g 0 (fun _ => 0) 0 (fun _ => 0)) = F) :
    AWqS Try.prog (Dm [wB t1 o1 32 f v1, wB t2 o2 12 g v2]) (flatC (bodyOf Try.f26)) (FEndM tt Try.f26 (upto 0 2 ++ [18]) (mvAV 2 (.tup [.sc (.sl 0 0 16 16), .sc (.bo true)])) ([wB t1 o1 32 f v1, wB t2 o2 12 g v2] ++ [some (uB16 F)])) ⟨frame0 [.v1 (.sc (.sl 0 o1 32 c1)), .v1 (.sc (.sl 1 o2 12 c2)), emS w3, emS w4] Try.f26.ntmps, [wB t1 o1 32 f v1, wB t2 o2 12 g v2]⟩ := by
  have hu1 : up16 0 ≤ 0 + 15 := up16_le
  have hu2 : up16 0 ≤ 0 + 15 := up16_le
  refine evS_q mixed tt_ok GLt_ok 300 [⟨5,6,.sym⟩,⟨5,10,.sym⟩] (same (p := o1 ≤ o1 ∧ o1 - o1 + 32 ≤ 32 ∧ 32 ≤ c1 ∧ o2 ≤ o2 ∧ o2 - o2 + 12 ≤ 12 ∧ 12 ≤ c2 ∧ 32 = 32 ∧ 12 = 12 ∧ 8 = 8 ∧ 0 + 8 ≤ limN ∧ (false = true → 0 < 8) ∧ 8 = 0 + 8 ∧ 8 = 8 ∧ 0 + 8 + 8 ≤ limN ∧ (false = true → 0 < 8) ∧ 0 + 32 ≤ 64 ∧ 32 ≤ 64 ∧ 0 + 8 + 8 ≤ 8 + 8 ∧ 32 = 32 ∧ 0 + 8 + 8 ≤ 1048576 ∧ endM [0, 1, 18] ([wB t1 o1 32 f v1, wB t2 o2 12 g v2] ++ [some (uB16 (dgN (tagN (fun j => blkF (fun j => f (o1 - o1 + j)) (fun j => g (o2 - o2 + j)) 0 (addN 0 j)) (catF 8 (dgN 0) (dgN 0)) (0 + 8 + 8))))]) ([wB t1 o1 32 f v1, wB t2 o2 12 g v2] ++ [some (uB16 F)]) (.tup [.sc (.sl 18 0 16 16), .sc (.bo true)]) (.tup [.sc (.sl 2 0 16 16), .sc (.bo true)])) ?_ (by kernel_rfl))
  have hend : endM [0, 1, 18] ([wB t1 o1 32 f v1, wB t2 o2 12 g v2] ++ [some (uB16 (dgN (tagN (fun j => blkF (fun j => f (o1 - o1 + j)) (fun j => g (o2 - o2 + j)) 0 (addN 0 j)) (catF 8 (dgN 0) (dgN 0)) (0 + 8 + 8))))]) ([wB t1 o1 32 f v1, wB t2 o2 12 g v2] ++ [some (uB16 F)]) (.tup [.sc (.sl 18 0 16 16), .sc (.bo true)]) (.tup [.sc (.sl 2 0 16 16), .sc (.bo true)]) := by
    have e : dgN (tagN (fun j => blkF (fun j => f (o1 - o1 + j)) (fun j => g (o2 - o2 + j)) 0 (addN 0 j)) (catF 8 (dgN 0) (dgN 0)) (0 + 8 + 8)) = F := by
      rw [← hF]
      simp only [win_fun]
      exact lt_tag0 _ fun j _ => by rw [addN_eq, Nat.zero_add]
    rw [e]
    exact endM_ok (simH_refl _) rfl fun _ => rfl
  exact ⟨Nat.le_refl _, win_le, kc1, Nat.le_refl _, win_le, kc2, rfl, rfl, rfl, by decide, fun h => (by cases h), rfl, rfl, by decide, fun h => (by cases h), by decide, by decide, by omega, rfl, by omega, hend⟩
theorem lt_n0 {t1 o1 c1 t2 o2 c2 t3 o3 c3 t4 o4 c4 n k : Nat} {f g b q F : Nat → Nat} {v1 v2 v3 v4 : WrapV} {w3 w4 : Option Addr} (kc1 : 32 ≤ c1) (kc2 : 12 ≤ c2) (kc3 : 0 ≤ c3) (kc4 : 0 ≤ c4) (hn : 0 ≤ 3000) (hk : 0 ≤ 3000)
    (hF : dgN (seaN f g 0 q 0 (fun _ => 0)) = F) :
    AWqS Try.prog (Dm [wB t1 o1 32 f v1, wB t2 o2 12 g v2, wB t4 o4 0 q v4]) (flatC (bodyOf Try.f26)) (FEndM tt Try.f26 (upto 0 3 ++ [19]) (mvAV 3 (.tup [.sc (.sl 0 0 16 16), .sc (.bo true)])) ([wB t1 o1 32 f v1, wB t2 o2 12 g v2, wB t4 o4 0 q v4] ++ [some (uB16 F)])) ⟨frame0 [.v1 (.sc (.sl 0 o1 32 c1)), .v1 (.sc (.sl 1 o2 12 c2)), emS w3, .v1 (.sc (.sl 2 o4 0 c4))] Try.f26.ntmps, [wB t1 o1 32 f v1, wB t2 o2 12 g v2, wB t4 o4 0 q v4]⟩ := by
  have hu1 : up16 0 ≤ 0 + 15 := up16_le
  have hu2 : up16 0 ≤ 0 + 15 := up16_le
  refine evS_q mixed tt_ok GLt_ok 300 [⟨5,6,.sym⟩,⟨5,10,.sym⟩] (same (p := o1 ≤ o1 ∧ o1 - o1 + 32 ≤ 32 ∧ 32 ≤ c1 ∧ o2 ≤ o2 ∧ o2 - o2 + 12 ≤ 12 ∧ 12 ≤ c2 ∧ 32 = 32 ∧ 12 = 12 ∧ o4 ≤ o4 ∧ o4 - o4 + 0 ≤ 0 ∧ 0 ≤ c4 ∧ 8 = 8 ∧ 0 + 8 ≤ limN ∧ (false = true → 0 < 8) ∧ 8 = 0 + 8 ∧ 8 = 8 ∧ 0 + 8 + 8 ≤ limN ∧ (false = true → 0 < 8) ∧ 0 + 32 ≤ 64 ∧ 32 ≤ 64 ∧ 0 + 8 + 8 ≤ 8 + 8 ∧ 32 = 32 ∧ 0 + 8 + 8 ≤ 1048576 ∧ endM [0, 1, 2, 19] ([wB t1 o1 32 f v1, wB t2 o2 12 g v2, wB t4 o4 0 q v4] ++ [some (uB16 (dgN (tagN (fun j => blkF (fun j => f (o1 - o1 + j)) (fun j => g (o2 - o2 + j)) 0 (addN 0 j)) (catF 8 (dgN 0) (dgN 0)) (0 + 8 + 8))))]) ([wB t1 o1 32 f v1, wB t2 o2 12 g v2, wB t4 o4 0 q v4] ++ [some (uB16 F)]) (.tup [.sc (.sl 19 0 16 16), .sc (.bo true)]) (.tup [.sc (.sl 3 0 16 16), .sc (.bo true)])) ?_ (by kernel_rfl))
  have hend : endM [0, 1, 2, 19] ([wB t1 o1 32 f v1, wB t2 o2 12 g v2, wB t4 o4 0 q v4] ++ [some (uB16 (dgN (tagN (fun j => blkF (fun j => f (o1 - o1 + j)) (fun j => g (o2 - o2 + j)) 0 (addN 0 j)) (catF 8 (dgN 0) (dgN 0)) (0 + 8 + 8))))]) ([wB t1 o1 32 f v1, wB t2 o2 12 g v2, wB t4 o4 0 q v4] ++ [some (uB16 F)]) (.tup [.sc (.sl 19 0 16 16), .sc (.bo true)]) (.tup [.sc (.sl 3 0 16 16), .sc (.bo true)]) := by
    have e : dgN (tagN (fun j => blkF (fun j => f (o1 - o1 + j)) (fun j => g (o2 - o2 + j)) 0 (addN 0 j)) (catF 8 (dgN 0) (dgN 0)) (0 + 8 + 8)) = F := by
      rw [← hF]
      simp only [win_fun]
      exact lt_tag0 _ fun j _ => by rw [addN_eq, Nat.zero_add]
    rw [e]
    exact endM_ok (simH_refl _) rfl fun _ => rfl
  exact ⟨Nat.le_refl _, win_le, kc1, Nat.le_refl _, win_le, kc2, rfl, rfl, Nat.le_refl _, win_le, kc4, rfl, by decide, fun h => (by cases h), rfl, rfl, by decide, fun h => (by cases h), by decide, by decide, by omega, rfl, by omega, hend⟩
theorem lt_nw {t1 o1 c1 t2 o2 c2 t3 o3 c3 t4 o4 c4 n k : Nat} {f g b q F : Nat → Nat} {v1 v2 v3 v4 : WrapV} {w3 w4 : Option Addr} (kc1 : 32 ≤ c1) (kc2 : 12 ≤ c2) (kc3 : 0 ≤ c3) (kc4 : (k + 1) ≤ c4) (hn : 0 ≤ 3000) (hk : (k + 1) ≤ 3000)
    (hF : dgN (seaN f g (k + 1) q 0 (fun _ => 0)) = F) :
    AWqS Try.prog (Dm [wB t1 o1 32 f v1, wB t2 o2 12 g v2, wB t4 o4 (k + 1) q v4]) (flatC (bodyOf Try.f26)) (FEndM tt Try.f26 (upto 0 3 ++ [19]) (mvAV 3 (.tup [.sc (.sl 0 0 16 16), .sc (.bo true)])) ([wB t1 o1 32 f v1, wB t2 o2 12 g v2, wB t4 o4 (k + 1) q v4] ++ [some (uB16 F)])) ⟨frame0 [.v1 (.sc (.sl 0 o1 32 c1)), .v1 (.sc (.sl 1 o2 12 c2)), emS w3, .v1 (.sc (.sl 2 o4 (k + 1) c4))] Try.f26.ntmps, [wB t1 o1 32 f v1, wB t2 o2 12 g v2, wB t4 o4 (k + 1) q v4]⟩ := by
  have hu1 : up16 0 ≤ 0 + 15 := up16_le
  have hu2 : up16 (k + 1) ≤ (k + 1) + 15 := up16_le
  refine evS_q mixed tt_ok GLt_ok 300 [⟨4,4,.sym⟩,⟨5,6,.sym⟩,⟨5,10,.sym⟩] (same (p := o1 ≤ o1 ∧ o1 - o1 + 32 ≤ 32 ∧ 32 ≤ c1 ∧ o2 ≤ o2 ∧ o2 - o2 + 12 ≤ 12 ∧ 12 ≤ c2 ∧ 32 = 32 ∧ 12 = 12 ∧ o4 ≤ o4 ∧ o4 - o4 + (k + 1) ≤ (k + 1) ∧ (k + 1) ≤ c4 ∧ k + 1 ≤ 4000000000 ∧ up16 (k + 1) = up16 (k + 1) ∧ 0 + 0 ≤ 0 ∧ up16 (k + 1) + 0 ≤ limN ∧ (false = true → 0 < 0) ∧ (up16 (k + 1) + 0) = (up16 (k + 1) + 0) ∧ 8 = 8 ∧ (up16 (k + 1) + 0) + 8 ≤ limN ∧ (false = true → 0 < 8) ∧ (up16 (k + 1) + 0) + 8 = (up16 (k + 1) + 0) + 8 ∧ 8 = 8 ∧ (up16 (k + 1) + 0) + 8 + 8 ≤ limN ∧ (false = true → 0 < 8) ∧ 0 + 32 ≤ 64 ∧ 32 ≤ 64 ∧ (up16 (k + 1) + 0) + 8 + 8 ≤ (up16 (k + 1) + 0) + 8 + 8 ∧ 32 = 32 ∧ (up16 (k + 1) + 0) + 8 + 8 ≤ 1048576 ∧ endM [0, 1, 2, 19] ([wB t1 o1 32 f v1, wB t2 o2 12 g v2, wB t4 o4 (k + 1) q v4] ++ [some (uB16 (dgN (tagN (fun j => blkF (fun j => f (o1 - o1 + j)) (fun j => g (o2 - o2 + j)) 0 (addN 0 j)) (catF ((up16 (k + 1) + 0) + 8) (catF (up16 (k + 1) + 0) (catF (up16 (k + 1)) (filF (k + 1) (fun j => q (o4 - o4 + j))) (fun _ => 0)) (dgN (k + 1))) (dgN 0)) ((up16 (k + 1) + 0) + 8 + 8))))]) ([wB t1 o1 32 f v1, wB t2 o2 12 g v2, wB t4 o4 (k + 1) q v4] ++ [some (uB16 F)]) (.tup [.sc (.sl 19 0 16 16), .sc (.bo true)]) (.tup [.sc (.sl 3 0 16 16), .sc (.bo true)])) ?_ (by kernel_rfl))
  have hend : endM [0, 1, 2, 19] ([wB t1 o1 32 f v1, wB t2 o2 12 g v2, wB t4 o4 (k + 1) q v4] ++ [some (uB16 (dgN (tagN (fun j => blkF (fun j => f (o1 - o1 + j)) (fun j => g (o2 - o2 + j)) 0 (addN 0 j)) (catF ((up16 (k + 1) + 0) + 8) (catF (up16 (k + 1) + 0) (catF (up16 (k + 1)) (filF (k + 1) (fun j => q (o4 - o4 + j))) (fun _ => 0)) (dgN (k + 1))) (dgN 0)) ((up16 (k + 1) + 0) + 8 + 8))))]) ([wB t1 o1 32 f v1, wB t2 o2 12 g v2, wB t4 o4 (k + 1) q v4] ++ [some (uB16 F)]) (.tup [.sc (.sl 19 0 16 16), .sc (.bo true)]) (.tup [.sc (.sl 3 0 16 16), .sc (.bo true)]) := by
    have e : dgN (tagN (fun j => blkF (fun j => f (o1 - o1 + j)) (fun j => g (o2 - o2 + j)) 0 (addN 0 j)) (catF ((up16 (k + 1) + 0) + 8) (catF (up16 (k + 1) + 0) (catF (up16 (k + 1)) (filF (k + 1) (fun j => q (o4 - o4 + j))) (fun _ => 0)) (dgN (k + 1))) (dgN 0)) ((up16 (k + 1) + 0) + 8 + 8)) = F := by
      rw [← hF]
      simp only [win_fun]
      exact lt_tag rfl (by rw [up16_0]) all_lo0 _ fun j _ => by rw [addN_eq, Nat.zero_add]
    rw [e]
    exact endM_ok (simH_refl _) rfl fun _ => rfl
  exact ⟨Nat.le_refl _, win_le, kc1, Nat.le_refl _, win_le, kc2, rfl, rfl, Nat.le_refl _, win_le, kc4, by omega, rfl, Nat.le_refl _, Nat.le_trans (show up16 (k + 1) + 0 ≤ 1000000 by omega) (by decide), fun h => (by cases h), by omega, rfl, Nat.le_trans (show (up16 (k + 1) + 0) + 8 ≤ 1000000 by omega) (by decide), fun h => (by cases h), by omega, rfl, Nat.le_trans (show (up16 (k + 1) + 0) + 8 + 8 ≤ 1000000 by omega) (by decide), fun h => (by cases h), by decide, by decide, by omega, rfl, by omega, hend⟩
theorem lt_0n {t1 o1 c1 t2 o2 c2 t3 o3 c3 t4 o4 c4 n k : Nat} {f g b q F : Nat → Nat} {v1 v2 v3 v4 : WrapV} {w3 w4 : Option Addr} (kc1 : 32 ≤ c1) (kc2 : 12 ≤ c2) (kc3 : 0 ≤ c3) (kc4 : 0 ≤ c4) (hn : 0 ≤ 3000) (hk : 0 ≤ 3000)
    (hF : dgN (seaN f g 0 (fun _ => 0) 0 b) = F) :
    AWqS Try.prog (Dm [wB t1 o1 32 f v1, wB t2 o2 12 g v2, wB t3 o3 0 b v3]) (flatC (bodyOf Try.f26)) (FEndM tt Try.f26 (upto 0 3 ++ [19]) (mvAV 3 (.tup [.sc (.sl 0 0 16 16), .sc (.bo true)])) ([wB t1 o1 32 f v1, wB t2 o2 12 g v2, wB t3 o3 0 b v3] ++ [some (uB16 F)])) ⟨frame0 [.v1 (.sc (.sl 0 o1 32 c1)), .v1 (.sc (.sl 1 o2 12 c2)), .v1 (.sc (.sl 2 o3 0 c3)), emS w4] Try.f26.ntmps, [wB t1 o1 32 f v1, wB t2 o2 12 g v2, wB t3 o3 0 b v3]⟩ := by
  have hu1 : up16 0 ≤ 0 + 15 := up16_le
  have hu2 : up16 0 ≤ 0 + 15 := up16_le
  refine evS_q mixed tt_ok GLt_ok 300 [⟨5,6,.sym⟩,⟨5,10,.sym⟩] (same (p := o1 ≤ o1 ∧ o1 - o1 + 32 ≤ 32 ∧ 32 ≤ c1 ∧ o2 ≤ o2 ∧ o2 - o2 + 12 ≤ 12 ∧ 12 ≤ c2 ∧ 32 = 32 ∧ 12 = 12 ∧ o3 ≤ o3 ∧ o3 - o3 + 0 ≤ 0 ∧ 0 ≤ c3 ∧ 8 = 8 ∧ 0 + 8 ≤ limN ∧ (false = true → 0 < 8) ∧ 8 = 0 + 8 ∧ 8 = 8 ∧ 0 + 8 + 8 ≤ limN ∧ (false = true → 0 < 8) ∧ 0 + 32 ≤ 64 ∧ 32 ≤ 64 ∧ 0 + 8 + 8 ≤ 8 + 8 ∧ 32 = 32 ∧ 0 + 8 + 8 ≤ 1048576 ∧ endM [0, 1, 2, 19] ([wB t1 o1 32 f v1, wB t2 o2 12 g v2, wB t3 o3 0 b v3] ++ [some (uB16 (dgN (tagN (fun j => blkF (fun j => f (o1 - o1 + j)) (fun j => g (o2 - o2 + j)) 0 (addN 0 j)) (catF 8 (dgN 0) (dgN 0)) (0 + 8 + 8))))]) ([wB t1 o1 32 f v1, wB t2 o2 12 g v2, wB t3 o3 0 b v3] ++ [some (uB16 F)]) (.tup [.sc (.sl 19 0 16 16), .sc (.bo true)]) (.tup [.sc (.sl 3 0 16 16), .sc (.bo true)])) ?_ (by kernel_rfl))
  have hend : endM [0, 1, 2, 19] ([wB t1 o1 32 f v1, wB t2 o2 12 g v2, wB t3 o3 0 b v3] ++ [some (uB16 (dgN (tagN (fun j => blkF (fun j => f (o1 - o1 + j)) (fun j => g (o2 - o2 + j)) 0 (addN 0 j)) (catF 8 (dgN 0) (dgN 0)) (0 + 8 + 8))))]) ([wB t1 o1 32 f v1, wB t2 o2 12 g v2, wB t3 o3 0 b v3] ++ [some (uB16 F)]) (.tup [.sc (.sl 19 0 16 16), .sc (.bo true)]) (.tup [.sc (.sl 3 0 16 16), .sc (.bo true)]) := by
    have e : dgN (tagN (fun j => blkF (fun j => f (o1 - o1 + j)) (fun j => g (o2 - o2 + j)) 0 (addN 0 j)) (catF 8 (dgN 0) (dgN 0)) (0 + 8 + 8)) = F := by
      rw [← hF]
      simp only [win_fun]
      exact lt_tag0 _ fun j _ => by rw [addN_eq, Nat.zero_add]
    rw [e]
    exact endM_ok (simH_refl _) rfl fun _ => rfl
  exact ⟨Nat.le_refl _, win_le, kc1, Nat.le_refl _, win_le, kc2, rfl, rfl, Nat.le_refl _, win_le, kc3, rfl, by decide, fun h => (by cases h), rfl, rfl, by decide, fun h => (by cases h), by decide, by decide, by omega, rfl, by omega, hend⟩
theorem lt_00 {t1 o1 c1 t2 o2 c2 t3 o3 c3 t4 o4 c4 n k : Nat} {f g b q F : Nat → Nat} {v1 v2 v3 v4 : WrapV} {w3 w4 : Option Addr} (kc1 : 32 ≤ c1) (kc2 : 12 ≤ c2) (kc3 : 0 ≤ c3) (kc4 : 0 ≤ c4) (hn : 0 ≤ 3000) (hk : 0 ≤ 3000)
    (hF : dgN (seaN f g 0 q 0 b) = F) :
    AWqS Try.prog (Dm [wB t1 o1 32 f v1, wB t2 o2 12 g v2, wB t3 o3 0 b v3, wB t4 o4 0 q v4]) (flatC (bodyOf Try.f26)) (FEndM tt Try.f26 (upto 0 4 ++ [20]) (mvAV 4 (.tup [.sc (.sl 0 0 16 16), .sc (.bo true)])) ([wB t1 o1 32 f v1, wB t2 o2 12 g v2, wB t3 o3 0 b v3, wB t4 o4 0 q v4] ++ [some (uB16 F)])) ⟨frame0 [.v1 (.sc (.sl 0 o1 32 c1)), .v1 (.sc (.sl 1 o2 12 c2)), .v1 (.sc (.sl 2 o3 0 c3)), .v1 (.sc (.sl 3 o4 0 c4))] Try.f26.ntmps, [wB t1 o1 32 f v1, wB t2 o2 12 g v2, wB t3 o3 0 b v3, wB t4 o4 0 q v4]⟩ := by
  have hu1 : up16 0 ≤ 0 + 15 := up16_le
  have hu2 : up16 0 ≤ 0 + 15 := up16_le
  refine evS_q mixed tt_ok GLt_ok 300 [⟨5,6,.sym⟩,⟨5,10,.sym⟩] (same (p := o1 ≤ o1 ∧ o1 - o1 + 32 ≤ 32 ∧ 32 ≤ c1 ∧ o2 ≤ o2 ∧ o2 - o2 + 12 ≤ 12 ∧ 12 ≤ c2 ∧ 32 = 32 ∧ 12 = 12 ∧ o4 ≤ o4 ∧ o4 - o4 + 0 ≤ 0 ∧ 0 ≤ c4 ∧ o3 ≤ o3 ∧ o3 - o3 + 0 ≤ 0 ∧ 0 ≤ c3 ∧ 8 = 8 ∧ 0 + 8 ≤ limN ∧ (false = true → 0 < 8) ∧ 8 = 0 + 8 ∧ 8 = 8 ∧ 0 + 8 + 8 ≤ limN ∧ (false = true → 0 < 8) ∧ 0 + 32 ≤ 64 ∧ 32 ≤ 64 ∧ 0 + 8 + 8 ≤ 8 + 8 ∧ 32 = 32 ∧ 0 + 8 + 8 ≤ 1048576 ∧ endM [0, 1, 2, 3, 20] ([wB t1 o1 32 f v1, wB t2 o2 12 g v2, wB t3 o3 0 b v3, wB t4 o4 0 q v4] ++ [some (uB16 (dgN (tagN (fun j => blkF (fun j => f (o1 - o1 + j)) (fun j => g (o2 - o2 + j)) 0 (addN 0 j)) (catF 8 (dgN 0) (dgN 0)) (0 + 8 + 8))))]) ([wB t1 o1 32 f v1, wB t2 o2 12 g v2, wB t3 o3 0 b v3, wB t4 o4 0 q v4] ++ [some (uB16 F)]) (.tup [.sc (.sl 20 0 16 16), .sc (.bo true)]) (.tup [.sc (.sl 4 0 16 16), .sc (.bo true)])) ?_ (by kernel_rfl))
  have hend : endM [0, 1, 2, 3, 20] ([wB t1 o1 32 f v1, wB t2 o2 12 g v2, wB t3 o3 0 b v3, wB t4 o4 0 q v4] ++ [some (uB16 (dgN (tagN (fun j => blkF (fun j => f (o1 - o1 + j)) (fun j => g (o2 - o2 + j)) 0 (addN 0 j)) (catF 8 (dgN 0) (dgN 0)) (0 + 8 + 8))))]) ([wB t1 o1 32 f v1, wB t2 o2 12 g v2, wB t3 o3 0 b v3, wB t4 o4 0 q v4] ++ [some (uB16 F)]) (.tup [.sc (.sl 20 0 16 16), .sc (.bo true)]) (.tup [.sc (.sl 4 0 16 16), .sc (.bo true)]) := by
    have e : dgN (tagN (fun j => blkF (fun j => f (o1 - o1 + j)) (fun j => g (o2 - o2 + j)) 0 (addN 0 j)) (catF 8 (dgN 0) (dgN 0)) (0 + 8 + 8)) = F := by
      rw [← hF]
      simp only [win_fun]
      exact lt_tag0 _ fun j _ => by rw [addN_eq, Nat.zero_add]
    rw [e]
    exact endM_ok (simH_refl _) rfl fun _ => rfl
  exact ⟨Nat.le_refl _, win_le, kc1, Nat.le_refl _, win_le, kc2, rfl, rfl, Nat.le_refl _, win_le, kc4, Nat.le_refl _, win_le, kc3, rfl, by decide, fun h => (by cases h), rfl, rfl, by decide, fun h => (by cases h), by decide, by decide, by omega, rfl, by omega, hend⟩
theorem lt_0w {t1 o1 c1 t2 o2 c2 t3 o3 c3 t4 o4 c4 n k : Nat} {f g b q F : Nat → Nat} {v1 v2 v3 v4 : WrapV} {w3 w4 : Option Addr} (kc1 : 32 ≤ c1) (kc2 : 12 ≤ c2) (kc3 : 0 ≤ c3) (kc4 : (k + 1) ≤ c4) (hn : 0 ≤ 3000) (hk : (k + 1) ≤ 3000)
    (hF : dgN (seaN f g (k + 1) q 0 b) = F) :
    AWqS Try.prog (Dm [wB t1 o1 32 f v1, wB t2 o2 12 g v2, wB t3 o3 0 b v3, wB t4 o4 (k + 1) q v4]) (flatC (bodyOf Try.f26)) (FEndM tt Try.f26 (upto 0 4 ++ [20]) (mvAV 4 (.tup [.sc (.sl 0 0 16 16), .sc (.bo true)])) ([wB t1 o1 32 f v1, wB t2 o2 12 g v2, wB t3 o3 0 b v3, wB t4 o4 (k + 1) q v4] ++ [some (uB16 F)])) ⟨frame0 [.v1 (.sc (.sl 0 o1 32 c1)), .v1 (.sc (.sl 1 o2 12 c2)), .v1 (.sc (.sl 2 o3 0 c3)), .v1 (.sc (.sl 3 o4 (k + 1) c4))] Try.f26.ntmps, [wB t1 o1 32 f v1, wB t2 o2 12 g v2, wB t3 o3 0 b v3, wB t4 o4 (k + 1) q v4]⟩ := by
  have hu1 : up16 0 ≤ 0 + 15 := up16_le
  have hu2 : up16 (k + 1) ≤ (k + 1) + 15 := up16_le
  refine evS_q mixed tt_ok GLt_ok 300 [⟨4,4,.sym⟩,⟨5,6,.sym⟩,⟨5,10,.sym⟩] (same (p := o1 ≤ o1 ∧ o1 - o1 + 32 ≤ 32 ∧ 32 ≤ c1 ∧ o2 ≤ o2 ∧ o2 - o2 + 12 ≤ 12 ∧ 12 ≤ c2 ∧ 32 = 32 ∧ 12 = 12 ∧ o4 ≤ o4 ∧ o4 - o4 + (k + 1) ≤ (k + 1) ∧ (k + 1) ≤ c4 ∧ k + 1 ≤ 4000000000 ∧ o3 ≤ o3 ∧ o3 - o3 + 0 ≤ 0 ∧ 0 ≤ c3 ∧ up16 (k + 1) = up16 (k + 1) ∧ 0 + 0 ≤ 0 ∧ up16 (k + 1) + 0 ≤ limN ∧ (false = true → 0 < 0) ∧ (up16 (k + 1) + 0) = (up16 (k + 1) + 0) ∧ 8 = 8 ∧ (up16 (k + 1) + 0) + 8 ≤ limN ∧ (false = true → 0 < 8) ∧ (up16 (k + 1) + 0) + 8 = (up16 (k + 1) + 0) + 8 ∧ 8 = 8 ∧ (up16 (k + 1) + 0) + 8 + 8 ≤ limN ∧ (false = true → 0 < 8) ∧ 0 + 32 ≤ 64 ∧ 32 ≤ 64 ∧ (up16 (k + 1) + 0) + 8 + 8 ≤ (up16 (k + 1) + 0) + 8 + 8 ∧ 32 = 32 ∧ (up16 (k + 1) + 0) + 8 + 8 ≤ 1048576 ∧ endM [0, 1, 2, 3, 20] ([wB t1 o1 32 f v1, wB t2 o2 12 g v2, wB t3 o3 0 b v3, wB t4 o4 (k + 1) q v4] ++ [some (uB16 (dgN (tagN (fun j => blkF (fun j => f (o1 - o1 + j)) (fun j => g (o2 - o2 + j)) 0 (addN 0 j)) (catF ((up16 (k + 1) + 0) + 8) (catF (up16 (k + 1) + 0) (catF (up16 (k + 1)) (filF (k + 1) (fun j => q (o4 - o4 + j))) (fun _ => 0)) (dgN (k + 1))) (dgN 0)) ((up16 (k + 1) + 0) + 8 + 8))))]) ([wB t1 o1 32 f v1, wB t2 o2 12 g v2, wB t3 o3 0 b v3, wB t4 o4 (k + 1) q v4] ++ [some (uB16 F)]) (.tup [.sc (.sl 20 0 16 16), .sc (.bo true)]) (.tup [.sc (.sl 4 0 16 16), .sc (.bo true)])) ?_ (by kernel_rfl))
  have hend : endM [0, 1, 2, 3, 20] ([wB t1 o1 32 f v1, wB t2 o2 12 g v2, wB t3 o3 0 b v3, wB t4 o4 (k + 1) q v4] ++ [some (uB16 (dgN (tagN (fun j => blkF (fun j => f (o1 - o1 + j)) (fun j => g (o2 - o2 + j)) 0 (addN 0 j)) (catF ((up16 (k + 1) + 0) + 8) (catF (up16 (k + 1) + 0) (catF (up16 (k + 1)) (filF (k + 1) (fun j => q (o4 - o4 + j))) (fun _ => 0)) (dgN (k + 1))) (dgN 0)) ((up16 (k + 1) + 0) + 8 + 8))))]) ([wB t1 o1 32 f v1, wB t2 o2 12 g v2, wB t3 o3 0 b v3, wB t4 o4 (k + 1) q v4] ++ [some (uB16 F)]) (.tup [.sc (.sl 20 0 16 16), .sc (.bo true)]) (.tup [.sc (.sl 4 0 16 16), .sc (.bo true)]) := by
    have e : dgN (tagN (fun j => blkF (fun j => f (o1 - o1 + j)) (fun j => g (o2 - o2 + j)) 0 (addN 0 j)) (catF ((up16 (k + 1) + 0) + 8) (catF (up16 (k + 1) + 0) (catF (up16 (k + 1)) (filF (k + 1) (fun j => q (o4 - o4 + j))) (fun _ => 0)) (dgN (k + 1))) (dgN 0)) ((up16 (k + 1) + 0) + 8 + 8)) = F := by
      rw [← hF]
      simp only [win_fun]
      exact lt_tag rfl (by rw [up16_0]) all_lo0 _ fun j _ => by rw [addN_eq, Nat.zero_add]
    rw [e]
    exact endM_ok (simH_refl _) rfl fun _ => rfl
  exact ⟨Nat.le_refl _, win_le, kc1, Nat.le_refl _, win_le, kc2, rfl, rfl, Nat.le_refl _, win_le, kc4, by omega, Nat.le_refl _, win_le, kc3, rfl, Nat.le_refl _, Nat.le_trans (show up16 (k + 1) + 0 ≤ 1000000 by omega) (by decide), fun h => (by cases h), by omega, rfl, Nat.le_trans (show (up16 (k + 1) + 0) + 8 ≤ 1000000 by omega) (by decide), fun h => (by cases h), by omega, rfl, Nat.le_trans (show (up16 (k + 1) + 0) + 8 + 8 ≤ 1000000 by omega) (by decide), fun h => (by cases h), by decide, by decide, by omega, rfl, by omega, hend⟩
theorem lt_wn {t1 o1 c1 t2 o2 c2 t3 o3 c3 t4 o4 c4 n k : Nat} {f g b q F : Nat → Nat} {v1 v2 v3 v4 : WrapV} {w3 w4 : Option Addr} (kc1 : 32 ≤ c1) (kc2 : 12 ≤ c2) (kc3 : (n + 1) ≤ c3) (kc4 : 0 ≤ c4) (hn : (n + 1) ≤ 3000) (hk : 0 ≤ 3000)
    (hF : dgN (seaN f g 0 (fun _ => 0) (n + 1) b) = F) :
    AWqS Try.prog (Dm [wB t1 o1 32 f v1, wB t2 o2 12 g v2, wB t3 o3 (n + 1) b v3]) (flatC (bodyOf Try.f26)) (FEndM tt Try.f26 (upto 0 3 ++ [19]) (mvAV 3 (.tup [.sc (.sl 0 0 16 16), .sc (.bo true)])) ([wB t1 o1 32 f v1, wB t2 o2 12 g v2, wB t3 o3 (n + 1) b v3] ++ [some (uB16 F)])) ⟨frame0 [.v1 (.sc (.sl 0 o1 32 c1)), .v1 (.sc (.sl 1 o2 12 c2)), .v1 (.sc (.sl 2 o3 (n + 1) c3)), emS w4] Try.f26.ntmps, [wB t1 o1 32 f v1, wB t2 o2 12 g v2, wB t3 o3 (n + 1) b v3]⟩ := by
  have hu1 : up16 (n + 1) ≤ (n + 1) + 15 := up16_le
  have hu2 : up16 0 ≤ 0 + 15 := up16_le
  refine evS_q mixed tt_ok GLt_ok 300 [⟨4,4,.sym⟩,⟨5,6,.sym⟩,⟨5,10,.sym⟩] (same (p := o1 ≤ o1 ∧ o1 - o1 + 32 ≤ 32 ∧ 32 ≤ c1 ∧ o2 ≤ o2 ∧ o2 - o2 + 12 ≤ 12 ∧ 12 ≤ c2 ∧ 32 = 32 ∧ 12 = 12 ∧ o3 ≤ o3 ∧ o3 - o3 + (n + 1) ≤ (n + 1) ∧ (n + 1) ≤ c3 ∧ n + 1 ≤ 4000000000 ∧ up16 (n + 1) = up16 (n + 1) ∧ 0 + up16 (n + 1) ≤ limN ∧ (false = true → 0 < up16 (n + 1)) ∧ (up16 (n + 1)) = (0 + up16 (n + 1)) ∧ 8 = 8 ∧ (0 + up16 (n + 1)) + 8 ≤ limN ∧ (false = true → 0 < 8) ∧ (up16 (n + 1)) + 8 = (0 + up16 (n + 1)) + 8 ∧ 8 = 8 ∧ (0 + up16 (n + 1)) + 8 + 8 ≤ limN ∧ (false = true → 0 < 8) ∧ 0 + 32 ≤ 64 ∧ 32 ≤ 64 ∧ (0 + up16 (n + 1)) + 8 + 8 ≤ (up16 (n + 1)) + 8 + 8 ∧ 32 = 32 ∧ (0 + up16 (n + 1)) + 8 + 8 ≤ 1048576 ∧ endM [0, 1, 2, 19] ([wB t1 o1 32 f v1, wB t2 o2 12 g v2, wB t3 o3 (n + 1) b v3] ++ [some (uB16 (dgN (tagN (fun j => blkF (fun j => f (o1 - o1 + j)) (fun j => g (o2 - o2 + j)) 0 (addN 0 j)) (catF ((up16 (n + 1)) + 8) (catF (up16 (n + 1)) (filF (n + 1) (fun j => b (o3 - o3 + j))) (dgN 0)) (dgN (n + 1))) ((0 + up16 (n + 1)) + 8 + 8))))]) ([wB t1 o1 32 f v1, wB t2 o2 12 g v2, wB t3 o3 (n + 1) b v3] ++ [some (uB16 F)]) (.tup [.sc (.sl 19 0 16 16), .sc (.bo true)]) (.tup [.sc (.sl 3 0 16 16), .sc (.bo true)])) ?_ (by kernel_rfl))
  have hend : endM [0, 1, 2, 19] ([wB t1 o1 32 f v1, wB t2 o2 12 g v2, wB t3 o3 (n + 1) b v3] ++ [some (uB16 (dgN (tagN (fun j => blkF (fun j => f (o1 - o1 + j)) (fun j => g (o2 - o2 + j)) 0 (addN 0 j)) (catF ((up16 (n + 1)) + 8) (catF (up16 (n + 1)) (filF (n + 1) (fun j => b (o3 - o3 + j))) (dgN 0)) (dgN (n + 1))) ((0 + up16 (n + 1)) + 8 + 8))))]) ([wB t1 o1 32 f v1, wB t2 o2 12 g v2, wB t3 o3 (n + 1) b v3] ++ [some (uB16 F)]) (.tup [.sc (.sl 19 0 16 16), .sc (.bo true)]) (.tup [.sc (.sl 3 0 16 16), .sc (.bo true)]) := by
    have e : dgN (tagN (fun j => blkF (fun j => f (o1 - o1 + j)) (fun j => g (o2 - o2 + j)) 0 (addN 0 j)) (catF ((up16 (n + 1)) + 8) (catF (up16 (n + 1)) (filF (n + 1) (fun j => b (o3 - o3 + j))) (dgN 0)) (dgN (n + 1))) ((0 + up16 (n + 1)) + 8 + 8)) = F := by
      rw [← hF]
      simp only [win_fun]
      exact lt_tag (Nat.zero_add _).symm (by simp [up16_0]) all_hi _ fun j _ => by rw [addN_eq, Nat.zero_add]
    rw [e]
    exact endM_ok (simH_refl _) rfl fun _ => rfl
  exact ⟨Nat.le_refl _, win_le, kc1, Nat.le_refl _, win_le, kc2, rfl, rfl, Nat.le_refl _, win_le, kc3, by omega, rfl, Nat.le_trans (show 0 + up16 (n + 1) ≤ 1000000 by omega) (by decide), fun h => (by cases h), by omega, rfl, Nat.le_trans (show (0 + up16 (n + 1)) + 8 ≤ 1000000 by omega) (by decide), fun h => (by cases h), by omega, rfl, Nat.le_trans (show (0 + up16 (n + 1)) + 8 + 8 ≤ 1000000 by omega) (by decide), fun h => (by cases h), by decide, by decide, by omega, rfl, by omega, hend⟩
theorem lt_w0 {t1 o1 c1 t2 o2 c2 t3 o3 c3 t4 o4 c4 n k : Nat} {f g b q F : Nat → Nat} {v1 v2 v3 v4 : WrapV} {w3 w4 : Option Addr} (kc1 : 32 ≤ c1) (kc2 : 12 ≤ c2) (kc3 : (n + 1) ≤ c3) (kc4 : 0 ≤ c4) (hn : (n + 1) ≤ 3000) (hk : 0 ≤ 3000)
    (hF : dgN (seaN f g 0 q (n + 1) b) = F) :
    AWqS Try.prog (Dm [wB t1 o1 32 f v1, wB t2 o2 12 g v2, wB t3 o3 (n + 1) b v3, wB t4 o4 0 q v4]) (flatC (bodyOf Try.f26)) (FEndM tt Try.f26 (upto 0 4 ++ [20]) (mvAV 4 (.tup [.sc (.sl 0 0 16 16), .sc (.bo true)])) ([wB t1 o1 32 f v1, wB t2 o2 12 g v2, wB t3 o3 (n + 1) b v3, wB t4 o4 0 q v4] ++ [some (uB16 F)])) ⟨frame0 [.v1 (.sc (.sl 0 o1 32 c1)), .v1 (.sc (.sl 1 o2 12 c2)), .v1 (.sc (.sl 2 o3 (n + 1) c3)), .v1 (.sc (.sl 3 o4 0 c4))] Try.f26.ntmps, [wB t1 o1 32 f v1, wB t2 o2 12 g v2, wB t3 o3 (n + 1) b v3, wB t4 o4 0 q v4]⟩ := by
  have hu1 : up16 (n + 1) ≤ (n + 1) + 15 := up16_le
  have hu2 : up16 0 ≤ 0 + 15 := up16_le
  refine evS_q mixed tt_ok GLt_ok 300 [⟨4,4,.sym⟩,⟨5,6,.sym⟩,⟨5,10,.sym⟩] (same (p := o1 ≤ o1 ∧ o1 - o1 + 32 ≤ 32 ∧ 32 ≤ c1 ∧ o2 ≤ o2 ∧ o2 - o2 + 12 ≤ 12 ∧ 12 ≤ c2 ∧ 32 = 32 ∧ 12 = 12 ∧ o4 ≤ o4 ∧ o4 - o4 + 0 ≤ 0 ∧ 0 ≤ c4 ∧ o3 ≤ o3 ∧ o3 - o3 + (n + 1) ≤ (n + 1) ∧ (n + 1) ≤ c3 ∧ n + 1 ≤ 4000000000 ∧ up16 (n + 1) = up16 (n + 1) ∧ 0 + up16 (n + 1) ≤ limN ∧ (false = true → 0 < up16 (n + 1)) ∧ (up16 (n + 1)) = (0 + up16 (n + 1)) ∧ 8 = 8 ∧ (0 + up16 (n + 1)) + 8 ≤ limN ∧ (false = true → 0 < 8) ∧ (up16 (n + 1)) + 8 = (0 + up16 (n + 1)) + 8 ∧ 8 = 8 ∧ (0 + up16 (n + 1)) + 8 + 8 ≤ limN ∧ (false = true → 0 < 8) ∧ 0 + 32 ≤ 64 ∧ 32 ≤ 64 ∧ (0 + up16 (n + 1)) + 8 + 8 ≤ (up16 (n + 1)) + 8 + 8 ∧ 32 = 32 ∧ (0 + up16 (n + 1)) + 8 + 8 ≤ 1048576 ∧ endM [0, 1, 2, 3, 20] ([wB t1 o1 32 f v1, wB t2 o2 12 g v2, wB t3 o3 (n + 1) b v3, wB t4 o4 0 q v4] ++ [some (uB16 (dgN (tagN (fun j => blkF (fun j => f (o1 - o1 + j)) (fun j => g (o2 - o2 + j)) 0 (addN 0 j)) (catF ((up16 (n + 1)) + 8) (catF (up16 (n + 1)) (filF (n + 1) (fun j => b (o3 - o3 + j))) (dgN 0)) (dgN (n + 1))) ((0 + up16 (n + 1)) + 8 + 8))))]) ([wB t1 o1 32 f v1, wB t2 o2 12 g v2, wB t3 o3 (n + 1) b v3, wB t4 o4 0 q v4] ++ [some (uB16 F)]) (.tup [.sc (.sl 20 0 16 16), .sc (.bo true)]) (.tup [.sc (.sl 4 0 16 16), .sc (.bo true)])) ?_ (by kernel_rfl))
  have hend : endM [0, 1, 2, 3, 20] ([wB t1 o1 32 f v1, wB t2 o2 12 g v2, wB t3 o3 (n + 1) b v3, wB t4 o4 0 q v4] ++ [some (uB16 (dgN (tagN (fun j => blkF (fun j => f (o1 - o1 + j)) (fun j => g (o2 - o2 + j)) 0 (addN 0 j)) (catF ((up16 (n + 1)) + 8) (catF (up16 (n + 1)) (filF (n + 1) (fun j => b (o3 - o3 + j))) (dgN 0)) (dgN (n + 1))) ((0 + up16 (n + 1)) + 8 + 8))))]) ([wB t1 o1 32 f v1, wB t2 o2 12 g v2, wB t3 o3 (n + 1) b v3, wB t4 o4 0 q v4] ++ [some (uB16 F)]) (.tup [.sc (.sl 20 0 16 16), .sc (.bo true)]) (.tup [.sc (.sl 4 0 16 16), .sc (.bo true)]) := by
    have e : dgN (tagN (fun j => blkF (fun j => f (o1 - o1 + j)) (fun j => g (o2 - o2 + j)) 0 (addN 0 j)) (catF ((up16 (n + 1)) + 8) (catF (up16 (n + 1)) (filF (n + 1) (fun j => b (o3 - o3 + j))) (dgN 0)) (dgN (n + 1))) ((0 + up16 (n + 1)) + 8 + 8)) = F := by
      rw [← hF]
      simp only [win_fun]
      exact lt_tag (Nat.zero_add _).symm (by simp [up16_0]) all_hi _ fun j _ => by rw [addN_eq, Nat.zero_add]
    rw [e]
    exact endM_ok (simH_refl _) rfl fun _ => rfl
  exact ⟨Nat.le_refl _, win_le, kc1, Nat.le_refl _, win_le, kc2, rfl, rfl, Nat.le_refl _, win_le, kc4, Nat.le_refl _, win_le, kc3, by omega, rfl, Nat.le_trans (show 0 + up16 (n + 1) ≤ 1000000 by omega) (by decide), fun h => (by cases h), by omega, rfl, Nat.le_trans (show (0 + up16 (n + 1)) + 8 ≤ 1000000 by omega) (by decide), fun h => (by cases h), by omega, rfl, Nat.le_trans (show (0 + up16 (n + 1)) + 8 + 8 ≤ 1000000 by omega) (by decide), fun h => (by cases h), by decide, by decide, by omega, rfl, by omega, hend⟩
theorem lt_ww {t1 o1 c1 t2 o2 c2 t3 o3 c3 t4 o4 c4 n k : Nat} {f g b q F : Nat → Nat} {v1 v2 v3 v4 : WrapV} {w3 w4 : Option Addr} (kc1 : 32 ≤ c1) (kc2 : 12 ≤ c2) (kc3 : (n + 1) ≤ c3) (kc4 : (k + 1) ≤ c4) (hn : (n + 1) ≤ 3000) (hk : (k + 1) ≤ 3000)
    (hF : dgN (seaN f g (k + 1) q (n + 1) b) = F) :
    AWqS Try.prog (Dm [wB t1 o1 32 f v1, wB t2 o2 12 g v2, wB t3 o3 (n + 1) b v3, wB t4 o4 (k + 1) q v4]) (flatC (bodyOf Try.f26)) (FEndM tt Try.f26 (upto 0 4 ++ [20]) (mvAV 4 (.tup [.sc (.sl 0 0 16 16), .sc (.bo true)])) ([wB t1 o1 32 f v1, wB t2 o2 12 g v2, wB t3 o3 (n + 1) b v3, wB t4 o4 (k + 1) q v4] ++ [some (uB16 F)])) ⟨frame0 [.v1 (.sc (.sl 0 o1 32 c1)), .v1 (.sc (.sl 1 o2 12 c2)), .v1 (.sc (.sl 2 o3 (n + 1) c3)), .v1 (.sc (.sl 3 o4 (k + 1) c4))] Try.f26.ntmps, [wB t1 o1 32 f v1, wB t2 o2 12 g v2, wB t3 o3 (n + 1) b v3, wB t4 o4 (k + 1) q v4]⟩ := by
  have hu1 : up16 (n + 1) ≤ (n + 1) + 15 := up16_le
  have hu2 : up16 (k + 1) ≤ (k + 1) + 15 := up16_le
  refine evS_q mixed tt_ok GLt_ok 300 [⟨4,4,.sym⟩,⟨5,6,.sym⟩,⟨5,10,.sym⟩] (same (p := o1 ≤ o1 ∧ o1 - o1 + 32 ≤ 32 ∧ 32 ≤ c1 ∧ o2 ≤ o2 ∧ o2 - o2 + 12 ≤ 12 ∧ 12 ≤ c2 ∧ 32 = 32 ∧ 12 = 12 ∧ o4 ≤ o4 ∧ o4 - o4 + (k + 1) ≤ (k + 1) ∧ (k + 1) ≤ c4 ∧ k + 1 ≤ 4000000000 ∧ o3 ≤ o3 ∧ o3 - o3 + (n + 1) ≤ (n + 1) ∧ (n + 1) ≤ c3 ∧ n + 1 ≤ 4000000000 ∧ up16 (k + 1) = up16 (k + 1) ∧ up16 (n + 1) = up16 (n + 1) ∧ up16 (k + 1) + up16 (n + 1) ≤ limN ∧ (false = true → 0 < up16 (n + 1)) ∧ (up16 (k + 1) + up16 (n + 1)) = (up16 (k + 1) + up16 (n + 1)) ∧ 8 = 8 ∧ (up16 (k + 1) + up16 (n + 1)) + 8 ≤ limN ∧ (false = true → 0 < 8) ∧ (up16 (k + 1) + up16 (n + 1)) + 8 = (up16 (k + 1) + up16 (n + 1)) + 8 ∧ 8 = 8 ∧ (up16 (k + 1) + up16 (n + 1)) + 8 + 8 ≤ limN ∧ (false = true → 0 < 8) ∧ 0 + 32 ≤ 64 ∧ 32 ≤ 64 ∧ (up16 (k + 1) + up16 (n + 1)) + 8 + 8 ≤ (up16 (k + 1) + up16 (n + 1)) + 8 + 8 ∧ 32 = 32 ∧ (up16 (k + 1) + up16 (n + 1)) + 8 + 8 ≤ 1048576 ∧ endM [0, 1, 2, 3, 20] ([wB t1 o1 32 f v1, wB t2 o2 12 g v2, wB t3 o3 (n + 1) b v3, wB t4 o4 (k + 1) q v4] ++ [some (uB16 (dgN (tagN (fun j => blkF (fun j => f (o1 - o1 + j)) (fun j => g (o2 - o2 + j)) 0 (addN 0 j)) (catF ((up16 (k + 1) + up16 (n + 1)) + 8) (catF (up16 (k + 1) + up16 (n + 1)) (catF (up16 (k + 1)) (filF (k + 1) (fun j => q (o4 - o4 + j))) (filF (n + 1) (fun j => b (o3 - o3 + j)))) (dgN (k + 1))) (dgN (n + 1))) ((up16 (k + 1) + up16 (n + 1)) + 8 + 8))))]) ([wB t1 o1 32 f v1, wB t2 o2 12 g v2, wB t3 o3 (n + 1) b v3, wB t4 o4 (k + 1) q v4] ++ [some (uB16 F)]) (.tup [.sc (.sl 20 0 16 16), .sc (.bo true)]) (.tup [.sc (.sl 4 0 16 16), .sc (.bo true)])) ?_ (by kernel_rfl))
  have hend : endM [0, 1, 2, 3, 20] ([wB t1 o1 32 f v1, wB t2 o2 12 g v2, wB t3 o3 (n + 1) b v3, wB t4 o4 (k + 1) q v4] ++ [some (uB16 (dgN (tagN (fun j => blkF (fun j => f (o1 - o1 + j)) (fun j => g (o2 - o2 + j)) 0 (addN 0 j)) (catF ((up16 (k + 1) + up16 (n + 1)) + 8) (catF (up16 (k + 1) + up16 (n + 1)) (catF (up16 (k + 1)) (filF (k + 1) (fun j => q (o4 - o4 + j))) (filF (n + 1) (fun j => b (o3 - o3 + j)))) (dgN (k + 1))) (dgN (n + 1))) ((up16 (k + 1) + up16 (n + 1)) + 8 + 8))))]) ([wB t1 o1 32 f v1, wB t2 o2 12 g v2, wB t3 o3 (n + 1) b v3, wB t4 o4 (k + 1) q v4] ++ [some (uB16 F)]) (.tup [.sc (.sl 20 0 16 16), .sc (.bo true)]) (.tup [.sc (.sl 4 0 16 16), .sc (.bo true)]) := by
    have e : dgN (tagN (fun j => blkF (fun j => f (o1 - o1 + j)) (fun j => g (o2 - o2 + j)) 0 (addN 0 j)) (catF ((up16 (k + 1) + up16 (n + 1)) + 8) (catF (up16 (k + 1) + up16 (n + 1)) (catF (up16 (k + 1)) (filF (k + 1) (fun j => q (o4 - o4 + j))) (filF (n + 1) (fun j => b (o3 - o3 + j)))) (dgN (k + 1))) (dgN (n + 1))) ((up16 (k + 1) + up16 (n + 1)) + 8 + 8)) = F := by
      rw [← hF]
      simp only [win_fun]
      exact lt_tag rfl rfl all_cat _ fun j _ => by rw [addN_eq, Nat.zero_add]
    rw [e]
    exact endM_ok (simH_refl _) rfl fun _ => rfl
  exact ⟨Nat.le_refl _, win_le, kc1, Nat.le_refl _, win_le, kc2, rfl, rfl, Nat.le_refl _, win_le, kc4, by omega, Nat.le_refl _, win_le, kc3, by omega, rfl, rfl, Nat.le_trans (show up16 (k + 1) + up16 (n + 1) ≤ 1000000 by omega) (by decide), fun h => (by cases h), by omega, rfl, Nat.le_trans (show (up16 (k + 1) + up16 (n + 1)) + 8 ≤ 1000000 by omega) (by decide), fun h => (by cases h), by omega, rfl, Nat.le_trans (show (up16 (k + 1) + up16 (n + 1)) + 8 + 8 ≤ 1000000 by omega) (by decide), fun h => (by cases h), by decide, by decide, by omega, rfl, by omega, hend⟩
theorem okLt : (CallC.mem cLt).Ok Try.prog 26 := by
  intro args h slot pre v h' e hp
  unfold cLt at e
  split at e
  rotate_left
  · cases e
  rename_i x y z m
  split at e
  rotate_left
  · cases e
  rename_i n1 f p1 n2 g p2 N b p3 K q p4 h1 h2 h3 h4 hh
  cases e
  have hn : n1 = 32 := hp (n1 = 32) (by simp)
  have hm : n2 = 12 := hp (n2 = 12) (by simp)
  have hN : N ≤ 3000 := hp (N ≤ 3000) (by simp)
  have hK : K ≤ 3000 := hp (K ≤ 3000) (by simp)
  subst hn; subst hm
  generalize hF : dgN (seaN f g K q N b) = F
  refine views_call tt_ok Try.func26 (by kernel_rfl) (by kernel_rfl) [.vs 32 f, .vs 12 g, .vs N b, .vs K q] (args := [x, y, z, m])
    ⟨⟨p1, h1, fun p hq => hp p (by simp [hq])⟩, ⟨p2, h2, fun p hq => hp p (by simp [hq])⟩, ⟨p3, h3, fun p hq => hp p (by simp [hq])⟩, ⟨p4, h4, fun p hq => hp p (by simp [hq])⟩, trivial⟩ slot [uB16 F] (.tup [.sc (.sl 0 0 16 16), .sc (.bo true)]) rfl rfl rfl (fun t ht => by
      have : t = 0 := by simpa using ht
      subst this; exact hh) fun a W hi => ?_
  rcases hi with _ | _ | ⟨w1, h01, hi⟩ | ⟨t1, o1, c1, v1, kc1, hi⟩ | _
  · exact absurd h01 (by decide)
  rcases hi with _ | _ | ⟨w2, h02, hi⟩ | ⟨t2, o2, c2, v2, kc2, hi⟩ | _
  · exact absurd h02 (by decide)
  rcases hi with _ | _ | ⟨w3, h03, hi⟩ | ⟨t3, o3, c3, v3, kc3, hi⟩ | _
  · subst h03
    rcases hi with _ | _ | ⟨w4, h04, hi⟩ | ⟨t4, o4, c4, v4, kc4, hi⟩ | _
    · subst h04; cases hi
      exact ⟨[18], rfl, lt_nn (t3 := 0) (o3 := 0) (c3 := 0) (b := b) (v3 := v1) (t4 := 0) (o4 := 0) (c4 := 0) (q := q) (v4 := v1) (n := 0) (k := 0) kc1 kc2 (Nat.zero_le 0) (Nat.zero_le 0) hN hK (by rw [seaN_b (c := b), seaN_q (r := q)]; exact hF)⟩
    · cases hi
      rcases K with _ | k
      · skip
        exact ⟨[19], rfl, lt_n0 (t3 := 0) (o3 := 0) (c3 := 0) (b := b) (v3 := v1) (w4 := none) (n := 0) (k := 0) kc1 kc2 (Nat.zero_le 0) kc4 hN hK (by rw [seaN_b (c := b)]; exact hF)⟩
      · skip
        exact ⟨[19], rfl, lt_nw (t3 := 0) (o3 := 0) (c3 := 0) (b := b) (v3 := v1) (w4 := none) (n := 0) kc1 kc2 (Nat.zero_le 0) kc4 hN hK (by rw [seaN_b (c := b)]; exact hF)⟩
  · rcases N with _ | n
    · skip
      rcases hi with _ | _ | ⟨w4, h04, hi⟩ | ⟨t4, o4, c4, v4, kc4, hi⟩ | _
      · subst h04; cases hi
        exact ⟨[19], rfl, lt_0n (w3 := none) (t4 := 0) (o4 := 0) (c4 := 0) (q := q) (v4 := v1) (n := 0) (k := 0) kc1 kc2 kc3 (Nat.zero_le 0) hN hK (by rw [seaN_q (r := q)]; exact hF)⟩
      · cases hi
        rcases K with _ | k
        · skip
          exact ⟨[20], rfl, lt_00 (w3 := none) (w4 := none) (n := 0) (k := 0) kc1 kc2 kc3 kc4 hN hK (hF)⟩
        · skip
          exact ⟨[20], rfl, lt_0w (w3 := none) (w4 := none) (n := 0) kc1 kc2 kc3 kc4 hN hK (hF)⟩
    · skip
      rcases hi with _ | _ | ⟨w4, h04, hi⟩ | ⟨t4, o4, c4, v4, kc4, hi⟩ | _
      · subst h04; cases hi
        exact ⟨[19], rfl, lt_wn (w3 := none) (t4 := 0) (o4 := 0) (c4 := 0) (q := q) (v4 := v1) (k := 0) kc1 kc2 kc3 (Nat.zero_le 0) hN hK (by rw [seaN_q (r := q)]; exact hF)⟩
      · cases hi
        rcases K with _ | k
        · skip
          exact ⟨[20], rfl, lt_w0 (w3 := none) (w4 := none) (k := 0) kc1 kc2 kc3 kc4 hN hK (hF)⟩
        · skip
          exact ⟨[20], rfl, lt_ww (w3 := none) (w4 := none) kc1 kc2 kc3 kc4 hN hK (hF)⟩
end Go.Proofs.Ytndmoidenbfflaa

/- CipherKnown: its run. -/
namespace Go.Proofs.Ytndmoidenbfflaa
open Go.Rq Go
set_option linter.unusedVariables false
set_option linter.unusedSimpArgs false
set_option maxRecDepth 100000
set_option maxHeartbeats 4000000
def selB (args : List AV) : Nat := match args with
  | [.v1 (.sc (.sl _ _ 31 _)), _, _] => 1
  | _ => 0
def selO (args : List AV) : Nat := match args with
  | [.v1 (.sc (.so _ _)), _, .v1 (.sc (.so _ 15)), _] => 2
  | [.v1 (.sc (.so _ _)), _, _, _] => 0
  | _ => 1
def gCk : Ctx := ctxL [(22, .new cKey), (23, .new cNon), (9, .mem (cBlX selB)), (13, .mem cTagS), (18, .mem cSeal), (20, .mem (cOpX selO)), (15, .rd cSame)]
theorem gCk_ok : CtxOk Try.prog gCk := ctxL_cons okKey <| ctxL_cons okNon <| ctxL_cons (okBlX selB) <| ctxL_cons okTagS <| ctxL_cons okSeal <| ctxL_cons (okOpX selO) <| ctxL_cons okSame ctxL_nil
/-- Bytes that are told one by one. -/
def upL : Nat → List Nat → (Nat → Nat) → Nat → Nat
  | _, [], f => f
  | i, x :: r, f => upL (i + 1) r (upd f i x)
abbrev upZ (l : List Nat) : Nat → Nat := fun j => upL 0 l (fun _ => 0) (addN 0 j)
abbrev nonZ : Nat → Nat := fun j => nonF (addN 0 j)
theorem upZ_lf {l : List Nat} {n : Nat} (h : ∀ j, j < n → upL 0 l (fun _ => 0) j = lf l j) : ∀ j, j < n → upZ l j = lf l j := fun j hj => by
  unfold upZ
  rw [addN_eq, Nat.zero_add, h j hj]
theorem once_up : ∀ j, j < 32 → upL 0 onceL (fun _ => 0) j = lf onceL j := by decide
theorem msg_up : ∀ j, j < 34 → upL 0 msgL (fun _ => 0) j = lf msgL j := by decide
theorem nonZ_eq : nonZ = nonF := by funext j; unfold nonZ; rw [addN_eq, Nat.zero_add]
theorem seaN_fg {f f' g g' q b : Nat → Nat} {K N : Nat} (h : ∀ j, j < 32 → f j = f' j) (k : ∀ j, j < 12 → g j = g' j) : seaN f g K q N b = seaN f' g' K q N b := by
  unfold seaN
  rw [blkF_congr h k]
theorem known_same : sameT idF nonZ 0 (fun _ => 0) 0 (seF idF nonZ 0 (fun _ => 0) 0 (fun _ => 0)) := fun i hi => by
  rw [seF_0, Nat.zero_add, seaN_b]
theorem known_unlike : ¬ sameT (upZ onceL) nonZ 0 (fun _ => 0) 0 (seF idF nonZ 0 (fun _ => 0) 0 (fun _ => 0)) := fun h => by
  have h0 := h 1 (by decide)
  rw [seF_0, seaN_fg (upZ_lf once_up) (fun _ _ => rfl), nonZ_eq, sea_once, sea_key] at h0
  exact absurd h0 (by decide)
def b1T : List Nat := [16, 241, 231, 228, 209, 59, 89, 21]
def t1T : List Nat := [168, 6, 29, 193, 48, 81, 54, 198, 194, 43, 139, 175, 12, 1, 39, 169]
theorem known_b1 : eqStr 8 (fun j => blkF idF nonZ 1 (addN 0 j)) 8 (upZ b1T) = true := eqStr_of fun j hj => by
  rw [addN_eq, Nat.zero_add, nonZ_eq, ← blkL_eq (by omega)]
  have e : lf (blkL idF nonF 1) j = lf ((blkL idF nonF 1).take 8) j := by
    unfold lf
    rw [List.getD_eq_getElem?_getD, List.getD_eq_getElem?_getD, List.getElem?_take_of_lt hj]
  rw [e, b1_known]
  have : ∀ j, j < 8 → lf [16, 241, 231, 228, 209, 59, 89, 21] j = upL 0 b1T (fun _ => 0) j % 256 := by decide
  show _ = upL 0 b1T (fun _ => 0) (addN 0 j) % 256
  rw [addN_eq, Nat.zero_add, this j hj]
theorem known_t1 {f b : Nat → Nat} (hf : ∀ j, j < 32 → f j = lf onceL j) (hb : ∀ j, j < 34 → b j = lf msgL j) : eqStr 16 (fun j => dgN (tagN f b 34) (addN 0 j)) 16 (upZ t1T) = true := eqStr_of fun j hj => by
  rw [addN_eq, Nat.zero_add, tagN_congr hf hb, t1_known]
  have : ∀ j, j < 16 → dgN 905406785994486245610219399192143267496 j % 256 = upL 0 t1T (fun _ => 0) j % 256 := by decide
  show _ = upL 0 t1T (fun _ => 0) (addN 0 j) % 256
  rw [addN_eq, Nat.zero_add, this j hj]
abbrev msgZ : Nat → Nat := fun j => upL 0 msgL (fun _ => 0) (0 - 0 + j)
def ckP : Prop := 32 ≤ 32 ∧ 0 + 12 ≤ 12 ∧ 12 ≤ 12 ∧ 32 = 32 ∧ 12 = 12 ∧
  0 + 32 ≤ 32 ∧ 32 ≤ 32 ∧ 0 ≤ 0 ∧ 0 - 0 + 34 ≤ 34 ∧ 34 ≤ 34 ∧ 32 = 32 ∧ 34 ≤ 1048576 ∧
  32 ≤ 32 ∧ 0 + 12 ≤ 12 ∧ 12 ≤ 12 ∧ 32 = 32 ∧ 12 = 12 ∧ 0 ≤ 1048576 ∧ 0 ≤ 1048576 ∧
  32 ≤ 32 ∧ 0 + 12 ≤ 12 ∧ 12 ≤ 12 ∧ 16 ≤ 16 ∧ 32 = 32 ∧ 12 = 12 ∧ 16 ≤ 16 ∧ 16 ≤ 1048592 ∧ 0 ≤ 1048576 ∧ sameT idF nonZ 0 (fun _ => 0) 0 (seF idF nonZ 0 (fun _ => 0) 0 (fun _ => 0)) ∧
  16 ≤ 16 ∧ 32 ≤ 32 ∧ 0 + 12 ≤ 12 ∧ 12 ≤ 12 ∧ 15 ≤ 16 ∧ 32 = 32 ∧ 12 = 12 ∧ 15 < 16 ∧ 0 ≤ 1048576 ∧
  0 + 32 ≤ 32 ∧ 32 ≤ 32 ∧ 0 + 12 ≤ 12 ∧ 12 ≤ 12 ∧ 16 ≤ 16 ∧ 32 = 32 ∧ 12 = 12 ∧ 16 ≤ 16 ∧ 16 ≤ 1048592 ∧ 0 ≤ 1048576 ∧ (¬ sameT (upZ onceL) nonZ 0 (fun _ => 0) 0 (seF idF nonZ 0 (fun _ => 0) 0 (fun _ => 0))) ∧
  0 + 31 ≤ 32 ∧ 31 ≤ 32 ∧ 0 + 12 ≤ 12 ∧ 12 ≤ 12 ∧ (¬ (31 = 32 ∧ 12 = 12)) ∧
  eqStr 8 (fun j => blkF idF nonZ 1 (addN 0 j)) 8 (upZ b1T) = true ∧ 0 + 8 ≤ 64 ∧ 8 ≤ 64 ∧ 0 + 8 ≤ 8 ∧ 8 ≤ 8 ∧
  eqStr 16 (fun j => dgN (tagN (upZ onceL) msgZ 34) (addN 0 j)) 16 (upZ t1T) = true ∧ 0 + 16 ≤ 16 ∧ 16 ≤ 16 ∧ 0 + 16 ≤ 16 ∧ 16 ≤ 16 ∧
  endM [] [] [] (.v1 (.sc (.bo true))) (.v1 (.sc (.bo true)))
theorem ckP_ok : ckP := by
  refine ⟨by decide, by decide, by decide, rfl, rfl, by decide, by decide, by decide, by decide, by decide, rfl, by decide, by decide, by decide, by decide, rfl, rfl, by decide, by decide,
    by decide, by decide, by decide, by decide, rfl, rfl, by decide, by decide, by decide, known_same, by decide, by decide, by decide, by decide, by decide, rfl, rfl, by decide, by decide,
    by decide, by decide, by decide, by decide, by decide, rfl, rfl, by decide, by decide, by decide, known_unlike, by decide, by decide, by decide, by decide, by decide,
    known_b1, by decide, by decide, by decide, by decide, known_t1 (upZ_lf once_up) (fun j hj => ?_), by decide, by decide, by decide, by decide, endM_same rfl rfl⟩
  show upL 0 msgL (fun _ => 0) (0 - 0 + j) = _
  rw [Nat.sub_self, Nat.zero_add, msg_up j hj]
theorem known_walk : AWqS Try.prog (Dm []) (flatC (bodyOf Try.f5)) (fun e s => FEndM tt Try.f5 (upto 0 ([] : Heap).length) (.v1 (.sc (.bo true))) [] e s) ⟨frame0 [] Try.f5.ntmps, []⟩ :=
  evS_q mixed tt_ok gCk_ok 300 [⟨11,3,.lit (.bo true)⟩,⟨11,7,.lit (.bo true)⟩] (same (p := ckP) ckP_ok (by kernel_rfl))
def cCk (args : List AV) (_ : Heap) : Option (List Prop × AV) :=
  match args with
  | [] => some ([], .v1 (.sc (.bo true)))
  | _ => none
theorem okCk : (CallC.rd cCk).Ok Try.prog 5 := by
  refine ⟨fun args h pre v e hp => ?_, fun args h slot blk hs ha => rfl⟩
  unfold cCk at e
  split at e
  rotate_left
  · cases e
  cases e
  refine views_call tt_ok Try.func5 (by kernel_rfl) (by kernel_rfl) [] (args := []) trivial 0 [] (.v1 (.sc (.bo true))) rfl rfl rfl (fun t ht => by simp at ht) fun a W hi => ⟨[], rfl, ?_⟩
  cases hi
  exact known_walk
end Go.Proofs.Ytndmoidenbfflaa

/- What CipherBack leans on: Pick, and what is plain of bits that are turned. -/
namespace Go.Proofs.Ytndmoidenbfflaa
open Go.Rq Go
set_option linter.unusedVariables false
set_option linter.unusedSimpArgs false
set_option maxRecDepth 100000
set_option maxHeartbeats 4000000
/-! Pick -/
def pkN (x : Int) (m : Nat) : Nat := (x % (m : Int)).toNat
theorem pkN_lt {x : Int} {m : Nat} (h : 0 < m) : pkN x m < m := by
  unfold pkN
  have := Int.emod_lt_of_pos x (show (0 : Int) < (m : Int) by omega)
  have := Int.emod_nonneg x (show (m : Int) ≠ 0 by omega)
  omega
def cPick : List AV → Option (List Prop × AV)
  | [.v1 (.sc (.it x)), .v1 (.sc (.it (.ofNat (k + 1))))] => some ([k + 1 < 1000000], .v1 (.sc (.it (Int.ofNat (pkN x (k + 1))))))
  | _ => none
theorem okPick : (CallC.pure cPick).Ok Try.prog 24 := by
  intro args pre v h hp
  unfold cPick at h
  split at h
  · rename_i x k
    cases h
    have hm2 : k + 1 < 1000000 := hp (k + 1 < 1000000) (by simp)
    have hm : 0 < k + 1 := Nat.succ_pos k
    have h1 := Int.mul_tdiv_add_tmod x (Int.ofNat (k + 1))
    have hlt := Int.tmod_lt_of_pos x (show (0 : Int) < Int.ofNat (k + 1) by simp only [Int.ofNat_eq_natCast]; omega)
    have hgt : -(Int.ofNat (k + 1)) < x.tmod (Int.ofNat (k + 1)) := by
      have := Int.tmod_lt_of_pos (-x) (show (0 : Int) < Int.ofNat (k + 1) by simp only [Int.ofNat_eq_natCast]; omega)
      rw [Int.neg_tmod] at this; omega
    have hnn := Int.emod_nonneg x (show ((k + 1 : Nat) : Int) ≠ 0 by omega)
    have hpk : (Int.ofNat (pkN x (k + 1)) : Int) = x % ((k + 1 : Nat) : Int) := by unfold pkN; simp only [Int.ofNat_eq_natCast]; omega
    have ht := Int.tmod_eq_emod (a := x) (b := Int.ofNat (k + 1))
    have h0 : ilt (Int.ofNat (k + 1)) 1 = false := ilt_f (n := 1) (by omega)
    have hne : ¬ (Int.ofNat (k + 1) = 0) := by simp only [Int.ofNat_eq_natCast]; omega
    have hlt2 := Int.emod_lt_of_pos x (show (0 : Int) < ((k + 1 : Nat) : Int) by omega)
    simp only [Int.ofNat_eq_natCast, Int.natAbs_natCast] at ht hlt hgt hpk
    cases hb : ilt (x.tmod (Int.ofNat (k + 1))) 0
    · have hb' : ¬ x.tmod (Int.ofNat (k + 1)) < 0 := by rw [← ilt_iff, hb]; simp
      simp only [Int.ofNat_eq_natCast] at hb'
      have e : x.tmod (Int.ofNat (k + 1)) = Int.ofNat (pkN x (k + 1)) := by
        simp only [Int.ofNat_eq_natCast]
        rw [hpk]
        split at ht <;> omega
      refine pure_fn mixed tt_ok (G := ctxL []) ctxL_nil Try.func24 (by kernel_rfl) (by kernel_rfl) (by kernel_rfl) (by kernel_rfl) 50 [⟨1,1,.lit (.bo false)⟩,⟨3,3,.lit (.it (Int.ofNat (pkN x (k + 1))))⟩,⟨4,1,.lit (.bo false)⟩] ?_
      exact same (p := ilt (Int.ofNat (k + 1)) 1 = false ∧ x.tmod (Int.ofNat (k + 1)) = Int.ofNat (pkN x (k + 1)) ∧ ilt (Int.ofNat (pkN x (k + 1))) 0 = false ∧ some (AV.v1 (.sc (.it (Int.ofNat (pkN x (k + 1)))))) = some (AV.v1 (.sc (.it (Int.ofNat (pkN x (k + 1))))))) ⟨h0, e, by rw [← e]; exact hb, rfl⟩ (by kernel_rfl)
    · have hb' : x.tmod (Int.ofNat (k + 1)) < 0 := by rw [← ilt_iff, hb]
      simp only [Int.ofNat_eq_natCast] at hb'
      have e : wrapI (x.tmod (Int.ofNat (k + 1)) + Int.ofNat (k + 1)) = Int.ofNat (pkN x (k + 1)) := by
        simp only [Int.ofNat_eq_natCast]
        rw [hpk, wrapI_same (by omega) (by omega)]
        split at ht <;> omega
      refine pure_fn mixed tt_ok (G := ctxL []) ctxL_nil Try.func24 (by kernel_rfl) (by kernel_rfl) (by kernel_rfl) (by kernel_rfl) 50 [⟨1,1,.lit (.bo false)⟩,⟨4,1,.lit (.bo true)⟩,⟨5,2,.lit (.it (Int.ofNat (pkN x (k + 1))))⟩] ?_
      exact same (p := ilt (Int.ofNat (k + 1)) 1 = false ∧ ilt (x.tmod (Int.ofNat (k + 1))) 0 = true ∧ wrapI (x.tmod (Int.ofNat (k + 1)) + Int.ofNat (k + 1)) = Int.ofNat (pkN x (k + 1)) ∧ some (AV.v1 (.sc (.it (Int.ofNat (pkN x (k + 1)))))) = some (AV.v1 (.sc (.it (Int.ofNat (pkN x (k + 1))))))) ⟨h0, hb, e, rfl⟩ (by kernel_rfl)
  · cases h
def selW (md : Nat) (args : List AV) : Nat := match args with
  | [_, _, .v1 (.sc (.so b _)), _] => bif Nat.ble b 8 then 0 else md
  | _ => 0
def gCb (md : Nat) : Ctx := ctxL [(5, .rd cCk), (18, .mem cSeal), (20, .mem (cOpX (selW md))), (11, .mem cSmS), (15, .rd cSame), (24, .pure cPick), (25, .mem cCpy), (26, .mem cLt)]
theorem gCb_ok (md : Nat) : CtxOk Try.prog (gCb md) := ctxL_cons okCk <| ctxL_cons okSeal <| ctxL_cons (okOpX (selW md)) <| ctxL_cons okSmS <| ctxL_cons okSame <| ctxL_cons okPick <| ctxL_cons okCpy <| ctxL_cons okLt ctxL_nil
end Go.Proofs.Ytndmoidenbfflaa

/- Bits that are turned. Printed by genback.py. -/
namespace Go.Proofs.Ytndmoidenbfflaa
open Go.Rq Go
set_option linter.unusedVariables false
set_option linter.unusedSimpArgs false
set_option maxRecDepth 100000
set_option maxHeartbeats 4000000
def flB (F : Nat → Nat) (j e : Nat) : Nat → Nat := upd F j (F j ^^^ 1 * 2 ^ min e 8)
theorem flB_ne {F : Nat → Nat} {j e i : Nat} (h : i ≠ j) : flB F j e i = F i := by
  unfold flB upd
  rw [neb h, cond_false]
theorem flB_at {F : Nat → Nat} {j e : Nat} : flB F j e j = F j ^^^ 1 * 2 ^ min e 8 := by
  unfold flB upd
  have : Nat.beq j j = true := by simp
  rw [this, cond_true]
theorem seF_lo {f g b q : Nat → Nat} {N K j : Nat} (h : j < N) : seF f g N b K q j = stF f g 1 b j := by
  unfold seF catF
  rw [blt_t h, cond_true]
theorem seF_hi {f g b q : Nat → Nat} {N K i : Nat} : seF f g N b K q (N + i) = dgN (seaN f g K q N (stF f g 1 b)) i := by
  unfold seF catF
  rw [blt_f (by omega), cond_false, Nat.add_sub_cancel_left]
theorem filF_congr {N : Nat} {b c : Nat → Nat} (h : ∀ j, j < N → b j = c j) : filF N b = filF N c := by
  funext j
  by_cases hj : j < N
  · rw [filF_lt hj, filF_lt hj, h j hj]
  · rw [filF_ge (by omega), filF_ge (by omega)]
theorem seaN_congr {f g q b c : Nat → Nat} {K N : Nat} (h : ∀ j, j < N → b j = c j) : seaN f g K q N b = seaN f g K q N c := by
  unfold seaN allF
  rw [filF_congr h]
theorem same_seal {f g b q : Nat → Nat} {N K : Nat} : sameT f g K q N (seF f g N b K q) := fun i hi => by
  rw [seF_hi, seaN_congr fun j hj => seF_lo hj]
theorem stF_stF {f g b : Nat → Nat} {c j : Nat} : stF f g c (stF f g c b) j = b j := by
  unfold stF
  rw [Nat.xor_assoc, Nat.xor_self, Nat.xor_zero]
theorem back_text {f g b q : Nat → Nat} {N M K : Nat} (hM : M = N) : eqStr M (fun j => stF f g 1 (seF f g N b K q) (addN 0 j)) N b = true := by
  subst hM
  refine eqStr_of fun j hj => ?_
  rw [addN_eq, Nat.zero_add]
  have : stF f g 1 (seF f g M b K q) j = stF f g 1 (stF f g 1 b) j := by
    show seF f g M b K q j ^^^ _ = stF f g 1 b j ^^^ _
    rw [seF_lo hj]
  rw [this, stF_stF]
theorem back_stream {f g b : Nat → Nat} {N : Nat} : eqStr N (fun j => stF f g 7 (fun j => stF f g 7 b (addN 0 j)) (addN 0 j)) N b = true := by
  refine eqStr_of fun j hj => ?_
  have e : (fun j => stF f g 7 b (addN 0 j)) = stF f g 7 b := by funext i; rw [addN_eq, Nat.zero_add]
  rw [e, addN_eq, Nat.zero_add, stF_stF]
/-- Both tags are the same, or not. -/
theorem tags_same {f g q B S : Nat → Nat} {K N M : Nat} (hM : M = 16) (hB : ∀ i, i < 16 → B (N + i) = S (N + i)) (h : sameT f g K q N B) : eqStr 16 (fun j => dgN (seaN f g K q N B) (addN 0 j)) M (fun j => S (addN N j)) = true := by
  subst hM
  refine eqStr_of fun j hj => ?_
  rw [addN_eq, addN_eq, Nat.zero_add, h j hj, hB j hj]
theorem tags_unlike {f g q B S : Nat → Nat} {K N M : Nat} (hM : M = 16) (hB : ∀ i, i < 16 → B (N + i) = S (N + i)) (h : ¬ sameT f g K q N B) : eqStr 16 (fun j => dgN (seaN f g K q N B) (addN 0 j)) M (fun j => S (addN N j)) = false := by
  subst hM
  rw [← Bool.not_eq_true]
  intro he
  refine h fun i hi => ?_
  unfold eqStr at he
  have hb : Nat.beq 16 16 = true := rfl
  rw [hb, cond_true, eqN_iff] at he
  have := he i hi
  rw [addN_eq, addN_eq, Nat.zero_add] at this
  rw [this, hB i hi]
theorem bit_turned {a e : Nat} (he : e < 8) : ¬ (a ^^^ 1 * 2 ^ min e 8) % 256 = a % 256 := fun h => by
  have h1 : ∀ x : Nat, x % 256 = x % 2 ^ 8 := fun x => rfl
  rw [h1, h1, Nat.xor_mod_two_pow, Nat.one_mul, show min e 8 = e by omega] at h
  have h2 := congrArg (·.testBit e) h
  simp only [Nat.testBit_xor, Nat.testBit_mod_two_pow, Nat.testBit_two_pow_self, he, decide_true, Bool.true_and] at h2
  have e1 : (a % 256).testBit e = a.testBit e := by
    show (a % 2 ^ 8).testBit e = _
    rw [Nat.testBit_mod_two_pow]
    simp only [he, decide_true, Bool.true_and]
  rw [e1] at h2
  have key : ∀ b : Bool, ¬ (b ^^ true) = b := by decide
  exact key _ h2
theorem tag_turned {f g b q : Nat → Nat} {N K j e : Nat} (h1 : N ≤ j) (h2 : j < N + 16) (he : e < 8) : ¬ sameT f g K q N (flB (seF f g N b K q) j e) := fun h => by
  obtain ⟨i, rfl⟩ : ∃ i, j = N + i := ⟨j - N, by omega⟩
  have h3 := h i (by omega)
  rw [flB_at, seF_hi, seaN_congr (c := stF f g 1 b) fun k hk => by rw [flB_ne (by omega), seF_lo hk]] at h3
  exact bit_turned he h3.symm
theorem wr16 {N : Nat} (h : N ≤ 2000) : wrapI (Int.ofNat N + 16) = Int.ofNat (N + 16) := by
  rw [show Int.ofNat N + 16 = Int.ofNat (N + 16) from rfl]
  exact wrapI_nn (by omega)
theorem wr8 {N K : Nat} (h : N ≤ 2000) (k : K ≤ 2000) : wrapI (8 * wrapI (Int.ofNat (N + 16) + Int.ofNat K)) = Int.ofNat (8 * (N + K) + 127 + 1) := by
  rw [show Int.ofNat (N + 16) + Int.ofNat K = Int.ofNat (N + 16 + K) from rfl, wrapI_nn (by omega), show 8 * Int.ofNat (N + 16 + K) = Int.ofNat (8 * (N + 16 + K)) from rfl, wrapI_nn (by omega)]
  congr 1; omega
theorem wr8' {N : Nat} (h : N ≤ 2000) : wrapI (8 * Int.ofNat (N + 16)) = Int.ofNat (8 * (N + 16)) := by
  rw [show 8 * Int.ofNat (N + 16) = Int.ofNat (8 * (N + 16)) from rfl]
  exact wrapI_nn (by omega)
theorem wrD {d j : Nat} (h : d < 1000000) (hj : d / 8 = j) : wrapI ((Int.ofNat d).tdiv 8) = Int.ofNat j := by
  rw [show (Int.ofNat d).tdiv 8 = Int.ofNat (d / 8) from rfl, hj]
  exact wrapI_nn (by omega)
theorem wrM {d e : Nat} (h : d % 8 = e) : (Int.ofNat d).tmod 8 = Int.ofNat e := by
  rw [show (Int.ofNat d).tmod 8 = Int.ofNat (d % 8) from rfl, h]
theorem wrS {j N i : Nat} (hj : j = N + 16 + i) (h : j < 1000000) : wrapI (Int.ofNat j - Int.ofNat (N + 16)) = Int.ofNat i := by
  rw [show Int.ofNat j - Int.ofNat (N + 16) = Int.ofNat i by simp only [Int.ofNat_eq_natCast]; omega]
  exact wrapI_nn (by omega)
theorem lt_ofNat {a b : Nat} (h : a < b) : Int.ofNat a < ((b : Nat) : Int) := by simp only [Int.ofNat_eq_natCast]; omega
theorem nieq_same {n : Nat} : (!ieq (Int.ofNat n) (Int.ofNat n)) = false := by rw [ieq_same]; rfl
theorem nieq_f {n m : Nat} (h : n = m) : (!ieq (Int.ofNat n) (Int.ofNat m)) = false := by rw [h]; exact nieq_same
theorem nieq_t {n m : Nat} (h : n ≠ m) : (!ieq (Int.ofNat n) (Int.ofNat m)) = true := by
  have : ieq (Int.ofNat n) (Int.ofNat m) = false := by rw [← Bool.not_eq_true, ieq_iff]; simp only [Int.ofNat_eq_natCast]; omega
  rw [this]; rfl
theorem nilt_f {a b : Nat} (h : a < b) : (!ilt (Int.ofNat a) (Int.ofNat b)) = false := by rw [ilt_t h]; rfl
theorem nilt_t {a b : Nat} (h : ¬ a < b) : (!ilt (Int.ofNat a) (Int.ofNat b)) = true := by rw [ilt_f h]; rfl
end Go.Proofs.Ytndmoidenbfflaa

/- CipherBack: its walks. Printed by genback.py. -/
namespace Go.Proofs.Ytndmoidenbfflaa
open Go.Rq Go
set_option linter.unusedVariables false
set_option linter.unusedSimpArgs false
set_option maxRecDepth 100000
set_option maxHeartbeats 4000000
theorem backA_wn0 {t1 o1 c1 t2 o2 c2 t3 o3 c3 N d j e : Nat} {x : Int} {f g b : Nat → Nat} {v1 v2 v3 : WrapV} {w4 : Option Addr} (kc1 : 32 ≤ c1) (kc2 : 12 ≤ c2) (kc3 : N ≤ c3) (hN : N ≤ 2000) (hK : 0 ≤ 2000)
    (hd : pkN x (8 * (N + 0) + 127 + 1) = d) (hj : d / 8 = j) (he : d % 8 = e) (hjs : j < N + 16) (hjn : j < N) (hS : sameT (fun j => f (o1 - o1 + j)) (fun j => g (o2 - o2 + j)) 0 (fun _ => 0) N (flB (seF (fun j => f (o1 - o1 + j)) (fun j => g (o2 - o2 + j)) N (fun j => b (o3 - o3 + j)) 0 (fun _ => 0)) j e)) : AWqS Try.prog (Dm [wB t1 o1 32 f v1, wB t2 o2 12 g v2, wB t3 o3 N b v3]) (flatC (bodyOf Try.f6)) (fun e s => FEndM tt Try.f6 (upto 0 ([wB t1 o1 32 f v1, wB t2 o2 12 g v2, wB t3 o3 N b v3] : Heap).length) (.v1 (.sc (.bo true))) [wB t1 o1 32 f v1, wB t2 o2 12 g v2, wB t3 o3 N b v3] e s) ⟨frame0 [.v1 (.sc (.sl 0 o1 32 c1)), .v1 (.sc (.sl 1 o2 12 c2)), .v1 (.sc (.sl 2 o3 N c3)), emS w4, iv x] Try.f6.ntmps, [wB t1 o1 32 f v1, wB t2 o2 12 g v2, wB t3 o3 N b v3]⟩ := by
  have hd6 : d < 1000000 := by have := pkN_lt (x := x) (m := 8 * (N + 0) + 127 + 1) (by omega); omega
  refine evS_q mixed tt_ok (gCb_ok 0) 300 [⟨2,2,.lit (.bo false)⟩,⟨2,6,.lit (.bo false)⟩,⟨2,11,.lit (.bo false)⟩,⟨2,16,.lit (.bo false)⟩,⟨5,7,.lit (.it (Int.ofNat (N + 16)))⟩,⟨5,8,.lit (.bo false)⟩,⟨10,5,.lit (.bo true)⟩,⟨10,19,.lit (.bo true)⟩,⟨12,6,.lit (.it (Int.ofNat (8 * (N + 0) + 127 + 1)))⟩,⟨12,8,.lit (.it (Int.ofNat d))⟩,⟨14,3,.lit (.it (Int.ofNat (8 * (N + 16))))⟩,⟨14,4,.lit (.bo true)⟩,⟨15,2,.lit (.it (Int.ofNat j))⟩,⟨15,5,.lit (.it (Int.ofNat j))⟩,⟨15,6,.sym⟩,⟨15,7,.sym⟩,⟨15,9,.lit (.it (Int.ofNat e))⟩,⟨15,10,.sym⟩,⟨15,12,.sym⟩,⟨15,13,.sym⟩,⟨18,1,.lit (.it (Int.ofNat j))⟩,⟨18,4,.lit (.bo false)⟩,⟨18,7,.lit (.it (Int.ofNat j))⟩,⟨18,10,.lit (.bo true)⟩,⟨20,5,.sym⟩,⟨21,11,.sym⟩,⟨21,12,.lit (.bo true)⟩] (same (p := (!ieq (Int.ofNat 32) (Int.ofNat 32)) = false ∧ (!ieq (Int.ofNat 12) (Int.ofNat 12)) = false ∧ ilt 2000 (Int.ofNat N) = false ∧ ilt 2000 (Int.ofNat 0) = false ∧ o1 ≤ o1 ∧ o1 - o1 + 32 ≤ 32 ∧ 32 ≤ c1 ∧ o2 ≤ o2 ∧ o2 - o2 + 12 ≤ 12 ∧ 12 ≤ c2 ∧ o3 ≤ o3 ∧ o3 - o3 + N ≤ N ∧ N ≤ c3 ∧ 32 = 32 ∧ 12 = 12 ∧ N ≤ 1048576 ∧ 0 ≤ 1048576 ∧ wrapI (Int.ofNat N + 16) = Int.ofNat (N + 16) ∧ (!ieq (Int.ofNat (N + 16)) (Int.ofNat (N + 16))) = false ∧ o1 ≤ o1 ∧ o1 - o1 + 32 ≤ 32 ∧ 32 ≤ c1 ∧ o2 ≤ o2 ∧ o2 - o2 + 12 ≤ 12 ∧ 12 ≤ c2 ∧ N + 16 ≤ N + 16 ∧ 32 = 32 ∧ 12 = 12 ∧ 16 ≤ N + 16 ∧ N + 16 ≤ 1048592 ∧ 0 ≤ 1048576 ∧ sameT (fun j => f (o1 - o1 + j)) (fun j => g (o2 - o2 + j)) 0 (fun _ => 0) (N + 16 - 16) (seF (fun j => f (o1 - o1 + j)) (fun j => g (o2 - o2 + j)) N (fun j => b (o3 - o3 + j)) 0 (fun _ => 0)) ∧ o1 ≤ o1 ∧ o1 - o1 + 32 ≤ 32 ∧ 32 ≤ c1 ∧ o2 ≤ o2 ∧ o2 - o2 + 12 ≤ 12 ∧ 12 ≤ c2 ∧ o3 ≤ o3 ∧ o3 - o3 + N ≤ N ∧ N ≤ c3 ∧ 32 = 32 ∧ 12 = 12 ∧ N ≤ 1048576 ∧ o1 ≤ o1 ∧ o1 - o1 + 32 ≤ 32 ∧ 32 ≤ c1 ∧ o2 ≤ o2 ∧ o2 - o2 + 12 ≤ 12 ∧ 12 ≤ c2 ∧ 0 + N ≤ N ∧ N ≤ N ∧ 32 = 32 ∧ 12 = 12 ∧ N ≤ 1048576 ∧ eqStr (N + 16 - 16) (fun j => stF (fun j => f (o1 - o1 + j)) (fun j => g (o2 - o2 + j)) 1 (seF (fun j => f (o1 - o1 + j)) (fun j => g (o2 - o2 + j)) N (fun j => b (o3 - o3 + j)) 0 (fun _ => 0)) (addN 0 j)) N (fun j => b (o3 - o3 + j)) = true ∧ 0 + (N + 16 - 16) ≤ N + 16 - 16 ∧ N + 16 - 16 ≤ N + 16 - 16 ∧ o3 ≤ o3 ∧ o3 - o3 + N ≤ N ∧ N ≤ c3 ∧ eqStr N (fun j => stF (fun j => f (o1 - o1 + j)) (fun j => g (o2 - o2 + j)) 7 (fun j => stF (fun j => f (o1 - o1 + j)) (fun j => g (o2 - o2 + j)) 7 (fun j => b (o3 - o3 + j)) (addN 0 j)) (addN 0 j)) N (fun j => b (o3 - o3 + j)) = true ∧ 0 + N ≤ N ∧ N ≤ N ∧ o3 ≤ o3 ∧ o3 - o3 + N ≤ N ∧ N ≤ c3 ∧ wrapI (8 * wrapI (Int.ofNat (N + 16) + Int.ofNat 0)) = Int.ofNat (8 * (N + 0) + 127 + 1) ∧ 8 * (N + 0) + 127 + 1 < 1000000 ∧ Int.ofNat (pkN x (8 * (N + 0) + 127 + 1)) = Int.ofNat d ∧ N + 16 ≤ N + 16 ∧ N + 16 ≤ limN ∧ wrapI (8 * Int.ofNat (N + 16)) = Int.ofNat (8 * (N + 16)) ∧ ilt (Int.ofNat d) (Int.ofNat (8 * (N + 16))) = true ∧ wrapI ((Int.ofNat d).tdiv 8) = Int.ofNat j ∧ wrapI ((Int.ofNat d).tdiv 8) = Int.ofNat j ∧ 0 ≤ Int.ofNat j ∧ Int.ofNat j < ((N + 16 : Nat) : Int) ∧ j < N + 16 ∧ (Int.ofNat d).tmod 8 = Int.ofNat e ∧ 0 ≤ Int.ofNat e ∧ 0 ≤ Int.ofNat j ∧ Int.ofNat j < ((N + 16 : Nat) : Int) ∧ j < N + 16 ∧ o1 ≤ o1 ∧ o1 - o1 + 32 ≤ 32 ∧ 32 ≤ c1 ∧ o2 ≤ o2 ∧ o2 - o2 + 12 ≤ 12 ∧ 12 ≤ c2 ∧ N + 16 ≤ N + 16 ∧ 0 + 0 ≤ 0 ∧ 0 ≤ 0 ∧ 32 = 32 ∧ 12 = 12 ∧ 16 ≤ N + 16 ∧ N + 16 ≤ 1048592 ∧ 0 ≤ 1048576 ∧ (sameT (fun j => f (o1 - o1 + j)) (fun j => g (o2 - o2 + j)) 0 (fun _ => 0) (N + 16 - 16) (flB (seF (fun j => f (o1 - o1 + j)) (fun j => g (o2 - o2 + j)) N (fun j => b (o3 - o3 + j)) 0 (fun _ => 0)) j e)) ∧ wrapI ((Int.ofNat d).tdiv 8) = Int.ofNat j ∧ (!ilt (Int.ofNat j) (Int.ofNat N)) = false ∧ 0 ≤ Int.ofNat N ∧ Int.ofNat N < ((N + 16 + 1 : Nat) : Int) ∧ N + 16 ≤ N + 16 ∧ o1 ≤ o1 ∧ o1 - o1 + 32 ≤ 32 ∧ 32 ≤ c1 ∧ o2 ≤ o2 ∧ o2 - o2 + 12 ≤ 12 ∧ 12 ≤ c2 ∧ N ≤ N + 16 ∧ 0 + 0 ≤ 0 ∧ 0 ≤ 0 ∧ 32 = 32 ∧ 12 = 12 ∧ N ≤ 3000 ∧ 0 ≤ 3000 ∧ 0 ≤ Int.ofNat N ∧ Int.ofNat N < ((N + 16 + 1 : Nat) : Int) ∧ N + 16 ≤ N + 16 ∧ N < N + 16 ∧ eqStr 16 (fun s => dgN (seaN (fun j => f (o1 - o1 + j)) (fun j => g (o2 - o2 + j)) 0 (fun _ => 0) N (flB (seF (fun j => f (o1 - o1 + j)) (fun j => g (o2 - o2 + j)) N (fun j => b (o3 - o3 + j)) 0 (fun _ => 0)) j e)) (addN 0 s)) (N + 16 - N) (fun s => (seF (fun j => f (o1 - o1 + j)) (fun j => g (o2 - o2 + j)) N (fun j => b (o3 - o3 + j)) 0 (fun _ => 0)) (addN N s)) = true ∧ 0 + 16 ≤ 16 ∧ 16 ≤ 16 ∧ N + (N + 16 - N) ≤ N + 16 ∧ endM [0, 1, 2] [wB t1 o1 32 f v1, wB t2 o2 12 g v2, wB t3 o3 N b v3] [wB t1 o1 32 f v1, wB t2 o2 12 g v2, wB t3 o3 N b v3] (.v1 (.sc (.bo true))) (.v1 (.sc (.bo true)))) ?_ (by kernel_rfl))
  exact ⟨rfl, rfl, ilt_f (i := 2000) (by omega), ilt_f (i := 2000) (by omega), Nat.le_refl _, win_le, kc1, Nat.le_refl _, win_le, kc2, Nat.le_refl _, win_le, kc3, rfl, rfl, Nat.le_trans hN (by decide), Nat.le_trans hK (by decide), wr16 hN, nieq_same, Nat.le_refl _, win_le, kc1, Nat.le_refl _, win_le, kc2, Nat.le_refl _, rfl, rfl, by omega, by omega, Nat.le_trans hK (by decide), same_seal, Nat.le_refl _, win_le, kc1, Nat.le_refl _, win_le, kc2, Nat.le_refl _, win_le, kc3, rfl, rfl, Nat.le_trans hN (by decide), Nat.le_refl _, win_le, kc1, Nat.le_refl _, win_le, kc2, by omega, Nat.le_refl _, rfl, rfl, Nat.le_trans hN (by decide), back_text rfl, by omega, Nat.le_refl _, Nat.le_refl _, win_le, kc3, back_stream, by omega, Nat.le_refl _, Nat.le_refl _, win_le, kc3, wr8 hN hK, by omega, congrArg Int.ofNat hd, Nat.le_refl _, Nat.le_trans (show N + 16 ≤ 3000 by omega) (by decide), wr8' hN, ilt_t (by omega), wrD hd6 hj, wrD hd6 hj, Int.natCast_nonneg _, lt_ofNat hjs, hjs, wrM he, Int.natCast_nonneg _, Int.natCast_nonneg _, lt_ofNat hjs, hjs, Nat.le_refl _, win_le, kc1, Nat.le_refl _, win_le, kc2, Nat.le_refl _, Nat.le_refl _, Nat.le_refl _, rfl, rfl, by omega, by omega, Nat.le_trans hK (by decide), hS, wrD hd6 hj, nilt_f hjn, Int.natCast_nonneg _, lt_ofNat (by omega), Nat.le_refl _, Nat.le_refl _, win_le, kc1, Nat.le_refl _, win_le, kc2, by omega, Nat.le_refl _, Nat.le_refl _, rfl, rfl, Nat.le_trans hN (by decide), Nat.le_trans hK (by decide), Int.natCast_nonneg _, lt_ofNat (by omega), Nat.le_refl _, by omega, tags_same (by omega) (fun t ht => flB_ne (by omega)) hS, Nat.le_refl _, Nat.le_refl _, by omega, endM_same rfl rfl⟩
theorem backA_wn1 {t1 o1 c1 t2 o2 c2 t3 o3 c3 N d j e : Nat} {x : Int} {f g b : Nat → Nat} {v1 v2 v3 : WrapV} {w4 : Option Addr} (kc1 : 32 ≤ c1) (kc2 : 12 ≤ c2) (kc3 : N ≤ c3) (hN : N ≤ 2000) (hK : 0 ≤ 2000)
    (hd : pkN x (8 * (N + 0) + 127 + 1) = d) (hj : d / 8 = j) (he : d % 8 = e) (hjs : j < N + 16) (hjn : j < N) (hS : ¬ sameT (fun j => f (o1 - o1 + j)) (fun j => g (o2 - o2 + j)) 0 (fun _ => 0) N (flB (seF (fun j => f (o1 - o1 + j)) (fun j => g (o2 - o2 + j)) N (fun j => b (o3 - o3 + j)) 0 (fun _ => 0)) j e)) : AWqS Try.prog (Dm [wB t1 o1 32 f v1, wB t2 o2 12 g v2, wB t3 o3 N b v3]) (flatC (bodyOf Try.f6)) (fun e s => FEndM tt Try.f6 (upto 0 ([wB t1 o1 32 f v1, wB t2 o2 12 g v2, wB t3 o3 N b v3] : Heap).length) (.v1 (.sc (.bo true))) [wB t1 o1 32 f v1, wB t2 o2 12 g v2, wB t3 o3 N b v3] e s) ⟨frame0 [.v1 (.sc (.sl 0 o1 32 c1)), .v1 (.sc (.sl 1 o2 12 c2)), .v1 (.sc (.sl 2 o3 N c3)), emS w4, iv x] Try.f6.ntmps, [wB t1 o1 32 f v1, wB t2 o2 12 g v2, wB t3 o3 N b v3]⟩ := by
  have hd6 : d < 1000000 := by have := pkN_lt (x := x) (m := 8 * (N + 0) + 127 + 1) (by omega); omega
  refine evS_q mixed tt_ok (gCb_ok 1) 300 [⟨2,2,.lit (.bo false)⟩,⟨2,6,.lit (.bo false)⟩,⟨2,11,.lit (.bo false)⟩,⟨2,16,.lit (.bo false)⟩,⟨5,7,.lit (.it (Int.ofNat (N + 16)))⟩,⟨5,8,.lit (.bo false)⟩,⟨10,5,.lit (.bo true)⟩,⟨10,19,.lit (.bo true)⟩,⟨12,6,.lit (.it (Int.ofNat (8 * (N + 0) + 127 + 1)))⟩,⟨12,8,.lit (.it (Int.ofNat d))⟩,⟨14,3,.lit (.it (Int.ofNat (8 * (N + 16))))⟩,⟨14,4,.lit (.bo true)⟩,⟨15,2,.lit (.it (Int.ofNat j))⟩,⟨15,5,.lit (.it (Int.ofNat j))⟩,⟨15,6,.sym⟩,⟨15,7,.sym⟩,⟨15,9,.lit (.it (Int.ofNat e))⟩,⟨15,10,.sym⟩,⟨15,12,.sym⟩,⟨15,13,.sym⟩,⟨18,1,.lit (.it (Int.ofNat j))⟩,⟨18,4,.lit (.bo false)⟩,⟨18,7,.lit (.it (Int.ofNat j))⟩,⟨18,10,.lit (.bo true)⟩,⟨20,5,.sym⟩,⟨21,11,.sym⟩,⟨21,12,.lit (.bo false)⟩] (same (p := (!ieq (Int.ofNat 32) (Int.ofNat 32)) = false ∧ (!ieq (Int.ofNat 12) (Int.ofNat 12)) = false ∧ ilt 2000 (Int.ofNat N) = false ∧ ilt 2000 (Int.ofNat 0) = false ∧ o1 ≤ o1 ∧ o1 - o1 + 32 ≤ 32 ∧ 32 ≤ c1 ∧ o2 ≤ o2 ∧ o2 - o2 + 12 ≤ 12 ∧ 12 ≤ c2 ∧ o3 ≤ o3 ∧ o3 - o3 + N ≤ N ∧ N ≤ c3 ∧ 32 = 32 ∧ 12 = 12 ∧ N ≤ 1048576 ∧ 0 ≤ 1048576 ∧ wrapI (Int.ofNat N + 16) = Int.ofNat (N + 16) ∧ (!ieq (Int.ofNat (N + 16)) (Int.ofNat (N + 16))) = false ∧ o1 ≤ o1 ∧ o1 - o1 + 32 ≤ 32 ∧ 32 ≤ c1 ∧ o2 ≤ o2 ∧ o2 - o2 + 12 ≤ 12 ∧ 12 ≤ c2 ∧ N + 16 ≤ N + 16 ∧ 32 = 32 ∧ 12 = 12 ∧ 16 ≤ N + 16 ∧ N + 16 ≤ 1048592 ∧ 0 ≤ 1048576 ∧ sameT (fun j => f (o1 - o1 + j)) (fun j => g (o2 - o2 + j)) 0 (fun _ => 0) (N + 16 - 16) (seF (fun j => f (o1 - o1 + j)) (fun j => g (o2 - o2 + j)) N (fun j => b (o3 - o3 + j)) 0 (fun _ => 0)) ∧ o1 ≤ o1 ∧ o1 - o1 + 32 ≤ 32 ∧ 32 ≤ c1 ∧ o2 ≤ o2 ∧ o2 - o2 + 12 ≤ 12 ∧ 12 ≤ c2 ∧ o3 ≤ o3 ∧ o3 - o3 + N ≤ N ∧ N ≤ c3 ∧ 32 = 32 ∧ 12 = 12 ∧ N ≤ 1048576 ∧ o1 ≤ o1 ∧ o1 - o1 + 32 ≤ 32 ∧ 32 ≤ c1 ∧ o2 ≤ o2 ∧ o2 - o2 + 12 ≤ 12 ∧ 12 ≤ c2 ∧ 0 + N ≤ N ∧ N ≤ N ∧ 32 = 32 ∧ 12 = 12 ∧ N ≤ 1048576 ∧ eqStr (N + 16 - 16) (fun j => stF (fun j => f (o1 - o1 + j)) (fun j => g (o2 - o2 + j)) 1 (seF (fun j => f (o1 - o1 + j)) (fun j => g (o2 - o2 + j)) N (fun j => b (o3 - o3 + j)) 0 (fun _ => 0)) (addN 0 j)) N (fun j => b (o3 - o3 + j)) = true ∧ 0 + (N + 16 - 16) ≤ N + 16 - 16 ∧ N + 16 - 16 ≤ N + 16 - 16 ∧ o3 ≤ o3 ∧ o3 - o3 + N ≤ N ∧ N ≤ c3 ∧ eqStr N (fun j => stF (fun j => f (o1 - o1 + j)) (fun j => g (o2 - o2 + j)) 7 (fun j => stF (fun j => f (o1 - o1 + j)) (fun j => g (o2 - o2 + j)) 7 (fun j => b (o3 - o3 + j)) (addN 0 j)) (addN 0 j)) N (fun j => b (o3 - o3 + j)) = true ∧ 0 + N ≤ N ∧ N ≤ N ∧ o3 ≤ o3 ∧ o3 - o3 + N ≤ N ∧ N ≤ c3 ∧ wrapI (8 * wrapI (Int.ofNat (N + 16) + Int.ofNat 0)) = Int.ofNat (8 * (N + 0) + 127 + 1) ∧ 8 * (N + 0) + 127 + 1 < 1000000 ∧ Int.ofNat (pkN x (8 * (N + 0) + 127 + 1)) = Int.ofNat d ∧ N + 16 ≤ N + 16 ∧ N + 16 ≤ limN ∧ wrapI (8 * Int.ofNat (N + 16)) = Int.ofNat (8 * (N + 16)) ∧ ilt (Int.ofNat d) (Int.ofNat (8 * (N + 16))) = true ∧ wrapI ((Int.ofNat d).tdiv 8) = Int.ofNat j ∧ wrapI ((Int.ofNat d).tdiv 8) = Int.ofNat j ∧ 0 ≤ Int.ofNat j ∧ Int.ofNat j < ((N + 16 : Nat) : Int) ∧ j < N + 16 ∧ (Int.ofNat d).tmod 8 = Int.ofNat e ∧ 0 ≤ Int.ofNat e ∧ 0 ≤ Int.ofNat j ∧ Int.ofNat j < ((N + 16 : Nat) : Int) ∧ j < N + 16 ∧ o1 ≤ o1 ∧ o1 - o1 + 32 ≤ 32 ∧ 32 ≤ c1 ∧ o2 ≤ o2 ∧ o2 - o2 + 12 ≤ 12 ∧ 12 ≤ c2 ∧ N + 16 ≤ N + 16 ∧ 0 + 0 ≤ 0 ∧ 0 ≤ 0 ∧ 32 = 32 ∧ 12 = 12 ∧ 16 ≤ N + 16 ∧ N + 16 ≤ 1048592 ∧ 0 ≤ 1048576 ∧ (¬ sameT (fun j => f (o1 - o1 + j)) (fun j => g (o2 - o2 + j)) 0 (fun _ => 0) (N + 16 - 16) (flB (seF (fun j => f (o1 - o1 + j)) (fun j => g (o2 - o2 + j)) N (fun j => b (o3 - o3 + j)) 0 (fun _ => 0)) j e)) ∧ wrapI ((Int.ofNat d).tdiv 8) = Int.ofNat j ∧ (!ilt (Int.ofNat j) (Int.ofNat N)) = false ∧ 0 ≤ Int.ofNat N ∧ Int.ofNat N < ((N + 16 + 1 : Nat) : Int) ∧ N + 16 ≤ N + 16 ∧ o1 ≤ o1 ∧ o1 - o1 + 32 ≤ 32 ∧ 32 ≤ c1 ∧ o2 ≤ o2 ∧ o2 - o2 + 12 ≤ 12 ∧ 12 ≤ c2 ∧ N ≤ N + 16 ∧ 0 + 0 ≤ 0 ∧ 0 ≤ 0 ∧ 32 = 32 ∧ 12 = 12 ∧ N ≤ 3000 ∧ 0 ≤ 3000 ∧ 0 ≤ Int.ofNat N ∧ Int.ofNat N < ((N + 16 + 1 : Nat) : Int) ∧ N + 16 ≤ N + 16 ∧ N < N + 16 ∧ eqStr 16 (fun s => dgN (seaN (fun j => f (o1 - o1 + j)) (fun j => g (o2 - o2 + j)) 0 (fun _ => 0) N (flB (seF (fun j => f (o1 - o1 + j)) (fun j => g (o2 - o2 + j)) N (fun j => b (o3 - o3 + j)) 0 (fun _ => 0)) j e)) (addN 0 s)) (N + 16 - N) (fun s => (seF (fun j => f (o1 - o1 + j)) (fun j => g (o2 - o2 + j)) N (fun j => b (o3 - o3 + j)) 0 (fun _ => 0)) (addN N s)) = false ∧ 0 + 16 ≤ 16 ∧ 16 ≤ 16 ∧ N + (N + 16 - N) ≤ N + 16 ∧ endM [0, 1, 2] [wB t1 o1 32 f v1, wB t2 o2 12 g v2, wB t3 o3 N b v3] [wB t1 o1 32 f v1, wB t2 o2 12 g v2, wB t3 o3 N b v3] (.v1 (.sc (.bo true))) (.v1 (.sc (.bo true)))) ?_ (by kernel_rfl))
  exact ⟨rfl, rfl, ilt_f (i := 2000) (by omega), ilt_f (i := 2000) (by omega), Nat.le_refl _, win_le, kc1, Nat.le_refl _, win_le, kc2, Nat.le_refl _, win_le, kc3, rfl, rfl, Nat.le_trans hN (by decide), Nat.le_trans hK (by decide), wr16 hN, nieq_same, Nat.le_refl _, win_le, kc1, Nat.le_refl _, win_le, kc2, Nat.le_refl _, rfl, rfl, by omega, by omega, Nat.le_trans hK (by decide), same_seal, Nat.le_refl _, win_le, kc1, Nat.le_refl _, win_le, kc2, Nat.le_refl _, win_le, kc3, rfl, rfl, Nat.le_trans hN (by decide), Nat.le_refl _, win_le, kc1, Nat.le_refl _, win_le, kc2, by omega, Nat.le_refl _, rfl, rfl, Nat.le_trans hN (by decide), back_text rfl, by omega, Nat.le_refl _, Nat.le_refl _, win_le, kc3, back_stream, by omega, Nat.le_refl _, Nat.le_refl _, win_le, kc3, wr8 hN hK, by omega, congrArg Int.ofNat hd, Nat.le_refl _, Nat.le_trans (show N + 16 ≤ 3000 by omega) (by decide), wr8' hN, ilt_t (by omega), wrD hd6 hj, wrD hd6 hj, Int.natCast_nonneg _, lt_ofNat hjs, hjs, wrM he, Int.natCast_nonneg _, Int.natCast_nonneg _, lt_ofNat hjs, hjs, Nat.le_refl _, win_le, kc1, Nat.le_refl _, win_le, kc2, Nat.le_refl _, Nat.le_refl _, Nat.le_refl _, rfl, rfl, by omega, by omega, Nat.le_trans hK (by decide), hS, wrD hd6 hj, nilt_f hjn, Int.natCast_nonneg _, lt_ofNat (by omega), Nat.le_refl _, Nat.le_refl _, win_le, kc1, Nat.le_refl _, win_le, kc2, by omega, Nat.le_refl _, Nat.le_refl _, rfl, rfl, Nat.le_trans hN (by decide), Nat.le_trans hK (by decide), Int.natCast_nonneg _, lt_ofNat (by omega), Nat.le_refl _, by omega, tags_unlike (by omega) (fun t ht => flB_ne (by omega)) hS, Nat.le_refl _, Nat.le_refl _, by omega, endM_same rfl rfl⟩
theorem backA_w00 {t1 o1 c1 t2 o2 c2 t3 o3 c3 N t4 o4 c4 d j e : Nat} {x : Int} {f g b q : Nat → Nat} {v1 v2 v3 v4 : WrapV} (kc1 : 32 ≤ c1) (kc2 : 12 ≤ c2) (kc3 : N ≤ c3) (kc4 : 0 ≤ c4) (hN : N ≤ 2000) (hK : 0 ≤ 2000)
    (hd : pkN x (8 * (N + 0) + 127 + 1) = d) (hj : d / 8 = j) (he : d % 8 = e) (hjs : j < N + 16) (hjn : j < N) (hS : sameT (fun j => f (o1 - o1 + j)) (fun j => g (o2 - o2 + j)) 0 (fun _ => 0) N (flB (seF (fun j => f (o1 - o1 + j)) (fun j => g (o2 - o2 + j)) N (fun j => b (o3 - o3 + j)) 0 (fun j => q (o4 - o4 + j))) j e)) : AWqS Try.prog (Dm [wB t1 o1 32 f v1, wB t2 o2 12 g v2, wB t3 o3 N b v3, wB t4 o4 0 q v4]) (flatC (bodyOf Try.f6)) (fun e s => FEndM tt Try.f6 (upto 0 ([wB t1 o1 32 f v1, wB t2 o2 12 g v2, wB t3 o3 N b v3, wB t4 o4 0 q v4] : Heap).length) (.v1 (.sc (.bo true))) [wB t1 o1 32 f v1, wB t2 o2 12 g v2, wB t3 o3 N b v3, wB t4 o4 0 q v4] e s) ⟨frame0 [.v1 (.sc (.sl 0 o1 32 c1)), .v1 (.sc (.sl 1 o2 12 c2)), .v1 (.sc (.sl 2 o3 N c3)), .v1 (.sc (.sl 3 o4 0 c4)), iv x] Try.f6.ntmps, [wB t1 o1 32 f v1, wB t2 o2 12 g v2, wB t3 o3 N b v3, wB t4 o4 0 q v4]⟩ := by
  have hd6 : d < 1000000 := by have := pkN_lt (x := x) (m := 8 * (N + 0) + 127 + 1) (by omega); omega
  refine evS_q mixed tt_ok (gCb_ok 0) 300 [⟨2,2,.lit (.bo false)⟩,⟨2,6,.lit (.bo false)⟩,⟨2,11,.lit (.bo false)⟩,⟨2,16,.lit (.bo false)⟩,⟨5,7,.lit (.it (Int.ofNat (N + 16)))⟩,⟨5,8,.lit (.bo false)⟩,⟨10,5,.lit (.bo true)⟩,⟨10,19,.lit (.bo true)⟩,⟨12,6,.lit (.it (Int.ofNat (8 * (N + 0) + 127 + 1)))⟩,⟨12,8,.lit (.it (Int.ofNat d))⟩,⟨14,3,.lit (.it (Int.ofNat (8 * (N + 16))))⟩,⟨14,4,.lit (.bo true)⟩,⟨15,2,.lit (.it (Int.ofNat j))⟩,⟨15,5,.lit (.it (Int.ofNat j))⟩,⟨15,6,.sym⟩,⟨15,7,.sym⟩,⟨15,9,.lit (.it (Int.ofNat e))⟩,⟨15,10,.sym⟩,⟨15,12,.sym⟩,⟨15,13,.sym⟩,⟨18,1,.lit (.it (Int.ofNat j))⟩,⟨18,4,.lit (.bo false)⟩,⟨18,7,.lit (.it (Int.ofNat j))⟩,⟨18,10,.lit (.bo true)⟩,⟨20,5,.sym⟩,⟨21,11,.sym⟩,⟨21,12,.lit (.bo true)⟩] (same (p := (!ieq (Int.ofNat 32) (Int.ofNat 32)) = false ∧ (!ieq (Int.ofNat 12) (Int.ofNat 12)) = false ∧ ilt 2000 (Int.ofNat N) = false ∧ ilt 2000 (Int.ofNat 0) = false ∧ o1 ≤ o1 ∧ o1 - o1 + 32 ≤ 32 ∧ 32 ≤ c1 ∧ o2 ≤ o2 ∧ o2 - o2 + 12 ≤ 12 ∧ 12 ≤ c2 ∧ o3 ≤ o3 ∧ o3 - o3 + N ≤ N ∧ N ≤ c3 ∧ o4 ≤ o4 ∧ o4 - o4 + 0 ≤ 0 ∧ 0 ≤ c4 ∧ 32 = 32 ∧ 12 = 12 ∧ N ≤ 1048576 ∧ 0 ≤ 1048576 ∧ wrapI (Int.ofNat N + 16) = Int.ofNat (N + 16) ∧ (!ieq (Int.ofNat (N + 16)) (Int.ofNat (N + 16))) = false ∧ o1 ≤ o1 ∧ o1 - o1 + 32 ≤ 32 ∧ 32 ≤ c1 ∧ o2 ≤ o2 ∧ o2 - o2 + 12 ≤ 12 ∧ 12 ≤ c2 ∧ N + 16 ≤ N + 16 ∧ o4 ≤ o4 ∧ o4 - o4 + 0 ≤ 0 ∧ 0 ≤ c4 ∧ 32 = 32 ∧ 12 = 12 ∧ 16 ≤ N + 16 ∧ N + 16 ≤ 1048592 ∧ 0 ≤ 1048576 ∧ sameT (fun j => f (o1 - o1 + j)) (fun j => g (o2 - o2 + j)) 0 (fun j => q (o4 - o4 + j)) (N + 16 - 16) (seF (fun j => f (o1 - o1 + j)) (fun j => g (o2 - o2 + j)) N (fun j => b (o3 - o3 + j)) 0 (fun j => q (o4 - o4 + j))) ∧ o1 ≤ o1 ∧ o1 - o1 + 32 ≤ 32 ∧ 32 ≤ c1 ∧ o2 ≤ o2 ∧ o2 - o2 + 12 ≤ 12 ∧ 12 ≤ c2 ∧ o3 ≤ o3 ∧ o3 - o3 + N ≤ N ∧ N ≤ c3 ∧ 32 = 32 ∧ 12 = 12 ∧ N ≤ 1048576 ∧ o1 ≤ o1 ∧ o1 - o1 + 32 ≤ 32 ∧ 32 ≤ c1 ∧ o2 ≤ o2 ∧ o2 - o2 + 12 ≤ 12 ∧ 12 ≤ c2 ∧ 0 + N ≤ N ∧ N ≤ N ∧ 32 = 32 ∧ 12 = 12 ∧ N ≤ 1048576 ∧ eqStr (N + 16 - 16) (fun j => stF (fun j => f (o1 - o1 + j)) (fun j => g (o2 - o2 + j)) 1 (seF (fun j => f (o1 - o1 + j)) (fun j => g (o2 - o2 + j)) N (fun j => b (o3 - o3 + j)) 0 (fun j => q (o4 - o4 + j))) (addN 0 j)) N (fun j => b (o3 - o3 + j)) = true ∧ 0 + (N + 16 - 16) ≤ N + 16 - 16 ∧ N + 16 - 16 ≤ N + 16 - 16 ∧ o3 ≤ o3 ∧ o3 - o3 + N ≤ N ∧ N ≤ c3 ∧ eqStr N (fun j => stF (fun j => f (o1 - o1 + j)) (fun j => g (o2 - o2 + j)) 7 (fun j => stF (fun j => f (o1 - o1 + j)) (fun j => g (o2 - o2 + j)) 7 (fun j => b (o3 - o3 + j)) (addN 0 j)) (addN 0 j)) N (fun j => b (o3 - o3 + j)) = true ∧ 0 + N ≤ N ∧ N ≤ N ∧ o3 ≤ o3 ∧ o3 - o3 + N ≤ N ∧ N ≤ c3 ∧ wrapI (8 * wrapI (Int.ofNat (N + 16) + Int.ofNat 0)) = Int.ofNat (8 * (N + 0) + 127 + 1) ∧ 8 * (N + 0) + 127 + 1 < 1000000 ∧ Int.ofNat (pkN x (8 * (N + 0) + 127 + 1)) = Int.ofNat d ∧ N + 16 ≤ N + 16 ∧ N + 16 ≤ limN ∧ o4 ≤ o4 ∧ o4 - o4 + 0 ≤ 0 ∧ 0 ≤ c4 ∧ wrapI (8 * Int.ofNat (N + 16)) = Int.ofNat (8 * (N + 16)) ∧ ilt (Int.ofNat d) (Int.ofNat (8 * (N + 16))) = true ∧ wrapI ((Int.ofNat d).tdiv 8) = Int.ofNat j ∧ wrapI ((Int.ofNat d).tdiv 8) = Int.ofNat j ∧ 0 ≤ Int.ofNat j ∧ Int.ofNat j < ((N + 16 : Nat) : Int) ∧ j < N + 16 ∧ (Int.ofNat d).tmod 8 = Int.ofNat e ∧ 0 ≤ Int.ofNat e ∧ 0 ≤ Int.ofNat j ∧ Int.ofNat j < ((N + 16 : Nat) : Int) ∧ j < N + 16 ∧ o1 ≤ o1 ∧ o1 - o1 + 32 ≤ 32 ∧ 32 ≤ c1 ∧ o2 ≤ o2 ∧ o2 - o2 + 12 ≤ 12 ∧ 12 ≤ c2 ∧ N + 16 ≤ N + 16 ∧ 0 + 0 ≤ 0 ∧ 0 ≤ 0 ∧ 32 = 32 ∧ 12 = 12 ∧ 16 ≤ N + 16 ∧ N + 16 ≤ 1048592 ∧ 0 ≤ 1048576 ∧ (sameT (fun j => f (o1 - o1 + j)) (fun j => g (o2 - o2 + j)) 0 (fun _ => 0) (N + 16 - 16) (flB (seF (fun j => f (o1 - o1 + j)) (fun j => g (o2 - o2 + j)) N (fun j => b (o3 - o3 + j)) 0 (fun j => q (o4 - o4 + j))) j e)) ∧ wrapI ((Int.ofNat d).tdiv 8) = Int.ofNat j ∧ (!ilt (Int.ofNat j) (Int.ofNat N)) = false ∧ 0 ≤ Int.ofNat N ∧ Int.ofNat N < ((N + 16 + 1 : Nat) : Int) ∧ N + 16 ≤ N + 16 ∧ o1 ≤ o1 ∧ o1 - o1 + 32 ≤ 32 ∧ 32 ≤ c1 ∧ o2 ≤ o2 ∧ o2 - o2 + 12 ≤ 12 ∧ 12 ≤ c2 ∧ N ≤ N + 16 ∧ 0 + 0 ≤ 0 ∧ 0 ≤ 0 ∧ 32 = 32 ∧ 12 = 12 ∧ N ≤ 3000 ∧ 0 ≤ 3000 ∧ 0 ≤ Int.ofNat N ∧ Int.ofNat N < ((N + 16 + 1 : Nat) : Int) ∧ N + 16 ≤ N + 16 ∧ N < N + 16 ∧ eqStr 16 (fun s => dgN (seaN (fun j => f (o1 - o1 + j)) (fun j => g (o2 - o2 + j)) 0 (fun _ => 0) N (flB (seF (fun j => f (o1 - o1 + j)) (fun j => g (o2 - o2 + j)) N (fun j => b (o3 - o3 + j)) 0 (fun j => q (o4 - o4 + j))) j e)) (addN 0 s)) (N + 16 - N) (fun s => (seF (fun j => f (o1 - o1 + j)) (fun j => g (o2 - o2 + j)) N (fun j => b (o3 - o3 + j)) 0 (fun j => q (o4 - o4 + j))) (addN N s)) = true ∧ 0 + 16 ≤ 16 ∧ 16 ≤ 16 ∧ N + (N + 16 - N) ≤ N + 16 ∧ endM [0, 1, 2, 3] [wB t1 o1 32 f v1, wB t2 o2 12 g v2, wB t3 o3 N b v3, wB t4 o4 0 q v4] [wB t1 o1 32 f v1, wB t2 o2 12 g v2, wB t3 o3 N b v3, wB t4 o4 0 q v4] (.v1 (.sc (.bo true))) (.v1 (.sc (.bo true)))) ?_ (by kernel_rfl))
  exact ⟨rfl, rfl, ilt_f (i := 2000) (by omega), ilt_f (i := 2000) (by omega), Nat.le_refl _, win_le, kc1, Nat.le_refl _, win_le, kc2, Nat.le_refl _, win_le, kc3, Nat.le_refl _, win_le, kc4, rfl, rfl, Nat.le_trans hN (by decide), Nat.le_trans hK (by decide), wr16 hN, nieq_same, Nat.le_refl _, win_le, kc1, Nat.le_refl _, win_le, kc2, Nat.le_refl _, Nat.le_refl _, win_le, kc4, rfl, rfl, by omega, by omega, Nat.le_trans hK (by decide), same_seal, Nat.le_refl _, win_le, kc1, Nat.le_refl _, win_le, kc2, Nat.le_refl _, win_le, kc3, rfl, rfl, Nat.le_trans hN (by decide), Nat.le_refl _, win_le, kc1, Nat.le_refl _, win_le, kc2, by omega, Nat.le_refl _, rfl, rfl, Nat.le_trans hN (by decide), back_text rfl, by omega, Nat.le_refl _, Nat.le_refl _, win_le, kc3, back_stream, by omega, Nat.le_refl _, Nat.le_refl _, win_le, kc3, wr8 hN hK, by omega, congrArg Int.ofNat hd, Nat.le_refl _, Nat.le_trans (show N + 16 ≤ 3000 by omega) (by decide), Nat.le_refl _, win_le, kc4, wr8' hN, ilt_t (by omega), wrD hd6 hj, wrD hd6 hj, Int.natCast_nonneg _, lt_ofNat hjs, hjs, wrM he, Int.natCast_nonneg _, Int.natCast_nonneg _, lt_ofNat hjs, hjs, Nat.le_refl _, win_le, kc1, Nat.le_refl _, win_le, kc2, Nat.le_refl _, Nat.le_refl _, Nat.le_refl _, rfl, rfl, by omega, by omega, Nat.le_trans hK (by decide), hS, wrD hd6 hj, nilt_f hjn, Int.natCast_nonneg _, lt_ofNat (by omega), Nat.le_refl _, Nat.le_refl _, win_le, kc1, Nat.le_refl _, win_le, kc2, by omega, Nat.le_refl _, Nat.le_refl _, rfl, rfl, Nat.le_trans hN (by decide), Nat.le_trans hK (by decide), Int.natCast_nonneg _, lt_ofNat (by omega), Nat.le_refl _, by omega, tags_same (by omega) (fun t ht => flB_ne (by omega)) hS, Nat.le_refl _, Nat.le_refl _, by omega, endM_same rfl rfl⟩
theorem backA_w01 {t1 o1 c1 t2 o2 c2 t3 o3 c3 N t4 o4 c4 d j e : Nat} {x : Int} {f g b q : Nat → Nat} {v1 v2 v3 v4 : WrapV} (kc1 : 32 ≤ c1) (kc2 : 12 ≤ c2) (kc3 : N ≤ c3) (kc4 : 0 ≤ c4) (hN : N ≤ 2000) (hK : 0 ≤ 2000)
    (hd : pkN x (8 * (N + 0) + 127 + 1) = d) (hj : d / 8 = j) (he : d % 8 = e) (hjs : j < N + 16) (hjn : j < N) (hS : ¬ sameT (fun j => f (o1 - o1 + j)) (fun j => g (o2 - o2 + j)) 0 (fun _ => 0) N (flB (seF (fun j => f (o1 - o1 + j)) (fun j => g (o2 - o2 + j)) N (fun j => b (o3 - o3 + j)) 0 (fun j => q (o4 - o4 + j))) j e)) : AWqS Try.prog (Dm [wB t1 o1 32 f v1, wB t2 o2 12 g v2, wB t3 o3 N b v3, wB t4 o4 0 q v4]) (flatC (bodyOf Try.f6)) (fun e s => FEndM tt Try.f6 (upto 0 ([wB t1 o1 32 f v1, wB t2 o2 12 g v2, wB t3 o3 N b v3, wB t4 o4 0 q v4] : Heap).length) (.v1 (.sc (.bo true))) [wB t1 o1 32 f v1, wB t2 o2 12 g v2, wB t3 o3 N b v3, wB t4 o4 0 q v4] e s) ⟨frame0 [.v1 (.sc (.sl 0 o1 32 c1)), .v1 (.sc (.sl 1 o2 12 c2)), .v1 (.sc (.sl 2 o3 N c3)), .v1 (.sc (.sl 3 o4 0 c4)), iv x] Try.f6.ntmps, [wB t1 o1 32 f v1, wB t2 o2 12 g v2, wB t3 o3 N b v3, wB t4 o4 0 q v4]⟩ := by
  have hd6 : d < 1000000 := by have := pkN_lt (x := x) (m := 8 * (N + 0) + 127 + 1) (by omega); omega
  refine evS_q mixed tt_ok (gCb_ok 1) 300 [⟨2,2,.lit (.bo false)⟩,⟨2,6,.lit (.bo false)⟩,⟨2,11,.lit (.bo false)⟩,⟨2,16,.lit (.bo false)⟩,⟨5,7,.lit (.it (Int.ofNat (N + 16)))⟩,⟨5,8,.lit (.bo false)⟩,⟨10,5,.lit (.bo true)⟩,⟨10,19,.lit (.bo true)⟩,⟨12,6,.lit (.it (Int.ofNat (8 * (N + 0) + 127 + 1)))⟩,⟨12,8,.lit (.it (Int.ofNat d))⟩,⟨14,3,.lit (.it (Int.ofNat (8 * (N + 16))))⟩,⟨14,4,.lit (.bo true)⟩,⟨15,2,.lit (.it (Int.ofNat j))⟩,⟨15,5,.lit (.it (Int.ofNat j))⟩,⟨15,6,.sym⟩,⟨15,7,.sym⟩,⟨15,9,.lit (.it (Int.ofNat e))⟩,⟨15,10,.sym⟩,⟨15,12,.sym⟩,⟨15,13,.sym⟩,⟨18,1,.lit (.it (Int.ofNat j))⟩,⟨18,4,.lit (.bo false)⟩,⟨18,7,.lit (.it (Int.ofNat j))⟩,⟨18,10,.lit (.bo true)⟩,⟨20,5,.sym⟩,⟨21,11,.sym⟩,⟨21,12,.lit (.bo false)⟩] (same (p := (!ieq (Int.ofNat 32) (Int.ofNat 32)) = false ∧ (!ieq (Int.ofNat 12) (Int.ofNat 12)) = false ∧ ilt 2000 (Int.ofNat N) = false ∧ ilt 2000 (Int.ofNat 0) = false ∧ o1 ≤ o1 ∧ o1 - o1 + 32 ≤ 32 ∧ 32 ≤ c1 ∧ o2 ≤ o2 ∧ o2 - o2 + 12 ≤ 12 ∧ 12 ≤ c2 ∧ o3 ≤ o3 ∧ o3 - o3 + N ≤ N ∧ N ≤ c3 ∧ o4 ≤ o4 ∧ o4 - o4 + 0 ≤ 0 ∧ 0 ≤ c4 ∧ 32 = 32 ∧ 12 = 12 ∧ N ≤ 1048576 ∧ 0 ≤ 1048576 ∧ wrapI (Int.ofNat N + 16) = Int.ofNat (N + 16) ∧ (!ieq (Int.ofNat (N + 16)) (Int.ofNat (N + 16))) = false ∧ o1 ≤ o1 ∧ o1 - o1 + 32 ≤ 32 ∧ 32 ≤ c1 ∧ o2 ≤ o2 ∧ o2 - o2 + 12 ≤ 12 ∧ 12 ≤ c2 ∧ N + 16 ≤ N + 16 ∧ o4 ≤ o4 ∧ o4 - o4 + 0 ≤ 0 ∧ 0 ≤ c4 ∧ 32 = 32 ∧ 12 = 12 ∧ 16 ≤ N + 16 ∧ N + 16 ≤ 1048592 ∧ 0 ≤ 1048576 ∧ sameT (fun j => f (o1 - o1 + j)) (fun j => g (o2 - o2 + j)) 0 (fun j => q (o4 - o4 + j)) (N + 16 - 16) (seF (fun j => f (o1 - o1 + j)) (fun j => g (o2 - o2 + j)) N (fun j => b (o3 - o3 + j)) 0 (fun j => q (o4 - o4 + j))) ∧ o1 ≤ o1 ∧ o1 - o1 + 32 ≤ 32 ∧ 32 ≤ c1 ∧ o2 ≤ o2 ∧ o2 - o2 + 12 ≤ 12 ∧ 12 ≤ c2 ∧ o3 ≤ o3 ∧ o3 - o3 + N ≤ N ∧ N ≤ c3 ∧ 32 = 32 ∧ 12 = 12 ∧ N ≤ 1048576 ∧ o1 ≤ o1 ∧ o1 - o1 + 32 ≤ 32 ∧ 32 ≤ c1 ∧ o2 ≤ o2 ∧ o2 - o2 + 12 ≤ 12 ∧ 12 ≤ c2 ∧ 0 + N ≤ N ∧ N ≤ N ∧ 32 = 32 ∧ 12 = 12 ∧ N ≤ 1048576 ∧ eqStr (N + 16 - 16) (fun j => stF (fun j => f (o1 - o1 + j)) (fun j => g (o2 - o2 + j)) 1 (seF (fun j => f (o1 - o1 + j)) (fun j => g (o2 - o2 + j)) N (fun j => b (o3 - o3 + j)) 0 (fun j => q (o4 - o4 + j))) (addN 0 j)) N (fun j => b (o3 - o3 + j)) = true ∧ 0 + (N + 16 - 16) ≤ N + 16 - 16 ∧ N + 16 - 16 ≤ N + 16 - 16 ∧ o3 ≤ o3 ∧ o3 - o3 + N ≤ N ∧ N ≤ c3 ∧ eqStr N (fun j => stF (fun j => f (o1 - o1 + j)) (fun j => g (o2 - o2 + j)) 7 (fun j => stF (fun j => f (o1 - o1 + j)) (fun j => g (o2 - o2 + j)) 7 (fun j => b (o3 - o3 + j)) (addN 0 j)) (addN 0 j)) N (fun j => b (o3 - o3 + j)) = true ∧ 0 + N ≤ N ∧ N ≤ N ∧ o3 ≤ o3 ∧ o3 - o3 + N ≤ N ∧ N ≤ c3 ∧ wrapI (8 * wrapI (Int.ofNat (N + 16) + Int.ofNat 0)) = Int.ofNat (8 * (N + 0) + 127 + 1) ∧ 8 * (N + 0) + 127 + 1 < 1000000 ∧ Int.ofNat (pkN x (8 * (N + 0) + 127 + 1)) = Int.ofNat d ∧ N + 16 ≤ N + 16 ∧ N + 16 ≤ limN ∧ o4 ≤ o4 ∧ o4 - o4 + 0 ≤ 0 ∧ 0 ≤ c4 ∧ wrapI (8 * Int.ofNat (N + 16)) = Int.ofNat (8 * (N + 16)) ∧ ilt (Int.ofNat d) (Int.ofNat (8 * (N + 16))) = true ∧ wrapI ((Int.ofNat d).tdiv 8) = Int.ofNat j ∧ wrapI ((Int.ofNat d).tdiv 8) = Int.ofNat j ∧ 0 ≤ Int.ofNat j ∧ Int.ofNat j < ((N + 16 : Nat) : Int) ∧ j < N + 16 ∧ (Int.ofNat d).tmod 8 = Int.ofNat e ∧ 0 ≤ Int.ofNat e ∧ 0 ≤ Int.ofNat j ∧ Int.ofNat j < ((N + 16 : Nat) : Int) ∧ j < N + 16 ∧ o1 ≤ o1 ∧ o1 - o1 + 32 ≤ 32 ∧ 32 ≤ c1 ∧ o2 ≤ o2 ∧ o2 - o2 + 12 ≤ 12 ∧ 12 ≤ c2 ∧ N + 16 ≤ N + 16 ∧ 0 + 0 ≤ 0 ∧ 0 ≤ 0 ∧ 32 = 32 ∧ 12 = 12 ∧ 16 ≤ N + 16 ∧ N + 16 ≤ 1048592 ∧ 0 ≤ 1048576 ∧ (¬ sameT (fun j => f (o1 - o1 + j)) (fun j => g (o2 - o2 + j)) 0 (fun _ => 0) (N + 16 - 16) (flB (seF (fun j => f (o1 - o1 + j)) (fun j => g (o2 - o2 + j)) N (fun j => b (o3 - o3 + j)) 0 (fun j => q (o4 - o4 + j))) j e)) ∧ wrapI ((Int.ofNat d).tdiv 8) = Int.ofNat j ∧ (!ilt (Int.ofNat j) (Int.ofNat N)) = false ∧ 0 ≤ Int.ofNat N ∧ Int.ofNat N < ((N + 16 + 1 : Nat) : Int) ∧ N + 16 ≤ N + 16 ∧ o1 ≤ o1 ∧ o1 - o1 + 32 ≤ 32 ∧ 32 ≤ c1 ∧ o2 ≤ o2 ∧ o2 - o2 + 12 ≤ 12 ∧ 12 ≤ c2 ∧ N ≤ N + 16 ∧ 0 + 0 ≤ 0 ∧ 0 ≤ 0 ∧ 32 = 32 ∧ 12 = 12 ∧ N ≤ 3000 ∧ 0 ≤ 3000 ∧ 0 ≤ Int.ofNat N ∧ Int.ofNat N < ((N + 16 + 1 : Nat) : Int) ∧ N + 16 ≤ N + 16 ∧ N < N + 16 ∧ eqStr 16 (fun s => dgN (seaN (fun j => f (o1 - o1 + j)) (fun j => g (o2 - o2 + j)) 0 (fun _ => 0) N (flB (seF (fun j => f (o1 - o1 + j)) (fun j => g (o2 - o2 + j)) N (fun j => b (o3 - o3 + j)) 0 (fun j => q (o4 - o4 + j))) j e)) (addN 0 s)) (N + 16 - N) (fun s => (seF (fun j => f (o1 - o1 + j)) (fun j => g (o2 - o2 + j)) N (fun j => b (o3 - o3 + j)) 0 (fun j => q (o4 - o4 + j))) (addN N s)) = false ∧ 0 + 16 ≤ 16 ∧ 16 ≤ 16 ∧ N + (N + 16 - N) ≤ N + 16 ∧ endM [0, 1, 2, 3] [wB t1 o1 32 f v1, wB t2 o2 12 g v2, wB t3 o3 N b v3, wB t4 o4 0 q v4] [wB t1 o1 32 f v1, wB t2 o2 12 g v2, wB t3 o3 N b v3, wB t4 o4 0 q v4] (.v1 (.sc (.bo true))) (.v1 (.sc (.bo true)))) ?_ (by kernel_rfl))
  exact ⟨rfl, rfl, ilt_f (i := 2000) (by omega), ilt_f (i := 2000) (by omega), Nat.le_refl _, win_le, kc1, Nat.le_refl _, win_le, kc2, Nat.le_refl _, win_le, kc3, Nat.le_refl _, win_le, kc4, rfl, rfl, Nat.le_trans hN (by decide), Nat.le_trans hK (by decide), wr16 hN, nieq_same, Nat.le_refl _, win_le, kc1, Nat.le_refl _, win_le, kc2, Nat.le_refl _, Nat.le_refl _, win_le, kc4, rfl, rfl, by omega, by omega, Nat.le_trans hK (by decide), same_seal, Nat.le_refl _, win_le, kc1, Nat.le_refl _, win_le, kc2, Nat.le_refl _, win_le, kc3, rfl, rfl, Nat.le_trans hN (by decide), Nat.le_refl _, win_le, kc1, Nat.le_refl _, win_le, kc2, by omega, Nat.le_refl _, rfl, rfl, Nat.le_trans hN (by decide), back_text rfl, by omega, Nat.le_refl _, Nat.le_refl _, win_le, kc3, back_stream, by omega, Nat.le_refl _, Nat.le_refl _, win_le, kc3, wr8 hN hK, by omega, congrArg Int.ofNat hd, Nat.le_refl _, Nat.le_trans (show N + 16 ≤ 3000 by omega) (by decide), Nat.le_refl _, win_le, kc4, wr8' hN, ilt_t (by omega), wrD hd6 hj, wrD hd6 hj, Int.natCast_nonneg _, lt_ofNat hjs, hjs, wrM he, Int.natCast_nonneg _, Int.natCast_nonneg _, lt_ofNat hjs, hjs, Nat.le_refl _, win_le, kc1, Nat.le_refl _, win_le, kc2, Nat.le_refl _, Nat.le_refl _, Nat.le_refl _, rfl, rfl, by omega, by omega, Nat.le_trans hK (by decide), hS, wrD hd6 hj, nilt_f hjn, Int.natCast_nonneg _, lt_ofNat (by omega), Nat.le_refl _, Nat.le_refl _, win_le, kc1, Nat.le_refl _, win_le, kc2, by omega, Nat.le_refl _, Nat.le_refl _, rfl, rfl, Nat.le_trans hN (by decide), Nat.le_trans hK (by decide), Int.natCast_nonneg _, lt_ofNat (by omega), Nat.le_refl _, by omega, tags_unlike (by omega) (fun t ht => flB_ne (by omega)) hS, Nat.le_refl _, Nat.le_refl _, by omega, endM_same rfl rfl⟩
theorem backA_ww0 {t1 o1 c1 t2 o2 c2 t3 o3 c3 N t4 o4 c4 k d j e : Nat} {x : Int} {f g b q : Nat → Nat} {v1 v2 v3 v4 : WrapV} (kc1 : 32 ≤ c1) (kc2 : 12 ≤ c2) (kc3 : N ≤ c3) (kc4 : (k + 1) ≤ c4) (hN : N ≤ 2000) (hK : (k + 1) ≤ 2000)
    (hd : pkN x (8 * (N + (k + 1)) + 127 + 1) = d) (hj : d / 8 = j) (he : d % 8 = e) (hjs : j < N + 16) (hjn : j < N) (hS : sameT (fun j => f (o1 - o1 + j)) (fun j => g (o2 - o2 + j)) (k + 1) (fun j => q (o4 - o4 + j)) N (flB (seF (fun j => f (o1 - o1 + j)) (fun j => g (o2 - o2 + j)) N (fun j => b (o3 - o3 + j)) (k + 1) (fun j => q (o4 - o4 + j))) j e)) : AWqS Try.prog (Dm [wB t1 o1 32 f v1, wB t2 o2 12 g v2, wB t3 o3 N b v3, wB t4 o4 (k + 1) q v4]) (flatC (bodyOf Try.f6)) (fun e s => FEndM tt Try.f6 (upto 0 ([wB t1 o1 32 f v1, wB t2 o2 12 g v2, wB t3 o3 N b v3, wB t4 o4 (k + 1) q v4] : Heap).length) (.v1 (.sc (.bo true))) [wB t1 o1 32 f v1, wB t2 o2 12 g v2, wB t3 o3 N b v3, wB t4 o4 (k + 1) q v4] e s) ⟨frame0 [.v1 (.sc (.sl 0 o1 32 c1)), .v1 (.sc (.sl 1 o2 12 c2)), .v1 (.sc (.sl 2 o3 N c3)), .v1 (.sc (.sl 3 o4 (k + 1) c4)), iv x] Try.f6.ntmps, [wB t1 o1 32 f v1, wB t2 o2 12 g v2, wB t3 o3 N b v3, wB t4 o4 (k + 1) q v4]⟩ := by
  have hd6 : d < 1000000 := by have := pkN_lt (x := x) (m := 8 * (N + (k + 1)) + 127 + 1) (by omega); omega
  refine evS_q mixed tt_ok (gCb_ok 0) 300 [⟨2,2,.lit (.bo false)⟩,⟨2,6,.lit (.bo false)⟩,⟨2,11,.lit (.bo false)⟩,⟨2,16,.lit (.bo false)⟩,⟨5,7,.lit (.it (Int.ofNat (N + 16)))⟩,⟨5,8,.lit (.bo false)⟩,⟨10,5,.lit (.bo true)⟩,⟨10,19,.lit (.bo true)⟩,⟨12,6,.lit (.it (Int.ofNat (8 * (N + (k + 1)) + 127 + 1)))⟩,⟨12,8,.lit (.it (Int.ofNat d))⟩,⟨14,3,.lit (.it (Int.ofNat (8 * (N + 16))))⟩,⟨14,4,.lit (.bo true)⟩,⟨15,2,.lit (.it (Int.ofNat j))⟩,⟨15,5,.lit (.it (Int.ofNat j))⟩,⟨15,6,.sym⟩,⟨15,7,.sym⟩,⟨15,9,.lit (.it (Int.ofNat e))⟩,⟨15,10,.sym⟩,⟨15,12,.sym⟩,⟨15,13,.sym⟩,⟨18,1,.lit (.it (Int.ofNat j))⟩,⟨18,4,.lit (.bo false)⟩,⟨18,7,.lit (.it (Int.ofNat j))⟩,⟨18,10,.lit (.bo true)⟩,⟨20,5,.sym⟩,⟨21,11,.sym⟩,⟨21,12,.lit (.bo true)⟩] (same (p := (!ieq (Int.ofNat 32) (Int.ofNat 32)) = false ∧ (!ieq (Int.ofNat 12) (Int.ofNat 12)) = false ∧ ilt 2000 (Int.ofNat N) = false ∧ ilt 2000 (Int.ofNat (k + 1)) = false ∧ o1 ≤ o1 ∧ o1 - o1 + 32 ≤ 32 ∧ 32 ≤ c1 ∧ o2 ≤ o2 ∧ o2 - o2 + 12 ≤ 12 ∧ 12 ≤ c2 ∧ o3 ≤ o3 ∧ o3 - o3 + N ≤ N ∧ N ≤ c3 ∧ o4 ≤ o4 ∧ o4 - o4 + (k + 1) ≤ (k + 1) ∧ (k + 1) ≤ c4 ∧ 32 = 32 ∧ 12 = 12 ∧ N ≤ 1048576 ∧ (k + 1) ≤ 1048576 ∧ wrapI (Int.ofNat N + 16) = Int.ofNat (N + 16) ∧ (!ieq (Int.ofNat (N + 16)) (Int.ofNat (N + 16))) = false ∧ o1 ≤ o1 ∧ o1 - o1 + 32 ≤ 32 ∧ 32 ≤ c1 ∧ o2 ≤ o2 ∧ o2 - o2 + 12 ≤ 12 ∧ 12 ≤ c2 ∧ N + 16 ≤ N + 16 ∧ o4 ≤ o4 ∧ o4 - o4 + (k + 1) ≤ (k + 1) ∧ (k + 1) ≤ c4 ∧ 32 = 32 ∧ 12 = 12 ∧ 16 ≤ N + 16 ∧ N + 16 ≤ 1048592 ∧ (k + 1) ≤ 1048576 ∧ sameT (fun j => f (o1 - o1 + j)) (fun j => g (o2 - o2 + j)) (k + 1) (fun j => q (o4 - o4 + j)) (N + 16 - 16) (seF (fun j => f (o1 - o1 + j)) (fun j => g (o2 - o2 + j)) N (fun j => b (o3 - o3 + j)) (k + 1) (fun j => q (o4 - o4 + j))) ∧ o1 ≤ o1 ∧ o1 - o1 + 32 ≤ 32 ∧ 32 ≤ c1 ∧ o2 ≤ o2 ∧ o2 - o2 + 12 ≤ 12 ∧ 12 ≤ c2 ∧ o3 ≤ o3 ∧ o3 - o3 + N ≤ N ∧ N ≤ c3 ∧ 32 = 32 ∧ 12 = 12 ∧ N ≤ 1048576 ∧ o1 ≤ o1 ∧ o1 - o1 + 32 ≤ 32 ∧ 32 ≤ c1 ∧ o2 ≤ o2 ∧ o2 - o2 + 12 ≤ 12 ∧ 12 ≤ c2 ∧ 0 + N ≤ N ∧ N ≤ N ∧ 32 = 32 ∧ 12 = 12 ∧ N ≤ 1048576 ∧ eqStr (N + 16 - 16) (fun j => stF (fun j => f (o1 - o1 + j)) (fun j => g (o2 - o2 + j)) 1 (seF (fun j => f (o1 - o1 + j)) (fun j => g (o2 - o2 + j)) N (fun j => b (o3 - o3 + j)) (k + 1) (fun j => q (o4 - o4 + j))) (addN 0 j)) N (fun j => b (o3 - o3 + j)) = true ∧ 0 + (N + 16 - 16) ≤ N + 16 - 16 ∧ N + 16 - 16 ≤ N + 16 - 16 ∧ o3 ≤ o3 ∧ o3 - o3 + N ≤ N ∧ N ≤ c3 ∧ eqStr N (fun j => stF (fun j => f (o1 - o1 + j)) (fun j => g (o2 - o2 + j)) 7 (fun j => stF (fun j => f (o1 - o1 + j)) (fun j => g (o2 - o2 + j)) 7 (fun j => b (o3 - o3 + j)) (addN 0 j)) (addN 0 j)) N (fun j => b (o3 - o3 + j)) = true ∧ 0 + N ≤ N ∧ N ≤ N ∧ o3 ≤ o3 ∧ o3 - o3 + N ≤ N ∧ N ≤ c3 ∧ wrapI (8 * wrapI (Int.ofNat (N + 16) + Int.ofNat (k + 1))) = Int.ofNat (8 * (N + (k + 1)) + 127 + 1) ∧ 8 * (N + (k + 1)) + 127 + 1 < 1000000 ∧ Int.ofNat (pkN x (8 * (N + (k + 1)) + 127 + 1)) = Int.ofNat d ∧ N + 16 ≤ N + 16 ∧ N + 16 ≤ limN ∧ o4 ≤ o4 ∧ o4 - o4 + (k + 1) ≤ (k + 1) ∧ (k + 1) ≤ c4 ∧ k + 1 ≤ limN ∧ wrapI (8 * Int.ofNat (N + 16)) = Int.ofNat (8 * (N + 16)) ∧ ilt (Int.ofNat d) (Int.ofNat (8 * (N + 16))) = true ∧ wrapI ((Int.ofNat d).tdiv 8) = Int.ofNat j ∧ wrapI ((Int.ofNat d).tdiv 8) = Int.ofNat j ∧ 0 ≤ Int.ofNat j ∧ Int.ofNat j < ((N + 16 : Nat) : Int) ∧ j < N + 16 ∧ (Int.ofNat d).tmod 8 = Int.ofNat e ∧ 0 ≤ Int.ofNat e ∧ 0 ≤ Int.ofNat j ∧ Int.ofNat j < ((N + 16 : Nat) : Int) ∧ j < N + 16 ∧ o1 ≤ o1 ∧ o1 - o1 + 32 ≤ 32 ∧ 32 ≤ c1 ∧ o2 ≤ o2 ∧ o2 - o2 + 12 ≤ 12 ∧ 12 ≤ c2 ∧ N + 16 ≤ N + 16 ∧ k + 1 ≤ k + 1 ∧ 32 = 32 ∧ 12 = 12 ∧ 16 ≤ N + 16 ∧ N + 16 ≤ 1048592 ∧ (k + 1) ≤ 1048576 ∧ (sameT (fun j => f (o1 - o1 + j)) (fun j => g (o2 - o2 + j)) (k + 1) (fun j => q (o4 - o4 + j)) (N + 16 - 16) (flB (seF (fun j => f (o1 - o1 + j)) (fun j => g (o2 - o2 + j)) N (fun j => b (o3 - o3 + j)) (k + 1) (fun j => q (o4 - o4 + j))) j e)) ∧ wrapI ((Int.ofNat d).tdiv 8) = Int.ofNat j ∧ (!ilt (Int.ofNat j) (Int.ofNat N)) = false ∧ 0 ≤ Int.ofNat N ∧ Int.ofNat N < ((N + 16 + 1 : Nat) : Int) ∧ N + 16 ≤ N + 16 ∧ o1 ≤ o1 ∧ o1 - o1 + 32 ≤ 32 ∧ 32 ≤ c1 ∧ o2 ≤ o2 ∧ o2 - o2 + 12 ≤ 12 ∧ 12 ≤ c2 ∧ N ≤ N + 16 ∧ k + 1 ≤ k + 1 ∧ 32 = 32 ∧ 12 = 12 ∧ N ≤ 3000 ∧ (k + 1) ≤ 3000 ∧ 0 ≤ Int.ofNat N ∧ Int.ofNat N < ((N + 16 + 1 : Nat) : Int) ∧ N + 16 ≤ N + 16 ∧ N < N + 16 ∧ eqStr 16 (fun s => dgN (seaN (fun j => f (o1 - o1 + j)) (fun j => g (o2 - o2 + j)) (k + 1) (fun j => q (o4 - o4 + j)) N (flB (seF (fun j => f (o1 - o1 + j)) (fun j => g (o2 - o2 + j)) N (fun j => b (o3 - o3 + j)) (k + 1) (fun j => q (o4 - o4 + j))) j e)) (addN 0 s)) (N + 16 - N) (fun s => (seF (fun j => f (o1 - o1 + j)) (fun j => g (o2 - o2 + j)) N (fun j => b (o3 - o3 + j)) (k + 1) (fun j => q (o4 - o4 + j))) (addN N s)) = true ∧ 0 + 16 ≤ 16 ∧ 16 ≤ 16 ∧ N + (N + 16 - N) ≤ N + 16 ∧ endM [0, 1, 2, 3] [wB t1 o1 32 f v1, wB t2 o2 12 g v2, wB t3 o3 N b v3, wB t4 o4 (k + 1) q v4] [wB t1 o1 32 f v1, wB t2 o2 12 g v2, wB t3 o3 N b v3, wB t4 o4 (k + 1) q v4] (.v1 (.sc (.bo true))) (.v1 (.sc (.bo true)))) ?_ (by kernel_rfl))
  exact ⟨rfl, rfl, ilt_f (i := 2000) (by omega), ilt_f (i := 2000) (by omega), Nat.le_refl _, win_le, kc1, Nat.le_refl _, win_le, kc2, Nat.le_refl _, win_le, kc3, Nat.le_refl _, win_le, kc4, rfl, rfl, Nat.le_trans hN (by decide), Nat.le_trans hK (by decide), wr16 hN, nieq_same, Nat.le_refl _, win_le, kc1, Nat.le_refl _, win_le, kc2, Nat.le_refl _, Nat.le_refl _, win_le, kc4, rfl, rfl, by omega, by omega, Nat.le_trans hK (by decide), same_seal, Nat.le_refl _, win_le, kc1, Nat.le_refl _, win_le, kc2, Nat.le_refl _, win_le, kc3, rfl, rfl, Nat.le_trans hN (by decide), Nat.le_refl _, win_le, kc1, Nat.le_refl _, win_le, kc2, by omega, Nat.le_refl _, rfl, rfl, Nat.le_trans hN (by decide), back_text rfl, by omega, Nat.le_refl _, Nat.le_refl _, win_le, kc3, back_stream, by omega, Nat.le_refl _, Nat.le_refl _, win_le, kc3, wr8 hN hK, by omega, congrArg Int.ofNat hd, Nat.le_refl _, Nat.le_trans (show N + 16 ≤ 3000 by omega) (by decide), Nat.le_refl _, win_le, kc4, Nat.le_trans hK (by decide), wr8' hN, ilt_t (by omega), wrD hd6 hj, wrD hd6 hj, Int.natCast_nonneg _, lt_ofNat hjs, hjs, wrM he, Int.natCast_nonneg _, Int.natCast_nonneg _, lt_ofNat hjs, hjs, Nat.le_refl _, win_le, kc1, Nat.le_refl _, win_le, kc2, Nat.le_refl _, Nat.le_refl _, rfl, rfl, by omega, by omega, Nat.le_trans hK (by decide), hS, wrD hd6 hj, nilt_f hjn, Int.natCast_nonneg _, lt_ofNat (by omega), Nat.le_refl _, Nat.le_refl _, win_le, kc1, Nat.le_refl _, win_le, kc2, by omega, Nat.le_refl _, rfl, rfl, Nat.le_trans hN (by decide), Nat.le_trans hK (by decide), Int.natCast_nonneg _, lt_ofNat (by omega), Nat.le_refl _, by omega, tags_same (by omega) (fun t ht => flB_ne (by omega)) hS, Nat.le_refl _, Nat.le_refl _, by omega, endM_same rfl rfl⟩
theorem backA_ww1 {t1 o1 c1 t2 o2 c2 t3 o3 c3 N t4 o4 c4 k d j e : Nat} {x : Int} {f g b q : Nat → Nat} {v1 v2 v3 v4 : WrapV} (kc1 : 32 ≤ c1) (kc2 : 12 ≤ c2) (kc3 : N ≤ c3) (kc4 : (k + 1) ≤ c4) (hN : N ≤ 2000) (hK : (k + 1) ≤ 2000)
    (hd : pkN x (8 * (N + (k + 1)) + 127 + 1) = d) (hj : d / 8 = j) (he : d % 8 = e) (hjs : j < N + 16) (hjn : j < N) (hS : ¬ sameT (fun j => f (o1 - o1 + j)) (fun j => g (o2 - o2 + j)) (k + 1) (fun j => q (o4 - o4 + j)) N (flB (seF (fun j => f (o1 - o1 + j)) (fun j => g (o2 - o2 + j)) N (fun j => b (o3 - o3 + j)) (k + 1) (fun j => q (o4 - o4 + j))) j e)) : AWqS Try.prog (Dm [wB t1 o1 32 f v1, wB t2 o2 12 g v2, wB t3 o3 N b v3, wB t4 o4 (k + 1) q v4]) (flatC (bodyOf Try.f6)) (fun e s => FEndM tt Try.f6 (upto 0 ([wB t1 o1 32 f v1, wB t2 o2 12 g v2, wB t3 o3 N b v3, wB t4 o4 (k + 1) q v4] : Heap).length) (.v1 (.sc (.bo true))) [wB t1 o1 32 f v1, wB t2 o2 12 g v2, wB t3 o3 N b v3, wB t4 o4 (k + 1) q v4] e s) ⟨frame0 [.v1 (.sc (.sl 0 o1 32 c1)), .v1 (.sc (.sl 1 o2 12 c2)), .v1 (.sc (.sl 2 o3 N c3)), .v1 (.sc (.sl 3 o4 (k + 1) c4)), iv x] Try.f6.ntmps, [wB t1 o1 32 f v1, wB t2 o2 12 g v2, wB t3 o3 N b v3, wB t4 o4 (k + 1) q v4]⟩ := by
  have hd6 : d < 1000000 := by have := pkN_lt (x := x) (m := 8 * (N + (k + 1)) + 127 + 1) (by omega); omega
  refine evS_q mixed tt_ok (gCb_ok 1) 300 [⟨2,2,.lit (.bo false)⟩,⟨2,6,.lit (.bo false)⟩,⟨2,11,.lit (.bo false)⟩,⟨2,16,.lit (.bo false)⟩,⟨5,7,.lit (.it (Int.ofNat (N + 16)))⟩,⟨5,8,.lit (.bo false)⟩,⟨10,5,.lit (.bo true)⟩,⟨10,19,.lit (.bo true)⟩,⟨12,6,.lit (.it (Int.ofNat (8 * (N + (k + 1)) + 127 + 1)))⟩,⟨12,8,.lit (.it (Int.ofNat d))⟩,⟨14,3,.lit (.it (Int.ofNat (8 * (N + 16))))⟩,⟨14,4,.lit (.bo true)⟩,⟨15,2,.lit (.it (Int.ofNat j))⟩,⟨15,5,.lit (.it (Int.ofNat j))⟩,⟨15,6,.sym⟩,⟨15,7,.sym⟩,⟨15,9,.lit (.it (Int.ofNat e))⟩,⟨15,10,.sym⟩,⟨15,12,.sym⟩,⟨15,13,.sym⟩,⟨18,1,.lit (.it (Int.ofNat j))⟩,⟨18,4,.lit (.bo false)⟩,⟨18,7,.lit (.it (Int.ofNat j))⟩,⟨18,10,.lit (.bo true)⟩,⟨20,5,.sym⟩,⟨21,11,.sym⟩,⟨21,12,.lit (.bo false)⟩] (same (p := (!ieq (Int.ofNat 32) (Int.ofNat 32)) = false ∧ (!ieq (Int.ofNat 12) (Int.ofNat 12)) = false ∧ ilt 2000 (Int.ofNat N) = false ∧ ilt 2000 (Int.ofNat (k + 1)) = false ∧ o1 ≤ o1 ∧ o1 - o1 + 32 ≤ 32 ∧ 32 ≤ c1 ∧ o2 ≤ o2 ∧ o2 - o2 + 12 ≤ 12 ∧ 12 ≤ c2 ∧ o3 ≤ o3 ∧ o3 - o3 + N ≤ N ∧ N ≤ c3 ∧ o4 ≤ o4 ∧ o4 - o4 + (k + 1) ≤ (k + 1) ∧ (k + 1) ≤ c4 ∧ 32 = 32 ∧ 12 = 12 ∧ N ≤ 1048576 ∧ (k + 1) ≤ 1048576 ∧ wrapI (Int.ofNat N + 16) = Int.ofNat (N + 16) ∧ (!ieq (Int.ofNat (N + 16)) (Int.ofNat (N + 16))) = false ∧ o1 ≤ o1 ∧ o1 - o1 + 32 ≤ 32 ∧ 32 ≤ c1 ∧ o2 ≤ o2 ∧ o2 - o2 + 12 ≤ 12 ∧ 12 ≤ c2 ∧ N + 16 ≤ N + 16 ∧ o4 ≤ o4 ∧ o4 - o4 + (k + 1) ≤ (k + 1) ∧ (k + 1) ≤ c4 ∧ 32 = 32 ∧ 12 = 12 ∧ 16 ≤ N + 16 ∧ N + 16 ≤ 1048592 ∧ (k + 1) ≤ 1048576 ∧ sameT (fun j => f (o1 - o1 + j)) (fun j => g (o2 - o2 + j)) (k + 1) (fun j => q (o4 - o4 + j)) (N + 16 - 16) (seF (fun j => f (o1 - o1 + j)) (fun j => g (o2 - o2 + j)) N (fun j => b (o3 - o3 + j)) (k + 1) (fun j => q (o4 - o4 + j))) ∧ o1 ≤ o1 ∧ o1 - o1 + 32 ≤ 32 ∧ 32 ≤ c1 ∧ o2 ≤ o2 ∧ o2 - o2 + 12 ≤ 12 ∧ 12 ≤ c2 ∧ o3 ≤ o3 ∧ o3 - o3 + N ≤ N ∧ N ≤ c3 ∧ 32 = 32 ∧ 12 = 12 ∧ N ≤ 1048576 ∧ o1 ≤ o1 ∧ o1 - o1 + 32 ≤ 32 ∧ 32 ≤ c1 ∧ o2 ≤ o2 ∧ o2 - o2 + 12 ≤ 12 ∧ 12 ≤ c2 ∧ 0 + N ≤ N ∧ N ≤ N ∧ 32 = 32 ∧ 12 = 12 ∧ N ≤ 1048576 ∧ eqStr (N + 16 - 16) (fun j => stF (fun j => f (o1 - o1 + j)) (fun j => g (o2 - o2 + j)) 1 (seF (fun j => f (o1 - o1 + j)) (fun j => g (o2 - o2 + j)) N (fun j => b (o3 - o3 + j)) (k + 1) (fun j => q (o4 - o4 + j))) (addN 0 j)) N (fun j => b (o3 - o3 + j)) = true ∧ 0 + (N + 16 - 16) ≤ N + 16 - 16 ∧ N + 16 - 16 ≤ N + 16 - 16 ∧ o3 ≤ o3 ∧ o3 - o3 + N ≤ N ∧ N ≤ c3 ∧ eqStr N (fun j => stF (fun j => f (o1 - o1 + j)) (fun j => g (o2 - o2 + j)) 7 (fun j => stF (fun j => f (o1 - o1 + j)) (fun j => g (o2 - o2 + j)) 7 (fun j => b (o3 - o3 + j)) (addN 0 j)) (addN 0 j)) N (fun j => b (o3 - o3 + j)) = true ∧ 0 + N ≤ N ∧ N ≤ N ∧ o3 ≤ o3 ∧ o3 - o3 + N ≤ N ∧ N ≤ c3 ∧ wrapI (8 * wrapI (Int.ofNat (N + 16) + Int.ofNat (k + 1))) = Int.ofNat (8 * (N + (k + 1)) + 127 + 1) ∧ 8 * (N + (k + 1)) + 127 + 1 < 1000000 ∧ Int.ofNat (pkN x (8 * (N + (k + 1)) + 127 + 1)) = Int.ofNat d ∧ N + 16 ≤ N + 16 ∧ N + 16 ≤ limN ∧ o4 ≤ o4 ∧ o4 - o4 + (k + 1) ≤ (k + 1) ∧ (k + 1) ≤ c4 ∧ k + 1 ≤ limN ∧ wrapI (8 * Int.ofNat (N + 16)) = Int.ofNat (8 * (N + 16)) ∧ ilt (Int.ofNat d) (Int.ofNat (8 * (N + 16))) = true ∧ wrapI ((Int.ofNat d).tdiv 8) = Int.ofNat j ∧ wrapI ((Int.ofNat d).tdiv 8) = Int.ofNat j ∧ 0 ≤ Int.ofNat j ∧ Int.ofNat j < ((N + 16 : Nat) : Int) ∧ j < N + 16 ∧ (Int.ofNat d).tmod 8 = Int.ofNat e ∧ 0 ≤ Int.ofNat e ∧ 0 ≤ Int.ofNat j ∧ Int.ofNat j < ((N + 16 : Nat) : Int) ∧ j < N + 16 ∧ o1 ≤ o1 ∧ o1 - o1 + 32 ≤ 32 ∧ 32 ≤ c1 ∧ o2 ≤ o2 ∧ o2 - o2 + 12 ≤ 12 ∧ 12 ≤ c2 ∧ N + 16 ≤ N + 16 ∧ k + 1 ≤ k + 1 ∧ 32 = 32 ∧ 12 = 12 ∧ 16 ≤ N + 16 ∧ N + 16 ≤ 1048592 ∧ (k + 1) ≤ 1048576 ∧ (¬ sameT (fun j => f (o1 - o1 + j)) (fun j => g (o2 - o2 + j)) (k + 1) (fun j => q (o4 - o4 + j)) (N + 16 - 16) (flB (seF (fun j => f (o1 - o1 + j)) (fun j => g (o2 - o2 + j)) N (fun j => b (o3 - o3 + j)) (k + 1) (fun j => q (o4 - o4 + j))) j e)) ∧ wrapI ((Int.ofNat d).tdiv 8) = Int.ofNat j ∧ (!ilt (Int.ofNat j) (Int.ofNat N)) = false ∧ 0 ≤ Int.ofNat N ∧ Int.ofNat N < ((N + 16 + 1 : Nat) : Int) ∧ N + 16 ≤ N + 16 ∧ o1 ≤ o1 ∧ o1 - o1 + 32 ≤ 32 ∧ 32 ≤ c1 ∧ o2 ≤ o2 ∧ o2 - o2 + 12 ≤ 12 ∧ 12 ≤ c2 ∧ N ≤ N + 16 ∧ k + 1 ≤ k + 1 ∧ 32 = 32 ∧ 12 = 12 ∧ N ≤ 3000 ∧ (k + 1) ≤ 3000 ∧ 0 ≤ Int.ofNat N ∧ Int.ofNat N < ((N + 16 + 1 : Nat) : Int) ∧ N + 16 ≤ N + 16 ∧ N < N + 16 ∧ eqStr 16 (fun s => dgN (seaN (fun j => f (o1 - o1 + j)) (fun j => g (o2 - o2 + j)) (k + 1) (fun j => q (o4 - o4 + j)) N (flB (seF (fun j => f (o1 - o1 + j)) (fun j => g (o2 - o2 + j)) N (fun j => b (o3 - o3 + j)) (k + 1) (fun j => q (o4 - o4 + j))) j e)) (addN 0 s)) (N + 16 - N) (fun s => (seF (fun j => f (o1 - o1 + j)) (fun j => g (o2 - o2 + j)) N (fun j => b (o3 - o3 + j)) (k + 1) (fun j => q (o4 - o4 + j))) (addN N s)) = false ∧ 0 + 16 ≤ 16 ∧ 16 ≤ 16 ∧ N + (N + 16 - N) ≤ N + 16 ∧ endM [0, 1, 2, 3] [wB t1 o1 32 f v1, wB t2 o2 12 g v2, wB t3 o3 N b v3, wB t4 o4 (k + 1) q v4] [wB t1 o1 32 f v1, wB t2 o2 12 g v2, wB t3 o3 N b v3, wB t4 o4 (k + 1) q v4] (.v1 (.sc (.bo true))) (.v1 (.sc (.bo true)))) ?_ (by kernel_rfl))
  exact ⟨rfl, rfl, ilt_f (i := 2000) (by omega), ilt_f (i := 2000) (by omega), Nat.le_refl _, win_le, kc1, Nat.le_refl _, win_le, kc2, Nat.le_refl _, win_le, kc3, Nat.le_refl _, win_le, kc4, rfl, rfl, Nat.le_trans hN (by decide), Nat.le_trans hK (by decide), wr16 hN, nieq_same, Nat.le_refl _, win_le, kc1, Nat.le_refl _, win_le, kc2, Nat.le_refl _, Nat.le_refl _, win_le, kc4, rfl, rfl, by omega, by omega, Nat.le_trans hK (by decide), same_seal, Nat.le_refl _, win_le, kc1, Nat.le_refl _, win_le, kc2, Nat.le_refl _, win_le, kc3, rfl, rfl, Nat.le_trans hN (by decide), Nat.le_refl _, win_le, kc1, Nat.le_refl _, win_le, kc2, by omega, Nat.le_refl _, rfl, rfl, Nat.le_trans hN (by decide), back_text rfl, by omega, Nat.le_refl _, Nat.le_refl _, win_le, kc3, back_stream, by omega, Nat.le_refl _, Nat.le_refl _, win_le, kc3, wr8 hN hK, by omega, congrArg Int.ofNat hd, Nat.le_refl _, Nat.le_trans (show N + 16 ≤ 3000 by omega) (by decide), Nat.le_refl _, win_le, kc4, Nat.le_trans hK (by decide), wr8' hN, ilt_t (by omega), wrD hd6 hj, wrD hd6 hj, Int.natCast_nonneg _, lt_ofNat hjs, hjs, wrM he, Int.natCast_nonneg _, Int.natCast_nonneg _, lt_ofNat hjs, hjs, Nat.le_refl _, win_le, kc1, Nat.le_refl _, win_le, kc2, Nat.le_refl _, Nat.le_refl _, rfl, rfl, by omega, by omega, Nat.le_trans hK (by decide), hS, wrD hd6 hj, nilt_f hjn, Int.natCast_nonneg _, lt_ofNat (by omega), Nat.le_refl _, Nat.le_refl _, win_le, kc1, Nat.le_refl _, win_le, kc2, by omega, Nat.le_refl _, rfl, rfl, Nat.le_trans hN (by decide), Nat.le_trans hK (by decide), Int.natCast_nonneg _, lt_ofNat (by omega), Nat.le_refl _, by omega, tags_unlike (by omega) (fun t ht => flB_ne (by omega)) hS, Nat.le_refl _, Nat.le_refl _, by omega, endM_same rfl rfl⟩
theorem backB_nn1 {t1 o1 c1 t2 o2 c2 d j e : Nat} {x : Int} {f g : Nat → Nat} {v1 v2 : WrapV} {w3 w4 : Option Addr} (kc1 : 32 ≤ c1) (kc2 : 12 ≤ c2) (hN : 0 ≤ 2000) (hK : 0 ≤ 2000)
    (hd : pkN x (8 * (0 + 0) + 127 + 1) = d) (hj : d / 8 = j) (he : d % 8 = e) (hjs : j < 0 + 16) (hjn : 0 ≤ j) (hS : ¬ sameT (fun j => f (o1 - o1 + j)) (fun j => g (o2 - o2 + j)) 0 (fun _ => 0) 0 (flB (seF (fun j => f (o1 - o1 + j)) (fun j => g (o2 - o2 + j)) 0 (fun _ => 0) 0 (fun _ => 0)) j e)) : AWqS Try.prog (Dm [wB t1 o1 32 f v1, wB t2 o2 12 g v2]) (flatC (bodyOf Try.f6)) (fun e s => FEndM tt Try.f6 (upto 0 ([wB t1 o1 32 f v1, wB t2 o2 12 g v2] : Heap).length) (.v1 (.sc (.bo true))) [wB t1 o1 32 f v1, wB t2 o2 12 g v2] e s) ⟨frame0 [.v1 (.sc (.sl 0 o1 32 c1)), .v1 (.sc (.sl 1 o2 12 c2)), emS w3, emS w4, iv x] Try.f6.ntmps, [wB t1 o1 32 f v1, wB t2 o2 12 g v2]⟩ := by
  have hd6 : d < 1000000 := by have := pkN_lt (x := x) (m := 8 * (0 + 0) + 127 + 1) (by omega); omega
  refine evS_q mixed tt_ok (gCb_ok 1) 300 [⟨2,2,.lit (.bo false)⟩,⟨2,6,.lit (.bo false)⟩,⟨2,11,.lit (.bo false)⟩,⟨2,16,.lit (.bo false)⟩,⟨5,7,.lit (.it (Int.ofNat (0 + 16)))⟩,⟨5,8,.lit (.bo false)⟩,⟨10,5,.lit (.bo true)⟩,⟨10,19,.lit (.bo true)⟩,⟨12,6,.lit (.it (Int.ofNat (8 * (0 + 0) + 127 + 1)))⟩,⟨12,8,.lit (.it (Int.ofNat d))⟩,⟨14,3,.lit (.it (Int.ofNat (8 * (0 + 16))))⟩,⟨14,4,.lit (.bo true)⟩,⟨15,2,.lit (.it (Int.ofNat j))⟩,⟨15,5,.lit (.it (Int.ofNat j))⟩,⟨15,6,.sym⟩,⟨15,7,.sym⟩,⟨15,9,.lit (.it (Int.ofNat e))⟩,⟨15,10,.sym⟩,⟨15,12,.sym⟩,⟨15,13,.sym⟩,⟨18,1,.lit (.it (Int.ofNat j))⟩,⟨18,4,.lit (.bo true)⟩,⟨18,7,.lit (.it (Int.ofNat j))⟩,⟨18,10,.lit (.bo true)⟩] (same (p := (!ieq (Int.ofNat 32) (Int.ofNat 32)) = false ∧ (!ieq (Int.ofNat 12) (Int.ofNat 12)) = false ∧ ilt 2000 (Int.ofNat 0) = false ∧ ilt 2000 (Int.ofNat 0) = false ∧ o1 ≤ o1 ∧ o1 - o1 + 32 ≤ 32 ∧ 32 ≤ c1 ∧ o2 ≤ o2 ∧ o2 - o2 + 12 ≤ 12 ∧ 12 ≤ c2 ∧ 32 = 32 ∧ 12 = 12 ∧ 0 ≤ 1048576 ∧ 0 ≤ 1048576 ∧ wrapI (Int.ofNat 0 + 16) = Int.ofNat (0 + 16) ∧ (!ieq (Int.ofNat (0 + 16)) (Int.ofNat (0 + 16))) = false ∧ o1 ≤ o1 ∧ o1 - o1 + 32 ≤ 32 ∧ 32 ≤ c1 ∧ o2 ≤ o2 ∧ o2 - o2 + 12 ≤ 12 ∧ 12 ≤ c2 ∧ 0 + 16 ≤ 0 + 16 ∧ 32 = 32 ∧ 12 = 12 ∧ 16 ≤ 0 + 16 ∧ 0 + 16 ≤ 1048592 ∧ 0 ≤ 1048576 ∧ sameT (fun j => f (o1 - o1 + j)) (fun j => g (o2 - o2 + j)) 0 (fun _ => 0) (0 + 16 - 16) (seF (fun j => f (o1 - o1 + j)) (fun j => g (o2 - o2 + j)) 0 (fun _ => 0) 0 (fun _ => 0)) ∧ o1 ≤ o1 ∧ o1 - o1 + 32 ≤ 32 ∧ 32 ≤ c1 ∧ o2 ≤ o2 ∧ o2 - o2 + 12 ≤ 12 ∧ 12 ≤ c2 ∧ 32 = 32 ∧ 12 = 12 ∧ 0 ≤ 1048576 ∧ o1 ≤ o1 ∧ o1 - o1 + 32 ≤ 32 ∧ 32 ≤ c1 ∧ o2 ≤ o2 ∧ o2 - o2 + 12 ≤ 12 ∧ 12 ≤ c2 ∧ 0 + 0 ≤ 0 ∧ 0 ≤ 0 ∧ 32 = 32 ∧ 12 = 12 ∧ 0 ≤ 1048576 ∧ eqStr (0 + 16 - 16) (fun j => stF (fun j => f (o1 - o1 + j)) (fun j => g (o2 - o2 + j)) 1 (seF (fun j => f (o1 - o1 + j)) (fun j => g (o2 - o2 + j)) 0 (fun _ => 0) 0 (fun _ => 0)) (addN 0 j)) 0 (fun _ => 0) = true ∧ 0 + (0 + 16 - 16) ≤ 0 + 16 - 16 ∧ 0 + 16 - 16 ≤ 0 + 16 - 16 ∧ eqStr 0 (fun j => stF (fun j => f (o1 - o1 + j)) (fun j => g (o2 - o2 + j)) 7 (fun j => stF (fun j => f (o1 - o1 + j)) (fun j => g (o2 - o2 + j)) 7 (fun _ => 0) (addN 0 j)) (addN 0 j)) 0 (fun _ => 0) = true ∧ 0 + 0 ≤ 0 ∧ 0 ≤ 0 ∧ wrapI (8 * wrapI (Int.ofNat (0 + 16) + Int.ofNat 0)) = Int.ofNat (8 * (0 + 0) + 127 + 1) ∧ 8 * (0 + 0) + 127 + 1 < 1000000 ∧ Int.ofNat (pkN x (8 * (0 + 0) + 127 + 1)) = Int.ofNat d ∧ 0 + 16 ≤ 0 + 16 ∧ 0 + 16 ≤ limN ∧ wrapI (8 * Int.ofNat (0 + 16)) = Int.ofNat (8 * (0 + 16)) ∧ ilt (Int.ofNat d) (Int.ofNat (8 * (0 + 16))) = true ∧ wrapI ((Int.ofNat d).tdiv 8) = Int.ofNat j ∧ wrapI ((Int.ofNat d).tdiv 8) = Int.ofNat j ∧ 0 ≤ Int.ofNat j ∧ Int.ofNat j < ((0 + 16 : Nat) : Int) ∧ j < 0 + 16 ∧ (Int.ofNat d).tmod 8 = Int.ofNat e ∧ 0 ≤ Int.ofNat e ∧ 0 ≤ Int.ofNat j ∧ Int.ofNat j < ((0 + 16 : Nat) : Int) ∧ j < 0 + 16 ∧ o1 ≤ o1 ∧ o1 - o1 + 32 ≤ 32 ∧ 32 ≤ c1 ∧ o2 ≤ o2 ∧ o2 - o2 + 12 ≤ 12 ∧ 12 ≤ c2 ∧ 0 + 16 ≤ 0 + 16 ∧ 0 + 0 ≤ 0 ∧ 0 ≤ 0 ∧ 32 = 32 ∧ 12 = 12 ∧ 16 ≤ 0 + 16 ∧ 0 + 16 ≤ 1048592 ∧ 0 ≤ 1048576 ∧ (¬ sameT (fun j => f (o1 - o1 + j)) (fun j => g (o2 - o2 + j)) 0 (fun _ => 0) (0 + 16 - 16) (flB (seF (fun j => f (o1 - o1 + j)) (fun j => g (o2 - o2 + j)) 0 (fun _ => 0) 0 (fun _ => 0)) j e)) ∧ wrapI ((Int.ofNat d).tdiv 8) = Int.ofNat j ∧ (!ilt (Int.ofNat j) (Int.ofNat 0)) = true ∧ wrapI ((Int.ofNat d).tdiv 8) = Int.ofNat j ∧ ilt (Int.ofNat j) (Int.ofNat (0 + 16)) = true ∧ endM [0, 1] [wB t1 o1 32 f v1, wB t2 o2 12 g v2] [wB t1 o1 32 f v1, wB t2 o2 12 g v2] (.v1 (.sc (.bo true))) (.v1 (.sc (.bo true)))) ?_ (by kernel_rfl))
  exact ⟨rfl, rfl, ilt_f (i := 2000) (by omega), ilt_f (i := 2000) (by omega), Nat.le_refl _, win_le, kc1, Nat.le_refl _, win_le, kc2, rfl, rfl, Nat.le_trans hN (by decide), Nat.le_trans hK (by decide), wr16 hN, nieq_same, Nat.le_refl _, win_le, kc1, Nat.le_refl _, win_le, kc2, Nat.le_refl _, rfl, rfl, by omega, by omega, Nat.le_trans hK (by decide), same_seal, Nat.le_refl _, win_le, kc1, Nat.le_refl _, win_le, kc2, rfl, rfl, Nat.le_trans hN (by decide), Nat.le_refl _, win_le, kc1, Nat.le_refl _, win_le, kc2, by omega, Nat.le_refl _, rfl, rfl, Nat.le_trans hN (by decide), back_text rfl, by omega, Nat.le_refl _, back_stream, by omega, Nat.le_refl _, wr8 hN hK, by omega, congrArg Int.ofNat hd, Nat.le_refl _, Nat.le_trans (show 0 + 16 ≤ 3000 by omega) (by decide), wr8' hN, ilt_t (by omega), wrD hd6 hj, wrD hd6 hj, Int.natCast_nonneg _, lt_ofNat hjs, hjs, wrM he, Int.natCast_nonneg _, Int.natCast_nonneg _, lt_ofNat hjs, hjs, Nat.le_refl _, win_le, kc1, Nat.le_refl _, win_le, kc2, Nat.le_refl _, Nat.le_refl _, Nat.le_refl _, rfl, rfl, by omega, by omega, Nat.le_trans hK (by decide), hS, wrD hd6 hj, nilt_t (by omega), wrD hd6 hj, ilt_t hjs, endM_same rfl rfl⟩
theorem backB_n01 {t1 o1 c1 t2 o2 c2 t4 o4 c4 d j e : Nat} {x : Int} {f g q : Nat → Nat} {v1 v2 v4 : WrapV} {w3 : Option Addr} (kc1 : 32 ≤ c1) (kc2 : 12 ≤ c2) (kc4 : 0 ≤ c4) (hN : 0 ≤ 2000) (hK : 0 ≤ 2000)
    (hd : pkN x (8 * (0 + 0) + 127 + 1) = d) (hj : d / 8 = j) (he : d % 8 = e) (hjs : j < 0 + 16) (hjn : 0 ≤ j) (hS : ¬ sameT (fun j => f (o1 - o1 + j)) (fun j => g (o2 - o2 + j)) 0 (fun _ => 0) 0 (flB (seF (fun j => f (o1 - o1 + j)) (fun j => g (o2 - o2 + j)) 0 (fun _ => 0) 0 (fun j => q (o4 - o4 + j))) j e)) : AWqS Try.prog (Dm [wB t1 o1 32 f v1, wB t2 o2 12 g v2, wB t4 o4 0 q v4]) (flatC (bodyOf Try.f6)) (fun e s => FEndM tt Try.f6 (upto 0 ([wB t1 o1 32 f v1, wB t2 o2 12 g v2, wB t4 o4 0 q v4] : Heap).length) (.v1 (.sc (.bo true))) [wB t1 o1 32 f v1, wB t2 o2 12 g v2, wB t4 o4 0 q v4] e s) ⟨frame0 [.v1 (.sc (.sl 0 o1 32 c1)), .v1 (.sc (.sl 1 o2 12 c2)), emS w3, .v1 (.sc (.sl 2 o4 0 c4)), iv x] Try.f6.ntmps, [wB t1 o1 32 f v1, wB t2 o2 12 g v2, wB t4 o4 0 q v4]⟩ := by
  have hd6 : d < 1000000 := by have := pkN_lt (x := x) (m := 8 * (0 + 0) + 127 + 1) (by omega); omega
  refine evS_q mixed tt_ok (gCb_ok 1) 300 [⟨2,2,.lit (.bo false)⟩,⟨2,6,.lit (.bo false)⟩,⟨2,11,.lit (.bo false)⟩,⟨2,16,.lit (.bo false)⟩,⟨5,7,.lit (.it (Int.ofNat (0 + 16)))⟩,⟨5,8,.lit (.bo false)⟩,⟨10,5,.lit (.bo true)⟩,⟨10,19,.lit (.bo true)⟩,⟨12,6,.lit (.it (Int.ofNat (8 * (0 + 0) + 127 + 1)))⟩,⟨12,8,.lit (.it (Int.ofNat d))⟩,⟨14,3,.lit (.it (Int.ofNat (8 * (0 + 16))))⟩,⟨14,4,.lit (.bo true)⟩,⟨15,2,.lit (.it (Int.ofNat j))⟩,⟨15,5,.lit (.it (Int.ofNat j))⟩,⟨15,6,.sym⟩,⟨15,7,.sym⟩,⟨15,9,.lit (.it (Int.ofNat e))⟩,⟨15,10,.sym⟩,⟨15,12,.sym⟩,⟨15,13,.sym⟩,⟨18,1,.lit (.it (Int.ofNat j))⟩,⟨18,4,.lit (.bo true)⟩,⟨18,7,.lit (.it (Int.ofNat j))⟩,⟨18,10,.lit (.bo true)⟩] (same (p := (!ieq (Int.ofNat 32) (Int.ofNat 32)) = false ∧ (!ieq (Int.ofNat 12) (Int.ofNat 12)) = false ∧ ilt 2000 (Int.ofNat 0) = false ∧ ilt 2000 (Int.ofNat 0) = false ∧ o1 ≤ o1 ∧ o1 - o1 + 32 ≤ 32 ∧ 32 ≤ c1 ∧ o2 ≤ o2 ∧ o2 - o2 + 12 ≤ 12 ∧ 12 ≤ c2 ∧ o4 ≤ o4 ∧ o4 - o4 + 0 ≤ 0 ∧ 0 ≤ c4 ∧ 32 = 32 ∧ 12 = 12 ∧ 0 ≤ 1048576 ∧ 0 ≤ 1048576 ∧ wrapI (Int.ofNat 0 + 16) = Int.ofNat (0 + 16) ∧ (!ieq (Int.ofNat (0 + 16)) (Int.ofNat (0 + 16))) = false ∧ o1 ≤ o1 ∧ o1 - o1 + 32 ≤ 32 ∧ 32 ≤ c1 ∧ o2 ≤ o2 ∧ o2 - o2 + 12 ≤ 12 ∧ 12 ≤ c2 ∧ 0 + 16 ≤ 0 + 16 ∧ o4 ≤ o4 ∧ o4 - o4 + 0 ≤ 0 ∧ 0 ≤ c4 ∧ 32 = 32 ∧ 12 = 12 ∧ 16 ≤ 0 + 16 ∧ 0 + 16 ≤ 1048592 ∧ 0 ≤ 1048576 ∧ sameT (fun j => f (o1 - o1 + j)) (fun j => g (o2 - o2 + j)) 0 (fun j => q (o4 - o4 + j)) (0 + 16 - 16) (seF (fun j => f (o1 - o1 + j)) (fun j => g (o2 - o2 + j)) 0 (fun _ => 0) 0 (fun j => q (o4 - o4 + j))) ∧ o1 ≤ o1 ∧ o1 - o1 + 32 ≤ 32 ∧ 32 ≤ c1 ∧ o2 ≤ o2 ∧ o2 - o2 + 12 ≤ 12 ∧ 12 ≤ c2 ∧ 32 = 32 ∧ 12 = 12 ∧ 0 ≤ 1048576 ∧ o1 ≤ o1 ∧ o1 - o1 + 32 ≤ 32 ∧ 32 ≤ c1 ∧ o2 ≤ o2 ∧ o2 - o2 + 12 ≤ 12 ∧ 12 ≤ c2 ∧ 0 + 0 ≤ 0 ∧ 0 ≤ 0 ∧ 32 = 32 ∧ 12 = 12 ∧ 0 ≤ 1048576 ∧ eqStr (0 + 16 - 16) (fun j => stF (fun j => f (o1 - o1 + j)) (fun j => g (o2 - o2 + j)) 1 (seF (fun j => f (o1 - o1 + j)) (fun j => g (o2 - o2 + j)) 0 (fun _ => 0) 0 (fun j => q (o4 - o4 + j))) (addN 0 j)) 0 (fun _ => 0) = true ∧ 0 + (0 + 16 - 16) ≤ 0 + 16 - 16 ∧ 0 + 16 - 16 ≤ 0 + 16 - 16 ∧ eqStr 0 (fun j => stF (fun j => f (o1 - o1 + j)) (fun j => g (o2 - o2 + j)) 7 (fun j => stF (fun j => f (o1 - o1 + j)) (fun j => g (o2 - o2 + j)) 7 (fun _ => 0) (addN 0 j)) (addN 0 j)) 0 (fun _ => 0) = true ∧ 0 + 0 ≤ 0 ∧ 0 ≤ 0 ∧ wrapI (8 * wrapI (Int.ofNat (0 + 16) + Int.ofNat 0)) = Int.ofNat (8 * (0 + 0) + 127 + 1) ∧ 8 * (0 + 0) + 127 + 1 < 1000000 ∧ Int.ofNat (pkN x (8 * (0 + 0) + 127 + 1)) = Int.ofNat d ∧ 0 + 16 ≤ 0 + 16 ∧ 0 + 16 ≤ limN ∧ o4 ≤ o4 ∧ o4 - o4 + 0 ≤ 0 ∧ 0 ≤ c4 ∧ wrapI (8 * Int.ofNat (0 + 16)) = Int.ofNat (8 * (0 + 16)) ∧ ilt (Int.ofNat d) (Int.ofNat (8 * (0 + 16))) = true ∧ wrapI ((Int.ofNat d).tdiv 8) = Int.ofNat j ∧ wrapI ((Int.ofNat d).tdiv 8) = Int.ofNat j ∧ 0 ≤ Int.ofNat j ∧ Int.ofNat j < ((0 + 16 : Nat) : Int) ∧ j < 0 + 16 ∧ (Int.ofNat d).tmod 8 = Int.ofNat e ∧ 0 ≤ Int.ofNat e ∧ 0 ≤ Int.ofNat j ∧ Int.ofNat j < ((0 + 16 : Nat) : Int) ∧ j < 0 + 16 ∧ o1 ≤ o1 ∧ o1 - o1 + 32 ≤ 32 ∧ 32 ≤ c1 ∧ o2 ≤ o2 ∧ o2 - o2 + 12 ≤ 12 ∧ 12 ≤ c2 ∧ 0 + 16 ≤ 0 + 16 ∧ 0 + 0 ≤ 0 ∧ 0 ≤ 0 ∧ 32 = 32 ∧ 12 = 12 ∧ 16 ≤ 0 + 16 ∧ 0 + 16 ≤ 1048592 ∧ 0 ≤ 1048576 ∧ (¬ sameT (fun j => f (o1 - o1 + j)) (fun j => g (o2 - o2 + j)) 0 (fun _ => 0) (0 + 16 - 16) (flB (seF (fun j => f (o1 - o1 + j)) (fun j => g (o2 - o2 + j)) 0 (fun _ => 0) 0 (fun j => q (o4 - o4 + j))) j e)) ∧ wrapI ((Int.ofNat d).tdiv 8) = Int.ofNat j ∧ (!ilt (Int.ofNat j) (Int.ofNat 0)) = true ∧ wrapI ((Int.ofNat d).tdiv 8) = Int.ofNat j ∧ ilt (Int.ofNat j) (Int.ofNat (0 + 16)) = true ∧ endM [0, 1, 2] [wB t1 o1 32 f v1, wB t2 o2 12 g v2, wB t4 o4 0 q v4] [wB t1 o1 32 f v1, wB t2 o2 12 g v2, wB t4 o4 0 q v4] (.v1 (.sc (.bo true))) (.v1 (.sc (.bo true)))) ?_ (by kernel_rfl))
  exact ⟨rfl, rfl, ilt_f (i := 2000) (by omega), ilt_f (i := 2000) (by omega), Nat.le_refl _, win_le, kc1, Nat.le_refl _, win_le, kc2, Nat.le_refl _, win_le, kc4, rfl, rfl, Nat.le_trans hN (by decide), Nat.le_trans hK (by decide), wr16 hN, nieq_same, Nat.le_refl _, win_le, kc1, Nat.le_refl _, win_le, kc2, Nat.le_refl _, Nat.le_refl _, win_le, kc4, rfl, rfl, by omega, by omega, Nat.le_trans hK (by decide), same_seal, Nat.le_refl _, win_le, kc1, Nat.le_refl _, win_le, kc2, rfl, rfl, Nat.le_trans hN (by decide), Nat.le_refl _, win_le, kc1, Nat.le_refl _, win_le, kc2, by omega, Nat.le_refl _, rfl, rfl, Nat.le_trans hN (by decide), back_text rfl, by omega, Nat.le_refl _, back_stream, by omega, Nat.le_refl _, wr8 hN hK, by omega, congrArg Int.ofNat hd, Nat.le_refl _, Nat.le_trans (show 0 + 16 ≤ 3000 by omega) (by decide), Nat.le_refl _, win_le, kc4, wr8' hN, ilt_t (by omega), wrD hd6 hj, wrD hd6 hj, Int.natCast_nonneg _, lt_ofNat hjs, hjs, wrM he, Int.natCast_nonneg _, Int.natCast_nonneg _, lt_ofNat hjs, hjs, Nat.le_refl _, win_le, kc1, Nat.le_refl _, win_le, kc2, Nat.le_refl _, Nat.le_refl _, Nat.le_refl _, rfl, rfl, by omega, by omega, Nat.le_trans hK (by decide), hS, wrD hd6 hj, nilt_t (by omega), wrD hd6 hj, ilt_t hjs, endM_same rfl rfl⟩
theorem backB_nw1 {t1 o1 c1 t2 o2 c2 t4 o4 c4 k d j e : Nat} {x : Int} {f g q : Nat → Nat} {v1 v2 v4 : WrapV} {w3 : Option Addr} (kc1 : 32 ≤ c1) (kc2 : 12 ≤ c2) (kc4 : (k + 1) ≤ c4) (hN : 0 ≤ 2000) (hK : (k + 1) ≤ 2000)
    (hd : pkN x (8 * (0 + (k + 1)) + 127 + 1) = d) (hj : d / 8 = j) (he : d % 8 = e) (hjs : j < 0 + 16) (hjn : 0 ≤ j) (hS : ¬ sameT (fun j => f (o1 - o1 + j)) (fun j => g (o2 - o2 + j)) (k + 1) (fun j => q (o4 - o4 + j)) 0 (flB (seF (fun j => f (o1 - o1 + j)) (fun j => g (o2 - o2 + j)) 0 (fun _ => 0) (k + 1) (fun j => q (o4 - o4 + j))) j e)) : AWqS Try.prog (Dm [wB t1 o1 32 f v1, wB t2 o2 12 g v2, wB t4 o4 (k + 1) q v4]) (flatC (bodyOf Try.f6)) (fun e s => FEndM tt Try.f6 (upto 0 ([wB t1 o1 32 f v1, wB t2 o2 12 g v2, wB t4 o4 (k + 1) q v4] : Heap).length) (.v1 (.sc (.bo true))) [wB t1 o1 32 f v1, wB t2 o2 12 g v2, wB t4 o4 (k + 1) q v4] e s) ⟨frame0 [.v1 (.sc (.sl 0 o1 32 c1)), .v1 (.sc (.sl 1 o2 12 c2)), emS w3, .v1 (.sc (.sl 2 o4 (k + 1) c4)), iv x] Try.f6.ntmps, [wB t1 o1 32 f v1, wB t2 o2 12 g v2, wB t4 o4 (k + 1) q v4]⟩ := by
  have hd6 : d < 1000000 := by have := pkN_lt (x := x) (m := 8 * (0 + (k + 1)) + 127 + 1) (by omega); omega
  refine evS_q mixed tt_ok (gCb_ok 1) 300 [⟨2,2,.lit (.bo false)⟩,⟨2,6,.lit (.bo false)⟩,⟨2,11,.lit (.bo false)⟩,⟨2,16,.lit (.bo false)⟩,⟨5,7,.lit (.it (Int.ofNat (0 + 16)))⟩,⟨5,8,.lit (.bo false)⟩,⟨10,5,.lit (.bo true)⟩,⟨10,19,.lit (.bo true)⟩,⟨12,6,.lit (.it (Int.ofNat (8 * (0 + (k + 1)) + 127 + 1)))⟩,⟨12,8,.lit (.it (Int.ofNat d))⟩,⟨14,3,.lit (.it (Int.ofNat (8 * (0 + 16))))⟩,⟨14,4,.lit (.bo true)⟩,⟨15,2,.lit (.it (Int.ofNat j))⟩,⟨15,5,.lit (.it (Int.ofNat j))⟩,⟨15,6,.sym⟩,⟨15,7,.sym⟩,⟨15,9,.lit (.it (Int.ofNat e))⟩,⟨15,10,.sym⟩,⟨15,12,.sym⟩,⟨15,13,.sym⟩,⟨18,1,.lit (.it (Int.ofNat j))⟩,⟨18,4,.lit (.bo true)⟩,⟨18,7,.lit (.it (Int.ofNat j))⟩,⟨18,10,.lit (.bo true)⟩] (same (p := (!ieq (Int.ofNat 32) (Int.ofNat 32)) = false ∧ (!ieq (Int.ofNat 12) (Int.ofNat 12)) = false ∧ ilt 2000 (Int.ofNat 0) = false ∧ ilt 2000 (Int.ofNat (k + 1)) = false ∧ o1 ≤ o1 ∧ o1 - o1 + 32 ≤ 32 ∧ 32 ≤ c1 ∧ o2 ≤ o2 ∧ o2 - o2 + 12 ≤ 12 ∧ 12 ≤ c2 ∧ o4 ≤ o4 ∧ o4 - o4 + (k + 1) ≤ (k + 1) ∧ (k + 1) ≤ c4 ∧ 32 = 32 ∧ 12 = 12 ∧ 0 ≤ 1048576 ∧ (k + 1) ≤ 1048576 ∧ wrapI (Int.ofNat 0 + 16) = Int.ofNat (0 + 16) ∧ (!ieq (Int.ofNat (0 + 16)) (Int.ofNat (0 + 16))) = false ∧ o1 ≤ o1 ∧ o1 - o1 + 32 ≤ 32 ∧ 32 ≤ c1 ∧ o2 ≤ o2 ∧ o2 - o2 + 12 ≤ 12 ∧ 12 ≤ c2 ∧ 0 + 16 ≤ 0 + 16 ∧ o4 ≤ o4 ∧ o4 - o4 + (k + 1) ≤ (k + 1) ∧ (k + 1) ≤ c4 ∧ 32 = 32 ∧ 12 = 12 ∧ 16 ≤ 0 + 16 ∧ 0 + 16 ≤ 1048592 ∧ (k + 1) ≤ 1048576 ∧ sameT (fun j => f (o1 - o1 + j)) (fun j => g (o2 - o2 + j)) (k + 1) (fun j => q (o4 - o4 + j)) (0 + 16 - 16) (seF (fun j => f (o1 - o1 + j)) (fun j => g (o2 - o2 + j)) 0 (fun _ => 0) (k + 1) (fun j => q (o4 - o4 + j))) ∧ o1 ≤ o1 ∧ o1 - o1 + 32 ≤ 32 ∧ 32 ≤ c1 ∧ o2 ≤ o2 ∧ o2 - o2 + 12 ≤ 12 ∧ 12 ≤ c2 ∧ 32 = 32 ∧ 12 = 12 ∧ 0 ≤ 1048576 ∧ o1 ≤ o1 ∧ o1 - o1 + 32 ≤ 32 ∧ 32 ≤ c1 ∧ o2 ≤ o2 ∧ o2 - o2 + 12 ≤ 12 ∧ 12 ≤ c2 ∧ 0 + 0 ≤ 0 ∧ 0 ≤ 0 ∧ 32 = 32 ∧ 12 = 12 ∧ 0 ≤ 1048576 ∧ eqStr (0 + 16 - 16) (fun j => stF (fun j => f (o1 - o1 + j)) (fun j => g (o2 - o2 + j)) 1 (seF (fun j => f (o1 - o1 + j)) (fun j => g (o2 - o2 + j)) 0 (fun _ => 0) (k + 1) (fun j => q (o4 - o4 + j))) (addN 0 j)) 0 (fun _ => 0) = true ∧ 0 + (0 + 16 - 16) ≤ 0 + 16 - 16 ∧ 0 + 16 - 16 ≤ 0 + 16 - 16 ∧ eqStr 0 (fun j => stF (fun j => f (o1 - o1 + j)) (fun j => g (o2 - o2 + j)) 7 (fun j => stF (fun j => f (o1 - o1 + j)) (fun j => g (o2 - o2 + j)) 7 (fun _ => 0) (addN 0 j)) (addN 0 j)) 0 (fun _ => 0) = true ∧ 0 + 0 ≤ 0 ∧ 0 ≤ 0 ∧ wrapI (8 * wrapI (Int.ofNat (0 + 16) + Int.ofNat (k + 1))) = Int.ofNat (8 * (0 + (k + 1)) + 127 + 1) ∧ 8 * (0 + (k + 1)) + 127 + 1 < 1000000 ∧ Int.ofNat (pkN x (8 * (0 + (k + 1)) + 127 + 1)) = Int.ofNat d ∧ 0 + 16 ≤ 0 + 16 ∧ 0 + 16 ≤ limN ∧ o4 ≤ o4 ∧ o4 - o4 + (k + 1) ≤ (k + 1) ∧ (k + 1) ≤ c4 ∧ k + 1 ≤ limN ∧ wrapI (8 * Int.ofNat (0 + 16)) = Int.ofNat (8 * (0 + 16)) ∧ ilt (Int.ofNat d) (Int.ofNat (8 * (0 + 16))) = true ∧ wrapI ((Int.ofNat d).tdiv 8) = Int.ofNat j ∧ wrapI ((Int.ofNat d).tdiv 8) = Int.ofNat j ∧ 0 ≤ Int.ofNat j ∧ Int.ofNat j < ((0 + 16 : Nat) : Int) ∧ j < 0 + 16 ∧ (Int.ofNat d).tmod 8 = Int.ofNat e ∧ 0 ≤ Int.ofNat e ∧ 0 ≤ Int.ofNat j ∧ Int.ofNat j < ((0 + 16 : Nat) : Int) ∧ j < 0 + 16 ∧ o1 ≤ o1 ∧ o1 - o1 + 32 ≤ 32 ∧ 32 ≤ c1 ∧ o2 ≤ o2 ∧ o2 - o2 + 12 ≤ 12 ∧ 12 ≤ c2 ∧ 0 + 16 ≤ 0 + 16 ∧ k + 1 ≤ k + 1 ∧ 32 = 32 ∧ 12 = 12 ∧ 16 ≤ 0 + 16 ∧ 0 + 16 ≤ 1048592 ∧ (k + 1) ≤ 1048576 ∧ (¬ sameT (fun j => f (o1 - o1 + j)) (fun j => g (o2 - o2 + j)) (k + 1) (fun j => q (o4 - o4 + j)) (0 + 16 - 16) (flB (seF (fun j => f (o1 - o1 + j)) (fun j => g (o2 - o2 + j)) 0 (fun _ => 0) (k + 1) (fun j => q (o4 - o4 + j))) j e)) ∧ wrapI ((Int.ofNat d).tdiv 8) = Int.ofNat j ∧ (!ilt (Int.ofNat j) (Int.ofNat 0)) = true ∧ wrapI ((Int.ofNat d).tdiv 8) = Int.ofNat j ∧ ilt (Int.ofNat j) (Int.ofNat (0 + 16)) = true ∧ endM [0, 1, 2] [wB t1 o1 32 f v1, wB t2 o2 12 g v2, wB t4 o4 (k + 1) q v4] [wB t1 o1 32 f v1, wB t2 o2 12 g v2, wB t4 o4 (k + 1) q v4] (.v1 (.sc (.bo true))) (.v1 (.sc (.bo true)))) ?_ (by kernel_rfl))
  exact ⟨rfl, rfl, ilt_f (i := 2000) (by omega), ilt_f (i := 2000) (by omega), Nat.le_refl _, win_le, kc1, Nat.le_refl _, win_le, kc2, Nat.le_refl _, win_le, kc4, rfl, rfl, Nat.le_trans hN (by decide), Nat.le_trans hK (by decide), wr16 hN, nieq_same, Nat.le_refl _, win_le, kc1, Nat.le_refl _, win_le, kc2, Nat.le_refl _, Nat.le_refl _, win_le, kc4, rfl, rfl, by omega, by omega, Nat.le_trans hK (by decide), same_seal, Nat.le_refl _, win_le, kc1, Nat.le_refl _, win_le, kc2, rfl, rfl, Nat.le_trans hN (by decide), Nat.le_refl _, win_le, kc1, Nat.le_refl _, win_le, kc2, by omega, Nat.le_refl _, rfl, rfl, Nat.le_trans hN (by decide), back_text rfl, by omega, Nat.le_refl _, back_stream, by omega, Nat.le_refl _, wr8 hN hK, by omega, congrArg Int.ofNat hd, Nat.le_refl _, Nat.le_trans (show 0 + 16 ≤ 3000 by omega) (by decide), Nat.le_refl _, win_le, kc4, Nat.le_trans hK (by decide), wr8' hN, ilt_t (by omega), wrD hd6 hj, wrD hd6 hj, Int.natCast_nonneg _, lt_ofNat hjs, hjs, wrM he, Int.natCast_nonneg _, Int.natCast_nonneg _, lt_ofNat hjs, hjs, Nat.le_refl _, win_le, kc1, Nat.le_refl _, win_le, kc2, Nat.le_refl _, Nat.le_refl _, rfl, rfl, by omega, by omega, Nat.le_trans hK (by decide), hS, wrD hd6 hj, nilt_t (by omega), wrD hd6 hj, ilt_t hjs, endM_same rfl rfl⟩
theorem backC_nw0 {t1 o1 c1 t2 o2 c2 t4 o4 c4 k d j e i : Nat} {x : Int} {f g q : Nat → Nat} {v1 v2 v4 : WrapV} {w3 : Option Addr} (kc1 : 32 ≤ c1) (kc2 : 12 ≤ c2) (kc4 : (k + 1) ≤ c4) (hN : 0 ≤ 2000) (hK : (k + 1) ≤ 2000)
    (hd : pkN x (8 * (0 + (k + 1)) + 127 + 1) = d) (hj : d / 8 = j) (he : d % 8 = e) (hji : j = 0 + 16 + i) (hik : i < k + 1) (hS : sameT (fun j => f (o1 - o1 + j)) (fun j => g (o2 - o2 + j)) (k + 1) (flB (fun j => q (o4 - o4 + j)) i e) 0 (seF (fun j => f (o1 - o1 + j)) (fun j => g (o2 - o2 + j)) 0 (fun _ => 0) (k + 1) (fun j => q (o4 - o4 + j)))) : AWqS Try.prog (Dm [wB t1 o1 32 f v1, wB t2 o2 12 g v2, wB t4 o4 (k + 1) q v4]) (flatC (bodyOf Try.f6)) (fun e s => FEndM tt Try.f6 (upto 0 ([wB t1 o1 32 f v1, wB t2 o2 12 g v2, wB t4 o4 (k + 1) q v4] : Heap).length) (.v1 (.sc (.bo true))) [wB t1 o1 32 f v1, wB t2 o2 12 g v2, wB t4 o4 (k + 1) q v4] e s) ⟨frame0 [.v1 (.sc (.sl 0 o1 32 c1)), .v1 (.sc (.sl 1 o2 12 c2)), emS w3, .v1 (.sc (.sl 2 o4 (k + 1) c4)), iv x] Try.f6.ntmps, [wB t1 o1 32 f v1, wB t2 o2 12 g v2, wB t4 o4 (k + 1) q v4]⟩ := by
  have hd6 : d < 1000000 := by have := pkN_lt (x := x) (m := 8 * (0 + (k + 1)) + 127 + 1) (by omega); omega
  refine evS_q mixed tt_ok (gCb_ok 0) 300 [⟨2,2,.lit (.bo false)⟩,⟨2,6,.lit (.bo false)⟩,⟨2,11,.lit (.bo false)⟩,⟨2,16,.lit (.bo false)⟩,⟨5,7,.lit (.it (Int.ofNat (0 + 16)))⟩,⟨5,8,.lit (.bo false)⟩,⟨10,5,.lit (.bo true)⟩,⟨10,19,.lit (.bo true)⟩,⟨12,6,.lit (.it (Int.ofNat (8 * (0 + (k + 1)) + 127 + 1)))⟩,⟨12,8,.lit (.it (Int.ofNat d))⟩,⟨14,3,.lit (.it (Int.ofNat (8 * (0 + 16))))⟩,⟨14,4,.lit (.bo false)⟩,⟨16,2,.lit (.it (Int.ofNat j))⟩,⟨16,5,.lit (.it (Int.ofNat i))⟩,⟨16,8,.lit (.it (Int.ofNat j))⟩,⟨16,11,.lit (.it (Int.ofNat i))⟩,⟨16,12,.sym⟩,⟨16,13,.sym⟩,⟨16,15,.lit (.it (Int.ofNat e))⟩,⟨16,16,.sym⟩,⟨16,18,.sym⟩,⟨16,19,.sym⟩,⟨18,1,.lit (.it (Int.ofNat j))⟩,⟨18,4,.lit (.bo true)⟩,⟨18,7,.lit (.it (Int.ofNat j))⟩,⟨18,10,.lit (.bo false)⟩,⟨20,5,.sym⟩,⟨21,11,.sym⟩,⟨21,12,.lit (.bo true)⟩] (same (p := (!ieq (Int.ofNat 32) (Int.ofNat 32)) = false ∧ (!ieq (Int.ofNat 12) (Int.ofNat 12)) = false ∧ ilt 2000 (Int.ofNat 0) = false ∧ ilt 2000 (Int.ofNat (k + 1)) = false ∧ o1 ≤ o1 ∧ o1 - o1 + 32 ≤ 32 ∧ 32 ≤ c1 ∧ o2 ≤ o2 ∧ o2 - o2 + 12 ≤ 12 ∧ 12 ≤ c2 ∧ o4 ≤ o4 ∧ o4 - o4 + (k + 1) ≤ (k + 1) ∧ (k + 1) ≤ c4 ∧ 32 = 32 ∧ 12 = 12 ∧ 0 ≤ 1048576 ∧ (k + 1) ≤ 1048576 ∧ wrapI (Int.ofNat 0 + 16) = Int.ofNat (0 + 16) ∧ (!ieq (Int.ofNat (0 + 16)) (Int.ofNat (0 + 16))) = false ∧ o1 ≤ o1 ∧ o1 - o1 + 32 ≤ 32 ∧ 32 ≤ c1 ∧ o2 ≤ o2 ∧ o2 - o2 + 12 ≤ 12 ∧ 12 ≤ c2 ∧ 0 + 16 ≤ 0 + 16 ∧ o4 ≤ o4 ∧ o4 - o4 + (k + 1) ≤ (k + 1) ∧ (k + 1) ≤ c4 ∧ 32 = 32 ∧ 12 = 12 ∧ 16 ≤ 0 + 16 ∧ 0 + 16 ≤ 1048592 ∧ (k + 1) ≤ 1048576 ∧ sameT (fun j => f (o1 - o1 + j)) (fun j => g (o2 - o2 + j)) (k + 1) (fun j => q (o4 - o4 + j)) (0 + 16 - 16) (seF (fun j => f (o1 - o1 + j)) (fun j => g (o2 - o2 + j)) 0 (fun _ => 0) (k + 1) (fun j => q (o4 - o4 + j))) ∧ o1 ≤ o1 ∧ o1 - o1 + 32 ≤ 32 ∧ 32 ≤ c1 ∧ o2 ≤ o2 ∧ o2 - o2 + 12 ≤ 12 ∧ 12 ≤ c2 ∧ 32 = 32 ∧ 12 = 12 ∧ 0 ≤ 1048576 ∧ o1 ≤ o1 ∧ o1 - o1 + 32 ≤ 32 ∧ 32 ≤ c1 ∧ o2 ≤ o2 ∧ o2 - o2 + 12 ≤ 12 ∧ 12 ≤ c2 ∧ 0 + 0 ≤ 0 ∧ 0 ≤ 0 ∧ 32 = 32 ∧ 12 = 12 ∧ 0 ≤ 1048576 ∧ eqStr (0 + 16 - 16) (fun j => stF (fun j => f (o1 - o1 + j)) (fun j => g (o2 - o2 + j)) 1 (seF (fun j => f (o1 - o1 + j)) (fun j => g (o2 - o2 + j)) 0 (fun _ => 0) (k + 1) (fun j => q (o4 - o4 + j))) (addN 0 j)) 0 (fun _ => 0) = true ∧ 0 + (0 + 16 - 16) ≤ 0 + 16 - 16 ∧ 0 + 16 - 16 ≤ 0 + 16 - 16 ∧ eqStr 0 (fun j => stF (fun j => f (o1 - o1 + j)) (fun j => g (o2 - o2 + j)) 7 (fun j => stF (fun j => f (o1 - o1 + j)) (fun j => g (o2 - o2 + j)) 7 (fun _ => 0) (addN 0 j)) (addN 0 j)) 0 (fun _ => 0) = true ∧ 0 + 0 ≤ 0 ∧ 0 ≤ 0 ∧ wrapI (8 * wrapI (Int.ofNat (0 + 16) + Int.ofNat (k + 1))) = Int.ofNat (8 * (0 + (k + 1)) + 127 + 1) ∧ 8 * (0 + (k + 1)) + 127 + 1 < 1000000 ∧ Int.ofNat (pkN x (8 * (0 + (k + 1)) + 127 + 1)) = Int.ofNat d ∧ 0 + 16 ≤ 0 + 16 ∧ 0 + 16 ≤ limN ∧ o4 ≤ o4 ∧ o4 - o4 + (k + 1) ≤ (k + 1) ∧ (k + 1) ≤ c4 ∧ k + 1 ≤ limN ∧ wrapI (8 * Int.ofNat (0 + 16)) = Int.ofNat (8 * (0 + 16)) ∧ ilt (Int.ofNat d) (Int.ofNat (8 * (0 + 16))) = false ∧ wrapI ((Int.ofNat d).tdiv 8) = Int.ofNat j ∧ wrapI (Int.ofNat j - Int.ofNat (0 + 16)) = Int.ofNat i ∧ wrapI ((Int.ofNat d).tdiv 8) = Int.ofNat j ∧ wrapI (Int.ofNat j - Int.ofNat (0 + 16)) = Int.ofNat i ∧ 0 ≤ Int.ofNat i ∧ Int.ofNat i < ((k + 1 : Nat) : Int) ∧ i < k + 1 ∧ (Int.ofNat d).tmod 8 = Int.ofNat e ∧ 0 ≤ Int.ofNat e ∧ 0 ≤ Int.ofNat i ∧ Int.ofNat i < ((k + 1 : Nat) : Int) ∧ i < k + 1 ∧ o1 ≤ o1 ∧ o1 - o1 + 32 ≤ 32 ∧ 32 ≤ c1 ∧ o2 ≤ o2 ∧ o2 - o2 + 12 ≤ 12 ∧ 12 ≤ c2 ∧ 0 + 16 ≤ 0 + 16 ∧ k + 1 ≤ k + 1 ∧ 32 = 32 ∧ 12 = 12 ∧ 16 ≤ 0 + 16 ∧ 0 + 16 ≤ 1048592 ∧ (k + 1) ≤ 1048576 ∧ (sameT (fun j => f (o1 - o1 + j)) (fun j => g (o2 - o2 + j)) (k + 1) (flB (fun j => q (o4 - o4 + j)) i e) (0 + 16 - 16) (seF (fun j => f (o1 - o1 + j)) (fun j => g (o2 - o2 + j)) 0 (fun _ => 0) (k + 1) (fun j => q (o4 - o4 + j)))) ∧ wrapI ((Int.ofNat d).tdiv 8) = Int.ofNat j ∧ (!ilt (Int.ofNat j) (Int.ofNat 0)) = true ∧ wrapI ((Int.ofNat d).tdiv 8) = Int.ofNat j ∧ ilt (Int.ofNat j) (Int.ofNat (0 + 16)) = false ∧ 0 ≤ Int.ofNat 0 ∧ Int.ofNat 0 < ((0 + 16 + 1 : Nat) : Int) ∧ 0 + 16 ≤ 0 + 16 ∧ o1 ≤ o1 ∧ o1 - o1 + 32 ≤ 32 ∧ 32 ≤ c1 ∧ o2 ≤ o2 ∧ o2 - o2 + 12 ≤ 12 ∧ 12 ≤ c2 ∧ 0 ≤ 0 + 16 ∧ k + 1 ≤ k + 1 ∧ 32 = 32 ∧ 12 = 12 ∧ 0 ≤ 3000 ∧ (k + 1) ≤ 3000 ∧ 0 ≤ Int.ofNat 0 ∧ Int.ofNat 0 < ((0 + 16 + 1 : Nat) : Int) ∧ 0 + 16 ≤ 0 + 16 ∧ 0 < 0 + 16 ∧ eqStr 16 (fun s => dgN (seaN (fun j => f (o1 - o1 + j)) (fun j => g (o2 - o2 + j)) (k + 1) (flB (fun j => q (o4 - o4 + j)) i e) 0 (seF (fun j => f (o1 - o1 + j)) (fun j => g (o2 - o2 + j)) 0 (fun _ => 0) (k + 1) (fun j => q (o4 - o4 + j)))) (addN 0 s)) (0 + 16 - 0) (fun s => (seF (fun j => f (o1 - o1 + j)) (fun j => g (o2 - o2 + j)) 0 (fun _ => 0) (k + 1) (fun j => q (o4 - o4 + j))) (addN 0 s)) = true ∧ 0 + 16 ≤ 16 ∧ 16 ≤ 16 ∧ 0 + (0 + 16 - 0) ≤ 0 + 16 ∧ endM [0, 1, 2] [wB t1 o1 32 f v1, wB t2 o2 12 g v2, wB t4 o4 (k + 1) q v4] [wB t1 o1 32 f v1, wB t2 o2 12 g v2, wB t4 o4 (k + 1) q v4] (.v1 (.sc (.bo true))) (.v1 (.sc (.bo true)))) ?_ (by kernel_rfl))
  exact ⟨rfl, rfl, ilt_f (i := 2000) (by omega), ilt_f (i := 2000) (by omega), Nat.le_refl _, win_le, kc1, Nat.le_refl _, win_le, kc2, Nat.le_refl _, win_le, kc4, rfl, rfl, Nat.le_trans hN (by decide), Nat.le_trans hK (by decide), wr16 hN, nieq_same, Nat.le_refl _, win_le, kc1, Nat.le_refl _, win_le, kc2, Nat.le_refl _, Nat.le_refl _, win_le, kc4, rfl, rfl, by omega, by omega, Nat.le_trans hK (by decide), same_seal, Nat.le_refl _, win_le, kc1, Nat.le_refl _, win_le, kc2, rfl, rfl, Nat.le_trans hN (by decide), Nat.le_refl _, win_le, kc1, Nat.le_refl _, win_le, kc2, by omega, Nat.le_refl _, rfl, rfl, Nat.le_trans hN (by decide), back_text rfl, by omega, Nat.le_refl _, back_stream, by omega, Nat.le_refl _, wr8 hN hK, by omega, congrArg Int.ofNat hd, Nat.le_refl _, Nat.le_trans (show 0 + 16 ≤ 3000 by omega) (by decide), Nat.le_refl _, win_le, kc4, Nat.le_trans hK (by decide), wr8' hN, ilt_f (by omega), wrD hd6 hj, wrS hji (by omega), wrD hd6 hj, wrS hji (by omega), Int.natCast_nonneg _, lt_ofNat hik, hik, wrM he, Int.natCast_nonneg _, Int.natCast_nonneg _, lt_ofNat hik, hik, Nat.le_refl _, win_le, kc1, Nat.le_refl _, win_le, kc2, Nat.le_refl _, Nat.le_refl _, rfl, rfl, by omega, by omega, Nat.le_trans hK (by decide), hS, wrD hd6 hj, nilt_t (by omega), wrD hd6 hj, ilt_f (by omega), Int.natCast_nonneg _, lt_ofNat (by omega), Nat.le_refl _, Nat.le_refl _, win_le, kc1, Nat.le_refl _, win_le, kc2, by omega, Nat.le_refl _, rfl, rfl, Nat.le_trans hN (by decide), Nat.le_trans hK (by decide), Int.natCast_nonneg _, lt_ofNat (by omega), Nat.le_refl _, by omega, tags_same (by omega) (fun t ht => rfl) hS, Nat.le_refl _, Nat.le_refl _, by omega, endM_same rfl rfl⟩
theorem backC_nw1 {t1 o1 c1 t2 o2 c2 t4 o4 c4 k d j e i : Nat} {x : Int} {f g q : Nat → Nat} {v1 v2 v4 : WrapV} {w3 : Option Addr} (kc1 : 32 ≤ c1) (kc2 : 12 ≤ c2) (kc4 : (k + 1) ≤ c4) (hN : 0 ≤ 2000) (hK : (k + 1) ≤ 2000)
    (hd : pkN x (8 * (0 + (k + 1)) + 127 + 1) = d) (hj : d / 8 = j) (he : d % 8 = e) (hji : j = 0 + 16 + i) (hik : i < k + 1) (hS : ¬ sameT (fun j => f (o1 - o1 + j)) (fun j => g (o2 - o2 + j)) (k + 1) (flB (fun j => q (o4 - o4 + j)) i e) 0 (seF (fun j => f (o1 - o1 + j)) (fun j => g (o2 - o2 + j)) 0 (fun _ => 0) (k + 1) (fun j => q (o4 - o4 + j)))) : AWqS Try.prog (Dm [wB t1 o1 32 f v1, wB t2 o2 12 g v2, wB t4 o4 (k + 1) q v4]) (flatC (bodyOf Try.f6)) (fun e s => FEndM tt Try.f6 (upto 0 ([wB t1 o1 32 f v1, wB t2 o2 12 g v2, wB t4 o4 (k + 1) q v4] : Heap).length) (.v1 (.sc (.bo true))) [wB t1 o1 32 f v1, wB t2 o2 12 g v2, wB t4 o4 (k + 1) q v4] e s) ⟨frame0 [.v1 (.sc (.sl 0 o1 32 c1)), .v1 (.sc (.sl 1 o2 12 c2)), emS w3, .v1 (.sc (.sl 2 o4 (k + 1) c4)), iv x] Try.f6.ntmps, [wB t1 o1 32 f v1, wB t2 o2 12 g v2, wB t4 o4 (k + 1) q v4]⟩ := by
  have hd6 : d < 1000000 := by have := pkN_lt (x := x) (m := 8 * (0 + (k + 1)) + 127 + 1) (by omega); omega
  refine evS_q mixed tt_ok (gCb_ok 1) 300 [⟨2,2,.lit (.bo false)⟩,⟨2,6,.lit (.bo false)⟩,⟨2,11,.lit (.bo false)⟩,⟨2,16,.lit (.bo false)⟩,⟨5,7,.lit (.it (Int.ofNat (0 + 16)))⟩,⟨5,8,.lit (.bo false)⟩,⟨10,5,.lit (.bo true)⟩,⟨10,19,.lit (.bo true)⟩,⟨12,6,.lit (.it (Int.ofNat (8 * (0 + (k + 1)) + 127 + 1)))⟩,⟨12,8,.lit (.it (Int.ofNat d))⟩,⟨14,3,.lit (.it (Int.ofNat (8 * (0 + 16))))⟩,⟨14,4,.lit (.bo false)⟩,⟨16,2,.lit (.it (Int.ofNat j))⟩,⟨16,5,.lit (.it (Int.ofNat i))⟩,⟨16,8,.lit (.it (Int.ofNat j))⟩,⟨16,11,.lit (.it (Int.ofNat i))⟩,⟨16,12,.sym⟩,⟨16,13,.sym⟩,⟨16,15,.lit (.it (Int.ofNat e))⟩,⟨16,16,.sym⟩,⟨16,18,.sym⟩,⟨16,19,.sym⟩,⟨18,1,.lit (.it (Int.ofNat j))⟩,⟨18,4,.lit (.bo true)⟩,⟨18,7,.lit (.it (Int.ofNat j))⟩,⟨18,10,.lit (.bo false)⟩,⟨20,5,.sym⟩,⟨21,11,.sym⟩,⟨21,12,.lit (.bo false)⟩] (same (p := (!ieq (Int.ofNat 32) (Int.ofNat 32)) = false ∧ (!ieq (Int.ofNat 12) (Int.ofNat 12)) = false ∧ ilt 2000 (Int.ofNat 0) = false ∧ ilt 2000 (Int.ofNat (k + 1)) = false ∧ o1 ≤ o1 ∧ o1 - o1 + 32 ≤ 32 ∧ 32 ≤ c1 ∧ o2 ≤ o2 ∧ o2 - o2 + 12 ≤ 12 ∧ 12 ≤ c2 ∧ o4 ≤ o4 ∧ o4 - o4 + (k + 1) ≤ (k + 1) ∧ (k + 1) ≤ c4 ∧ 32 = 32 ∧ 12 = 12 ∧ 0 ≤ 1048576 ∧ (k + 1) ≤ 1048576 ∧ wrapI (Int.ofNat 0 + 16) = Int.ofNat (0 + 16) ∧ (!ieq (Int.ofNat (0 + 16)) (Int.ofNat (0 + 16))) = false ∧ o1 ≤ o1 ∧ o1 - o1 + 32 ≤ 32 ∧ 32 ≤ c1 ∧ o2 ≤ o2 ∧ o2 - o2 + 12 ≤ 12 ∧ 12 ≤ c2 ∧ 0 + 16 ≤ 0 + 16 ∧ o4 ≤ o4 ∧ o4 - o4 + (k + 1) ≤ (k + 1) ∧ (k + 1) ≤ c4 ∧ 32 = 32 ∧ 12 = 12 ∧ 16 ≤ 0 + 16 ∧ 0 + 16 ≤ 1048592 ∧ (k + 1) ≤ 1048576 ∧ sameT (fun j => f (o1 - o1 + j)) (fun j => g (o2 - o2 + j)) (k + 1) (fun j => q (o4 - o4 + j)) (0 + 16 - 16) (seF (fun j => f (o1 - o1 + j)) (fun j => g (o2 - o2 + j)) 0 (fun _ => 0) (k + 1) (fun j => q (o4 - o4 + j))) ∧ o1 ≤ o1 ∧ o1 - o1 + 32 ≤ 32 ∧ 32 ≤ c1 ∧ o2 ≤ o2 ∧ o2 - o2 + 12 ≤ 12 ∧ 12 ≤ c2 ∧ 32 = 32 ∧ 12 = 12 ∧ 0 ≤ 1048576 ∧ o1 ≤ o1 ∧ o1 - o1 + 32 ≤ 32 ∧ 32 ≤ c1 ∧ o2 ≤ o2 ∧ o2 - o2 + 12 ≤ 12 ∧ 12 ≤ c2 ∧ 0 + 0 ≤ 0 ∧ 0 ≤ 0 ∧ 32 = 32 ∧ 12 = 12 ∧ 0 ≤ 1048576 ∧ eqStr (0 + 16 - 16) (fun j => stF (fun j => f (o1 - o1 + j)) (fun j => g (o2 - o2 + j)) 1 (seF (fun j => f (o1 - o1 + j)) (fun j => g (o2 - o2 + j)) 0 (fun _ => 0) (k + 1) (fun j => q (o4 - o4 + j))) (addN 0 j)) 0 (fun _ => 0) = true ∧ 0 + (0 + 16 - 16) ≤ 0 + 16 - 16 ∧ 0 + 16 - 16 ≤ 0 + 16 - 16 ∧ eqStr 0 (fun j => stF (fun j => f (o1 - o1 + j)) (fun j => g (o2 - o2 + j)) 7 (fun j => stF (fun j => f (o1 - o1 + j)) (fun j => g (o2 - o2 + j)) 7 (fun _ => 0) (addN 0 j)) (addN 0 j)) 0 (fun _ => 0) = true ∧ 0 + 0 ≤ 0 ∧ 0 ≤ 0 ∧ wrapI (8 * wrapI (Int.ofNat (0 + 16) + Int.ofNat (k + 1))) = Int.ofNat (8 * (0 + (k + 1)) + 127 + 1) ∧ 8 * (0 + (k + 1)) + 127 + 1 < 1000000 ∧ Int.ofNat (pkN x (8 * (0 + (k + 1)) + 127 + 1)) = Int.ofNat d ∧ 0 + 16 ≤ 0 + 16 ∧ 0 + 16 ≤ limN ∧ o4 ≤ o4 ∧ o4 - o4 + (k + 1) ≤ (k + 1) ∧ (k + 1) ≤ c4 ∧ k + 1 ≤ limN ∧ wrapI (8 * Int.ofNat (0 + 16)) = Int.ofNat (8 * (0 + 16)) ∧ ilt (Int.ofNat d) (Int.ofNat (8 * (0 + 16))) = false ∧ wrapI ((Int.ofNat d).tdiv 8) = Int.ofNat j ∧ wrapI (Int.ofNat j - Int.ofNat (0 + 16)) = Int.ofNat i ∧ wrapI ((Int.ofNat d).tdiv 8) = Int.ofNat j ∧ wrapI (Int.ofNat j - Int.ofNat (0 + 16)) = Int.ofNat i ∧ 0 ≤ Int.ofNat i ∧ Int.ofNat i < ((k + 1 : Nat) : Int) ∧ i < k + 1 ∧ (Int.ofNat d).tmod 8 = Int.ofNat e ∧ 0 ≤ Int.ofNat e ∧ 0 ≤ Int.ofNat i ∧ Int.ofNat i < ((k + 1 : Nat) : Int) ∧ i < k + 1 ∧ o1 ≤ o1 ∧ o1 - o1 + 32 ≤ 32 ∧ 32 ≤ c1 ∧ o2 ≤ o2 ∧ o2 - o2 + 12 ≤ 12 ∧ 12 ≤ c2 ∧ 0 + 16 ≤ 0 + 16 ∧ k + 1 ≤ k + 1 ∧ 32 = 32 ∧ 12 = 12 ∧ 16 ≤ 0 + 16 ∧ 0 + 16 ≤ 1048592 ∧ (k + 1) ≤ 1048576 ∧ (¬ sameT (fun j => f (o1 - o1 + j)) (fun j => g (o2 - o2 + j)) (k + 1) (flB (fun j => q (o4 - o4 + j)) i e) (0 + 16 - 16) (seF (fun j => f (o1 - o1 + j)) (fun j => g (o2 - o2 + j)) 0 (fun _ => 0) (k + 1) (fun j => q (o4 - o4 + j)))) ∧ wrapI ((Int.ofNat d).tdiv 8) = Int.ofNat j ∧ (!ilt (Int.ofNat j) (Int.ofNat 0)) = true ∧ wrapI ((Int.ofNat d).tdiv 8) = Int.ofNat j ∧ ilt (Int.ofNat j) (Int.ofNat (0 + 16)) = false ∧ 0 ≤ Int.ofNat 0 ∧ Int.ofNat 0 < ((0 + 16 + 1 : Nat) : Int) ∧ 0 + 16 ≤ 0 + 16 ∧ o1 ≤ o1 ∧ o1 - o1 + 32 ≤ 32 ∧ 32 ≤ c1 ∧ o2 ≤ o2 ∧ o2 - o2 + 12 ≤ 12 ∧ 12 ≤ c2 ∧ 0 ≤ 0 + 16 ∧ k + 1 ≤ k + 1 ∧ 32 = 32 ∧ 12 = 12 ∧ 0 ≤ 3000 ∧ (k + 1) ≤ 3000 ∧ 0 ≤ Int.ofNat 0 ∧ Int.ofNat 0 < ((0 + 16 + 1 : Nat) : Int) ∧ 0 + 16 ≤ 0 + 16 ∧ 0 < 0 + 16 ∧ eqStr 16 (fun s => dgN (seaN (fun j => f (o1 - o1 + j)) (fun j => g (o2 - o2 + j)) (k + 1) (flB (fun j => q (o4 - o4 + j)) i e) 0 (seF (fun j => f (o1 - o1 + j)) (fun j => g (o2 - o2 + j)) 0 (fun _ => 0) (k + 1) (fun j => q (o4 - o4 + j)))) (addN 0 s)) (0 + 16 - 0) (fun s => (seF (fun j => f (o1 - o1 + j)) (fun j => g (o2 - o2 + j)) 0 (fun _ => 0) (k + 1) (fun j => q (o4 - o4 + j))) (addN 0 s)) = false ∧ 0 + 16 ≤ 16 ∧ 16 ≤ 16 ∧ 0 + (0 + 16 - 0) ≤ 0 + 16 ∧ endM [0, 1, 2] [wB t1 o1 32 f v1, wB t2 o2 12 g v2, wB t4 o4 (k + 1) q v4] [wB t1 o1 32 f v1, wB t2 o2 12 g v2, wB t4 o4 (k + 1) q v4] (.v1 (.sc (.bo true))) (.v1 (.sc (.bo true)))) ?_ (by kernel_rfl))
  exact ⟨rfl, rfl, ilt_f (i := 2000) (by omega), ilt_f (i := 2000) (by omega), Nat.le_refl _, win_le, kc1, Nat.le_refl _, win_le, kc2, Nat.le_refl _, win_le, kc4, rfl, rfl, Nat.le_trans hN (by decide), Nat.le_trans hK (by decide), wr16 hN, nieq_same, Nat.le_refl _, win_le, kc1, Nat.le_refl _, win_le, kc2, Nat.le_refl _, Nat.le_refl _, win_le, kc4, rfl, rfl, by omega, by omega, Nat.le_trans hK (by decide), same_seal, Nat.le_refl _, win_le, kc1, Nat.le_refl _, win_le, kc2, rfl, rfl, Nat.le_trans hN (by decide), Nat.le_refl _, win_le, kc1, Nat.le_refl _, win_le, kc2, by omega, Nat.le_refl _, rfl, rfl, Nat.le_trans hN (by decide), back_text rfl, by omega, Nat.le_refl _, back_stream, by omega, Nat.le_refl _, wr8 hN hK, by omega, congrArg Int.ofNat hd, Nat.le_refl _, Nat.le_trans (show 0 + 16 ≤ 3000 by omega) (by decide), Nat.le_refl _, win_le, kc4, Nat.le_trans hK (by decide), wr8' hN, ilt_f (by omega), wrD hd6 hj, wrS hji (by omega), wrD hd6 hj, wrS hji (by omega), Int.natCast_nonneg _, lt_ofNat hik, hik, wrM he, Int.natCast_nonneg _, Int.natCast_nonneg _, lt_ofNat hik, hik, Nat.le_refl _, win_le, kc1, Nat.le_refl _, win_le, kc2, Nat.le_refl _, Nat.le_refl _, rfl, rfl, by omega, by omega, Nat.le_trans hK (by decide), hS, wrD hd6 hj, nilt_t (by omega), wrD hd6 hj, ilt_f (by omega), Int.natCast_nonneg _, lt_ofNat (by omega), Nat.le_refl _, Nat.le_refl _, win_le, kc1, Nat.le_refl _, win_le, kc2, by omega, Nat.le_refl _, rfl, rfl, Nat.le_trans hN (by decide), Nat.le_trans hK (by decide), Int.natCast_nonneg _, lt_ofNat (by omega), Nat.le_refl _, by omega, tags_unlike (by omega) (fun t ht => rfl) hS, Nat.le_refl _, Nat.le_refl _, by omega, endM_same rfl rfl⟩
theorem backB_wn1 {t1 o1 c1 t2 o2 c2 t3 o3 c3 N d j e : Nat} {x : Int} {f g b : Nat → Nat} {v1 v2 v3 : WrapV} {w4 : Option Addr} (kc1 : 32 ≤ c1) (kc2 : 12 ≤ c2) (kc3 : N ≤ c3) (hN : N ≤ 2000) (hK : 0 ≤ 2000)
    (hd : pkN x (8 * (N + 0) + 127 + 1) = d) (hj : d / 8 = j) (he : d % 8 = e) (hjs : j < N + 16) (hjn : N ≤ j) (hS : ¬ sameT (fun j => f (o1 - o1 + j)) (fun j => g (o2 - o2 + j)) 0 (fun _ => 0) N (flB (seF (fun j => f (o1 - o1 + j)) (fun j => g (o2 - o2 + j)) N (fun j => b (o3 - o3 + j)) 0 (fun _ => 0)) j e)) : AWqS Try.prog (Dm [wB t1 o1 32 f v1, wB t2 o2 12 g v2, wB t3 o3 N b v3]) (flatC (bodyOf Try.f6)) (fun e s => FEndM tt Try.f6 (upto 0 ([wB t1 o1 32 f v1, wB t2 o2 12 g v2, wB t3 o3 N b v3] : Heap).length) (.v1 (.sc (.bo true))) [wB t1 o1 32 f v1, wB t2 o2 12 g v2, wB t3 o3 N b v3] e s) ⟨frame0 [.v1 (.sc (.sl 0 o1 32 c1)), .v1 (.sc (.sl 1 o2 12 c2)), .v1 (.sc (.sl 2 o3 N c3)), emS w4, iv x] Try.f6.ntmps, [wB t1 o1 32 f v1, wB t2 o2 12 g v2, wB t3 o3 N b v3]⟩ := by
  have hd6 : d < 1000000 := by have := pkN_lt (x := x) (m := 8 * (N + 0) + 127 + 1) (by omega); omega
  refine evS_q mixed tt_ok (gCb_ok 1) 300 [⟨2,2,.lit (.bo false)⟩,⟨2,6,.lit (.bo false)⟩,⟨2,11,.lit (.bo false)⟩,⟨2,16,.lit (.bo false)⟩,⟨5,7,.lit (.it (Int.ofNat (N + 16)))⟩,⟨5,8,.lit (.bo false)⟩,⟨10,5,.lit (.bo true)⟩,⟨10,19,.lit (.bo true)⟩,⟨12,6,.lit (.it (Int.ofNat (8 * (N + 0) + 127 + 1)))⟩,⟨12,8,.lit (.it (Int.ofNat d))⟩,⟨14,3,.lit (.it (Int.ofNat (8 * (N + 16))))⟩,⟨14,4,.lit (.bo true)⟩,⟨15,2,.lit (.it (Int.ofNat j))⟩,⟨15,5,.lit (.it (Int.ofNat j))⟩,⟨15,6,.sym⟩,⟨15,7,.sym⟩,⟨15,9,.lit (.it (Int.ofNat e))⟩,⟨15,10,.sym⟩,⟨15,12,.sym⟩,⟨15,13,.sym⟩,⟨18,1,.lit (.it (Int.ofNat j))⟩,⟨18,4,.lit (.bo true)⟩,⟨18,7,.lit (.it (Int.ofNat j))⟩,⟨18,10,.lit (.bo true)⟩] (same (p := (!ieq (Int.ofNat 32) (Int.ofNat 32)) = false ∧ (!ieq (Int.ofNat 12) (Int.ofNat 12)) = false ∧ ilt 2000 (Int.ofNat N) = false ∧ ilt 2000 (Int.ofNat 0) = false ∧ o1 ≤ o1 ∧ o1 - o1 + 32 ≤ 32 ∧ 32 ≤ c1 ∧ o2 ≤ o2 ∧ o2 - o2 + 12 ≤ 12 ∧ 12 ≤ c2 ∧ o3 ≤ o3 ∧ o3 - o3 + N ≤ N ∧ N ≤ c3 ∧ 32 = 32 ∧ 12 = 12 ∧ N ≤ 1048576 ∧ 0 ≤ 1048576 ∧ wrapI (Int.ofNat N + 16) = Int.ofNat (N + 16) ∧ (!ieq (Int.ofNat (N + 16)) (Int.ofNat (N + 16))) = false ∧ o1 ≤ o1 ∧ o1 - o1 + 32 ≤ 32 ∧ 32 ≤ c1 ∧ o2 ≤ o2 ∧ o2 - o2 + 12 ≤ 12 ∧ 12 ≤ c2 ∧ N + 16 ≤ N + 16 ∧ 32 = 32 ∧ 12 = 12 ∧ 16 ≤ N + 16 ∧ N + 16 ≤ 1048592 ∧ 0 ≤ 1048576 ∧ sameT (fun j => f (o1 - o1 + j)) (fun j => g (o2 - o2 + j)) 0 (fun _ => 0) (N + 16 - 16) (seF (fun j => f (o1 - o1 + j)) (fun j => g (o2 - o2 + j)) N (fun j => b (o3 - o3 + j)) 0 (fun _ => 0)) ∧ o1 ≤ o1 ∧ o1 - o1 + 32 ≤ 32 ∧ 32 ≤ c1 ∧ o2 ≤ o2 ∧ o2 - o2 + 12 ≤ 12 ∧ 12 ≤ c2 ∧ o3 ≤ o3 ∧ o3 - o3 + N ≤ N ∧ N ≤ c3 ∧ 32 = 32 ∧ 12 = 12 ∧ N ≤ 1048576 ∧ o1 ≤ o1 ∧ o1 - o1 + 32 ≤ 32 ∧ 32 ≤ c1 ∧ o2 ≤ o2 ∧ o2 - o2 + 12 ≤ 12 ∧ 12 ≤ c2 ∧ 0 + N ≤ N ∧ N ≤ N ∧ 32 = 32 ∧ 12 = 12 ∧ N ≤ 1048576 ∧ eqStr (N + 16 - 16) (fun j => stF (fun j => f (o1 - o1 + j)) (fun j => g (o2 - o2 + j)) 1 (seF (fun j => f (o1 - o1 + j)) (fun j => g (o2 - o2 + j)) N (fun j => b (o3 - o3 + j)) 0 (fun _ => 0)) (addN 0 j)) N (fun j => b (o3 - o3 + j)) = true ∧ 0 + (N + 16 - 16) ≤ N + 16 - 16 ∧ N + 16 - 16 ≤ N + 16 - 16 ∧ o3 ≤ o3 ∧ o3 - o3 + N ≤ N ∧ N ≤ c3 ∧ eqStr N (fun j => stF (fun j => f (o1 - o1 + j)) (fun j => g (o2 - o2 + j)) 7 (fun j => stF (fun j => f (o1 - o1 + j)) (fun j => g (o2 - o2 + j)) 7 (fun j => b (o3 - o3 + j)) (addN 0 j)) (addN 0 j)) N (fun j => b (o3 - o3 + j)) = true ∧ 0 + N ≤ N ∧ N ≤ N ∧ o3 ≤ o3 ∧ o3 - o3 + N ≤ N ∧ N ≤ c3 ∧ wrapI (8 * wrapI (Int.ofNat (N + 16) + Int.ofNat 0)) = Int.ofNat (8 * (N + 0) + 127 + 1) ∧ 8 * (N + 0) + 127 + 1 < 1000000 ∧ Int.ofNat (pkN x (8 * (N + 0) + 127 + 1)) = Int.ofNat d ∧ N + 16 ≤ N + 16 ∧ N + 16 ≤ limN ∧ wrapI (8 * Int.ofNat (N + 16)) = Int.ofNat (8 * (N + 16)) ∧ ilt (Int.ofNat d) (Int.ofNat (8 * (N + 16))) = true ∧ wrapI ((Int.ofNat d).tdiv 8) = Int.ofNat j ∧ wrapI ((Int.ofNat d).tdiv 8) = Int.ofNat j ∧ 0 ≤ Int.ofNat j ∧ Int.ofNat j < ((N + 16 : Nat) : Int) ∧ j < N + 16 ∧ (Int.ofNat d).tmod 8 = Int.ofNat e ∧ 0 ≤ Int.ofNat e ∧ 0 ≤ Int.ofNat j ∧ Int.ofNat j < ((N + 16 : Nat) : Int) ∧ j < N + 16 ∧ o1 ≤ o1 ∧ o1 - o1 + 32 ≤ 32 ∧ 32 ≤ c1 ∧ o2 ≤ o2 ∧ o2 - o2 + 12 ≤ 12 ∧ 12 ≤ c2 ∧ N + 16 ≤ N + 16 ∧ 0 + 0 ≤ 0 ∧ 0 ≤ 0 ∧ 32 = 32 ∧ 12 = 12 ∧ 16 ≤ N + 16 ∧ N + 16 ≤ 1048592 ∧ 0 ≤ 1048576 ∧ (¬ sameT (fun j => f (o1 - o1 + j)) (fun j => g (o2 - o2 + j)) 0 (fun _ => 0) (N + 16 - 16) (flB (seF (fun j => f (o1 - o1 + j)) (fun j => g (o2 - o2 + j)) N (fun j => b (o3 - o3 + j)) 0 (fun _ => 0)) j e)) ∧ wrapI ((Int.ofNat d).tdiv 8) = Int.ofNat j ∧ (!ilt (Int.ofNat j) (Int.ofNat N)) = true ∧ wrapI ((Int.ofNat d).tdiv 8) = Int.ofNat j ∧ ilt (Int.ofNat j) (Int.ofNat (N + 16)) = true ∧ endM [0, 1, 2] [wB t1 o1 32 f v1, wB t2 o2 12 g v2, wB t3 o3 N b v3] [wB t1 o1 32 f v1, wB t2 o2 12 g v2, wB t3 o3 N b v3] (.v1 (.sc (.bo true))) (.v1 (.sc (.bo true)))) ?_ (by kernel_rfl))
  exact ⟨rfl, rfl, ilt_f (i := 2000) (by omega), ilt_f (i := 2000) (by omega), Nat.le_refl _, win_le, kc1, Nat.le_refl _, win_le, kc2, Nat.le_refl _, win_le, kc3, rfl, rfl, Nat.le_trans hN (by decide), Nat.le_trans hK (by decide), wr16 hN, nieq_same, Nat.le_refl _, win_le, kc1, Nat.le_refl _, win_le, kc2, Nat.le_refl _, rfl, rfl, by omega, by omega, Nat.le_trans hK (by decide), same_seal, Nat.le_refl _, win_le, kc1, Nat.le_refl _, win_le, kc2, Nat.le_refl _, win_le, kc3, rfl, rfl, Nat.le_trans hN (by decide), Nat.le_refl _, win_le, kc1, Nat.le_refl _, win_le, kc2, by omega, Nat.le_refl _, rfl, rfl, Nat.le_trans hN (by decide), back_text rfl, by omega, Nat.le_refl _, Nat.le_refl _, win_le, kc3, back_stream, by omega, Nat.le_refl _, Nat.le_refl _, win_le, kc3, wr8 hN hK, by omega, congrArg Int.ofNat hd, Nat.le_refl _, Nat.le_trans (show N + 16 ≤ 3000 by omega) (by decide), wr8' hN, ilt_t (by omega), wrD hd6 hj, wrD hd6 hj, Int.natCast_nonneg _, lt_ofNat hjs, hjs, wrM he, Int.natCast_nonneg _, Int.natCast_nonneg _, lt_ofNat hjs, hjs, Nat.le_refl _, win_le, kc1, Nat.le_refl _, win_le, kc2, Nat.le_refl _, Nat.le_refl _, Nat.le_refl _, rfl, rfl, by omega, by omega, Nat.le_trans hK (by decide), hS, wrD hd6 hj, nilt_t (by omega), wrD hd6 hj, ilt_t hjs, endM_same rfl rfl⟩
theorem backB_w01 {t1 o1 c1 t2 o2 c2 t3 o3 c3 N t4 o4 c4 d j e : Nat} {x : Int} {f g b q : Nat → Nat} {v1 v2 v3 v4 : WrapV} (kc1 : 32 ≤ c1) (kc2 : 12 ≤ c2) (kc3 : N ≤ c3) (kc4 : 0 ≤ c4) (hN : N ≤ 2000) (hK : 0 ≤ 2000)
    (hd : pkN x (8 * (N + 0) + 127 + 1) = d) (hj : d / 8 = j) (he : d % 8 = e) (hjs : j < N + 16) (hjn : N ≤ j) (hS : ¬ sameT (fun j => f (o1 - o1 + j)) (fun j => g (o2 - o2 + j)) 0 (fun _ => 0) N (flB (seF (fun j => f (o1 - o1 + j)) (fun j => g (o2 - o2 + j)) N (fun j => b (o3 - o3 + j)) 0 (fun j => q (o4 - o4 + j))) j e)) : AWqS Try.prog (Dm [wB t1 o1 32 f v1, wB t2 o2 12 g v2, wB t3 o3 N b v3, wB t4 o4 0 q v4]) (flatC (bodyOf Try.f6)) (fun e s => FEndM tt Try.f6 (upto 0 ([wB t1 o1 32 f v1, wB t2 o2 12 g v2, wB t3 o3 N b v3, wB t4 o4 0 q v4] : Heap).length) (.v1 (.sc (.bo true))) [wB t1 o1 32 f v1, wB t2 o2 12 g v2, wB t3 o3 N b v3, wB t4 o4 0 q v4] e s) ⟨frame0 [.v1 (.sc (.sl 0 o1 32 c1)), .v1 (.sc (.sl 1 o2 12 c2)), .v1 (.sc (.sl 2 o3 N c3)), .v1 (.sc (.sl 3 o4 0 c4)), iv x] Try.f6.ntmps, [wB t1 o1 32 f v1, wB t2 o2 12 g v2, wB t3 o3 N b v3, wB t4 o4 0 q v4]⟩ := by
  have hd6 : d < 1000000 := by have := pkN_lt (x := x) (m := 8 * (N + 0) + 127 + 1) (by omega); omega
  refine evS_q mixed tt_ok (gCb_ok 1) 300 [⟨2,2,.lit (.bo false)⟩,⟨2,6,.lit (.bo false)⟩,⟨2,11,.lit (.bo false)⟩,⟨2,16,.lit (.bo false)⟩,⟨5,7,.lit (.it (Int.ofNat (N + 16)))⟩,⟨5,8,.lit (.bo false)⟩,⟨10,5,.lit (.bo true)⟩,⟨10,19,.lit (.bo true)⟩,⟨12,6,.lit (.it (Int.ofNat (8 * (N + 0) + 127 + 1)))⟩,⟨12,8,.lit (.it (Int.ofNat d))⟩,⟨14,3,.lit (.it (Int.ofNat (8 * (N + 16))))⟩,⟨14,4,.lit (.bo true)⟩,⟨15,2,.lit (.it (Int.ofNat j))⟩,⟨15,5,.lit (.it (Int.ofNat j))⟩,⟨15,6,.sym⟩,⟨15,7,.sym⟩,⟨15,9,.lit (.it (Int.ofNat e))⟩,⟨15,10,.sym⟩,⟨15,12,.sym⟩,⟨15,13,.sym⟩,⟨18,1,.lit (.it (Int.ofNat j))⟩,⟨18,4,.lit (.bo true)⟩,⟨18,7,.lit (.it (Int.ofNat j))⟩,⟨18,10,.lit (.bo true)⟩] (same (p := (!ieq (Int.ofNat 32) (Int.ofNat 32)) = false ∧ (!ieq (Int.ofNat 12) (Int.ofNat 12)) = false ∧ ilt 2000 (Int.ofNat N) = false ∧ ilt 2000 (Int.ofNat 0) = false ∧ o1 ≤ o1 ∧ o1 - o1 + 32 ≤ 32 ∧ 32 ≤ c1 ∧ o2 ≤ o2 ∧ o2 - o2 + 12 ≤ 12 ∧ 12 ≤ c2 ∧ o3 ≤ o3 ∧ o3 - o3 + N ≤ N ∧ N ≤ c3 ∧ o4 ≤ o4 ∧ o4 - o4 + 0 ≤ 0 ∧ 0 ≤ c4 ∧ 32 = 32 ∧ 12 = 12 ∧ N ≤ 1048576 ∧ 0 ≤ 1048576 ∧ wrapI (Int.ofNat N + 16) = Int.ofNat (N + 16) ∧ (!ieq (Int.ofNat (N + 16)) (Int.ofNat (N + 16))) = false ∧ o1 ≤ o1 ∧ o1 - o1 + 32 ≤ 32 ∧ 32 ≤ c1 ∧ o2 ≤ o2 ∧ o2 - o2 + 12 ≤ 12 ∧ 12 ≤ c2 ∧ N + 16 ≤ N + 16 ∧ o4 ≤ o4 ∧ o4 - o4 + 0 ≤ 0 ∧ 0 ≤ c4 ∧ 32 = 32 ∧ 12 = 12 ∧ 16 ≤ N + 16 ∧ N + 16 ≤ 1048592 ∧ 0 ≤ 1048576 ∧ sameT (fun j => f (o1 - o1 + j)) (fun j => g (o2 - o2 + j)) 0 (fun j => q (o4 - o4 + j)) (N + 16 - 16) (seF (fun j => f (o1 - o1 + j)) (fun j => g (o2 - o2 + j)) N (fun j => b (o3 - o3 + j)) 0 (fun j => q (o4 - o4 + j))) ∧ o1 ≤ o1 ∧ o1 - o1 + 32 ≤ 32 ∧ 32 ≤ c1 ∧ o2 ≤ o2 ∧ o2 - o2 + 12 ≤ 12 ∧ 12 ≤ c2 ∧ o3 ≤ o3 ∧ o3 - o3 + N ≤ N ∧ N ≤ c3 ∧ 32 = 32 ∧ 12 = 12 ∧ N ≤ 1048576 ∧ o1 ≤ o1 ∧ o1 - o1 + 32 ≤ 32 ∧ 32 ≤ c1 ∧ o2 ≤ o2 ∧ o2 - o2 + 12 ≤ 12 ∧ 12 ≤ c2 ∧ 0 + N ≤ N ∧ N ≤ N ∧ 32 = 32 ∧ 12 = 12 ∧ N ≤ 1048576 ∧ eqStr (N + 16 - 16) (fun j => stF (fun j => f (o1 - o1 + j)) (fun j => g (o2 - o2 + j)) 1 (seF (fun j => f (o1 - o1 + j)) (fun j => g (o2 - o2 + j)) N (fun j => b (o3 - o3 + j)) 0 (fun j => q (o4 - o4 + j))) (addN 0 j)) N (fun j => b (o3 - o3 + j)) = true ∧ 0 + (N + 16 - 16) ≤ N + 16 - 16 ∧ N + 16 - 16 ≤ N + 16 - 16 ∧ o3 ≤ o3 ∧ o3 - o3 + N ≤ N ∧ N ≤ c3 ∧ eqStr N (fun j => stF (fun j => f (o1 - o1 + j)) (fun j => g (o2 - o2 + j)) 7 (fun j => stF (fun j => f (o1 - o1 + j)) (fun j => g (o2 - o2 + j)) 7 (fun j => b (o3 - o3 + j)) (addN 0 j)) (addN 0 j)) N (fun j => b (o3 - o3 + j)) = true ∧ 0 + N ≤ N ∧ N ≤ N ∧ o3 ≤ o3 ∧ o3 - o3 + N ≤ N ∧ N ≤ c3 ∧ wrapI (8 * wrapI (Int.ofNat (N + 16) + Int.ofNat 0)) = Int.ofNat (8 * (N + 0) + 127 + 1) ∧ 8 * (N + 0) + 127 + 1 < 1000000 ∧ Int.ofNat (pkN x (8 * (N + 0) + 127 + 1)) = Int.ofNat d ∧ N + 16 ≤ N + 16 ∧ N + 16 ≤ limN ∧ o4 ≤ o4 ∧ o4 - o4 + 0 ≤ 0 ∧ 0 ≤ c4 ∧ wrapI (8 * Int.ofNat (N + 16)) = Int.ofNat (8 * (N + 16)) ∧ ilt (Int.ofNat d) (Int.ofNat (8 * (N + 16))) = true ∧ wrapI ((Int.ofNat d).tdiv 8) = Int.ofNat j ∧ wrapI ((Int.ofNat d).tdiv 8) = Int.ofNat j ∧ 0 ≤ Int.ofNat j ∧ Int.ofNat j < ((N + 16 : Nat) : Int) ∧ j < N + 16 ∧ (Int.ofNat d).tmod 8 = Int.ofNat e ∧ 0 ≤ Int.ofNat e ∧ 0 ≤ Int.ofNat j ∧ Int.ofNat j < ((N + 16 : Nat) : Int) ∧ j < N + 16 ∧ o1 ≤ o1 ∧ o1 - o1 + 32 ≤ 32 ∧ 32 ≤ c1 ∧ o2 ≤ o2 ∧ o2 - o2 + 12 ≤ 12 ∧ 12 ≤ c2 ∧ N + 16 ≤ N + 16 ∧ 0 + 0 ≤ 0 ∧ 0 ≤ 0 ∧ 32 = 32 ∧ 12 = 12 ∧ 16 ≤ N + 16 ∧ N + 16 ≤ 1048592 ∧ 0 ≤ 1048576 ∧ (¬ sameT (fun j => f (o1 - o1 + j)) (fun j => g (o2 - o2 + j)) 0 (fun _ => 0) (N + 16 - 16) (flB (seF (fun j => f (o1 - o1 + j)) (fun j => g (o2 - o2 + j)) N (fun j => b (o3 - o3 + j)) 0 (fun j => q (o4 - o4 + j))) j e)) ∧ wrapI ((Int.ofNat d).tdiv 8) = Int.ofNat j ∧ (!ilt (Int.ofNat j) (Int.ofNat N)) = true ∧ wrapI ((Int.ofNat d).tdiv 8) = Int.ofNat j ∧ ilt (Int.ofNat j) (Int.ofNat (N + 16)) = true ∧ endM [0, 1, 2, 3] [wB t1 o1 32 f v1, wB t2 o2 12 g v2, wB t3 o3 N b v3, wB t4 o4 0 q v4] [wB t1 o1 32 f v1, wB t2 o2 12 g v2, wB t3 o3 N b v3, wB t4 o4 0 q v4] (.v1 (.sc (.bo true))) (.v1 (.sc (.bo true)))) ?_ (by kernel_rfl))
  exact ⟨rfl, rfl, ilt_f (i := 2000) (by omega), ilt_f (i := 2000) (by omega), Nat.le_refl _, win_le, kc1, Nat.le_refl _, win_le, kc2, Nat.le_refl _, win_le, kc3, Nat.le_refl _, win_le, kc4, rfl, rfl, Nat.le_trans hN (by decide), Nat.le_trans hK (by decide), wr16 hN, nieq_same, Nat.le_refl _, win_le, kc1, Nat.le_refl _, win_le, kc2, Nat.le_refl _, Nat.le_refl _, win_le, kc4, rfl, rfl, by omega, by omega, Nat.le_trans hK (by decide), same_seal, Nat.le_refl _, win_le, kc1, Nat.le_refl _, win_le, kc2, Nat.le_refl _, win_le, kc3, rfl, rfl, Nat.le_trans hN (by decide), Nat.le_refl _, win_le, kc1, Nat.le_refl _, win_le, kc2, by omega, Nat.le_refl _, rfl, rfl, Nat.le_trans hN (by decide), back_text rfl, by omega, Nat.le_refl _, Nat.le_refl _, win_le, kc3, back_stream, by omega, Nat.le_refl _, Nat.le_refl _, win_le, kc3, wr8 hN hK, by omega, congrArg Int.ofNat hd, Nat.le_refl _, Nat.le_trans (show N + 16 ≤ 3000 by omega) (by decide), Nat.le_refl _, win_le, kc4, wr8' hN, ilt_t (by omega), wrD hd6 hj, wrD hd6 hj, Int.natCast_nonneg _, lt_ofNat hjs, hjs, wrM he, Int.natCast_nonneg _, Int.natCast_nonneg _, lt_ofNat hjs, hjs, Nat.le_refl _, win_le, kc1, Nat.le_refl _, win_le, kc2, Nat.le_refl _, Nat.le_refl _, Nat.le_refl _, rfl, rfl, by omega, by omega, Nat.le_trans hK (by decide), hS, wrD hd6 hj, nilt_t (by omega), wrD hd6 hj, ilt_t hjs, endM_same rfl rfl⟩
theorem backB_ww1 {t1 o1 c1 t2 o2 c2 t3 o3 c3 N t4 o4 c4 k d j e : Nat} {x : Int} {f g b q : Nat → Nat} {v1 v2 v3 v4 : WrapV} (kc1 : 32 ≤ c1) (kc2 : 12 ≤ c2) (kc3 : N ≤ c3) (kc4 : (k + 1) ≤ c4) (hN : N ≤ 2000) (hK : (k + 1) ≤ 2000)
    (hd : pkN x (8 * (N + (k + 1)) + 127 + 1) = d) (hj : d / 8 = j) (he : d % 8 = e) (hjs : j < N + 16) (hjn : N ≤ j) (hS : ¬ sameT (fun j => f (o1 - o1 + j)) (fun j => g (o2 - o2 + j)) (k + 1) (fun j => q (o4 - o4 + j)) N (flB (seF (fun j => f (o1 - o1 + j)) (fun j => g (o2 - o2 + j)) N (fun j => b (o3 - o3 + j)) (k + 1) (fun j => q (o4 - o4 + j))) j e)) : AWqS Try.prog (Dm [wB t1 o1 32 f v1, wB t2 o2 12 g v2, wB t3 o3 N b v3, wB t4 o4 (k + 1) q v4]) (flatC (bodyOf Try.f6)) (fun e s => FEndM tt Try.f6 (upto 0 ([wB t1 o1 32 f v1, wB t2 o2 12 g v2, wB t3 o3 N b v3, wB t4 o4 (k + 1) q v4] : Heap).length) (.v1 (.sc (.bo true))) [wB t1 o1 32 f v1, wB t2 o2 12 g v2, wB t3 o3 N b v3, wB t4 o4 (k + 1) q v4] e s) ⟨frame0 [.v1 (.sc (.sl 0 o1 32 c1)), .v1 (.sc (.sl 1 o2 12 c2)), .v1 (.sc (.sl 2 o3 N c3)), .v1 (.sc (.sl 3 o4 (k + 1) c4)), iv x] Try.f6.ntmps, [wB t1 o1 32 f v1, wB t2 o2 12 g v2, wB t3 o3 N b v3, wB t4 o4 (k + 1) q v4]⟩ := by
  have hd6 : d < 1000000 := by have := pkN_lt (x := x) (m := 8 * (N + (k + 1)) + 127 + 1) (by omega); omega
  refine evS_q mixed tt_ok (gCb_ok 1) 300 [⟨2,2,.lit (.bo false)⟩,⟨2,6,.lit (.bo false)⟩,⟨2,11,.lit (.bo false)⟩,⟨2,16,.lit (.bo false)⟩,⟨5,7,.lit (.it (Int.ofNat (N + 16)))⟩,⟨5,8,.lit (.bo false)⟩,⟨10,5,.lit (.bo true)⟩,⟨10,19,.lit (.bo true)⟩,⟨12,6,.lit (.it (Int.ofNat (8 * (N + (k + 1)) + 127 + 1)))⟩,⟨12,8,.lit (.it (Int.ofNat d))⟩,⟨14,3,.lit (.it (Int.ofNat (8 * (N + 16))))⟩,⟨14,4,.lit (.bo true)⟩,⟨15,2,.lit (.it (Int.ofNat j))⟩,⟨15,5,.lit (.it (Int.ofNat j))⟩,⟨15,6,.sym⟩,⟨15,7,.sym⟩,⟨15,9,.lit (.it (Int.ofNat e))⟩,⟨15,10,.sym⟩,⟨15,12,.sym⟩,⟨15,13,.sym⟩,⟨18,1,.lit (.it (Int.ofNat j))⟩,⟨18,4,.lit (.bo true)⟩,⟨18,7,.lit (.it (Int.ofNat j))⟩,⟨18,10,.lit (.bo true)⟩] (same (p := (!ieq (Int.ofNat 32) (Int.ofNat 32)) = false ∧ (!ieq (Int.ofNat 12) (Int.ofNat 12)) = false ∧ ilt 2000 (Int.ofNat N) = false ∧ ilt 2000 (Int.ofNat (k + 1)) = false ∧ o1 ≤ o1 ∧ o1 - o1 + 32 ≤ 32 ∧ 32 ≤ c1 ∧ o2 ≤ o2 ∧ o2 - o2 + 12 ≤ 12 ∧ 12 ≤ c2 ∧ o3 ≤ o3 ∧ o3 - o3 + N ≤ N ∧ N ≤ c3 ∧ o4 ≤ o4 ∧ o4 - o4 + (k + 1) ≤ (k + 1) ∧ (k + 1) ≤ c4 ∧ 32 = 32 ∧ 12 = 12 ∧ N ≤ 1048576 ∧ (k + 1) ≤ 1048576 ∧ wrapI (Int.ofNat N + 16) = Int.ofNat (N + 16) ∧ (!ieq (Int.ofNat (N + 16)) (Int.ofNat (N + 16))) = false ∧ o1 ≤ o1 ∧ o1 - o1 + 32 ≤ 32 ∧ 32 ≤ c1 ∧ o2 ≤ o2 ∧ o2 - o2 + 12 ≤ 12 ∧ 12 ≤ c2 ∧ N + 16 ≤ N + 16 ∧ o4 ≤ o4 ∧ o4 - o4 + (k + 1) ≤ (k + 1) ∧ (k + 1) ≤ c4 ∧ 32 = 32 ∧ 12 = 12 ∧ 16 ≤ N + 16 ∧ N + 16 ≤ 1048592 ∧ (k + 1) ≤ 1048576 ∧ sameT (fun j => f (o1 - o1 + j)) (fun j => g (o2 - o2 + j)) (k + 1) (fun j => q (o4 - o4 + j)) (N + 16 - 16) (seF (fun j => f (o1 - o1 + j)) (fun j => g (o2 - o2 + j)) N (fun j => b (o3 - o3 + j)) (k + 1) (fun j => q (o4 - o4 + j))) ∧ o1 ≤ o1 ∧ o1 - o1 + 32 ≤ 32 ∧ 32 ≤ c1 ∧ o2 ≤ o2 ∧ o2 - o2 + 12 ≤ 12 ∧ 12 ≤ c2 ∧ o3 ≤ o3 ∧ o3 - o3 + N ≤ N ∧ N ≤ c3 ∧ 32 = 32 ∧ 12 = 12 ∧ N ≤ 1048576 ∧ o1 ≤ o1 ∧ o1 - o1 + 32 ≤ 32 ∧ 32 ≤ c1 ∧ o2 ≤ o2 ∧ o2 - o2 + 12 ≤ 12 ∧ 12 ≤ c2 ∧ 0 + N ≤ N ∧ N ≤ N ∧ 32 = 32 ∧ 12 = 12 ∧ N ≤ 1048576 ∧ eqStr (N + 16 - 16) (fun j => stF (fun j => f (o1 - o1 + j)) (fun j => g (o2 - o2 + j)) 1 (seF (fun j => f (o1 - o1 + j)) (fun j => g (o2 - o2 + j)) N (fun j => b (o3 - o3 + j)) (k + 1) (fun j => q (o4 - o4 + j))) (addN 0 j)) N (fun j => b (o3 - o3 + j)) = true ∧ 0 + (N + 16 - 16) ≤ N + 16 - 16 ∧ N + 16 - 16 ≤ N + 16 - 16 ∧ o3 ≤ o3 ∧ o3 - o3 + N ≤ N ∧ N ≤ c3 ∧ eqStr N (fun j => stF (fun j => f (o1 - o1 + j)) (fun j => g (o2 - o2 + j)) 7 (fun j => stF (fun j => f (o1 - o1 + j)) (fun j => g (o2 - o2 + j)) 7 (fun j => b (o3 - o3 + j)) (addN 0 j)) (addN 0 j)) N (fun j => b (o3 - o3 + j)) = true ∧ 0 + N ≤ N ∧ N ≤ N ∧ o3 ≤ o3 ∧ o3 - o3 + N ≤ N ∧ N ≤ c3 ∧ wrapI (8 * wrapI (Int.ofNat (N + 16) + Int.ofNat (k + 1))) = Int.ofNat (8 * (N + (k + 1)) + 127 + 1) ∧ 8 * (N + (k + 1)) + 127 + 1 < 1000000 ∧ Int.ofNat (pkN x (8 * (N + (k + 1)) + 127 + 1)) = Int.ofNat d ∧ N + 16 ≤ N + 16 ∧ N + 16 ≤ limN ∧ o4 ≤ o4 ∧ o4 - o4 + (k + 1) ≤ (k + 1) ∧ (k + 1) ≤ c4 ∧ k + 1 ≤ limN ∧ wrapI (8 * Int.ofNat (N + 16)) = Int.ofNat (8 * (N + 16)) ∧ ilt (Int.ofNat d) (Int.ofNat (8 * (N + 16))) = true ∧ wrapI ((Int.ofNat d).tdiv 8) = Int.ofNat j ∧ wrapI ((Int.ofNat d).tdiv 8) = Int.ofNat j ∧ 0 ≤ Int.ofNat j ∧ Int.ofNat j < ((N + 16 : Nat) : Int) ∧ j < N + 16 ∧ (Int.ofNat d).tmod 8 = Int.ofNat e ∧ 0 ≤ Int.ofNat e ∧ 0 ≤ Int.ofNat j ∧ Int.ofNat j < ((N + 16 : Nat) : Int) ∧ j < N + 16 ∧ o1 ≤ o1 ∧ o1 - o1 + 32 ≤ 32 ∧ 32 ≤ c1 ∧ o2 ≤ o2 ∧ o2 - o2 + 12 ≤ 12 ∧ 12 ≤ c2 ∧ N + 16 ≤ N + 16 ∧ k + 1 ≤ k + 1 ∧ 32 = 32 ∧ 12 = 12 ∧ 16 ≤ N + 16 ∧ N + 16 ≤ 1048592 ∧ (k + 1) ≤ 1048576 ∧ (¬ sameT (fun j => f (o1 - o1 + j)) (fun j => g (o2 - o2 + j)) (k + 1) (fun j => q (o4 - o4 + j)) (N + 16 - 16) (flB (seF (fun j => f (o1 - o1 + j)) (fun j => g (o2 - o2 + j)) N (fun j => b (o3 - o3 + j)) (k + 1) (fun j => q (o4 - o4 + j))) j e)) ∧ wrapI ((Int.ofNat d).tdiv 8) = Int.ofNat j ∧ (!ilt (Int.ofNat j) (Int.ofNat N)) = true ∧ wrapI ((Int.ofNat d).tdiv 8) = Int.ofNat j ∧ ilt (Int.ofNat j) (Int.ofNat (N + 16)) = true ∧ endM [0, 1, 2, 3] [wB t1 o1 32 f v1, wB t2 o2 12 g v2, wB t3 o3 N b v3, wB t4 o4 (k + 1) q v4] [wB t1 o1 32 f v1, wB t2 o2 12 g v2, wB t3 o3 N b v3, wB t4 o4 (k + 1) q v4] (.v1 (.sc (.bo true))) (.v1 (.sc (.bo true)))) ?_ (by kernel_rfl))
  exact ⟨rfl, rfl, ilt_f (i := 2000) (by omega), ilt_f (i := 2000) (by omega), Nat.le_refl _, win_le, kc1, Nat.le_refl _, win_le, kc2, Nat.le_refl _, win_le, kc3, Nat.le_refl _, win_le, kc4, rfl, rfl, Nat.le_trans hN (by decide), Nat.le_trans hK (by decide), wr16 hN, nieq_same, Nat.le_refl _, win_le, kc1, Nat.le_refl _, win_le, kc2, Nat.le_refl _, Nat.le_refl _, win_le, kc4, rfl, rfl, by omega, by omega, Nat.le_trans hK (by decide), same_seal, Nat.le_refl _, win_le, kc1, Nat.le_refl _, win_le, kc2, Nat.le_refl _, win_le, kc3, rfl, rfl, Nat.le_trans hN (by decide), Nat.le_refl _, win_le, kc1, Nat.le_refl _, win_le, kc2, by omega, Nat.le_refl _, rfl, rfl, Nat.le_trans hN (by decide), back_text rfl, by omega, Nat.le_refl _, Nat.le_refl _, win_le, kc3, back_stream, by omega, Nat.le_refl _, Nat.le_refl _, win_le, kc3, wr8 hN hK, by omega, congrArg Int.ofNat hd, Nat.le_refl _, Nat.le_trans (show N + 16 ≤ 3000 by omega) (by decide), Nat.le_refl _, win_le, kc4, Nat.le_trans hK (by decide), wr8' hN, ilt_t (by omega), wrD hd6 hj, wrD hd6 hj, Int.natCast_nonneg _, lt_ofNat hjs, hjs, wrM he, Int.natCast_nonneg _, Int.natCast_nonneg _, lt_ofNat hjs, hjs, Nat.le_refl _, win_le, kc1, Nat.le_refl _, win_le, kc2, Nat.le_refl _, Nat.le_refl _, rfl, rfl, by omega, by omega, Nat.le_trans hK (by decide), hS, wrD hd6 hj, nilt_t (by omega), wrD hd6 hj, ilt_t hjs, endM_same rfl rfl⟩
theorem backC_ww0 {t1 o1 c1 t2 o2 c2 t3 o3 c3 N t4 o4 c4 k d j e i : Nat} {x : Int} {f g b q : Nat → Nat} {v1 v2 v3 v4 : WrapV} (kc1 : 32 ≤ c1) (kc2 : 12 ≤ c2) (kc3 : N ≤ c3) (kc4 : (k + 1) ≤ c4) (hN : N ≤ 2000) (hK : (k + 1) ≤ 2000)
    (hd : pkN x (8 * (N + (k + 1)) + 127 + 1) = d) (hj : d / 8 = j) (he : d % 8 = e) (hji : j = N + 16 + i) (hik : i < k + 1) (hS : sameT (fun j => f (o1 - o1 + j)) (fun j => g (o2 - o2 + j)) (k + 1) (flB (fun j => q (o4 - o4 + j)) i e) N (seF (fun j => f (o1 - o1 + j)) (fun j => g (o2 - o2 + j)) N (fun j => b (o3 - o3 + j)) (k + 1) (fun j => q (o4 - o4 + j)))) : AWqS Try.prog (Dm [wB t1 o1 32 f v1, wB t2 o2 12 g v2, wB t3 o3 N b v3, wB t4 o4 (k + 1) q v4]) (flatC (bodyOf Try.f6)) (fun e s => FEndM tt Try.f6 (upto 0 ([wB t1 o1 32 f v1, wB t2 o2 12 g v2, wB t3 o3 N b v3, wB t4 o4 (k + 1) q v4] : Heap).length) (.v1 (.sc (.bo true))) [wB t1 o1 32 f v1, wB t2 o2 12 g v2, wB t3 o3 N b v3, wB t4 o4 (k + 1) q v4] e s) ⟨frame0 [.v1 (.sc (.sl 0 o1 32 c1)), .v1 (.sc (.sl 1 o2 12 c2)), .v1 (.sc (.sl 2 o3 N c3)), .v1 (.sc (.sl 3 o4 (k + 1) c4)), iv x] Try.f6.ntmps, [wB t1 o1 32 f v1, wB t2 o2 12 g v2, wB t3 o3 N b v3, wB t4 o4 (k + 1) q v4]⟩ := by
  have hd6 : d < 1000000 := by have := pkN_lt (x := x) (m := 8 * (N + (k + 1)) + 127 + 1) (by omega); omega
  refine evS_q mixed tt_ok (gCb_ok 0) 300 [⟨2,2,.lit (.bo false)⟩,⟨2,6,.lit (.bo false)⟩,⟨2,11,.lit (.bo false)⟩,⟨2,16,.lit (.bo false)⟩,⟨5,7,.lit (.it (Int.ofNat (N + 16)))⟩,⟨5,8,.lit (.bo false)⟩,⟨10,5,.lit (.bo true)⟩,⟨10,19,.lit (.bo true)⟩,⟨12,6,.lit (.it (Int.ofNat (8 * (N + (k + 1)) + 127 + 1)))⟩,⟨12,8,.lit (.it (Int.ofNat d))⟩,⟨14,3,.lit (.it (Int.ofNat (8 * (N + 16))))⟩,⟨14,4,.lit (.bo false)⟩,⟨16,2,.lit (.it (Int.ofNat j))⟩,⟨16,5,.lit (.it (Int.ofNat i))⟩,⟨16,8,.lit (.it (Int.ofNat j))⟩,⟨16,11,.lit (.it (Int.ofNat i))⟩,⟨16,12,.sym⟩,⟨16,13,.sym⟩,⟨16,15,.lit (.it (Int.ofNat e))⟩,⟨16,16,.sym⟩,⟨16,18,.sym⟩,⟨16,19,.sym⟩,⟨18,1,.lit (.it (Int.ofNat j))⟩,⟨18,4,.lit (.bo true)⟩,⟨18,7,.lit (.it (Int.ofNat j))⟩,⟨18,10,.lit (.bo false)⟩,⟨20,5,.sym⟩,⟨21,11,.sym⟩,⟨21,12,.lit (.bo true)⟩] (same (p := (!ieq (Int.ofNat 32) (Int.ofNat 32)) = false ∧ (!ieq (Int.ofNat 12) (Int.ofNat 12)) = false ∧ ilt 2000 (Int.ofNat N) = false ∧ ilt 2000 (Int.ofNat (k + 1)) = false ∧ o1 ≤ o1 ∧ o1 - o1 + 32 ≤ 32 ∧ 32 ≤ c1 ∧ o2 ≤ o2 ∧ o2 - o2 + 12 ≤ 12 ∧ 12 ≤ c2 ∧ o3 ≤ o3 ∧ o3 - o3 + N ≤ N ∧ N ≤ c3 ∧ o4 ≤ o4 ∧ o4 - o4 + (k + 1) ≤ (k + 1) ∧ (k + 1) ≤ c4 ∧ 32 = 32 ∧ 12 = 12 ∧ N ≤ 1048576 ∧ (k + 1) ≤ 1048576 ∧ wrapI (Int.ofNat N + 16) = Int.ofNat (N + 16) ∧ (!ieq (Int.ofNat (N + 16)) (Int.ofNat (N + 16))) = false ∧ o1 ≤ o1 ∧ o1 - o1 + 32 ≤ 32 ∧ 32 ≤ c1 ∧ o2 ≤ o2 ∧ o2 - o2 + 12 ≤ 12 ∧ 12 ≤ c2 ∧ N + 16 ≤ N + 16 ∧ o4 ≤ o4 ∧ o4 - o4 + (k + 1) ≤ (k + 1) ∧ (k + 1) ≤ c4 ∧ 32 = 32 ∧ 12 = 12 ∧ 16 ≤ N + 16 ∧ N + 16 ≤ 1048592 ∧ (k + 1) ≤ 1048576 ∧ sameT (fun j => f (o1 - o1 + j)) (fun j => g (o2 - o2 + j)) (k + 1) (fun j => q (o4 - o4 + j)) (N + 16 - 16) (seF (fun j => f (o1 - o1 + j)) (fun j => g (o2 - o2 + j)) N (fun j => b (o3 - o3 + j)) (k + 1) (fun j => q (o4 - o4 + j))) ∧ o1 ≤ o1 ∧ o1 - o1 + 32 ≤ 32 ∧ 32 ≤ c1 ∧ o2 ≤ o2 ∧ o2 - o2 + 12 ≤ 12 ∧ 12 ≤ c2 ∧ o3 ≤ o3 ∧ o3 - o3 + N ≤ N ∧ N ≤ c3 ∧ 32 = 32 ∧ 12 = 12 ∧ N ≤ 1048576 ∧ o1 ≤ o1 ∧ o1 - o1 + 32 ≤ 32 ∧ 32 ≤ c1 ∧ o2 ≤ o2 ∧ o2 - o2 + 12 ≤ 12 ∧ 12 ≤ c2 ∧ 0 + N ≤ N ∧ N ≤ N ∧ 32 = 32 ∧ 12 = 12 ∧ N ≤ 1048576 ∧ eqStr (N + 16 - 16) (fun j => stF (fun j => f (o1 - o1 + j)) (fun j => g (o2 - o2 + j)) 1 (seF (fun j => f (o1 - o1 + j)) (fun j => g (o2 - o2 + j)) N (fun j => b (o3 - o3 + j)) (k + 1) (fun j => q (o4 - o4 + j))) (addN 0 j)) N (fun j => b (o3 - o3 + j)) = true ∧ 0 + (N + 16 - 16) ≤ N + 16 - 16 ∧ N + 16 - 16 ≤ N + 16 - 16 ∧ o3 ≤ o3 ∧ o3 - o3 + N ≤ N ∧ N ≤ c3 ∧ eqStr N (fun j => stF (fun j => f (o1 - o1 + j)) (fun j => g (o2 - o2 + j)) 7 (fun j => stF (fun j => f (o1 - o1 + j)) (fun j => g (o2 - o2 + j)) 7 (fun j => b (o3 - o3 + j)) (addN 0 j)) (addN 0 j)) N (fun j => b (o3 - o3 + j)) = true ∧ 0 + N ≤ N ∧ N ≤ N ∧ o3 ≤ o3 ∧ o3 - o3 + N ≤ N ∧ N ≤ c3 ∧ wrapI (8 * wrapI (Int.ofNat (N + 16) + Int.ofNat (k + 1))) = Int.ofNat (8 * (N + (k + 1)) + 127 + 1) ∧ 8 * (N + (k + 1)) + 127 + 1 < 1000000 ∧ Int.ofNat (pkN x (8 * (N + (k + 1)) + 127 + 1)) = Int.ofNat d ∧ N + 16 ≤ N + 16 ∧ N + 16 ≤ limN ∧ o4 ≤ o4 ∧ o4 - o4 + (k + 1) ≤ (k + 1) ∧ (k + 1) ≤ c4 ∧ k + 1 ≤ limN ∧ wrapI (8 * Int.ofNat (N + 16)) = Int.ofNat (8 * (N + 16)) ∧ ilt (Int.ofNat d) (Int.ofNat (8 * (N + 16))) = false ∧ wrapI ((Int.ofNat d).tdiv 8) = Int.ofNat j ∧ wrapI (Int.ofNat j - Int.ofNat (N + 16)) = Int.ofNat i ∧ wrapI ((Int.ofNat d).tdiv 8) = Int.ofNat j ∧ wrapI (Int.ofNat j - Int.ofNat (N + 16)) = Int.ofNat i ∧ 0 ≤ Int.ofNat i ∧ Int.ofNat i < ((k + 1 : Nat) : Int) ∧ i < k + 1 ∧ (Int.ofNat d).tmod 8 = Int.ofNat e ∧ 0 ≤ Int.ofNat e ∧ 0 ≤ Int.ofNat i ∧ Int.ofNat i < ((k + 1 : Nat) : Int) ∧ i < k + 1 ∧ o1 ≤ o1 ∧ o1 - o1 + 32 ≤ 32 ∧ 32 ≤ c1 ∧ o2 ≤ o2 ∧ o2 - o2 + 12 ≤ 12 ∧ 12 ≤ c2 ∧ N + 16 ≤ N + 16 ∧ k + 1 ≤ k + 1 ∧ 32 = 32 ∧ 12 = 12 ∧ 16 ≤ N + 16 ∧ N + 16 ≤ 1048592 ∧ (k + 1) ≤ 1048576 ∧ (sameT (fun j => f (o1 - o1 + j)) (fun j => g (o2 - o2 + j)) (k + 1) (flB (fun j => q (o4 - o4 + j)) i e) (N + 16 - 16) (seF (fun j => f (o1 - o1 + j)) (fun j => g (o2 - o2 + j)) N (fun j => b (o3 - o3 + j)) (k + 1) (fun j => q (o4 - o4 + j)))) ∧ wrapI ((Int.ofNat d).tdiv 8) = Int.ofNat j ∧ (!ilt (Int.ofNat j) (Int.ofNat N)) = true ∧ wrapI ((Int.ofNat d).tdiv 8) = Int.ofNat j ∧ ilt (Int.ofNat j) (Int.ofNat (N + 16)) = false ∧ 0 ≤ Int.ofNat N ∧ Int.ofNat N < ((N + 16 + 1 : Nat) : Int) ∧ N + 16 ≤ N + 16 ∧ o1 ≤ o1 ∧ o1 - o1 + 32 ≤ 32 ∧ 32 ≤ c1 ∧ o2 ≤ o2 ∧ o2 - o2 + 12 ≤ 12 ∧ 12 ≤ c2 ∧ N ≤ N + 16 ∧ k + 1 ≤ k + 1 ∧ 32 = 32 ∧ 12 = 12 ∧ N ≤ 3000 ∧ (k + 1) ≤ 3000 ∧ 0 ≤ Int.ofNat N ∧ Int.ofNat N < ((N + 16 + 1 : Nat) : Int) ∧ N + 16 ≤ N + 16 ∧ N < N + 16 ∧ eqStr 16 (fun s => dgN (seaN (fun j => f (o1 - o1 + j)) (fun j => g (o2 - o2 + j)) (k + 1) (flB (fun j => q (o4 - o4 + j)) i e) N (seF (fun j => f (o1 - o1 + j)) (fun j => g (o2 - o2 + j)) N (fun j => b (o3 - o3 + j)) (k + 1) (fun j => q (o4 - o4 + j)))) (addN 0 s)) (N + 16 - N) (fun s => (seF (fun j => f (o1 - o1 + j)) (fun j => g (o2 - o2 + j)) N (fun j => b (o3 - o3 + j)) (k + 1) (fun j => q (o4 - o4 + j))) (addN N s)) = true ∧ 0 + 16 ≤ 16 ∧ 16 ≤ 16 ∧ N + (N + 16 - N) ≤ N + 16 ∧ endM [0, 1, 2, 3] [wB t1 o1 32 f v1, wB t2 o2 12 g v2, wB t3 o3 N b v3, wB t4 o4 (k + 1) q v4] [wB t1 o1 32 f v1, wB t2 o2 12 g v2, wB t3 o3 N b v3, wB t4 o4 (k + 1) q v4] (.v1 (.sc (.bo true))) (.v1 (.sc (.bo true)))) ?_ (by kernel_rfl))
  exact ⟨rfl, rfl, ilt_f (i := 2000) (by omega), ilt_f (i := 2000) (by omega), Nat.le_refl _, win_le, kc1, Nat.le_refl _, win_le, kc2, Nat.le_refl _, win_le, kc3, Nat.le_refl _, win_le, kc4, rfl, rfl, Nat.le_trans hN (by decide), Nat.le_trans hK (by decide), wr16 hN, nieq_same, Nat.le_refl _, win_le, kc1, Nat.le_refl _, win_le, kc2, Nat.le_refl _, Nat.le_refl _, win_le, kc4, rfl, rfl, by omega, by omega, Nat.le_trans hK (by decide), same_seal, Nat.le_refl _, win_le, kc1, Nat.le_refl _, win_le, kc2, Nat.le_refl _, win_le, kc3, rfl, rfl, Nat.le_trans hN (by decide), Nat.le_refl _, win_le, kc1, Nat.le_refl _, win_le, kc2, by omega, Nat.le_refl _, rfl, rfl, Nat.le_trans hN (by decide), back_text rfl, by omega, Nat.le_refl _, Nat.le_refl _, win_le, kc3, back_stream, by omega, Nat.le_refl _, Nat.le_refl _, win_le, kc3, wr8 hN hK, by omega, congrArg Int.ofNat hd, Nat.le_refl _, Nat.le_trans (show N + 16 ≤ 3000 by omega) (by decide), Nat.le_refl _, win_le, kc4, Nat.le_trans hK (by decide), wr8' hN, ilt_f (by omega), wrD hd6 hj, wrS hji (by omega), wrD hd6 hj, wrS hji (by omega), Int.natCast_nonneg _, lt_ofNat hik, hik, wrM he, Int.natCast_nonneg _, Int.natCast_nonneg _, lt_ofNat hik, hik, Nat.le_refl _, win_le, kc1, Nat.le_refl _, win_le, kc2, Nat.le_refl _, Nat.le_refl _, rfl, rfl, by omega, by omega, Nat.le_trans hK (by decide), hS, wrD hd6 hj, nilt_t (by omega), wrD hd6 hj, ilt_f (by omega), Int.natCast_nonneg _, lt_ofNat (by omega), Nat.le_refl _, Nat.le_refl _, win_le, kc1, Nat.le_refl _, win_le, kc2, by omega, Nat.le_refl _, rfl, rfl, Nat.le_trans hN (by decide), Nat.le_trans hK (by decide), Int.natCast_nonneg _, lt_ofNat (by omega), Nat.le_refl _, by omega, tags_same (by omega) (fun t ht => rfl) hS, Nat.le_refl _, Nat.le_refl _, by omega, endM_same rfl rfl⟩
theorem backC_ww1 {t1 o1 c1 t2 o2 c2 t3 o3 c3 N t4 o4 c4 k d j e i : Nat} {x : Int} {f g b q : Nat → Nat} {v1 v2 v3 v4 : WrapV} (kc1 : 32 ≤ c1) (kc2 : 12 ≤ c2) (kc3 : N ≤ c3) (kc4 : (k + 1) ≤ c4) (hN : N ≤ 2000) (hK : (k + 1) ≤ 2000)
    (hd : pkN x (8 * (N + (k + 1)) + 127 + 1) = d) (hj : d / 8 = j) (he : d % 8 = e) (hji : j = N + 16 + i) (hik : i < k + 1) (hS : ¬ sameT (fun j => f (o1 - o1 + j)) (fun j => g (o2 - o2 + j)) (k + 1) (flB (fun j => q (o4 - o4 + j)) i e) N (seF (fun j => f (o1 - o1 + j)) (fun j => g (o2 - o2 + j)) N (fun j => b (o3 - o3 + j)) (k + 1) (fun j => q (o4 - o4 + j)))) : AWqS Try.prog (Dm [wB t1 o1 32 f v1, wB t2 o2 12 g v2, wB t3 o3 N b v3, wB t4 o4 (k + 1) q v4]) (flatC (bodyOf Try.f6)) (fun e s => FEndM tt Try.f6 (upto 0 ([wB t1 o1 32 f v1, wB t2 o2 12 g v2, wB t3 o3 N b v3, wB t4 o4 (k + 1) q v4] : Heap).length) (.v1 (.sc (.bo true))) [wB t1 o1 32 f v1, wB t2 o2 12 g v2, wB t3 o3 N b v3, wB t4 o4 (k + 1) q v4] e s) ⟨frame0 [.v1 (.sc (.sl 0 o1 32 c1)), .v1 (.sc (.sl 1 o2 12 c2)), .v1 (.sc (.sl 2 o3 N c3)), .v1 (.sc (.sl 3 o4 (k + 1) c4)), iv x] Try.f6.ntmps, [wB t1 o1 32 f v1, wB t2 o2 12 g v2, wB t3 o3 N b v3, wB t4 o4 (k + 1) q v4]⟩ := by
  have hd6 : d < 1000000 := by have := pkN_lt (x := x) (m := 8 * (N + (k + 1)) + 127 + 1) (by omega); omega
  refine evS_q mixed tt_ok (gCb_ok 1) 300 [⟨2,2,.lit (.bo false)⟩,⟨2,6,.lit (.bo false)⟩,⟨2,11,.lit (.bo false)⟩,⟨2,16,.lit (.bo false)⟩,⟨5,7,.lit (.it (Int.ofNat (N + 16)))⟩,⟨5,8,.lit (.bo false)⟩,⟨10,5,.lit (.bo true)⟩,⟨10,19,.lit (.bo true)⟩,⟨12,6,.lit (.it (Int.ofNat (8 * (N + (k + 1)) + 127 + 1)))⟩,⟨12,8,.lit (.it (Int.ofNat d))⟩,⟨14,3,.lit (.it (Int.ofNat (8 * (N + 16))))⟩,⟨14,4,.lit (.bo false)⟩,⟨16,2,.lit (.it (Int.ofNat j))⟩,⟨16,5,.lit (.it (Int.ofNat i))⟩,⟨16,8,.lit (.it (Int.ofNat j))⟩,⟨16,11,.lit (.it (Int.ofNat i))⟩,⟨16,12,.sym⟩,⟨16,13,.sym⟩,⟨16,15,.lit (.it (Int.ofNat e))⟩,⟨16,16,.sym⟩,⟨16,18,.sym⟩,⟨16,19,.sym⟩,⟨18,1,.lit (.it (Int.ofNat j))⟩,⟨18,4,.lit (.bo true)⟩,⟨18,7,.lit (.it (Int.ofNat j))⟩,⟨18,10,.lit (.bo false)⟩,⟨20,5,.sym⟩,⟨21,11,.sym⟩,⟨21,12,.lit (.bo false)⟩] (same (p := (!ieq (Int.ofNat 32) (Int.ofNat 32)) = false ∧ (!ieq (Int.ofNat 12) (Int.ofNat 12)) = false ∧ ilt 2000 (Int.ofNat N) = false ∧ ilt 2000 (Int.ofNat (k + 1)) = false ∧ o1 ≤ o1 ∧ o1 - o1 + 32 ≤ 32 ∧ 32 ≤ c1 ∧ o2 ≤ o2 ∧ o2 - o2 + 12 ≤ 12 ∧ 12 ≤ c2 ∧ o3 ≤ o3 ∧ o3 - o3 + N ≤ N ∧ N ≤ c3 ∧ o4 ≤ o4 ∧ o4 - o4 + (k + 1) ≤ (k + 1) ∧ (k + 1) ≤ c4 ∧ 32 = 32 ∧ 12 = 12 ∧ N ≤ 1048576 ∧ (k + 1) ≤ 1048576 ∧ wrapI (Int.ofNat N + 16) = Int.ofNat (N + 16) ∧ (!ieq (Int.ofNat (N + 16)) (Int.ofNat (N + 16))) = false ∧ o1 ≤ o1 ∧ o1 - o1 + 32 ≤ 32 ∧ 32 ≤ c1 ∧ o2 ≤ o2 ∧ o2 - o2 + 12 ≤ 12 ∧ 12 ≤ c2 ∧ N + 16 ≤ N + 16 ∧ o4 ≤ o4 ∧ o4 - o4 + (k + 1) ≤ (k + 1) ∧ (k + 1) ≤ c4 ∧ 32 = 32 ∧ 12 = 12 ∧ 16 ≤ N + 16 ∧ N + 16 ≤ 1048592 ∧ (k + 1) ≤ 1048576 ∧ sameT (fun j => f (o1 - o1 + j)) (fun j => g (o2 - o2 + j)) (k + 1) (fun j => q (o4 - o4 + j)) (N + 16 - 16) (seF (fun j => f (o1 - o1 + j)) (fun j => g (o2 - o2 + j)) N (fun j => b (o3 - o3 + j)) (k + 1) (fun j => q (o4 - o4 + j))) ∧ o1 ≤ o1 ∧ o1 - o1 + 32 ≤ 32 ∧ 32 ≤ c1 ∧ o2 ≤ o2 ∧ o2 - o2 + 12 ≤ 12 ∧ 12 ≤ c2 ∧ o3 ≤ o3 ∧ o3 - o3 + N ≤ N ∧ N ≤ c3 ∧ 32 = 32 ∧ 12 = 12 ∧ N ≤ 1048576 ∧ o1 ≤ o1 ∧ o1 - o1 + 32 ≤ 32 ∧ 32 ≤ c1 ∧ o2 ≤ o2 ∧ o2 - o2 + 12 ≤ 12 ∧ 12 ≤ c2 ∧ 0 + N ≤ N ∧ N ≤ N ∧ 32 = 32 ∧ 12 = 12 ∧ N ≤ 1048576 ∧ eqStr (N + 16 - 16) (fun j => stF (fun j => f (o1 - o1 + j)) (fun j => g (o2 - o2 + j)) 1 (seF (fun j => f (o1 - o1 + j)) (fun j => g (o2 - o2 + j)) N (fun j => b (o3 - o3 + j)) (k + 1) (fun j => q (o4 - o4 + j))) (addN 0 j)) N (fun j => b (o3 - o3 + j)) = true ∧ 0 + (N + 16 - 16) ≤ N + 16 - 16 ∧ N + 16 - 16 ≤ N + 16 - 16 ∧ o3 ≤ o3 ∧ o3 - o3 + N ≤ N ∧ N ≤ c3 ∧ eqStr N (fun j => stF (fun j => f (o1 - o1 + j)) (fun j => g (o2 - o2 + j)) 7 (fun j => stF (fun j => f (o1 - o1 + j)) (fun j => g (o2 - o2 + j)) 7 (fun j => b (o3 - o3 + j)) (addN 0 j)) (addN 0 j)) N (fun j => b (o3 - o3 + j)) = true ∧ 0 + N ≤ N ∧ N ≤ N ∧ o3 ≤ o3 ∧ o3 - o3 + N ≤ N ∧ N ≤ c3 ∧ wrapI (8 * wrapI (Int.ofNat (N + 16) + Int.ofNat (k + 1))) = Int.ofNat (8 * (N + (k + 1)) + 127 + 1) ∧ 8 * (N + (k + 1)) + 127 + 1 < 1000000 ∧ Int.ofNat (pkN x (8 * (N + (k + 1)) + 127 + 1)) = Int.ofNat d ∧ N + 16 ≤ N + 16 ∧ N + 16 ≤ limN ∧ o4 ≤ o4 ∧ o4 - o4 + (k + 1) ≤ (k + 1) ∧ (k + 1) ≤ c4 ∧ k + 1 ≤ limN ∧ wrapI (8 * Int.ofNat (N + 16)) = Int.ofNat (8 * (N + 16)) ∧ ilt (Int.ofNat d) (Int.ofNat (8 * (N + 16))) = false ∧ wrapI ((Int.ofNat d).tdiv 8) = Int.ofNat j ∧ wrapI (Int.ofNat j - Int.ofNat (N + 16)) = Int.ofNat i ∧ wrapI ((Int.ofNat d).tdiv 8) = Int.ofNat j ∧ wrapI (Int.ofNat j - Int.ofNat (N + 16)) = Int.ofNat i ∧ 0 ≤ Int.ofNat i ∧ Int.ofNat i < ((k + 1 : Nat) : Int) ∧ i < k + 1 ∧ (Int.ofNat d).tmod 8 = Int.ofNat e ∧ 0 ≤ Int.ofNat e ∧ 0 ≤ Int.ofNat i ∧ Int.ofNat i < ((k + 1 : Nat) : Int) ∧ i < k + 1 ∧ o1 ≤ o1 ∧ o1 - o1 + 32 ≤ 32 ∧ 32 ≤ c1 ∧ o2 ≤ o2 ∧ o2 - o2 + 12 ≤ 12 ∧ 12 ≤ c2 ∧ N + 16 ≤ N + 16 ∧ k + 1 ≤ k + 1 ∧ 32 = 32 ∧ 12 = 12 ∧ 16 ≤ N + 16 ∧ N + 16 ≤ 1048592 ∧ (k + 1) ≤ 1048576 ∧ (¬ sameT (fun j => f (o1 - o1 + j)) (fun j => g (o2 - o2 + j)) (k + 1) (flB (fun j => q (o4 - o4 + j)) i e) (N + 16 - 16) (seF (fun j => f (o1 - o1 + j)) (fun j => g (o2 - o2 + j)) N (fun j => b (o3 - o3 + j)) (k + 1) (fun j => q (o4 - o4 + j)))) ∧ wrapI ((Int.ofNat d).tdiv 8) = Int.ofNat j ∧ (!ilt (Int.ofNat j) (Int.ofNat N)) = true ∧ wrapI ((Int.ofNat d).tdiv 8) = Int.ofNat j ∧ ilt (Int.ofNat j) (Int.ofNat (N + 16)) = false ∧ 0 ≤ Int.ofNat N ∧ Int.ofNat N < ((N + 16 + 1 : Nat) : Int) ∧ N + 16 ≤ N + 16 ∧ o1 ≤ o1 ∧ o1 - o1 + 32 ≤ 32 ∧ 32 ≤ c1 ∧ o2 ≤ o2 ∧ o2 - o2 + 12 ≤ 12 ∧ 12 ≤ c2 ∧ N ≤ N + 16 ∧ k + 1 ≤ k + 1 ∧ 32 = 32 ∧ 12 = 12 ∧ N ≤ 3000 ∧ (k + 1) ≤ 3000 ∧ 0 ≤ Int.ofNat N ∧ Int.ofNat N < ((N + 16 + 1 : Nat) : Int) ∧ N + 16 ≤ N + 16 ∧ N < N + 16 ∧ eqStr 16 (fun s => dgN (seaN (fun j => f (o1 - o1 + j)) (fun j => g (o2 - o2 + j)) (k + 1) (flB (fun j => q (o4 - o4 + j)) i e) N (seF (fun j => f (o1 - o1 + j)) (fun j => g (o2 - o2 + j)) N (fun j => b (o3 - o3 + j)) (k + 1) (fun j => q (o4 - o4 + j)))) (addN 0 s)) (N + 16 - N) (fun s => (seF (fun j => f (o1 - o1 + j)) (fun j => g (o2 - o2 + j)) N (fun j => b (o3 - o3 + j)) (k + 1) (fun j => q (o4 - o4 + j))) (addN N s)) = false ∧ 0 + 16 ≤ 16 ∧ 16 ≤ 16 ∧ N + (N + 16 - N) ≤ N + 16 ∧ endM [0, 1, 2, 3] [wB t1 o1 32 f v1, wB t2 o2 12 g v2, wB t3 o3 N b v3, wB t4 o4 (k + 1) q v4] [wB t1 o1 32 f v1, wB t2 o2 12 g v2, wB t3 o3 N b v3, wB t4 o4 (k + 1) q v4] (.v1 (.sc (.bo true))) (.v1 (.sc (.bo true)))) ?_ (by kernel_rfl))
  exact ⟨rfl, rfl, ilt_f (i := 2000) (by omega), ilt_f (i := 2000) (by omega), Nat.le_refl _, win_le, kc1, Nat.le_refl _, win_le, kc2, Nat.le_refl _, win_le, kc3, Nat.le_refl _, win_le, kc4, rfl, rfl, Nat.le_trans hN (by decide), Nat.le_trans hK (by decide), wr16 hN, nieq_same, Nat.le_refl _, win_le, kc1, Nat.le_refl _, win_le, kc2, Nat.le_refl _, Nat.le_refl _, win_le, kc4, rfl, rfl, by omega, by omega, Nat.le_trans hK (by decide), same_seal, Nat.le_refl _, win_le, kc1, Nat.le_refl _, win_le, kc2, Nat.le_refl _, win_le, kc3, rfl, rfl, Nat.le_trans hN (by decide), Nat.le_refl _, win_le, kc1, Nat.le_refl _, win_le, kc2, by omega, Nat.le_refl _, rfl, rfl, Nat.le_trans hN (by decide), back_text rfl, by omega, Nat.le_refl _, Nat.le_refl _, win_le, kc3, back_stream, by omega, Nat.le_refl _, Nat.le_refl _, win_le, kc3, wr8 hN hK, by omega, congrArg Int.ofNat hd, Nat.le_refl _, Nat.le_trans (show N + 16 ≤ 3000 by omega) (by decide), Nat.le_refl _, win_le, kc4, Nat.le_trans hK (by decide), wr8' hN, ilt_f (by omega), wrD hd6 hj, wrS hji (by omega), wrD hd6 hj, wrS hji (by omega), Int.natCast_nonneg _, lt_ofNat hik, hik, wrM he, Int.natCast_nonneg _, Int.natCast_nonneg _, lt_ofNat hik, hik, Nat.le_refl _, win_le, kc1, Nat.le_refl _, win_le, kc2, Nat.le_refl _, Nat.le_refl _, rfl, rfl, by omega, by omega, Nat.le_trans hK (by decide), hS, wrD hd6 hj, nilt_t (by omega), wrD hd6 hj, ilt_f (by omega), Int.natCast_nonneg _, lt_ofNat (by omega), Nat.le_refl _, Nat.le_refl _, win_le, kc1, Nat.le_refl _, win_le, kc2, by omega, Nat.le_refl _, rfl, rfl, Nat.le_trans hN (by decide), Nat.le_trans hK (by decide), Int.natCast_nonneg _, lt_ofNat (by omega), Nat.le_refl _, by omega, tags_unlike (by omega) (fun t ht => rfl) hS, Nat.le_refl _, Nat.le_refl _, by omega, endM_same rfl rfl⟩
end Go.Proofs.Ytndmoidenbfflaa

/- A handed slice of bytes, opened; what is told of bytes alone. -/
namespace Go.Proofs.Ytndmoidenbfflaa
open Go.Rq Go Go.ChangeShapes Go.WideShapes Go.ChangeAt Go.RowKit
set_option linter.unusedVariables false
set_option linter.unusedSimpArgs false
set_option maxRecDepth 100000
theorem Try.own : ownKnob Try.prog.godebug = none := by kernel_rfl
theorem u32_lit {z : Int} (h : (Lit.int .u32 z).wf = true) : Int.ofNat (z.toNat % 4294967296) = z := by
  simp only [Lit.wf, IntKind.min, IntKind.max, IntKind.signed, IntKind.bits, Bool.and_eq_true] at h
  simp only [Int.ofNat_eq_natCast]
  simp at h
  omega
theorem row_of_cell {w : World} {a : Addr} {v : Value} (h : w.cell? a = some v) : ∃ arr t fr, w.heap[a.block]? = some (.cells arr t fr) ∧ arr[a.off]? = some v ∧ a.spot = none := by
  unfold World.cell? at h
  split at h
  · rename_i c t fr hc
    split at h
    · cases h
    · rename_i hs
      exact ⟨c, t, fr, hc, h, by simpa using hs⟩
  · cases h
theorem cell_keep {w w' : World} (hs : StepW w w') {a : Addr} {v : Value} (h : w.cell? a = some v) : w'.cell? a = some v := by
  obtain ⟨arr, t, fr, h1, h2, h3⟩ := row_of_cell h
  have hb := (Array.getElem?_eq_some_iff.1 h1).1
  have e := hs.keep _ hb
  unfold World.cell? at h ⊢
  rw [e]; exact h
theorem u8_of {z : Int} (h : (Lit.int .u8 z).wf = true) : Int.ofNat (z.toNat % 256) = z := by
  have := bounds_u8 h
  simp only [Int.ofNat_eq_natCast]; omega
theorem bytes_open {H : Type} {enc : TypeId × Value → H} {Wd : World} {b0 : Nat} {v : Value} {d : DataW H} {p : List MemPlace}
    (h : DataW.Trod enc Try.prog Wd 0 (fun _ => true) true 22 v d p) (hv : Value.okWide Try.prog Wd .any b0 22 v) :
    ∃ n f, (Sh.vs n f).Sem Wd (fun _ => True) v ∧ ∀ (W' : World), StepW Wd W' → ∀ sp : Nat → Bool, (∀ q ∈ p, sp q.block = true) → DataW.Trod enc Try.prog W' 0 sp true 22 v d p := by
  obtain ⟨a1, len, cap, rfl⟩ := okWide_slice Try.underlying22 hv
  obtain ⟨fuel, hf⟩ := h
  have hc5 : Try.prog.cellsOf 5 = 1 := by kernel_rfl
  rcases open_ints Try.underlying22 Try.underlying5 hc5 hf with ⟨hcs, hx⟩ | ⟨a, len', cap', zs, hcs, hb, hl, hm, hz, hx, hcell, hwz⟩
  · simp [Value.cells] at hcs
    obtain ⟨rfl, rfl, rfl⟩ := hcs
    simp only [Prod.mk.injEq] at hx
    obtain ⟨rfl, rfl⟩ := hx
    refine ⟨0, fun _ => 0, .inl ⟨rfl, none, rfl⟩, fun W' hs sp hsp => ⟨1, ?_⟩⟩
    rw [DataW.trod_step]
    unfold DataW.trodStep
    simp [Try.underlying22, Value.cells]
  · simp [Value.cells] at hcs
    obtain ⟨rfl, rfl, rfl⟩ := hcs
    simp only [Prod.mk.injEq] at hx
    obtain ⟨rfl, rfl⟩ := hx
    simp only [if_true] at hz
    have shut : ∀ (W' : World), StepW Wd W' → ∀ sp : Nat → Bool, (∀ q ∈ MemPlace.row a zs.length, sp q.block = true) → DataW.Trod enc Try.prog W' 0 sp true 22 (.slice (some a) len cap) (.slice (lits .u8 (zs.take len)) (lits .u8 (zs.drop len))) (MemPlace.row a zs.length) := by
      intro W' hs sp hsp
      refine ⟨0 + 2, ?_⟩
      have hz' : zs.length = (if sp a.block then cap else len) := by
        by_cases h0 : zs.length = 0
        · have : cap = 0 := by omega
          have : len = 0 := by omega
          split <;> omega
        · have := hsp (.cell a.block (a.off + 0)) (by simp only [MemPlace.row, List.mem_map, List.mem_range]; exact ⟨0, by omega, rfl⟩)
          have hb : sp a.block = true := this
          rw [if_pos hb]; exact hz
      have := shut_ints (enc := enc) (w := W') (base := 0) (spare := sp) (held := true) 0 Try.underlying22 Try.underlying5 hc5 hb hl hm hz' (fun i hi => cell_keep hs (hcell i hi)) hwz
      simpa [Value.cells] using this
    by_cases h0 : cap = 0
    · have : len = 0 := by omega
      subst this; subst h0
      exact ⟨0, fun _ => 0, .inl ⟨rfl, _, rfl⟩, shut⟩
    · obtain ⟨arr, t, fr, h1, _, h3⟩ := row_of_cell (hcell 0 (by omega))
      rw [block_add] at h1
      have hsp : a.spot = none := by
        obtain ⟨_, _, spot⟩ := a
        cases spot with
        | none => rfl
        | some s => simp [Addr.add] at h3
      obtain ⟨B, off, spot⟩ := a
      simp only at hsp h1
      subst hsp
      have hle : len ≤ cap := by omega
      refine ⟨len, fun j => (zs.getD j 0).toNat, .inr ⟨⟨B, t, off, len, cap, len, fun j => (zs.getD j 0).toNat, arr, fr⟩, ⟨h1, fun j hj => ?_⟩, trivial, rfl, rfl, rfl, hle, rfl⟩, shut⟩
      have hj : j < len := hj
      have hc := hcell j (by omega)
      rw [add_plain, cell_of_row Wd B (off + j) arr t fr h1] at hc
      show arr[off + j]? = _
      rw [hc, u8_of (hwz _ (by
        have : zs.getD j 0 = zs[j]'(by omega) := by simp [List.getD, show j < zs.length by omega]
        rw [this]; exact List.getElem_mem _))]

end Go.Proofs.Ytndmoidenbfflaa
