/- Joined: C31 C32 C35. -/
import Derived.Test.YtndmoidenbfflaaZC
/- The chapter's examples, reckoned. -/
namespace Go.Proofs.Ytndmoidenbfflaa
open Go.Rq Go
set_option linter.unusedVariables false
set_option linter.unusedSimpArgs false
set_option maxRecDepth 100000
/-! lists that the kernel reckons at once -/
def fc {α : Type} (n : Nat) (k : Nat → α) : α := Nat.rec (k 0) (fun m _ => k (m + 1)) n
theorem fc_eq {α : Type} (n : Nat) (k : Nat → α) : fc n k = k n := by cases n <;> rfl
def frc {α : Type} : List Nat → (List Nat → α) → α
  | [], k => k []
  | x :: r, k => fc x fun y => frc r fun s => k (y :: s)
theorem frc_eq {α : Type} : ∀ (l : List Nat) (k : List Nat → α), frc l k = k l
  | [], _ => rfl
  | x :: r, k => by
    show fc x (fun y => frc r fun s => k (y :: s)) = _
    rw [fc_eq, frc_eq r]
def lf (l : List Nat) : Nat → Nat := fun j => l.getD j 0
def tabL (n : Nat) (f : Nat → Nat) : List Nat := (List.range n).map f
theorem lf_tab {n : Nat} {f : Nat → Nat} {j : Nat} (h : j < n) : lf (tabL n f) j = f j := by
  unfold lf tabL
  rw [List.getD_eq_getElem?_getD, List.getElem?_map, List.getElem?_range h]
  rfl
abbrev P32 : Nat := 4294967296
/-- Alike in the first sixteen words. -/
def Lk (f g : Nat → Nat) : Prop := ∀ j, j < 16 → f j % 4294967296 = g j % 4294967296
theorem upd_lk {f g : Nat → Nat} {a x y : Nat} (h : Lk f g) (hx : x % 4294967296 = y % 4294967296) : Lk (upd f a x) (upd g a y) := fun j hj => by
  unfold upd
  cases hb : Nat.beq j a
  · rw [cond_false, cond_false]; exact h j hj
  · rw [cond_true, cond_true]; exact hx
theorem rot_lk {x y k : Nat} (h : x % 4294967296 = y % 4294967296) (hk : k ≤ 32) : rotV x k % 4294967296 = rotV y k % 4294967296 := by
  unfold rotV
  rw [h]
  have e1 : ∀ a b : Nat, (a ||| b) % 2 ^ 32 = (a % 2 ^ 32) ||| (b % 2 ^ 32) := fun a b => Nat.or_mod_two_pow
  show (x * 2 ^ k ||| _) % 2 ^ 32 = (y * 2 ^ k ||| _) % 2 ^ 32
  rw [e1, e1, Nat.mul_mod, show x % 2 ^ 32 = y % 2 ^ 32 from h, ← Nat.mul_mod]
theorem xor_lk {x y z w : Nat} (h : x % 4294967296 = y % 4294967296) (k : z % 4294967296 = w % 4294967296) : (x ^^^ z) % 4294967296 = (y ^^^ w) % 4294967296 := by
  show (x ^^^ z) % 2 ^ 32 = (y ^^^ w) % 2 ^ 32
  rw [Nat.xor_mod_two_pow, Nat.xor_mod_two_pow, show x % 2 ^ 32 = y % 2 ^ 32 from h, show z % 2 ^ 32 = w % 2 ^ 32 from k]
theorem qA_lk {f g : Nat → Nat} {a b : Nat} (h : Lk f g) (ha : a < 16) (hb : b < 16) : Lk (qA f a b) (qA g a b) :=
  upd_lk h (by rw [Nat.add_mod, h a ha, h b hb, ← Nat.add_mod])
theorem qR_lk {f g : Nat → Nat} {d a k : Nat} (h : Lk f g) (hd : d < 16) (ha : a < 16) (hk : k ≤ 32) : Lk (qR f d a k) (qR g d a k) :=
  upd_lk h (rot_lk (xor_lk (h d hd) (h a ha)) hk)
theorem qrF_lk {f g : Nat → Nat} {a b c d : Nat} (h : Lk f g) (ha : a < 16) (hb : b < 16) (hc : c < 16) (hd : d < 16) : Lk (qrF a b c d f) (qrF a b c d g) := by
  unfold qrF
  exact qR_lk (qA_lk (qR_lk (qA_lk (qR_lk (qA_lk (qR_lk (qA_lk h ha hb) hd ha (by decide)) hc hd) hb hc (by decide)) ha hb) hd ha (by decide)) hc hd) hb hc (by decide)
def mTab (f : Nat → Nat) : List Nat := tabL 16 fun j => f j % 4294967296
theorem mTab_lk (f : Nat → Nat) : Lk (lf (mTab f)) f := fun j hj => by
  unfold mTab
  rw [lf_tab hj, Nat.mod_mod]
theorem Lk.trans {f g h : Nat → Nat} (a : Lk f g) (b : Lk g h) : Lk f h := fun j hj => (a j hj).trans (b j hj)
abbrev Q4 := Nat × Nat × Nat × Nat
def q4ok : List Q4 → Bool
  | [] => true
  | (a, b, c, d) :: r => Nat.blt a 16 && (Nat.blt b 16 && (Nat.blt c 16 && (Nat.blt d 16 && q4ok r)))
def goF : List Q4 → (Nat → Nat) → Nat → Nat
  | [], f => f
  | (a, b, c, d) :: r, f => goF r (qrF a b c d f)
def goL : List Q4 → List Nat → List Nat
  | [], l => l
  | (a, b, c, d) :: r, l => frc (mTab (qrF a b c d (lf l))) fun m => goL r m
theorem goL_lk : ∀ {qs : List Q4} {l : List Nat} {f : Nat → Nat}, q4ok qs = true → Lk (lf l) f → Lk (lf (goL qs l)) (goF qs f)
  | [], _, _, _, h => h
  | (a, b, c, d) :: r, l, f, hq, h => by
    unfold q4ok at hq
    simp only [Bool.and_eq_true, Nat.blt_eq] at hq
    show Lk (lf (frc (mTab (qrF a b c d (lf l))) fun m => goL r m)) (goF r (qrF a b c d f))
    rw [frc_eq]
    exact goL_lk hq.2.2.2.2 ((mTab_lk _).trans (qrF_lk h hq.1 hq.2.1 hq.2.2.1 hq.2.2.2.1))
def rq : List Q4 := [(0, 4, 8, 12), (1, 5, 9, 13), (2, 6, 10, 14), (3, 7, 11, 15), (0, 5, 10, 15), (1, 6, 11, 12), (2, 7, 8, 13), (3, 4, 9, 14)]
def rqN : Nat → List Q4
  | 0 => []
  | n + 1 => rqN n ++ rq
theorem goF_app : ∀ (a b : List Q4) (f : Nat → Nat), goF (a ++ b) f = goF b (goF a f)
  | [], _, _ => rfl
  | (_, _, _, _) :: r, b, f => goF_app r b _
theorem itF_go (f : Nat → Nat) : ∀ n, itF n f = goF (rqN n) f
  | 0 => rfl
  | n + 1 => by
    show rndF (itF n f) = goF (rqN n ++ rq) f
    rw [goF_app, ← itF_go f n]
    rfl
/-- A block's bytes, as a list. -/
def blkL (f g : Nat → Nat) (c : Nat) : List Nat :=
  frc (mTab (iniF (kw f) (kw g) c)) fun s => frc (goL (rqN 10) s) fun x => tabL 64 fun j => (lf x (j / 4) + lf s (j / 4)) % 4294967296 / 2 ^ (8 * (j % 4)) % 256
theorem blkL_eq {f g : Nat → Nat} {c j : Nat} (hj : j < 64) : lf (blkL f g c) j = blkF f g c j % 256 := by
  unfold blkL
  rw [frc_eq, frc_eq, lf_tab hj]
  have h1 := mTab_lk (iniF (kw f) (kw g) c)
  have h2 := goL_lk (qs := rqN 10) (by decide) h1
  rw [← itF_go] at h2
  unfold blkF outF
  have hj4 : j / 4 < 16 := by omega
  have e : (lf (goL (rqN 10) (mTab (iniF (kw f) (kw g) c))) (j / 4) + lf (mTab (iniF (kw f) (kw g) c)) (j / 4)) % 4294967296 = (itF 10 (iniF (kw f) (kw g) c) (j / 4) + iniF (kw f) (kw g) c (j / 4)) % 4294967296 := by
    rw [Nat.add_mod, h2 _ hj4, h1 _ hj4, ← Nat.add_mod]
  rw [e]
  have : (itF 10 (iniF (kw f) (kw g) c) (j / 4) + iniF (kw f) (kw g) c (j / 4)) % 4294967296 / 2 ^ (8 * (j % 4)) < 4294967296 :=
    Nat.lt_of_le_of_lt (Nat.div_le_self _ _) (Nat.mod_lt _ (by decide))
  rw [Nat.mod_eq_of_lt this]
end Go.Proofs.Ytndmoidenbfflaa

/- The examples' numbers. Printed by genc32.py. -/
namespace Go.Proofs.Ytndmoidenbfflaa
open Go.Rq Go
set_option linter.unusedVariables false
set_option linter.unusedSimpArgs false
set_option maxRecDepth 100000
def onceL : List Nat := [133, 214, 190, 120, 87, 85, 109, 51, 127, 68, 82, 254, 66, 213, 6, 168, 1, 3, 128, 138, 251, 13, 178, 253, 74, 191, 246, 175, 65, 73, 245, 27]
def msgL : List Nat := [67, 114, 121, 112, 116, 111, 103, 114, 97, 112, 104, 105, 99, 32, 70, 111, 114, 117, 109, 32, 82, 101, 115, 101, 97, 114, 99, 104, 32, 71, 114, 111, 117, 112]
def b0L : List Nat := [138, 220, 145, 253, 159, 244, 240, 245, 27, 15, 173, 80, 255, 21, 214, 55, 228, 14, 253, 162, 6, 204, 82, 199, 131, 167, 66, 0, 80, 60, 21, 130, 205, 152, 51, 54, 125, 10, 84, 213, 125, 60, 158, 153, 143, 73, 14, 230, 156, 163, 76, 31, 249, 233, 57, 167, 85, 132, 197, 45, 105, 10, 53, 212]
def boL : List Nat := [176, 151, 200, 237, 119, 35, 74, 155, 248, 72, 59, 175, 162, 193, 35, 247, 242, 222, 241, 119, 70, 82, 209, 85, 109, 142, 254, 105, 168, 9, 215, 96, 44, 188, 61, 230, 172, 133, 222, 141, 174, 56, 95, 10, 55, 241, 202, 86, 183, 136, 254, 5, 213, 82, 164, 24, 82, 28, 190, 172, 138, 157, 37, 193]
theorem num_mod {f g : Nat → Nat} {n : Nat} (h : ∀ j, j < n → f j % 256 = g j % 256) : num (fun j => f j % 256) n = num (fun j => g j % 256) n := num_congr h
theorem lo32_mod {f g : Nat → Nat} (h : ∀ j, j < 4 → f j % 256 = g j % 256) : lo32 f = lo32 g := by
  unfold lo32
  rw [h 0 (by decide), h 1 (by decide), h 2 (by decide), h 3 (by decide)]
theorem lo64_mod {f g : Nat → Nat} (h : ∀ j, j < 8 → f j % 256 = g j % 256) : lo64 f = lo64 g := by
  unfold lo64
  rw [lo32_mod (f := f) (g := g) fun j hj => h j (by omega), lo32_mod (f := fun j => f (4 + j)) (g := fun j => g (4 + j)) fun j hj => h (4 + j) (by omega)]
theorem accN_mod {b b' : Nat → Nat} {m r : Nat} (h : ∀ j, j < m → b j % 256 = b' j % 256) : ∀ k, accN b m r k = accN b' m r k
  | 0 => rfl
  | k + 1 => by
    show (accN b m r k + chk1 b m k) * r % pP = (accN b' m r k + chk1 b' m k) * r % pP
    rw [accN_mod h k, show chk1 b m k = chk1 b' m k by
      unfold chk1
      rw [num_congr fun j hj => h (16 * k + j) (by omega)]]
theorem tagN_mod {f f' b b' : Nat → Nat} {m : Nat} (h : ∀ j, j < 32 → f j % 256 = f' j % 256) (hb : ∀ j, j < m → b j % 256 = b' j % 256) : tagN f b m = tagN f' b' m := by
  unfold tagN rN
  rw [show pcL f = pcL f' from lo64_mod fun j hj => h j (by omega), show pcH f = pcH f' from lo64_mod fun j hj => h (8 + j) (by omega), accN_mod hb,
    num_congr (n := 16) (f := fun j => f (16 + j) % 256) (g := fun j => f' (16 + j) % 256) fun j hj => h (16 + j) (by omega)]
theorem b1_known : (blkL idF nonF 1).take 8 = [16, 241, 231, 228, 209, 59, 89, 21] := by kernel_rfl
theorem b0_known : blkL idF nonF 0 = b0L := by kernel_rfl
theorem bo_known : blkL (lf onceL) nonF 0 = boL := by kernel_rfl
theorem t1_known : tagN (lf onceL) (lf msgL) 34 = 905406785994486245610219399192143267496 := by kernel_rfl
theorem t0_known : tagN (lf b0L) (fun _ => 0) 16 = 866494876554015909630955030692209320590 := by kernel_rfl
theorem to_known : tagN (lf boL) (fun _ => 0) 16 = 140585244238279042143536513628083362958 := by kernel_rfl
/-- The tag of nothing. -/
theorem all0 {q b : Nat → Nat} : ∀ j, j < allL 0 0 → allF 0 q 0 b j % 256 = 0 := fun j hj => by
  have hj : j < 16 := hj
  have e := allF_len (K := 0) (N := 0) (q := q) (b := b) (i := j) hj
  rw [show up16 0 + up16 0 + j = j by rw [up16_0]; omega] at e
  rw [e]
  unfold kbF
  have : ∀ i, dgN 0 i = 0 := fun i => by unfold dgN; simp
  rw [this, this]
  cases Nat.blt j 8 <;> rfl
theorem sea0 {f g q b : Nat → Nat} {kl : List Nat} (h : ∀ j, j < 32 → blkF f g 0 j % 256 = lf kl j % 256) : seaN f g 0 q 0 b = tagN (lf kl) (fun _ => 0) 16 :=
  tagN_mod h fun j hj => all0 j hj
theorem onceL_lt : ∀ j, j < 64 → lf boL j % 256 = lf boL j := by decide
theorem b0L_lt : ∀ j, j < 64 → lf b0L j % 256 = lf b0L j := by decide
theorem sea_key {q b : Nat → Nat} : seaN idF nonF 0 q 0 b = 866494876554015909630955030692209320590 := by
  rw [sea0 (kl := b0L) fun j hj => ?_, t0_known]
  rw [← b0_known, blkL_eq (by omega), Nat.mod_mod]
theorem sea_once {q b : Nat → Nat} : seaN (lf onceL) nonF 0 q 0 b = 140585244238279042143536513628083362958 := by
  rw [sea0 (kl := boL) fun j hj => ?_, to_known]
  rw [← bo_known, blkL_eq (by omega), Nat.mod_mod]
end Go.Proofs.Ytndmoidenbfflaa

/- CipherKnown: its run. -/
namespace Go.Proofs.Ytndmoidenbfflaa
open Go.Rq Go
set_option linter.unusedVariables false
set_option linter.unusedSimpArgs false
set_option maxRecDepth 100000
set_option maxHeartbeats 4000000
def selB (args : List AV) : Nat := match args with
  | [.v1 (.sc (.sl _ _ 31 _)), _, _] => 1
  | _ => 0
def selO (args : List AV) : Nat := match args with
  | [.v1 (.sc (.so _ _)), _, .v1 (.sc (.so _ 15)), _] => 2
  | [.v1 (.sc (.so _ _)), _, _, _] => 0
  | _ => 1
def gCk : Ctx := ctxL [(22, .new cKey), (23, .new cNon), (9, .mem (cBlX selB)), (13, .mem cTagS), (18, .mem cSeal), (20, .mem (cOpX selO)), (15, .rd cSame)]
theorem gCk_ok : CtxOk Try.prog gCk := ctxL_cons okKey <| ctxL_cons okNon <| ctxL_cons (okBlX selB) <| ctxL_cons okTagS <| ctxL_cons okSeal <| ctxL_cons (okOpX selO) <| ctxL_cons okSame ctxL_nil
/-- Bytes that are told one by one. -/
def upL : Nat → List Nat → (Nat → Nat) → Nat → Nat
  | _, [], f => f
  | i, x :: r, f => upL (i + 1) r (upd f i x)
abbrev upZ (l : List Nat) : Nat → Nat := fun j => upL 0 l (fun _ => 0) (addN 0 j)
abbrev nonZ : Nat → Nat := fun j => nonF (addN 0 j)
theorem upZ_lf {l : List Nat} {n : Nat} (h : ∀ j, j < n → upL 0 l (fun _ => 0) j = lf l j) : ∀ j, j < n → upZ l j = lf l j := fun j hj => by
  unfold upZ
  rw [addN_eq, Nat.zero_add, h j hj]
theorem once_up : ∀ j, j < 32 → upL 0 onceL (fun _ => 0) j = lf onceL j := by decide
theorem msg_up : ∀ j, j < 34 → upL 0 msgL (fun _ => 0) j = lf msgL j := by decide
theorem nonZ_eq : nonZ = nonF := by funext j; unfold nonZ; rw [addN_eq, Nat.zero_add]
theorem seaN_fg {f f' g g' q b : Nat → Nat} {K N : Nat} (h : ∀ j, j < 32 → f j = f' j) (k : ∀ j, j < 12 → g j = g' j) : seaN f g K q N b = seaN f' g' K q N b := by
  unfold seaN
  rw [blkF_congr h k]
theorem known_same : sameT idF nonZ 0 (fun _ => 0) 0 (seF idF nonZ 0 (fun _ => 0) 0 (fun _ => 0)) := fun i hi => by
  rw [seF_0, Nat.zero_add, seaN_b]
theorem known_unlike : ¬ sameT (upZ onceL) nonZ 0 (fun _ => 0) 0 (seF idF nonZ 0 (fun _ => 0) 0 (fun _ => 0)) := fun h => by
  have h0 := h 1 (by decide)
  rw [seF_0, seaN_fg (upZ_lf once_up) (fun _ _ => rfl), nonZ_eq, sea_once, sea_key] at h0
  exact absurd h0 (by decide)
def b1T : List Nat := [16, 241, 231, 228, 209, 59, 89, 21]
def t1T : List Nat := [168, 6, 29, 193, 48, 81, 54, 198, 194, 43, 139, 175, 12, 1, 39, 169]
theorem known_b1 : eqStr 8 (fun j => blkF idF nonZ 1 (addN 0 j)) 8 (upZ b1T) = true := eqStr_of fun j hj => by
  rw [addN_eq, Nat.zero_add, nonZ_eq, ← blkL_eq (by omega)]
  have e : lf (blkL idF nonF 1) j = lf ((blkL idF nonF 1).take 8) j := by
    unfold lf
    rw [List.getD_eq_getElem?_getD, List.getD_eq_getElem?_getD, List.getElem?_take_of_lt hj]
  rw [e, b1_known]
  have : ∀ j, j < 8 → lf [16, 241, 231, 228, 209, 59, 89, 21] j = upL 0 b1T (fun _ => 0) j % 256 := by decide
  show _ = upL 0 b1T (fun _ => 0) (addN 0 j) % 256
  rw [addN_eq, Nat.zero_add, this j hj]
theorem known_t1 {f b : Nat → Nat} (hf : ∀ j, j < 32 → f j = lf onceL j) (hb : ∀ j, j < 34 → b j = lf msgL j) : eqStr 16 (fun j => dgN (tagN f b 34) (addN 0 j)) 16 (upZ t1T) = true := eqStr_of fun j hj => by
  rw [addN_eq, Nat.zero_add, tagN_congr hf hb, t1_known]
  have : ∀ j, j < 16 → dgN 905406785994486245610219399192143267496 j % 256 = upL 0 t1T (fun _ => 0) j % 256 := by decide
  show _ = upL 0 t1T (fun _ => 0) (addN 0 j) % 256
  rw [addN_eq, Nat.zero_add, this j hj]
abbrev msgZ : Nat → Nat := fun j => upL 0 msgL (fun _ => 0) (0 - 0 + j)
def ckP : Prop := 32 ≤ 32 ∧ 0 + 12 ≤ 12 ∧ 12 ≤ 12 ∧ 32 = 32 ∧ 12 = 12 ∧
  0 + 32 ≤ 32 ∧ 32 ≤ 32 ∧ 0 ≤ 0 ∧ 0 - 0 + 34 ≤ 34 ∧ 34 ≤ 34 ∧ 32 = 32 ∧ 34 ≤ 1048576 ∧
  32 ≤ 32 ∧ 0 + 12 ≤ 12 ∧ 12 ≤ 12 ∧ 32 = 32 ∧ 12 = 12 ∧ 0 ≤ 1048576 ∧ 0 ≤ 1048576 ∧
  32 ≤ 32 ∧ 0 + 12 ≤ 12 ∧ 12 ≤ 12 ∧ 16 ≤ 16 ∧ 32 = 32 ∧ 12 = 12 ∧ 16 ≤ 16 ∧ 16 ≤ 1048592 ∧ 0 ≤ 1048576 ∧ sameT idF nonZ 0 (fun _ => 0) 0 (seF idF nonZ 0 (fun _ => 0) 0 (fun _ => 0)) ∧
  16 ≤ 16 ∧ 32 ≤ 32 ∧ 0 + 12 ≤ 12 ∧ 12 ≤ 12 ∧ 15 ≤ 16 ∧ 32 = 32 ∧ 12 = 12 ∧ 15 < 16 ∧ 0 ≤ 1048576 ∧
  0 + 32 ≤ 32 ∧ 32 ≤ 32 ∧ 0 + 12 ≤ 12 ∧ 12 ≤ 12 ∧ 16 ≤ 16 ∧ 32 = 32 ∧ 12 = 12 ∧ 16 ≤ 16 ∧ 16 ≤ 1048592 ∧ 0 ≤ 1048576 ∧ (¬ sameT (upZ onceL) nonZ 0 (fun _ => 0) 0 (seF idF nonZ 0 (fun _ => 0) 0 (fun _ => 0))) ∧
  0 + 31 ≤ 32 ∧ 31 ≤ 32 ∧ 0 + 12 ≤ 12 ∧ 12 ≤ 12 ∧ (¬ (31 = 32 ∧ 12 = 12)) ∧
  eqStr 8 (fun j => blkF idF nonZ 1 (addN 0 j)) 8 (upZ b1T) = true ∧ 0 + 8 ≤ 64 ∧ 8 ≤ 64 ∧ 0 + 8 ≤ 8 ∧ 8 ≤ 8 ∧
  eqStr 16 (fun j => dgN (tagN (upZ onceL) msgZ 34) (addN 0 j)) 16 (upZ t1T) = true ∧ 0 + 16 ≤ 16 ∧ 16 ≤ 16 ∧ 0 + 16 ≤ 16 ∧ 16 ≤ 16 ∧
  endM [] [] [] (.v1 (.sc (.bo true))) (.v1 (.sc (.bo true)))
theorem ckP_ok : ckP := by
  refine ⟨by decide, by decide, by decide, rfl, rfl, by decide, by decide, by decide, by decide, by decide, rfl, by decide, by decide, by decide, by decide, rfl, rfl, by decide, by decide,
    by decide, by decide, by decide, by decide, rfl, rfl, by decide, by decide, by decide, known_same, by decide, by decide, by decide, by decide, by decide, rfl, rfl, by decide, by decide,
    by decide, by decide, by decide, by decide, by decide, rfl, rfl, by decide, by decide, by decide, known_unlike, by decide, by decide, by decide, by decide, by decide,
    known_b1, by decide, by decide, by decide, by decide, known_t1 (upZ_lf once_up) (fun j hj => ?_), by decide, by decide, by decide, by decide, endM_same rfl rfl⟩
  show upL 0 msgL (fun _ => 0) (0 - 0 + j) = _
  rw [Nat.sub_self, Nat.zero_add, msg_up j hj]
theorem known_walk : AWqS Try.prog (Dm []) (flatC (bodyOf Try.f5)) (fun e s => FEndM tt Try.f5 (upto 0 ([] : Heap).length) (.v1 (.sc (.bo true))) [] e s) ⟨frame0 [] Try.f5.ntmps, []⟩ :=
  evS_q mixed tt_ok gCk_ok 300 [⟨11,3,.lit (.bo true)⟩,⟨11,7,.lit (.bo true)⟩] (same (p := ckP) ckP_ok (by kernel_rfl))
def cCk (args : List AV) (_ : Heap) : Option (List Prop × AV) :=
  match args with
  | [] => some ([], .v1 (.sc (.bo true)))
  | _ => none
theorem okCk : (CallC.rd cCk).Ok Try.prog 5 := by
  refine ⟨fun args h pre v e hp => ?_, fun args h slot blk hs ha => rfl⟩
  unfold cCk at e
  split at e
  rotate_left
  · cases e
  cases e
  refine views_call tt_ok Try.func5 (by kernel_rfl) (by kernel_rfl) [] (args := []) trivial 0 [] (.v1 (.sc (.bo true))) rfl rfl rfl (fun t ht => by simp at ht) fun a W hi => ⟨[], rfl, ?_⟩
  cases hi
  exact known_walk
end Go.Proofs.Ytndmoidenbfflaa
