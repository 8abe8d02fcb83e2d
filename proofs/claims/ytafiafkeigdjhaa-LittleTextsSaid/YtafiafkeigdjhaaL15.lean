/- A point's bytes: written, Bytes of the code and of the document. -/
import Derived.Test.YtafiafkeigdjhaaL14
import Derived.Test.YtafiafkeigdjhaaWB
namespace Go.Proofs.Ytafiafkeigdjhaa
open Go.Rq Go
set_option linter.unusedVariables false
set_option linter.unusedSimpArgs false

/-! written -/
abbrev BYx (x k : Nat) : Nat := x % W / 2 ^ min (56 - 8 * k) 64 % W
theorem BYx_eq {x k : Nat} (hx : x < W) (hk : k < 8) : BYx x k = x / 256 ^ (7 - k) := by
  unfold BYx
  rw [Nat.mod_eq_of_lt hx, show min (56 - 8 * k) 64 = 8 * (7 - k) by omega, Nat.pow_mul, Nat.mod_eq_of_lt (Nat.lt_of_le_of_lt (Nat.div_le_self _ _) hx)]
abbrev wrB (g : Nat → Nat) : Option Blk := some ⟨75, [.ws .u8 17 g], 0, 0⟩
def InvWr (P : LP) (a : Nat × (Nat → Nat)) : Prop := a.1 ≤ 8 ∧ a.2 0 % 256 = byP P 0 % 256 ∧ ∀ i, i < a.1 → a.2 (1 + i) % 256 = byP P (1 + i) % 256 ∧ a.2 (9 + i) % 256 = byP P (9 + i) % 256
theorem inv_wr {P : LP} {k : Nat} {g : Nat → Nat} (hx : P.x < W) (hy : P.y < W) (hk : k < 8) (h : InvWr P (k, g)) : InvWr P (k + 1, upd (upd g (1 + k) (BYx P.x k)) (9 + k) (BYx P.y k)) := by
  obtain ⟨_, h0, h1⟩ := h
  have e : ∀ (f : Nat → Nat) i j x, i ≠ j → upd f i x j = f j := fun f i j x h => by
    have : Nat.beq j i = false := by rw [← Bool.not_eq_true, Nat.beq_eq]; exact fun e => h e.symm
    unfold upd; rw [this, cond_false]
  have e' : ∀ (f : Nat → Nat) i x, upd f i x i = x := fun f i x => by
    have : Nat.beq i i = true := by simp
    unfold upd; rw [this, cond_true]
  refine ⟨by simp only; omega, ?_, fun i hi => ?_⟩
  · simp only
    rw [e _ _ _ _ (by omega), e _ _ _ _ (by omega)]; exact h0
  · simp only at hi ⊢
    by_cases hik : i = k
    · subst hik
      rw [e _ _ _ _ (by omega), e', e', BYx_eq hx hk, BYx_eq hy hk, byP_x P hk, byP_y P hk]
      exact ⟨rfl, rfl⟩
    · rw [e _ _ _ _ (by omega), e _ _ _ _ (by omega), e _ _ _ _ (by omega), e _ _ _ _ (by omega)]
      exact h1 i (by omega)
theorem inv_wr8 {P : LP} {g : Nat → Nat} (h : InvWr P (8, g)) : ∀ j, j < 17 → g j % 256 = byP P j % 256 := fun j hj => by
  obtain ⟨_, h0, h1⟩ := h
  rcases byte_cases hj with rfl | ⟨i, hi, rfl⟩ | ⟨i, hi, rfl⟩
  · exact h0
  · exact (h1 i hi).1
  · exact (h1 i hi).2
def kWr : List AV → Option (List Prop × AV)
  | [.v1 (.agg [.one (.w .u64 x), .one (.w .u64 y), .one (.bo z)])] => some ([x < W, y < W], .v1 (.agg [.ws .u8 17 (byP ⟨x, y, z⟩)]))
  | _ => none
abbrev VWr (k : Nat) : List AV := [pt 0 0, pt 1 0, pt 2 0, iv (Int.ofNat k)]
abbrev HWr (P : LP) (g : Nat → Nat) : Heap := [pB P, wrB fun _ => 0, wrB g]
theorem wrapI_sub {a b : Nat} (h : b ≤ a) (ha : a < 9223372036854775808) : wrapI (Int.ofNat a - Int.ofNat b) = Int.ofNat (a - b) := by
  rw [show Int.ofNat a - Int.ofNat b = Int.ofNat (a - b) by simp only [Int.ofNat_eq_natCast]; omega]
  exact wrapI_nn (by omega)
theorem wrapI_add {a b : Nat} (h : a + b < 9223372036854775808) : wrapI (Int.ofNat a + Int.ofNat b) = Int.ofNat (a + b) := wrapI_nn (n := a + b) h
theorem wrapI_mul {a b : Nat} (h : a * b < 9223372036854775808) : wrapI (Int.ofNat a * Int.ofNat b) = Int.ofNat (a * b) := wrapI_nn (n := a * b) h
theorem okWritten : (CallC.pure kWr).Ok Try.prog 43 := by
  intro args pre v e hp
  unfold kWr at e
  split at e
  rotate_left
  · cases e
  rename_i x y z
  cases e
  have hx : x < W := hp _ (by simp)
  have hy : y < W := hp _ (by simp)
  refine pure_walk' tt_ok Try.func43 (by kernel_rfl) (by kernel_rfl) (by rfl) (by rfl) ?_
  refine loopK mixed tt_ok (G := ctxL []) ctxL_nil 0 (by kernel_rfl) (ι := {a // InvWr ⟨x, y, z⟩ a}) [1,2,3,8] 33 3 (fun a => VWr a.1.1) (fun a => HWr ⟨x, y, z⟩ a.1.2) (fun a => 8 - a.1.1) (fun a => a.1.1 = 8)
    (fun _ => rfl) (fun _ => by kernel_rfl) (fun _ _ h => h.elim) 40 [] ?_ ?_ ?_
  · cases z
    · refine same (p := true = true ∧ ∃ j : {a // InvWr ⟨x, y, false⟩ a}, VWr 0 = VWr j.1.1 ∧ HWr ⟨x, y, false⟩ (fun _ => 0) = HWr ⟨x, y, false⟩ j.1.2) ?_ (by kernel_rfl)
      exact ⟨rfl, ⟨(0, fun _ => 0), by simp, rfl, fun i hi => by simp at hi⟩, rfl, rfl⟩
    · refine same (p := true = true ∧ ∃ j : {a // InvWr ⟨x, y, true⟩ a}, VWr 0 = VWr j.1.1 ∧ HWr ⟨x, y, true⟩ (upd (fun _ => 0) 0 1) = HWr ⟨x, y, true⟩ j.1.2) ?_ (by kernel_rfl)
      exact ⟨rfl, ⟨(0, upd (fun _ => 0) 0 1), by simp, rfl, fun i hi => by simp at hi⟩, rfl, rfl⟩
  · intro ⟨⟨k, g⟩, hi⟩ junk
    have hk8 := hi.1
    simp only at hk8
    by_cases h8 : k < 8
    · refine roundF mixed tt_ok (G := ctxL []) ctxL_nil 40 [⟨5,0,.lit (.bo true)⟩,⟨7,1,.lit (.it (Int.ofNat (1+k)))⟩,⟨7,3,.lit (.it (Int.ofNat (9+k)))⟩,⟨7,7,.lit (.it (Int.ofNat (8*k)))⟩,⟨7,8,.lit (.it (Int.ofNat (56-8*k)))⟩,⟨7,14,.lit (.it (Int.ofNat (8*k)))⟩,⟨7,15,.lit (.it (Int.ofNat (56-8*k)))⟩,⟨7,18,.sym⟩,⟨7,19,.sym⟩,⟨7,20,.sym⟩,⟨7,21,.sym⟩,⟨8,0,.lit (.it (Int.ofNat (k+1)))⟩] ?_
      refine same (p := ilt (Int.ofNat k) 8 = true ∧ wrapI (1 + Int.ofNat k) = Int.ofNat (1 + k) ∧ wrapI (9 + Int.ofNat k) = Int.ofNat (9 + k) ∧ wrapI (8 * Int.ofNat k) = Int.ofNat (8 * k) ∧ wrapI (56 - Int.ofNat (8 * k)) = Int.ofNat (56 - 8 * k) ∧ wrapI (8 * Int.ofNat k) = Int.ofNat (8 * k) ∧ wrapI (56 - Int.ofNat (8 * k)) = Int.ofNat (56 - 8 * k) ∧
        ix (1 + k) 17 (ix (9 + k) 17 (wrapI (Int.ofNat k + 1) = Int.ofNat (k + 1) ∧ true = true ∧ ∃ j : {a // InvWr ⟨x, y, z⟩ a}, 8 - j.1.1 < 8 - k ∧ VWr (k + 1) = VWr j.1.1 ∧ HWr ⟨x, y, z⟩ (upd (upd g (1 + k) (BYx x k)) (9 + k) (BYx y k)) = HWr ⟨x, y, z⟩ j.1.2))) ?_ (by kernel_rfl)
      have hm := wrapI_mul (a := 8) (b := k) (by omega)
      have hs := wrapI_sub (a := 56) (b := 8 * k) (by omega) (by omega)
      exact ⟨ilt_t (n := 8) h8, wrapI_add (a := 1) (b := k) (by omega), wrapI_add (a := 9) (b := k) (by omega), hm, hs, hm, hs, ix_of (by omega) (ix_of (by omega) ⟨wrapI_succ (by omega), rfl, ⟨(k + 1, _), inv_wr (P := ⟨x, y, z⟩) hx hy h8 hi⟩, by simp only; omega, rfl, rfl⟩)⟩
    · have : k = 8 := by omega
      subst this
      refine roundF mixed tt_ok (G := ctxL []) ctxL_nil 40 [] ?_
      refine same (p := true = true ∧ ∃ j : {a // InvWr ⟨x, y, z⟩ a}, j.1.1 = 8 ∧ VWr 8 = VWr j.1.1 ∧ HWr ⟨x, y, z⟩ g = HWr ⟨x, y, z⟩ j.1.2) ?_ (by kernel_rfl)
      exact ⟨rfl, ⟨(8, g), hi⟩, rfl, rfl, rfl⟩
  · intro ⟨⟨k, g⟩, hi⟩ junk h8
    simp only at h8
    subst h8
    refine evS_q mixed tt_ok (G := ctxL []) ctxL_nil 40 [] (same (p := endV (.v1 (.agg [.ws .u8 17 g])) (.v1 (.agg [.ws .u8 17 (byP ⟨x, y, z⟩)]))) ?_ (by kernel_rfl))
    refine ⟨_, rfl, fun ρ => ?_⟩
    show Value.agg (cvals ρ [.ws .u8 17 g]).toArray = Value.agg (cvals ρ [.ws .u8 17 (byP ⟨x, y, z⟩)]).toArray
    rw [ws8_val (inv_wr8 hi) ρ]
/-! Bytes of the code -/
def kBytes (s : Int) (p r c gx gy : Nat) (args : List AV) (h : Heap) (slot : Nat) : Option (List Prop × AV × Heap) :=
  match args with
  | [.v1 (.sc (.it t)), .v1 (.agg [.one (.w .u64 x), .one (.w .u64 y), .one (.bo z)])] => match isHole h slot with
    | true => some ([t = s, OnP p ⟨x, y, z⟩], .tup [.sc (.sl slot 0 17 17), .sc (.it 0)], hset h slot ⟨75, [.ws .u8 17 (byP ⟨x, y, z⟩)], 0, 0⟩)
    | false => none
  | _ => none
abbrev nilT (e : Int) : AV := .tup [.sc (.rw (.slice none 0 0)), .sc (.it e)]
def kBytesF (s : Int) (p r c gx gy : Nat) : List AV → Option (List Prop × AV)
  | [.v1 (.sc (.it t)), .v1 (.agg [.one (.w .u64 x), .one (.w .u64 y), .one (.bo z)])] => some ([t = s, LwP p ⟨x, y, z⟩, onB p ⟨x, y, z⟩ = false], nilT 5)
  | _ => none
def kBytesB : List AV → Option (List Prop × AV)
  | [.v1 (.sc (.it t)), .v1 (.agg [.one (.w .u64 x), .one (.w .u64 y), .one (.bo z)])] => some ([t ≠ 1, t ≠ 2], nilT 2)
  | _ => none
section
variable {s : Int} {p r c gx gy : Nat}
theorem okEBytes (hC : CuOk s p r c gx gy) : (CallC.mem (kBytes s p r c gx gy)).Ok Try.prog 12 := by
  have hG : CtxOk Try.prog (ctxL [(42, .rd (kChk1 (qOn1 s p) (chV p r c gx gy 0))), (43, .pure kWr)]) := ctxL_cons (okChk1 hC) <| ctxL_cons okWritten ctxL_nil
  intro args h slot pre v h' e hp
  unfold kBytes at e
  split at e
  rotate_left
  · cases e
  rename_i t x y z
  split at e
  rotate_left
  · cases e
  rename_i hh
  cases e
  have hs : t = s := hp _ (by simp)
  have h1 : OnP p ⟨x, y, z⟩ := hp _ (by simp)
  have hl := h1.lt hC.gp
  have hw := OnP.lw hC.gp h1
  refine views_call tt_ok Try.func12 (by kernel_rfl) (by kernel_rfl) [.pl (.v1 (.sc (.it t))), .pl (.v1 (.agg (pC x y z)))] (args := [.v1 (.sc (.it t)), .v1 (.agg (pC x y z))])
    ⟨⟨rfl, rfl⟩, ⟨rfl, rfl⟩, trivial⟩ slot [⟨75, [.ws .u8 17 (byP ⟨x, y, z⟩)], 0, 0⟩] (.tup [.sc (.sl 0 0 17 17), .sc (.it 0)]) rfl rfl rfl (fun t ht => by
      have : t = 0 := by simpa using ht
      subst this; exact hh) fun a W hi => ⟨[5], rfl, ?_⟩
  rcases hi with _ | ⟨hi⟩ | _ | _ | _
  rcases hi with _ | ⟨hi⟩ | _ | _ | _
  cases hi
  refine evS_q mixed tt_ok hG 60 [] (same (p := qOn1 s p t ⟨x, y, z⟩ ∧ x < W ∧ y < W ∧ endM [5] [wrB (byP ⟨x, y, z⟩)] [wrB (byP ⟨x, y, z⟩)] (.tup [.sc (.sl 5 0 17 17), .sc (.it 0)]) (.tup [.sc (.sl 0 0 17 17), .sc (.it 0)])) ?_ (by kernel_rfl))
  exact ⟨⟨hs, h1⟩, hw.1, hw.2, endM_ok (simH_refl _) rfl fun _ => rfl⟩
theorem okEBytesF (hC : CuOk s p r c gx gy) : (CallC.pure (kBytesF s p r c gx gy)).Ok Try.prog 12 := by
  have hG : CtxOk Try.prog (ctxL [(42, .rd (kChk1 (qOff1 s p) (zCh 5)))]) := ctxL_cons (okChk1F hC) ctxL_nil
  intro args pre v e hp
  unfold kBytesF at e
  split at e
  rotate_left
  · cases e
  rename_i t x y z
  cases e
  have hs : t = s := hp _ (by simp)
  have hl : LwP p ⟨x, y, z⟩ := hp _ (by simp)
  have hb : onB p ⟨x, y, z⟩ = false := hp _ (by simp)
  refine pure_walk' tt_ok Try.func12 (by kernel_rfl) (by kernel_rfl) (by rfl) (by rfl) ?_
  exact evS_q mixed tt_ok hG 60 [] (same (p := qOff1 s p t ⟨x, y, z⟩ ∧ endV (nilT 5) (nilT 5)) ⟨⟨hs, hl, hb⟩, endV_eq rfl⟩ (by kernel_rfl))
theorem okEBytesB : (CallC.pure kBytesB).Ok Try.prog 12 := by
  have hG : CtxOk Try.prog (ctxL [(42, .rd (kChk1 (fun t _ => qBad0 t) (zCh 2)))]) := ctxL_cons okChk1B ctxL_nil
  intro args pre v e hp
  unfold kBytesB at e
  split at e
  rotate_left
  · cases e
  rename_i t x y z
  cases e
  have b1 : t ≠ 1 := hp _ (by simp)
  have b2 : t ≠ 2 := hp _ (by simp)
  refine pure_walk' tt_ok Try.func12 (by kernel_rfl) (by kernel_rfl) (by rfl) (by rfl) ?_
  exact evS_q mixed tt_ok hG 60 [] (same (p := qBad0 t ∧ endV (nilT 2) (nilT 2)) ⟨⟨b1, b2⟩, endV_eq rfl⟩ (by kernel_rfl))
end

/-! Bytes of the document -/
def prI : Nat → Int
  | 0 => -1
  | i + 1 => Int.ofNat i
theorem prI_eq {i : Nat} (h : i < 1000) : wrapI (Int.ofNat i - 1) = prI i := by
  cases i with
  | zero => rfl
  | succ i =>
    rw [show Int.ofNat (i + 1) - 1 = Int.ofNat i by simp only [Int.ofNat_eq_natCast]; omega]
    exact wrapI_nn (by omega)
theorem ige (i : Nat) : (!ilt (Int.ofNat i) 0) = true := by
  have : ilt (Int.ofNat i) 0 = false := by rw [← Bool.not_eq_true, ilt_iff]; simp
  rw [this]; rfl
def InvBd (P : LP) (o : Nat) (a : Nat × Nat × (Nat → Nat)) : Prop := a.1 + a.2.1 = 8 ∧ ∀ j, j < a.2.1 + o → a.2.2 j % 256 = byP P j % 256
abbrev BYr (x i : Nat) : Nat := x % W / 2 ^ min (8 * i) 64 % W
theorem BYr_eq {x i : Nat} (hx : x < W) (hi : i < 8) : BYr x i = x / 256 ^ i := by
  unfold BYr
  rw [Nat.mod_eq_of_lt hx, show min (8 * i) 64 = 8 * i by omega, Nat.pow_mul, Nat.mod_eq_of_lt (Nat.lt_of_le_of_lt (Nat.div_le_self _ _) hx)]
abbrev apF (n : Nat) (g : Nat → Nat) (v : Nat) : Nat → Nat := catF n g (upd (fun _ => 0) 0 v)
theorem apF_inv {P : LP} {n v : Nat} {g : Nat → Nat} (h : ∀ j, j < n → g j % 256 = byP P j % 256) (hv : v % 256 = byP P n % 256) : ∀ j, j < n + 1 → apF n g v j % 256 = byP P j % 256 := by
  intro j hj
  unfold apF catF
  by_cases hjn : j < n
  · have : Nat.blt j n = true := by rw [Nat.blt_eq]; exact hjn
    rw [this, cond_true]; exact h j hjn
  · have : Nat.blt j n = false := by rw [← Bool.not_eq_true, Nat.blt_eq]; exact hjn
    have e : j = n := by omega
    subst e
    rw [this, cond_false, Nat.sub_self]
    exact hv
def VBd (r : Nat) : Nat → List AV
  | 0 => [pt 0 0, .v1 (.sc (.sl 1 0 1 1)), .v1 (.sc (.it (prI r)))]
  | k + 1 => [pt 0 0, .v1 (.sc (.so 1 (k + 2))), .v1 (.sc (.it (prI r)))]
def HBd (P : LP) (g : Nat → Nat) : Nat → Heap
  | 0 => [pB P, some ⟨5, [.ws .u8 1 g], 0, 0⟩, none]
  | k + 1 => [pB P, some ⟨5, [.ws .u8 (k + 2) g], 1, 1⟩, some ⟨0, [], 2, 0⟩]
abbrev VBe (r k : Nat) : List AV := [pt 0 0, .v1 (.sc (.so 1 (k + 9))), .v1 (.sc (.it (prI r)))]
abbrev HBe (P : LP) (g : Nat → Nat) (k : Nat) : Heap := [pB P, some ⟨5, [.ws .u8 (k + 9) g], 1, 1⟩, some ⟨0, [], 2, 0⟩]
def cBytes' (args : List AV) (h : Heap) (slot : Nat) : Option (List Prop × AV × Heap) :=
  match args with
  | [.v1 (.agg [.one (.w .u64 x), .one (.w .u64 y), .one (.bo z)])] => match isHole h slot && isHole h (slot + 1) with
    | true => some ([x < W, y < W], .v1 (.sc (.so slot 17)), hset (hset h slot ⟨5, [.ws .u8 17 (byP ⟨x, y, z⟩)], 1, 1⟩) (slot + 1) ⟨0, [], 2, 0⟩)
    | false => none
  | _ => none
theorem okBytes' : (CallC.mem cBytes').Ok Try.prog 18 := by
  intro args h slot pre v h' e hp
  unfold cBytes' at e
  split at e
  rotate_left
  · cases e
  rename_i x y z
  split at e
  rotate_left
  · cases e
  rename_i hh
  cases e
  simp only [Bool.and_eq_true] at hh
  have hx : x < W := hp _ (by simp)
  have hy : y < W := hp _ (by simp)
  refine views_call tt_ok Try.func18 (by kernel_rfl) (by kernel_rfl) [.pl (.v1 (.agg (pC x y z)))] (args := [.v1 (.agg (pC x y z))])
    ⟨⟨rfl, rfl⟩, trivial⟩ slot [⟨5, [.ws .u8 17 (byP ⟨x, y, z⟩)], 1, 1⟩, ⟨0, [], 2, 0⟩] (.v1 (.sc (.so 0 17))) rfl rfl rfl (fun t ht => by
      have : t = 0 ∨ t = 1 := by simp at ht; omega
      rcases this with rfl | rfl
      · exact hh.1
      · exact hh.2) fun a W hi => ⟨[1,2], rfl, ?_⟩
  rcases hi with _ | ⟨hi⟩ | _ | _ | _
  cases hi
  refine loopR mixed tt_ok (G := ctxL []) ctxL_nil (by kernel_rfl) (ι := {a // InvBd ⟨x, y, z⟩ 1 a}) [0,1,77] [0,4,5] [0,1,2] [1,3,4] 38 (fun a => VBd a.1.1 a.1.2.1) (fun a => HBd ⟨x, y, z⟩ a.1.2.2 a.1.2.1) (fun a => a.1.1) (fun a => a.1.1 = 0)
    (fun a => by
      obtain ⟨⟨r, k, g⟩, _⟩ := a
      cases k <;> kernel_rfl) (fun _ j h => by obtain ⟨_, h⟩ := h; simp [hget] at h) (fun j h => by obtain ⟨_, h⟩ := h; simp [hget] at h) 60 [] ?_ ?_ ?_
  · cases z
    · refine same (p := true = true ∧ true = true ∧ ∃ j : {a // InvBd ⟨x, y, false⟩ 1 a}, VBd 8 0 = VBd j.1.1 j.1.2.1 ∧ HBd ⟨x, y, false⟩ (upd (fun _ => 0) 0 0) 0 = HBd ⟨x, y, false⟩ j.1.2.2 j.1.2.1) ?_ (by kernel_rfl)
      exact ⟨rfl, rfl, ⟨(8, 0, upd (fun _ => 0) 0 0), rfl, fun j hj => by simp at hj; subst hj; rfl⟩, rfl, rfl⟩
    · refine same (p := true = true ∧ true = true ∧ ∃ j : {a // InvBd ⟨x, y, true⟩ 1 a}, VBd 8 0 = VBd j.1.1 j.1.2.1 ∧ HBd ⟨x, y, true⟩ (upd (upd (fun _ => 0) 0 0) 0 1) 0 = HBd ⟨x, y, true⟩ j.1.2.2 j.1.2.1) ?_ (by kernel_rfl)
      exact ⟨rfl, rfl, ⟨(8, 0, upd (upd (fun _ => 0) 0 0) 0 1), rfl, fun j hj => by simp at hj; subst hj; rfl⟩, rfl, rfl⟩
  · intro ⟨⟨r, k, g⟩, hs, hg⟩ junk
    simp only at hs hg
    cases r with
    | zero =>
      cases k with
      | zero => omega
      | succ k =>
        refine roundF mixed tt_ok (G := ctxL []) ctxL_nil 60 [] ?_
        refine same (p := true = true ∧ true = true ∧ ∃ j : {a // InvBd ⟨x, y, z⟩ 1 a}, j.1.1 = 0 ∧ VBd 0 (k + 1) = VBd j.1.1 j.1.2.1 ∧ HBd ⟨x, y, z⟩ g (k + 1) = HBd ⟨x, y, z⟩ j.1.2.2 j.1.2.1) ?_ (by kernel_rfl)
        exact ⟨rfl, rfl, ⟨(0, k + 1, g), hs, hg⟩, rfl, rfl, rfl⟩
    | succ i =>
      have hv : BYr x i % 256 = byP ⟨x, y, z⟩ (k + 1) % 256 := by
        rw [BYr_eq hx (by omega), Nat.add_comm k 1, byP_x ⟨x, y, z⟩ (by omega), show 7 - k = i by omega]
      have hm := wrapI_mul (a := 8) (b := i) (by omega)
      cases k with
      | zero =>
        have hi7 : i = 7 := by omega
        subst hi7
        refine roundF mixed tt_ok (G := ctxL []) ctxL_nil 60 [] ?_
        refine same (p := true = true ∧ true = true ∧ ∃ j : {a // InvBd ⟨x, y, z⟩ 1 a}, j.1.1 < 8 ∧ VBd 7 1 = VBd j.1.1 j.1.2.1 ∧ HBd ⟨x, y, z⟩ (apF 1 g (BYr x 7)) 1 = HBd ⟨x, y, z⟩ j.1.2.2 j.1.2.1) ?_ (by kernel_rfl)
        exact ⟨rfl, rfl, ⟨(7, 1, apF 1 g (BYr x 7)), rfl, apF_inv hg hv⟩, by simp only; omega, rfl, rfl⟩
      | succ k =>
        refine roundF mixed tt_ok (G := ctxL []) ctxL_nil 60 [⟨5,1,.lit (.bo true)⟩,⟨7,4,.lit (.it (Int.ofNat (8*i)))⟩,⟨7,8,.sym⟩,⟨6,1,.lit (.it (prI i))⟩] ?_
        refine same (p := (!ilt (Int.ofNat i) 0) = true ∧ wrapI (8 * Int.ofNat i) = Int.ofNat (8 * i) ∧ k + 2 = k + 2 ∧ 1 ≤ 1 ∧ k + 2 + 1 ≤ limN ∧ (false = true → 0 < 1) ∧ wrapI (Int.ofNat i - 1) = prI i ∧ true = true ∧ true = true ∧
          ∃ j : {a // InvBd ⟨x, y, z⟩ 1 a}, j.1.1 < i + 1 ∧ VBd i (k + 2) = VBd j.1.1 j.1.2.1 ∧ HBd ⟨x, y, z⟩ (apF (k + 2) g (BYr x i)) (k + 2) = HBd ⟨x, y, z⟩ j.1.2.2 j.1.2.1) ?_ (by kernel_rfl)
        exact ⟨ige i, hm, rfl, Nat.le_refl _, by unfold limN; omega, fun h => (by cases h), prI_eq (by omega), rfl, rfl, ⟨(i, k + 2, apF (k + 2) g (BYr x i)), by simp only; omega, apF_inv hg hv⟩, by simp only; omega, rfl, rfl⟩
  · intro ⟨⟨r, k, g⟩, hs, hg⟩ junk h0
    simp only at hs hg h0
    subst h0
    have hk8 : k = 8 := by omega
    subst hk8
    refine loopR mixed tt_ok (G := ctxL []) ctxL_nil (by kernel_rfl) (ι := {a // InvBd ⟨x, y, z⟩ 9 a}) [0,1,2] [0,4,5] [0,1,2] [1,3,5] 38 (fun a => VBe a.1.1 a.1.2.1) (fun a => HBe ⟨x, y, z⟩ a.1.2.2 a.1.2.1) (fun a => a.1.1) (fun a => a.1.1 = 0)
      (fun a => by kernel_rfl) (fun _ j h => by obtain ⟨_, h⟩ := h; simp [hget] at h) (fun j h => by obtain ⟨_, h⟩ := h; simp [hget] at h) 60 [] ?_ ?_ ?_
    · refine same (p := true = true ∧ true = true ∧ ∃ j : {a // InvBd ⟨x, y, z⟩ 9 a}, VBe 8 0 = VBe j.1.1 j.1.2.1 ∧ HBe ⟨x, y, z⟩ g 0 = HBe ⟨x, y, z⟩ j.1.2.2 j.1.2.1) ?_ (by kernel_rfl)
      exact ⟨rfl, rfl, ⟨(8, 0, g), rfl, fun j hj => hg j (by omega)⟩, rfl, rfl⟩
    · intro ⟨⟨r, k, g⟩, hs, hg⟩ junk
      simp only at hs hg
      cases r with
      | zero =>
        refine roundF mixed tt_ok (G := ctxL []) ctxL_nil 60 [] ?_
        refine same (p := true = true ∧ true = true ∧ ∃ j : {a // InvBd ⟨x, y, z⟩ 9 a}, j.1.1 = 0 ∧ VBe 0 k = VBe j.1.1 j.1.2.1 ∧ HBe ⟨x, y, z⟩ g k = HBe ⟨x, y, z⟩ j.1.2.2 j.1.2.1) ?_ (by kernel_rfl)
        exact ⟨rfl, rfl, ⟨(0, k, g), hs, hg⟩, rfl, rfl, rfl⟩
      | succ i =>
        have hv : BYr y i % 256 = byP ⟨x, y, z⟩ (k + 9) % 256 := by
          rw [BYr_eq hy (by omega), Nat.add_comm k 9, byP_y ⟨x, y, z⟩ (by omega), show 7 - k = i by omega]
        have hm := wrapI_mul (a := 8) (b := i) (by omega)
        refine roundF mixed tt_ok (G := ctxL []) ctxL_nil 60 [⟨9,1,.lit (.bo true)⟩,⟨11,4,.lit (.it (Int.ofNat (8*i)))⟩,⟨11,8,.sym⟩,⟨10,1,.lit (.it (prI i))⟩] ?_
        refine same (p := (!ilt (Int.ofNat i) 0) = true ∧ wrapI (8 * Int.ofNat i) = Int.ofNat (8 * i) ∧ k + 9 = k + 9 ∧ 1 ≤ 1 ∧ k + 9 + 1 ≤ limN ∧ (false = true → 0 < 1) ∧ wrapI (Int.ofNat i - 1) = prI i ∧ true = true ∧ true = true ∧
          ∃ j : {a // InvBd ⟨x, y, z⟩ 9 a}, j.1.1 < i + 1 ∧ VBe i (k + 1) = VBe j.1.1 j.1.2.1 ∧ HBe ⟨x, y, z⟩ (apF (k + 9) g (BYr y i)) (k + 1) = HBe ⟨x, y, z⟩ j.1.2.2 j.1.2.1) ?_ (by kernel_rfl)
        have ha := apF_inv hg hv
        exact ⟨ige i, hm, rfl, Nat.le_refl _, by unfold limN; omega, fun h => (by cases h), prI_eq (by omega), rfl, rfl, ⟨(i, k + 1, apF (k + 9) g (BYr y i)), by simp only; omega, fun j hj => ha j (by omega)⟩, by simp only; omega, rfl, rfl⟩
    · intro ⟨⟨r, k, g⟩, hs, hg⟩ junk h0
      simp only at hs hg h0
      subst h0
      have hk8 : k = 8 := by omega
      subst hk8
      refine evS_q mixed tt_ok (G := ctxL []) ctxL_nil 40 [] (same (p := endM [1,2] [some ⟨5, [.ws .u8 17 g], 1, 1⟩, some ⟨0, [], 2, 0⟩] [some ⟨5, [.ws .u8 17 (byP ⟨x, y, z⟩)], 1, 1⟩, some ⟨0, [], 2, 0⟩] (.v1 (.sc (.so 1 17))) (.v1 (.sc (.so 0 17)))) ?_ (by kernel_rfl))
      exact endM_ok ⟨⟨rfl, rfl, rfl, fun ρ => ws8_val hg ρ⟩, simB_refl _, trivial⟩ rfl fun _ => rfl
end Go.Proofs.Ytafiafkeigdjhaa
