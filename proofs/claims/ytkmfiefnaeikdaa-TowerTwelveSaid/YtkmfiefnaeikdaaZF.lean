/- Joined: WD D1 D2 D3 D4 D5 D6 D7 D8. -/
import Derived.Test.YtkmfiefnaeikdaaZA
import Derived.Test.YtkmfiefnaeikdaaZC
import Derived.Test.YtkmfiefnaeikdaaZB
import Derived.Test.YtkmfiefnaeikdaaZE
/- Division as a tuple of three. -/
namespace Go.Proofs.Ytkmfiefnaeikdaa
open Go.Rq Go
set_option maxRecDepth 100000

def dQ (x y : Nat) : Nat := bif Nat.beq y 0 then 0 else x / y
def dR (x y : Nat) : Nat := bif Nat.beq y 0 then 0 else x % y
def dE (y : Nat) : Int := bif Nat.beq y 0 then 2 else 0
def cDiv2 : List AV → Option (List Prop × AV)
  | [.v1 (.agg [.ws .u64 6 a]), .v1 (.agg [.ws .u64 6 b])] => some ([], .tup [numV (dQ (nv a) (nv b)), numV (dR (nv a) (nv b)), .sc (.it (dE (nv b)))])
  | _ => none
theorem divV_eq (x y : Nat) : divV x y = .tup [numV (dQ x y), numV (dR x y), .sc (.it (dE y))] := by
  unfold divV dQ dR dE; cases Nat.beq y 0 <;> rfl
theorem okDiv2_of {n : Nat} (h : (CallC.pure cDiv).Ok Try.prog n) : (CallC.pure cDiv2).Ok Try.prog n := by
  intro args pre v e _
  unfold cDiv2 at e
  split at e
  · rename_i a b
    cases e
    have := h [.v1 (.agg [.ws .u64 6 a]), .v1 (.agg [.ws .u64 6 b])] [] (divV (nv a) (nv b)) rfl (fun _ h => by cases h)
    rw [divV_eq] at this
    exact this
  · cases e

end Go.Proofs.Ytkmfiefnaeikdaa

/- The document's field: a row, Montgomery's product. Printed by gend1.py. -/
namespace Go.Proofs.Ytkmfiefnaeikdaa
open Go.Rq Go
set_option maxRecDepth 100000
set_option linter.unusedVariables false

abbrev fA (n : Nat → Nat) (l : Nat) (s : Nat → Nat) : AV := .v1 (.agg [.ws .u64 6 n, .one (.w .u64 l), .ws .u64 6 s])
abbrev tB (t : Nat → Nat) : Option Blk := some ⟨110, [.ws .u64 8 t], 0, 0⟩
def rowF (x : Nat) (b t : Nat → Nat) : Nat → Nat
  | 0 => mLo x (b 0) (t 0) (crow x b t 0)
  | 1 => mLo x (b 1) (t 1) (crow x b t 1)
  | 2 => mLo x (b 2) (t 2) (crow x b t 2)
  | 3 => mLo x (b 3) (t 3) (crow x b t 3)
  | 4 => mLo x (b 4) (t 4) (crow x b t 4)
  | 5 => mLo x (b 5) (t 5) (crow x b t 5)
  | 6 => t 6 + crow x b t 6 + 0
  | _ => t 7 + (t 6 % W + crow x b t 6 % W + 0 % W) / W
def cRow (args : List AV) (h : Heap) (slot : Nat) : Option (List Prop × AV × Heap) :=
  match args with
  | [.v1 (.agg [.ws .u64 6 n, .one (.w .u64 l), .ws .u64 6 s]), .v1 (.sc (.pt k 0)), .v1 (.sc (.w .u64 x)), .v1 (.agg [.ws .u64 6 b])] => match hget h k with
    | some ⟨ty, [.ws .u64 8 t], 0, 0⟩ => match Nat.beq ty 110 with
      | true => some ([], .tup [], hset h k ⟨110, [.ws .u64 8 (rowF x b t)], 0, 0⟩)
      | false => none
    | _ => none
  | _ => none
def GRw : Ctx := ctxL [(106, .pure cMul64), (103, .pure cAdd64)]
theorem GRw_ok : CtxOk Try.prog GRw := ctxL_cons okMul64 <| ctxL_cons okAdd64 ctxL_nil
theorem Lv_tB {t : Nat → Nat} : ∀ i, i < 1 → Lv [tB t] i := fun i hi => by
  have : i = 0 := by omega
  subst this; exact ⟨_, rfl, by simp⟩
theorem ws64_val {m : Nat} {f g : Nat → Nat} (h : ∀ j, j < m → f j % W = g j % W) (ρ : Ren) : cvals ρ [.ws .u64 m f] = cvals ρ [.ws .u64 m g] := by
  simp only [cvals, Cell.vals, M, List.append_nil]
  exact List.map_congr_left fun j hj => by have := h j (List.mem_range.1 hj); simp only [W] at this; rw [this]
theorem okRow : (CallC.mem cRow).Ok Try.prog 122 := by
  intro args h slot pre v h' e _
  unfold cRow at e
  split at e
  · rename_i n l s k x b
    split at e
    · rename_i ty t hb
      split at e
      · rename_i hty
        cases e
        have hty : ty = 110 := Nat.beq_eq.mp hty
        subst hty
        have hpk : pickH [k] h [k] = [tB t] := by
          show [pickB [k] (hget h k)] = _
          rw [hb]; rfl
        have hpk2 : pickH [k] (hset h k ⟨110, [.ws .u64 8 (rowF x b t)], 0, 0⟩) [k] = [tB (rowF x b t)] := by
          show [pickB [k] (hget _ k)] = _
          rw [hget_hset_same (hget_lt hb)]; rfl
        have hbk : bk [k] k = 0 := by simp [bk, idxN]
        obtain ⟨C, hC⟩ : ∃ C : Nat → Nat, C = crow x b t := ⟨_, rfl⟩
        obtain ⟨L, hL⟩ : ∃ L : Nat → Nat, L = fun k => mLo x (b k) (t k) (C k) := ⟨_, rfl⟩
        obtain ⟨S6, hS6⟩ : ∃ x, x = t 6 + C 6 + 0 := ⟨_, rfl⟩
        obtain ⟨S7, hS7⟩ : ∃ x, x = (t 6 % W + C 6 % W + 0 % W) / W := ⟨_, rfl⟩
        have z1 : 0 % W ≤ 1 := by decide
        have sim : SimH [tB (upd (upd (upd (upd (upd (upd (upd (upd t 0 (L 0)) 1 (L 1)) 2 (L 2)) 3 (L 3)) 4 (L 4)) 5 (L 5)) 6 S6) 7 (t 7 + S7))] [tB (rowF x b t)] := by
          refine ⟨⟨rfl, rfl, rfl, ws64_val fun j hj => ?_⟩, trivial⟩
          subst hC hL hS6 hS7
          have : j = 0 ∨ j = 1 ∨ j = 2 ∨ j = 3 ∨ j = 4 ∨ j = 5 ∨ j = 6 ∨ j = 7 := by omega
          rcases this with rfl | rfl | rfl | rfl | rfl | rfl | rfl | rfl <;> rfl
        refine mem_walk tt_ok Try.func122 (by kernel_rfl) (by kernel_rfl) [k] [] 0 [tB t] [tB (rowF x b t)] (args' := [fA n l s, pt 0 0, .v1 (.sc (.w .u64 x)), nm b]) (vK := .tup [])
          (by kernel_rfl) hpk (by kernel_rfl) ?_ (by kernel_rfl) Lv_tB (by kernel_rfl) (by kernel_rfl) (fun i hi => (Lv_tB i (by simpa using hi)).dm) (by kernel_rfl) hpk2 rfl (fun t ht => by simp at ht) (fun i hi _ => ?_) ?_
        · show [_, AV.v1 (.sc (.pt (bk [k] k) 0)), _, _] = _
          rw [hbk]; rfl
        · exact hget_hset_ne fun e => hi 0 (by simp) e.symm
        · refine evS_q mixed tt_ok GRw_ok 200 [⟨8,4,.lit (.w .u64 (L 0))⟩,⟨9,2,.lit (.w .u64 (C 1))⟩,⟨8,4,.lit (.w .u64 (L 1))⟩,⟨9,2,.lit (.w .u64 (C 2))⟩,⟨8,4,.lit (.w .u64 (L 2))⟩,⟨9,2,.lit (.w .u64 (C 3))⟩,⟨8,4,.lit (.w .u64 (L 3))⟩,⟨9,2,.lit (.w .u64 (C 4))⟩,⟨8,4,.lit (.w .u64 (L 4))⟩,⟨9,2,.lit (.w .u64 (C 5))⟩,⟨8,4,.lit (.w .u64 (L 5))⟩,⟨9,2,.lit (.w .u64 (C 6))⟩,⟨11,7,.lit (.w .u64 S6)⟩,⟨11,8,.lit (.w .u64 S7)⟩] ?_
          refine same (p := 0 % W ≤ 1 ∧ 0 % W ≤ 1 ∧ mLo x (b 0) (t 0) 0 = L 0 ∧ mHi x (b 0) (t 0) 0 = C 1 ∧ 0 % W ≤ 1 ∧ 0 % W ≤ 1 ∧ mLo x (b 1) (t 1) (C 1) = L 1 ∧ mHi x (b 1) (t 1) (C 1) = C 2 ∧ 0 % W ≤ 1 ∧ 0 % W ≤ 1 ∧ mLo x (b 2) (t 2) (C 2) = L 2 ∧ mHi x (b 2) (t 2) (C 2) = C 3 ∧ 0 % W ≤ 1 ∧ 0 % W ≤ 1 ∧ mLo x (b 3) (t 3) (C 3) = L 3 ∧ mHi x (b 3) (t 3) (C 3) = C 4 ∧ 0 % W ≤ 1 ∧ 0 % W ≤ 1 ∧ mLo x (b 4) (t 4) (C 4) = L 4 ∧ mHi x (b 4) (t 4) (C 4) = C 5 ∧ 0 % W ≤ 1 ∧ 0 % W ≤ 1 ∧ mLo x (b 5) (t 5) (C 5) = L 5 ∧ mHi x (b 5) (t 5) (C 5) = C 6 ∧ 0 % W ≤ 1 ∧ t 6 + C 6 + 0 = S6 ∧ (t 6 % W + C 6 % W + 0 % W) / W = S7 ∧ true = true ∧ true = true ∧ SimH [tB (upd (upd (upd (upd (upd (upd (upd (upd t 0 (L 0)) 1 (L 1)) 2 (L 2)) 3 (L 3)) 4 (L 4)) 5 (L 5)) 6 S6) 7 (t 7 + S7))] [tB (rowF x b t)] ∧ ∃ v', some (AV.tup []) = some v' ∧ avB [tB (upd (upd (upd (upd (upd (upd (upd (upd t 0 (L 0)) 1 (L 1)) 2 (L 2)) 3 (L 3)) 4 (L 4)) 5 (L 5)) 6 S6) 7 (t 7 + S7))] (bkAV [0] v') = true ∧ ∀ ρ, (bkAV [0] v').val ρ = (AV.tup []).val ρ) ?_ (by kernel_rfl)
          refine ⟨z1, z1, by subst hC hL hS6 hS7; rfl, by subst hC hL hS6 hS7; rfl, z1, z1, by subst hC hL hS6 hS7; rfl, by subst hC hL hS6 hS7; rfl, z1, z1, by subst hC hL hS6 hS7; rfl, by subst hC hL hS6 hS7; rfl, z1, z1, by subst hC hL hS6 hS7; rfl, by subst hC hL hS6 hS7; rfl, z1, z1, by subst hC hL hS6 hS7; rfl, by subst hC hL hS6 hS7; rfl, z1, z1, by subst hC hL hS6 hS7; rfl, by subst hC hL hS6 hS7; rfl, z1, by subst hC hL hS6 hS7; rfl, by subst hC hL hS6 hS7; rfl, rfl, rfl, sim, _, rfl, rfl, fun _ => rfl⟩
      · cases e
    · cases e
  · cases e
end Go.Proofs.Ytkmfiefnaeikdaa

/- The document's Montgomery product. Printed by gend2.py. -/
namespace Go.Proofs.Ytkmfiefnaeikdaa
open Go.Rq Go
set_option maxRecDepth 100000
set_option linter.unusedVariables false

theorem rowF_val {x : Nat} {b t : Nat → Nat} (h7 : t 7 % W = 0) (hb : sB W t 7 + x % W * nv b < W ^ 7) : sB W (rowF x b t) 7 = sB W t 7 + x % W * nv b ∧ rowF x b t 7 % W = 0 := by
  obtain ⟨C, hC⟩ : ∃ C : Nat → Nat, C = crow x b t := ⟨_, rfl⟩
  obtain ⟨L, hL⟩ : ∃ L : Nat → Nat, L = fun k => mLo x (b k) (t k) (C k) := ⟨_, rfl⟩
  obtain ⟨S7, hS7⟩ : ∃ x, x = (t 6 % W + C 6 % W + 0 % W) / W := ⟨_, rfl⟩
  have z := row_top hC hL hS7 hb
  have cs : ∀ k, C (k + 1) = mHi x (b k) (t k) (C k) := fun k => by rw [hC]; rfl
  have ls : ∀ k, L k = mLo x (b k) (t k) (C k) := fun k => by rw [hL]
  have c0 : C 0 = 0 := by rw [hC]; rfl
  have b0 : C 0 < W := by rw [c0]; decide
  have s0 := m_step (x := x) (y := b 0) (p := t 0) b0
  rw [← cs, ← ls] at s0
  have s1 := m_step (x := x) (y := b 1) (p := t 1) s0.2
  rw [← cs, ← ls] at s1
  have s2 := m_step (x := x) (y := b 2) (p := t 2) s1.2
  rw [← cs, ← ls] at s2
  have s3 := m_step (x := x) (y := b 3) (p := t 3) s2.2
  rw [← cs, ← ls] at s3
  have s4 := m_step (x := x) (y := b 4) (p := t 4) s3.2
  rw [← cs, ← ls] at s4
  have s5 := m_step (x := x) (y := b 5) (p := t 5) s4.2
  rw [← cs, ← ls] at s5
  have s6 := top_step (x := t 6) s5.2
  rw [← hS7] at s6
  rw [c0] at s0
  have hw := mont_words (x := x % W) s0.1 s1.1 s2.1 s3.1 s4.1 s5.1 s6.1
  rw [z, Nat.mul_zero, Nat.add_zero] at hw
  constructor
  · have e : sB W (rowF x b t) 7 = L 0 % W + W * (L 1 % W + W * (L 2 % W + W * (L 3 % W + W * (L 4 % W + W * (L 5 % W + W * ((t 6 + C 6 + 0) % W)))))) := by
      rw [sB7_eq]
      subst hC hL
      rfl
    rw [e, hw, sB7_eq t]
    unfold nv
    rfl
  · show (t 7 + (t 6 % W + crow x b t 6 % W + 0 % W) / W) % W = 0
    rw [← hC, ← hS7, z, Nat.add_zero]; exact h7
def shS (t : Nat → Nat) : Nat → (Nat → Nat)
  | 0 => t
  | k + 1 => upd (shS t k) k (shS t k (k + 1))
/-- A round: two rows, shifted down by a word. -/
def rdF (n : Nat → Nat) (l x : Nat) (b t : Nat → Nat) : Nat → Nat := upd (shS (rowF (rowF x b t 0 * l) n (rowF x b t)) 7) 7 0
theorem sh_val {t : Nat → Nat} (h0 : t 0 % W = 0) (h7 : t 7 % W = 0) : sB W (upd (shS t 7) 7 0) 7 * W = sB W t 7 ∧ upd (shS t 7) 7 0 7 % W = 0 := by
  refine ⟨?_, rfl⟩
  rw [sB7_eq, sB7_eq t]
  show (t 1 % W + W * (t 2 % W + W * (t 3 % W + W * (t 4 % W + W * (t 5 % W + W * (t 6 % W + W * (t 7 % W))))))) * W = _
  rw [h0, h7]
  generalize t 1 % W = x1
  generalize t 2 % W = x2
  generalize t 3 % W = x3
  generalize t 4 % W = x4
  generalize t 5 % W = x5
  generalize t 6 % W = x6
  simp only [W]; omega
theorem sB7_mod (t : Nat → Nat) : sB W t 7 % W = t 0 % W := by
  rw [sB7_eq, Nat.add_mul_mod_self_left, Nat.mod_mod]
theorem nv_mod (t : Nat → Nat) : nv t % W = t 0 % W := by
  unfold nv
  rw [Nat.add_mul_mod_self_left, Nat.mod_mod]
theorem rd_bound {w S N q : Nat} (h : S < (w + 2) * N) (hq : q < w) : S + q * N < (w + w + 2) * N := by
  have h2 : q * N ≤ w * N := Nat.mul_le_mul_right _ (Nat.le_of_lt hq)
  have e : (w + w + 2) * N = (w + 2) * N + w * N := by rw [← Nat.add_mul]; congr 1; omega
  omega
theorem rd_val {n : Nat → Nat} {l x : Nat} {b t : Nat → Nat} (low : (n 0 % W * (l % W) + 1) % W = 0) (h7 : t 7 % W = 0) (hb : nv b < pN) (hN : nv n = pN)
    (h1 : sB W t 7 + x % W * nv b < W ^ 7) (h2 : sB W t 7 + x % W * nv b + rowF x b t 0 * l % W * nv n < W ^ 7) :
    sB W (rdF n l x b t) 7 * W = sB W t 7 + x % W * nv b + rowF x b t 0 * l % W * nv n ∧ rdF n l x b t 7 % W = 0 ∧ rowF x b t 0 * l % W < W := by
  obtain ⟨a1, a2⟩ := rowF_val h7 h1
  rw [← a1] at h2
  obtain ⟨c1, c2⟩ := rowF_val (x := rowF x b t 0 * l) (b := n) a2 h2
  have z : rowF (rowF x b t 0 * l) n (rowF x b t) 0 % W = 0 := by
    rw [← sB7_mod, c1, Nat.add_mod, sB7_mod, Nat.mul_mod, Nat.mod_mod, nv_mod, ← Nat.mul_mod, ← Nat.add_mod]
    exact low_zero low
  obtain ⟨d1, d2⟩ := sh_val z c2
  refine ⟨?_, d2, Nat.mod_lt _ (by decide)⟩
  show sB W (upd (shS (rowF (rowF x b t 0 * l) n (rowF x b t)) 7) 7 0) 7 * W = _
  rw [d1, c1, a1]
def lowC : Nat := 9940570264628428797
def cMo (args : List AV) : Option (List Prop × AV) :=
  match args with
  | [.v1 (.agg [.ws .u64 6 n, .one (.w .u64 l), .ws .u64 6 s]), .v1 (.agg [.ws .u64 6 a]), .v1 (.agg [.ws .u64 6 b])] => some ([nv n = pN, l % W = lowC, nv b < pN], numA (montV pN (nv a) (nv b)))
  | _ => none
def GMo : Ctx := ctxL [(122, .mem cRow), (86, .pure cCmp), (96, .pure cSub)]
theorem GMo_ok : CtxOk Try.prog GMo := ctxL_cons okRow <| ctxL_cons okCmp' <| ctxL_cons okSub' ctxL_nil
def VMo (i : Nat) : List AV := [pt 0 0, pt 1 0, pt 2 0, pt 3 0, pt 4 0, iv (Int.ofNat i)]
def HMo (n : Nat → Nat) (l : Nat) (s a b t : Nat → Nat) : Heap := [some ⟨55, [.ws .u64 6 n, .one (.w .u64 l), .ws .u64 6 s], 0, 0⟩, nb a, nb b, nb (fun _ => 0), tB t]
def InvMo (n a b : Nat → Nat) (x : Nat × (Nat → Nat)) : Prop := x.1 ≤ 6 ∧ (∃ Q, sB W x.2 7 * W ^ x.1 = sB W a x.1 * nv b + Q * nv n ∧ Q < W ^ x.1) ∧ x.2 7 % W = 0
abbrev otF (t : Nat → Nat) : Nat → Nat := (upd (upd (upd (upd (upd (upd (fun _ => 0) 0 (t 0)) 1 (t 1)) 2 (t 2)) 3 (t 3)) 4 (t 4)) 5 (t 5))
theorem otF_nv {t : Nat → Nat} : nv (otF t) = nv t := nv_congr fun j hj => by
  have : j = 0 ∨ j = 1 ∨ j = 2 ∨ j = 3 ∨ j = 4 ∨ j = 5 := by omega
  rcases this with rfl | rfl | rfl | rfl | rfl | rfl <;> rfl
theorem top0 {t : Nat → Nat} (h : sB W t 7 < R) : t 6 % W = 0 := by
  rw [sB7_eq] at h
  have : R = W * (W * (W * (W * (W * W)))) := by decide
  rw [this] at h
  generalize t 0 % W = x0 at *
  generalize t 1 % W = x1 at *
  generalize t 2 % W = x2 at *
  generalize t 3 % W = x3 at *
  generalize t 4 % W = x4 at *
  generalize t 5 % W = x5 at *
  generalize t 6 % W = x6 at *
  simp only [W] at h; omega
theorem cmp_lt3 (x y : Nat) : ilt (cmpI x y) 0 = Nat.blt x y := by
  unfold cmpI
  cases h : Nat.blt x y
  · cases Nat.blt y x <;> rfl
  · rfl
theorem okMo : (CallC.pure cMo).Ok Try.prog 98 := by
  intro args pre v e hp
  unfold cMo at e
  split at e
  · rename_i n l s a b
    cases e
    have hN : nv n = pN := hp _ (by simp)
    have hl : l % W = lowC := hp _ (by simp)
    have hb : nv b < pN := hp _ (by simp)
    have hb' : nv b < nv n := by rw [hN]; exact hb
    have hs := pN_small
    have low : (n 0 % W * (l % W) + 1) % W = 0 := by
      rw [← nv_mod n, hN, hl]; decide
    refine pure_walk' tt_ok Try.func98 (by kernel_rfl) (by kernel_rfl) (by rfl) (by rfl) ?_
    refine loopK mixed tt_ok GMo_ok 0 (by kernel_rfl) (ι := {x // InvMo n a b x}) [3,4,5,6,7,8] 69 5 (fun x => VMo x.1.1) (fun x => HMo n l s a b x.1.2) (fun x => 6 - x.1.1) (fun x => x.1.1 = 6)
      (fun _ => rfl) (fun _ => by kernel_rfl) (fun _ _ h => h.elim) 200 [] ?_ ?_ ?_
    · refine same (p := true = true ∧ ∃ j : {x // InvMo n a b x}, VMo 0 = VMo j.1.1 ∧ HMo n l s a b (fun _ => 0) = HMo n l s a b j.1.2) ?_ (by kernel_rfl)
      exact ⟨rfl, ⟨(0, fun _ => 0), by simp, ⟨0, by simp [sB], by simp⟩, rfl⟩, rfl, rfl⟩
    · intro ⟨⟨i, t⟩, hi, ⟨Q, hT, hQ⟩, h7⟩ junk
      simp only at hi hT hQ h7
      rcases (show i = 0 ∨ i = 1 ∨ i = 2 ∨ i = 3 ∨ i = 4 ∨ i = 5 ∨ i = 6 by omega) with rfl | rfl | rfl | rfl | rfl | rfl | rfl
      · refine roundF mixed tt_ok GMo_ok 200 [] ?_
        refine same (p := true = true ∧ ∃ j : {x // InvMo n a b x}, 6 - j.1.1 < 6 - 0 ∧ VMo (0 + 1) = VMo j.1.1 ∧ HMo n l s a b (rdF n l (a 0) b t) = HMo n l s a b j.1.2) ?_ (by kernel_rfl)
        obtain ⟨e1, e2, e3⟩ := rd_val low h7 hb hN (t := t) (x := a 0) (Nat.lt_of_lt_of_le (round_bound (w := W) (B := nv b) (N := nv n) (x := a 0 % W) (i := 0) hT hQ (sB_lt a 0) (Nat.mod_lt _ (by decide)) hb') (by rw [hN]; decide))
          (Nat.lt_of_lt_of_le (rd_bound (w := W) (round_bound (w := W) (B := nv b) (N := nv n) (x := a 0 % W) (i := 0) hT hQ (sB_lt a 0) (Nat.mod_lt _ (by decide)) hb') (Nat.mod_lt _ (by decide))) (by rw [hN]; decide))
        have e := mont_round (N := nv n) (B := nv b) (x := a 0 % W) (i := 0) rfl e1 hT hQ e3
        exact ⟨rfl, ⟨(0 + 1, rdF n l (a 0) b t), by simp only; omega, ⟨_, by rw [show sB W a (0 + 1) = sB W a 0 + W ^ 0 * (a 0 % W) from rfl]; exact e.1, e.2⟩, e2⟩, by simp only; omega, rfl, rfl⟩
      · refine roundF mixed tt_ok GMo_ok 200 [] ?_
        refine same (p := true = true ∧ ∃ j : {x // InvMo n a b x}, 6 - j.1.1 < 6 - 1 ∧ VMo (1 + 1) = VMo j.1.1 ∧ HMo n l s a b (rdF n l (a 1) b t) = HMo n l s a b j.1.2) ?_ (by kernel_rfl)
        obtain ⟨e1, e2, e3⟩ := rd_val low h7 hb hN (t := t) (x := a 1) (Nat.lt_of_lt_of_le (round_bound (w := W) (B := nv b) (N := nv n) (x := a 1 % W) (i := 1) hT hQ (sB_lt a 1) (Nat.mod_lt _ (by decide)) hb') (by rw [hN]; decide))
          (Nat.lt_of_lt_of_le (rd_bound (w := W) (round_bound (w := W) (B := nv b) (N := nv n) (x := a 1 % W) (i := 1) hT hQ (sB_lt a 1) (Nat.mod_lt _ (by decide)) hb') (Nat.mod_lt _ (by decide))) (by rw [hN]; decide))
        have e := mont_round (N := nv n) (B := nv b) (x := a 1 % W) (i := 1) rfl e1 hT hQ e3
        exact ⟨rfl, ⟨(1 + 1, rdF n l (a 1) b t), by simp only; omega, ⟨_, by rw [show sB W a (1 + 1) = sB W a 1 + W ^ 1 * (a 1 % W) from rfl]; exact e.1, e.2⟩, e2⟩, by simp only; omega, rfl, rfl⟩
      · refine roundF mixed tt_ok GMo_ok 200 [] ?_
        refine same (p := true = true ∧ ∃ j : {x // InvMo n a b x}, 6 - j.1.1 < 6 - 2 ∧ VMo (2 + 1) = VMo j.1.1 ∧ HMo n l s a b (rdF n l (a 2) b t) = HMo n l s a b j.1.2) ?_ (by kernel_rfl)
        obtain ⟨e1, e2, e3⟩ := rd_val low h7 hb hN (t := t) (x := a 2) (Nat.lt_of_lt_of_le (round_bound (w := W) (B := nv b) (N := nv n) (x := a 2 % W) (i := 2) hT hQ (sB_lt a 2) (Nat.mod_lt _ (by decide)) hb') (by rw [hN]; decide))
          (Nat.lt_of_lt_of_le (rd_bound (w := W) (round_bound (w := W) (B := nv b) (N := nv n) (x := a 2 % W) (i := 2) hT hQ (sB_lt a 2) (Nat.mod_lt _ (by decide)) hb') (Nat.mod_lt _ (by decide))) (by rw [hN]; decide))
        have e := mont_round (N := nv n) (B := nv b) (x := a 2 % W) (i := 2) rfl e1 hT hQ e3
        exact ⟨rfl, ⟨(2 + 1, rdF n l (a 2) b t), by simp only; omega, ⟨_, by rw [show sB W a (2 + 1) = sB W a 2 + W ^ 2 * (a 2 % W) from rfl]; exact e.1, e.2⟩, e2⟩, by simp only; omega, rfl, rfl⟩
      · refine roundF mixed tt_ok GMo_ok 200 [] ?_
        refine same (p := true = true ∧ ∃ j : {x // InvMo n a b x}, 6 - j.1.1 < 6 - 3 ∧ VMo (3 + 1) = VMo j.1.1 ∧ HMo n l s a b (rdF n l (a 3) b t) = HMo n l s a b j.1.2) ?_ (by kernel_rfl)
        obtain ⟨e1, e2, e3⟩ := rd_val low h7 hb hN (t := t) (x := a 3) (Nat.lt_of_lt_of_le (round_bound (w := W) (B := nv b) (N := nv n) (x := a 3 % W) (i := 3) hT hQ (sB_lt a 3) (Nat.mod_lt _ (by decide)) hb') (by rw [hN]; decide))
          (Nat.lt_of_lt_of_le (rd_bound (w := W) (round_bound (w := W) (B := nv b) (N := nv n) (x := a 3 % W) (i := 3) hT hQ (sB_lt a 3) (Nat.mod_lt _ (by decide)) hb') (Nat.mod_lt _ (by decide))) (by rw [hN]; decide))
        have e := mont_round (N := nv n) (B := nv b) (x := a 3 % W) (i := 3) rfl e1 hT hQ e3
        exact ⟨rfl, ⟨(3 + 1, rdF n l (a 3) b t), by simp only; omega, ⟨_, by rw [show sB W a (3 + 1) = sB W a 3 + W ^ 3 * (a 3 % W) from rfl]; exact e.1, e.2⟩, e2⟩, by simp only; omega, rfl, rfl⟩
      · refine roundF mixed tt_ok GMo_ok 200 [] ?_
        refine same (p := true = true ∧ ∃ j : {x // InvMo n a b x}, 6 - j.1.1 < 6 - 4 ∧ VMo (4 + 1) = VMo j.1.1 ∧ HMo n l s a b (rdF n l (a 4) b t) = HMo n l s a b j.1.2) ?_ (by kernel_rfl)
        obtain ⟨e1, e2, e3⟩ := rd_val low h7 hb hN (t := t) (x := a 4) (Nat.lt_of_lt_of_le (round_bound (w := W) (B := nv b) (N := nv n) (x := a 4 % W) (i := 4) hT hQ (sB_lt a 4) (Nat.mod_lt _ (by decide)) hb') (by rw [hN]; decide))
          (Nat.lt_of_lt_of_le (rd_bound (w := W) (round_bound (w := W) (B := nv b) (N := nv n) (x := a 4 % W) (i := 4) hT hQ (sB_lt a 4) (Nat.mod_lt _ (by decide)) hb') (Nat.mod_lt _ (by decide))) (by rw [hN]; decide))
        have e := mont_round (N := nv n) (B := nv b) (x := a 4 % W) (i := 4) rfl e1 hT hQ e3
        exact ⟨rfl, ⟨(4 + 1, rdF n l (a 4) b t), by simp only; omega, ⟨_, by rw [show sB W a (4 + 1) = sB W a 4 + W ^ 4 * (a 4 % W) from rfl]; exact e.1, e.2⟩, e2⟩, by simp only; omega, rfl, rfl⟩
      · refine roundF mixed tt_ok GMo_ok 200 [] ?_
        refine same (p := true = true ∧ ∃ j : {x // InvMo n a b x}, 6 - j.1.1 < 6 - 5 ∧ VMo (5 + 1) = VMo j.1.1 ∧ HMo n l s a b (rdF n l (a 5) b t) = HMo n l s a b j.1.2) ?_ (by kernel_rfl)
        obtain ⟨e1, e2, e3⟩ := rd_val low h7 hb hN (t := t) (x := a 5) (Nat.lt_of_lt_of_le (round_bound (w := W) (B := nv b) (N := nv n) (x := a 5 % W) (i := 5) hT hQ (sB_lt a 5) (Nat.mod_lt _ (by decide)) hb') (by rw [hN]; decide))
          (Nat.lt_of_lt_of_le (rd_bound (w := W) (round_bound (w := W) (B := nv b) (N := nv n) (x := a 5 % W) (i := 5) hT hQ (sB_lt a 5) (Nat.mod_lt _ (by decide)) hb') (Nat.mod_lt _ (by decide))) (by rw [hN]; decide))
        have e := mont_round (N := nv n) (B := nv b) (x := a 5 % W) (i := 5) rfl e1 hT hQ e3
        exact ⟨rfl, ⟨(5 + 1, rdF n l (a 5) b t), by simp only; omega, ⟨_, by rw [show sB W a (5 + 1) = sB W a 5 + W ^ 5 * (a 5 % W) from rfl]; exact e.1, e.2⟩, e2⟩, by simp only; omega, rfl, rfl⟩
      · refine roundF mixed tt_ok GMo_ok 100 [] ?_
        refine same (p := true = true ∧ ∃ j : {x // InvMo n a b x}, j.1.1 = 6 ∧ VMo 6 = VMo j.1.1 ∧ HMo n l s a b t = HMo n l s a b j.1.2) ?_ (by kernel_rfl)
        exact ⟨rfl, ⟨(6, t), hi, ⟨Q, hT, hQ⟩, h7⟩, rfl, rfl, rfl⟩
    · intro ⟨⟨i, t⟩, hi, ⟨Q, hT, hQ⟩, h7⟩ junk h6
      simp only at hi hT hQ h6
      subst h6
      rw [sB_W a 6, ← nv_nvn, ← R_eq] at hT
      rw [← R_eq] at hQ
      obtain ⟨h1, h2⟩ := mont_end (by rw [hN]; exact pN_odd) (by rw [hN]; exact pN_pos) (nv_lt a) (nv_lt b) (.inr hb') hQ hT
      have hR : sB W t 7 < R := Nat.lt_of_lt_of_le h1 (by rw [hN]; omega)
      have h7' := sB7_nv (t := t) hR
      rw [h7', hN] at h2
      have h0 : (!Nat.beq (t 6 % W) (0 % W)) = false := by rw [top0 hR]; rfl
      cases hc : Nat.ble pN (nv t)
      · have hlt : nv t < pN := by
          have : ¬ pN ≤ nv t := fun e => by rw [← Nat.ble_eq, hc] at e; cases e
          omega
        have hbt : Nat.blt (nv t) pN = true := by rw [Nat.blt_eq]; exact hlt
        rw [hc, cond_false] at h2
        refine evS_q mixed tt_ok GMo_ok 200 [⟨17,2,.lit (.bo false)⟩,⟨17,8,.lit (.bo false)⟩] ?_
        refine same (p := (!Nat.beq (t 6 % W) (0 % W)) = false ∧ (!ilt (cmpI (nv (otF t)) (nv n)) 0) = false ∧ ∃ v', some (nm (otF t)) = some v' ∧ ∀ ρ, v'.val ρ = (numA (montV pN (nv a) (nv b))).val ρ) ?_ (by kernel_rfl)
        refine ⟨h0, by rw [cmp_lt3, otF_nv, hN, hbt]; rfl, _, rfl, fun ρ => numA_val ?_ ρ⟩
        rw [otF_nv, ← h2, Nat.mod_eq_of_lt (nv_lt t)]
      · have hle : pN ≤ nv t := Nat.le_of_ble_eq_true hc
        rw [hc, cond_true] at h2
        have hb2 : Nat.blt (nv t) pN = false := by rw [← Bool.not_eq_true, Nat.blt_eq]; omega
        refine evS_q mixed tt_ok GMo_ok 200 [⟨17,2,.lit (.bo false)⟩,⟨17,8,.lit (.bo true)⟩] ?_
        refine same (p := (!Nat.beq (t 6 % W) (0 % W)) = false ∧ (!ilt (cmpI (nv (otF t)) (nv n)) 0) = true ∧ ∃ v', some (numA ((nv (otF t) + R - nv n) % R)) = some v' ∧ ∀ ρ, v'.val ρ = (numA (montV pN (nv a) (nv b))).val ρ) ?_ (by kernel_rfl)
        refine ⟨h0, by rw [cmp_lt3, otF_nv, hN, hb2]; rfl, _, rfl, fun ρ => ?_⟩
        rw [otF_nv, hN, ← h2, ← less_gen hle (nv_lt t)]
  · cases e
end Go.Proofs.Ytkmfiefnaeikdaa

/- The document's field: sums, products, powers, inverses, by their numbers. -/
namespace Go.Proofs.Ytkmfiefnaeikdaa
open Go.Rq Go
set_option maxRecDepth 100000
set_option linter.unusedVariables false

/-- What the receiver must be. -/
def FOk (n : Nat → Nat) (l : Nat) (s : Nat → Nat) : Prop := nv n = pN ∧ l % W = lowC ∧ nv s = R * R % pN
def f1 (F : Fp → Fp) : List AV → Option (List Prop × AV)
  | [.v1 (.agg [.ws .u64 6 n, .one (.w .u64 l), .ws .u64 6 s]), .v1 (.agg [.ws .u64 6 a])] => some ([FOk n l s, nv a < pN], nm (vF (F (gN a))))
  | _ => none
def fE2 (F : Fp → Fp → Fp) : List AV → Option (List Prop × AV)
  | [.v1 (.agg [.ws .u64 6 n, .one (.w .u64 l), .ws .u64 6 s]), .v1 (.agg [.ws .u64 6 a]), .v1 (.agg [.ws .u64 6 b])] => some ([FOk n l s, nv a < pN, nv b < pN], nm (vF (F (gN a) (gN b))))
  | _ => none
theorem f1_ok {F : Fp → Fp} {f : FuncId} {fn : Func} (hf : Try.prog.funcs[f]? = some fn) (hb : fn.body = some (bodyOf fn)) (hn : (fn.name == "runtime.NumGoroutine") = false)
    (h : ∀ (n : Nat → Nat) (l : Nat) (s a : Nat → Nat), FOk n l s → nv a < pN → AWqS Try.prog (fun _ => False) (flatC (bodyOf fn)) (FEnd' tt fn (nm (vF (F (gN a))))) ⟨frame0 [fA n l s, nm a] fn.ntmps, []⟩) : (CallC.pure (f1 F)).Ok Try.prog f := by
  intro args pre v e hp
  unfold f1 at e
  split at e
  · rename_i n l s a
    cases e
    exact pure_walk' tt_ok hf hb hn (by rfl) (by rfl) (h n l s a (hp _ (by simp)) (hp _ (by simp)))
  · cases e
theorem fE2_ok {F : Fp → Fp → Fp} {f : FuncId} {fn : Func} (hf : Try.prog.funcs[f]? = some fn) (hb : fn.body = some (bodyOf fn)) (hn : (fn.name == "runtime.NumGoroutine") = false)
    (h : ∀ (n : Nat → Nat) (l : Nat) (s a b : Nat → Nat), FOk n l s → nv a < pN → nv b < pN → AWqS Try.prog (fun _ => False) (flatC (bodyOf fn)) (FEnd' tt fn (nm (vF (F (gN a) (gN b))))) ⟨frame0 [fA n l s, nm a, nm b] fn.ntmps, []⟩) : (CallC.pure (fE2 F)).Ok Try.prog f := by
  intro args pre v e hp
  unfold fE2 at e
  split at e
  · rename_i n l s a b
    cases e
    exact pure_walk' tt_ok hf hb hn (by rfl) (by rfl) (h n l s a b (hp _ (by simp)) (hp _ (by simp)) (hp _ (by simp)))
  · cases e
theorem lt_vF (z : Fp) : nv (vF z) < pN := by rw [nv_vF]; exact z.isLt
theorem vF_gN {a : Nat → Nat} (h : nv a < pN) : nv (vF (gN a)) = nv a := by
  rw [nv_vF]
  unfold gN
  rw [ofN_val, Nat.mod_eq_of_lt h]
theorem endN_num {z : Fp} {x : Nat} (h : x % R = z.val) : endN (numA x) (nm (vF z)) := endN_nm (by rw [nv_wd, h, nv_vF])
theorem val_R (z : Fp) : z.val % R = z.val := Nat.mod_eq_of_lt (Nat.lt_trans z.isLt pN_lt)

/-! Of -/
def cRed : List AV → Option (List Prop × AV)
  | [.v1 (.agg [.ws .u64 6 n]), .v1 (.agg [.ws .u64 6 a])] => some ([nv n ≠ 0], numA (nv a % nv n))
  | _ => none
def GRd2 : Ctx := ctxL [(116, .pure cDiv2)]
theorem GRd2_ok : CtxOk Try.prog GRd2 := ctxL_cons (okDiv2_of okDiv') ctxL_nil
theorem okRedD : (CallC.pure cRed).Ok Try.prog 92 := by
  intro args pre v e hp
  unfold cRed at e
  split at e
  · rename_i n a
    cases e
    have h0 : nv n ≠ 0 := hp _ (by simp)
    refine pure_walk' tt_ok Try.func92 (by kernel_rfl) (by kernel_rfl) (by rfl) (by rfl) ?_
    refine evS_q mixed tt_ok GRd2_ok 60 [] ?_
    refine same (p := endN (numA (dR (nv a) (nv n))) (numA (nv a % nv n))) ?_ (by kernel_rfl)
    have : dR (nv a) (nv n) = nv a % nv n := by
      unfold dR
      have : Nat.beq (nv n) 0 = false := by rw [← Bool.not_eq_true, Nat.beq_eq]; exact h0
      rw [this, cond_false]
    rw [this]
    exact ⟨_, rfl, fun _ => rfl⟩
  · cases e
def cFOf : List AV → Option (List Prop × AV)
  | [.v1 (.agg [.ws .u64 6 n, .one (.w .u64 l), .ws .u64 6 s]), .v1 (.agg [.ws .u64 6 a])] => some ([FOk n l s], nm (vF (gN a)))
  | _ => none
def GFo : Ctx := ctxL [(86, .pure cCmp), (92, .pure cRed)]
theorem GFo_ok : CtxOk Try.prog GFo := ctxL_cons okCmp' <| ctxL_cons okRedD ctxL_nil
theorem okFOf : (CallC.pure cFOf).Ok Try.prog 51 := by
  intro args pre v e hp
  unfold cFOf at e
  split at e
  · rename_i n l s a
    cases e
    have hF : FOk n l s := hp _ (by simp)
    refine pure_walk' tt_ok Try.func51 (by kernel_rfl) (by kernel_rfl) (by rfl) (by rfl) ?_
    cases hc : Nat.blt (nv a) pN
    · refine evS_q mixed tt_ok GFo_ok 60 [⟨1,4,.lit (.bo false)⟩] ?_
      refine same (p := ilt (cmpI (nv a) (nv n)) 0 = false ∧ nv n ≠ 0 ∧ endN (numA (nv a % nv n)) (nm (vF (gN a)))) ?_ (by kernel_rfl)
      refine ⟨by rw [cmp_lt3, hF.1, hc], by rw [hF.1]; exact Nat.ne_of_gt pN_pos, endN_num ?_⟩
      rw [hF.1]
      exact val_R (gN a)
    · have hlt : nv a < pN := by rw [← Nat.blt_eq]; exact hc
      refine evS_q mixed tt_ok GFo_ok 60 [⟨1,4,.lit (.bo true)⟩] ?_
      refine same (p := ilt (cmpI (nv a) (nv n)) 0 = true ∧ endN (nm a) (nm (vF (gN a)))) ?_ (by kernel_rfl)
      exact ⟨by rw [cmp_lt3, hF.1, hc], endN_nm (vF_gN hlt).symm⟩
  · cases e

/-! Add, Neg, Sub -/
def GFa : Ctx := ctxL [(86, .pure cCmp), (95, .pure cAdd), (96, .pure cSub)]
theorem GFa_ok : CtxOk Try.prog GFa := ctxL_cons okCmp' <| ctxL_cons okAdd' <| ctxL_cons okSub' ctxL_nil
theorem okFAdd : (CallC.pure (fE2 (· + ·))).Ok Try.prog 55 := by
  refine fE2_ok Try.func55 (by kernel_rfl) (by kernel_rfl) fun n l s a b hF ha hb => ?_
  have hs := pN_small
  have hsum : nv (wd ((nv a + nv b) % R)) = nv a + nv b := by rw [nv_wd, Nat.mod_mod, Nat.mod_eq_of_lt (by omega)]
  have hv : (gN a + gN b).val = (nv a + nv b) % pN := by
    unfold gN; rw [← ofN_add, ofN_val]
  cases hc : Nat.blt (nv a + nv b) pN
  · have hge : pN ≤ nv a + nv b := by
      have : ¬ nv a + nv b < pN := fun e => by rw [← Nat.blt_eq, hc] at e; cases e
      omega
    refine evS_q mixed tt_ok GFa_ok 60 [⟨2,4,.lit (.bo true)⟩] ?_
    refine same (p := (!ilt (cmpI (nv (wd ((nv a + nv b) % R))) (nv n)) 0) = true ∧ endN (numA ((nv (wd ((nv a + nv b) % R)) + R - nv n) % R)) (nm (vF (gN a + gN b)))) ?_ (by kernel_rfl)
    refine ⟨by rw [cmp_lt3, hF.1, hsum, hc]; rfl, endN_num ?_⟩
    rw [hsum, hF.1, hv, Nat.mod_mod, ← less_gen hge (by omega), Nat.mod_eq_sub_mod hge, Nat.mod_eq_of_lt (show nv a + nv b - pN < pN by omega)]
  · have hlt : nv a + nv b < pN := by rw [← Nat.blt_eq]; exact hc
    refine evS_q mixed tt_ok GFa_ok 60 [⟨2,4,.lit (.bo false)⟩] ?_
    refine same (p := (!ilt (cmpI (nv (wd ((nv a + nv b) % R))) (nv n)) 0) = false ∧ endN (numA ((nv a + nv b) % R)) (nm (vF (gN a + gN b)))) ?_ (by kernel_rfl)
    refine ⟨by rw [cmp_lt3, hF.1, hsum, hc]; rfl, endN_num ?_⟩
    rw [hv, Nat.mod_mod, Nat.mod_eq_of_lt (show nv a + nv b < R by omega), Nat.mod_eq_of_lt hlt]
theorem okFNeg : (CallC.pure (f1 (0 - ·))).Ok Try.prog 58 := by
  refine f1_ok Try.func58 (by kernel_rfl) (by kernel_rfl) fun n l s a hF ha => ?_
  have hs := pN_small
  have hz : (eqN W 6 a (fun _ => 0) && true) = Nat.beq (nv a) 0 := by
    have : (eqN W 6 a (fun _ => 0) && true) = Nat.beq (nv a) (nv (fun _ => 0)) := by
      rw [Bool.and_true]
      cases h : Nat.beq (nv a) (nv (fun _ => 0))
      · rw [← Bool.not_eq_true, eqN_iff]
        intro e
        have := nv_congr e
        rw [← Nat.beq_eq, h] at this; cases this
      · rw [eqN_iff]
        intro i hi
        rw [Nat.beq_eq] at h
        rw [← wd_nv a i hi, h, wd_nv _ i hi]
    rw [this, zero_nv]
  cases hc : Nat.beq (nv a) 0
  · have h0 : nv a ≠ 0 := fun e => by rw [← Nat.beq_eq, hc] at e; cases e
    refine evS_q mixed tt_ok GFa_ok 60 [⟨1,2,.lit (.bo false)⟩] ?_
    refine same (p := (eqN W 6 a (fun _ => 0) && true) = false ∧ endN (numA ((nv n + R - nv a) % R)) (nm (vF (0 - gN a)))) ?_ (by kernel_rfl)
    refine ⟨by rw [hz, hc], endN_num ?_⟩
    have hv : 0 - gN a = ofN (pN - nv a) := by
      unfold gN; rw [ofN_sub (Nat.le_of_lt ha)]
    rw [hF.1, Nat.mod_mod, ← less_gen (Nat.le_of_lt ha) (by omega), hv, ofN_val, Nat.mod_eq_of_lt (show pN - nv a < pN by omega)]
  · have h0 : nv a = 0 := Nat.beq_eq.mp hc
    refine evS_q mixed tt_ok GFa_ok 60 [⟨1,2,.lit (.bo true)⟩] ?_
    refine same (p := (eqN W 6 a (fun _ => 0) && true) = true ∧ endN (nm a) (nm (vF (0 - gN a)))) ?_ (by kernel_rfl)
    refine ⟨by rw [hz, hc], endN_nm ?_⟩
    have : gN a = 0 := by unfold gN; rw [h0, ofN_zero]
    rw [this, nv_vF, h0, show (0 : Fp) - 0 = 0 from Rg.sub_self 0]; rfl
def GFs : Ctx := ctxL [(58, .pure (f1 (0 - ·))), (55, .pure (fE2 (· + ·)))]
theorem GFs_ok : CtxOk Try.prog GFs := ctxL_cons okFNeg <| ctxL_cons okFAdd ctxL_nil
theorem cr_an {α : Type} [CR α] (a b : α) : a + (0 - b) = a - b := by grind
theorem okFSub : (CallC.pure (fE2 (· - ·))).Ok Try.prog 60 := by
  refine fE2_ok Try.func60 (by kernel_rfl) (by kernel_rfl) fun n l s a b hF ha hb => ?_
  refine evS_q mixed tt_ok GFs_ok 60 [] ?_
  refine same (p := FOk n l s ∧ nv b < pN ∧ FOk n l s ∧ nv a < pN ∧ nv (vF (0 - gN b)) < pN ∧ endN (nm (vF (gN a + gN (vF (0 - gN b))))) (nm (vF (gN a - gN b)))) ?_ (by kernel_rfl)
  exact ⟨hF, hb, hF, ha, lt_vF _, endN_nm (by rw [gN_vF, cr_an])⟩

/-! Mul, Pow, Inv -/
def GFm : Ctx := ctxL [(98, .pure cMo)]
theorem GFm_ok : CtxOk Try.prog GFm := ctxL_cons okMo ctxL_nil
theorem okFMul : (CallC.pure (fE2 (· * ·))).Ok Try.prog 61 := by
  refine fE2_ok Try.func61 (by kernel_rfl) (by kernel_rfl) fun n l s a b hF ha hb => ?_
  have hm : ∀ x y, nv (wd (montV pN x y)) = montV pN x y := fun x y => by rw [nv_wd, Nat.mod_eq_of_lt (Nat.lt_trans (montV_lt pN_pos) pN_lt)]
  refine evS_q mixed tt_ok GFm_ok 60 [] ?_
  refine same (p := nv n = pN ∧ l % W = lowC ∧ nv b < pN ∧ nv n = pN ∧ l % W = lowC ∧ nv s < pN ∧ endN (numA (montV pN (nv (wd (montV pN (nv a) (nv b)))) (nv s))) (nm (vF (gN a * gN b)))) ?_ (by kernel_rfl)
  refine ⟨hF.1, hF.2.1, hb, hF.1, hF.2.1, by rw [hF.2.2]; exact Nat.mod_lt _ pN_pos, endN_num ?_⟩
  rw [hm, hF.2.2, mont_in pN_odd, Nat.mod_eq_of_lt (Nat.lt_trans (Nat.mod_lt _ pN_pos) pN_lt)]
  unfold gN
  rw [← ofN_mul, ofN_val]
  unfold montV
  rw [Nat.mod_mul_mod, Nat.mul_assoc, Nat.mul_comm (rinv pN), ri_one pN_odd]
def cFPow : List AV → Option (List Prop × AV)
  | [.v1 (.agg [.ws .u64 6 n, .one (.w .u64 l), .ws .u64 6 s]), .v1 (.agg [.ws .u64 6 a]), .v1 (.agg [.ws .u64 6 e])] => some ([FOk n l s, nv a < pN], nm (vF (gN a ^ nv e)))
  | _ => none
end Go.Proofs.Ytkmfiefnaeikdaa

/- The document's field: powers, inverses; its elements of two parts. -/
namespace Go.Proofs.Ytkmfiefnaeikdaa
open Go.Rq Go
set_option maxRecDepth 100000
set_option linter.unusedVariables false

theorem pw0 {α : Type} [CR α] {x o : α} {e k : Nat} (h : o = x ^ (e / 2 ^ (k + 1))) (h0 : e / 2 ^ k % 2 = 0) : o * o = x ^ (e / 2 ^ k) := by
  have hn := div_next e k
  rw [h0, Nat.add_zero] at hn
  rw [h, hn, Nat.two_mul, Rg.pow_add]
theorem pw1 {α : Type} [CR α] {x o : α} {e k : Nat} (h : o = x ^ (e / 2 ^ (k + 1))) (h0 : e / 2 ^ k % 2 = 1) : o * o * x = x ^ (e / 2 ^ k) := by
  have hn := div_next e k
  rw [h0] at hn
  rw [h, hn, Rg.pow_succ, Nat.two_mul, Rg.pow_add]
theorem pwS0 {α : Type} [CR α] {x : α} {e : Nat} : (1 : α) = x ^ (e / 2 ^ blen e) := by
  rw [Nat.div_eq_of_lt (lt_blen e), Rg.pow_zero]
theorem blen_le (e : Nat → Nat) : blen (nv e) ≤ 384 := by
  have := nv_lt e; rw [R_pow] at this
  have := blen_lt this; rw [E_eq] at this; exact this
theorem ilt_nn' (k : Nat) : ilt (Int.ofNat k) 0 = false := by rw [ilt_not (by simp)]

/-! Pow -/
def GFp : Ctx := ctxL [(61, .pure (fE2 (· * ·))), (90, .pure cLen), (91, .pure cBit)]
theorem GFp_ok : CtxOk Try.prog GFp := ctxL_cons okFMul <| ctxL_cons okLen' <| ctxL_cons okBit' ctxL_nil
abbrev fB (n : Nat → Nat) (l : Nat) (s : Nat → Nat) : Option Blk := some ⟨55, [.ws .u64 6 n, .one (.w .u64 l), .ws .u64 6 s], 0, 0⟩
def VFp (k : Nat) : List AV := [pt 0 0, pt 1 0, pt 2 0, pt 3 0, pt 4 0, iv (predI k)]
def HFp (n : Nat → Nat) (l : Nat) (s a e o : Nat → Nat) : Heap := [fB n l s, nb a, nb e, nb (fun _ => 0), nb o]
def InvFp (z : Fp) (e : Nat) (x : Nat × (Nat → Nat)) : Prop := x.1 ≤ 384 ∧ nv x.2 < pN ∧ gN x.2 = z ^ (e / 2 ^ x.1)
theorem nv_u1' : nv (upd (fun _ => 0) 0 1) = 1 := by kernel_rfl
theorem gN_u1 : gN (upd (fun _ => 0) 0 1) = 1 := by unfold gN; rw [nv_u1', ofN_one]
theorem okFPow : (CallC.pure cFPow).Ok Try.prog 107 := by
  intro args pre v hh hp
  unfold cFPow at hh
  split at hh
  · rename_i n l s a e
    cases hh
    have hF : FOk n l s := hp _ (by simp)
    have ha : nv a < pN := hp _ (by simp)
    have hbl := blen_le e
    refine pure_walk' tt_ok Try.func107 (by kernel_rfl) (by kernel_rfl) (by rfl) (by rfl) ?_
    refine loopF mixed tt_ok GFp_ok (by kernel_rfl) (ι := {x // InvFp (gN a) (nv e) x}) [3,4,5,6,7,8] 30 5 (fun x => VFp x.1.1) (fun x => HFp n l s a e x.1.2) (fun x => x.1.1) (fun x => x.1.1 = 0)
      (fun _ => rfl) (fun _ => by kernel_rfl) (fun _ _ h => h.elim) 60 [⟨2,2,.lit (.it (predI (blen (nv e))))⟩] ?_ ?_ ?_
    · refine same (p := wrapI (Int.ofNat (blen (nv e)) - 1) = predI (blen (nv e)) ∧ true = true ∧
        ∃ j : {x // InvFp (gN a) (nv e) x}, VFp (blen (nv e)) = VFp j.1.1 ∧ HFp n l s a e (upd (fun _ => 0) 0 1) = HFp n l s a e j.1.2) ?_ (by kernel_rfl)
      exact ⟨predI_eq (by omega), rfl, ⟨(blen (nv e), upd (fun _ => 0) 0 1), hbl, by rw [nv_u1']; exact pN_pr.1, by rw [gN_u1]; exact pwS0⟩, rfl, rfl⟩
    · intro ⟨⟨k, o⟩, hk, hl, ho⟩ junk
      simp only at hk hl ho
      cases k with
      | zero =>
        refine roundF mixed tt_ok GFp_ok 60 [] ?_
        refine same (p := true = true ∧ ∃ j : {x // InvFp (gN a) (nv e) x}, j.1.1 = 0 ∧ VFp 0 = VFp j.1.1 ∧ HFp n l s a e o = HFp n l s a e j.1.2) ?_ (by kernel_rfl)
        exact ⟨rfl, ⟨(0, o), hk, hl, ho⟩, rfl, rfl, rfl⟩
      | succ k =>
        have hge : (!ilt (Int.ofNat k) 0) = true := by rw [ilt_nn']; rfl
        have hs : wrapI (Int.ofNat k - 1) = predI k := predI_eq (by omega)
        have next : ∀ z : Fp, z = gN a ^ (nv e / 2 ^ k) → ∃ j : {x // InvFp (gN a) (nv e) x}, j.1.1 < k + 1 ∧ VFp k = VFp j.1.1 ∧ HFp n l s a e (vF z) = HFp n l s a e j.1.2 :=
          fun z h' => ⟨⟨(k, vF z), by simp only; omega, lt_vF z, by simp only; rw [gN_vF, h']⟩, by simp only; omega, rfl, rfl⟩
        have hbit : nv e / 2 ^ k % 2 = 0 ∨ nv e / 2 ^ k % 2 = 1 := by omega
        rcases hbit with h0 | h0
        · refine roundF mixed tt_ok GFp_ok 60 [⟨3,1,.lit (.bo true)⟩,⟨6,3,.lit (.bo false)⟩,⟨4,1,.lit (.it (predI k))⟩] ?_
          refine same (p := (!ilt (Int.ofNat k) 0) = true ∧ FOk n l s ∧ nv o < pN ∧ nv o < pN ∧ ieq (Int.ofNat (nv e / 2 ^ k % 2)) 1 = false ∧ wrapI (Int.ofNat k - 1) = predI k ∧ true = true ∧
            ∃ j : {x // InvFp (gN a) (nv e) x}, j.1.1 < k + 1 ∧ VFp k = VFp j.1.1 ∧ HFp n l s a e (vF (gN o * gN o)) = HFp n l s a e j.1.2) ?_ (by kernel_rfl)
          exact ⟨hge, hF, hl, hl, by rw [h0]; rfl, hs, rfl, next _ (pw0 ho h0)⟩
        · refine roundF mixed tt_ok GFp_ok 60 [⟨3,1,.lit (.bo true)⟩,⟨6,3,.lit (.bo true)⟩,⟨4,1,.lit (.it (predI k))⟩] ?_
          refine same (p := (!ilt (Int.ofNat k) 0) = true ∧ FOk n l s ∧ nv o < pN ∧ nv o < pN ∧ ieq (Int.ofNat (nv e / 2 ^ k % 2)) 1 = true ∧ FOk n l s ∧ nv (vF (gN o * gN o)) < pN ∧ nv a < pN ∧ wrapI (Int.ofNat k - 1) = predI k ∧ true = true ∧
            ∃ j : {x // InvFp (gN a) (nv e) x}, j.1.1 < k + 1 ∧ VFp k = VFp j.1.1 ∧ HFp n l s a e (vF (gN (vF (gN o * gN o)) * gN a)) = HFp n l s a e j.1.2) ?_ (by kernel_rfl)
          exact ⟨hge, hF, hl, hl, by rw [h0]; rfl, hF, lt_vF _, ha, hs, rfl, next _ (by rw [gN_vF]; exact pw1 ho h0)⟩
    · intro ⟨⟨k, o⟩, hk, hl, ho⟩ junk h0
      simp only at hk hl ho h0
      subst h0
      refine same (p := endN (nm o) (nm (vF (gN a ^ nv e)))) ?_ (by kernel_rfl)
      rw [Nat.pow_zero, Nat.div_one] at ho
      rw [← ho]
      exact endN_nm (vF_gN hl).symm
  · cases hh
def GFi : Ctx := ctxL [(96, .pure cSub), (107, .pure cFPow)]
theorem GFi_ok : CtxOk Try.prog GFi := ctxL_cons okSub' <| ctxL_cons okFPow ctxL_nil
theorem nv_u2 : nv (upd (fun _ => 0) 0 2) = 2 := by kernel_rfl
theorem okFInv : (CallC.pure (f1 fun x => x ^ (pN - 2))).Ok Try.prog 75 := by
  refine f1_ok Try.func75 (by kernel_rfl) (by kernel_rfl) fun n l s a hF ha => ?_
  refine evS_q mixed tt_ok GFi_ok 60 [] ?_
  refine same (p := FOk n l s ∧ nv a < pN ∧ endN (nm (vF (gN a ^ nv (wd ((nv n + R - nv (upd (fun _ => 0) 0 2)) % R))))) (nm (vF (gN a ^ (pN - 2))))) ?_ (by kernel_rfl)
  refine ⟨hF, ha, endN_nm ?_⟩
  have hs := pN_small
  rw [nv_wd, Nat.mod_mod, nv_u2, hF.1, ← less_gen (N := 2) (a := pN) (by decide) pN_lt]

/-! P -/
def baseD : Nat → Nat := upd (upd (upd (upd (upd (upd (fun _ => 0) 0 0xb9feffffffffaaab) 1 0x1eabfffeb153ffff) 2 0x6730d2a0f6b0f624) 3 0x64774b84f38512bf) 4 0x4b1ba7b6434bacd7) 5 0x1a0111ea397fe69a
theorem okBaseD : (CallC.pure (cK primeF)).Ok Try.prog 87 :=
  cK_ok Try.func87 (by kernel_rfl) (by kernel_rfl) (same (p := some (nm primeF) = some (nm primeF)) rfl (by kernel_rfl))
abbrev pF : AV := fA primeF 9940570264628428797 wideF
theorem pOk : FOk primeF 9940570264628428797 wideF := ⟨nv_prime, by decide, nv_wide⟩
def cP : List AV → Option (List Prop × AV)
  | [] => some ([], pF)
  | _ => none
def GPp : Ctx := ctxL [(87, .pure (cK primeF))]
theorem GPp_ok : CtxOk Try.prog GPp := ctxL_cons okBaseD ctxL_nil
theorem okP : (CallC.pure cP).Ok Try.prog 50 := by
  intro args pre v e _
  unfold cP at e
  split at e
  · cases e
    refine pure_walk' tt_ok Try.func50 (by kernel_rfl) (by kernel_rfl) (by rfl) (by rfl) ?_
    refine evS_q mixed tt_ok GPp_ok 60 [] ?_
    exact same (p := endN pF pF) ⟨_, rfl, fun _ => rfl⟩ (by kernel_rfl)
  · cases e
end Go.Proofs.Ytkmfiefnaeikdaa

/- The document's numbers of two parts. Printed by gend5.py. -/
namespace Go.Proofs.Ytkmfiefnaeikdaa
open Go.Rq Go
set_option maxRecDepth 100000
set_option linter.unusedVariables false

def d1 (F : F2p → F2p) : List AV → Option (List Prop × AV)
  | [.v1 (.agg [.ws .u64 6 a, .ws .u64 6 b])] => some ([nv a < pN, nv b < pN], .v1 (n2 (F (g2 a b))))
  | _ => none
def d2 (F : F2p → F2p → F2p) : List AV → Option (List Prop × AV)
  | [.v1 (.agg [.ws .u64 6 a, .ws .u64 6 b]), .v1 (.agg [.ws .u64 6 c, .ws .u64 6 d])] => some ([nv a < pN, nv b < pN, nv c < pN, nv d < pN], .v1 (n2 (F (g2 a b) (g2 c d))))
  | _ => none
theorem d1_ok {F : F2p → F2p} {f : FuncId} {fn : Func} (hf : Try.prog.funcs[f]? = some fn) (hb : fn.body = some (bodyOf fn)) (hn : (fn.name == "runtime.NumGoroutine") = false)
    (h : ∀ a b : Nat → Nat, nv a < pN → nv b < pN → AWqS Try.prog (fun _ => False) (flatC (bodyOf fn)) (FEnd' tt fn (.v1 (n2 (F (g2 a b))))) ⟨frame0 [f2 a b] fn.ntmps, []⟩) : (CallC.pure (d1 F)).Ok Try.prog f := by
  intro args pre v e hp
  unfold d1 at e
  split at e
  · rename_i a b
    cases e
    exact pure_walk' tt_ok hf hb hn (by rfl) (by rfl) (h a b (hp _ (by simp)) (hp _ (by simp)))
  · cases e
theorem d2_ok {F : F2p → F2p → F2p} {f : FuncId} {fn : Func} (hf : Try.prog.funcs[f]? = some fn) (hb : fn.body = some (bodyOf fn)) (hn : (fn.name == "runtime.NumGoroutine") = false)
    (h : ∀ a b c d : Nat → Nat, nv a < pN → nv b < pN → nv c < pN → nv d < pN → AWqS Try.prog (fun _ => False) (flatC (bodyOf fn)) (FEnd' tt fn (.v1 (n2 (F (g2 a b) (g2 c d))))) ⟨frame0 [f2 a b, f2 c d] fn.ntmps, []⟩) : (CallC.pure (d2 F)).Ok Try.prog f := by
  intro args pre v e hp
  unfold d2 at e
  split at e
  · rename_i a b c d
    cases e
    exact pure_walk' tt_ok hf hb hn (by rfl) (by rfl) (h a b c d (hp _ (by simp)) (hp _ (by simp)) (hp _ (by simp)) (hp _ (by simp)))
  · cases e
theorem end2 {x y : Nat → Nat} {s : F2p} (h : nv x < pN) (k : nv y < pN) (e : (⟨gN x, gN y⟩ : F2p) = s) : endN (f2 x y) (.v1 (n2 s)) := by
  subst e
  exact ⟨_, rfl, f2_val (vF_gN h).symm (vF_gN k).symm⟩
theorem cr_in {α : Type} [CR α] (b i : α) : 0 - b * i = (0 - b) * i := by grind
def GD5 : Ctx := ctxL [(50, .pure cP), (51, .pure cFOf), (55, .pure (fE2 (· + ·))), (58, .pure (f1 (0 - ·))), (60, .pure (fE2 (· - ·))), (61, .pure (fE2 (· * ·))), (75, .pure (f1 fun x => x ^ (pN - 2))), (107, .pure cFPow)]
theorem GD5_ok : CtxOk Try.prog GD5 := ctxL_cons okP <| ctxL_cons okFOf <| ctxL_cons okFAdd <| ctxL_cons okFNeg <| ctxL_cons okFSub <| ctxL_cons okFMul <| ctxL_cons okFInv <| ctxL_cons okFPow ctxL_nil
def cD2Of : List AV → Option (List Prop × AV)
  | [.v1 (.agg [.ws .u64 6 a, .ws .u64 6 b])] => some ([], .v1 (n2 (g2 a b)))
  | _ => none
theorem okD2Of : (CallC.pure cD2Of).Ok Try.prog 11 := by
  intro args pre v e _
  unfold cD2Of at e
  split at e
  · rename_i a b
    cases e
    refine pure_walk' tt_ok Try.func11 (by kernel_rfl) (by kernel_rfl) (by rfl) (by rfl) ?_
    refine evS_q mixed tt_ok GD5_ok 100 [] ?_
    exact same (p := FOk primeF 9940570264628428797 wideF ∧ FOk primeF 9940570264628428797 wideF ∧ endN (f2 (vF (gN a)) (vF (gN b))) (.v1 (n2 (g2 a b)))) ⟨pOk, pOk, _, rfl, fun _ => rfl⟩ (by kernel_rfl)
  · cases e
theorem okD2Add : (CallC.pure (d2 (· + ·))).Ok Try.prog 13 := by
  refine d2_ok Try.func13 (by kernel_rfl) (by kernel_rfl) fun a b c d ha hb hc hd => ?_
  refine evS_q mixed tt_ok GD5_ok 100 [] ?_
  refine same (p := FOk primeF 9940570264628428797 wideF ∧ nv a < pN ∧ nv c < pN ∧ FOk primeF 9940570264628428797 wideF ∧ nv b < pN ∧ nv d < pN ∧ endN (f2 (vF (gN a + gN c)) (vF (gN b + gN d))) (.v1 (n2 ((· + ·) (g2 a b) (g2 c d))))) ?_ (by kernel_rfl)
  exact ⟨pOk, ha, hc, pOk, hb, hd, end2 (lt_vF _) (lt_vF _) (by simp only [gN_vF]; rfl)⟩
theorem okD2Neg : (CallC.pure (d1 F2p.ng)).Ok Try.prog 17 := by
  refine d1_ok Try.func17 (by kernel_rfl) (by kernel_rfl) fun a b ha hb => ?_
  refine evS_q mixed tt_ok GD5_ok 100 [] ?_
  refine same (p := FOk primeF 9940570264628428797 wideF ∧ nv a < pN ∧ FOk primeF 9940570264628428797 wideF ∧ nv b < pN ∧ endN (f2 (vF (0 - gN a)) (vF (0 - gN b))) (.v1 (n2 (F2p.ng (g2 a b))))) ?_ (by kernel_rfl)
  exact ⟨pOk, ha, pOk, hb, end2 (lt_vF _) (lt_vF _) (by simp only [gN_vF]; rfl)⟩
theorem okD2Conj : (CallC.pure (d1 F2p.cj)).Ok Try.prog 21 := by
  refine d1_ok Try.func21 (by kernel_rfl) (by kernel_rfl) fun a b ha hb => ?_
  refine evS_q mixed tt_ok GD5_ok 100 [] ?_
  refine same (p := FOk primeF 9940570264628428797 wideF ∧ nv b < pN ∧ endN (f2 a (vF (0 - gN b))) (.v1 (n2 (F2p.cj (g2 a b))))) ?_ (by kernel_rfl)
  exact ⟨pOk, hb, end2 ha (lt_vF _) (by simp only [gN_vF]; rfl)⟩
theorem okD2Mul : (CallC.pure (d2 (· * ·))).Ok Try.prog 19 := by
  refine d2_ok Try.func19 (by kernel_rfl) (by kernel_rfl) fun a b c d ha hb hc hd => ?_
  refine evS_q mixed tt_ok GD5_ok 100 [] ?_
  refine same (p := FOk primeF 9940570264628428797 wideF ∧ nv a < pN ∧ nv c < pN ∧ FOk primeF 9940570264628428797 wideF ∧ nv b < pN ∧ nv d < pN ∧ FOk primeF 9940570264628428797 wideF ∧ nv (vF (gN a * gN c)) < pN ∧ nv (vF (gN b * gN d)) < pN ∧ FOk primeF 9940570264628428797 wideF ∧ nv a < pN ∧ nv d < pN ∧ FOk primeF 9940570264628428797 wideF ∧ nv b < pN ∧ nv c < pN ∧ FOk primeF 9940570264628428797 wideF ∧ nv (vF (gN a * gN d)) < pN ∧ nv (vF (gN b * gN c)) < pN ∧ endN (f2 (vF (gN (vF (gN a * gN c)) - gN (vF (gN b * gN d)))) (vF (gN (vF (gN a * gN d)) + gN (vF (gN b * gN c))))) (.v1 (n2 ((· * ·) (g2 a b) (g2 c d))))) ?_ (by kernel_rfl)
  exact ⟨pOk, ha, hc, pOk, hb, hd, pOk, lt_vF _, lt_vF _, pOk, ha, hd, pOk, hb, hc, pOk, lt_vF _, lt_vF _, end2 (lt_vF _) (lt_vF _) (by simp only [gN_vF]; rfl)⟩
theorem F2p.ng_eq (x y : F2p) : x + F2p.ng y = x - y := F2p.ext (cr_an _ _) (cr_an _ _)
def GD6 : Ctx := ctxL [(13, .pure (d2 (· + ·))), (17, .pure (d1 F2p.ng))]
theorem GD6_ok : CtxOk Try.prog GD6 := ctxL_cons okD2Add <| ctxL_cons okD2Neg ctxL_nil
theorem end2' {s t : F2p} (e : s = t) : endN (.v1 (n2 s)) (.v1 (n2 t)) := by subst e; exact ⟨_, rfl, fun _ => rfl⟩
theorem okD2Sub : (CallC.pure (d2 (· - ·))).Ok Try.prog 15 := by
  refine d2_ok Try.func15 (by kernel_rfl) (by kernel_rfl) fun a b c d ha hb hc hd => ?_
  refine evS_q mixed tt_ok GD6_ok 100 [] ?_
  refine same (p := nv c < pN ∧ nv d < pN ∧ nv a < pN ∧ nv b < pN ∧ nv (vF (F2p.ng (g2 c d)).x) < pN ∧ nv (vF (F2p.ng (g2 c d)).y) < pN ∧ endN (.v1 (n2 (g2 a b + G2 (F2p.ng (g2 c d))))) (.v1 (n2 (g2 a b - g2 c d)))) ?_ (by kernel_rfl)
  exact ⟨hc, hd, ha, hb, lt_vF _, lt_vF _, end2' (by rw [G2_eq, F2p.ng_eq])⟩
theorem okD2Inv : (CallC.pure (d1 F2p.inv')).Ok Try.prog 25 := by
  refine d1_ok Try.func25 (by kernel_rfl) (by kernel_rfl) fun a b ha hb => ?_
  refine evS_q mixed tt_ok GD5_ok 100 [] ?_
  refine same (p := FOk primeF 9940570264628428797 wideF ∧ nv a < pN ∧ nv a < pN ∧ FOk primeF 9940570264628428797 wideF ∧ nv b < pN ∧ nv b < pN ∧ FOk primeF 9940570264628428797 wideF ∧ nv (vF (gN a * gN a)) < pN ∧ nv (vF (gN b * gN b)) < pN ∧ FOk primeF 9940570264628428797 wideF ∧ nv (vF (gN (vF (gN a * gN a)) + gN (vF (gN b * gN b)))) < pN ∧ FOk primeF 9940570264628428797 wideF ∧ nv a < pN ∧ nv (vF (gN (vF (gN (vF (gN a * gN a)) + gN (vF (gN b * gN b)))) ^ (pN - 2))) < pN ∧ FOk primeF 9940570264628428797 wideF ∧ nv b < pN ∧ nv (vF (gN (vF (gN (vF (gN a * gN a)) + gN (vF (gN b * gN b)))) ^ (pN - 2))) < pN ∧ FOk primeF 9940570264628428797 wideF ∧ nv (vF (gN b * gN (vF (gN (vF (gN (vF (gN a * gN a)) + gN (vF (gN b * gN b)))) ^ (pN - 2))))) < pN ∧ endN (f2 (vF (gN a * gN (vF (gN (vF (gN (vF (gN a * gN a)) + gN (vF (gN b * gN b)))) ^ (pN - 2))))) (vF (0 - gN (vF (gN b * gN (vF (gN (vF (gN (vF (gN a * gN a)) + gN (vF (gN b * gN b)))) ^ (pN - 2)))))))) (.v1 (n2 (F2p.inv' (g2 a b))))) ?_ (by kernel_rfl)
  exact ⟨pOk, ha, ha, pOk, hb, hb, pOk, lt_vF _, lt_vF _, pOk, lt_vF _, pOk, ha, lt_vF _, pOk, hb, lt_vF _, pOk, lt_vF _, end2 (lt_vF _) (lt_vF _) (by simp only [gN_vF]; exact F2p.ext rfl (cr_in _ _))⟩
end Go.Proofs.Ytkmfiefnaeikdaa

/- The document's roots of an element, halves, the lesser root. -/
namespace Go.Proofs.Ytkmfiefnaeikdaa
open Go.Rq Go
set_option maxRecDepth 100000
set_option linter.unusedVariables false

def rk (x : Fp) : Bool := Nat.beq (rtF x * rtF x).val x.val
theorem rk_iff (x : Fp) : rk x = true ↔ sqr x := by
  unfold rk
  rw [Nat.beq_eq, ← rtF_iff]
  exact ⟨fun h => Fin.ext h, fun h => congrArg Fin.val h⟩
def cRt1 : List AV → Option (List Prop × AV)
  | [.v1 (.agg [.ws .u64 6 a])] => some ([nv a < pN], .tup [.agg [.ws .u64 6 (vF (rtF (gN a)))], .sc (.bo (rk (gN a)))])
  | _ => none
def GD7 : Ctx := ctxL [(50, .pure cP), (95, .pure cAdd), (108, .pure cShift), (107, .pure cFPow), (61, .pure (fE2 (· * ·)))]
theorem GD7_ok : CtxOk Try.prog GD7 := ctxL_cons okP <| ctxL_cons okAdd' <| ctxL_cons okShift' <| ctxL_cons okFPow <| ctxL_cons okFMul ctxL_nil
theorem nv_p1 : nv (wd ((nv primeF + nv (upd (fun _ => 0) 0 1)) % R)) = pN + 1 := by
  have hs := pN_small
  rw [nv_u1', nv_prime, nv_wd, Nat.mod_mod, Nat.mod_eq_of_lt (show pN + 1 < R by have := pN_pr.1; omega)]
abbrev sh2 : Nat → Nat := wd (shiftN (nv (wd ((nv primeF + nv (upd (fun _ => 0) 0 1)) % R))) (-2) % R)
theorem nv_sh2 : nv sh2 = (pN + 1) / 4 := by
  have hs := pN_small
  have := pN_pr.1
  unfold sh2
  rw [nv_p1, shift_two, nv_wd, Nat.mod_mod, Nat.mod_eq_of_lt (show (pN + 1) / 4 < R by omega)]
abbrev sh1 : Nat → Nat := wd (shiftN (nv (wd ((nv primeF + nv (upd (fun _ => 0) 0 1)) % R))) (-1) % R)
theorem nv_sh1 : nv sh1 = (pN + 1) / 2 := by
  have hs := pN_small
  have := pN_pr.1
  unfold sh1
  rw [nv_p1, show shiftN (pN + 1) (-1) = (pN + 1) / 2 from rfl, nv_wd, Nat.mod_mod, Nat.mod_eq_of_lt (show (pN + 1) / 2 < R by omega)]
theorem okRt1 : (CallC.pure cRt1).Ok Try.prog 72 := by
  intro args pre v e hp
  unfold cRt1 at e
  split at e
  · rename_i a
    cases e
    have ha : nv a < pN := hp _ (by simp)
    refine pure_walk' tt_ok Try.func72 (by kernel_rfl) (by kernel_rfl) (by rfl) (by rfl) ?_
    refine evS_q mixed tt_ok GD7_ok 60 [] ?_
    refine same (p := FOk primeF 9940570264628428797 wideF ∧ nv a < pN ∧ FOk primeF 9940570264628428797 wideF ∧ nv (vF (gN a ^ nv sh2)) < pN ∧ nv (vF (gN a ^ nv sh2)) < pN ∧
      endN (.tup [.agg [.ws .u64 6 (vF (gN a ^ nv sh2))], .sc (.bo (eqN W 6 (vF (gN (vF (gN a ^ nv sh2)) * gN (vF (gN a ^ nv sh2)))) a && true))])
        (.tup [.agg [.ws .u64 6 (vF (rtF (gN a)))], .sc (.bo (rk (gN a)))])) ?_ (by kernel_rfl)
    refine ⟨pOk, ha, pOk, lt_vF _, lt_vF _, _, rfl, fun ρ => ?_⟩
    rw [nv_sh2, eqW_beq, gN_vF, nv_vF, ← vF_gN ha, nv_vF]
    rfl
  · cases e
def hD : Fp := ofN ((pN + 1) / 2)
theorem hD_two : (1 + 1) * hD = 1 := Fin.ext (by kernel_rfl)
def cHf : List AV → Option (List Prop × AV)
  | [.v1 (.agg [.ws .u64 6 a])] => some ([nv a < pN], nm (vF (gN a * hD)))
  | _ => none
theorem okHf : (CallC.pure cHf).Ok Try.prog 73 := by
  intro args pre v e hp
  unfold cHf at e
  split at e
  · rename_i a
    cases e
    have ha : nv a < pN := hp _ (by simp)
    refine pure_walk' tt_ok Try.func73 (by kernel_rfl) (by kernel_rfl) (by rfl) (by rfl) ?_
    refine evS_q mixed tt_ok GD7_ok 60 [] ?_
    refine same (p := FOk primeF 9940570264628428797 wideF ∧ nv a < pN ∧ nv sh1 < pN ∧ endN (nm (vF (gN a * gN sh1))) (nm (vF (gN a * hD)))) ?_ (by kernel_rfl)
    have h1 := pN_pr.1
    refine ⟨pOk, ha, by rw [nv_sh1]; omega, endN_nm ?_⟩
    have : gN sh1 = hD := by unfold gN hD; rw [nv_sh1]
    rw [this]
  · cases e

/-! lesser -/
def F2p.ls (z : F2p) : F2p := ⟨lsX z.x z.y, lsY z.x z.y⟩
def GD8 : Ctx := ctxL [(17, .pure (d1 F2p.ng)), (86, .pure cCmp)]
theorem GD8_ok : CtxOk Try.prog GD8 := ctxL_cons okD2Neg <| ctxL_cons okCmp' ctxL_nil
theorem cmp_gt3 (x y : Nat) : ilt 0 (cmpI x y) = (bif Nat.blt x y then false else Nat.blt y x) := by
  unfold cmpI
  cases h : Nat.blt x y
  · cases Nat.blt y x <;> rfl
  · rfl
theorem cmp_eq3 (x y : Nat) : ieq (cmpI x y) 0 = (bif Nat.blt x y then false else !Nat.blt y x) := by
  unfold cmpI
  cases h : Nat.blt x y
  · cases Nat.blt y x <;> rfl
  · rfl
theorem okD2Ls : (CallC.pure (d1 F2p.ls)).Ok Try.prog 74 := by
  refine d1_ok Try.func74 (by kernel_rfl) (by kernel_rfl) fun a b ha hb => ?_
  have na : (gN a).val = nv a := by rw [← nv_vF, vF_gN ha]
  have nb' : (gN b).val = nv b := by rw [← nv_vF, vF_gN hb]
  have px : nv (vF (F2p.ng (g2 a b)).x) = (0 - gN a).val := nv_vF _
  have py : nv (vF (F2p.ng (g2 a b)).y) = (0 - gN b).val := nv_vF _
  have yes : lsB (gN a) (gN b) = true → endN (.v1 (n2 (F2p.ng (g2 a b)))) (.v1 (n2 (F2p.ls (g2 a b)))) := fun h => end2' (by
    unfold F2p.ls lsX lsY F2p.ng; rw [h]; rfl)
  have no : lsB (gN a) (gN b) = false → endN (f2 a b) (.v1 (n2 (F2p.ls (g2 a b)))) := fun h => end2 ha hb (by
    unfold F2p.ls lsX lsY; rw [h]; rfl)
  cases h1 : Nat.blt (0 - gN b).val (gN b).val
  · cases h2 : Nat.blt (gN b).val (0 - gN b).val
    · cases h3 : Nat.blt (0 - gN a).val (gN a).val
      · refine evS_q mixed tt_ok GD8_ok 60 [⟨3,1,.lit (.bo true)⟩,⟨5,1,.lit (.bo false)⟩] ?_
        refine same (p := nv a < pN ∧ nv b < pN ∧ ieq (cmpI (nv b) (nv (vF (F2p.ng (g2 a b)).y))) 0 = true ∧ ilt 0 (cmpI (nv a) (nv (vF (F2p.ng (g2 a b)).x))) = false ∧ endN (f2 a b) (.v1 (n2 (F2p.ls (g2 a b))))) ?_ (by kernel_rfl)
        exact ⟨ha, hb, by rw [cmp_eq3, py, ← nb', h1, h2]; rfl, by rw [cmp_gt3, px, ← na, h3]; cases Nat.blt (gN a).val (0 - gN a).val <;> rfl, no (by unfold lsB; rw [h1, h2, h3]; rfl)⟩
      · refine evS_q mixed tt_ok GD8_ok 60 [⟨3,1,.lit (.bo true)⟩,⟨5,1,.lit (.bo true)⟩] ?_
        refine same (p := nv a < pN ∧ nv b < pN ∧ ieq (cmpI (nv b) (nv (vF (F2p.ng (g2 a b)).y))) 0 = true ∧ ilt 0 (cmpI (nv a) (nv (vF (F2p.ng (g2 a b)).x))) = true ∧ endN (.v1 (n2 (F2p.ng (g2 a b)))) (.v1 (n2 (F2p.ls (g2 a b))))) ?_ (by kernel_rfl)
        have h4 : Nat.blt (gN a).val (0 - gN a).val = false := by
          rw [← Bool.not_eq_true, Nat.blt_eq]; rw [Nat.blt_eq] at h3; omega
        exact ⟨ha, hb, by rw [cmp_eq3, py, ← nb', h1, h2]; rfl, by rw [cmp_gt3, px, ← na, h3, h4]; rfl, yes (by unfold lsB; rw [h1, h2, h3]; rfl)⟩
    · refine evS_q mixed tt_ok GD8_ok 60 [⟨3,1,.lit (.bo false)⟩,⟨5,1,.lit (.bo false)⟩] ?_
      refine same (p := nv a < pN ∧ nv b < pN ∧ ieq (cmpI (nv b) (nv (vF (F2p.ng (g2 a b)).y))) 0 = false ∧ ilt 0 (cmpI (nv b) (nv (vF (F2p.ng (g2 a b)).y))) = false ∧ endN (f2 a b) (.v1 (n2 (F2p.ls (g2 a b))))) ?_ (by kernel_rfl)
      exact ⟨ha, hb, by rw [cmp_eq3, py, ← nb', h2]; rfl, by rw [cmp_gt3, py, ← nb', h2]; rfl, no (by unfold lsB; rw [h1, h2]; rfl)⟩
  · have h2 : Nat.blt (gN b).val (0 - gN b).val = false := by
      rw [← Bool.not_eq_true, Nat.blt_eq]; rw [Nat.blt_eq] at h1; omega
    refine evS_q mixed tt_ok GD8_ok 60 [⟨3,1,.lit (.bo false)⟩,⟨5,1,.lit (.bo true)⟩] ?_
    refine same (p := nv a < pN ∧ nv b < pN ∧ ieq (cmpI (nv b) (nv (vF (F2p.ng (g2 a b)).y))) 0 = false ∧ ilt 0 (cmpI (nv b) (nv (vF (F2p.ng (g2 a b)).y))) = true ∧ endN (.v1 (n2 (F2p.ng (g2 a b)))) (.v1 (n2 (F2p.ls (g2 a b))))) ?_ (by kernel_rfl)
    exact ⟨ha, hb, by rw [cmp_eq3, py, ← nb', h1, h2]; rfl, by rw [cmp_gt3, py, ← nb', h1, h2]; rfl, yes (by unfold lsB; rw [h1]; rfl)⟩
def GD9 : Ctx := ctxL [(50, .pure cP), (61, .pure (fE2 (· * ·))), (55, .pure (fE2 (· + ·))), (60, .pure (fE2 (· - ·))), (58, .pure (f1 (0 - ·))), (72, .pure cRt1), (73, .pure cHf), (19, .pure (d2 (· * ·))), (74, .pure (d1 F2p.ls))]
theorem GD9_ok : CtxOk Try.prog GD9 := ctxL_cons okP <| ctxL_cons okFMul <| ctxL_cons okFAdd <| ctxL_cons okFSub <| ctxL_cons okFNeg <| ctxL_cons okRt1 <| ctxL_cons okHf <| ctxL_cons okD2Mul <| ctxL_cons okD2Ls ctxL_nil
end Go.Proofs.Ytkmfiefnaeikdaa

/- The document's root of a number of two parts. Printed by gend7.py. -/
namespace Go.Proofs.Ytkmfiefnaeikdaa
open Go.Rq Go
set_option maxRecDepth 100000
set_option linter.unusedVariables false

def F2p.eqb (s t : F2p) : Bool := qL (nL2 s) (nL2 t)
theorem F2p.eqb_iff {s t : F2p} : F2p.eqb s t = true ↔ s = t := q2_iff
/-! the search, of whatever roots -/
section
variable (rk : Fp → Bool) (rt : Fp → Fp) (h : Fp)
def tryG (z : F2p) (n : Fp) : Option F2p :=
  match rk ((z.x + n) * h) with
  | false => none
  | true => match rk ((n - z.x) * h) with
    | false => none
    | true => match F2p.eqb (⟨rt ((z.x + n) * h), rt ((n - z.x) * h)⟩ * ⟨rt ((z.x + n) * h), rt ((n - z.x) * h)⟩) z with
      | true => some ⟨rt ((z.x + n) * h), rt ((n - z.x) * h)⟩
      | false => match F2p.eqb (⟨rt ((z.x + n) * h), 0 - rt ((n - z.x) * h)⟩ * ⟨rt ((z.x + n) * h), 0 - rt ((n - z.x) * h)⟩) z with
        | true => some ⟨rt ((z.x + n) * h), 0 - rt ((n - z.x) * h)⟩
        | false => none
def nG (z : F2p) : Fp := rt (F2p.nrm z)
def rtG (z : F2p) : Option F2p :=
  match rk (F2p.nrm z) with
  | false => none
  | true => match tryG rk rt h z (nG rt z) with
    | some c => some c
    | none => tryG rk rt h z (0 - nG rt z)
def vG (z : F2p) : F2p := match rtG rk rt h z with
  | some c => F2p.ls c
  | none => 0
def bG (z : F2p) : Bool := match rtG rk rt h z with
  | some _ => true
  | none => false
variable {rk : Fp → Bool} {rt : Fp → Fp} {h : Fp} {z : F2p} {n : Fp}
theorem try_f (hf : rk ((z.x + n) * h) = false) : tryG rk rt h z n = none := by unfold tryG; rw [hf]
theorem try_g (hf : rk ((z.x + n) * h) = true) (hg : rk ((n - z.x) * h) = false) : tryG rk rt h z n = none := by unfold tryG; rw [hf]; simp only [hg]
theorem try_1 (hf : rk ((z.x + n) * h) = true) (hg : rk ((n - z.x) * h) = true) (hq : F2p.eqb (⟨rt ((z.x + n) * h), rt ((n - z.x) * h)⟩ * ⟨rt ((z.x + n) * h), rt ((n - z.x) * h)⟩) z = true) :
    tryG rk rt h z n = some ⟨rt ((z.x + n) * h), rt ((n - z.x) * h)⟩ := by unfold tryG; rw [hf]; simp only [hg, hq]
theorem try_2 (hf : rk ((z.x + n) * h) = true) (hg : rk ((n - z.x) * h) = true) (hq : F2p.eqb (⟨rt ((z.x + n) * h), rt ((n - z.x) * h)⟩ * ⟨rt ((z.x + n) * h), rt ((n - z.x) * h)⟩) z = false)
    (hr : F2p.eqb (⟨rt ((z.x + n) * h), 0 - rt ((n - z.x) * h)⟩ * ⟨rt ((z.x + n) * h), 0 - rt ((n - z.x) * h)⟩) z = true) : tryG rk rt h z n = some ⟨rt ((z.x + n) * h), 0 - rt ((n - z.x) * h)⟩ := by unfold tryG; rw [hf]; simp only [hg, hq, hr]
theorem try_0 (hf : rk ((z.x + n) * h) = true) (hg : rk ((n - z.x) * h) = true) (hq : F2p.eqb (⟨rt ((z.x + n) * h), rt ((n - z.x) * h)⟩ * ⟨rt ((z.x + n) * h), rt ((n - z.x) * h)⟩) z = false)
    (hr : F2p.eqb (⟨rt ((z.x + n) * h), 0 - rt ((n - z.x) * h)⟩ * ⟨rt ((z.x + n) * h), 0 - rt ((n - z.x) * h)⟩) z = false) : tryG rk rt h z n = none := by unfold tryG; rw [hf]; simp only [hg, hq, hr]
end
structure RoD where
  k : Nat
  n : Fp
def InvG (rk : Fp → Bool) (rt : Fp → Fp) (h : Fp) (z : F2p) (x : RoD) : Prop := x.k ≤ 2 ∧ (x.k = 0 → x.n = nG rt z) ∧ (x.k = 1 → x.n = 0 - nG rt z ∧ tryG rk rt h z (nG rt z) = none) ∧ (x.k = 2 → tryG rk rt h z (nG rt z) = none ∧ tryG rk rt h z (0 - nG rt z) = none)
section
variable {rk : Fp → Bool} {rt : Fp → Fp} {h : Fp} {z : F2p}
theorem rtG_no (hk : rk (F2p.nrm z) = false) : rtG rk rt h z = none := by unfold rtG; rw [hk]
theorem rtG_none (hk : rk (F2p.nrm z) = true) (h1 : tryG rk rt h z (nG rt z) = none) (h2 : tryG rk rt h z (0 - nG rt z) = none) : rtG rk rt h z = none := by
  unfold rtG
  rw [hk]
  simp only [h1, h2]
theorem rtG_at {c : F2p} {x : RoD} (hk : rk (F2p.nrm z) = true) (h2 : x.k < 2) (hi : InvG rk rt h z x) (hc : tryG rk rt h z x.n = some c) : rtG rk rt h z = some c := by
  obtain ⟨k, n⟩ := x
  simp only at h2 hc
  unfold rtG
  rw [hk]
  rcases (show k = 0 ∨ k = 1 by omega) with rfl | rfl
  · have := hi.2.1 rfl
    simp only at this
    rw [← this]
    simp only [hc]
  · have := hi.2.2.1 rfl
    simp only at this
    simp only [this.2]
    rw [← this.1]
    exact hc
theorem InvG.start : InvG rk rt h z ⟨0, nG rt z⟩ := ⟨by simp, fun _ => rfl, fun e => (by simp at e), fun e => (by simp at e)⟩
theorem InvG.next {k : Nat} {n : Fp} (hk : k < 2) (hi : InvG rk rt h z ⟨k, n⟩) (hc : tryG rk rt h z n = none) : InvG rk rt h z ⟨k + 1, 0 - n⟩ := by
  refine ⟨by simp only; omega, fun h => ?_, fun h => ?_, fun h => ?_⟩ <;> simp only at h
  · omega
  · have h0 : k = 0 := by omega
    subst h0
    have := hi.2.1 rfl
    simp only at this
    subst this
    exact ⟨rfl, hc⟩
  · have h0 : k = 1 := by omega
    subst h0
    have := hi.2.2.1 rfl
    simp only at this
    obtain ⟨e1, e2⟩ := this
    subst e1
    exact ⟨e2, hc⟩
theorem endRt {s t : F2p} (hh : rtG rk rt h z = some s) (e : F2p.ls s = t) : endN (.tup [n2 t, .sc (.bo true)]) (.tup [n2 (vG rk rt h z), .sc (.bo (bG rk rt h z))]) := by
  subst e
  unfold vG bG
  rw [hh]
  exact ⟨_, rfl, fun _ => rfl⟩
theorem endRt0 (hh : rtG rk rt h z = none) : endN (.tup [.agg [.ws .u64 6 fun _ => 0, .ws .u64 6 fun _ => 0], .sc (.bo false)]) (.tup [n2 (vG rk rt h z), .sc (.bo (bG rk rt h z))]) := by
  unfold vG bG
  rw [hh]
  refine ⟨_, rfl, fun ρ => ?_⟩
  have := f2_val (ρ := ρ) (f := fun _ => 0) (g := fun _ => 0) (f' := vF (0 : F2p).x) (g' := vF (0 : F2p).y) zero_vF zero_vF
  simp only [AV.val, V1.val] at this
  simp only [AV.val, List.map_cons, List.map_nil, V1.val, this]
end
def dRV (z : F2p) : F2p := vG rk rtF hD z
def dRB (z : F2p) : Bool := bG rk rtF hD z
def cD2Rt : List AV → Option (List Prop × AV)
  | [.v1 (.agg [.ws .u64 6 a, .ws .u64 6 b])] => some ([nv a < pN, nv b < pN], .tup [n2 (dRV (g2 a b)), .sc (.bo (dRB (g2 a b)))])
  | _ => none
abbrev rA1 (a : Nat → Nat) (n : Fp) : Nat → Nat := vF (gN a + gN (vF n))
abbrev rB1 (a : Nat → Nat) (n : Fp) : Nat → Nat := vF (gN (rA1 a n) * hD)
abbrev rX1 (a : Nat → Nat) (n : Fp) : Nat → Nat := vF (rtF (gN (rB1 a n)))
abbrev rA2 (a : Nat → Nat) (n : Fp) : Nat → Nat := vF (gN (vF n) - gN a)
abbrev rB2 (a : Nat → Nat) (n : Fp) : Nat → Nat := vF (gN (rA2 a n) * hD)
abbrev rX2 (a : Nat → Nat) (n : Fp) : Nat → Nat := vF (rtF (gN (rB2 a n)))
abbrev rX3 (a : Nat → Nat) (n : Fp) : Nat → Nat := vF (0 - gN (rX2 a n))
def VRo (k : Nat) : List AV := [pt 0 0, pt 1 0, pt 3 0, pt 8 0, iv (Int.ofNat k)]
abbrev b2 (a b : Nat → Nat) : Option Blk := some ⟨26, [.ws .u64 6 a, .ws .u64 6 b], 0, 0⟩
def HRo (a b : Nat → Nat) (n : Fp) : Heap := [b2 a b, b2 (fun _ => 0) (fun _ => 0), none, fB primeF 9940570264628428797 wideF, none, none, none, none, nb (vF n)]
theorem qL_eqb {s : F2p} {a b : Nat → Nat} (ha : nv a < pN) (hb : nv b < pN) : qL (nL2 s) [a, b] = F2p.eqb s (g2 a b) := by
  have e : ∀ (x : Fp) (f : Nat → Nat), nv f < pN → eqN W 6 (vF x) f = eqN W 6 (vF x) (vF (gN f)) := fun x f hf => by
    have h1 := eqW_beq (vF x) f
    have h2 := eqW_beq (vF x) (vF (gN f))
    rw [Bool.and_true] at h1 h2
    rw [h1, h2, vF_gN hf]
  show (eqN W 6 (vF s.x) a && (eqN W 6 (vF s.y) b && true)) = (eqN W 6 (vF s.x) (vF (gN a)) && (eqN W 6 (vF s.y) (vF (gN b)) && true))
  rw [e _ _ ha, e _ _ hb]
theorem okD2Rt : (CallC.pure cD2Rt).Ok Try.prog 24 := by
  intro args pre v e hp
  unfold cD2Rt at e
  split at e
  · rename_i a b
    cases e
    have ha : nv a < pN := hp _ (by simp)
    have hb : nv b < pN := hp _ (by simp)
    refine pure_walk' tt_ok Try.func24 (by kernel_rfl) (by kernel_rfl) (by rfl) (by rfl) ?_
    have hnr : ∀ y, gN (vF (gN (vF (gN a * gN a)) + gN (vF (gN b * gN b)))) = y → F2p.nrm (g2 a b) = y := fun y h => by rw [← h, gN_vF, gN_vF, gN_vF]; rfl
    have hN : F2p.nrm (g2 a b) = gN (vF (gN (vF (gN a * gN a)) + gN (vF (gN b * gN b)))) := hnr _ rfl
    cases hk : rk (F2p.nrm (g2 a b))
    · refine evS_q mixed tt_ok GD9_ok 100 [⟨3,1,.lit (.bo true)⟩] ?_
      refine same (p := FOk primeF 9940570264628428797 wideF ∧ nv a < pN ∧ nv a < pN ∧ FOk primeF 9940570264628428797 wideF ∧ nv b < pN ∧ nv b < pN ∧ FOk primeF 9940570264628428797 wideF ∧ nv (vF (gN a * gN a)) < pN ∧ nv (vF (gN b * gN b)) < pN ∧ nv (vF (gN (vF (gN a * gN a)) + gN (vF (gN b * gN b)))) < pN ∧ (!rk (gN (vF (gN (vF (gN a * gN a)) + gN (vF (gN b * gN b)))))) = true ∧ endN (.tup [.agg [.ws .u64 6 fun _ => 0, .ws .u64 6 fun _ => 0], .sc (.bo false)]) (.tup [n2 (dRV (g2 a b)), .sc (.bo (dRB (g2 a b)))])) ?_ (by kernel_rfl)
      exact ⟨pOk, ha, ha, pOk, hb, hb, pOk, lt_vF _, lt_vF _, lt_vF _, by rw [← hN, hk]; rfl, endRt0 (rtG_no hk)⟩
    · refine loopK mixed tt_ok GD9_ok 0 (by kernel_rfl) (ι := {x // InvG rk rtF hD (g2 a b) x}) [1,2,4,5,7] 89 9 (fun x => VRo x.1.k) (fun x => HRo a b x.1.n) (fun x => 2 - x.1.k) (fun x => x.1.k = 2)
        (fun _ => rfl) (fun _ => by kernel_rfl) (fun _ _ h => h.elim) 100 [⟨3,1,.lit (.bo false)⟩] ?_ ?_ ?_
      · refine same (p := FOk primeF 9940570264628428797 wideF ∧ nv a < pN ∧ nv a < pN ∧ FOk primeF 9940570264628428797 wideF ∧ nv b < pN ∧ nv b < pN ∧ FOk primeF 9940570264628428797 wideF ∧ nv (vF (gN a * gN a)) < pN ∧ nv (vF (gN b * gN b)) < pN ∧ nv (vF (gN (vF (gN a * gN a)) + gN (vF (gN b * gN b)))) < pN ∧ (!rk (gN (vF (gN (vF (gN a * gN a)) + gN (vF (gN b * gN b)))))) = false ∧ true = true ∧ ∃ j : {x // InvG rk rtF hD (g2 a b) x}, VRo 0 = VRo j.1.k ∧ HRo a b (rtF (gN (vF (gN (vF (gN a * gN a)) + gN (vF (gN b * gN b)))))) = HRo a b j.1.n) ?_ (by kernel_rfl)
        exact ⟨pOk, ha, ha, pOk, hb, hb, pOk, lt_vF _, lt_vF _, lt_vF _, by rw [← hN, hk]; rfl, rfl, ⟨⟨0, nG rtF (g2 a b)⟩, InvG.start⟩, rfl, by rw [← hN]; rfl⟩
      · intro ⟨⟨k, n⟩, hi⟩ junk
        have hk2 := hi.1
        simp only at hk2
        by_cases hlt : k < 2
        · have hge : ilt (Int.ofNat k) 2 = true := by rw [ilt_iff]; simp; omega
          have hs : wrapI (Int.ofNat k + 1) = Int.ofNat (k + 1) := wrapI_succ (by omega)
          have e1 : gN (rB1 a n) = ((g2 a b).x + n) * hD := by simp only [gN_vF]
          have e2 : gN (rB2 a n) = (n - (g2 a b).x) * hD := by simp only [gN_vF]
          have x1 : gN (rX1 a n) = rtF (((g2 a b).x + n) * hD) := by rw [gN_vF, e1]
          have x2 : gN (rX2 a n) = rtF ((n - (g2 a b).x) * hD) := by rw [gN_vF, e2]
          have x3 : gN (rX3 a n) = 0 - rtF ((n - (g2 a b).x) * hD) := by rw [gN_vF, x2]
          have c1 : g2 (rX1 a n) (rX2 a n) = ⟨rtF (((g2 a b).x + n) * hD), rtF ((n - (g2 a b).x) * hD)⟩ := F2p.ext x1 x2
          have c2 : g2 (rX1 a n) (rX3 a n) = ⟨rtF (((g2 a b).x + n) * hD), 0 - rtF ((n - (g2 a b).x) * hD)⟩ := F2p.ext x1 x3
          have next : tryG rk rtF hD (g2 a b) n = none → ∃ j : {x // InvG rk rtF hD (g2 a b) x}, 2 - j.1.k < 2 - k ∧ VRo (k + 1) = VRo j.1.k ∧ HRo a b (0 - gN (vF n)) = HRo a b j.1.n := fun h => by
            rw [gN_vF]
            exact ⟨⟨_, hi.next hlt h⟩, by simp only; omega, rfl, rfl⟩
          have ln := lt_vF n
          cases hf : rk (((g2 a b).x + n) * hD)
          · skip
            refine roundF mixed tt_ok GD9_ok 200 [⟨6,1,.lit (.bo true)⟩,⟨10,1,.lit (.bo false)⟩,⟨7,1,.lit (.it (Int.ofNat (k + 1)))⟩] ?_
            refine same (p := ilt (Int.ofNat k) 2 = true ∧ FOk primeF 9940570264628428797 wideF ∧ nv a < pN ∧ nv (vF n) < pN ∧ nv (rA1 a n) < pN ∧ nv (rB1 a n) < pN ∧ FOk primeF 9940570264628428797 wideF ∧ nv (vF n) < pN ∧ nv a < pN ∧ nv (rA2 a n) < pN ∧ nv (rB2 a n) < pN ∧ rk (gN (rB1 a n)) = false ∧ FOk primeF 9940570264628428797 wideF ∧ nv (vF n) < pN ∧ wrapI (Int.ofNat k + 1) = Int.ofNat (k + 1) ∧ true = true ∧ ∃ j : {x // InvG rk rtF hD (g2 a b) x}, 2 - j.1.k < 2 - k ∧ VRo (k + 1) = VRo j.1.k ∧ HRo a b (0 - gN (vF n)) = HRo a b j.1.n) ?_ (by kernel_rfl)
            exact ⟨hge, pOk, ha, ln, lt_vF _, lt_vF _, pOk, ln, ha, lt_vF _, lt_vF _, by rw [e1, hf], pOk, ln, hs, rfl, next (try_f hf)⟩
          · cases hg : rk ((n - (g2 a b).x) * hD)
            · skip
              refine roundF mixed tt_ok GD9_ok 200 [⟨6,1,.lit (.bo true)⟩,⟨10,1,.lit (.bo true)⟩,⟨10,2,.lit (.bo false)⟩,⟨7,1,.lit (.it (Int.ofNat (k + 1)))⟩] ?_
              refine same (p := ilt (Int.ofNat k) 2 = true ∧ FOk primeF 9940570264628428797 wideF ∧ nv a < pN ∧ nv (vF n) < pN ∧ nv (rA1 a n) < pN ∧ nv (rB1 a n) < pN ∧ FOk primeF 9940570264628428797 wideF ∧ nv (vF n) < pN ∧ nv a < pN ∧ nv (rA2 a n) < pN ∧ nv (rB2 a n) < pN ∧ rk (gN (rB1 a n)) = true ∧ rk (gN (rB2 a n)) = false ∧ FOk primeF 9940570264628428797 wideF ∧ nv (vF n) < pN ∧ wrapI (Int.ofNat k + 1) = Int.ofNat (k + 1) ∧ true = true ∧ ∃ j : {x // InvG rk rtF hD (g2 a b) x}, 2 - j.1.k < 2 - k ∧ VRo (k + 1) = VRo j.1.k ∧ HRo a b (0 - gN (vF n)) = HRo a b j.1.n) ?_ (by kernel_rfl)
              exact ⟨hge, pOk, ha, ln, lt_vF _, lt_vF _, pOk, ln, ha, lt_vF _, lt_vF _, by rw [e1, hf], by rw [e2, hg], pOk, ln, hs, rfl, next (try_g hf hg)⟩
            · cases hq1 : F2p.eqb (⟨rtF (((g2 a b).x + n) * hD), rtF ((n - (g2 a b).x) * hD)⟩ * ⟨rtF (((g2 a b).x + n) * hD), rtF ((n - (g2 a b).x) * hD)⟩) (g2 a b)
              · cases hq2 : F2p.eqb (⟨rtF (((g2 a b).x + n) * hD), 0 - rtF ((n - (g2 a b).x) * hD)⟩ * ⟨rtF (((g2 a b).x + n) * hD), 0 - rtF ((n - (g2 a b).x) * hD)⟩) (g2 a b)
                · skip
                  refine roundF mixed tt_ok GD9_ok 200 [⟨6,1,.lit (.bo true)⟩,⟨10,1,.lit (.bo true)⟩,⟨10,2,.lit (.bo true)⟩,⟨12,4,.lit (.bo false)⟩,⟨15,4,.lit (.bo false)⟩,⟨7,1,.lit (.it (Int.ofNat (k + 1)))⟩] ?_
                  refine same (p := ilt (Int.ofNat k) 2 = true ∧ FOk primeF 9940570264628428797 wideF ∧ nv a < pN ∧ nv (vF n) < pN ∧ nv (rA1 a n) < pN ∧ nv (rB1 a n) < pN ∧ FOk primeF 9940570264628428797 wideF ∧ nv (vF n) < pN ∧ nv a < pN ∧ nv (rA2 a n) < pN ∧ nv (rB2 a n) < pN ∧ rk (gN (rB1 a n)) = true ∧ rk (gN (rB2 a n)) = true ∧ nv (rX1 a n) < pN ∧ nv (rX2 a n) < pN ∧ nv (rX1 a n) < pN ∧ nv (rX2 a n) < pN ∧ qL (nL2 (g2 (rX1 a n) (rX2 a n) * g2 (rX1 a n) (rX2 a n))) [a, b] = false ∧ FOk primeF 9940570264628428797 wideF ∧ nv (rX2 a n) < pN ∧ nv (rX1 a n) < pN ∧ nv (rX3 a n) < pN ∧ nv (rX1 a n) < pN ∧ nv (rX3 a n) < pN ∧ qL (nL2 (g2 (rX1 a n) (rX3 a n) * g2 (rX1 a n) (rX3 a n))) [a, b] = false ∧ FOk primeF 9940570264628428797 wideF ∧ nv (vF n) < pN ∧ wrapI (Int.ofNat k + 1) = Int.ofNat (k + 1) ∧ true = true ∧ ∃ j : {x // InvG rk rtF hD (g2 a b) x}, 2 - j.1.k < 2 - k ∧ VRo (k + 1) = VRo j.1.k ∧ HRo a b (0 - gN (vF n)) = HRo a b j.1.n) ?_ (by kernel_rfl)
                  exact ⟨hge, pOk, ha, ln, lt_vF _, lt_vF _, pOk, ln, ha, lt_vF _, lt_vF _, by rw [e1, hf], by rw [e2, hg], lt_vF _, lt_vF _, lt_vF _, lt_vF _, by rw [qL_eqb ha hb, c1, hq1], pOk, lt_vF _, lt_vF _, lt_vF _, lt_vF _, lt_vF _, by rw [qL_eqb ha hb, c2, hq2], pOk, ln, hs, rfl, next (try_0 hf hg hq1 hq2)⟩
                · skip
                  refine roundF mixed tt_ok GD9_ok 200 [⟨6,1,.lit (.bo true)⟩,⟨10,1,.lit (.bo true)⟩,⟨10,2,.lit (.bo true)⟩,⟨12,4,.lit (.bo false)⟩,⟨15,4,.lit (.bo true)⟩] ?_
                  refine same (p := ilt (Int.ofNat k) 2 = true ∧ FOk primeF 9940570264628428797 wideF ∧ nv a < pN ∧ nv (vF n) < pN ∧ nv (rA1 a n) < pN ∧ nv (rB1 a n) < pN ∧ FOk primeF 9940570264628428797 wideF ∧ nv (vF n) < pN ∧ nv a < pN ∧ nv (rA2 a n) < pN ∧ nv (rB2 a n) < pN ∧ rk (gN (rB1 a n)) = true ∧ rk (gN (rB2 a n)) = true ∧ nv (rX1 a n) < pN ∧ nv (rX2 a n) < pN ∧ nv (rX1 a n) < pN ∧ nv (rX2 a n) < pN ∧ qL (nL2 (g2 (rX1 a n) (rX2 a n) * g2 (rX1 a n) (rX2 a n))) [a, b] = false ∧ FOk primeF 9940570264628428797 wideF ∧ nv (rX2 a n) < pN ∧ nv (rX1 a n) < pN ∧ nv (rX3 a n) < pN ∧ nv (rX1 a n) < pN ∧ nv (rX3 a n) < pN ∧ qL (nL2 (g2 (rX1 a n) (rX3 a n) * g2 (rX1 a n) (rX3 a n))) [a, b] = true ∧ nv (rX1 a n) < pN ∧ nv (rX3 a n) < pN ∧ endN (.tup [n2 (F2p.ls (g2 (rX1 a n) (rX3 a n))), .sc (.bo true)]) (.tup [n2 (dRV (g2 a b)), .sc (.bo (dRB (g2 a b)))])) ?_ (by kernel_rfl)
                  exact ⟨hge, pOk, ha, ln, lt_vF _, lt_vF _, pOk, ln, ha, lt_vF _, lt_vF _, by rw [e1, hf], by rw [e2, hg], lt_vF _, lt_vF _, lt_vF _, lt_vF _, by rw [qL_eqb ha hb, c1, hq1], pOk, lt_vF _, lt_vF _, lt_vF _, lt_vF _, lt_vF _, by rw [qL_eqb ha hb, c2, hq2], lt_vF _, lt_vF _, endRt (rtG_at hk hlt hi (try_2 hf hg hq1 hq2)) (by rw [c2])⟩
              · skip
                refine roundF mixed tt_ok GD9_ok 200 [⟨6,1,.lit (.bo true)⟩,⟨10,1,.lit (.bo true)⟩,⟨10,2,.lit (.bo true)⟩,⟨12,4,.lit (.bo true)⟩] ?_
                refine same (p := ilt (Int.ofNat k) 2 = true ∧ FOk primeF 9940570264628428797 wideF ∧ nv a < pN ∧ nv (vF n) < pN ∧ nv (rA1 a n) < pN ∧ nv (rB1 a n) < pN ∧ FOk primeF 9940570264628428797 wideF ∧ nv (vF n) < pN ∧ nv a < pN ∧ nv (rA2 a n) < pN ∧ nv (rB2 a n) < pN ∧ rk (gN (rB1 a n)) = true ∧ rk (gN (rB2 a n)) = true ∧ nv (rX1 a n) < pN ∧ nv (rX2 a n) < pN ∧ nv (rX1 a n) < pN ∧ nv (rX2 a n) < pN ∧ qL (nL2 (g2 (rX1 a n) (rX2 a n) * g2 (rX1 a n) (rX2 a n))) [a, b] = true ∧ nv (rX1 a n) < pN ∧ nv (rX2 a n) < pN ∧ endN (.tup [n2 (F2p.ls (g2 (rX1 a n) (rX2 a n))), .sc (.bo true)]) (.tup [n2 (dRV (g2 a b)), .sc (.bo (dRB (g2 a b)))])) ?_ (by kernel_rfl)
                exact ⟨hge, pOk, ha, ln, lt_vF _, lt_vF _, pOk, ln, ha, lt_vF _, lt_vF _, by rw [e1, hf], by rw [e2, hg], lt_vF _, lt_vF _, lt_vF _, lt_vF _, by rw [qL_eqb ha hb, c1, hq1], lt_vF _, lt_vF _, endRt (rtG_at hk hlt hi (try_1 hf hg hq1)) (by rw [c1])⟩
        · have hge : ilt (Int.ofNat k) 2 = false := by rw [← Bool.not_eq_true, ilt_iff]; simp; omega
          refine roundF mixed tt_ok GD9_ok 200 [⟨6,1,.lit (.bo false)⟩] ?_
          refine same (p := ilt (Int.ofNat k) 2 = false ∧ true = true ∧ ∃ j : {x // InvG rk rtF hD (g2 a b) x}, j.1.k = 2 ∧ VRo k = VRo j.1.k ∧ HRo a b n = HRo a b j.1.n) ?_ (by kernel_rfl)
          exact ⟨hge, rfl, ⟨⟨k, n⟩, hi⟩, by simp only; omega, rfl, rfl⟩
      · intro ⟨⟨k, n⟩, hi⟩ junk h0
        simp only at h0
        subst h0
        have := hi.2.2.2 rfl
        refine evS_q mixed tt_ok GD9_ok 200 [] ?_
        exact same (p := endN (.tup [.agg [.ws .u64 6 fun _ => 0, .ws .u64 6 fun _ => 0], .sc (.bo false)]) (.tup [n2 (dRV (g2 a b)), .sc (.bo (dRB (g2 a b)))])) (endRt0 (rtG_none hk this.1 this.2)) (by kernel_rfl)
  · cases e
end Go.Proofs.Ytkmfiefnaeikdaa

/- The document's root is the tower's. -/
namespace Go.Proofs.Ytkmfiefnaeikdaa
open Go.Rq Go
set_option maxRecDepth 100000
set_option linter.unusedVariables false

section
variable {α : Type} [CR α]
theorem cr_u1 {x y h : α} (hh : (1 + 1) * h = 1) : ((x * x - y * y) + (x * x + y * y)) * h = x * x := by grind
theorem cr_u2 {x y h : α} (hh : (1 + 1) * h = 1) : ((x * x + y * y) - (x * x - y * y)) * h = y * y := by grind
theorem cr_u3 (x y : α) : x * (0 - y) = 0 - x * y := by grind
theorem cr_u4 (x y : α) : (0 - x) * y = 0 - x * y := by grind
theorem cr_u5 (x y : α) : (0 - x) * (0 - y) = x * y := by grind
theorem cr_u6 {x y X Y : α} (h : X * Y = 0 - x * y) : X * (0 - Y) + (0 - Y) * X = x * y + y * x := by grind
end
theorem neg_val {y : Fp} (h : y ≠ 0) : (0 - y).val = pN - y.val := by
  have hy : y.val < pN := y.isLt
  have h0 : y.val ≠ 0 := fun e => h (Fin.ext e)
  have : 0 - y = ofN (pN - y.val) := by rw [ofN_sub (Nat.le_of_lt hy), ofN_self]
  rw [this, ofN_val, Nat.mod_eq_of_lt (by omega)]
theorem neg_zero' : (0 : Fp) - 0 = 0 := Rg.sub_self 0
theorem neg_neg' (y : Fp) : 0 - (0 - y) = y := cr_q12 y
theorem neg_ne' {y : Fp} (h : y ≠ 0) : 0 - y ≠ 0 := fun e => h (by rw [← neg_neg' y, e, neg_zero'])
theorem blt_neg {y : Fp} (h : y ≠ 0) : Nat.blt (0 - y).val y.val = !Nat.blt y.val (0 - y).val := by
  have hy : y.val < pN := y.isLt
  have h0 : y.val ≠ 0 := fun e => h (Fin.ext e)
  have ho := pN_odd
  rw [neg_val h]
  cases hb : Nat.blt y.val (pN - y.val)
  · have : ¬ y.val < pN - y.val := fun e => by rw [← Nat.blt_eq, hb] at e; cases e
    rw [Bool.not_false, Nat.blt_eq]; omega
  · have : y.val < pN - y.val := by rw [← Nat.blt_eq]; exact hb
    rw [Bool.not_true, ← Bool.not_eq_true, Nat.blt_eq]; omega
theorem lsB_neg {x y : Fp} (h : ¬ (x = 0 ∧ y = 0)) : lsB (0 - x) (0 - y) = !lsB x y := by
  unfold lsB
  rw [neg_neg', neg_neg']
  by_cases hy : y = 0
  · subst hy
    have hx : x ≠ 0 := fun e => h ⟨e, rfl⟩
    rw [neg_zero']
    have hz : Nat.blt (0 : Fp).val (0 : Fp).val = false := rfl
    rw [hz, cond_false, cond_false, cond_false, cond_false, blt_neg hx, Bool.not_not]
  · have h1 := blt_neg hy
    cases h2 : Nat.blt y.val (0 - y).val
    · rw [h2] at h1
      rw [h1]
      simp
    · rw [h2] at h1
      rw [h1]
      simp
theorem ls_neg (x y : Fp) : F2p.ls ⟨0 - x, 0 - y⟩ = F2p.ls ⟨x, y⟩ := by
  by_cases h : x = 0 ∧ y = 0
  · obtain ⟨rfl, rfl⟩ := h
    rw [neg_zero']
  · have := lsB_neg h
    unfold F2p.ls lsX lsY
    simp only
    rw [this]
    cases lsB x y
    · simp only [Bool.not_false, cond_true, cond_false, neg_neg']
    · simp only [Bool.not_true, cond_true, cond_false]
theorem ls_or (z : F2p) : F2p.ls z = z ∨ F2p.ls z = ⟨0 - z.x, 0 - z.y⟩ := by
  unfold F2p.ls lsX lsY
  cases lsB z.x z.y
  · exact .inl rfl
  · exact .inr rfl
theorem ls_ls (z : F2p) : F2p.ls (F2p.ls z) = F2p.ls z := by
  rcases ls_or z with h | h
  · rw [h, h]
  · rw [h, ls_neg]; exact h
theorem ls_same {z w : F2p} (h : z * z = w * w) : F2p.ls z = F2p.ls w := by
  rcases f2_sq h with h | h
  · rw [h]
  · rw [h, ls_neg]
section
variable {rk : Fp → Bool} {rt : Fp → Fp} {h : Fp} {z : F2p}
theorem try_sound {n : Fp} {c : F2p} (ht : tryG rk rt h z n = some c) : c * c = z := by
  unfold tryG at ht
  split at ht
  · cases ht
  · split at ht
    · cases ht
    · split at ht
      · rename_i hq
        cases ht; exact F2p.eqb_iff.1 hq
      · split at ht
        · rename_i hq
          cases ht; exact F2p.eqb_iff.1 hq
        · cases ht
theorem rtG_sound {c : F2p} (ht : rtG rk rt h z = some c) : c * c = z := by
  unfold rtG at ht
  split at ht
  · cases ht
  · split at ht
    · rename_i hc
      cases ht; exact try_sound hc
    · exact try_sound ht
theorem try_full {x y : Fp} (hk : ∀ x, rk x = true ↔ sqr x) (hr : ∀ x, sqr x → rt x * rt x = x) (hh : (1 + 1) * h = 1) :
    tryG rk rt h (⟨x, y⟩ * ⟨x, y⟩) (x * x + y * y) ≠ none := by
  have e1 : ((⟨x, y⟩ * ⟨x, y⟩ : F2p).x + (x * x + y * y)) * h = x * x := by
    show ((x * x - y * y) + (x * x + y * y)) * h = x * x
    exact cr_u1 hh
  have e2 : ((x * x + y * y) - (⟨x, y⟩ * ⟨x, y⟩ : F2p).x) * h = y * y := by
    show ((x * x + y * y) - (x * x - y * y)) * h = y * y
    exact cr_u2 hh
  have s1 := hr _ ⟨x, rfl⟩
  have s2 := hr _ ⟨y, rfl⟩
  have k1 := (hk (x * x)).2 ⟨x, rfl⟩
  have k2 := (hk (y * y)).2 ⟨y, rfl⟩
  generalize hX : rt (x * x) = X at *
  generalize hY : rt (y * y) = Y at *
  have p1 : rk (((⟨x, y⟩ * ⟨x, y⟩ : F2p).x + (x * x + y * y)) * h) = true := by rw [e1]; exact k1
  have p2 : rk (((x * x + y * y) - (⟨x, y⟩ * ⟨x, y⟩ : F2p).x) * h) = true := by rw [e2]; exact k2
  have q1 : rt (((⟨x, y⟩ * ⟨x, y⟩ : F2p).x + (x * x + y * y)) * h) = X := by rw [e1, hX]
  have q2 : rt (((x * x + y * y) - (⟨x, y⟩ * ⟨x, y⟩ : F2p).x) * h) = Y := by rw [e2, hY]
  have hxy : X * Y = x * y ∨ X * Y = 0 - x * y := by
    rcases fp_dom (cr_q1 s1) with a | a <;> rcases fp_dom (cr_q1 s2) with b | b
    · left; rw [cr_q15 a, cr_q15 b]
    · right; rw [cr_q15 a, cr_q2 b]; exact cr_u3 _ _
    · right; rw [cr_q2 a, cr_q15 b]; exact cr_u4 _ _
    · left; rw [cr_q2 a, cr_q2 b]; exact cr_u5 _ _
  intro hn
  rcases hxy with hxy | hxy
  · have : F2p.eqb (⟨X, Y⟩ * ⟨X, Y⟩) (⟨x, y⟩ * ⟨x, y⟩) = true := F2p.eqb_iff.2 (F2p.ext (by show X * X - Y * Y = x * x - y * y; rw [s1, s2]) (by show X * Y + Y * X = x * y + y * x; rw [Rg.mul_comm Y X, hxy, Rg.mul_comm y x]))
    rw [try_1 p1 p2 (by rw [q1, q2]; exact this)] at hn
    cases hn
  · have e3 : F2p.eqb (⟨X, 0 - Y⟩ * ⟨X, 0 - Y⟩) (⟨x, y⟩ * ⟨x, y⟩) = true := F2p.eqb_iff.2 (F2p.ext (by show X * X - (0 - Y) * (0 - Y) = x * x - y * y; rw [cr_q3, s1, s2]) (cr_u6 hxy))
    cases hq : F2p.eqb (⟨X, Y⟩ * ⟨X, Y⟩) (⟨x, y⟩ * ⟨x, y⟩)
    · rw [try_2 p1 p2 (by rw [q1, q2]; exact hq) (by rw [q1, q2]; exact e3)] at hn
      cases hn
    · rw [try_1 p1 p2 (by rw [q1, q2]; exact hq)] at hn
      cases hn
theorem rtG_full {w : F2p} (hk : ∀ x, rk x = true ↔ sqr x) (hr : ∀ x, sqr x → rt x * rt x = x) (hh : (1 + 1) * h = 1) (hw : w * w = z) : ∃ c, rtG rk rt h z = some c := by
  subst hw
  have hn : F2p.nrm (w * w) = F2p.nrm w * F2p.nrm w := F2p.nrm_mul w w
  have hq : sqr (F2p.nrm (w * w)) := by rw [hn]; exact ⟨_, rfl⟩
  have hs := hr _ hq
  have hm : tryG rk rt h (w * w) (F2p.nrm w) ≠ none := try_full (x := w.x) (y := w.y) hk hr hh
  unfold rtG
  rw [(hk _).2 hq]
  simp only
  have hN : nG rt (w * w) * nG rt (w * w) = F2p.nrm w * F2p.nrm w := by rw [← hn]; exact hs
  rcases fp_dom (cr_q1 hN) with a | a
  · rw [cr_q15 a]
    cases ht : tryG rk rt h (w * w) (F2p.nrm w) with
    | none => exact absurd ht hm
    | some c => exact ⟨c, rfl⟩
  · rw [cr_q2 a, neg_neg']
    cases ht : tryG rk rt h (w * w) (0 - F2p.nrm w) with
    | some c => exact ⟨c, rfl⟩
    | none =>
      cases ht2 : tryG rk rt h (w * w) (F2p.nrm w) with
      | none => exact absurd ht2 hm
      | some c => exact ⟨c, rfl⟩
theorem bv_some {c w : F2p} (ht : rtG rk rt h z = some c) (hw : F2p.ls c = w) : bG rk rt h z = true ∧ vG rk rt h z = w := by
  subst hw
  unfold bG vG
  rw [ht]
  exact ⟨rfl, rfl⟩
theorem bv_none (ht : rtG rk rt h z = none) : bG rk rt h z = false ∧ vG rk rt h z = 0 := by
  unfold bG vG
  rw [ht]
  exact ⟨rfl, rfl⟩
end
theorem rt_ls {z : F2p} (h : sqr (F2p.nrm z)) : F2p.ls (F2p.rt z) = F2p.rt z := by
  obtain ⟨a, b⟩ := z
  obtain ⟨x, y, hr, _⟩ := r2_yes (a := a) (b := b) h
  rw [(rt_of hr).1, r2l_x, r2l_y]
  exact ls_ls ⟨x, y⟩
theorem rtF_of (x : Fp) (h : sqr x) : rtF x * rtF x = x := (rtF_iff x).2 h
theorem doc_yes {z : F2p} (h : sqr (F2p.nrm z)) : dRB z = true ∧ dRV z = F2p.rt z := by
  have hy := (rt_yes h).2
  obtain ⟨c, hc⟩ := rtG_full (rk := rk) (rt := rtF) (h := hD) rk_iff rtF_of hD_two hy
  have hs := rtG_sound hc
  exact bv_some hc ((ls_same (hs.trans hy.symm)).trans (rt_ls h))
theorem doc_no {z : F2p} (h : ¬ sqr (F2p.nrm z)) : dRB z = false ∧ dRV z = 0 := by
  have hk : rk (F2p.nrm z) = false := by rw [← Bool.not_eq_true, rk_iff]; exact h
  exact bv_none (rtG_no (rk := rk) (rt := rtF) (h := hD) hk)
end Go.Proofs.Ytkmfiefnaeikdaa
