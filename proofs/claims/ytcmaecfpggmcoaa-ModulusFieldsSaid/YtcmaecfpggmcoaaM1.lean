/- A modulus: none, less and mont, off their loops. Printed by genmont.py. -/
import Derived.Test.YtcmaecfpggmcoaaW6
import Derived.Test.YtcmaecfpggmcoaaWN3
import Derived.Test.YtcmaecfpggmcoaaFwR
namespace Go.Proofs.Ytcmaecfpggmcoaa
open Go.Rq Go

abbrev mCs (n : Nat → Nat) (l : Nat) (w : Nat → Nat) : List Cell := [.ws .u64 6 n, .one (.w .u64 l), .ws .u64 6 w]
abbrev mB (y : TypeId) (n : Nat → Nat) (l : Nat) (w : Nat → Nat) : Blk := ⟨y, mCs n l w, 0, 0⟩
abbrev nm (a : Nat → Nat) : AV := .v1 (.agg [.ws .u64 6 a])
/-- A method of a modulus that lies in memory: F tells of its words. -/
def CM (F : (Nat → Nat) → Nat → (Nat → Nat) → List AV → Option (List Prop × AV)) (args : List AV) (h : Heap) : Option (List Prop × AV) :=
  match args with
  | .v1 (.sc (.pt b 0)) :: rest => match hget h b with
    | some ⟨_, [.ws .u64 6 n, .one (.w .u64 l), .ws .u64 6 w], 0, 0⟩ => F n l w rest
    | _ => none
  | _ => none
theorem CM_ok {F : (Nat → Nat) → Nat → (Nat → Nat) → List AV → Option (List Prop × AV)} {f : FuncId} {fn : Func} (hf : Try.prog.funcs[f]? = some fn) (hb : fn.body = some (bodyOf fn)) (hn : (fn.name == "runtime.NumGoroutine") = false)
    (hF : ∀ n l w rest pre v, F n l w rest = some (pre, v) → (∀ p ∈ pre, p) → rest.all vokB = true ∧ vokB v = true ∧
      ∀ y, AWqS Try.prog (Dm [some (mB y n l w)]) (flatC (bodyOf fn)) (FEndR tt fn v (mB y n l w)) ⟨frame0 (.v1 (.sc (.pt 0 0)) :: rest) fn.ntmps, [some (mB y n l w)]⟩) : (CallC.rd (CM F)).Ok Try.prog f := by
  refine ⟨fun args h pre v e hp => ?_, fun args h slot blk hs ha => ?_⟩
  · unfold CM at e
    split at e
    · rename_i b rest
      split at e
      · rename_i y n l w hg
        obtain ⟨h1, h2, h3⟩ := hF n l w rest pre v e hp
        exact rd_blk tt_ok hf hb hn (blk := mB y n l w) rfl rfl h1 h2 hg (h3 y)
      · cases e
    · cases e
  · unfold CM
    split
    · rename_i b rest
      have hb' : Dm h b := ha _ (List.mem_cons_self ..)
      have hne : b ≠ slot := fun e => by
        obtain ⟨x, hx⟩ := hb'
        rw [e, (isHole_lt hs).2] at hx; cases hx
      rw [hget_hset_ne hne]
    · rfl
theorem Dm_one {x : Blk} {r : Heap} : ∀ j, Dm [some x] j → Dm (some x :: r) j := fun j hj => by
  have : j = 0 := by have := Dm_lt hj; simpa using this
  subst this; exact ⟨_, rfl⟩

/-! none -/
def fNone (n : Nat → Nat) (l : Nat) (w : Nat → Nat) : List AV → Option (List Prop × AV)
  | [] => some ([ModI n l w], .v1 (.sc (.bo false)))
  | _ => none
theorem okNone : (CallC.rd (CM fNone)).Ok Try.prog 48 := by
  refine CM_ok Try.func48 (by kernel_rfl) (by kernel_rfl) fun n l w rest pre v e hp => ?_
  unfold fNone at e
  split at e
  · cases e
    have hM : ModI n l w := hp _ (List.mem_cons_self ..)
    refine ⟨rfl, rfl, fun y => evS_q mixed tt_ok G0_ok 50 [⟨1,7,.lit (.bo false)⟩] ?_⟩
    exact same (p := Nat.beq (l % W) (0 % W) = false ∧ some (mB y n l w) = some (mB y n l w) ∧ ∃ v', some (AV.v1 (.sc (.bo false))) = some v' ∧ vokB v' = true ∧ ∀ ρ, v'.val ρ = (AV.v1 (.sc (.bo false))).val ρ) ⟨hM.lNe, rfl, _, rfl, rfl, fun _ => rfl⟩ (by kernel_rfl)
  · cases e

/-! less -/
def GLs : Ctx := ctxL [(40, .pure cSub)]
theorem GLs_ok : CtxOk Try.prog GLs := ctxL_cons okSub ctxL_nil
def fLess (n : Nat → Nat) (_ : Nat) (_ : Nat → Nat) : List AV → Option (List Prop × AV)
  | [.v1 (.agg [.ws .u64 6 a])] => some ([], numA (lessV (nv n) (nv a)))
  | _ => none
theorem okLess : (CallC.rd (CM fLess)).Ok Try.prog 46 := by
  refine CM_ok Try.func46 (by kernel_rfl) (by kernel_rfl) fun n l w rest pre v e hp => ?_
  unfold fLess at e
  split at e
  · rename_i a
    cases e
    refine ⟨rfl, rfl, fun y => ?_⟩
    have ha := nv_lt a
    have hN := nv_lt n
    cases hb : Nat.blt (nv a) (nv n)
    · have hb' : ¬ nv a < nv n := by rw [← Nat.blt_eq, hb]; simp
      have hl : lessV (nv n) (nv a) = (nv a + R - nv n) % R := by
        unfold lessV
        have : Nat.ble (nv n) (nv a) = true := by rw [Nat.ble_eq]; omega
        rw [this, cond_true]
        exact less_gen (by omega) ha
      refine evS_q mixed tt_ok GLs_ok 50 [⟨2,1,.lit (.bo true)⟩] ?_
      refine same (p := (!Nat.blt (nv a) (nv n)) = true ∧ some (mB y n l w) = some (mB y n l w) ∧ ∃ v', some (numA ((nv a + R - nv n) % R)) = some v' ∧ vokB v' = true ∧ ∀ ρ, v'.val ρ = (numA (lessV (nv n) (nv a))).val ρ) ?_ (by kernel_rfl)
      exact ⟨by rw [hb]; rfl, rfl, _, rfl, rfl, fun ρ => by rw [hl]⟩
    · have hb' : nv a < nv n := by rw [← Nat.blt_eq, hb]
      have hl : lessV (nv n) (nv a) = nv a := by
        unfold lessV
        have : Nat.ble (nv n) (nv a) = false := by rw [← Bool.not_eq_true, Nat.ble_eq]; omega
        rw [this, cond_false]
      refine evS_q mixed tt_ok GLs_ok 50 [⟨2,1,.lit (.bo false)⟩] ?_
      refine same (p := (!Nat.blt (nv a) (nv n)) = false ∧ some (mB y n l w) = some (mB y n l w) ∧ ∃ v', some (nm a) = some v' ∧ vokB v' = true ∧ ∀ ρ, v'.val ρ = (numA (lessV (nv n) (nv a))).val ρ) ?_ (by kernel_rfl)
      exact ⟨by rw [hb]; rfl, rfl, _, rfl, rfl, fun ρ => numA_val (by rw [hl, Nat.mod_eq_of_lt ha]) ρ⟩
  · cases e

/-! mont -/
def GMt : Ctx := ctxL [(59, .pure cMul64), (60, .pure cAdd64), (46, .rd (CM fLess))]
theorem GMt_ok : CtxOk Try.prog GMt := ctxL_cons okMul64 <| ctxL_cons okAdd64 <| ctxL_cons okLess ctxL_nil
def fMont (n : Nat → Nat) (l : Nat) (w : Nat → Nat) : List AV → Option (List Prop × AV)
  | [.v1 (.agg [.ws .u64 6 a]), .v1 (.agg [.ws .u64 6 b])] => some ([ModI n l w, nv a < nv n ∨ nv b < nv n], numA (montV (nv n) (nv a) (nv b)))
  | _ => none
def VMt (i : Nat) : List AV := [pt 0 0, pt 1 0, pt 2 0, pt 3 0, pt 4 0, iv (Int.ofNat i)]
def HMt (y : TypeId) (n : Nat → Nat) (l : Nat) (w a b t : Nat → Nat) : Heap := [some (mB y n l w), nb a, nb b, nb (fun _ => 0), some ⟨68, [.ws .u64 8 t], 0, 0⟩]
def InvMt (n a b : Nat → Nat) (x : Nat × (Nat → Nat)) : Prop := x.1 ≤ 6 ∧ ∃ Q, sB W x.2 7 * W ^ x.1 = sB W a x.1 * nv b + Q * nv n ∧ Q < W ^ x.1

theorem mont_upd {t L Mm : Nat → Nat} {S6 S7 : Nat} : ∀ {j : Nat}, j < 7 → (upd (upd (upd (upd (upd (upd (upd (upd (upd (upd (upd (upd (upd (upd (upd t 0 (L 0)) 1 (L 1)) 2 (L 2)) 3 (L 3)) 4 (L 4)) 5 (L 5)) 6 S6) 7 S7) 0 (Mm 0)) 1 (Mm 1)) 2 (Mm 2)) 3 (Mm 3)) 4 (Mm 4)) 5 (Mm 5)) 6 (Mm 6)) j = Mm j
  | 0, _ => rfl
  | 1, _ => rfl
  | 2, _ => rfl
  | 3, _ => rfl
  | 4, _ => rfl
  | 5, _ => rfl
  | 6, _ => rfl
  | j + 7, h => by omega

theorem okMont : (CallC.rd (CM fMont)).Ok Try.prog 52 := by
  refine CM_ok Try.func52 (by kernel_rfl) (by kernel_rfl) fun n l w rest pre v e hp => ?_
  unfold fMont at e
  split at e
  · rename_i a b
    cases e
    have hM : ModI n l w := hp _ (List.mem_cons_self ..)
    have hAB : nv a < nv n ∨ nv b < nv n := hp _ (List.mem_cons_of_mem _ (List.mem_cons_self ..))
    refine ⟨rfl, rfl, fun y => ?_⟩
    refine loopF mixed tt_ok GMt_ok (by kernel_rfl) (ι := {x // InvMt n a b x}) [0,4,5,6,7,20] 157 5 (fun x => VMt x.1.1) (fun x => HMt y n l w a b x.1.2) (fun x => 6 - x.1.1) (fun x => x.1.1 = 6)
      (fun _ => rfl) (fun _ => by kernel_rfl) (fun _ => Dm_one) 100 [] ?_ ?_ ?_
    · refine same (p := true = true ∧ ∃ j : {x // InvMt n a b x}, VMt 0 = VMt j.1.1 ∧ HMt y n l w a b (fun _ => 0) = HMt y n l w a b j.1.2) ?_ (by kernel_rfl)
      exact ⟨rfl, ⟨(0, fun _ => 0), by simp, 0, by simp [sB], by simp⟩, rfl, rfl⟩
    · intro ⟨⟨i, t⟩, hi, Q, hT, hQ⟩ junk
      simp only at hi hT hQ
      by_cases h6 : i < 6
      · obtain ⟨C, hC⟩ : ∃ C : Nat → Nat, C = crow (a i) b t := ⟨_, rfl⟩
        obtain ⟨L, hL⟩ : ∃ L : Nat → Nat, L = fun k => mLo (a i) (b k) (t k) (C k) := ⟨_, rfl⟩
        obtain ⟨S6, hS6⟩ : ∃ x, x = t 6 + C 6 + 0 := ⟨_, rfl⟩
        obtain ⟨S7, hS7⟩ : ∃ x, x = (t 6 % W + C 6 % W + 0 % W) / W := ⟨_, rfl⟩
        obtain ⟨q, hq⟩ : ∃ x, x = L 0 * l := ⟨_, rfl⟩
        obtain ⟨D, hD⟩ : ∃ D : Nat → Nat, D = drow q n L := ⟨_, rfl⟩
        obtain ⟨Mm, hMm⟩ : ∃ M : Nat → Nat, M = mrow q n L D S6 S7 := ⟨_, rfl⟩
        obtain ⟨cc, hcc⟩ : ∃ x, x = (S6 % W + D 6 % W + 0 % W) / W := ⟨_, rfl⟩
        refine roundF mixed tt_ok GMt_ok 100 [⟨3,0,.lit (.bo true)⟩, ⟨9,1,.sym⟩, ⟨9,2,.sym⟩, ⟨12,4,.lit (.w .u64 (L 0))⟩, ⟨13,2,.lit (.w .u64 (C 1))⟩, ⟨9,1,.sym⟩, ⟨9,2,.sym⟩, ⟨12,4,.lit (.w .u64 (L 1))⟩, ⟨13,2,.lit (.w .u64 (C 2))⟩, ⟨9,1,.sym⟩, ⟨9,2,.sym⟩, ⟨12,4,.lit (.w .u64 (L 2))⟩, ⟨13,2,.lit (.w .u64 (C 3))⟩, ⟨9,1,.sym⟩, ⟨9,2,.sym⟩, ⟨12,4,.lit (.w .u64 (L 3))⟩, ⟨13,2,.lit (.w .u64 (C 4))⟩, ⟨9,1,.sym⟩, ⟨9,2,.sym⟩, ⟨12,4,.lit (.w .u64 (L 4))⟩, ⟨13,2,.lit (.w .u64 (C 5))⟩, ⟨9,1,.sym⟩, ⟨9,2,.sym⟩, ⟨12,4,.lit (.w .u64 (L 5))⟩, ⟨13,2,.lit (.w .u64 (C 6))⟩, ⟨16,5,.lit (.w .u64 S6)⟩, ⟨16,6,.lit (.w .u64 S7)⟩, ⟨18,6,.lit (.w .u64 q)⟩, ⟨21,2,.lit (.w .u64 (D 1))⟩, ⟨28,4,.lit (.w .u64 (Mm 0))⟩, ⟨29,2,.lit (.w .u64 (D 2))⟩, ⟨28,4,.lit (.w .u64 (Mm 1))⟩, ⟨29,2,.lit (.w .u64 (D 3))⟩, ⟨28,4,.lit (.w .u64 (Mm 2))⟩, ⟨29,2,.lit (.w .u64 (D 4))⟩, ⟨28,4,.lit (.w .u64 (Mm 3))⟩, ⟨29,2,.lit (.w .u64 (D 5))⟩, ⟨28,4,.lit (.w .u64 (Mm 4))⟩, ⟨29,2,.lit (.w .u64 (D 6))⟩, ⟨31,5,.lit (.w .u64 (Mm 5))⟩, ⟨31,6,.lit (.w .u64 cc)⟩, ⟨32,3,.lit (.w .u64 (Mm 6))⟩, ⟨33,0,.lit (.it (Int.ofNat (i+1)))⟩] ?_
        have next : ∃ j : {x // InvMt n a b x}, 6 - j.1.1 < 6 - i ∧ VMt (i + 1) = VMt j.1.1 ∧ HMt y n l w a b (upd (upd (upd (upd (upd (upd (upd (upd (upd (upd (upd (upd (upd (upd (upd t 0 (L 0)) 1 (L 1)) 2 (L 2)) 3 (L 3)) 4 (L 4)) 5 (L 5)) 6 S6) 7 S7) 0 (Mm 0)) 1 (Mm 1)) 2 (Mm 2)) 3 (Mm 3)) 4 (Mm 4)) 5 (Mm 5)) 6 (Mm 6)) = HMt y n l w a b j.1.2 := by
          refine ⟨⟨(i + 1, (upd (upd (upd (upd (upd (upd (upd (upd (upd (upd (upd (upd (upd (upd (upd t 0 (L 0)) 1 (L 1)) 2 (L 2)) 3 (L 3)) 4 (L 4)) 5 (L 5)) 6 S6) 7 S7) 0 (Mm 0)) 1 (Mm 1)) 2 (Mm 2)) 3 (Mm 3)) 4 (Mm 4)) 5 (Mm 5)) 6 (Mm 6))), by simp only; omega, ?_⟩, by simp only; omega, rfl, rfl⟩
          simp only
          obtain ⟨T2, e1, e2⟩ := mont_row hM.low hC hL hS6 hS7 hq hD hMm hcc
          have e3 : sB W (upd (upd (upd (upd (upd (upd (upd (upd (upd (upd (upd (upd (upd (upd (upd t 0 (L 0)) 1 (L 1)) 2 (L 2)) 3 (L 3)) 4 (L 4)) 5 (L 5)) 6 S6) 7 S7) 0 (Mm 0)) 1 (Mm 1)) 2 (Mm 2)) 3 (Mm 3)) 4 (Mm 4)) 5 (Mm 5)) 6 (Mm 6)) 7 = T2 := by rw [e1]; exact sB7 (fun j hj => mont_upd hj)
          rw [e3]
          have := mont_round (N := nv n) (B := nv b) (x := a i % W) (i := i) rfl e2 hT hQ (Nat.mod_lt _ (by decide))
          exact ⟨_, by rw [show sB W a (i + 1) = sB W a i + W ^ i * (a i % W) from rfl]; exact this.1, this.2⟩
        have z1 : 0 % W ≤ 1 := by decide
        refine same (p := ilt (Int.ofNat i) 6 = true ∧ ix i 6 (0 % W ≤ 1 ∧ 0 % W ≤ 1 ∧ mLo (a i) (b 0) (t 0) 0 = L 0 ∧ mHi (a i) (b 0) (t 0) 0 = C 1 ∧ ix i 6 (0 % W ≤ 1 ∧ 0 % W ≤ 1 ∧ mLo (a i) (b 1) (t 1) (C 1) = L 1 ∧ mHi (a i) (b 1) (t 1) (C 1) = C 2 ∧ ix i 6 (0 % W ≤ 1 ∧ 0 % W ≤ 1 ∧ mLo (a i) (b 2) (t 2) (C 2) = L 2 ∧ mHi (a i) (b 2) (t 2) (C 2) = C 3 ∧ ix i 6 (0 % W ≤ 1 ∧ 0 % W ≤ 1 ∧ mLo (a i) (b 3) (t 3) (C 3) = L 3 ∧ mHi (a i) (b 3) (t 3) (C 3) = C 4 ∧ ix i 6 (0 % W ≤ 1 ∧ 0 % W ≤ 1 ∧ mLo (a i) (b 4) (t 4) (C 4) = L 4 ∧ mHi (a i) (b 4) (t 4) (C 4) = C 5 ∧ ix i 6 (0 % W ≤ 1 ∧ 0 % W ≤ 1 ∧ mLo (a i) (b 5) (t 5) (C 5) = L 5 ∧ mHi (a i) (b 5) (t 5) (C 5) = C 6 ∧ 0 % W ≤ 1 ∧ t 6 + C 6 + 0 = S6 ∧ (t 6 % W + C 6 % W + 0 % W) / W = S7 ∧ L 0 * l = q ∧ 0 % W ≤ 1 ∧ q % W * (n 0 % W) / W + (q * n 0 % W + L 0 % W + 0 % W) / W = D 1 ∧ 0 % W ≤ 1 ∧ 0 % W ≤ 1 ∧ mLo q (n 1) (L 1) (D 1) = Mm 0 ∧ mHi q (n 1) (L 1) (D 1) = D 2 ∧ 0 % W ≤ 1 ∧ 0 % W ≤ 1 ∧ mLo q (n 2) (L 2) (D 2) = Mm 1 ∧ mHi q (n 2) (L 2) (D 2) = D 3 ∧ 0 % W ≤ 1 ∧ 0 % W ≤ 1 ∧ mLo q (n 3) (L 3) (D 3) = Mm 2 ∧ mHi q (n 3) (L 3) (D 3) = D 4 ∧ 0 % W ≤ 1 ∧ 0 % W ≤ 1 ∧ mLo q (n 4) (L 4) (D 4) = Mm 3 ∧ mHi q (n 4) (L 4) (D 4) = D 5 ∧ 0 % W ≤ 1 ∧ 0 % W ≤ 1 ∧ mLo q (n 5) (L 5) (D 5) = Mm 4 ∧ mHi q (n 5) (L 5) (D 5) = D 6 ∧ 0 % W ≤ 1 ∧ S6 + D 6 + 0 = Mm 5 ∧ (S6 % W + D 6 % W + 0 % W) / W = cc ∧ S7 + cc = Mm 6 ∧ wrapI (Int.ofNat i + 1) = Int.ofNat (i + 1) ∧ true = true ∧ ∃ j : {x // InvMt n a b x}, 6 - j.1.1 < 6 - i ∧ VMt (i + 1) = VMt j.1.1 ∧ HMt y n l w a b (upd (upd (upd (upd (upd (upd (upd (upd (upd (upd (upd (upd (upd (upd (upd t 0 (L 0)) 1 (L 1)) 2 (L 2)) 3 (L 3)) 4 (L 4)) 5 (L 5)) 6 S6) 7 S7) 0 (Mm 0)) 1 (Mm 1)) 2 (Mm 2)) 3 (Mm 3)) 4 (Mm 4)) 5 (Mm 5)) 6 (Mm 6)) = HMt y n l w a b j.1.2))))))) ?_ (by kernel_rfl)
        subst hC hL hS6 hS7 hq hD hMm hcc
        exact ⟨ilt_t h6, ix_of h6 ⟨z1, ⟨z1, ⟨rfl, ⟨rfl, ix_of h6 ⟨z1, ⟨z1, ⟨rfl, ⟨rfl, ix_of h6 ⟨z1, ⟨z1, ⟨rfl, ⟨rfl, ix_of h6 ⟨z1, ⟨z1, ⟨rfl, ⟨rfl, ix_of h6 ⟨z1, ⟨z1, ⟨rfl, ⟨rfl, ix_of h6 ⟨z1, ⟨z1, ⟨rfl, ⟨rfl, ⟨z1, ⟨rfl, ⟨rfl, ⟨rfl, ⟨z1, ⟨rfl, ⟨z1, ⟨z1, ⟨rfl, ⟨rfl, ⟨z1, ⟨z1, ⟨rfl, ⟨rfl, ⟨z1, ⟨z1, ⟨rfl, ⟨rfl, ⟨z1, ⟨z1, ⟨rfl, ⟨rfl, ⟨z1, ⟨z1, ⟨rfl, ⟨rfl, ⟨z1, ⟨rfl, ⟨rfl, ⟨rfl, ⟨wrapI_succ (by omega), ⟨rfl, next⟩⟩⟩⟩⟩⟩⟩⟩⟩⟩⟩⟩⟩⟩⟩⟩⟩⟩⟩⟩⟩⟩⟩⟩⟩⟩⟩⟩⟩⟩⟩⟩⟩⟩⟩⟩⟩⟩⟩⟩⟩⟩⟩⟩⟩⟩⟩⟩⟩⟩⟩⟩⟩⟩⟩⟩⟩
      · have : i = 6 := by omega
        subst this
        refine roundF mixed tt_ok GMt_ok 100 [] ?_
        refine same (p := true = true ∧ ∃ j : {x // InvMt n a b x}, j.1.1 = 6 ∧ VMt 6 = VMt j.1.1 ∧ HMt y n l w a b t = HMt y n l w a b j.1.2) ?_ (by kernel_rfl)
        exact ⟨rfl, ⟨(6, t), hi, Q, hT, hQ⟩, rfl, rfl, rfl⟩
    · intro ⟨⟨i, t⟩, hi, Q, hT, hQ⟩ junk h6
      simp only at hi hT hQ h6
      subst h6
      refine same (p := some (mB y n l w) = some (mB y n l w) ∧ ∃ v', some (numA (lessV (nv n) (nv t))) = some v' ∧ vokB v' = true ∧ ∀ ρ, v'.val ρ = (numA (montV (nv n) (nv a) (nv b))).val ρ) ?_ (by kernel_rfl)
      refine ⟨rfl, _, rfl, rfl, fun ρ => ?_⟩
      rw [sB_W a 6, ← nv_nvn, ← R_eq] at hT
      rw [← R_eq] at hQ
      obtain ⟨h1, h2⟩ := mont_end hM.odd hM.pos (nv_lt a) (nv_lt b) hAB hQ hT
      have h7 := sB7_nv (t := t) (Nat.lt_of_lt_of_le h1 (by have := hM.small; omega))
      rw [h7] at h2
      unfold lessV
      rw [h2]
  · cases e
end Go.Proofs.Ytcmaecfpggmcoaa
