/- Lists of bytes that stand apart: three of them. Printed by genv17.py. -/
import Derived.Test.YtiaongfgkmbaaaaV16
namespace Go.Proofs.Ytiaongfgkmbaaaa
open Go.Rq Go
set_option linter.unusedVariables false
set_option linter.unusedSimpArgs false
theorem eqStr_self {n : Nat} {f : Nat → Nat} : eqStr n f n f = true := by
  unfold eqStr
  have : Nat.beq n n = true := by simp
  rw [this, cond_true, eqN_iff]
  exact fun _ _ => rfl
theorem lim63 {m : Nat} (h : m + 1 ≤ limN) : m + 1 < 9223372036854775807 := by unfold limN at h; omega
def gAp : List (Nat × CallC) := [(44, .mem cCopy), (45, .mem cOver), (16, .rd cSame)]
theorem gAp_ok : CtxOk Try.prog (ctxL gAp) := ctxL_cons okCopy <| ctxL_cons okOver <| ctxL_cons okSame ctxL_nil
theorem apart_walk {tl n0 n1 n2 m0 m1 m2 t0 t1 t2 : Nat} {f0 f1 f2 : Nat → Nat} (h0 : m0 + 1 ≤ limN) (h1 : m1 + 1 ≤ limN) (h2 : m2 + 1 ≤ limN) :
    AWqS Try.prog (Dm [some ⟨tl, [.one (.sl 1 0 n0 (m0 + 1)), .one (.sl 2 0 n1 (m1 + 1)), .one (.sl 3 0 n2 (m2 + 1))], 0, 0⟩, oB t0 (m0 + 1) f0, oB t1 (m1 + 1) f1, oB t2 (m2 + 1) f2]) (flatC (bodyOf Try.f18)) (FEndM tt Try.f18 [0,1,2,3] (.v1 (.sc (.bo true))) [some ⟨tl, [.one (.sl 1 0 n0 (m0 + 1)), .one (.sl 2 0 n1 (m1 + 1)), .one (.sl 3 0 n2 (m2 + 1))], 0, 0⟩, oB t0 (m0 + 1) f0, oB t1 (m1 + 1) f1, oB t2 (m2 + 1) f2]) ⟨frame0 [.v1 (.sc (.sl 0 0 3 3))] Try.f18.ntmps, [some ⟨tl, [.one (.sl 1 0 n0 (m0 + 1)), .one (.sl 2 0 n1 (m1 + 1)), .one (.sl 3 0 n2 (m2 + 1))], 0, 0⟩, oB t0 (m0 + 1) f0, oB t1 (m1 + 1) f1, oB t2 (m2 + 1) f2]⟩ := by
  have hb : ∀ m : Nat, Int.ofNat (m + 1) < ((m + 1 + 1 : Nat) : Int) := fun m => by simp only [Int.ofNat_eq_natCast]; omega
  refine evS_q mixed tt_ok gAp_ok 300 [⟨8,11,.sym⟩,⟨8,11,.sym⟩,⟨8,11,.sym⟩,⟨13,13,.sym⟩,⟨13,18,.lit (.bo true)⟩,⟨13,13,.sym⟩,⟨13,18,.lit (.bo true)⟩,⟨13,13,.sym⟩,⟨13,18,.lit (.bo true)⟩,⟨8,11,.sym⟩,⟨8,11,.sym⟩,⟨8,11,.sym⟩,⟨13,13,.sym⟩,⟨13,18,.lit (.bo true)⟩,⟨13,13,.sym⟩,⟨13,18,.lit (.bo true)⟩,⟨13,13,.sym⟩,⟨13,18,.lit (.bo true)⟩,⟨8,11,.sym⟩,⟨8,11,.sym⟩,⟨8,11,.sym⟩,⟨13,13,.sym⟩,⟨13,18,.lit (.bo true)⟩,⟨13,13,.sym⟩,⟨13,18,.lit (.bo true)⟩,⟨13,13,.sym⟩,⟨13,18,.lit (.bo true)⟩] (same (p := 0 ≤ Int.ofNat (m0 + 1) ∧ Int.ofNat (m0 + 1) < ((m0 + 1 + 1 : Nat) : Int) ∧ 0 + (m0 + 1) ≤ m0 + 1 ∧ m0 + 1 = m0 + 1 ∧ m0 + 1 ≤ limN ∧ 0 ≤ Int.ofNat (m1 + 1) ∧ Int.ofNat (m1 + 1) < ((m1 + 1 + 1 : Nat) : Int) ∧ 0 + (m1 + 1) ≤ m1 + 1 ∧ m1 + 1 = m1 + 1 ∧ m1 + 1 ≤ limN ∧ 0 ≤ Int.ofNat (m2 + 1) ∧ Int.ofNat (m2 + 1) < ((m2 + 1 + 1 : Nat) : Int) ∧ 0 + (m2 + 1) ≤ m2 + 1 ∧ m2 + 1 = m2 + 1 ∧ m2 + 1 ≤ limN ∧ m0 + 1 = m0 + 1 ∧ 0 < m0 + 1 ∧ m0 + 1 < 9223372036854775807 ∧ 0 ≤ Int.ofNat (m1 + 1) ∧ Int.ofNat (m1 + 1) < ((m1 + 1 + 1 : Nat) : Int) ∧ eqStr (m1 + 1) (fun j => f1 (addN 0 j)) (m1 + 1) (fun j => f1 (addN 0 j)) = true ∧ 0 + (m1 + 1) ≤ m1 + 1 ∧ m1 + 1 ≤ m1 + 1 ∧ 0 ≤ Int.ofNat (m2 + 1) ∧ Int.ofNat (m2 + 1) < ((m2 + 1 + 1 : Nat) : Int) ∧ eqStr (m2 + 1) (fun j => f2 (addN 0 j)) (m2 + 1) (fun j => f2 (addN 0 j)) = true ∧ 0 + (m2 + 1) ≤ m2 + 1 ∧ m2 + 1 ≤ m2 + 1 ∧ m0 + 1 = m0 + 1 ∧ 0 < m0 + 1 ∧ m0 + 1 < 9223372036854775807 ∧ 0 ≤ Int.ofNat (m0 + 1) ∧ Int.ofNat (m0 + 1) < ((m0 + 1 + 1 : Nat) : Int) ∧ 0 + (m0 + 1) ≤ m0 + 1 ∧ m0 + 1 = m0 + 1 ∧ m0 + 1 ≤ limN ∧ 0 ≤ Int.ofNat (m1 + 1) ∧ Int.ofNat (m1 + 1) < ((m1 + 1 + 1 : Nat) : Int) ∧ 0 + (m1 + 1) ≤ m1 + 1 ∧ m1 + 1 = m1 + 1 ∧ m1 + 1 ≤ limN ∧ 0 ≤ Int.ofNat (m2 + 1) ∧ Int.ofNat (m2 + 1) < ((m2 + 1 + 1 : Nat) : Int) ∧ 0 + (m2 + 1) ≤ m2 + 1 ∧ m2 + 1 = m2 + 1 ∧ m2 + 1 ≤ limN ∧ m1 + 1 = m1 + 1 ∧ 0 < m1 + 1 ∧ m1 + 1 < 9223372036854775807 ∧ 0 ≤ Int.ofNat (m0 + 1) ∧ Int.ofNat (m0 + 1) < ((m0 + 1 + 1 : Nat) : Int) ∧ eqStr (m0 + 1) (fun j => (ovF (ovF f0)) (addN 0 j)) (m0 + 1) (fun j => (ovF (ovF f0)) (addN 0 j)) = true ∧ 0 + (m0 + 1) ≤ m0 + 1 ∧ m0 + 1 ≤ m0 + 1 ∧ 0 ≤ Int.ofNat (m2 + 1) ∧ Int.ofNat (m2 + 1) < ((m2 + 1 + 1 : Nat) : Int) ∧ eqStr (m2 + 1) (fun j => f2 (addN 0 j)) (m2 + 1) (fun j => f2 (addN 0 j)) = true ∧ 0 + (m2 + 1) ≤ m2 + 1 ∧ m2 + 1 ≤ m2 + 1 ∧ m1 + 1 = m1 + 1 ∧ 0 < m1 + 1 ∧ m1 + 1 < 9223372036854775807 ∧ 0 ≤ Int.ofNat (m0 + 1) ∧ Int.ofNat (m0 + 1) < ((m0 + 1 + 1 : Nat) : Int) ∧ 0 + (m0 + 1) ≤ m0 + 1 ∧ m0 + 1 = m0 + 1 ∧ m0 + 1 ≤ limN ∧ 0 ≤ Int.ofNat (m1 + 1) ∧ Int.ofNat (m1 + 1) < ((m1 + 1 + 1 : Nat) : Int) ∧ 0 + (m1 + 1) ≤ m1 + 1 ∧ m1 + 1 = m1 + 1 ∧ m1 + 1 ≤ limN ∧ 0 ≤ Int.ofNat (m2 + 1) ∧ Int.ofNat (m2 + 1) < ((m2 + 1 + 1 : Nat) : Int) ∧ 0 + (m2 + 1) ≤ m2 + 1 ∧ m2 + 1 = m2 + 1 ∧ m2 + 1 ≤ limN ∧ m2 + 1 = m2 + 1 ∧ 0 < m2 + 1 ∧ m2 + 1 < 9223372036854775807 ∧ 0 ≤ Int.ofNat (m0 + 1) ∧ Int.ofNat (m0 + 1) < ((m0 + 1 + 1 : Nat) : Int) ∧ eqStr (m0 + 1) (fun j => (ovF (ovF f0)) (addN 0 j)) (m0 + 1) (fun j => (ovF (ovF f0)) (addN 0 j)) = true ∧ 0 + (m0 + 1) ≤ m0 + 1 ∧ m0 + 1 ≤ m0 + 1 ∧ 0 ≤ Int.ofNat (m1 + 1) ∧ Int.ofNat (m1 + 1) < ((m1 + 1 + 1 : Nat) : Int) ∧ eqStr (m1 + 1) (fun j => (ovF (ovF f1)) (addN 0 j)) (m1 + 1) (fun j => (ovF (ovF f1)) (addN 0 j)) = true ∧ 0 + (m1 + 1) ≤ m1 + 1 ∧ m1 + 1 ≤ m1 + 1 ∧ m2 + 1 = m2 + 1 ∧ 0 < m2 + 1 ∧ m2 + 1 < 9223372036854775807 ∧ endM [0,1,2,3] [some ⟨tl, [.one (.sl 1 0 n0 (m0 + 1)), .one (.sl 2 0 n1 (m1 + 1)), .one (.sl 3 0 n2 (m2 + 1))], 0, 0⟩, oB t0 (m0 + 1) (ovF (ovF f0)), oB t1 (m1 + 1) (ovF (ovF f1)), oB t2 (m2 + 1) (ovF (ovF f2))] [some ⟨tl, [.one (.sl 1 0 n0 (m0 + 1)), .one (.sl 2 0 n1 (m1 + 1)), .one (.sl 3 0 n2 (m2 + 1))], 0, 0⟩, oB t0 (m0 + 1) f0, oB t1 (m1 + 1) f1, oB t2 (m2 + 1) f2] (.v1 (.sc (.bo true))) (.v1 (.sc (.bo true)))) ?_ (by kernel_rfl))
  exact ⟨Int.natCast_nonneg _, hb m0, by omega, rfl, h0, Int.natCast_nonneg _, hb m1, by omega, rfl, h1, Int.natCast_nonneg _, hb m2, by omega, rfl, h2, rfl, by omega, lim63 h0, Int.natCast_nonneg _, hb m1, eqStr_self, by omega, Nat.le_refl _, Int.natCast_nonneg _, hb m2, eqStr_self, by omega, Nat.le_refl _, rfl, by omega, lim63 h0, Int.natCast_nonneg _, hb m0, by omega, rfl, h0, Int.natCast_nonneg _, hb m1, by omega, rfl, h1, Int.natCast_nonneg _, hb m2, by omega, rfl, h2, rfl, by omega, lim63 h1, Int.natCast_nonneg _, hb m0, eqStr_self, by omega, Nat.le_refl _, Int.natCast_nonneg _, hb m2, eqStr_self, by omega, Nat.le_refl _, rfl, by omega, lim63 h1, Int.natCast_nonneg _, hb m0, by omega, rfl, h0, Int.natCast_nonneg _, hb m1, by omega, rfl, h1, Int.natCast_nonneg _, hb m2, by omega, rfl, h2, rfl, by omega, lim63 h2, Int.natCast_nonneg _, hb m0, eqStr_self, by omega, Nat.le_refl _, Int.natCast_nonneg _, hb m1, eqStr_self, by omega, Nat.le_refl _, rfl, by omega, lim63 h2, by rw [ovF_ovF, ovF_ovF, ovF_ovF]; exact endM_same rfl rfl⟩
def cApart (args : List AV) (h : Heap) (_ : Nat) : Option (List Prop × AV × Heap) :=
  match args with
  | [.v1 (.sc (.sl l 0 3 3))] => match hget h l with
    | some ⟨tl, [.one (.sl b0 0 n0 c0), .one (.sl b1 0 n1 c1), .one (.sl b2 0 n2 c2)], 0, 0⟩ => match hget h b0, hget h b1, hget h b2 with
      | some ⟨t0, [.ws .u8 N0 f0], 0, 0⟩, some ⟨t1, [.ws .u8 N1 f1], 0, 0⟩, some ⟨t2, [.ws .u8 N2 f2], 0, 0⟩ => match nodupB [l, b0, b1, b2] with
        | true => some ([N0 = c0, 0 < c0, c0 ≤ limN, N1 = c1, 0 < c1, c1 ≤ limN, N2 = c2, 0 < c2, c2 ≤ limN], .v1 (.sc (.bo true)), h)
        | false => none
      | _, _, _ => none
    | _ => none
  | _ => none
theorem okApart : (CallC.mem cApart).Ok Try.prog 18 := by
  intro args h slot pre v h' e hp
  unfold cApart at e
  split at e
  rotate_left
  · cases e
  rename_i l
  split at e
  rotate_left
  · cases e
  rename_i tl b0 n0 c0 b1 n1 c1 b2 n2 c2 hl
  split at e
  rotate_left
  · cases e
  rename_i t0 N0 f0 t1 N1 f1 t2 N2 f2 g0 g1 g2
  split at e
  rotate_left
  · cases e
  rename_i hnd
  cases e
  have e0 : N0 = c0 := hp _ (by simp)
  have z0 : 0 < c0 := hp (0 < c0) (by simp)
  have l0 : c0 ≤ limN := hp (c0 ≤ limN) (by simp)
  have e1 : N1 = c1 := hp (N1 = c1) (by simp)
  have z1 : 0 < c1 := hp (0 < c1) (by simp)
  have l1 : c1 ≤ limN := hp (c1 ≤ limN) (by simp)
  have e2 : N2 = c2 := hp (N2 = c2) (by simp)
  have z2 : 0 < c2 := hp (0 < c2) (by simp)
  have l2 : c2 ≤ limN := hp (c2 ≤ limN) (by simp)
  subst e0; subst e1; subst e2
  obtain ⟨m0, rfl⟩ : ∃ m, N0 = m + 1 := ⟨N0 - 1, by omega⟩
  obtain ⟨m1, rfl⟩ : ∃ m, N1 = m + 1 := ⟨N1 - 1, by omega⟩
  obtain ⟨m2, rfl⟩ : ∃ m, N2 = m + 1 := ⟨N2 - 1, by omega⟩
  have ne : ∀ i j, i < 4 → j < 4 → i ≠ j → nthN [l, b0, b1, b2] i ≠ nthN [l, b0, b1, b2] j := fun i j hi hj hij e => hij (nodupB_spec hnd i j (by simpa using hi) (by simpa using hj) e)
  have n01 : b0 ≠ l := ne 1 0 (by omega) (by omega) (by omega)
  have n02 : b1 ≠ l := ne 2 0 (by omega) (by omega) (by omega)
  have n03 : b2 ≠ l := ne 3 0 (by omega) (by omega) (by omega)
  have n12 : b1 ≠ b0 := ne 2 1 (by omega) (by omega) (by omega)
  have n13 : b2 ≠ b0 := ne 3 1 (by omega) (by omega) (by omega)
  have n23 : b2 ≠ b1 := ne 3 2 (by omega) (by omega) (by omega)
  have beqf : ∀ {x y : Nat}, x ≠ y → Nat.beq x y = false := fun {x y} h => by rw [← Bool.not_eq_true, Nat.beq_eq]; exact h
  have k0 : bk [l, b0, b1, b2] l = 0 := by simp [bk, idxN]
  have k1 : bk [l, b0, b1, b2] b0 = 1 := by simp [bk, idxN, beqf n01]
  have k2 : bk [l, b0, b1, b2] b1 = 2 := by simp [bk, idxN, beqf n02, beqf n12]
  have k3 : bk [l, b0, b1, b2] b2 = 3 := by simp [bk, idxN, beqf n03, beqf n13, beqf n23]
  have hpk : pickH [l, b0, b1, b2] h [l, b0, b1, b2] = [some ⟨tl, [.one (.sl 1 0 n0 (m0 + 1)), .one (.sl 2 0 n1 (m1 + 1)), .one (.sl 3 0 n2 (m2 + 1))], 0, 0⟩, oB t0 (m0 + 1) f0, oB t1 (m1 + 1) f1, oB t2 (m2 + 1) f2] := by
    show [pickB [l, b0, b1, b2] (hget h l), pickB [l, b0, b1, b2] (hget h b0), pickB [l, b0, b1, b2] (hget h b1), pickB [l, b0, b1, b2] (hget h b2)] = _
    rw [hl, g0, g1, g2]
    simp only [pickB, bkBlk, bkCells, bkCell, bkSc, k1, k2, k3]
  have hchk : chkB [l, b0, b1, b2] [some ⟨tl, [.one (.sl 1 0 n0 (m0 + 1)), .one (.sl 2 0 n1 (m1 + 1)), .one (.sl 3 0 n2 (m2 + 1))], 0, 0⟩, oB t0 (m0 + 1) f0, oB t1 (m1 + 1) f1, oB t2 (m2 + 1) f2] = true := by
    unfold chkB
    rw [hnd]; rfl
  have hlv : ∀ i, i < 4 → Lv [some ⟨tl, [.one (.sl 1 0 n0 (m0 + 1)), .one (.sl 2 0 n1 (m1 + 1)), .one (.sl 3 0 n2 (m2 + 1))], 0, 0⟩, oB t0 (m0 + 1) f0, oB t1 (m1 + 1) f1, oB t2 (m2 + 1) f2] i := fun i hi => by
    have : i = 0 ∨ i = 1 ∨ i = 2 ∨ i = 3 := by omega
    rcases this with rfl | rfl | rfl | rfl <;> exact ⟨_, rfl, by simp⟩
  refine mem_walk tt_ok Try.func18 (by kernel_rfl) (by kernel_rfl) [l, b0, b1, b2] [] 0 [some ⟨tl, [.one (.sl 1 0 n0 (m0 + 1)), .one (.sl 2 0 n1 (m1 + 1)), .one (.sl 3 0 n2 (m2 + 1))], 0, 0⟩, oB t0 (m0 + 1) f0, oB t1 (m1 + 1) f1, oB t2 (m2 + 1) f2] [some ⟨tl, [.one (.sl 1 0 n0 (m0 + 1)), .one (.sl 2 0 n1 (m1 + 1)), .one (.sl 3 0 n2 (m2 + 1))], 0, 0⟩, oB t0 (m0 + 1) f0, oB t1 (m1 + 1) f1, oB t2 (m2 + 1) f2] (args' := [.v1 (.sc (.sl 0 0 3 3))]) (vK := .v1 (.sc (.bo true)))
    hchk hpk (by kernel_rfl) ?_ (by kernel_rfl) hlv (by kernel_rfl) (by kernel_rfl) (fun i hi => (hlv i (by simpa using hi)).dm) hchk hpk rfl (fun t ht => by simp at ht) (fun _ _ _ => rfl) (apart_walk l0 l1 l2)
  show [AV.v1 (.sc (.sl (bk [l, b0, b1, b2] l) 0 3 3))] = _
  rw [k0]
end Go.Proofs.Ytiaongfgkmbaaaa
