/- Lists of bytes that stand apart; few. Printed by genc20.py. -/
import Derived.Test.YtndmoidenbfflaaC19
namespace Go.Proofs.Ytndmoidenbfflaa
open Go.Rq Go
set_option linter.unusedVariables false
set_option linter.unusedSimpArgs false
set_option maxRecDepth 100000
set_option maxHeartbeats 4000000
theorem eqStr_self {n : Nat} {f : Nat → Nat} : eqStr n f n f = true := by
  unfold eqStr
  have : Nat.beq n n = true := by simp
  rw [this, cond_true, eqN_iff]
  exact fun _ _ => rfl
theorem lim63 {m : Nat} (h : m + 1 ≤ limN) : m + 1 < 9223372036854775807 := by unfold limN at h; omega
/-! CopyBytes and OverBytes, of empty ones, too -/
def cCopyX (args : List AV) (h : Heap) (slot : Nat) : Option (List Prop × AV × Heap) :=
  match args with
  | [.v1 (.sc (.rw (.slice none 0 0)))] => match isHole h slot with
    | true => some ([], .v1 (.sc (.sl slot 0 0 0)), hset h slot ⟨5, [.ws .u8 0 (fun _ => 0)], 0, 0⟩)
    | false => none
  | args => cCopy args h slot
theorem okCopyX : (CallC.mem cCopyX).Ok Try.prog 25 := by
  intro args h slot pre v h' e hp
  unfold cCopyX at e
  split at e
  · split at e
    rotate_left
    · cases e
    rename_i hh
    cases e
    refine views_call tt_ok Try.func25 (by kernel_rfl) (by kernel_rfl) [.pl nilS] (args := [nilS])
      ⟨⟨rfl, rfl⟩, trivial⟩ slot [⟨5, [.ws .u8 0 (fun _ => 0)], 0, 0⟩] (.v1 (.sc (.sl 0 0 0 0))) rfl rfl rfl (fun t ht => by
        have : t = 0 := by simpa using ht
        subst this; exact hh) fun a Wn hi => ⟨[0], rfl, ?_⟩
    rcases hi with _ | hi | _ | _ | _
    cases hi
    exact evS_q mixed tt_ok (G := ctxL []) ctxL_nil 40 [] (same (p := endM [0] [some ⟨5, [.ws .u8 0 (fun _ => 0)], 0, 0⟩] [some ⟨5, [.ws .u8 0 (fun _ => 0)], 0, 0⟩] (.v1 (.sc (.sl 0 0 0 0))) (.v1 (.sc (.sl 0 0 0 0)))) (endM_ok (simH_refl _) rfl fun _ => rfl) (by kernel_rfl))
  · exact okCopy _ h slot pre v h' e hp
def cOverX (args : List AV) (h : Heap) (slot : Nat) : Option (List Prop × AV × Heap) :=
  match args with
  | [.v1 (.sc (.rw (.slice none 0 0)))] => some ([], .tup [], h)
  | [.v1 (.sc (.sl b 0 n c))] => match c with
    | 0 => match hget h b with
      | some ⟨_, [.ws .u8 0 _], 0, 0⟩ => some ([], .tup [], h)
      | _ => none
    | c + 1 => cOver [.v1 (.sc (.sl b 0 n (c + 1)))] h slot
  | _ => none
theorem okOverX : (CallC.mem cOverX).Ok Try.prog 35 := by
  intro args h slot pre v h' e hp
  unfold cOverX at e
  split at e
  · cases e
    refine views_call tt_ok Try.func35 (by kernel_rfl) (by kernel_rfl) [.pl nilS] (args := [nilS])
      ⟨⟨rfl, rfl⟩, trivial⟩ 0 [] (.tup []) rfl rfl rfl (fun t ht => by simp at ht) fun a Wn hi => ⟨[], rfl, ?_⟩
    rcases hi with _ | hi | _ | _ | _
    cases hi
    exact evS_q mixed tt_ok (G := ctxL []) ctxL_nil 40 [] (same (p := endM [] [] [] (.tup []) (.tup [])) (endM_same rfl rfl) (by kernel_rfl))
  · rename_i b n c
    split at e
    rotate_left
    · exact okOver _ h slot pre v h' e hp
    split at e
    rotate_left
    · cases e
    rename_i t f hb
    cases e
    have hpk : pickH [b] h [b] = [oB t 0 f] := by
      show [pickB [b] (hget h b)] = _
      rw [hb]; rfl
    have hbk : bk [b] b = 0 := by simp [bk, idxN]
    have hlv : ∀ i, i < 1 → Lv [oB t 0 f] i := fun i hi => by
      have : i = 0 := by omega
      subst this; exact ⟨_, rfl, by simp⟩
    refine mem_walk tt_ok Try.func35 (by kernel_rfl) (by kernel_rfl) [b] [] 0 [oB t 0 f] [oB t 0 f] (args' := [.v1 (.sc (.sl 0 0 n 0))]) (vK := .tup [])
      (by kernel_rfl) hpk (by kernel_rfl) ?_ (by kernel_rfl) hlv (by kernel_rfl) (by kernel_rfl) (fun i hi => by
        have : i = 0 := by simpa using hi
        subst this; exact ⟨_, rfl⟩) (by kernel_rfl) hpk rfl (fun t ht => by simp at ht) (fun _ _ _ => rfl)
      (evS_q mixed tt_ok (G := ctxL []) ctxL_nil 40 [] (same (p := endM [0] [oB t 0 f] [oB t 0 f] (.tup []) (.tup [])) (endM_same rfl rfl) (by kernel_rfl)))
    show [AV.v1 (.sc (.sl (bk [b] b) 0 n 0))] = _
    rw [hbk]
  · cases e
def gAp : List (Nat × CallC) := [(25, .mem cCopyX), (35, .mem cOverX), (15, .rd cSame)]
theorem gAp_ok : CtxOk Try.prog (ctxL gAp) := ctxL_cons okCopyX <| ctxL_cons okOverX <| ctxL_cons okSame ctxL_nil
theorem beqf {x y : Nat} (h : x ≠ y) : Nat.beq x y = false := by rw [← Bool.not_eq_true, Nat.beq_eq]; exact h
/-! SSSSS -/
theorem apWalkSSSSS {tl n0 m0 t0 n1 m1 t1 n2 m2 t2 n3 m3 t3 n4 m4 t4 : Nat} {f0 f1 f2 f3 f4 : Nat → Nat} (h0 : m0 + 1 ≤ limN) (h1 : m1 + 1 ≤ limN) (h2 : m2 + 1 ≤ limN) (h3 : m3 + 1 ≤ limN) (h4 : m4 + 1 ≤ limN) :
    AWqS Try.prog (Dm [some ⟨tl, [.one (.sl 1 0 n0 (m0 + 1)), .one (.sl 2 0 n1 (m1 + 1)), .one (.sl 3 0 n2 (m2 + 1)), .one (.sl 4 0 n3 (m3 + 1)), .one (.sl 5 0 n4 (m4 + 1))], 0, 0⟩, oB t0 (m0 + 1) f0, oB t1 (m1 + 1) f1, oB t2 (m2 + 1) f2, oB t3 (m3 + 1) f3, oB t4 (m4 + 1) f4]) (flatC (bodyOf Try.f17)) (FEndM tt Try.f17 [0,1,2,3,4,5] (.v1 (.sc (.bo true))) [some ⟨tl, [.one (.sl 1 0 n0 (m0 + 1)), .one (.sl 2 0 n1 (m1 + 1)), .one (.sl 3 0 n2 (m2 + 1)), .one (.sl 4 0 n3 (m3 + 1)), .one (.sl 5 0 n4 (m4 + 1))], 0, 0⟩, oB t0 (m0 + 1) f0, oB t1 (m1 + 1) f1, oB t2 (m2 + 1) f2, oB t3 (m3 + 1) f3, oB t4 (m4 + 1) f4]) ⟨frame0 [.v1 (.sc (.sl 0 0 5 5))] Try.f17.ntmps, [some ⟨tl, [.one (.sl 1 0 n0 (m0 + 1)), .one (.sl 2 0 n1 (m1 + 1)), .one (.sl 3 0 n2 (m2 + 1)), .one (.sl 4 0 n3 (m3 + 1)), .one (.sl 5 0 n4 (m4 + 1))], 0, 0⟩, oB t0 (m0 + 1) f0, oB t1 (m1 + 1) f1, oB t2 (m2 + 1) f2, oB t3 (m3 + 1) f3, oB t4 (m4 + 1) f4]⟩ := by
  have hb : ∀ m : Nat, Int.ofNat (m + 1) < ((m + 1 + 1 : Nat) : Int) := fun m => by simp only [Int.ofNat_eq_natCast]; omega
  refine evS_q mixed tt_ok gAp_ok 900 [⟨8,11,.sym⟩,⟨8,11,.sym⟩,⟨8,11,.sym⟩,⟨8,11,.sym⟩,⟨8,11,.sym⟩,⟨13,13,.sym⟩,⟨13,18,.lit (.bo true)⟩,⟨13,13,.sym⟩,⟨13,18,.lit (.bo true)⟩,⟨13,13,.sym⟩,⟨13,18,.lit (.bo true)⟩,⟨13,13,.sym⟩,⟨13,18,.lit (.bo true)⟩,⟨13,13,.sym⟩,⟨13,18,.lit (.bo true)⟩,⟨8,11,.sym⟩,⟨8,11,.sym⟩,⟨8,11,.sym⟩,⟨8,11,.sym⟩,⟨8,11,.sym⟩,⟨13,13,.sym⟩,⟨13,18,.lit (.bo true)⟩,⟨13,13,.sym⟩,⟨13,18,.lit (.bo true)⟩,⟨13,13,.sym⟩,⟨13,18,.lit (.bo true)⟩,⟨13,13,.sym⟩,⟨13,18,.lit (.bo true)⟩,⟨13,13,.sym⟩,⟨13,18,.lit (.bo true)⟩,⟨8,11,.sym⟩,⟨8,11,.sym⟩,⟨8,11,.sym⟩,⟨8,11,.sym⟩,⟨8,11,.sym⟩,⟨13,13,.sym⟩,⟨13,18,.lit (.bo true)⟩,⟨13,13,.sym⟩,⟨13,18,.lit (.bo true)⟩,⟨13,13,.sym⟩,⟨13,18,.lit (.bo true)⟩,⟨13,13,.sym⟩,⟨13,18,.lit (.bo true)⟩,⟨13,13,.sym⟩,⟨13,18,.lit (.bo true)⟩,⟨8,11,.sym⟩,⟨8,11,.sym⟩,⟨8,11,.sym⟩,⟨8,11,.sym⟩,⟨8,11,.sym⟩,⟨13,13,.sym⟩,⟨13,18,.lit (.bo true)⟩,⟨13,13,.sym⟩,⟨13,18,.lit (.bo true)⟩,⟨13,13,.sym⟩,⟨13,18,.lit (.bo true)⟩,⟨13,13,.sym⟩,⟨13,18,.lit (.bo true)⟩,⟨13,13,.sym⟩,⟨13,18,.lit (.bo true)⟩,⟨8,11,.sym⟩,⟨8,11,.sym⟩,⟨8,11,.sym⟩,⟨8,11,.sym⟩,⟨8,11,.sym⟩,⟨13,13,.sym⟩,⟨13,18,.lit (.bo true)⟩,⟨13,13,.sym⟩,⟨13,18,.lit (.bo true)⟩,⟨13,13,.sym⟩,⟨13,18,.lit (.bo true)⟩,⟨13,13,.sym⟩,⟨13,18,.lit (.bo true)⟩,⟨13,13,.sym⟩,⟨13,18,.lit (.bo true)⟩] (same (p := 0 ≤ Int.ofNat (m0 + 1) ∧ Int.ofNat (m0 + 1) < ((m0 + 1 + 1 : Nat) : Int) ∧ 0 + (m0 + 1) ≤ m0 + 1 ∧ m0 + 1 = m0 + 1 ∧ m0 + 1 ≤ limN ∧ 0 ≤ Int.ofNat (m1 + 1) ∧ Int.ofNat (m1 + 1) < ((m1 + 1 + 1 : Nat) : Int) ∧ 0 + (m1 + 1) ≤ m1 + 1 ∧ m1 + 1 = m1 + 1 ∧ m1 + 1 ≤ limN ∧ 0 ≤ Int.ofNat (m2 + 1) ∧ Int.ofNat (m2 + 1) < ((m2 + 1 + 1 : Nat) : Int) ∧ 0 + (m2 + 1) ≤ m2 + 1 ∧ m2 + 1 = m2 + 1 ∧ m2 + 1 ≤ limN ∧ 0 ≤ Int.ofNat (m3 + 1) ∧ Int.ofNat (m3 + 1) < ((m3 + 1 + 1 : Nat) : Int) ∧ 0 + (m3 + 1) ≤ m3 + 1 ∧ m3 + 1 = m3 + 1 ∧ m3 + 1 ≤ limN ∧ 0 ≤ Int.ofNat (m4 + 1) ∧ Int.ofNat (m4 + 1) < ((m4 + 1 + 1 : Nat) : Int) ∧ 0 + (m4 + 1) ≤ m4 + 1 ∧ m4 + 1 = m4 + 1 ∧ m4 + 1 ≤ limN ∧ m0 + 1 = m0 + 1 ∧ 0 < m0 + 1 ∧ m0 + 1 < 9223372036854775807 ∧ 0 ≤ Int.ofNat (m1 + 1) ∧ Int.ofNat (m1 + 1) < ((m1 + 1 + 1 : Nat) : Int) ∧ eqStr (m1 + 1) (fun j => f1 (addN 0 j)) (m1 + 1) (fun j => f1 (addN 0 j)) = true ∧ 0 + (m1 + 1) ≤ m1 + 1 ∧ m1 + 1 ≤ m1 + 1 ∧ m1 + 1 ≤ m1 + 1 ∧ 0 ≤ Int.ofNat (m2 + 1) ∧ Int.ofNat (m2 + 1) < ((m2 + 1 + 1 : Nat) : Int) ∧ eqStr (m2 + 1) (fun j => f2 (addN 0 j)) (m2 + 1) (fun j => f2 (addN 0 j)) = true ∧ 0 + (m2 + 1) ≤ m2 + 1 ∧ m2 + 1 ≤ m2 + 1 ∧ m2 + 1 ≤ m2 + 1 ∧ 0 ≤ Int.ofNat (m3 + 1) ∧ Int.ofNat (m3 + 1) < ((m3 + 1 + 1 : Nat) : Int) ∧ eqStr (m3 + 1) (fun j => f3 (addN 0 j)) (m3 + 1) (fun j => f3 (addN 0 j)) = true ∧ 0 + (m3 + 1) ≤ m3 + 1 ∧ m3 + 1 ≤ m3 + 1 ∧ m3 + 1 ≤ m3 + 1 ∧ 0 ≤ Int.ofNat (m4 + 1) ∧ Int.ofNat (m4 + 1) < ((m4 + 1 + 1 : Nat) : Int) ∧ eqStr (m4 + 1) (fun j => f4 (addN 0 j)) (m4 + 1) (fun j => f4 (addN 0 j)) = true ∧ 0 + (m4 + 1) ≤ m4 + 1 ∧ m4 + 1 ≤ m4 + 1 ∧ m4 + 1 ≤ m4 + 1 ∧ m0 + 1 = m0 + 1 ∧ 0 < m0 + 1 ∧ m0 + 1 < 9223372036854775807 ∧ 0 ≤ Int.ofNat (m0 + 1) ∧ Int.ofNat (m0 + 1) < ((m0 + 1 + 1 : Nat) : Int) ∧ 0 + (m0 + 1) ≤ m0 + 1 ∧ m0 + 1 = m0 + 1 ∧ m0 + 1 ≤ limN ∧ 0 ≤ Int.ofNat (m1 + 1) ∧ Int.ofNat (m1 + 1) < ((m1 + 1 + 1 : Nat) : Int) ∧ 0 + (m1 + 1) ≤ m1 + 1 ∧ m1 + 1 = m1 + 1 ∧ m1 + 1 ≤ limN ∧ 0 ≤ Int.ofNat (m2 + 1) ∧ Int.ofNat (m2 + 1) < ((m2 + 1 + 1 : Nat) : Int) ∧ 0 + (m2 + 1) ≤ m2 + 1 ∧ m2 + 1 = m2 + 1 ∧ m2 + 1 ≤ limN ∧ 0 ≤ Int.ofNat (m3 + 1) ∧ Int.ofNat (m3 + 1) < ((m3 + 1 + 1 : Nat) : Int) ∧ 0 + (m3 + 1) ≤ m3 + 1 ∧ m3 + 1 = m3 + 1 ∧ m3 + 1 ≤ limN ∧ 0 ≤ Int.ofNat (m4 + 1) ∧ Int.ofNat (m4 + 1) < ((m4 + 1 + 1 : Nat) : Int) ∧ 0 + (m4 + 1) ≤ m4 + 1 ∧ m4 + 1 = m4 + 1 ∧ m4 + 1 ≤ limN ∧ m1 + 1 = m1 + 1 ∧ 0 < m1 + 1 ∧ m1 + 1 < 9223372036854775807 ∧ 0 ≤ Int.ofNat (m0 + 1) ∧ Int.ofNat (m0 + 1) < ((m0 + 1 + 1 : Nat) : Int) ∧ eqStr (m0 + 1) (fun j => (ovF (ovF f0)) (addN 0 j)) (m0 + 1) (fun j => (ovF (ovF f0)) (addN 0 j)) = true ∧ 0 + (m0 + 1) ≤ m0 + 1 ∧ m0 + 1 ≤ m0 + 1 ∧ m0 + 1 ≤ m0 + 1 ∧ 0 ≤ Int.ofNat (m2 + 1) ∧ Int.ofNat (m2 + 1) < ((m2 + 1 + 1 : Nat) : Int) ∧ eqStr (m2 + 1) (fun j => f2 (addN 0 j)) (m2 + 1) (fun j => f2 (addN 0 j)) = true ∧ 0 + (m2 + 1) ≤ m2 + 1 ∧ m2 + 1 ≤ m2 + 1 ∧ m2 + 1 ≤ m2 + 1 ∧ 0 ≤ Int.ofNat (m3 + 1) ∧ Int.ofNat (m3 + 1) < ((m3 + 1 + 1 : Nat) : Int) ∧ eqStr (m3 + 1) (fun j => f3 (addN 0 j)) (m3 + 1) (fun j => f3 (addN 0 j)) = true ∧ 0 + (m3 + 1) ≤ m3 + 1 ∧ m3 + 1 ≤ m3 + 1 ∧ m3 + 1 ≤ m3 + 1 ∧ 0 ≤ Int.ofNat (m4 + 1) ∧ Int.ofNat (m4 + 1) < ((m4 + 1 + 1 : Nat) : Int) ∧ eqStr (m4 + 1) (fun j => f4 (addN 0 j)) (m4 + 1) (fun j => f4 (addN 0 j)) = true ∧ 0 + (m4 + 1) ≤ m4 + 1 ∧ m4 + 1 ≤ m4 + 1 ∧ m4 + 1 ≤ m4 + 1 ∧ m1 + 1 = m1 + 1 ∧ 0 < m1 + 1 ∧ m1 + 1 < 9223372036854775807 ∧ 0 ≤ Int.ofNat (m0 + 1) ∧ Int.ofNat (m0 + 1) < ((m0 + 1 + 1 : Nat) : Int) ∧ 0 + (m0 + 1) ≤ m0 + 1 ∧ m0 + 1 = m0 + 1 ∧ m0 + 1 ≤ limN ∧ 0 ≤ Int.ofNat (m1 + 1) ∧ Int.ofNat (m1 + 1) < ((m1 + 1 + 1 : Nat) : Int) ∧ 0 + (m1 + 1) ≤ m1 + 1 ∧ m1 + 1 = m1 + 1 ∧ m1 + 1 ≤ limN ∧ 0 ≤ Int.ofNat (m2 + 1) ∧ Int.ofNat (m2 + 1) < ((m2 + 1 + 1 : Nat) : Int) ∧ 0 + (m2 + 1) ≤ m2 + 1 ∧ m2 + 1 = m2 + 1 ∧ m2 + 1 ≤ limN ∧ 0 ≤ Int.ofNat (m3 + 1) ∧ Int.ofNat (m3 + 1) < ((m3 + 1 + 1 : Nat) : Int) ∧ 0 + (m3 + 1) ≤ m3 + 1 ∧ m3 + 1 = m3 + 1 ∧ m3 + 1 ≤ limN ∧ 0 ≤ Int.ofNat (m4 + 1) ∧ Int.ofNat (m4 + 1) < ((m4 + 1 + 1 : Nat) : Int) ∧ 0 + (m4 + 1) ≤ m4 + 1 ∧ m4 + 1 = m4 + 1 ∧ m4 + 1 ≤ limN ∧ m2 + 1 = m2 + 1 ∧ 0 < m2 + 1 ∧ m2 + 1 < 9223372036854775807 ∧ 0 ≤ Int.ofNat (m0 + 1) ∧ Int.ofNat (m0 + 1) < ((m0 + 1 + 1 : Nat) : Int) ∧ eqStr (m0 + 1) (fun j => (ovF (ovF f0)) (addN 0 j)) (m0 + 1) (fun j => (ovF (ovF f0)) (addN 0 j)) = true ∧ 0 + (m0 + 1) ≤ m0 + 1 ∧ m0 + 1 ≤ m0 + 1 ∧ m0 + 1 ≤ m0 + 1 ∧ 0 ≤ Int.ofNat (m1 + 1) ∧ Int.ofNat (m1 + 1) < ((m1 + 1 + 1 : Nat) : Int) ∧ eqStr (m1 + 1) (fun j => (ovF (ovF f1)) (addN 0 j)) (m1 + 1) (fun j => (ovF (ovF f1)) (addN 0 j)) = true ∧ 0 + (m1 + 1) ≤ m1 + 1 ∧ m1 + 1 ≤ m1 + 1 ∧ m1 + 1 ≤ m1 + 1 ∧ 0 ≤ Int.ofNat (m3 + 1) ∧ Int.ofNat (m3 + 1) < ((m3 + 1 + 1 : Nat) : Int) ∧ eqStr (m3 + 1) (fun j => f3 (addN 0 j)) (m3 + 1) (fun j => f3 (addN 0 j)) = true ∧ 0 + (m3 + 1) ≤ m3 + 1 ∧ m3 + 1 ≤ m3 + 1 ∧ m3 + 1 ≤ m3 + 1 ∧ 0 ≤ Int.ofNat (m4 + 1) ∧ Int.ofNat (m4 + 1) < ((m4 + 1 + 1 : Nat) : Int) ∧ eqStr (m4 + 1) (fun j => f4 (addN 0 j)) (m4 + 1) (fun j => f4 (addN 0 j)) = true ∧ 0 + (m4 + 1) ≤ m4 + 1 ∧ m4 + 1 ≤ m4 + 1 ∧ m4 + 1 ≤ m4 + 1 ∧ m2 + 1 = m2 + 1 ∧ 0 < m2 + 1 ∧ m2 + 1 < 9223372036854775807 ∧ 0 ≤ Int.ofNat (m0 + 1) ∧ Int.ofNat (m0 + 1) < ((m0 + 1 + 1 : Nat) : Int) ∧ 0 + (m0 + 1) ≤ m0 + 1 ∧ m0 + 1 = m0 + 1 ∧ m0 + 1 ≤ limN ∧ 0 ≤ Int.ofNat (m1 + 1) ∧ Int.ofNat (m1 + 1) < ((m1 + 1 + 1 : Nat) : Int) ∧ 0 + (m1 + 1) ≤ m1 + 1 ∧ m1 + 1 = m1 + 1 ∧ m1 + 1 ≤ limN ∧ 0 ≤ Int.ofNat (m2 + 1) ∧ Int.ofNat (m2 + 1) < ((m2 + 1 + 1 : Nat) : Int) ∧ 0 + (m2 + 1) ≤ m2 + 1 ∧ m2 + 1 = m2 + 1 ∧ m2 + 1 ≤ limN ∧ 0 ≤ Int.ofNat (m3 + 1) ∧ Int.ofNat (m3 + 1) < ((m3 + 1 + 1 : Nat) : Int) ∧ 0 + (m3 + 1) ≤ m3 + 1 ∧ m3 + 1 = m3 + 1 ∧ m3 + 1 ≤ limN ∧ 0 ≤ Int.ofNat (m4 + 1) ∧ Int.ofNat (m4 + 1) < ((m4 + 1 + 1 : Nat) : Int) ∧ 0 + (m4 + 1) ≤ m4 + 1 ∧ m4 + 1 = m4 + 1 ∧ m4 + 1 ≤ limN ∧ m3 + 1 = m3 + 1 ∧ 0 < m3 + 1 ∧ m3 + 1 < 9223372036854775807 ∧ 0 ≤ Int.ofNat (m0 + 1) ∧ Int.ofNat (m0 + 1) < ((m0 + 1 + 1 : Nat) : Int) ∧ eqStr (m0 + 1) (fun j => (ovF (ovF f0)) (addN 0 j)) (m0 + 1) (fun j => (ovF (ovF f0)) (addN 0 j)) = true ∧ 0 + (m0 + 1) ≤ m0 + 1 ∧ m0 + 1 ≤ m0 + 1 ∧ m0 + 1 ≤ m0 + 1 ∧ 0 ≤ Int.ofNat (m1 + 1) ∧ Int.ofNat (m1 + 1) < ((m1 + 1 + 1 : Nat) : Int) ∧ eqStr (m1 + 1) (fun j => (ovF (ovF f1)) (addN 0 j)) (m1 + 1) (fun j => (ovF (ovF f1)) (addN 0 j)) = true ∧ 0 + (m1 + 1) ≤ m1 + 1 ∧ m1 + 1 ≤ m1 + 1 ∧ m1 + 1 ≤ m1 + 1 ∧ 0 ≤ Int.ofNat (m2 + 1) ∧ Int.ofNat (m2 + 1) < ((m2 + 1 + 1 : Nat) : Int) ∧ eqStr (m2 + 1) (fun j => (ovF (ovF f2)) (addN 0 j)) (m2 + 1) (fun j => (ovF (ovF f2)) (addN 0 j)) = true ∧ 0 + (m2 + 1) ≤ m2 + 1 ∧ m2 + 1 ≤ m2 + 1 ∧ m2 + 1 ≤ m2 + 1 ∧ 0 ≤ Int.ofNat (m4 + 1) ∧ Int.ofNat (m4 + 1) < ((m4 + 1 + 1 : Nat) : Int) ∧ eqStr (m4 + 1) (fun j => f4 (addN 0 j)) (m4 + 1) (fun j => f4 (addN 0 j)) = true ∧ 0 + (m4 + 1) ≤ m4 + 1 ∧ m4 + 1 ≤ m4 + 1 ∧ m4 + 1 ≤ m4 + 1 ∧ m3 + 1 = m3 + 1 ∧ 0 < m3 + 1 ∧ m3 + 1 < 9223372036854775807 ∧ 0 ≤ Int.ofNat (m0 + 1) ∧ Int.ofNat (m0 + 1) < ((m0 + 1 + 1 : Nat) : Int) ∧ 0 + (m0 + 1) ≤ m0 + 1 ∧ m0 + 1 = m0 + 1 ∧ m0 + 1 ≤ limN ∧ 0 ≤ Int.ofNat (m1 + 1) ∧ Int.ofNat (m1 + 1) < ((m1 + 1 + 1 : Nat) : Int) ∧ 0 + (m1 + 1) ≤ m1 + 1 ∧ m1 + 1 = m1 + 1 ∧ m1 + 1 ≤ limN ∧ 0 ≤ Int.ofNat (m2 + 1) ∧ Int.ofNat (m2 + 1) < ((m2 + 1 + 1 : Nat) : Int) ∧ 0 + (m2 + 1) ≤ m2 + 1 ∧ m2 + 1 = m2 + 1 ∧ m2 + 1 ≤ limN ∧ 0 ≤ Int.ofNat (m3 + 1) ∧ Int.ofNat (m3 + 1) < ((m3 + 1 + 1 : Nat) : Int) ∧ 0 + (m3 + 1) ≤ m3 + 1 ∧ m3 + 1 = m3 + 1 ∧ m3 + 1 ≤ limN ∧ 0 ≤ Int.ofNat (m4 + 1) ∧ Int.ofNat (m4 + 1) < ((m4 + 1 + 1 : Nat) : Int) ∧ 0 + (m4 + 1) ≤ m4 + 1 ∧ m4 + 1 = m4 + 1 ∧ m4 + 1 ≤ limN ∧ m4 + 1 = m4 + 1 ∧ 0 < m4 + 1 ∧ m4 + 1 < 9223372036854775807 ∧ 0 ≤ Int.ofNat (m0 + 1) ∧ Int.ofNat (m0 + 1) < ((m0 + 1 + 1 : Nat) : Int) ∧ eqStr (m0 + 1) (fun j => (ovF (ovF f0)) (addN 0 j)) (m0 + 1) (fun j => (ovF (ovF f0)) (addN 0 j)) = true ∧ 0 + (m0 + 1) ≤ m0 + 1 ∧ m0 + 1 ≤ m0 + 1 ∧ m0 + 1 ≤ m0 + 1 ∧ 0 ≤ Int.ofNat (m1 + 1) ∧ Int.ofNat (m1 + 1) < ((m1 + 1 + 1 : Nat) : Int) ∧ eqStr (m1 + 1) (fun j => (ovF (ovF f1)) (addN 0 j)) (m1 + 1) (fun j => (ovF (ovF f1)) (addN 0 j)) = true ∧ 0 + (m1 + 1) ≤ m1 + 1 ∧ m1 + 1 ≤ m1 + 1 ∧ m1 + 1 ≤ m1 + 1 ∧ 0 ≤ Int.ofNat (m2 + 1) ∧ Int.ofNat (m2 + 1) < ((m2 + 1 + 1 : Nat) : Int) ∧ eqStr (m2 + 1) (fun j => (ovF (ovF f2)) (addN 0 j)) (m2 + 1) (fun j => (ovF (ovF f2)) (addN 0 j)) = true ∧ 0 + (m2 + 1) ≤ m2 + 1 ∧ m2 + 1 ≤ m2 + 1 ∧ m2 + 1 ≤ m2 + 1 ∧ 0 ≤ Int.ofNat (m3 + 1) ∧ Int.ofNat (m3 + 1) < ((m3 + 1 + 1 : Nat) : Int) ∧ eqStr (m3 + 1) (fun j => (ovF (ovF f3)) (addN 0 j)) (m3 + 1) (fun j => (ovF (ovF f3)) (addN 0 j)) = true ∧ 0 + (m3 + 1) ≤ m3 + 1 ∧ m3 + 1 ≤ m3 + 1 ∧ m3 + 1 ≤ m3 + 1 ∧ m4 + 1 = m4 + 1 ∧ 0 < m4 + 1 ∧ m4 + 1 < 9223372036854775807 ∧ endM [0,1,2,3,4,5] [some ⟨tl, [.one (.sl 1 0 n0 (m0 + 1)), .one (.sl 2 0 n1 (m1 + 1)), .one (.sl 3 0 n2 (m2 + 1)), .one (.sl 4 0 n3 (m3 + 1)), .one (.sl 5 0 n4 (m4 + 1))], 0, 0⟩, oB t0 (m0 + 1) (ovF (ovF f0)), oB t1 (m1 + 1) (ovF (ovF f1)), oB t2 (m2 + 1) (ovF (ovF f2)), oB t3 (m3 + 1) (ovF (ovF f3)), oB t4 (m4 + 1) (ovF (ovF f4))] [some ⟨tl, [.one (.sl 1 0 n0 (m0 + 1)), .one (.sl 2 0 n1 (m1 + 1)), .one (.sl 3 0 n2 (m2 + 1)), .one (.sl 4 0 n3 (m3 + 1)), .one (.sl 5 0 n4 (m4 + 1))], 0, 0⟩, oB t0 (m0 + 1) f0, oB t1 (m1 + 1) f1, oB t2 (m2 + 1) f2, oB t3 (m3 + 1) f3, oB t4 (m4 + 1) f4] (.v1 (.sc (.bo true))) (.v1 (.sc (.bo true)))) ?_ (by kernel_rfl))
  exact ⟨Int.natCast_nonneg _, hb m0, by omega, rfl, h0, Int.natCast_nonneg _, hb m1, by omega, rfl, h1, Int.natCast_nonneg _, hb m2, by omega, rfl, h2, Int.natCast_nonneg _, hb m3, by omega, rfl, h3, Int.natCast_nonneg _, hb m4, by omega, rfl, h4, rfl, by omega, lim63 h0, Int.natCast_nonneg _, hb m1, eqStr_self, by omega, Nat.le_refl _, Nat.le_refl _, Int.natCast_nonneg _, hb m2, eqStr_self, by omega, Nat.le_refl _, Nat.le_refl _, Int.natCast_nonneg _, hb m3, eqStr_self, by omega, Nat.le_refl _, Nat.le_refl _, Int.natCast_nonneg _, hb m4, eqStr_self, by omega, Nat.le_refl _, Nat.le_refl _, rfl, by omega, lim63 h0, Int.natCast_nonneg _, hb m0, by omega, rfl, h0, Int.natCast_nonneg _, hb m1, by omega, rfl, h1, Int.natCast_nonneg _, hb m2, by omega, rfl, h2, Int.natCast_nonneg _, hb m3, by omega, rfl, h3, Int.natCast_nonneg _, hb m4, by omega, rfl, h4, rfl, by omega, lim63 h1, Int.natCast_nonneg _, hb m0, eqStr_self, by omega, Nat.le_refl _, Nat.le_refl _, Int.natCast_nonneg _, hb m2, eqStr_self, by omega, Nat.le_refl _, Nat.le_refl _, Int.natCast_nonneg _, hb m3, eqStr_self, by omega, Nat.le_refl _, Nat.le_refl _, Int.natCast_nonneg _, hb m4, eqStr_self, by omega, Nat.le_refl _, Nat.le_refl _, rfl, by omega, lim63 h1, Int.natCast_nonneg _, hb m0, by omega, rfl, h0, Int.natCast_nonneg _, hb m1, by omega, rfl, h1, Int.natCast_nonneg _, hb m2, by omega, rfl, h2, Int.natCast_nonneg _, hb m3, by omega, rfl, h3, Int.natCast_nonneg _, hb m4, by omega, rfl, h4, rfl, by omega, lim63 h2, Int.natCast_nonneg _, hb m0, eqStr_self, by omega, Nat.le_refl _, Nat.le_refl _, Int.natCast_nonneg _, hb m1, eqStr_self, by omega, Nat.le_refl _, Nat.le_refl _, Int.natCast_nonneg _, hb m3, eqStr_self, by omega, Nat.le_refl _, Nat.le_refl _, Int.natCast_nonneg _, hb m4, eqStr_self, by omega, Nat.le_refl _, Nat.le_refl _, rfl, by omega, lim63 h2, Int.natCast_nonneg _, hb m0, by omega, rfl, h0, Int.natCast_nonneg _, hb m1, by omega, rfl, h1, Int.natCast_nonneg _, hb m2, by omega, rfl, h2, Int.natCast_nonneg _, hb m3, by omega, rfl, h3, Int.natCast_nonneg _, hb m4, by omega, rfl, h4, rfl, by omega, lim63 h3, Int.natCast_nonneg _, hb m0, eqStr_self, by omega, Nat.le_refl _, Nat.le_refl _, Int.natCast_nonneg _, hb m1, eqStr_self, by omega, Nat.le_refl _, Nat.le_refl _, Int.natCast_nonneg _, hb m2, eqStr_self, by omega, Nat.le_refl _, Nat.le_refl _, Int.natCast_nonneg _, hb m4, eqStr_self, by omega, Nat.le_refl _, Nat.le_refl _, rfl, by omega, lim63 h3, Int.natCast_nonneg _, hb m0, by omega, rfl, h0, Int.natCast_nonneg _, hb m1, by omega, rfl, h1, Int.natCast_nonneg _, hb m2, by omega, rfl, h2, Int.natCast_nonneg _, hb m3, by omega, rfl, h3, Int.natCast_nonneg _, hb m4, by omega, rfl, h4, rfl, by omega, lim63 h4, Int.natCast_nonneg _, hb m0, eqStr_self, by omega, Nat.le_refl _, Nat.le_refl _, Int.natCast_nonneg _, hb m1, eqStr_self, by omega, Nat.le_refl _, Nat.le_refl _, Int.natCast_nonneg _, hb m2, eqStr_self, by omega, Nat.le_refl _, Nat.le_refl _, Int.natCast_nonneg _, hb m3, eqStr_self, by omega, Nat.le_refl _, Nat.le_refl _, rfl, by omega, lim63 h4, by simp only [ovF_ovF]; exact endM_same rfl rfl⟩
def cApartSSSSS (args : List AV) (h : Heap) (_ : Nat) : Option (List Prop × AV × Heap) :=
  match args with
  | [.v1 (.sc (.sl l 0 5 5))] => match hget h l with
    | some ⟨tl, [.one (.sl b0 0 n0 c0), .one (.sl b1 0 n1 c1), .one (.sl b2 0 n2 c2), .one (.sl b3 0 n3 c3), .one (.sl b4 0 n4 c4)], 0, 0⟩ => match hget h b0, hget h b1, hget h b2, hget h b3, hget h b4 with
      | some ⟨t0, [.ws .u8 N0 f0], 0, 0⟩, some ⟨t1, [.ws .u8 N1 f1], 0, 0⟩, some ⟨t2, [.ws .u8 N2 f2], 0, 0⟩, some ⟨t3, [.ws .u8 N3 f3], 0, 0⟩, some ⟨t4, [.ws .u8 N4 f4], 0, 0⟩ => match nodupB [l, b0, b1, b2, b3, b4] with
        | true => some ([N0 = c0, 0 < c0, c0 ≤ limN, N1 = c1, 0 < c1, c1 ≤ limN, N2 = c2, 0 < c2, c2 ≤ limN, N3 = c3, 0 < c3, c3 ≤ limN, N4 = c4, 0 < c4, c4 ≤ limN], .v1 (.sc (.bo true)), h)
        | false => none
      | _, _, _, _, _ => none
    | _ => none
  | _ => none
theorem okApartSSSSS : (CallC.mem cApartSSSSS).Ok Try.prog 17 := by
  intro args h slot pre v h' e hp
  unfold cApartSSSSS at e
  split at e
  rotate_left
  · cases e
  rename_i l
  split at e
  rotate_left
  · cases e
  rename_i tl b0 n0 c0 b1 n1 c1 b2 n2 c2 b3 n3 c3 b4 n4 c4 hl
  split at e
  rotate_left
  · cases e
  rename_i t0 N0 f0 t1 N1 f1 t2 N2 f2 t3 N3 f3 t4 N4 f4 g0 g1 g2 g3 g4
  split at e
  rotate_left
  · cases e
  rename_i hnd
  cases e
  have e0 : N0 = c0 := hp _ (by simp)
  have z0 : 0 < c0 := hp (0 < c0) (by simp)
  have l0 : c0 ≤ limN := hp (c0 ≤ limN) (by simp)
  have e1 : N1 = c1 := hp _ (by simp)
  have z1 : 0 < c1 := hp (0 < c1) (by simp)
  have l1 : c1 ≤ limN := hp (c1 ≤ limN) (by simp)
  have e2 : N2 = c2 := hp _ (by simp)
  have z2 : 0 < c2 := hp (0 < c2) (by simp)
  have l2 : c2 ≤ limN := hp (c2 ≤ limN) (by simp)
  have e3 : N3 = c3 := hp _ (by simp)
  have z3 : 0 < c3 := hp (0 < c3) (by simp)
  have l3 : c3 ≤ limN := hp (c3 ≤ limN) (by simp)
  have e4 : N4 = c4 := hp _ (by simp)
  have z4 : 0 < c4 := hp (0 < c4) (by simp)
  have l4 : c4 ≤ limN := hp (c4 ≤ limN) (by simp)
  subst e0
  subst e1
  subst e2
  subst e3
  subst e4
  obtain ⟨m0, rfl⟩ : ∃ m, N0 = m + 1 := ⟨N0 - 1, by omega⟩
  obtain ⟨m1, rfl⟩ : ∃ m, N1 = m + 1 := ⟨N1 - 1, by omega⟩
  obtain ⟨m2, rfl⟩ : ∃ m, N2 = m + 1 := ⟨N2 - 1, by omega⟩
  obtain ⟨m3, rfl⟩ : ∃ m, N3 = m + 1 := ⟨N3 - 1, by omega⟩
  obtain ⟨m4, rfl⟩ : ∃ m, N4 = m + 1 := ⟨N4 - 1, by omega⟩
  have ne : ∀ i j, i < 6 → j < 6 → i ≠ j → nthN [l, b0, b1, b2, b3, b4] i ≠ nthN [l, b0, b1, b2, b3, b4] j := fun i j hi hj hij e => hij (nodupB_spec hnd i j (by simpa using hi) (by simpa using hj) e)
  have kl : bk [l, b0, b1, b2, b3, b4] l = 0 := by simp [bk, idxN]
  have x10 : Nat.beq b0 l = false := beqf (show b0 ≠ l from ne 1 0 (by omega) (by omega) (by omega))
  have kb0 : bk [l, b0, b1, b2, b3, b4] b0 = 1 := by simp [bk, idxN, x10]
  have x20 : Nat.beq b1 l = false := beqf (show b1 ≠ l from ne 2 0 (by omega) (by omega) (by omega))
  have x21 : Nat.beq b1 b0 = false := beqf (show b1 ≠ b0 from ne 2 1 (by omega) (by omega) (by omega))
  have kb1 : bk [l, b0, b1, b2, b3, b4] b1 = 2 := by simp [bk, idxN, x20, x21]
  have x30 : Nat.beq b2 l = false := beqf (show b2 ≠ l from ne 3 0 (by omega) (by omega) (by omega))
  have x31 : Nat.beq b2 b0 = false := beqf (show b2 ≠ b0 from ne 3 1 (by omega) (by omega) (by omega))
  have x32 : Nat.beq b2 b1 = false := beqf (show b2 ≠ b1 from ne 3 2 (by omega) (by omega) (by omega))
  have kb2 : bk [l, b0, b1, b2, b3, b4] b2 = 3 := by simp [bk, idxN, x30, x31, x32]
  have x40 : Nat.beq b3 l = false := beqf (show b3 ≠ l from ne 4 0 (by omega) (by omega) (by omega))
  have x41 : Nat.beq b3 b0 = false := beqf (show b3 ≠ b0 from ne 4 1 (by omega) (by omega) (by omega))
  have x42 : Nat.beq b3 b1 = false := beqf (show b3 ≠ b1 from ne 4 2 (by omega) (by omega) (by omega))
  have x43 : Nat.beq b3 b2 = false := beqf (show b3 ≠ b2 from ne 4 3 (by omega) (by omega) (by omega))
  have kb3 : bk [l, b0, b1, b2, b3, b4] b3 = 4 := by simp [bk, idxN, x40, x41, x42, x43]
  have x50 : Nat.beq b4 l = false := beqf (show b4 ≠ l from ne 5 0 (by omega) (by omega) (by omega))
  have x51 : Nat.beq b4 b0 = false := beqf (show b4 ≠ b0 from ne 5 1 (by omega) (by omega) (by omega))
  have x52 : Nat.beq b4 b1 = false := beqf (show b4 ≠ b1 from ne 5 2 (by omega) (by omega) (by omega))
  have x53 : Nat.beq b4 b2 = false := beqf (show b4 ≠ b2 from ne 5 3 (by omega) (by omega) (by omega))
  have x54 : Nat.beq b4 b3 = false := beqf (show b4 ≠ b3 from ne 5 4 (by omega) (by omega) (by omega))
  have kb4 : bk [l, b0, b1, b2, b3, b4] b4 = 5 := by simp [bk, idxN, x50, x51, x52, x53, x54]
  have hpk : pickH [l, b0, b1, b2, b3, b4] h [l, b0, b1, b2, b3, b4] = [some ⟨tl, [.one (.sl 1 0 n0 (m0 + 1)), .one (.sl 2 0 n1 (m1 + 1)), .one (.sl 3 0 n2 (m2 + 1)), .one (.sl 4 0 n3 (m3 + 1)), .one (.sl 5 0 n4 (m4 + 1))], 0, 0⟩, oB t0 (m0 + 1) f0, oB t1 (m1 + 1) f1, oB t2 (m2 + 1) f2, oB t3 (m3 + 1) f3, oB t4 (m4 + 1) f4] := by
    show [pickB [l, b0, b1, b2, b3, b4] (hget h l), pickB [l, b0, b1, b2, b3, b4] (hget h b0), pickB [l, b0, b1, b2, b3, b4] (hget h b1), pickB [l, b0, b1, b2, b3, b4] (hget h b2), pickB [l, b0, b1, b2, b3, b4] (hget h b3), pickB [l, b0, b1, b2, b3, b4] (hget h b4)] = _
    rw [hl, g0, g1, g2, g3, g4]
    simp only [pickB, bkBlk, bkCells, bkCell, bkSc, kb0, kb1, kb2, kb3, kb4]
  have hchk : chkB [l, b0, b1, b2, b3, b4] [some ⟨tl, [.one (.sl 1 0 n0 (m0 + 1)), .one (.sl 2 0 n1 (m1 + 1)), .one (.sl 3 0 n2 (m2 + 1)), .one (.sl 4 0 n3 (m3 + 1)), .one (.sl 5 0 n4 (m4 + 1))], 0, 0⟩, oB t0 (m0 + 1) f0, oB t1 (m1 + 1) f1, oB t2 (m2 + 1) f2, oB t3 (m3 + 1) f3, oB t4 (m4 + 1) f4] = true := by
    unfold chkB
    rw [hnd]; rfl
  have hlv : ∀ i, i < 6 → Lv [some ⟨tl, [.one (.sl 1 0 n0 (m0 + 1)), .one (.sl 2 0 n1 (m1 + 1)), .one (.sl 3 0 n2 (m2 + 1)), .one (.sl 4 0 n3 (m3 + 1)), .one (.sl 5 0 n4 (m4 + 1))], 0, 0⟩, oB t0 (m0 + 1) f0, oB t1 (m1 + 1) f1, oB t2 (m2 + 1) f2, oB t3 (m3 + 1) f3, oB t4 (m4 + 1) f4] i := fun i hi => by
    have : i = 0 ∨ i = 1 ∨ i = 2 ∨ i = 3 ∨ i = 4 ∨ i = 5 := by omega
    rcases this with rfl | rfl | rfl | rfl | rfl | rfl <;> exact ⟨_, rfl, by simp⟩
  refine mem_walk tt_ok Try.func17 (by kernel_rfl) (by kernel_rfl) [l, b0, b1, b2, b3, b4] [] 0 [some ⟨tl, [.one (.sl 1 0 n0 (m0 + 1)), .one (.sl 2 0 n1 (m1 + 1)), .one (.sl 3 0 n2 (m2 + 1)), .one (.sl 4 0 n3 (m3 + 1)), .one (.sl 5 0 n4 (m4 + 1))], 0, 0⟩, oB t0 (m0 + 1) f0, oB t1 (m1 + 1) f1, oB t2 (m2 + 1) f2, oB t3 (m3 + 1) f3, oB t4 (m4 + 1) f4] [some ⟨tl, [.one (.sl 1 0 n0 (m0 + 1)), .one (.sl 2 0 n1 (m1 + 1)), .one (.sl 3 0 n2 (m2 + 1)), .one (.sl 4 0 n3 (m3 + 1)), .one (.sl 5 0 n4 (m4 + 1))], 0, 0⟩, oB t0 (m0 + 1) f0, oB t1 (m1 + 1) f1, oB t2 (m2 + 1) f2, oB t3 (m3 + 1) f3, oB t4 (m4 + 1) f4] (args' := [.v1 (.sc (.sl 0 0 5 5))]) (vK := .v1 (.sc (.bo true)))
    hchk hpk (by kernel_rfl) ?_ (by kernel_rfl) hlv (by kernel_rfl) (by kernel_rfl) (fun i hi => (hlv i (by simpa using hi)).dm) hchk hpk rfl (fun t ht => by simp at ht) (fun _ _ _ => rfl) (apWalkSSSSS l0 l1 l2 l3 l4)
  show [AV.v1 (.sc (.sl (bk [l, b0, b1, b2, b3, b4] l) 0 5 5))] = _
  rw [kl]
/-! SZSSS -/
theorem apWalkSZSSS {tl n0 m0 t0 n2 m2 t2 n3 m3 t3 n4 m4 t4 t1 : Nat} {f0 f1 f2 f3 f4 : Nat → Nat} (h0 : m0 + 1 ≤ limN) (h2 : m2 + 1 ≤ limN) (h3 : m3 + 1 ≤ limN) (h4 : m4 + 1 ≤ limN) :
    AWqS Try.prog (Dm [some ⟨tl, [.one (.sl 1 0 n0 (m0 + 1)), .one (.sl 2 0 0 0), .one (.sl 3 0 n2 (m2 + 1)), .one (.sl 4 0 n3 (m3 + 1)), .one (.sl 5 0 n4 (m4 + 1))], 0, 0⟩, oB t0 (m0 + 1) f0, oB t1 0 f1, oB t2 (m2 + 1) f2, oB t3 (m3 + 1) f3, oB t4 (m4 + 1) f4]) (flatC (bodyOf Try.f17)) (FEndM tt Try.f17 [0,1,2,3,4,5] (.v1 (.sc (.bo true))) [some ⟨tl, [.one (.sl 1 0 n0 (m0 + 1)), .one (.sl 2 0 0 0), .one (.sl 3 0 n2 (m2 + 1)), .one (.sl 4 0 n3 (m3 + 1)), .one (.sl 5 0 n4 (m4 + 1))], 0, 0⟩, oB t0 (m0 + 1) f0, oB t1 0 f1, oB t2 (m2 + 1) f2, oB t3 (m3 + 1) f3, oB t4 (m4 + 1) f4]) ⟨frame0 [.v1 (.sc (.sl 0 0 5 5))] Try.f17.ntmps, [some ⟨tl, [.one (.sl 1 0 n0 (m0 + 1)), .one (.sl 2 0 0 0), .one (.sl 3 0 n2 (m2 + 1)), .one (.sl 4 0 n3 (m3 + 1)), .one (.sl 5 0 n4 (m4 + 1))], 0, 0⟩, oB t0 (m0 + 1) f0, oB t1 0 f1, oB t2 (m2 + 1) f2, oB t3 (m3 + 1) f3, oB t4 (m4 + 1) f4]⟩ := by
  have hb : ∀ m : Nat, Int.ofNat (m + 1) < ((m + 1 + 1 : Nat) : Int) := fun m => by simp only [Int.ofNat_eq_natCast]; omega
  refine evS_q mixed tt_ok gAp_ok 900 [⟨8,11,.sym⟩,⟨8,11,.sym⟩,⟨8,11,.sym⟩,⟨8,11,.sym⟩,⟨8,11,.sym⟩,⟨13,13,.sym⟩,⟨13,18,.lit (.bo true)⟩,⟨13,13,.sym⟩,⟨13,18,.lit (.bo true)⟩,⟨13,13,.sym⟩,⟨13,18,.lit (.bo true)⟩,⟨13,13,.sym⟩,⟨13,18,.lit (.bo true)⟩,⟨13,13,.sym⟩,⟨13,18,.lit (.bo true)⟩,⟨8,11,.sym⟩,⟨8,11,.sym⟩,⟨8,11,.sym⟩,⟨8,11,.sym⟩,⟨8,11,.sym⟩,⟨13,13,.sym⟩,⟨13,18,.lit (.bo true)⟩,⟨13,13,.sym⟩,⟨13,18,.lit (.bo true)⟩,⟨13,13,.sym⟩,⟨13,18,.lit (.bo true)⟩,⟨13,13,.sym⟩,⟨13,18,.lit (.bo true)⟩,⟨13,13,.sym⟩,⟨13,18,.lit (.bo true)⟩,⟨8,11,.sym⟩,⟨8,11,.sym⟩,⟨8,11,.sym⟩,⟨8,11,.sym⟩,⟨8,11,.sym⟩,⟨13,13,.sym⟩,⟨13,18,.lit (.bo true)⟩,⟨13,13,.sym⟩,⟨13,18,.lit (.bo true)⟩,⟨13,13,.sym⟩,⟨13,18,.lit (.bo true)⟩,⟨13,13,.sym⟩,⟨13,18,.lit (.bo true)⟩,⟨13,13,.sym⟩,⟨13,18,.lit (.bo true)⟩,⟨8,11,.sym⟩,⟨8,11,.sym⟩,⟨8,11,.sym⟩,⟨8,11,.sym⟩,⟨8,11,.sym⟩,⟨13,13,.sym⟩,⟨13,18,.lit (.bo true)⟩,⟨13,13,.sym⟩,⟨13,18,.lit (.bo true)⟩,⟨13,13,.sym⟩,⟨13,18,.lit (.bo true)⟩,⟨13,13,.sym⟩,⟨13,18,.lit (.bo true)⟩,⟨13,13,.sym⟩,⟨13,18,.lit (.bo true)⟩,⟨8,11,.sym⟩,⟨8,11,.sym⟩,⟨8,11,.sym⟩,⟨8,11,.sym⟩,⟨8,11,.sym⟩,⟨13,13,.sym⟩,⟨13,18,.lit (.bo true)⟩,⟨13,13,.sym⟩,⟨13,18,.lit (.bo true)⟩,⟨13,13,.sym⟩,⟨13,18,.lit (.bo true)⟩,⟨13,13,.sym⟩,⟨13,18,.lit (.bo true)⟩,⟨13,13,.sym⟩,⟨13,18,.lit (.bo true)⟩] (same (p := 0 ≤ Int.ofNat (m0 + 1) ∧ Int.ofNat (m0 + 1) < ((m0 + 1 + 1 : Nat) : Int) ∧ 0 + (m0 + 1) ≤ m0 + 1 ∧ m0 + 1 = m0 + 1 ∧ m0 + 1 ≤ limN ∧ 0 ≤ Int.ofNat 0 ∧ Int.ofNat 0 < ((0 + 1 : Nat) : Int) ∧ 0 + 0 ≤ 0 ∧ 0 = 0 ∧ 0 ≤ limN ∧ 0 ≤ Int.ofNat (m2 + 1) ∧ Int.ofNat (m2 + 1) < ((m2 + 1 + 1 : Nat) : Int) ∧ 0 + (m2 + 1) ≤ m2 + 1 ∧ m2 + 1 = m2 + 1 ∧ m2 + 1 ≤ limN ∧ 0 ≤ Int.ofNat (m3 + 1) ∧ Int.ofNat (m3 + 1) < ((m3 + 1 + 1 : Nat) : Int) ∧ 0 + (m3 + 1) ≤ m3 + 1 ∧ m3 + 1 = m3 + 1 ∧ m3 + 1 ≤ limN ∧ 0 ≤ Int.ofNat (m4 + 1) ∧ Int.ofNat (m4 + 1) < ((m4 + 1 + 1 : Nat) : Int) ∧ 0 + (m4 + 1) ≤ m4 + 1 ∧ m4 + 1 = m4 + 1 ∧ m4 + 1 ≤ limN ∧ m0 + 1 = m0 + 1 ∧ 0 < m0 + 1 ∧ m0 + 1 < 9223372036854775807 ∧ 0 ≤ Int.ofNat 0 ∧ Int.ofNat 0 < ((0 + 1 : Nat) : Int) ∧ eqStr 0 (fun j => f1 (addN 0 j)) 0 (fun j => f1 (addN 0 j)) = true ∧ 0 + 0 ≤ 0 ∧ 0 ≤ 0 ∧ 0 ≤ 0 ∧ 0 ≤ Int.ofNat (m2 + 1) ∧ Int.ofNat (m2 + 1) < ((m2 + 1 + 1 : Nat) : Int) ∧ eqStr (m2 + 1) (fun j => f2 (addN 0 j)) (m2 + 1) (fun j => f2 (addN 0 j)) = true ∧ 0 + (m2 + 1) ≤ m2 + 1 ∧ m2 + 1 ≤ m2 + 1 ∧ m2 + 1 ≤ m2 + 1 ∧ 0 ≤ Int.ofNat (m3 + 1) ∧ Int.ofNat (m3 + 1) < ((m3 + 1 + 1 : Nat) : Int) ∧ eqStr (m3 + 1) (fun j => f3 (addN 0 j)) (m3 + 1) (fun j => f3 (addN 0 j)) = true ∧ 0 + (m3 + 1) ≤ m3 + 1 ∧ m3 + 1 ≤ m3 + 1 ∧ m3 + 1 ≤ m3 + 1 ∧ 0 ≤ Int.ofNat (m4 + 1) ∧ Int.ofNat (m4 + 1) < ((m4 + 1 + 1 : Nat) : Int) ∧ eqStr (m4 + 1) (fun j => f4 (addN 0 j)) (m4 + 1) (fun j => f4 (addN 0 j)) = true ∧ 0 + (m4 + 1) ≤ m4 + 1 ∧ m4 + 1 ≤ m4 + 1 ∧ m4 + 1 ≤ m4 + 1 ∧ m0 + 1 = m0 + 1 ∧ 0 < m0 + 1 ∧ m0 + 1 < 9223372036854775807 ∧ 0 ≤ Int.ofNat (m0 + 1) ∧ Int.ofNat (m0 + 1) < ((m0 + 1 + 1 : Nat) : Int) ∧ 0 + (m0 + 1) ≤ m0 + 1 ∧ m0 + 1 = m0 + 1 ∧ m0 + 1 ≤ limN ∧ 0 ≤ Int.ofNat 0 ∧ Int.ofNat 0 < ((0 + 1 : Nat) : Int) ∧ 0 + 0 ≤ 0 ∧ 0 = 0 ∧ 0 ≤ limN ∧ 0 ≤ Int.ofNat (m2 + 1) ∧ Int.ofNat (m2 + 1) < ((m2 + 1 + 1 : Nat) : Int) ∧ 0 + (m2 + 1) ≤ m2 + 1 ∧ m2 + 1 = m2 + 1 ∧ m2 + 1 ≤ limN ∧ 0 ≤ Int.ofNat (m3 + 1) ∧ Int.ofNat (m3 + 1) < ((m3 + 1 + 1 : Nat) : Int) ∧ 0 + (m3 + 1) ≤ m3 + 1 ∧ m3 + 1 = m3 + 1 ∧ m3 + 1 ≤ limN ∧ 0 ≤ Int.ofNat (m4 + 1) ∧ Int.ofNat (m4 + 1) < ((m4 + 1 + 1 : Nat) : Int) ∧ 0 + (m4 + 1) ≤ m4 + 1 ∧ m4 + 1 = m4 + 1 ∧ m4 + 1 ≤ limN ∧ 0 ≤ Int.ofNat (m0 + 1) ∧ Int.ofNat (m0 + 1) < ((m0 + 1 + 1 : Nat) : Int) ∧ eqStr (m0 + 1) (fun j => (ovF (ovF f0)) (addN 0 j)) (m0 + 1) (fun j => (ovF (ovF f0)) (addN 0 j)) = true ∧ 0 + (m0 + 1) ≤ m0 + 1 ∧ m0 + 1 ≤ m0 + 1 ∧ m0 + 1 ≤ m0 + 1 ∧ 0 ≤ Int.ofNat (m2 + 1) ∧ Int.ofNat (m2 + 1) < ((m2 + 1 + 1 : Nat) : Int) ∧ eqStr (m2 + 1) (fun j => f2 (addN 0 j)) (m2 + 1) (fun j => f2 (addN 0 j)) = true ∧ 0 + (m2 + 1) ≤ m2 + 1 ∧ m2 + 1 ≤ m2 + 1 ∧ m2 + 1 ≤ m2 + 1 ∧ 0 ≤ Int.ofNat (m3 + 1) ∧ Int.ofNat (m3 + 1) < ((m3 + 1 + 1 : Nat) : Int) ∧ eqStr (m3 + 1) (fun j => f3 (addN 0 j)) (m3 + 1) (fun j => f3 (addN 0 j)) = true ∧ 0 + (m3 + 1) ≤ m3 + 1 ∧ m3 + 1 ≤ m3 + 1 ∧ m3 + 1 ≤ m3 + 1 ∧ 0 ≤ Int.ofNat (m4 + 1) ∧ Int.ofNat (m4 + 1) < ((m4 + 1 + 1 : Nat) : Int) ∧ eqStr (m4 + 1) (fun j => f4 (addN 0 j)) (m4 + 1) (fun j => f4 (addN 0 j)) = true ∧ 0 + (m4 + 1) ≤ m4 + 1 ∧ m4 + 1 ≤ m4 + 1 ∧ m4 + 1 ≤ m4 + 1 ∧ 0 ≤ Int.ofNat (m0 + 1) ∧ Int.ofNat (m0 + 1) < ((m0 + 1 + 1 : Nat) : Int) ∧ 0 + (m0 + 1) ≤ m0 + 1 ∧ m0 + 1 = m0 + 1 ∧ m0 + 1 ≤ limN ∧ 0 ≤ Int.ofNat 0 ∧ Int.ofNat 0 < ((0 + 1 : Nat) : Int) ∧ 0 + 0 ≤ 0 ∧ 0 = 0 ∧ 0 ≤ limN ∧ 0 ≤ Int.ofNat (m2 + 1) ∧ Int.ofNat (m2 + 1) < ((m2 + 1 + 1 : Nat) : Int) ∧ 0 + (m2 + 1) ≤ m2 + 1 ∧ m2 + 1 = m2 + 1 ∧ m2 + 1 ≤ limN ∧ 0 ≤ Int.ofNat (m3 + 1) ∧ Int.ofNat (m3 + 1) < ((m3 + 1 + 1 : Nat) : Int) ∧ 0 + (m3 + 1) ≤ m3 + 1 ∧ m3 + 1 = m3 + 1 ∧ m3 + 1 ≤ limN ∧ 0 ≤ Int.ofNat (m4 + 1) ∧ Int.ofNat (m4 + 1) < ((m4 + 1 + 1 : Nat) : Int) ∧ 0 + (m4 + 1) ≤ m4 + 1 ∧ m4 + 1 = m4 + 1 ∧ m4 + 1 ≤ limN ∧ m2 + 1 = m2 + 1 ∧ 0 < m2 + 1 ∧ m2 + 1 < 9223372036854775807 ∧ 0 ≤ Int.ofNat (m0 + 1) ∧ Int.ofNat (m0 + 1) < ((m0 + 1 + 1 : Nat) : Int) ∧ eqStr (m0 + 1) (fun j => (ovF (ovF f0)) (addN 0 j)) (m0 + 1) (fun j => (ovF (ovF f0)) (addN 0 j)) = true ∧ 0 + (m0 + 1) ≤ m0 + 1 ∧ m0 + 1 ≤ m0 + 1 ∧ m0 + 1 ≤ m0 + 1 ∧ 0 ≤ Int.ofNat 0 ∧ Int.ofNat 0 < ((0 + 1 : Nat) : Int) ∧ eqStr 0 (fun j => f1 (addN 0 j)) 0 (fun j => f1 (addN 0 j)) = true ∧ 0 + 0 ≤ 0 ∧ 0 ≤ 0 ∧ 0 ≤ 0 ∧ 0 ≤ Int.ofNat (m3 + 1) ∧ Int.ofNat (m3 + 1) < ((m3 + 1 + 1 : Nat) : Int) ∧ eqStr (m3 + 1) (fun j => f3 (addN 0 j)) (m3 + 1) (fun j => f3 (addN 0 j)) = true ∧ 0 + (m3 + 1) ≤ m3 + 1 ∧ m3 + 1 ≤ m3 + 1 ∧ m3 + 1 ≤ m3 + 1 ∧ 0 ≤ Int.ofNat (m4 + 1) ∧ Int.ofNat (m4 + 1) < ((m4 + 1 + 1 : Nat) : Int) ∧ eqStr (m4 + 1) (fun j => f4 (addN 0 j)) (m4 + 1) (fun j => f4 (addN 0 j)) = true ∧ 0 + (m4 + 1) ≤ m4 + 1 ∧ m4 + 1 ≤ m4 + 1 ∧ m4 + 1 ≤ m4 + 1 ∧ m2 + 1 = m2 + 1 ∧ 0 < m2 + 1 ∧ m2 + 1 < 9223372036854775807 ∧ 0 ≤ Int.ofNat (m0 + 1) ∧ Int.ofNat (m0 + 1) < ((m0 + 1 + 1 : Nat) : Int) ∧ 0 + (m0 + 1) ≤ m0 + 1 ∧ m0 + 1 = m0 + 1 ∧ m0 + 1 ≤ limN ∧ 0 ≤ Int.ofNat 0 ∧ Int.ofNat 0 < ((0 + 1 : Nat) : Int) ∧ 0 + 0 ≤ 0 ∧ 0 = 0 ∧ 0 ≤ limN ∧ 0 ≤ Int.ofNat (m2 + 1) ∧ Int.ofNat (m2 + 1) < ((m2 + 1 + 1 : Nat) : Int) ∧ 0 + (m2 + 1) ≤ m2 + 1 ∧ m2 + 1 = m2 + 1 ∧ m2 + 1 ≤ limN ∧ 0 ≤ Int.ofNat (m3 + 1) ∧ Int.ofNat (m3 + 1) < ((m3 + 1 + 1 : Nat) : Int) ∧ 0 + (m3 + 1) ≤ m3 + 1 ∧ m3 + 1 = m3 + 1 ∧ m3 + 1 ≤ limN ∧ 0 ≤ Int.ofNat (m4 + 1) ∧ Int.ofNat (m4 + 1) < ((m4 + 1 + 1 : Nat) : Int) ∧ 0 + (m4 + 1) ≤ m4 + 1 ∧ m4 + 1 = m4 + 1 ∧ m4 + 1 ≤ limN ∧ m3 + 1 = m3 + 1 ∧ 0 < m3 + 1 ∧ m3 + 1 < 9223372036854775807 ∧ 0 ≤ Int.ofNat (m0 + 1) ∧ Int.ofNat (m0 + 1) < ((m0 + 1 + 1 : Nat) : Int) ∧ eqStr (m0 + 1) (fun j => (ovF (ovF f0)) (addN 0 j)) (m0 + 1) (fun j => (ovF (ovF f0)) (addN 0 j)) = true ∧ 0 + (m0 + 1) ≤ m0 + 1 ∧ m0 + 1 ≤ m0 + 1 ∧ m0 + 1 ≤ m0 + 1 ∧ 0 ≤ Int.ofNat 0 ∧ Int.ofNat 0 < ((0 + 1 : Nat) : Int) ∧ eqStr 0 (fun j => f1 (addN 0 j)) 0 (fun j => f1 (addN 0 j)) = true ∧ 0 + 0 ≤ 0 ∧ 0 ≤ 0 ∧ 0 ≤ 0 ∧ 0 ≤ Int.ofNat (m2 + 1) ∧ Int.ofNat (m2 + 1) < ((m2 + 1 + 1 : Nat) : Int) ∧ eqStr (m2 + 1) (fun j => (ovF (ovF f2)) (addN 0 j)) (m2 + 1) (fun j => (ovF (ovF f2)) (addN 0 j)) = true ∧ 0 + (m2 + 1) ≤ m2 + 1 ∧ m2 + 1 ≤ m2 + 1 ∧ m2 + 1 ≤ m2 + 1 ∧ 0 ≤ Int.ofNat (m4 + 1) ∧ Int.ofNat (m4 + 1) < ((m4 + 1 + 1 : Nat) : Int) ∧ eqStr (m4 + 1) (fun j => f4 (addN 0 j)) (m4 + 1) (fun j => f4 (addN 0 j)) = true ∧ 0 + (m4 + 1) ≤ m4 + 1 ∧ m4 + 1 ≤ m4 + 1 ∧ m4 + 1 ≤ m4 + 1 ∧ m3 + 1 = m3 + 1 ∧ 0 < m3 + 1 ∧ m3 + 1 < 9223372036854775807 ∧ 0 ≤ Int.ofNat (m0 + 1) ∧ Int.ofNat (m0 + 1) < ((m0 + 1 + 1 : Nat) : Int) ∧ 0 + (m0 + 1) ≤ m0 + 1 ∧ m0 + 1 = m0 + 1 ∧ m0 + 1 ≤ limN ∧ 0 ≤ Int.ofNat 0 ∧ Int.ofNat 0 < ((0 + 1 : Nat) : Int) ∧ 0 + 0 ≤ 0 ∧ 0 = 0 ∧ 0 ≤ limN ∧ 0 ≤ Int.ofNat (m2 + 1) ∧ Int.ofNat (m2 + 1) < ((m2 + 1 + 1 : Nat) : Int) ∧ 0 + (m2 + 1) ≤ m2 + 1 ∧ m2 + 1 = m2 + 1 ∧ m2 + 1 ≤ limN ∧ 0 ≤ Int.ofNat (m3 + 1) ∧ Int.ofNat (m3 + 1) < ((m3 + 1 + 1 : Nat) : Int) ∧ 0 + (m3 + 1) ≤ m3 + 1 ∧ m3 + 1 = m3 + 1 ∧ m3 + 1 ≤ limN ∧ 0 ≤ Int.ofNat (m4 + 1) ∧ Int.ofNat (m4 + 1) < ((m4 + 1 + 1 : Nat) : Int) ∧ 0 + (m4 + 1) ≤ m4 + 1 ∧ m4 + 1 = m4 + 1 ∧ m4 + 1 ≤ limN ∧ m4 + 1 = m4 + 1 ∧ 0 < m4 + 1 ∧ m4 + 1 < 9223372036854775807 ∧ 0 ≤ Int.ofNat (m0 + 1) ∧ Int.ofNat (m0 + 1) < ((m0 + 1 + 1 : Nat) : Int) ∧ eqStr (m0 + 1) (fun j => (ovF (ovF f0)) (addN 0 j)) (m0 + 1) (fun j => (ovF (ovF f0)) (addN 0 j)) = true ∧ 0 + (m0 + 1) ≤ m0 + 1 ∧ m0 + 1 ≤ m0 + 1 ∧ m0 + 1 ≤ m0 + 1 ∧ 0 ≤ Int.ofNat 0 ∧ Int.ofNat 0 < ((0 + 1 : Nat) : Int) ∧ eqStr 0 (fun j => f1 (addN 0 j)) 0 (fun j => f1 (addN 0 j)) = true ∧ 0 + 0 ≤ 0 ∧ 0 ≤ 0 ∧ 0 ≤ 0 ∧ 0 ≤ Int.ofNat (m2 + 1) ∧ Int.ofNat (m2 + 1) < ((m2 + 1 + 1 : Nat) : Int) ∧ eqStr (m2 + 1) (fun j => (ovF (ovF f2)) (addN 0 j)) (m2 + 1) (fun j => (ovF (ovF f2)) (addN 0 j)) = true ∧ 0 + (m2 + 1) ≤ m2 + 1 ∧ m2 + 1 ≤ m2 + 1 ∧ m2 + 1 ≤ m2 + 1 ∧ 0 ≤ Int.ofNat (m3 + 1) ∧ Int.ofNat (m3 + 1) < ((m3 + 1 + 1 : Nat) : Int) ∧ eqStr (m3 + 1) (fun j => (ovF (ovF f3)) (addN 0 j)) (m3 + 1) (fun j => (ovF (ovF f3)) (addN 0 j)) = true ∧ 0 + (m3 + 1) ≤ m3 + 1 ∧ m3 + 1 ≤ m3 + 1 ∧ m3 + 1 ≤ m3 + 1 ∧ m4 + 1 = m4 + 1 ∧ 0 < m4 + 1 ∧ m4 + 1 < 9223372036854775807 ∧ endM [0,1,2,3,4,5] [some ⟨tl, [.one (.sl 1 0 n0 (m0 + 1)), .one (.sl 2 0 0 0), .one (.sl 3 0 n2 (m2 + 1)), .one (.sl 4 0 n3 (m3 + 1)), .one (.sl 5 0 n4 (m4 + 1))], 0, 0⟩, oB t0 (m0 + 1) (ovF (ovF f0)), oB t1 0 f1, oB t2 (m2 + 1) (ovF (ovF f2)), oB t3 (m3 + 1) (ovF (ovF f3)), oB t4 (m4 + 1) (ovF (ovF f4))] [some ⟨tl, [.one (.sl 1 0 n0 (m0 + 1)), .one (.sl 2 0 0 0), .one (.sl 3 0 n2 (m2 + 1)), .one (.sl 4 0 n3 (m3 + 1)), .one (.sl 5 0 n4 (m4 + 1))], 0, 0⟩, oB t0 (m0 + 1) f0, oB t1 0 f1, oB t2 (m2 + 1) f2, oB t3 (m3 + 1) f3, oB t4 (m4 + 1) f4] (.v1 (.sc (.bo true))) (.v1 (.sc (.bo true)))) ?_ (by kernel_rfl))
  exact ⟨Int.natCast_nonneg _, hb m0, by omega, rfl, h0, Int.natCast_nonneg _, by decide, Nat.le_refl _, rfl, Nat.zero_le _, Int.natCast_nonneg _, hb m2, by omega, rfl, h2, Int.natCast_nonneg _, hb m3, by omega, rfl, h3, Int.natCast_nonneg _, hb m4, by omega, rfl, h4, rfl, by omega, lim63 h0, Int.natCast_nonneg _, by decide, eqStr_self, Nat.le_refl _, Nat.le_refl _, Nat.le_refl _, Int.natCast_nonneg _, hb m2, eqStr_self, by omega, Nat.le_refl _, Nat.le_refl _, Int.natCast_nonneg _, hb m3, eqStr_self, by omega, Nat.le_refl _, Nat.le_refl _, Int.natCast_nonneg _, hb m4, eqStr_self, by omega, Nat.le_refl _, Nat.le_refl _, rfl, by omega, lim63 h0, Int.natCast_nonneg _, hb m0, by omega, rfl, h0, Int.natCast_nonneg _, by decide, Nat.le_refl _, rfl, Nat.zero_le _, Int.natCast_nonneg _, hb m2, by omega, rfl, h2, Int.natCast_nonneg _, hb m3, by omega, rfl, h3, Int.natCast_nonneg _, hb m4, by omega, rfl, h4, Int.natCast_nonneg _, hb m0, eqStr_self, by omega, Nat.le_refl _, Nat.le_refl _, Int.natCast_nonneg _, hb m2, eqStr_self, by omega, Nat.le_refl _, Nat.le_refl _, Int.natCast_nonneg _, hb m3, eqStr_self, by omega, Nat.le_refl _, Nat.le_refl _, Int.natCast_nonneg _, hb m4, eqStr_self, by omega, Nat.le_refl _, Nat.le_refl _, Int.natCast_nonneg _, hb m0, by omega, rfl, h0, Int.natCast_nonneg _, by decide, Nat.le_refl _, rfl, Nat.zero_le _, Int.natCast_nonneg _, hb m2, by omega, rfl, h2, Int.natCast_nonneg _, hb m3, by omega, rfl, h3, Int.natCast_nonneg _, hb m4, by omega, rfl, h4, rfl, by omega, lim63 h2, Int.natCast_nonneg _, hb m0, eqStr_self, by omega, Nat.le_refl _, Nat.le_refl _, Int.natCast_nonneg _, by decide, eqStr_self, Nat.le_refl _, Nat.le_refl _, Nat.le_refl _, Int.natCast_nonneg _, hb m3, eqStr_self, by omega, Nat.le_refl _, Nat.le_refl _, Int.natCast_nonneg _, hb m4, eqStr_self, by omega, Nat.le_refl _, Nat.le_refl _, rfl, by omega, lim63 h2, Int.natCast_nonneg _, hb m0, by omega, rfl, h0, Int.natCast_nonneg _, by decide, Nat.le_refl _, rfl, Nat.zero_le _, Int.natCast_nonneg _, hb m2, by omega, rfl, h2, Int.natCast_nonneg _, hb m3, by omega, rfl, h3, Int.natCast_nonneg _, hb m4, by omega, rfl, h4, rfl, by omega, lim63 h3, Int.natCast_nonneg _, hb m0, eqStr_self, by omega, Nat.le_refl _, Nat.le_refl _, Int.natCast_nonneg _, by decide, eqStr_self, Nat.le_refl _, Nat.le_refl _, Nat.le_refl _, Int.natCast_nonneg _, hb m2, eqStr_self, by omega, Nat.le_refl _, Nat.le_refl _, Int.natCast_nonneg _, hb m4, eqStr_self, by omega, Nat.le_refl _, Nat.le_refl _, rfl, by omega, lim63 h3, Int.natCast_nonneg _, hb m0, by omega, rfl, h0, Int.natCast_nonneg _, by decide, Nat.le_refl _, rfl, Nat.zero_le _, Int.natCast_nonneg _, hb m2, by omega, rfl, h2, Int.natCast_nonneg _, hb m3, by omega, rfl, h3, Int.natCast_nonneg _, hb m4, by omega, rfl, h4, rfl, by omega, lim63 h4, Int.natCast_nonneg _, hb m0, eqStr_self, by omega, Nat.le_refl _, Nat.le_refl _, Int.natCast_nonneg _, by decide, eqStr_self, Nat.le_refl _, Nat.le_refl _, Nat.le_refl _, Int.natCast_nonneg _, hb m2, eqStr_self, by omega, Nat.le_refl _, Nat.le_refl _, Int.natCast_nonneg _, hb m3, eqStr_self, by omega, Nat.le_refl _, Nat.le_refl _, rfl, by omega, lim63 h4, by simp only [ovF_ovF]; exact endM_same rfl rfl⟩
def cApartSZSSS (args : List AV) (h : Heap) (_ : Nat) : Option (List Prop × AV × Heap) :=
  match args with
  | [.v1 (.sc (.sl l 0 5 5))] => match hget h l with
    | some ⟨tl, [.one (.sl b0 0 n0 c0), .one (.sl b1 0 0 0), .one (.sl b2 0 n2 c2), .one (.sl b3 0 n3 c3), .one (.sl b4 0 n4 c4)], 0, 0⟩ => match hget h b0, hget h b1, hget h b2, hget h b3, hget h b4 with
      | some ⟨t0, [.ws .u8 N0 f0], 0, 0⟩, some ⟨t1, [.ws .u8 0 f1], 0, 0⟩, some ⟨t2, [.ws .u8 N2 f2], 0, 0⟩, some ⟨t3, [.ws .u8 N3 f3], 0, 0⟩, some ⟨t4, [.ws .u8 N4 f4], 0, 0⟩ => match nodupB [l, b0, b1, b2, b3, b4] with
        | true => some ([N0 = c0, 0 < c0, c0 ≤ limN, N2 = c2, 0 < c2, c2 ≤ limN, N3 = c3, 0 < c3, c3 ≤ limN, N4 = c4, 0 < c4, c4 ≤ limN], .v1 (.sc (.bo true)), h)
        | false => none
      | _, _, _, _, _ => none
    | _ => none
  | _ => none
theorem okApartSZSSS : (CallC.mem cApartSZSSS).Ok Try.prog 17 := by
  intro args h slot pre v h' e hp
  unfold cApartSZSSS at e
  split at e
  rotate_left
  · cases e
  rename_i l
  split at e
  rotate_left
  · cases e
  rename_i tl b0 n0 c0 b1 b2 n2 c2 b3 n3 c3 b4 n4 c4 hl
  split at e
  rotate_left
  · cases e
  rename_i t0 N0 f0 t1 f1 t2 N2 f2 t3 N3 f3 t4 N4 f4 g0 g1 g2 g3 g4
  split at e
  rotate_left
  · cases e
  rename_i hnd
  cases e
  have e0 : N0 = c0 := hp _ (by simp)
  have z0 : 0 < c0 := hp (0 < c0) (by simp)
  have l0 : c0 ≤ limN := hp (c0 ≤ limN) (by simp)
  have e2 : N2 = c2 := hp _ (by simp)
  have z2 : 0 < c2 := hp (0 < c2) (by simp)
  have l2 : c2 ≤ limN := hp (c2 ≤ limN) (by simp)
  have e3 : N3 = c3 := hp _ (by simp)
  have z3 : 0 < c3 := hp (0 < c3) (by simp)
  have l3 : c3 ≤ limN := hp (c3 ≤ limN) (by simp)
  have e4 : N4 = c4 := hp _ (by simp)
  have z4 : 0 < c4 := hp (0 < c4) (by simp)
  have l4 : c4 ≤ limN := hp (c4 ≤ limN) (by simp)
  subst e0
  subst e2
  subst e3
  subst e4
  obtain ⟨m0, rfl⟩ : ∃ m, N0 = m + 1 := ⟨N0 - 1, by omega⟩
  obtain ⟨m2, rfl⟩ : ∃ m, N2 = m + 1 := ⟨N2 - 1, by omega⟩
  obtain ⟨m3, rfl⟩ : ∃ m, N3 = m + 1 := ⟨N3 - 1, by omega⟩
  obtain ⟨m4, rfl⟩ : ∃ m, N4 = m + 1 := ⟨N4 - 1, by omega⟩
  have ne : ∀ i j, i < 6 → j < 6 → i ≠ j → nthN [l, b0, b1, b2, b3, b4] i ≠ nthN [l, b0, b1, b2, b3, b4] j := fun i j hi hj hij e => hij (nodupB_spec hnd i j (by simpa using hi) (by simpa using hj) e)
  have kl : bk [l, b0, b1, b2, b3, b4] l = 0 := by simp [bk, idxN]
  have x10 : Nat.beq b0 l = false := beqf (show b0 ≠ l from ne 1 0 (by omega) (by omega) (by omega))
  have kb0 : bk [l, b0, b1, b2, b3, b4] b0 = 1 := by simp [bk, idxN, x10]
  have x20 : Nat.beq b1 l = false := beqf (show b1 ≠ l from ne 2 0 (by omega) (by omega) (by omega))
  have x21 : Nat.beq b1 b0 = false := beqf (show b1 ≠ b0 from ne 2 1 (by omega) (by omega) (by omega))
  have kb1 : bk [l, b0, b1, b2, b3, b4] b1 = 2 := by simp [bk, idxN, x20, x21]
  have x30 : Nat.beq b2 l = false := beqf (show b2 ≠ l from ne 3 0 (by omega) (by omega) (by omega))
  have x31 : Nat.beq b2 b0 = false := beqf (show b2 ≠ b0 from ne 3 1 (by omega) (by omega) (by omega))
  have x32 : Nat.beq b2 b1 = false := beqf (show b2 ≠ b1 from ne 3 2 (by omega) (by omega) (by omega))
  have kb2 : bk [l, b0, b1, b2, b3, b4] b2 = 3 := by simp [bk, idxN, x30, x31, x32]
  have x40 : Nat.beq b3 l = false := beqf (show b3 ≠ l from ne 4 0 (by omega) (by omega) (by omega))
  have x41 : Nat.beq b3 b0 = false := beqf (show b3 ≠ b0 from ne 4 1 (by omega) (by omega) (by omega))
  have x42 : Nat.beq b3 b1 = false := beqf (show b3 ≠ b1 from ne 4 2 (by omega) (by omega) (by omega))
  have x43 : Nat.beq b3 b2 = false := beqf (show b3 ≠ b2 from ne 4 3 (by omega) (by omega) (by omega))
  have kb3 : bk [l, b0, b1, b2, b3, b4] b3 = 4 := by simp [bk, idxN, x40, x41, x42, x43]
  have x50 : Nat.beq b4 l = false := beqf (show b4 ≠ l from ne 5 0 (by omega) (by omega) (by omega))
  have x51 : Nat.beq b4 b0 = false := beqf (show b4 ≠ b0 from ne 5 1 (by omega) (by omega) (by omega))
  have x52 : Nat.beq b4 b1 = false := beqf (show b4 ≠ b1 from ne 5 2 (by omega) (by omega) (by omega))
  have x53 : Nat.beq b4 b2 = false := beqf (show b4 ≠ b2 from ne 5 3 (by omega) (by omega) (by omega))
  have x54 : Nat.beq b4 b3 = false := beqf (show b4 ≠ b3 from ne 5 4 (by omega) (by omega) (by omega))
  have kb4 : bk [l, b0, b1, b2, b3, b4] b4 = 5 := by simp [bk, idxN, x50, x51, x52, x53, x54]
  have hpk : pickH [l, b0, b1, b2, b3, b4] h [l, b0, b1, b2, b3, b4] = [some ⟨tl, [.one (.sl 1 0 n0 (m0 + 1)), .one (.sl 2 0 0 0), .one (.sl 3 0 n2 (m2 + 1)), .one (.sl 4 0 n3 (m3 + 1)), .one (.sl 5 0 n4 (m4 + 1))], 0, 0⟩, oB t0 (m0 + 1) f0, oB t1 0 f1, oB t2 (m2 + 1) f2, oB t3 (m3 + 1) f3, oB t4 (m4 + 1) f4] := by
    show [pickB [l, b0, b1, b2, b3, b4] (hget h l), pickB [l, b0, b1, b2, b3, b4] (hget h b0), pickB [l, b0, b1, b2, b3, b4] (hget h b1), pickB [l, b0, b1, b2, b3, b4] (hget h b2), pickB [l, b0, b1, b2, b3, b4] (hget h b3), pickB [l, b0, b1, b2, b3, b4] (hget h b4)] = _
    rw [hl, g0, g1, g2, g3, g4]
    simp only [pickB, bkBlk, bkCells, bkCell, bkSc, kb0, kb1, kb2, kb3, kb4]
  have hchk : chkB [l, b0, b1, b2, b3, b4] [some ⟨tl, [.one (.sl 1 0 n0 (m0 + 1)), .one (.sl 2 0 0 0), .one (.sl 3 0 n2 (m2 + 1)), .one (.sl 4 0 n3 (m3 + 1)), .one (.sl 5 0 n4 (m4 + 1))], 0, 0⟩, oB t0 (m0 + 1) f0, oB t1 0 f1, oB t2 (m2 + 1) f2, oB t3 (m3 + 1) f3, oB t4 (m4 + 1) f4] = true := by
    unfold chkB
    rw [hnd]; rfl
  have hlv : ∀ i, i < 6 → Lv [some ⟨tl, [.one (.sl 1 0 n0 (m0 + 1)), .one (.sl 2 0 0 0), .one (.sl 3 0 n2 (m2 + 1)), .one (.sl 4 0 n3 (m3 + 1)), .one (.sl 5 0 n4 (m4 + 1))], 0, 0⟩, oB t0 (m0 + 1) f0, oB t1 0 f1, oB t2 (m2 + 1) f2, oB t3 (m3 + 1) f3, oB t4 (m4 + 1) f4] i := fun i hi => by
    have : i = 0 ∨ i = 1 ∨ i = 2 ∨ i = 3 ∨ i = 4 ∨ i = 5 := by omega
    rcases this with rfl | rfl | rfl | rfl | rfl | rfl <;> exact ⟨_, rfl, by simp⟩
  refine mem_walk tt_ok Try.func17 (by kernel_rfl) (by kernel_rfl) [l, b0, b1, b2, b3, b4] [] 0 [some ⟨tl, [.one (.sl 1 0 n0 (m0 + 1)), .one (.sl 2 0 0 0), .one (.sl 3 0 n2 (m2 + 1)), .one (.sl 4 0 n3 (m3 + 1)), .one (.sl 5 0 n4 (m4 + 1))], 0, 0⟩, oB t0 (m0 + 1) f0, oB t1 0 f1, oB t2 (m2 + 1) f2, oB t3 (m3 + 1) f3, oB t4 (m4 + 1) f4] [some ⟨tl, [.one (.sl 1 0 n0 (m0 + 1)), .one (.sl 2 0 0 0), .one (.sl 3 0 n2 (m2 + 1)), .one (.sl 4 0 n3 (m3 + 1)), .one (.sl 5 0 n4 (m4 + 1))], 0, 0⟩, oB t0 (m0 + 1) f0, oB t1 0 f1, oB t2 (m2 + 1) f2, oB t3 (m3 + 1) f3, oB t4 (m4 + 1) f4] (args' := [.v1 (.sc (.sl 0 0 5 5))]) (vK := .v1 (.sc (.bo true)))
    hchk hpk (by kernel_rfl) ?_ (by kernel_rfl) hlv (by kernel_rfl) (by kernel_rfl) (fun i hi => (hlv i (by simpa using hi)).dm) hchk hpk rfl (fun t ht => by simp at ht) (fun _ _ _ => rfl) (apWalkSZSSS l0 l2 l3 l4)
  show [AV.v1 (.sc (.sl (bk [l, b0, b1, b2, b3, b4] l) 0 5 5))] = _
  rw [kl]
/-! SNNSS -/
theorem apWalkSNNSS {tl n0 m0 t0 n3 m3 t3 n4 m4 t4 : Nat} {f0 f3 f4 : Nat → Nat} (h0 : m0 + 1 ≤ limN) (h3 : m3 + 1 ≤ limN) (h4 : m4 + 1 ≤ limN) :
    AWqS Try.prog (Dm [some ⟨tl, [.one (.sl 1 0 n0 (m0 + 1)), .one (.rw (.slice none 0 0)), .one (.rw (.slice none 0 0)), .one (.sl 2 0 n3 (m3 + 1)), .one (.sl 3 0 n4 (m4 + 1))], 0, 0⟩, oB t0 (m0 + 1) f0, oB t3 (m3 + 1) f3, oB t4 (m4 + 1) f4]) (flatC (bodyOf Try.f17)) (FEndM tt Try.f17 [0,1,2,3] (.v1 (.sc (.bo true))) [some ⟨tl, [.one (.sl 1 0 n0 (m0 + 1)), .one (.rw (.slice none 0 0)), .one (.rw (.slice none 0 0)), .one (.sl 2 0 n3 (m3 + 1)), .one (.sl 3 0 n4 (m4 + 1))], 0, 0⟩, oB t0 (m0 + 1) f0, oB t3 (m3 + 1) f3, oB t4 (m4 + 1) f4]) ⟨frame0 [.v1 (.sc (.sl 0 0 5 5))] Try.f17.ntmps, [some ⟨tl, [.one (.sl 1 0 n0 (m0 + 1)), .one (.rw (.slice none 0 0)), .one (.rw (.slice none 0 0)), .one (.sl 2 0 n3 (m3 + 1)), .one (.sl 3 0 n4 (m4 + 1))], 0, 0⟩, oB t0 (m0 + 1) f0, oB t3 (m3 + 1) f3, oB t4 (m4 + 1) f4]⟩ := by
  have hb : ∀ m : Nat, Int.ofNat (m + 1) < ((m + 1 + 1 : Nat) : Int) := fun m => by simp only [Int.ofNat_eq_natCast]; omega
  refine evS_q mixed tt_ok gAp_ok 900 [⟨8,11,.sym⟩,⟨8,11,.sym⟩,⟨8,11,.sym⟩,⟨8,11,.sym⟩,⟨8,11,.sym⟩,⟨13,13,.sym⟩,⟨13,18,.lit (.bo true)⟩,⟨13,13,.sym⟩,⟨13,18,.lit (.bo true)⟩,⟨13,13,.sym⟩,⟨13,18,.lit (.bo true)⟩,⟨13,13,.sym⟩,⟨13,18,.lit (.bo true)⟩,⟨13,13,.sym⟩,⟨13,18,.lit (.bo true)⟩,⟨8,11,.sym⟩,⟨8,11,.sym⟩,⟨8,11,.sym⟩,⟨8,11,.sym⟩,⟨8,11,.sym⟩,⟨13,13,.sym⟩,⟨13,18,.lit (.bo true)⟩,⟨13,13,.sym⟩,⟨13,18,.lit (.bo true)⟩,⟨13,13,.sym⟩,⟨13,18,.lit (.bo true)⟩,⟨13,13,.sym⟩,⟨13,18,.lit (.bo true)⟩,⟨13,13,.sym⟩,⟨13,18,.lit (.bo true)⟩,⟨8,11,.sym⟩,⟨8,11,.sym⟩,⟨8,11,.sym⟩,⟨8,11,.sym⟩,⟨8,11,.sym⟩,⟨13,13,.sym⟩,⟨13,18,.lit (.bo true)⟩,⟨13,13,.sym⟩,⟨13,18,.lit (.bo true)⟩,⟨13,13,.sym⟩,⟨13,18,.lit (.bo true)⟩,⟨13,13,.sym⟩,⟨13,18,.lit (.bo true)⟩,⟨13,13,.sym⟩,⟨13,18,.lit (.bo true)⟩,⟨8,11,.sym⟩,⟨8,11,.sym⟩,⟨8,11,.sym⟩,⟨8,11,.sym⟩,⟨8,11,.sym⟩,⟨13,13,.sym⟩,⟨13,18,.lit (.bo true)⟩,⟨13,13,.sym⟩,⟨13,18,.lit (.bo true)⟩,⟨13,13,.sym⟩,⟨13,18,.lit (.bo true)⟩,⟨13,13,.sym⟩,⟨13,18,.lit (.bo true)⟩,⟨13,13,.sym⟩,⟨13,18,.lit (.bo true)⟩,⟨8,11,.sym⟩,⟨8,11,.sym⟩,⟨8,11,.sym⟩,⟨8,11,.sym⟩,⟨8,11,.sym⟩,⟨13,13,.sym⟩,⟨13,18,.lit (.bo true)⟩,⟨13,13,.sym⟩,⟨13,18,.lit (.bo true)⟩,⟨13,13,.sym⟩,⟨13,18,.lit (.bo true)⟩,⟨13,13,.sym⟩,⟨13,18,.lit (.bo true)⟩,⟨13,13,.sym⟩,⟨13,18,.lit (.bo true)⟩] (same (p := 0 ≤ Int.ofNat (m0 + 1) ∧ Int.ofNat (m0 + 1) < ((m0 + 1 + 1 : Nat) : Int) ∧ 0 + (m0 + 1) ≤ m0 + 1 ∧ m0 + 1 = m0 + 1 ∧ m0 + 1 ≤ limN ∧ 0 ≤ Int.ofNat 0 ∧ Int.ofNat 0 < ((0 + 1 : Nat) : Int) ∧ 0 ≤ Int.ofNat 0 ∧ Int.ofNat 0 < ((0 + 1 : Nat) : Int) ∧ 0 ≤ Int.ofNat (m3 + 1) ∧ Int.ofNat (m3 + 1) < ((m3 + 1 + 1 : Nat) : Int) ∧ 0 + (m3 + 1) ≤ m3 + 1 ∧ m3 + 1 = m3 + 1 ∧ m3 + 1 ≤ limN ∧ 0 ≤ Int.ofNat (m4 + 1) ∧ Int.ofNat (m4 + 1) < ((m4 + 1 + 1 : Nat) : Int) ∧ 0 + (m4 + 1) ≤ m4 + 1 ∧ m4 + 1 = m4 + 1 ∧ m4 + 1 ≤ limN ∧ m0 + 1 = m0 + 1 ∧ 0 < m0 + 1 ∧ m0 + 1 < 9223372036854775807 ∧ 0 ≤ Int.ofNat 0 ∧ Int.ofNat 0 < ((0 + 1 : Nat) : Int) ∧ eqStr 0 (fun _ => 0) 0 (fun j => (fun _ => 0) (addN 0 j)) = true ∧ 0 + 0 ≤ 0 ∧ 0 ≤ 0 ∧ 0 ≤ Int.ofNat 0 ∧ Int.ofNat 0 < ((0 + 1 : Nat) : Int) ∧ eqStr 0 (fun _ => 0) 0 (fun j => (fun _ => 0) (addN 0 j)) = true ∧ 0 + 0 ≤ 0 ∧ 0 ≤ 0 ∧ 0 ≤ Int.ofNat (m3 + 1) ∧ Int.ofNat (m3 + 1) < ((m3 + 1 + 1 : Nat) : Int) ∧ eqStr (m3 + 1) (fun j => f3 (addN 0 j)) (m3 + 1) (fun j => f3 (addN 0 j)) = true ∧ 0 + (m3 + 1) ≤ m3 + 1 ∧ m3 + 1 ≤ m3 + 1 ∧ m3 + 1 ≤ m3 + 1 ∧ 0 ≤ Int.ofNat (m4 + 1) ∧ Int.ofNat (m4 + 1) < ((m4 + 1 + 1 : Nat) : Int) ∧ eqStr (m4 + 1) (fun j => f4 (addN 0 j)) (m4 + 1) (fun j => f4 (addN 0 j)) = true ∧ 0 + (m4 + 1) ≤ m4 + 1 ∧ m4 + 1 ≤ m4 + 1 ∧ m4 + 1 ≤ m4 + 1 ∧ m0 + 1 = m0 + 1 ∧ 0 < m0 + 1 ∧ m0 + 1 < 9223372036854775807 ∧ 0 ≤ Int.ofNat (m0 + 1) ∧ Int.ofNat (m0 + 1) < ((m0 + 1 + 1 : Nat) : Int) ∧ 0 + (m0 + 1) ≤ m0 + 1 ∧ m0 + 1 = m0 + 1 ∧ m0 + 1 ≤ limN ∧ 0 ≤ Int.ofNat 0 ∧ Int.ofNat 0 < ((0 + 1 : Nat) : Int) ∧ 0 ≤ Int.ofNat 0 ∧ Int.ofNat 0 < ((0 + 1 : Nat) : Int) ∧ 0 ≤ Int.ofNat (m3 + 1) ∧ Int.ofNat (m3 + 1) < ((m3 + 1 + 1 : Nat) : Int) ∧ 0 + (m3 + 1) ≤ m3 + 1 ∧ m3 + 1 = m3 + 1 ∧ m3 + 1 ≤ limN ∧ 0 ≤ Int.ofNat (m4 + 1) ∧ Int.ofNat (m4 + 1) < ((m4 + 1 + 1 : Nat) : Int) ∧ 0 + (m4 + 1) ≤ m4 + 1 ∧ m4 + 1 = m4 + 1 ∧ m4 + 1 ≤ limN ∧ 0 ≤ Int.ofNat (m0 + 1) ∧ Int.ofNat (m0 + 1) < ((m0 + 1 + 1 : Nat) : Int) ∧ eqStr (m0 + 1) (fun j => (ovF (ovF f0)) (addN 0 j)) (m0 + 1) (fun j => (ovF (ovF f0)) (addN 0 j)) = true ∧ 0 + (m0 + 1) ≤ m0 + 1 ∧ m0 + 1 ≤ m0 + 1 ∧ m0 + 1 ≤ m0 + 1 ∧ 0 ≤ Int.ofNat 0 ∧ Int.ofNat 0 < ((0 + 1 : Nat) : Int) ∧ eqStr 0 (fun _ => 0) 0 (fun j => (fun _ => 0) (addN 0 j)) = true ∧ 0 + 0 ≤ 0 ∧ 0 ≤ 0 ∧ 0 ≤ Int.ofNat (m3 + 1) ∧ Int.ofNat (m3 + 1) < ((m3 + 1 + 1 : Nat) : Int) ∧ eqStr (m3 + 1) (fun j => f3 (addN 0 j)) (m3 + 1) (fun j => f3 (addN 0 j)) = true ∧ 0 + (m3 + 1) ≤ m3 + 1 ∧ m3 + 1 ≤ m3 + 1 ∧ m3 + 1 ≤ m3 + 1 ∧ 0 ≤ Int.ofNat (m4 + 1) ∧ Int.ofNat (m4 + 1) < ((m4 + 1 + 1 : Nat) : Int) ∧ eqStr (m4 + 1) (fun j => f4 (addN 0 j)) (m4 + 1) (fun j => f4 (addN 0 j)) = true ∧ 0 + (m4 + 1) ≤ m4 + 1 ∧ m4 + 1 ≤ m4 + 1 ∧ m4 + 1 ≤ m4 + 1 ∧ 0 ≤ Int.ofNat (m0 + 1) ∧ Int.ofNat (m0 + 1) < ((m0 + 1 + 1 : Nat) : Int) ∧ 0 + (m0 + 1) ≤ m0 + 1 ∧ m0 + 1 = m0 + 1 ∧ m0 + 1 ≤ limN ∧ 0 ≤ Int.ofNat 0 ∧ Int.ofNat 0 < ((0 + 1 : Nat) : Int) ∧ 0 ≤ Int.ofNat 0 ∧ Int.ofNat 0 < ((0 + 1 : Nat) : Int) ∧ 0 ≤ Int.ofNat (m3 + 1) ∧ Int.ofNat (m3 + 1) < ((m3 + 1 + 1 : Nat) : Int) ∧ 0 + (m3 + 1) ≤ m3 + 1 ∧ m3 + 1 = m3 + 1 ∧ m3 + 1 ≤ limN ∧ 0 ≤ Int.ofNat (m4 + 1) ∧ Int.ofNat (m4 + 1) < ((m4 + 1 + 1 : Nat) : Int) ∧ 0 + (m4 + 1) ≤ m4 + 1 ∧ m4 + 1 = m4 + 1 ∧ m4 + 1 ≤ limN ∧ 0 ≤ Int.ofNat (m0 + 1) ∧ Int.ofNat (m0 + 1) < ((m0 + 1 + 1 : Nat) : Int) ∧ eqStr (m0 + 1) (fun j => (ovF (ovF f0)) (addN 0 j)) (m0 + 1) (fun j => (ovF (ovF f0)) (addN 0 j)) = true ∧ 0 + (m0 + 1) ≤ m0 + 1 ∧ m0 + 1 ≤ m0 + 1 ∧ m0 + 1 ≤ m0 + 1 ∧ 0 ≤ Int.ofNat 0 ∧ Int.ofNat 0 < ((0 + 1 : Nat) : Int) ∧ eqStr 0 (fun _ => 0) 0 (fun j => (fun _ => 0) (addN 0 j)) = true ∧ 0 + 0 ≤ 0 ∧ 0 ≤ 0 ∧ 0 ≤ Int.ofNat (m3 + 1) ∧ Int.ofNat (m3 + 1) < ((m3 + 1 + 1 : Nat) : Int) ∧ eqStr (m3 + 1) (fun j => f3 (addN 0 j)) (m3 + 1) (fun j => f3 (addN 0 j)) = true ∧ 0 + (m3 + 1) ≤ m3 + 1 ∧ m3 + 1 ≤ m3 + 1 ∧ m3 + 1 ≤ m3 + 1 ∧ 0 ≤ Int.ofNat (m4 + 1) ∧ Int.ofNat (m4 + 1) < ((m4 + 1 + 1 : Nat) : Int) ∧ eqStr (m4 + 1) (fun j => f4 (addN 0 j)) (m4 + 1) (fun j => f4 (addN 0 j)) = true ∧ 0 + (m4 + 1) ≤ m4 + 1 ∧ m4 + 1 ≤ m4 + 1 ∧ m4 + 1 ≤ m4 + 1 ∧ 0 ≤ Int.ofNat (m0 + 1) ∧ Int.ofNat (m0 + 1) < ((m0 + 1 + 1 : Nat) : Int) ∧ 0 + (m0 + 1) ≤ m0 + 1 ∧ m0 + 1 = m0 + 1 ∧ m0 + 1 ≤ limN ∧ 0 ≤ Int.ofNat 0 ∧ Int.ofNat 0 < ((0 + 1 : Nat) : Int) ∧ 0 ≤ Int.ofNat 0 ∧ Int.ofNat 0 < ((0 + 1 : Nat) : Int) ∧ 0 ≤ Int.ofNat (m3 + 1) ∧ Int.ofNat (m3 + 1) < ((m3 + 1 + 1 : Nat) : Int) ∧ 0 + (m3 + 1) ≤ m3 + 1 ∧ m3 + 1 = m3 + 1 ∧ m3 + 1 ≤ limN ∧ 0 ≤ Int.ofNat (m4 + 1) ∧ Int.ofNat (m4 + 1) < ((m4 + 1 + 1 : Nat) : Int) ∧ 0 + (m4 + 1) ≤ m4 + 1 ∧ m4 + 1 = m4 + 1 ∧ m4 + 1 ≤ limN ∧ m3 + 1 = m3 + 1 ∧ 0 < m3 + 1 ∧ m3 + 1 < 9223372036854775807 ∧ 0 ≤ Int.ofNat (m0 + 1) ∧ Int.ofNat (m0 + 1) < ((m0 + 1 + 1 : Nat) : Int) ∧ eqStr (m0 + 1) (fun j => (ovF (ovF f0)) (addN 0 j)) (m0 + 1) (fun j => (ovF (ovF f0)) (addN 0 j)) = true ∧ 0 + (m0 + 1) ≤ m0 + 1 ∧ m0 + 1 ≤ m0 + 1 ∧ m0 + 1 ≤ m0 + 1 ∧ 0 ≤ Int.ofNat 0 ∧ Int.ofNat 0 < ((0 + 1 : Nat) : Int) ∧ eqStr 0 (fun _ => 0) 0 (fun j => (fun _ => 0) (addN 0 j)) = true ∧ 0 + 0 ≤ 0 ∧ 0 ≤ 0 ∧ 0 ≤ Int.ofNat 0 ∧ Int.ofNat 0 < ((0 + 1 : Nat) : Int) ∧ eqStr 0 (fun _ => 0) 0 (fun j => (fun _ => 0) (addN 0 j)) = true ∧ 0 + 0 ≤ 0 ∧ 0 ≤ 0 ∧ 0 ≤ Int.ofNat (m4 + 1) ∧ Int.ofNat (m4 + 1) < ((m4 + 1 + 1 : Nat) : Int) ∧ eqStr (m4 + 1) (fun j => f4 (addN 0 j)) (m4 + 1) (fun j => f4 (addN 0 j)) = true ∧ 0 + (m4 + 1) ≤ m4 + 1 ∧ m4 + 1 ≤ m4 + 1 ∧ m4 + 1 ≤ m4 + 1 ∧ m3 + 1 = m3 + 1 ∧ 0 < m3 + 1 ∧ m3 + 1 < 9223372036854775807 ∧ 0 ≤ Int.ofNat (m0 + 1) ∧ Int.ofNat (m0 + 1) < ((m0 + 1 + 1 : Nat) : Int) ∧ 0 + (m0 + 1) ≤ m0 + 1 ∧ m0 + 1 = m0 + 1 ∧ m0 + 1 ≤ limN ∧ 0 ≤ Int.ofNat 0 ∧ Int.ofNat 0 < ((0 + 1 : Nat) : Int) ∧ 0 ≤ Int.ofNat 0 ∧ Int.ofNat 0 < ((0 + 1 : Nat) : Int) ∧ 0 ≤ Int.ofNat (m3 + 1) ∧ Int.ofNat (m3 + 1) < ((m3 + 1 + 1 : Nat) : Int) ∧ 0 + (m3 + 1) ≤ m3 + 1 ∧ m3 + 1 = m3 + 1 ∧ m3 + 1 ≤ limN ∧ 0 ≤ Int.ofNat (m4 + 1) ∧ Int.ofNat (m4 + 1) < ((m4 + 1 + 1 : Nat) : Int) ∧ 0 + (m4 + 1) ≤ m4 + 1 ∧ m4 + 1 = m4 + 1 ∧ m4 + 1 ≤ limN ∧ m4 + 1 = m4 + 1 ∧ 0 < m4 + 1 ∧ m4 + 1 < 9223372036854775807 ∧ 0 ≤ Int.ofNat (m0 + 1) ∧ Int.ofNat (m0 + 1) < ((m0 + 1 + 1 : Nat) : Int) ∧ eqStr (m0 + 1) (fun j => (ovF (ovF f0)) (addN 0 j)) (m0 + 1) (fun j => (ovF (ovF f0)) (addN 0 j)) = true ∧ 0 + (m0 + 1) ≤ m0 + 1 ∧ m0 + 1 ≤ m0 + 1 ∧ m0 + 1 ≤ m0 + 1 ∧ 0 ≤ Int.ofNat 0 ∧ Int.ofNat 0 < ((0 + 1 : Nat) : Int) ∧ eqStr 0 (fun _ => 0) 0 (fun j => (fun _ => 0) (addN 0 j)) = true ∧ 0 + 0 ≤ 0 ∧ 0 ≤ 0 ∧ 0 ≤ Int.ofNat 0 ∧ Int.ofNat 0 < ((0 + 1 : Nat) : Int) ∧ eqStr 0 (fun _ => 0) 0 (fun j => (fun _ => 0) (addN 0 j)) = true ∧ 0 + 0 ≤ 0 ∧ 0 ≤ 0 ∧ 0 ≤ Int.ofNat (m3 + 1) ∧ Int.ofNat (m3 + 1) < ((m3 + 1 + 1 : Nat) : Int) ∧ eqStr (m3 + 1) (fun j => (ovF (ovF f3)) (addN 0 j)) (m3 + 1) (fun j => (ovF (ovF f3)) (addN 0 j)) = true ∧ 0 + (m3 + 1) ≤ m3 + 1 ∧ m3 + 1 ≤ m3 + 1 ∧ m3 + 1 ≤ m3 + 1 ∧ m4 + 1 = m4 + 1 ∧ 0 < m4 + 1 ∧ m4 + 1 < 9223372036854775807 ∧ endM [0,1,2,3] [some ⟨tl, [.one (.sl 1 0 n0 (m0 + 1)), .one (.rw (.slice none 0 0)), .one (.rw (.slice none 0 0)), .one (.sl 2 0 n3 (m3 + 1)), .one (.sl 3 0 n4 (m4 + 1))], 0, 0⟩, oB t0 (m0 + 1) (ovF (ovF f0)), oB t3 (m3 + 1) (ovF (ovF f3)), oB t4 (m4 + 1) (ovF (ovF f4))] [some ⟨tl, [.one (.sl 1 0 n0 (m0 + 1)), .one (.rw (.slice none 0 0)), .one (.rw (.slice none 0 0)), .one (.sl 2 0 n3 (m3 + 1)), .one (.sl 3 0 n4 (m4 + 1))], 0, 0⟩, oB t0 (m0 + 1) f0, oB t3 (m3 + 1) f3, oB t4 (m4 + 1) f4] (.v1 (.sc (.bo true))) (.v1 (.sc (.bo true)))) ?_ (by kernel_rfl))
  exact ⟨Int.natCast_nonneg _, hb m0, by omega, rfl, h0, Int.natCast_nonneg _, by decide, Int.natCast_nonneg _, by decide, Int.natCast_nonneg _, hb m3, by omega, rfl, h3, Int.natCast_nonneg _, hb m4, by omega, rfl, h4, rfl, by omega, lim63 h0, Int.natCast_nonneg _, by decide, rfl, Nat.le_refl _, Nat.le_refl _, Int.natCast_nonneg _, by decide, rfl, Nat.le_refl _, Nat.le_refl _, Int.natCast_nonneg _, hb m3, eqStr_self, by omega, Nat.le_refl _, Nat.le_refl _, Int.natCast_nonneg _, hb m4, eqStr_self, by omega, Nat.le_refl _, Nat.le_refl _, rfl, by omega, lim63 h0, Int.natCast_nonneg _, hb m0, by omega, rfl, h0, Int.natCast_nonneg _, by decide, Int.natCast_nonneg _, by decide, Int.natCast_nonneg _, hb m3, by omega, rfl, h3, Int.natCast_nonneg _, hb m4, by omega, rfl, h4, Int.natCast_nonneg _, hb m0, eqStr_self, by omega, Nat.le_refl _, Nat.le_refl _, Int.natCast_nonneg _, by decide, rfl, Nat.le_refl _, Nat.le_refl _, Int.natCast_nonneg _, hb m3, eqStr_self, by omega, Nat.le_refl _, Nat.le_refl _, Int.natCast_nonneg _, hb m4, eqStr_self, by omega, Nat.le_refl _, Nat.le_refl _, Int.natCast_nonneg _, hb m0, by omega, rfl, h0, Int.natCast_nonneg _, by decide, Int.natCast_nonneg _, by decide, Int.natCast_nonneg _, hb m3, by omega, rfl, h3, Int.natCast_nonneg _, hb m4, by omega, rfl, h4, Int.natCast_nonneg _, hb m0, eqStr_self, by omega, Nat.le_refl _, Nat.le_refl _, Int.natCast_nonneg _, by decide, rfl, Nat.le_refl _, Nat.le_refl _, Int.natCast_nonneg _, hb m3, eqStr_self, by omega, Nat.le_refl _, Nat.le_refl _, Int.natCast_nonneg _, hb m4, eqStr_self, by omega, Nat.le_refl _, Nat.le_refl _, Int.natCast_nonneg _, hb m0, by omega, rfl, h0, Int.natCast_nonneg _, by decide, Int.natCast_nonneg _, by decide, Int.natCast_nonneg _, hb m3, by omega, rfl, h3, Int.natCast_nonneg _, hb m4, by omega, rfl, h4, rfl, by omega, lim63 h3, Int.natCast_nonneg _, hb m0, eqStr_self, by omega, Nat.le_refl _, Nat.le_refl _, Int.natCast_nonneg _, by decide, rfl, Nat.le_refl _, Nat.le_refl _, Int.natCast_nonneg _, by decide, rfl, Nat.le_refl _, Nat.le_refl _, Int.natCast_nonneg _, hb m4, eqStr_self, by omega, Nat.le_refl _, Nat.le_refl _, rfl, by omega, lim63 h3, Int.natCast_nonneg _, hb m0, by omega, rfl, h0, Int.natCast_nonneg _, by decide, Int.natCast_nonneg _, by decide, Int.natCast_nonneg _, hb m3, by omega, rfl, h3, Int.natCast_nonneg _, hb m4, by omega, rfl, h4, rfl, by omega, lim63 h4, Int.natCast_nonneg _, hb m0, eqStr_self, by omega, Nat.le_refl _, Nat.le_refl _, Int.natCast_nonneg _, by decide, rfl, Nat.le_refl _, Nat.le_refl _, Int.natCast_nonneg _, by decide, rfl, Nat.le_refl _, Nat.le_refl _, Int.natCast_nonneg _, hb m3, eqStr_self, by omega, Nat.le_refl _, Nat.le_refl _, rfl, by omega, lim63 h4, by simp only [ovF_ovF]; exact endM_same rfl rfl⟩
def cApartSNNSS (args : List AV) (h : Heap) (_ : Nat) : Option (List Prop × AV × Heap) :=
  match args with
  | [.v1 (.sc (.sl l 0 5 5))] => match hget h l with
    | some ⟨tl, [.one (.sl b0 0 n0 c0), .one (.rw (.slice none 0 0)), .one (.rw (.slice none 0 0)), .one (.sl b3 0 n3 c3), .one (.sl b4 0 n4 c4)], 0, 0⟩ => match hget h b0, hget h b3, hget h b4 with
      | some ⟨t0, [.ws .u8 N0 f0], 0, 0⟩, some ⟨t3, [.ws .u8 N3 f3], 0, 0⟩, some ⟨t4, [.ws .u8 N4 f4], 0, 0⟩ => match nodupB [l, b0, b3, b4] with
        | true => some ([N0 = c0, 0 < c0, c0 ≤ limN, N3 = c3, 0 < c3, c3 ≤ limN, N4 = c4, 0 < c4, c4 ≤ limN], .v1 (.sc (.bo true)), h)
        | false => none
      | _, _, _ => none
    | _ => none
  | _ => none
theorem okApartSNNSS : (CallC.mem cApartSNNSS).Ok Try.prog 17 := by
  intro args h slot pre v h' e hp
  unfold cApartSNNSS at e
  split at e
  rotate_left
  · cases e
  rename_i l
  split at e
  rotate_left
  · cases e
  rename_i tl b0 n0 c0 b3 n3 c3 b4 n4 c4 hl
  split at e
  rotate_left
  · cases e
  rename_i t0 N0 f0 t3 N3 f3 t4 N4 f4 g0 g3 g4
  split at e
  rotate_left
  · cases e
  rename_i hnd
  cases e
  have e0 : N0 = c0 := hp _ (by simp)
  have z0 : 0 < c0 := hp (0 < c0) (by simp)
  have l0 : c0 ≤ limN := hp (c0 ≤ limN) (by simp)
  have e3 : N3 = c3 := hp _ (by simp)
  have z3 : 0 < c3 := hp (0 < c3) (by simp)
  have l3 : c3 ≤ limN := hp (c3 ≤ limN) (by simp)
  have e4 : N4 = c4 := hp _ (by simp)
  have z4 : 0 < c4 := hp (0 < c4) (by simp)
  have l4 : c4 ≤ limN := hp (c4 ≤ limN) (by simp)
  subst e0
  subst e3
  subst e4
  obtain ⟨m0, rfl⟩ : ∃ m, N0 = m + 1 := ⟨N0 - 1, by omega⟩
  obtain ⟨m3, rfl⟩ : ∃ m, N3 = m + 1 := ⟨N3 - 1, by omega⟩
  obtain ⟨m4, rfl⟩ : ∃ m, N4 = m + 1 := ⟨N4 - 1, by omega⟩
  have ne : ∀ i j, i < 4 → j < 4 → i ≠ j → nthN [l, b0, b3, b4] i ≠ nthN [l, b0, b3, b4] j := fun i j hi hj hij e => hij (nodupB_spec hnd i j (by simpa using hi) (by simpa using hj) e)
  have kl : bk [l, b0, b3, b4] l = 0 := by simp [bk, idxN]
  have x10 : Nat.beq b0 l = false := beqf (show b0 ≠ l from ne 1 0 (by omega) (by omega) (by omega))
  have kb0 : bk [l, b0, b3, b4] b0 = 1 := by simp [bk, idxN, x10]
  have x20 : Nat.beq b3 l = false := beqf (show b3 ≠ l from ne 2 0 (by omega) (by omega) (by omega))
  have x21 : Nat.beq b3 b0 = false := beqf (show b3 ≠ b0 from ne 2 1 (by omega) (by omega) (by omega))
  have kb3 : bk [l, b0, b3, b4] b3 = 2 := by simp [bk, idxN, x20, x21]
  have x30 : Nat.beq b4 l = false := beqf (show b4 ≠ l from ne 3 0 (by omega) (by omega) (by omega))
  have x31 : Nat.beq b4 b0 = false := beqf (show b4 ≠ b0 from ne 3 1 (by omega) (by omega) (by omega))
  have x32 : Nat.beq b4 b3 = false := beqf (show b4 ≠ b3 from ne 3 2 (by omega) (by omega) (by omega))
  have kb4 : bk [l, b0, b3, b4] b4 = 3 := by simp [bk, idxN, x30, x31, x32]
  have hpk : pickH [l, b0, b3, b4] h [l, b0, b3, b4] = [some ⟨tl, [.one (.sl 1 0 n0 (m0 + 1)), .one (.rw (.slice none 0 0)), .one (.rw (.slice none 0 0)), .one (.sl 2 0 n3 (m3 + 1)), .one (.sl 3 0 n4 (m4 + 1))], 0, 0⟩, oB t0 (m0 + 1) f0, oB t3 (m3 + 1) f3, oB t4 (m4 + 1) f4] := by
    show [pickB [l, b0, b3, b4] (hget h l), pickB [l, b0, b3, b4] (hget h b0), pickB [l, b0, b3, b4] (hget h b3), pickB [l, b0, b3, b4] (hget h b4)] = _
    rw [hl, g0, g3, g4]
    simp only [pickB, bkBlk, bkCells, bkCell, bkSc, kb0, kb3, kb4]
  have hchk : chkB [l, b0, b3, b4] [some ⟨tl, [.one (.sl 1 0 n0 (m0 + 1)), .one (.rw (.slice none 0 0)), .one (.rw (.slice none 0 0)), .one (.sl 2 0 n3 (m3 + 1)), .one (.sl 3 0 n4 (m4 + 1))], 0, 0⟩, oB t0 (m0 + 1) f0, oB t3 (m3 + 1) f3, oB t4 (m4 + 1) f4] = true := by
    unfold chkB
    rw [hnd]; rfl
  have hlv : ∀ i, i < 4 → Lv [some ⟨tl, [.one (.sl 1 0 n0 (m0 + 1)), .one (.rw (.slice none 0 0)), .one (.rw (.slice none 0 0)), .one (.sl 2 0 n3 (m3 + 1)), .one (.sl 3 0 n4 (m4 + 1))], 0, 0⟩, oB t0 (m0 + 1) f0, oB t3 (m3 + 1) f3, oB t4 (m4 + 1) f4] i := fun i hi => by
    have : i = 0 ∨ i = 1 ∨ i = 2 ∨ i = 3 := by omega
    rcases this with rfl | rfl | rfl | rfl <;> exact ⟨_, rfl, by simp⟩
  refine mem_walk tt_ok Try.func17 (by kernel_rfl) (by kernel_rfl) [l, b0, b3, b4] [] 0 [some ⟨tl, [.one (.sl 1 0 n0 (m0 + 1)), .one (.rw (.slice none 0 0)), .one (.rw (.slice none 0 0)), .one (.sl 2 0 n3 (m3 + 1)), .one (.sl 3 0 n4 (m4 + 1))], 0, 0⟩, oB t0 (m0 + 1) f0, oB t3 (m3 + 1) f3, oB t4 (m4 + 1) f4] [some ⟨tl, [.one (.sl 1 0 n0 (m0 + 1)), .one (.rw (.slice none 0 0)), .one (.rw (.slice none 0 0)), .one (.sl 2 0 n3 (m3 + 1)), .one (.sl 3 0 n4 (m4 + 1))], 0, 0⟩, oB t0 (m0 + 1) f0, oB t3 (m3 + 1) f3, oB t4 (m4 + 1) f4] (args' := [.v1 (.sc (.sl 0 0 5 5))]) (vK := .v1 (.sc (.bo true)))
    hchk hpk (by kernel_rfl) ?_ (by kernel_rfl) hlv (by kernel_rfl) (by kernel_rfl) (fun i hi => (hlv i (by simpa using hi)).dm) hchk hpk rfl (fun t ht => by simp at ht) (fun _ _ _ => rfl) (apWalkSNNSS l0 l3 l4)
  show [AV.v1 (.sc (.sl (bk [l, b0, b3, b4] l) 0 5 5))] = _
  rw [kl]
/-! NNSSS -/
theorem apWalkNNSSS {tl n2 m2 t2 n3 m3 t3 n4 m4 t4 : Nat} {f2 f3 f4 : Nat → Nat} (h2 : m2 + 1 ≤ limN) (h3 : m3 + 1 ≤ limN) (h4 : m4 + 1 ≤ limN) :
    AWqS Try.prog (Dm [some ⟨tl, [.one (.rw (.slice none 0 0)), .one (.rw (.slice none 0 0)), .one (.sl 1 0 n2 (m2 + 1)), .one (.sl 2 0 n3 (m3 + 1)), .one (.sl 3 0 n4 (m4 + 1))], 0, 0⟩, oB t2 (m2 + 1) f2, oB t3 (m3 + 1) f3, oB t4 (m4 + 1) f4]) (flatC (bodyOf Try.f17)) (FEndM tt Try.f17 [0,1,2,3] (.v1 (.sc (.bo true))) [some ⟨tl, [.one (.rw (.slice none 0 0)), .one (.rw (.slice none 0 0)), .one (.sl 1 0 n2 (m2 + 1)), .one (.sl 2 0 n3 (m3 + 1)), .one (.sl 3 0 n4 (m4 + 1))], 0, 0⟩, oB t2 (m2 + 1) f2, oB t3 (m3 + 1) f3, oB t4 (m4 + 1) f4]) ⟨frame0 [.v1 (.sc (.sl 0 0 5 5))] Try.f17.ntmps, [some ⟨tl, [.one (.rw (.slice none 0 0)), .one (.rw (.slice none 0 0)), .one (.sl 1 0 n2 (m2 + 1)), .one (.sl 2 0 n3 (m3 + 1)), .one (.sl 3 0 n4 (m4 + 1))], 0, 0⟩, oB t2 (m2 + 1) f2, oB t3 (m3 + 1) f3, oB t4 (m4 + 1) f4]⟩ := by
  have hb : ∀ m : Nat, Int.ofNat (m + 1) < ((m + 1 + 1 : Nat) : Int) := fun m => by simp only [Int.ofNat_eq_natCast]; omega
  refine evS_q mixed tt_ok gAp_ok 900 [⟨8,11,.sym⟩,⟨8,11,.sym⟩,⟨8,11,.sym⟩,⟨8,11,.sym⟩,⟨8,11,.sym⟩,⟨13,13,.sym⟩,⟨13,18,.lit (.bo true)⟩,⟨13,13,.sym⟩,⟨13,18,.lit (.bo true)⟩,⟨13,13,.sym⟩,⟨13,18,.lit (.bo true)⟩,⟨13,13,.sym⟩,⟨13,18,.lit (.bo true)⟩,⟨13,13,.sym⟩,⟨13,18,.lit (.bo true)⟩,⟨8,11,.sym⟩,⟨8,11,.sym⟩,⟨8,11,.sym⟩,⟨8,11,.sym⟩,⟨8,11,.sym⟩,⟨13,13,.sym⟩,⟨13,18,.lit (.bo true)⟩,⟨13,13,.sym⟩,⟨13,18,.lit (.bo true)⟩,⟨13,13,.sym⟩,⟨13,18,.lit (.bo true)⟩,⟨13,13,.sym⟩,⟨13,18,.lit (.bo true)⟩,⟨13,13,.sym⟩,⟨13,18,.lit (.bo true)⟩,⟨8,11,.sym⟩,⟨8,11,.sym⟩,⟨8,11,.sym⟩,⟨8,11,.sym⟩,⟨8,11,.sym⟩,⟨13,13,.sym⟩,⟨13,18,.lit (.bo true)⟩,⟨13,13,.sym⟩,⟨13,18,.lit (.bo true)⟩,⟨13,13,.sym⟩,⟨13,18,.lit (.bo true)⟩,⟨13,13,.sym⟩,⟨13,18,.lit (.bo true)⟩,⟨13,13,.sym⟩,⟨13,18,.lit (.bo true)⟩,⟨8,11,.sym⟩,⟨8,11,.sym⟩,⟨8,11,.sym⟩,⟨8,11,.sym⟩,⟨8,11,.sym⟩,⟨13,13,.sym⟩,⟨13,18,.lit (.bo true)⟩,⟨13,13,.sym⟩,⟨13,18,.lit (.bo true)⟩,⟨13,13,.sym⟩,⟨13,18,.lit (.bo true)⟩,⟨13,13,.sym⟩,⟨13,18,.lit (.bo true)⟩,⟨13,13,.sym⟩,⟨13,18,.lit (.bo true)⟩,⟨8,11,.sym⟩,⟨8,11,.sym⟩,⟨8,11,.sym⟩,⟨8,11,.sym⟩,⟨8,11,.sym⟩,⟨13,13,.sym⟩,⟨13,18,.lit (.bo true)⟩,⟨13,13,.sym⟩,⟨13,18,.lit (.bo true)⟩,⟨13,13,.sym⟩,⟨13,18,.lit (.bo true)⟩,⟨13,13,.sym⟩,⟨13,18,.lit (.bo true)⟩,⟨13,13,.sym⟩,⟨13,18,.lit (.bo true)⟩] (same (p := 0 ≤ Int.ofNat 0 ∧ Int.ofNat 0 < ((0 + 1 : Nat) : Int) ∧ 0 ≤ Int.ofNat 0 ∧ Int.ofNat 0 < ((0 + 1 : Nat) : Int) ∧ 0 ≤ Int.ofNat (m2 + 1) ∧ Int.ofNat (m2 + 1) < ((m2 + 1 + 1 : Nat) : Int) ∧ 0 + (m2 + 1) ≤ m2 + 1 ∧ m2 + 1 = m2 + 1 ∧ m2 + 1 ≤ limN ∧ 0 ≤ Int.ofNat (m3 + 1) ∧ Int.ofNat (m3 + 1) < ((m3 + 1 + 1 : Nat) : Int) ∧ 0 + (m3 + 1) ≤ m3 + 1 ∧ m3 + 1 = m3 + 1 ∧ m3 + 1 ≤ limN ∧ 0 ≤ Int.ofNat (m4 + 1) ∧ Int.ofNat (m4 + 1) < ((m4 + 1 + 1 : Nat) : Int) ∧ 0 + (m4 + 1) ≤ m4 + 1 ∧ m4 + 1 = m4 + 1 ∧ m4 + 1 ≤ limN ∧ 0 ≤ Int.ofNat 0 ∧ Int.ofNat 0 < ((0 + 1 : Nat) : Int) ∧ eqStr 0 (fun _ => 0) 0 (fun j => (fun _ => 0) (addN 0 j)) = true ∧ 0 + 0 ≤ 0 ∧ 0 ≤ 0 ∧ 0 ≤ Int.ofNat (m2 + 1) ∧ Int.ofNat (m2 + 1) < ((m2 + 1 + 1 : Nat) : Int) ∧ eqStr (m2 + 1) (fun j => f2 (addN 0 j)) (m2 + 1) (fun j => f2 (addN 0 j)) = true ∧ 0 + (m2 + 1) ≤ m2 + 1 ∧ m2 + 1 ≤ m2 + 1 ∧ m2 + 1 ≤ m2 + 1 ∧ 0 ≤ Int.ofNat (m3 + 1) ∧ Int.ofNat (m3 + 1) < ((m3 + 1 + 1 : Nat) : Int) ∧ eqStr (m3 + 1) (fun j => f3 (addN 0 j)) (m3 + 1) (fun j => f3 (addN 0 j)) = true ∧ 0 + (m3 + 1) ≤ m3 + 1 ∧ m3 + 1 ≤ m3 + 1 ∧ m3 + 1 ≤ m3 + 1 ∧ 0 ≤ Int.ofNat (m4 + 1) ∧ Int.ofNat (m4 + 1) < ((m4 + 1 + 1 : Nat) : Int) ∧ eqStr (m4 + 1) (fun j => f4 (addN 0 j)) (m4 + 1) (fun j => f4 (addN 0 j)) = true ∧ 0 + (m4 + 1) ≤ m4 + 1 ∧ m4 + 1 ≤ m4 + 1 ∧ m4 + 1 ≤ m4 + 1 ∧ 0 ≤ Int.ofNat 0 ∧ Int.ofNat 0 < ((0 + 1 : Nat) : Int) ∧ 0 ≤ Int.ofNat 0 ∧ Int.ofNat 0 < ((0 + 1 : Nat) : Int) ∧ 0 ≤ Int.ofNat (m2 + 1) ∧ Int.ofNat (m2 + 1) < ((m2 + 1 + 1 : Nat) : Int) ∧ 0 + (m2 + 1) ≤ m2 + 1 ∧ m2 + 1 = m2 + 1 ∧ m2 + 1 ≤ limN ∧ 0 ≤ Int.ofNat (m3 + 1) ∧ Int.ofNat (m3 + 1) < ((m3 + 1 + 1 : Nat) : Int) ∧ 0 + (m3 + 1) ≤ m3 + 1 ∧ m3 + 1 = m3 + 1 ∧ m3 + 1 ≤ limN ∧ 0 ≤ Int.ofNat (m4 + 1) ∧ Int.ofNat (m4 + 1) < ((m4 + 1 + 1 : Nat) : Int) ∧ 0 + (m4 + 1) ≤ m4 + 1 ∧ m4 + 1 = m4 + 1 ∧ m4 + 1 ≤ limN ∧ 0 ≤ Int.ofNat 0 ∧ Int.ofNat 0 < ((0 + 1 : Nat) : Int) ∧ eqStr 0 (fun _ => 0) 0 (fun j => (fun _ => 0) (addN 0 j)) = true ∧ 0 + 0 ≤ 0 ∧ 0 ≤ 0 ∧ 0 ≤ Int.ofNat (m2 + 1) ∧ Int.ofNat (m2 + 1) < ((m2 + 1 + 1 : Nat) : Int) ∧ eqStr (m2 + 1) (fun j => f2 (addN 0 j)) (m2 + 1) (fun j => f2 (addN 0 j)) = true ∧ 0 + (m2 + 1) ≤ m2 + 1 ∧ m2 + 1 ≤ m2 + 1 ∧ m2 + 1 ≤ m2 + 1 ∧ 0 ≤ Int.ofNat (m3 + 1) ∧ Int.ofNat (m3 + 1) < ((m3 + 1 + 1 : Nat) : Int) ∧ eqStr (m3 + 1) (fun j => f3 (addN 0 j)) (m3 + 1) (fun j => f3 (addN 0 j)) = true ∧ 0 + (m3 + 1) ≤ m3 + 1 ∧ m3 + 1 ≤ m3 + 1 ∧ m3 + 1 ≤ m3 + 1 ∧ 0 ≤ Int.ofNat (m4 + 1) ∧ Int.ofNat (m4 + 1) < ((m4 + 1 + 1 : Nat) : Int) ∧ eqStr (m4 + 1) (fun j => f4 (addN 0 j)) (m4 + 1) (fun j => f4 (addN 0 j)) = true ∧ 0 + (m4 + 1) ≤ m4 + 1 ∧ m4 + 1 ≤ m4 + 1 ∧ m4 + 1 ≤ m4 + 1 ∧ 0 ≤ Int.ofNat 0 ∧ Int.ofNat 0 < ((0 + 1 : Nat) : Int) ∧ 0 ≤ Int.ofNat 0 ∧ Int.ofNat 0 < ((0 + 1 : Nat) : Int) ∧ 0 ≤ Int.ofNat (m2 + 1) ∧ Int.ofNat (m2 + 1) < ((m2 + 1 + 1 : Nat) : Int) ∧ 0 + (m2 + 1) ≤ m2 + 1 ∧ m2 + 1 = m2 + 1 ∧ m2 + 1 ≤ limN ∧ 0 ≤ Int.ofNat (m3 + 1) ∧ Int.ofNat (m3 + 1) < ((m3 + 1 + 1 : Nat) : Int) ∧ 0 + (m3 + 1) ≤ m3 + 1 ∧ m3 + 1 = m3 + 1 ∧ m3 + 1 ≤ limN ∧ 0 ≤ Int.ofNat (m4 + 1) ∧ Int.ofNat (m4 + 1) < ((m4 + 1 + 1 : Nat) : Int) ∧ 0 + (m4 + 1) ≤ m4 + 1 ∧ m4 + 1 = m4 + 1 ∧ m4 + 1 ≤ limN ∧ m2 + 1 = m2 + 1 ∧ 0 < m2 + 1 ∧ m2 + 1 < 9223372036854775807 ∧ 0 ≤ Int.ofNat 0 ∧ Int.ofNat 0 < ((0 + 1 : Nat) : Int) ∧ eqStr 0 (fun _ => 0) 0 (fun j => (fun _ => 0) (addN 0 j)) = true ∧ 0 + 0 ≤ 0 ∧ 0 ≤ 0 ∧ 0 ≤ Int.ofNat 0 ∧ Int.ofNat 0 < ((0 + 1 : Nat) : Int) ∧ eqStr 0 (fun _ => 0) 0 (fun j => (fun _ => 0) (addN 0 j)) = true ∧ 0 + 0 ≤ 0 ∧ 0 ≤ 0 ∧ 0 ≤ Int.ofNat (m3 + 1) ∧ Int.ofNat (m3 + 1) < ((m3 + 1 + 1 : Nat) : Int) ∧ eqStr (m3 + 1) (fun j => f3 (addN 0 j)) (m3 + 1) (fun j => f3 (addN 0 j)) = true ∧ 0 + (m3 + 1) ≤ m3 + 1 ∧ m3 + 1 ≤ m3 + 1 ∧ m3 + 1 ≤ m3 + 1 ∧ 0 ≤ Int.ofNat (m4 + 1) ∧ Int.ofNat (m4 + 1) < ((m4 + 1 + 1 : Nat) : Int) ∧ eqStr (m4 + 1) (fun j => f4 (addN 0 j)) (m4 + 1) (fun j => f4 (addN 0 j)) = true ∧ 0 + (m4 + 1) ≤ m4 + 1 ∧ m4 + 1 ≤ m4 + 1 ∧ m4 + 1 ≤ m4 + 1 ∧ m2 + 1 = m2 + 1 ∧ 0 < m2 + 1 ∧ m2 + 1 < 9223372036854775807 ∧ 0 ≤ Int.ofNat 0 ∧ Int.ofNat 0 < ((0 + 1 : Nat) : Int) ∧ 0 ≤ Int.ofNat 0 ∧ Int.ofNat 0 < ((0 + 1 : Nat) : Int) ∧ 0 ≤ Int.ofNat (m2 + 1) ∧ Int.ofNat (m2 + 1) < ((m2 + 1 + 1 : Nat) : Int) ∧ 0 + (m2 + 1) ≤ m2 + 1 ∧ m2 + 1 = m2 + 1 ∧ m2 + 1 ≤ limN ∧ 0 ≤ Int.ofNat (m3 + 1) ∧ Int.ofNat (m3 + 1) < ((m3 + 1 + 1 : Nat) : Int) ∧ 0 + (m3 + 1) ≤ m3 + 1 ∧ m3 + 1 = m3 + 1 ∧ m3 + 1 ≤ limN ∧ 0 ≤ Int.ofNat (m4 + 1) ∧ Int.ofNat (m4 + 1) < ((m4 + 1 + 1 : Nat) : Int) ∧ 0 + (m4 + 1) ≤ m4 + 1 ∧ m4 + 1 = m4 + 1 ∧ m4 + 1 ≤ limN ∧ m3 + 1 = m3 + 1 ∧ 0 < m3 + 1 ∧ m3 + 1 < 9223372036854775807 ∧ 0 ≤ Int.ofNat 0 ∧ Int.ofNat 0 < ((0 + 1 : Nat) : Int) ∧ eqStr 0 (fun _ => 0) 0 (fun j => (fun _ => 0) (addN 0 j)) = true ∧ 0 + 0 ≤ 0 ∧ 0 ≤ 0 ∧ 0 ≤ Int.ofNat 0 ∧ Int.ofNat 0 < ((0 + 1 : Nat) : Int) ∧ eqStr 0 (fun _ => 0) 0 (fun j => (fun _ => 0) (addN 0 j)) = true ∧ 0 + 0 ≤ 0 ∧ 0 ≤ 0 ∧ 0 ≤ Int.ofNat (m2 + 1) ∧ Int.ofNat (m2 + 1) < ((m2 + 1 + 1 : Nat) : Int) ∧ eqStr (m2 + 1) (fun j => (ovF (ovF f2)) (addN 0 j)) (m2 + 1) (fun j => (ovF (ovF f2)) (addN 0 j)) = true ∧ 0 + (m2 + 1) ≤ m2 + 1 ∧ m2 + 1 ≤ m2 + 1 ∧ m2 + 1 ≤ m2 + 1 ∧ 0 ≤ Int.ofNat (m4 + 1) ∧ Int.ofNat (m4 + 1) < ((m4 + 1 + 1 : Nat) : Int) ∧ eqStr (m4 + 1) (fun j => f4 (addN 0 j)) (m4 + 1) (fun j => f4 (addN 0 j)) = true ∧ 0 + (m4 + 1) ≤ m4 + 1 ∧ m4 + 1 ≤ m4 + 1 ∧ m4 + 1 ≤ m4 + 1 ∧ m3 + 1 = m3 + 1 ∧ 0 < m3 + 1 ∧ m3 + 1 < 9223372036854775807 ∧ 0 ≤ Int.ofNat 0 ∧ Int.ofNat 0 < ((0 + 1 : Nat) : Int) ∧ 0 ≤ Int.ofNat 0 ∧ Int.ofNat 0 < ((0 + 1 : Nat) : Int) ∧ 0 ≤ Int.ofNat (m2 + 1) ∧ Int.ofNat (m2 + 1) < ((m2 + 1 + 1 : Nat) : Int) ∧ 0 + (m2 + 1) ≤ m2 + 1 ∧ m2 + 1 = m2 + 1 ∧ m2 + 1 ≤ limN ∧ 0 ≤ Int.ofNat (m3 + 1) ∧ Int.ofNat (m3 + 1) < ((m3 + 1 + 1 : Nat) : Int) ∧ 0 + (m3 + 1) ≤ m3 + 1 ∧ m3 + 1 = m3 + 1 ∧ m3 + 1 ≤ limN ∧ 0 ≤ Int.ofNat (m4 + 1) ∧ Int.ofNat (m4 + 1) < ((m4 + 1 + 1 : Nat) : Int) ∧ 0 + (m4 + 1) ≤ m4 + 1 ∧ m4 + 1 = m4 + 1 ∧ m4 + 1 ≤ limN ∧ m4 + 1 = m4 + 1 ∧ 0 < m4 + 1 ∧ m4 + 1 < 9223372036854775807 ∧ 0 ≤ Int.ofNat 0 ∧ Int.ofNat 0 < ((0 + 1 : Nat) : Int) ∧ eqStr 0 (fun _ => 0) 0 (fun j => (fun _ => 0) (addN 0 j)) = true ∧ 0 + 0 ≤ 0 ∧ 0 ≤ 0 ∧ 0 ≤ Int.ofNat 0 ∧ Int.ofNat 0 < ((0 + 1 : Nat) : Int) ∧ eqStr 0 (fun _ => 0) 0 (fun j => (fun _ => 0) (addN 0 j)) = true ∧ 0 + 0 ≤ 0 ∧ 0 ≤ 0 ∧ 0 ≤ Int.ofNat (m2 + 1) ∧ Int.ofNat (m2 + 1) < ((m2 + 1 + 1 : Nat) : Int) ∧ eqStr (m2 + 1) (fun j => (ovF (ovF f2)) (addN 0 j)) (m2 + 1) (fun j => (ovF (ovF f2)) (addN 0 j)) = true ∧ 0 + (m2 + 1) ≤ m2 + 1 ∧ m2 + 1 ≤ m2 + 1 ∧ m2 + 1 ≤ m2 + 1 ∧ 0 ≤ Int.ofNat (m3 + 1) ∧ Int.ofNat (m3 + 1) < ((m3 + 1 + 1 : Nat) : Int) ∧ eqStr (m3 + 1) (fun j => (ovF (ovF f3)) (addN 0 j)) (m3 + 1) (fun j => (ovF (ovF f3)) (addN 0 j)) = true ∧ 0 + (m3 + 1) ≤ m3 + 1 ∧ m3 + 1 ≤ m3 + 1 ∧ m3 + 1 ≤ m3 + 1 ∧ m4 + 1 = m4 + 1 ∧ 0 < m4 + 1 ∧ m4 + 1 < 9223372036854775807 ∧ endM [0,1,2,3] [some ⟨tl, [.one (.rw (.slice none 0 0)), .one (.rw (.slice none 0 0)), .one (.sl 1 0 n2 (m2 + 1)), .one (.sl 2 0 n3 (m3 + 1)), .one (.sl 3 0 n4 (m4 + 1))], 0, 0⟩, oB t2 (m2 + 1) (ovF (ovF f2)), oB t3 (m3 + 1) (ovF (ovF f3)), oB t4 (m4 + 1) (ovF (ovF f4))] [some ⟨tl, [.one (.rw (.slice none 0 0)), .one (.rw (.slice none 0 0)), .one (.sl 1 0 n2 (m2 + 1)), .one (.sl 2 0 n3 (m3 + 1)), .one (.sl 3 0 n4 (m4 + 1))], 0, 0⟩, oB t2 (m2 + 1) f2, oB t3 (m3 + 1) f3, oB t4 (m4 + 1) f4] (.v1 (.sc (.bo true))) (.v1 (.sc (.bo true)))) ?_ (by kernel_rfl))
  exact ⟨Int.natCast_nonneg _, by decide, Int.natCast_nonneg _, by decide, Int.natCast_nonneg _, hb m2, by omega, rfl, h2, Int.natCast_nonneg _, hb m3, by omega, rfl, h3, Int.natCast_nonneg _, hb m4, by omega, rfl, h4, Int.natCast_nonneg _, by decide, rfl, Nat.le_refl _, Nat.le_refl _, Int.natCast_nonneg _, hb m2, eqStr_self, by omega, Nat.le_refl _, Nat.le_refl _, Int.natCast_nonneg _, hb m3, eqStr_self, by omega, Nat.le_refl _, Nat.le_refl _, Int.natCast_nonneg _, hb m4, eqStr_self, by omega, Nat.le_refl _, Nat.le_refl _, Int.natCast_nonneg _, by decide, Int.natCast_nonneg _, by decide, Int.natCast_nonneg _, hb m2, by omega, rfl, h2, Int.natCast_nonneg _, hb m3, by omega, rfl, h3, Int.natCast_nonneg _, hb m4, by omega, rfl, h4, Int.natCast_nonneg _, by decide, rfl, Nat.le_refl _, Nat.le_refl _, Int.natCast_nonneg _, hb m2, eqStr_self, by omega, Nat.le_refl _, Nat.le_refl _, Int.natCast_nonneg _, hb m3, eqStr_self, by omega, Nat.le_refl _, Nat.le_refl _, Int.natCast_nonneg _, hb m4, eqStr_self, by omega, Nat.le_refl _, Nat.le_refl _, Int.natCast_nonneg _, by decide, Int.natCast_nonneg _, by decide, Int.natCast_nonneg _, hb m2, by omega, rfl, h2, Int.natCast_nonneg _, hb m3, by omega, rfl, h3, Int.natCast_nonneg _, hb m4, by omega, rfl, h4, rfl, by omega, lim63 h2, Int.natCast_nonneg _, by decide, rfl, Nat.le_refl _, Nat.le_refl _, Int.natCast_nonneg _, by decide, rfl, Nat.le_refl _, Nat.le_refl _, Int.natCast_nonneg _, hb m3, eqStr_self, by omega, Nat.le_refl _, Nat.le_refl _, Int.natCast_nonneg _, hb m4, eqStr_self, by omega, Nat.le_refl _, Nat.le_refl _, rfl, by omega, lim63 h2, Int.natCast_nonneg _, by decide, Int.natCast_nonneg _, by decide, Int.natCast_nonneg _, hb m2, by omega, rfl, h2, Int.natCast_nonneg _, hb m3, by omega, rfl, h3, Int.natCast_nonneg _, hb m4, by omega, rfl, h4, rfl, by omega, lim63 h3, Int.natCast_nonneg _, by decide, rfl, Nat.le_refl _, Nat.le_refl _, Int.natCast_nonneg _, by decide, rfl, Nat.le_refl _, Nat.le_refl _, Int.natCast_nonneg _, hb m2, eqStr_self, by omega, Nat.le_refl _, Nat.le_refl _, Int.natCast_nonneg _, hb m4, eqStr_self, by omega, Nat.le_refl _, Nat.le_refl _, rfl, by omega, lim63 h3, Int.natCast_nonneg _, by decide, Int.natCast_nonneg _, by decide, Int.natCast_nonneg _, hb m2, by omega, rfl, h2, Int.natCast_nonneg _, hb m3, by omega, rfl, h3, Int.natCast_nonneg _, hb m4, by omega, rfl, h4, rfl, by omega, lim63 h4, Int.natCast_nonneg _, by decide, rfl, Nat.le_refl _, Nat.le_refl _, Int.natCast_nonneg _, by decide, rfl, Nat.le_refl _, Nat.le_refl _, Int.natCast_nonneg _, hb m2, eqStr_self, by omega, Nat.le_refl _, Nat.le_refl _, Int.natCast_nonneg _, hb m3, eqStr_self, by omega, Nat.le_refl _, Nat.le_refl _, rfl, by omega, lim63 h4, by simp only [ovF_ovF]; exact endM_same rfl rfl⟩
def cApartNNSSS (args : List AV) (h : Heap) (_ : Nat) : Option (List Prop × AV × Heap) :=
  match args with
  | [.v1 (.sc (.sl l 0 5 5))] => match hget h l with
    | some ⟨tl, [.one (.rw (.slice none 0 0)), .one (.rw (.slice none 0 0)), .one (.sl b2 0 n2 c2), .one (.sl b3 0 n3 c3), .one (.sl b4 0 n4 c4)], 0, 0⟩ => match hget h b2, hget h b3, hget h b4 with
      | some ⟨t2, [.ws .u8 N2 f2], 0, 0⟩, some ⟨t3, [.ws .u8 N3 f3], 0, 0⟩, some ⟨t4, [.ws .u8 N4 f4], 0, 0⟩ => match nodupB [l, b2, b3, b4] with
        | true => some ([N2 = c2, 0 < c2, c2 ≤ limN, N3 = c3, 0 < c3, c3 ≤ limN, N4 = c4, 0 < c4, c4 ≤ limN], .v1 (.sc (.bo true)), h)
        | false => none
      | _, _, _ => none
    | _ => none
  | _ => none
theorem okApartNNSSS : (CallC.mem cApartNNSSS).Ok Try.prog 17 := by
  intro args h slot pre v h' e hp
  unfold cApartNNSSS at e
  split at e
  rotate_left
  · cases e
  rename_i l
  split at e
  rotate_left
  · cases e
  rename_i tl b2 n2 c2 b3 n3 c3 b4 n4 c4 hl
  split at e
  rotate_left
  · cases e
  rename_i t2 N2 f2 t3 N3 f3 t4 N4 f4 g2 g3 g4
  split at e
  rotate_left
  · cases e
  rename_i hnd
  cases e
  have e2 : N2 = c2 := hp _ (by simp)
  have z2 : 0 < c2 := hp (0 < c2) (by simp)
  have l2 : c2 ≤ limN := hp (c2 ≤ limN) (by simp)
  have e3 : N3 = c3 := hp _ (by simp)
  have z3 : 0 < c3 := hp (0 < c3) (by simp)
  have l3 : c3 ≤ limN := hp (c3 ≤ limN) (by simp)
  have e4 : N4 = c4 := hp _ (by simp)
  have z4 : 0 < c4 := hp (0 < c4) (by simp)
  have l4 : c4 ≤ limN := hp (c4 ≤ limN) (by simp)
  subst e2
  subst e3
  subst e4
  obtain ⟨m2, rfl⟩ : ∃ m, N2 = m + 1 := ⟨N2 - 1, by omega⟩
  obtain ⟨m3, rfl⟩ : ∃ m, N3 = m + 1 := ⟨N3 - 1, by omega⟩
  obtain ⟨m4, rfl⟩ : ∃ m, N4 = m + 1 := ⟨N4 - 1, by omega⟩
  have ne : ∀ i j, i < 4 → j < 4 → i ≠ j → nthN [l, b2, b3, b4] i ≠ nthN [l, b2, b3, b4] j := fun i j hi hj hij e => hij (nodupB_spec hnd i j (by simpa using hi) (by simpa using hj) e)
  have kl : bk [l, b2, b3, b4] l = 0 := by simp [bk, idxN]
  have x10 : Nat.beq b2 l = false := beqf (show b2 ≠ l from ne 1 0 (by omega) (by omega) (by omega))
  have kb2 : bk [l, b2, b3, b4] b2 = 1 := by simp [bk, idxN, x10]
  have x20 : Nat.beq b3 l = false := beqf (show b3 ≠ l from ne 2 0 (by omega) (by omega) (by omega))
  have x21 : Nat.beq b3 b2 = false := beqf (show b3 ≠ b2 from ne 2 1 (by omega) (by omega) (by omega))
  have kb3 : bk [l, b2, b3, b4] b3 = 2 := by simp [bk, idxN, x20, x21]
  have x30 : Nat.beq b4 l = false := beqf (show b4 ≠ l from ne 3 0 (by omega) (by omega) (by omega))
  have x31 : Nat.beq b4 b2 = false := beqf (show b4 ≠ b2 from ne 3 1 (by omega) (by omega) (by omega))
  have x32 : Nat.beq b4 b3 = false := beqf (show b4 ≠ b3 from ne 3 2 (by omega) (by omega) (by omega))
  have kb4 : bk [l, b2, b3, b4] b4 = 3 := by simp [bk, idxN, x30, x31, x32]
  have hpk : pickH [l, b2, b3, b4] h [l, b2, b3, b4] = [some ⟨tl, [.one (.rw (.slice none 0 0)), .one (.rw (.slice none 0 0)), .one (.sl 1 0 n2 (m2 + 1)), .one (.sl 2 0 n3 (m3 + 1)), .one (.sl 3 0 n4 (m4 + 1))], 0, 0⟩, oB t2 (m2 + 1) f2, oB t3 (m3 + 1) f3, oB t4 (m4 + 1) f4] := by
    show [pickB [l, b2, b3, b4] (hget h l), pickB [l, b2, b3, b4] (hget h b2), pickB [l, b2, b3, b4] (hget h b3), pickB [l, b2, b3, b4] (hget h b4)] = _
    rw [hl, g2, g3, g4]
    simp only [pickB, bkBlk, bkCells, bkCell, bkSc, kb2, kb3, kb4]
  have hchk : chkB [l, b2, b3, b4] [some ⟨tl, [.one (.rw (.slice none 0 0)), .one (.rw (.slice none 0 0)), .one (.sl 1 0 n2 (m2 + 1)), .one (.sl 2 0 n3 (m3 + 1)), .one (.sl 3 0 n4 (m4 + 1))], 0, 0⟩, oB t2 (m2 + 1) f2, oB t3 (m3 + 1) f3, oB t4 (m4 + 1) f4] = true := by
    unfold chkB
    rw [hnd]; rfl
  have hlv : ∀ i, i < 4 → Lv [some ⟨tl, [.one (.rw (.slice none 0 0)), .one (.rw (.slice none 0 0)), .one (.sl 1 0 n2 (m2 + 1)), .one (.sl 2 0 n3 (m3 + 1)), .one (.sl 3 0 n4 (m4 + 1))], 0, 0⟩, oB t2 (m2 + 1) f2, oB t3 (m3 + 1) f3, oB t4 (m4 + 1) f4] i := fun i hi => by
    have : i = 0 ∨ i = 1 ∨ i = 2 ∨ i = 3 := by omega
    rcases this with rfl | rfl | rfl | rfl <;> exact ⟨_, rfl, by simp⟩
  refine mem_walk tt_ok Try.func17 (by kernel_rfl) (by kernel_rfl) [l, b2, b3, b4] [] 0 [some ⟨tl, [.one (.rw (.slice none 0 0)), .one (.rw (.slice none 0 0)), .one (.sl 1 0 n2 (m2 + 1)), .one (.sl 2 0 n3 (m3 + 1)), .one (.sl 3 0 n4 (m4 + 1))], 0, 0⟩, oB t2 (m2 + 1) f2, oB t3 (m3 + 1) f3, oB t4 (m4 + 1) f4] [some ⟨tl, [.one (.rw (.slice none 0 0)), .one (.rw (.slice none 0 0)), .one (.sl 1 0 n2 (m2 + 1)), .one (.sl 2 0 n3 (m3 + 1)), .one (.sl 3 0 n4 (m4 + 1))], 0, 0⟩, oB t2 (m2 + 1) f2, oB t3 (m3 + 1) f3, oB t4 (m4 + 1) f4] (args' := [.v1 (.sc (.sl 0 0 5 5))]) (vK := .v1 (.sc (.bo true)))
    hchk hpk (by kernel_rfl) ?_ (by kernel_rfl) hlv (by kernel_rfl) (by kernel_rfl) (fun i hi => (hlv i (by simpa using hi)).dm) hchk hpk rfl (fun t ht => by simp at ht) (fun _ _ _ => rfl) (apWalkNNSSS l2 l3 l4)
  show [AV.v1 (.sc (.sl (bk [l, b2, b3, b4] l) 0 5 5))] = _
  rw [kl]
/-! NNNSS -/
theorem apWalkNNNSS {tl n3 m3 t3 n4 m4 t4 : Nat} {f3 f4 : Nat → Nat} (h3 : m3 + 1 ≤ limN) (h4 : m4 + 1 ≤ limN) :
    AWqS Try.prog (Dm [some ⟨tl, [.one (.rw (.slice none 0 0)), .one (.rw (.slice none 0 0)), .one (.rw (.slice none 0 0)), .one (.sl 1 0 n3 (m3 + 1)), .one (.sl 2 0 n4 (m4 + 1))], 0, 0⟩, oB t3 (m3 + 1) f3, oB t4 (m4 + 1) f4]) (flatC (bodyOf Try.f17)) (FEndM tt Try.f17 [0,1,2] (.v1 (.sc (.bo true))) [some ⟨tl, [.one (.rw (.slice none 0 0)), .one (.rw (.slice none 0 0)), .one (.rw (.slice none 0 0)), .one (.sl 1 0 n3 (m3 + 1)), .one (.sl 2 0 n4 (m4 + 1))], 0, 0⟩, oB t3 (m3 + 1) f3, oB t4 (m4 + 1) f4]) ⟨frame0 [.v1 (.sc (.sl 0 0 5 5))] Try.f17.ntmps, [some ⟨tl, [.one (.rw (.slice none 0 0)), .one (.rw (.slice none 0 0)), .one (.rw (.slice none 0 0)), .one (.sl 1 0 n3 (m3 + 1)), .one (.sl 2 0 n4 (m4 + 1))], 0, 0⟩, oB t3 (m3 + 1) f3, oB t4 (m4 + 1) f4]⟩ := by
  have hb : ∀ m : Nat, Int.ofNat (m + 1) < ((m + 1 + 1 : Nat) : Int) := fun m => by simp only [Int.ofNat_eq_natCast]; omega
  refine evS_q mixed tt_ok gAp_ok 900 [⟨8,11,.sym⟩,⟨8,11,.sym⟩,⟨8,11,.sym⟩,⟨8,11,.sym⟩,⟨8,11,.sym⟩,⟨13,13,.sym⟩,⟨13,18,.lit (.bo true)⟩,⟨13,13,.sym⟩,⟨13,18,.lit (.bo true)⟩,⟨13,13,.sym⟩,⟨13,18,.lit (.bo true)⟩,⟨13,13,.sym⟩,⟨13,18,.lit (.bo true)⟩,⟨13,13,.sym⟩,⟨13,18,.lit (.bo true)⟩,⟨8,11,.sym⟩,⟨8,11,.sym⟩,⟨8,11,.sym⟩,⟨8,11,.sym⟩,⟨8,11,.sym⟩,⟨13,13,.sym⟩,⟨13,18,.lit (.bo true)⟩,⟨13,13,.sym⟩,⟨13,18,.lit (.bo true)⟩,⟨13,13,.sym⟩,⟨13,18,.lit (.bo true)⟩,⟨13,13,.sym⟩,⟨13,18,.lit (.bo true)⟩,⟨13,13,.sym⟩,⟨13,18,.lit (.bo true)⟩,⟨8,11,.sym⟩,⟨8,11,.sym⟩,⟨8,11,.sym⟩,⟨8,11,.sym⟩,⟨8,11,.sym⟩,⟨13,13,.sym⟩,⟨13,18,.lit (.bo true)⟩,⟨13,13,.sym⟩,⟨13,18,.lit (.bo true)⟩,⟨13,13,.sym⟩,⟨13,18,.lit (.bo true)⟩,⟨13,13,.sym⟩,⟨13,18,.lit (.bo true)⟩,⟨13,13,.sym⟩,⟨13,18,.lit (.bo true)⟩,⟨8,11,.sym⟩,⟨8,11,.sym⟩,⟨8,11,.sym⟩,⟨8,11,.sym⟩,⟨8,11,.sym⟩,⟨13,13,.sym⟩,⟨13,18,.lit (.bo true)⟩,⟨13,13,.sym⟩,⟨13,18,.lit (.bo true)⟩,⟨13,13,.sym⟩,⟨13,18,.lit (.bo true)⟩,⟨13,13,.sym⟩,⟨13,18,.lit (.bo true)⟩,⟨13,13,.sym⟩,⟨13,18,.lit (.bo true)⟩,⟨8,11,.sym⟩,⟨8,11,.sym⟩,⟨8,11,.sym⟩,⟨8,11,.sym⟩,⟨8,11,.sym⟩,⟨13,13,.sym⟩,⟨13,18,.lit (.bo true)⟩,⟨13,13,.sym⟩,⟨13,18,.lit (.bo true)⟩,⟨13,13,.sym⟩,⟨13,18,.lit (.bo true)⟩,⟨13,13,.sym⟩,⟨13,18,.lit (.bo true)⟩,⟨13,13,.sym⟩,⟨13,18,.lit (.bo true)⟩] (same (p := 0 ≤ Int.ofNat 0 ∧ Int.ofNat 0 < ((0 + 1 : Nat) : Int) ∧ 0 ≤ Int.ofNat 0 ∧ Int.ofNat 0 < ((0 + 1 : Nat) : Int) ∧ 0 ≤ Int.ofNat 0 ∧ Int.ofNat 0 < ((0 + 1 : Nat) : Int) ∧ 0 ≤ Int.ofNat (m3 + 1) ∧ Int.ofNat (m3 + 1) < ((m3 + 1 + 1 : Nat) : Int) ∧ 0 + (m3 + 1) ≤ m3 + 1 ∧ m3 + 1 = m3 + 1 ∧ m3 + 1 ≤ limN ∧ 0 ≤ Int.ofNat (m4 + 1) ∧ Int.ofNat (m4 + 1) < ((m4 + 1 + 1 : Nat) : Int) ∧ 0 + (m4 + 1) ≤ m4 + 1 ∧ m4 + 1 = m4 + 1 ∧ m4 + 1 ≤ limN ∧ 0 ≤ Int.ofNat 0 ∧ Int.ofNat 0 < ((0 + 1 : Nat) : Int) ∧ eqStr 0 (fun _ => 0) 0 (fun j => (fun _ => 0) (addN 0 j)) = true ∧ 0 + 0 ≤ 0 ∧ 0 ≤ 0 ∧ 0 ≤ Int.ofNat 0 ∧ Int.ofNat 0 < ((0 + 1 : Nat) : Int) ∧ eqStr 0 (fun _ => 0) 0 (fun j => (fun _ => 0) (addN 0 j)) = true ∧ 0 + 0 ≤ 0 ∧ 0 ≤ 0 ∧ 0 ≤ Int.ofNat (m3 + 1) ∧ Int.ofNat (m3 + 1) < ((m3 + 1 + 1 : Nat) : Int) ∧ eqStr (m3 + 1) (fun j => f3 (addN 0 j)) (m3 + 1) (fun j => f3 (addN 0 j)) = true ∧ 0 + (m3 + 1) ≤ m3 + 1 ∧ m3 + 1 ≤ m3 + 1 ∧ m3 + 1 ≤ m3 + 1 ∧ 0 ≤ Int.ofNat (m4 + 1) ∧ Int.ofNat (m4 + 1) < ((m4 + 1 + 1 : Nat) : Int) ∧ eqStr (m4 + 1) (fun j => f4 (addN 0 j)) (m4 + 1) (fun j => f4 (addN 0 j)) = true ∧ 0 + (m4 + 1) ≤ m4 + 1 ∧ m4 + 1 ≤ m4 + 1 ∧ m4 + 1 ≤ m4 + 1 ∧ 0 ≤ Int.ofNat 0 ∧ Int.ofNat 0 < ((0 + 1 : Nat) : Int) ∧ 0 ≤ Int.ofNat 0 ∧ Int.ofNat 0 < ((0 + 1 : Nat) : Int) ∧ 0 ≤ Int.ofNat 0 ∧ Int.ofNat 0 < ((0 + 1 : Nat) : Int) ∧ 0 ≤ Int.ofNat (m3 + 1) ∧ Int.ofNat (m3 + 1) < ((m3 + 1 + 1 : Nat) : Int) ∧ 0 + (m3 + 1) ≤ m3 + 1 ∧ m3 + 1 = m3 + 1 ∧ m3 + 1 ≤ limN ∧ 0 ≤ Int.ofNat (m4 + 1) ∧ Int.ofNat (m4 + 1) < ((m4 + 1 + 1 : Nat) : Int) ∧ 0 + (m4 + 1) ≤ m4 + 1 ∧ m4 + 1 = m4 + 1 ∧ m4 + 1 ≤ limN ∧ 0 ≤ Int.ofNat 0 ∧ Int.ofNat 0 < ((0 + 1 : Nat) : Int) ∧ eqStr 0 (fun _ => 0) 0 (fun j => (fun _ => 0) (addN 0 j)) = true ∧ 0 + 0 ≤ 0 ∧ 0 ≤ 0 ∧ 0 ≤ Int.ofNat 0 ∧ Int.ofNat 0 < ((0 + 1 : Nat) : Int) ∧ eqStr 0 (fun _ => 0) 0 (fun j => (fun _ => 0) (addN 0 j)) = true ∧ 0 + 0 ≤ 0 ∧ 0 ≤ 0 ∧ 0 ≤ Int.ofNat (m3 + 1) ∧ Int.ofNat (m3 + 1) < ((m3 + 1 + 1 : Nat) : Int) ∧ eqStr (m3 + 1) (fun j => f3 (addN 0 j)) (m3 + 1) (fun j => f3 (addN 0 j)) = true ∧ 0 + (m3 + 1) ≤ m3 + 1 ∧ m3 + 1 ≤ m3 + 1 ∧ m3 + 1 ≤ m3 + 1 ∧ 0 ≤ Int.ofNat (m4 + 1) ∧ Int.ofNat (m4 + 1) < ((m4 + 1 + 1 : Nat) : Int) ∧ eqStr (m4 + 1) (fun j => f4 (addN 0 j)) (m4 + 1) (fun j => f4 (addN 0 j)) = true ∧ 0 + (m4 + 1) ≤ m4 + 1 ∧ m4 + 1 ≤ m4 + 1 ∧ m4 + 1 ≤ m4 + 1 ∧ 0 ≤ Int.ofNat 0 ∧ Int.ofNat 0 < ((0 + 1 : Nat) : Int) ∧ 0 ≤ Int.ofNat 0 ∧ Int.ofNat 0 < ((0 + 1 : Nat) : Int) ∧ 0 ≤ Int.ofNat 0 ∧ Int.ofNat 0 < ((0 + 1 : Nat) : Int) ∧ 0 ≤ Int.ofNat (m3 + 1) ∧ Int.ofNat (m3 + 1) < ((m3 + 1 + 1 : Nat) : Int) ∧ 0 + (m3 + 1) ≤ m3 + 1 ∧ m3 + 1 = m3 + 1 ∧ m3 + 1 ≤ limN ∧ 0 ≤ Int.ofNat (m4 + 1) ∧ Int.ofNat (m4 + 1) < ((m4 + 1 + 1 : Nat) : Int) ∧ 0 + (m4 + 1) ≤ m4 + 1 ∧ m4 + 1 = m4 + 1 ∧ m4 + 1 ≤ limN ∧ 0 ≤ Int.ofNat 0 ∧ Int.ofNat 0 < ((0 + 1 : Nat) : Int) ∧ eqStr 0 (fun _ => 0) 0 (fun j => (fun _ => 0) (addN 0 j)) = true ∧ 0 + 0 ≤ 0 ∧ 0 ≤ 0 ∧ 0 ≤ Int.ofNat 0 ∧ Int.ofNat 0 < ((0 + 1 : Nat) : Int) ∧ eqStr 0 (fun _ => 0) 0 (fun j => (fun _ => 0) (addN 0 j)) = true ∧ 0 + 0 ≤ 0 ∧ 0 ≤ 0 ∧ 0 ≤ Int.ofNat (m3 + 1) ∧ Int.ofNat (m3 + 1) < ((m3 + 1 + 1 : Nat) : Int) ∧ eqStr (m3 + 1) (fun j => f3 (addN 0 j)) (m3 + 1) (fun j => f3 (addN 0 j)) = true ∧ 0 + (m3 + 1) ≤ m3 + 1 ∧ m3 + 1 ≤ m3 + 1 ∧ m3 + 1 ≤ m3 + 1 ∧ 0 ≤ Int.ofNat (m4 + 1) ∧ Int.ofNat (m4 + 1) < ((m4 + 1 + 1 : Nat) : Int) ∧ eqStr (m4 + 1) (fun j => f4 (addN 0 j)) (m4 + 1) (fun j => f4 (addN 0 j)) = true ∧ 0 + (m4 + 1) ≤ m4 + 1 ∧ m4 + 1 ≤ m4 + 1 ∧ m4 + 1 ≤ m4 + 1 ∧ 0 ≤ Int.ofNat 0 ∧ Int.ofNat 0 < ((0 + 1 : Nat) : Int) ∧ 0 ≤ Int.ofNat 0 ∧ Int.ofNat 0 < ((0 + 1 : Nat) : Int) ∧ 0 ≤ Int.ofNat 0 ∧ Int.ofNat 0 < ((0 + 1 : Nat) : Int) ∧ 0 ≤ Int.ofNat (m3 + 1) ∧ Int.ofNat (m3 + 1) < ((m3 + 1 + 1 : Nat) : Int) ∧ 0 + (m3 + 1) ≤ m3 + 1 ∧ m3 + 1 = m3 + 1 ∧ m3 + 1 ≤ limN ∧ 0 ≤ Int.ofNat (m4 + 1) ∧ Int.ofNat (m4 + 1) < ((m4 + 1 + 1 : Nat) : Int) ∧ 0 + (m4 + 1) ≤ m4 + 1 ∧ m4 + 1 = m4 + 1 ∧ m4 + 1 ≤ limN ∧ m3 + 1 = m3 + 1 ∧ 0 < m3 + 1 ∧ m3 + 1 < 9223372036854775807 ∧ 0 ≤ Int.ofNat 0 ∧ Int.ofNat 0 < ((0 + 1 : Nat) : Int) ∧ eqStr 0 (fun _ => 0) 0 (fun j => (fun _ => 0) (addN 0 j)) = true ∧ 0 + 0 ≤ 0 ∧ 0 ≤ 0 ∧ 0 ≤ Int.ofNat 0 ∧ Int.ofNat 0 < ((0 + 1 : Nat) : Int) ∧ eqStr 0 (fun _ => 0) 0 (fun j => (fun _ => 0) (addN 0 j)) = true ∧ 0 + 0 ≤ 0 ∧ 0 ≤ 0 ∧ 0 ≤ Int.ofNat 0 ∧ Int.ofNat 0 < ((0 + 1 : Nat) : Int) ∧ eqStr 0 (fun _ => 0) 0 (fun j => (fun _ => 0) (addN 0 j)) = true ∧ 0 + 0 ≤ 0 ∧ 0 ≤ 0 ∧ 0 ≤ Int.ofNat (m4 + 1) ∧ Int.ofNat (m4 + 1) < ((m4 + 1 + 1 : Nat) : Int) ∧ eqStr (m4 + 1) (fun j => f4 (addN 0 j)) (m4 + 1) (fun j => f4 (addN 0 j)) = true ∧ 0 + (m4 + 1) ≤ m4 + 1 ∧ m4 + 1 ≤ m4 + 1 ∧ m4 + 1 ≤ m4 + 1 ∧ m3 + 1 = m3 + 1 ∧ 0 < m3 + 1 ∧ m3 + 1 < 9223372036854775807 ∧ 0 ≤ Int.ofNat 0 ∧ Int.ofNat 0 < ((0 + 1 : Nat) : Int) ∧ 0 ≤ Int.ofNat 0 ∧ Int.ofNat 0 < ((0 + 1 : Nat) : Int) ∧ 0 ≤ Int.ofNat 0 ∧ Int.ofNat 0 < ((0 + 1 : Nat) : Int) ∧ 0 ≤ Int.ofNat (m3 + 1) ∧ Int.ofNat (m3 + 1) < ((m3 + 1 + 1 : Nat) : Int) ∧ 0 + (m3 + 1) ≤ m3 + 1 ∧ m3 + 1 = m3 + 1 ∧ m3 + 1 ≤ limN ∧ 0 ≤ Int.ofNat (m4 + 1) ∧ Int.ofNat (m4 + 1) < ((m4 + 1 + 1 : Nat) : Int) ∧ 0 + (m4 + 1) ≤ m4 + 1 ∧ m4 + 1 = m4 + 1 ∧ m4 + 1 ≤ limN ∧ m4 + 1 = m4 + 1 ∧ 0 < m4 + 1 ∧ m4 + 1 < 9223372036854775807 ∧ 0 ≤ Int.ofNat 0 ∧ Int.ofNat 0 < ((0 + 1 : Nat) : Int) ∧ eqStr 0 (fun _ => 0) 0 (fun j => (fun _ => 0) (addN 0 j)) = true ∧ 0 + 0 ≤ 0 ∧ 0 ≤ 0 ∧ 0 ≤ Int.ofNat 0 ∧ Int.ofNat 0 < ((0 + 1 : Nat) : Int) ∧ eqStr 0 (fun _ => 0) 0 (fun j => (fun _ => 0) (addN 0 j)) = true ∧ 0 + 0 ≤ 0 ∧ 0 ≤ 0 ∧ 0 ≤ Int.ofNat 0 ∧ Int.ofNat 0 < ((0 + 1 : Nat) : Int) ∧ eqStr 0 (fun _ => 0) 0 (fun j => (fun _ => 0) (addN 0 j)) = true ∧ 0 + 0 ≤ 0 ∧ 0 ≤ 0 ∧ 0 ≤ Int.ofNat (m3 + 1) ∧ Int.ofNat (m3 + 1) < ((m3 + 1 + 1 : Nat) : Int) ∧ eqStr (m3 + 1) (fun j => (ovF (ovF f3)) (addN 0 j)) (m3 + 1) (fun j => (ovF (ovF f3)) (addN 0 j)) = true ∧ 0 + (m3 + 1) ≤ m3 + 1 ∧ m3 + 1 ≤ m3 + 1 ∧ m3 + 1 ≤ m3 + 1 ∧ m4 + 1 = m4 + 1 ∧ 0 < m4 + 1 ∧ m4 + 1 < 9223372036854775807 ∧ endM [0,1,2] [some ⟨tl, [.one (.rw (.slice none 0 0)), .one (.rw (.slice none 0 0)), .one (.rw (.slice none 0 0)), .one (.sl 1 0 n3 (m3 + 1)), .one (.sl 2 0 n4 (m4 + 1))], 0, 0⟩, oB t3 (m3 + 1) (ovF (ovF f3)), oB t4 (m4 + 1) (ovF (ovF f4))] [some ⟨tl, [.one (.rw (.slice none 0 0)), .one (.rw (.slice none 0 0)), .one (.rw (.slice none 0 0)), .one (.sl 1 0 n3 (m3 + 1)), .one (.sl 2 0 n4 (m4 + 1))], 0, 0⟩, oB t3 (m3 + 1) f3, oB t4 (m4 + 1) f4] (.v1 (.sc (.bo true))) (.v1 (.sc (.bo true)))) ?_ (by kernel_rfl))
  exact ⟨Int.natCast_nonneg _, by decide, Int.natCast_nonneg _, by decide, Int.natCast_nonneg _, by decide, Int.natCast_nonneg _, hb m3, by omega, rfl, h3, Int.natCast_nonneg _, hb m4, by omega, rfl, h4, Int.natCast_nonneg _, by decide, rfl, Nat.le_refl _, Nat.le_refl _, Int.natCast_nonneg _, by decide, rfl, Nat.le_refl _, Nat.le_refl _, Int.natCast_nonneg _, hb m3, eqStr_self, by omega, Nat.le_refl _, Nat.le_refl _, Int.natCast_nonneg _, hb m4, eqStr_self, by omega, Nat.le_refl _, Nat.le_refl _, Int.natCast_nonneg _, by decide, Int.natCast_nonneg _, by decide, Int.natCast_nonneg _, by decide, Int.natCast_nonneg _, hb m3, by omega, rfl, h3, Int.natCast_nonneg _, hb m4, by omega, rfl, h4, Int.natCast_nonneg _, by decide, rfl, Nat.le_refl _, Nat.le_refl _, Int.natCast_nonneg _, by decide, rfl, Nat.le_refl _, Nat.le_refl _, Int.natCast_nonneg _, hb m3, eqStr_self, by omega, Nat.le_refl _, Nat.le_refl _, Int.natCast_nonneg _, hb m4, eqStr_self, by omega, Nat.le_refl _, Nat.le_refl _, Int.natCast_nonneg _, by decide, Int.natCast_nonneg _, by decide, Int.natCast_nonneg _, by decide, Int.natCast_nonneg _, hb m3, by omega, rfl, h3, Int.natCast_nonneg _, hb m4, by omega, rfl, h4, Int.natCast_nonneg _, by decide, rfl, Nat.le_refl _, Nat.le_refl _, Int.natCast_nonneg _, by decide, rfl, Nat.le_refl _, Nat.le_refl _, Int.natCast_nonneg _, hb m3, eqStr_self, by omega, Nat.le_refl _, Nat.le_refl _, Int.natCast_nonneg _, hb m4, eqStr_self, by omega, Nat.le_refl _, Nat.le_refl _, Int.natCast_nonneg _, by decide, Int.natCast_nonneg _, by decide, Int.natCast_nonneg _, by decide, Int.natCast_nonneg _, hb m3, by omega, rfl, h3, Int.natCast_nonneg _, hb m4, by omega, rfl, h4, rfl, by omega, lim63 h3, Int.natCast_nonneg _, by decide, rfl, Nat.le_refl _, Nat.le_refl _, Int.natCast_nonneg _, by decide, rfl, Nat.le_refl _, Nat.le_refl _, Int.natCast_nonneg _, by decide, rfl, Nat.le_refl _, Nat.le_refl _, Int.natCast_nonneg _, hb m4, eqStr_self, by omega, Nat.le_refl _, Nat.le_refl _, rfl, by omega, lim63 h3, Int.natCast_nonneg _, by decide, Int.natCast_nonneg _, by decide, Int.natCast_nonneg _, by decide, Int.natCast_nonneg _, hb m3, by omega, rfl, h3, Int.natCast_nonneg _, hb m4, by omega, rfl, h4, rfl, by omega, lim63 h4, Int.natCast_nonneg _, by decide, rfl, Nat.le_refl _, Nat.le_refl _, Int.natCast_nonneg _, by decide, rfl, Nat.le_refl _, Nat.le_refl _, Int.natCast_nonneg _, by decide, rfl, Nat.le_refl _, Nat.le_refl _, Int.natCast_nonneg _, hb m3, eqStr_self, by omega, Nat.le_refl _, Nat.le_refl _, rfl, by omega, lim63 h4, by simp only [ovF_ovF]; exact endM_same rfl rfl⟩
def cApartNNNSS (args : List AV) (h : Heap) (_ : Nat) : Option (List Prop × AV × Heap) :=
  match args with
  | [.v1 (.sc (.sl l 0 5 5))] => match hget h l with
    | some ⟨tl, [.one (.rw (.slice none 0 0)), .one (.rw (.slice none 0 0)), .one (.rw (.slice none 0 0)), .one (.sl b3 0 n3 c3), .one (.sl b4 0 n4 c4)], 0, 0⟩ => match hget h b3, hget h b4 with
      | some ⟨t3, [.ws .u8 N3 f3], 0, 0⟩, some ⟨t4, [.ws .u8 N4 f4], 0, 0⟩ => match nodupB [l, b3, b4] with
        | true => some ([N3 = c3, 0 < c3, c3 ≤ limN, N4 = c4, 0 < c4, c4 ≤ limN], .v1 (.sc (.bo true)), h)
        | false => none
      | _, _ => none
    | _ => none
  | _ => none
theorem okApartNNNSS : (CallC.mem cApartNNNSS).Ok Try.prog 17 := by
  intro args h slot pre v h' e hp
  unfold cApartNNNSS at e
  split at e
  rotate_left
  · cases e
  rename_i l
  split at e
  rotate_left
  · cases e
  rename_i tl b3 n3 c3 b4 n4 c4 hl
  split at e
  rotate_left
  · cases e
  rename_i t3 N3 f3 t4 N4 f4 g3 g4
  split at e
  rotate_left
  · cases e
  rename_i hnd
  cases e
  have e3 : N3 = c3 := hp _ (by simp)
  have z3 : 0 < c3 := hp (0 < c3) (by simp)
  have l3 : c3 ≤ limN := hp (c3 ≤ limN) (by simp)
  have e4 : N4 = c4 := hp _ (by simp)
  have z4 : 0 < c4 := hp (0 < c4) (by simp)
  have l4 : c4 ≤ limN := hp (c4 ≤ limN) (by simp)
  subst e3
  subst e4
  obtain ⟨m3, rfl⟩ : ∃ m, N3 = m + 1 := ⟨N3 - 1, by omega⟩
  obtain ⟨m4, rfl⟩ : ∃ m, N4 = m + 1 := ⟨N4 - 1, by omega⟩
  have ne : ∀ i j, i < 3 → j < 3 → i ≠ j → nthN [l, b3, b4] i ≠ nthN [l, b3, b4] j := fun i j hi hj hij e => hij (nodupB_spec hnd i j (by simpa using hi) (by simpa using hj) e)
  have kl : bk [l, b3, b4] l = 0 := by simp [bk, idxN]
  have x10 : Nat.beq b3 l = false := beqf (show b3 ≠ l from ne 1 0 (by omega) (by omega) (by omega))
  have kb3 : bk [l, b3, b4] b3 = 1 := by simp [bk, idxN, x10]
  have x20 : Nat.beq b4 l = false := beqf (show b4 ≠ l from ne 2 0 (by omega) (by omega) (by omega))
  have x21 : Nat.beq b4 b3 = false := beqf (show b4 ≠ b3 from ne 2 1 (by omega) (by omega) (by omega))
  have kb4 : bk [l, b3, b4] b4 = 2 := by simp [bk, idxN, x20, x21]
  have hpk : pickH [l, b3, b4] h [l, b3, b4] = [some ⟨tl, [.one (.rw (.slice none 0 0)), .one (.rw (.slice none 0 0)), .one (.rw (.slice none 0 0)), .one (.sl 1 0 n3 (m3 + 1)), .one (.sl 2 0 n4 (m4 + 1))], 0, 0⟩, oB t3 (m3 + 1) f3, oB t4 (m4 + 1) f4] := by
    show [pickB [l, b3, b4] (hget h l), pickB [l, b3, b4] (hget h b3), pickB [l, b3, b4] (hget h b4)] = _
    rw [hl, g3, g4]
    simp only [pickB, bkBlk, bkCells, bkCell, bkSc, kb3, kb4]
  have hchk : chkB [l, b3, b4] [some ⟨tl, [.one (.rw (.slice none 0 0)), .one (.rw (.slice none 0 0)), .one (.rw (.slice none 0 0)), .one (.sl 1 0 n3 (m3 + 1)), .one (.sl 2 0 n4 (m4 + 1))], 0, 0⟩, oB t3 (m3 + 1) f3, oB t4 (m4 + 1) f4] = true := by
    unfold chkB
    rw [hnd]; rfl
  have hlv : ∀ i, i < 3 → Lv [some ⟨tl, [.one (.rw (.slice none 0 0)), .one (.rw (.slice none 0 0)), .one (.rw (.slice none 0 0)), .one (.sl 1 0 n3 (m3 + 1)), .one (.sl 2 0 n4 (m4 + 1))], 0, 0⟩, oB t3 (m3 + 1) f3, oB t4 (m4 + 1) f4] i := fun i hi => by
    have : i = 0 ∨ i = 1 ∨ i = 2 := by omega
    rcases this with rfl | rfl | rfl <;> exact ⟨_, rfl, by simp⟩
  refine mem_walk tt_ok Try.func17 (by kernel_rfl) (by kernel_rfl) [l, b3, b4] [] 0 [some ⟨tl, [.one (.rw (.slice none 0 0)), .one (.rw (.slice none 0 0)), .one (.rw (.slice none 0 0)), .one (.sl 1 0 n3 (m3 + 1)), .one (.sl 2 0 n4 (m4 + 1))], 0, 0⟩, oB t3 (m3 + 1) f3, oB t4 (m4 + 1) f4] [some ⟨tl, [.one (.rw (.slice none 0 0)), .one (.rw (.slice none 0 0)), .one (.rw (.slice none 0 0)), .one (.sl 1 0 n3 (m3 + 1)), .one (.sl 2 0 n4 (m4 + 1))], 0, 0⟩, oB t3 (m3 + 1) f3, oB t4 (m4 + 1) f4] (args' := [.v1 (.sc (.sl 0 0 5 5))]) (vK := .v1 (.sc (.bo true)))
    hchk hpk (by kernel_rfl) ?_ (by kernel_rfl) hlv (by kernel_rfl) (by kernel_rfl) (fun i hi => (hlv i (by simpa using hi)).dm) hchk hpk rfl (fun t ht => by simp at ht) (fun _ _ _ => rfl) (apWalkNNNSS l3 l4)
  show [AV.v1 (.sc (.sl (bk [l, b3, b4] l) 0 5 5))] = _
  rw [kl]
/-! few -/
def cFewT (args : List AV) (h : Heap) : Option (List Prop × AV) :=
  match args with
  | [x] => match vw h x with
    | some (n, f, q) => some (q ++ [n ≤ 2000 ∨ (1048576 < n ∧ n ≤ 1048616)], .v1 (.sc (.bo true)))
    | none => none
  | _ => none
def cFewF (args : List AV) (h : Heap) : Option (List Prop × AV) :=
  match args with
  | [x] => match vw h x with
    | some (n, f, q) => some (q ++ [¬ (n ≤ 2000 ∨ (1048576 < n ∧ n ≤ 1048616))], .v1 (.sc (.bo false)))
    | none => none
  | _ => none
theorem ile_t {n m : Nat} (h : n ≤ m) : (!ilt (Int.ofNat m) (Int.ofNat n)) = true := by rw [ilt_f (by omega)]; rfl
theorem ile_f {n m : Nat} (h : ¬ n ≤ m) : (!ilt (Int.ofNat m) (Int.ofNat n)) = false := by rw [ilt_t (by omega)]; rfl
theorem okFewT : (CallC.rd cFewT).Ok Try.prog 7 := by
  refine ⟨fun args h pre v e hp => ?_, fun args h slot blk hs ha => ?_⟩
  · unfold cFewT at e
    split at e
    rotate_left
    · cases e
    rename_i x
    split at e
    rotate_left
    · cases e
    rename_i n f q h1
    cases e
    have hn : n ≤ 2000 ∨ (1048576 < n ∧ n ≤ 1048616) := hp _ (by simp)
    refine views_call tt_ok Try.func7 (by kernel_rfl) (by kernel_rfl) [.vs n f] (args := [x])
      ⟨⟨q, h1, fun p hq => hp p (List.mem_append_left _ hq)⟩, trivial⟩ 0 [] (.v1 (.sc (.bo true))) rfl rfl rfl (fun t ht => by simp at ht) fun a W hi => ⟨[], rfl, ?_⟩
    rcases hi with _ | _ | ⟨w1, h0, hi⟩ | ⟨t1, o1, c1, v1, kc1, hi⟩ | _
    · cases hi
      exact evS_q mixed tt_ok (G := ctxL []) ctxL_nil 60 [] (same (p := endM [] [] [] (.v1 (.sc (.bo true))) (.v1 (.sc (.bo true)))) (endM_same rfl rfl) (by kernel_rfl))
    · cases hi
      by_cases hs : n ≤ 2000
      · exact evS_q mixed tt_ok (G := ctxL []) ctxL_nil 60 [⟨1,2,.lit (.bo true)⟩] (same (p := (!ilt 2000 (Int.ofNat n)) = true ∧ endM [0] [wB t1 o1 n f v1] [wB t1 o1 n f v1] (.v1 (.sc (.bo true))) (.v1 (.sc (.bo true)))) ⟨ile_t (m := 2000) hs, endM_same rfl rfl⟩ (by kernel_rfl))
      · exact evS_q mixed tt_ok (G := ctxL []) ctxL_nil 60 [⟨1,2,.lit (.bo false)⟩,⟨1,6,.lit (.bo true)⟩,⟨1,10,.lit (.bo true)⟩] (same (p := (!ilt 2000 (Int.ofNat n)) = false ∧ ilt 1048576 (Int.ofNat n) = true ∧ (!ilt 1048616 (Int.ofNat n)) = true ∧ endM [0] [wB t1 o1 n f v1] [wB t1 o1 n f v1] (.v1 (.sc (.bo true))) (.v1 (.sc (.bo true)))) ⟨ile_f (m := 2000) hs, ilt_t (i := 1048576) (by omega), ile_t (m := 1048616) (by omega), endM_same rfl rfl⟩ (by kernel_rfl))
  · unfold cFewT
    split
    · rename_i x
      rw [vw_local hs (ha x (by simp))]
    · rfl
theorem okFewF : (CallC.rd cFewF).Ok Try.prog 7 := by
  refine ⟨fun args h pre v e hp => ?_, fun args h slot blk hs ha => ?_⟩
  · unfold cFewF at e
    split at e
    rotate_left
    · cases e
    rename_i x
    split at e
    rotate_left
    · cases e
    rename_i n f q h1
    cases e
    have hn : ¬ (n ≤ 2000 ∨ (1048576 < n ∧ n ≤ 1048616)) := hp _ (by simp)
    refine views_call tt_ok Try.func7 (by kernel_rfl) (by kernel_rfl) [.vs n f] (args := [x])
      ⟨⟨q, h1, fun p hq => hp p (List.mem_append_left _ hq)⟩, trivial⟩ 0 [] (.v1 (.sc (.bo false))) rfl rfl rfl (fun t ht => by simp at ht) fun a W hi => ⟨[], rfl, ?_⟩
    rcases hi with _ | _ | ⟨w1, h0, hi⟩ | ⟨t1, o1, c1, v1, kc1, hi⟩ | _
    · omega
    · cases hi
      by_cases hs : 1048576 < n
      · exact evS_q mixed tt_ok (G := ctxL []) ctxL_nil 60 [⟨1,2,.lit (.bo false)⟩,⟨1,6,.lit (.bo true)⟩,⟨1,10,.lit (.bo false)⟩] (same (p := (!ilt 2000 (Int.ofNat n)) = false ∧ ilt 1048576 (Int.ofNat n) = true ∧ (!ilt 1048616 (Int.ofNat n)) = false ∧ endM [0] [wB t1 o1 n f v1] [wB t1 o1 n f v1] (.v1 (.sc (.bo false))) (.v1 (.sc (.bo false)))) ⟨ile_f (m := 2000) (by omega), ilt_t (i := 1048576) hs, ile_f (m := 1048616) (by omega), endM_same rfl rfl⟩ (by kernel_rfl))
      · exact evS_q mixed tt_ok (G := ctxL []) ctxL_nil 60 [⟨1,2,.lit (.bo false)⟩,⟨1,6,.lit (.bo false)⟩] (same (p := (!ilt 2000 (Int.ofNat n)) = false ∧ ilt 1048576 (Int.ofNat n) = false ∧ endM [0] [wB t1 o1 n f v1] [wB t1 o1 n f v1] (.v1 (.sc (.bo false))) (.v1 (.sc (.bo false)))) ⟨ile_f (m := 2000) (by omega), ilt_f (i := 1048576) hs, endM_same rfl rfl⟩ (by kernel_rfl))
  · unfold cFewF
    split
    · rename_i x
      rw [vw_local hs (ha x (by simp))]
    · rfl
end Go.Proofs.Ytndmoidenbfflaa
