/- Numbers of four bytes; turned ones. -/
import Derived.Test.YtndmoidenbfflaaC16
namespace Go.Proofs.Ytndmoidenbfflaa
open Go.Rq Go
set_option linter.unusedVariables false
set_option linter.unusedSimpArgs false

/-- A window's byte: what an address asks. -/
def wx (o n i : Nat) (q : Prop) : Prop := 0 ≤ Int.ofNat i ∧ Int.ofNat i < (n : Int) ∧ o ≤ addN o i ∧ addN o i < o + n ∧ q
theorem wx_of {o n i : Nat} {q : Prop} (h : i < n) (k : q) : wx o n i q := ⟨Int.natCast_nonneg _, by simp; exact h, by rw [addN_eq]; omega, by rw [addN_eq]; omega, k⟩
abbrev wbv (o i : Nat) (f : Nat → Nat) : Nat := f (addN o i - o)
theorem wbv_eq {o i : Nat} {f : Nat → Nat} : wbv o i f = f i := by
  unfold wbv; rw [addN_eq]; congr 1; omega
theorem wfun {o : Nat} {f : Nat → Nat} : (fun j => f (addN o j - o)) = f := by funext j; exact wbv_eq

abbrev endN (a b : AV) : Prop := ∃ v', some a = some v' ∧ ∀ ρ, v'.val ρ = b.val ρ
/-! turned -/
def rotV (x k : Nat) : Nat := x * 2 ^ k ||| x % 4294967296 / 2 ^ (32 - k)
def cRot : List AV → Option (List Prop × AV)
  | [.v1 (.sc (.w .u32 x)), .v1 (.sc (.it (.ofNat k)))] => some ([k = 16 ∨ k = 12 ∨ k = 8 ∨ k = 7], .v1 (.sc (.w .u32 (rotV x k))))
  | _ => none
abbrev u32v (x : Nat) : AV := .v1 (.sc (.w .u32 x))
theorem okRot : (CallC.pure cRot).Ok Try.prog 51 := by
  intro args pre v e hp
  unfold cRot at e
  split at e
  · rename_i x k
    cases e
    rcases hp _ (List.mem_cons_self ..) with rfl | rfl | rfl | rfl
    · exact pure_walk' tt_ok Try.func51 (by kernel_rfl) (by kernel_rfl) rfl rfl (evS_q mixed tt_ok (G := ctxL []) ctxL_nil 60 [] (same (p := endN (u32v (rotV x 16)) (u32v (rotV x 16))) ⟨_, rfl, fun _ => rfl⟩ (by kernel_rfl)))
    · exact pure_walk' tt_ok Try.func51 (by kernel_rfl) (by kernel_rfl) rfl rfl (evS_q mixed tt_ok (G := ctxL []) ctxL_nil 60 [] (same (p := endN (u32v (rotV x 12)) (u32v (rotV x 12))) ⟨_, rfl, fun _ => rfl⟩ (by kernel_rfl)))
    · exact pure_walk' tt_ok Try.func51 (by kernel_rfl) (by kernel_rfl) rfl rfl (evS_q mixed tt_ok (G := ctxL []) ctxL_nil 60 [] (same (p := endN (u32v (rotV x 8)) (u32v (rotV x 8))) ⟨_, rfl, fun _ => rfl⟩ (by kernel_rfl)))
    · exact pure_walk' tt_ok Try.func51 (by kernel_rfl) (by kernel_rfl) rfl rfl (evS_q mixed tt_ok (G := ctxL []) ctxL_nil 60 [] (same (p := endN (u32v (rotV x 7)) (u32v (rotV x 7))) ⟨_, rfl, fun _ => rfl⟩ (by kernel_rfl)))
  · cases e
theorem okRot' : (CallC.pure cRot).Ok Try.prog 52 := by
  intro args pre v e hp
  unfold cRot at e
  split at e
  · rename_i x k
    cases e
    rcases hp _ (List.mem_cons_self ..) with rfl | rfl | rfl | rfl
    · exact pure_walk' tt_ok Try.func52 (by kernel_rfl) (by kernel_rfl) rfl rfl (evS_q mixed tt_ok (G := ctxL []) ctxL_nil 60 [] (same (p := endN (u32v (rotV x 16)) (u32v (rotV x 16))) ⟨_, rfl, fun _ => rfl⟩ (by kernel_rfl)))
    · exact pure_walk' tt_ok Try.func52 (by kernel_rfl) (by kernel_rfl) rfl rfl (evS_q mixed tt_ok (G := ctxL []) ctxL_nil 60 [] (same (p := endN (u32v (rotV x 12)) (u32v (rotV x 12))) ⟨_, rfl, fun _ => rfl⟩ (by kernel_rfl)))
    · exact pure_walk' tt_ok Try.func52 (by kernel_rfl) (by kernel_rfl) rfl rfl (evS_q mixed tt_ok (G := ctxL []) ctxL_nil 60 [] (same (p := endN (u32v (rotV x 8)) (u32v (rotV x 8))) ⟨_, rfl, fun _ => rfl⟩ (by kernel_rfl)))
    · exact pure_walk' tt_ok Try.func52 (by kernel_rfl) (by kernel_rfl) rfl rfl (evS_q mixed tt_ok (G := ctxL []) ctxL_nil 60 [] (same (p := endN (u32v (rotV x 7)) (u32v (rotV x 7))) ⟨_, rfl, fun _ => rfl⟩ (by kernel_rfl)))
  · cases e

/-! four bytes -/
def lo32 (f : Nat → Nat) : Nat := f 0 % 256 ||| f 1 % 256 * 256 ||| f 2 % 256 * 65536 ||| f 3 % 256 * 16777216
def cLow32 (args : List AV) (h : Heap) : Option (List Prop × AV) :=
  match args with
  | [x] => match vw h x with
    | some (n, f, q) => some (q ++ [4 ≤ n], u32v (lo32 f))
    | none => none
  | _ => none
theorem okLow32 : (CallC.rd cLow32).Ok Try.prog 40 := by
  refine ⟨fun args h pre v e hp => ?_, fun args h slot blk hs ha => ?_⟩
  · unfold cLow32 at e
    split at e
    rotate_left
    · cases e
    rename_i x
    split at e
    rotate_left
    · cases e
    rename_i n f q h1
    cases e
    have hn : 4 ≤ n := hp _ (by simp)
    refine views_call tt_ok Try.func40 (by kernel_rfl) (by kernel_rfl) [.vs n f] (args := [x])
      ⟨⟨q, h1, fun p hq => hp p (List.mem_append_left _ hq)⟩, trivial⟩ 0 [] (u32v (lo32 f)) rfl rfl rfl (fun t ht => by simp at ht) fun a W hi => ⟨[], rfl, ?_⟩
    rcases hi with _ | _ | ⟨w1, h0, hi⟩ | ⟨t1, o1, c1, v1, kc1, hi⟩ | _
    · exact absurd h0 (by omega)
    · cases hi
      refine evS_q mixed tt_ok (G := ctxL []) ctxL_nil 60 [⟨1,1,.sym⟩,⟨1,5,.sym⟩,⟨1,11,.sym⟩,⟨1,17,.sym⟩] (same (p := wx o1 n 0 (wx o1 n 1 (wx o1 n 2 (wx o1 n 3 (endM [0] [wB t1 o1 n f v1] [wB t1 o1 n f v1] (u32v (lo32 fun j => f (addN o1 j - o1))) (u32v (lo32 f))))))) ?_ (by kernel_rfl))
      exact wx_of (by omega) (wx_of (by omega) (wx_of (by omega) (wx_of (by omega) (endM_same rfl (by rw [wfun])))))
  · unfold cLow32
    split
    · rename_i x
      rw [vw_local hs (ha x (by simp))]
    · rfl
/-- From a place on. -/
def cFour (args : List AV) (h : Heap) : Option (List Prop × AV) :=
  match args with
  | [x, .v1 (.sc (.it (.ofNat a)))] => match vw h x with
    | some (n, f, q) => some (q ++ [a + 4 ≤ n, n < 1000000000], u32v (lo32 fun j => f (a + j)))
    | none => none
  | _ => none
theorem okFour : (CallC.rd cFour).Ok Try.prog 42 := by
  refine ⟨fun args h pre v e hp => ?_, fun args h slot blk hs ha => ?_⟩
  · unfold cFour at e
    split at e
    rotate_left
    · cases e
    rename_i x a
    split at e
    rotate_left
    · cases e
    rename_i n f q h1
    cases e
    have hn : a + 4 ≤ n := hp (a + 4 ≤ n) (by simp)
    have hn2 : n < 1000000000 := hp (n < 1000000000) (by simp)
    have w1 : wrapI (Int.ofNat a + 1) = Int.ofNat (a + 1) := wrapI_nn (n := a + 1) (by omega)
    have w2 : wrapI (Int.ofNat a + 2) = Int.ofNat (a + 2) := wrapI_nn (n := a + 2) (by omega)
    have w3 : wrapI (Int.ofNat a + 3) = Int.ofNat (a + 3) := wrapI_nn (n := a + 3) (by omega)
    refine views_call tt_ok Try.func42 (by kernel_rfl) (by kernel_rfl) [.vs n f, .pl (iv (Int.ofNat a))] (args := [x, iv (Int.ofNat a)])
      ⟨⟨q, h1, fun p hq => hp p (List.mem_append_left _ hq)⟩, ⟨rfl, rfl⟩, trivial⟩ 0 [] (u32v (lo32 fun j => f (a + j))) rfl rfl rfl (fun t ht => by simp at ht) fun A W hi => ⟨[], rfl, ?_⟩
    rcases hi with _ | _ | ⟨w1, h0, hi⟩ | ⟨t1, o1, c1, v1, kc1, hi⟩ | _
    · exact absurd h0 (by omega)
    · rcases hi with _ | hi | _ | _ | _
      cases hi
      refine evS_q mixed tt_ok (G := ctxL []) ctxL_nil 60 [⟨1,2,.sym⟩,⟨1,7,.lit (.it (Int.ofNat (a+1)))⟩,⟨1,8,.sym⟩,⟨1,15,.lit (.it (Int.ofNat (a+2)))⟩,⟨1,16,.sym⟩,⟨1,23,.lit (.it (Int.ofNat (a+3)))⟩,⟨1,24,.sym⟩] (same (p := wx o1 n a (wrapI (Int.ofNat a + 1) = Int.ofNat (a + 1) ∧ wx o1 n (a + 1) (wrapI (Int.ofNat a + 2) = Int.ofNat (a + 2) ∧ wx o1 n (a + 2) (wrapI (Int.ofNat a + 3) = Int.ofNat (a + 3) ∧ wx o1 n (a + 3) (endM [0] [wB t1 o1 n f v1] [wB t1 o1 n f v1] (u32v (lo32 fun j => f (addN o1 (a + j) - o1))) (u32v (lo32 fun j => f (a + j)))))))) ?_ (by kernel_rfl))
      refine wx_of (by omega) ⟨w1, wx_of (by omega) ⟨w2, wx_of (by omega) ⟨w3, wx_of (by omega) (endM_same rfl ?_)⟩⟩⟩
      rw [show (fun j => f (addN o1 (a + j) - o1)) = (fun j => f (a + j)) from by funext j; exact wbv_eq]
  · unfold cFour
    split
    · rename_i x a
      rw [vw_local hs (ha x (by simp))]
    · rfl
end Go.Proofs.Ytndmoidenbfflaa
