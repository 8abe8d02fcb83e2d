/- Poly1305 of the code: numbers of eight bytes, fold. -/
import Derived.Test.YtndmoidenbfflaaC3
import Derived.Test.YtndmoidenbfflaaWC
import Derived.Test.YtndmoidenbfflaaWX
namespace Go.Proofs.Ytndmoidenbfflaa
open Go.Rq Go
set_option linter.unusedVariables false
set_option linter.unusedSimpArgs false
def GL6 : Ctx := ctxL [(40, .rd cLow32)]
theorem GL6_ok : CtxOk Try.prog GL6 := ctxL_cons okLow32 ctxL_nil
abbrev plB (t : Nat) (f r : Nat → Nat) : Option Blk := some ⟨t, [.ws .u64 3 f, .ws .u64 2 r], 0, 0⟩
def GAd : Ctx := ctxL [(53, .pure cAdd64)]
theorem GAd_ok : CtxOk Try.prog GAd := ctxL_cons okAdd64 ctxL_nil
abbrev b8 (f : Nat → Nat) : Nat → Nat := fun j => f j % 256
theorem lo32_num (f : Nat → Nat) : lo32 f = num (b8 f) 4 := by
  unfold lo32
  simp only [num, b8, Nat.pow_zero, Nat.mul_one, Nat.zero_add, Nat.pow_one]
  have h0 := Nat.mod_lt (f 0) (show 0 < 256 by decide)
  have h1 := Nat.mod_lt (f 1) (show 0 < 256 by decide)
  have h2 := Nat.mod_lt (f 2) (show 0 < 256 by decide)
  generalize f 0 % 256 = a at *
  generalize f 1 % 256 = b at *
  generalize f 2 % 256 = c at *
  generalize f 3 % 256 = d at *
  have e1 := orAdd (a := a) (b := b) (k := 8) h0
  have e2 := orAdd (a := a + b * 2 ^ 8) (b := c) (k := 16) (by omega)
  have e3 := orAdd (a := a + b * 2 ^ 8 + c * 2 ^ 16) (b := d) (k := 24) (by omega)
  rw [show (16777216 : Nat) = 2 ^ 24 by decide, show (65536 : Nat) = 2 ^ 16 by decide, show (256 : Nat) = 2 ^ 8 by decide, e1, e2, e3]
theorem lo32_lt (f : Nat → Nat) : lo32 f < 4294967296 := by
  rw [lo32_num]
  exact num_lt (n := 4) fun j _ => Nat.mod_lt _ (by decide)
def lo64 (f : Nat → Nat) : Nat := lo32 f % 4294967296 ||| lo32 (fun j => f (4 + j)) % 4294967296 * 4294967296
theorem lo64_num (f : Nat → Nat) : lo64 f = num (b8 f) 8 := by
  unfold lo64
  rw [Nat.mod_eq_of_lt (lo32_lt _), Nat.mod_eq_of_lt (lo32_lt _), show (4294967296 : Nat) = 2 ^ 32 by decide, orAdd (lo32_lt f), lo32_num, lo32_num, num_split 4 4, Nat.mul_comm]
theorem lo64_lt (f : Nat → Nat) : lo64 f < 18446744073709551616 := by
  rw [lo64_num]
  exact num_lt (n := 8) fun j _ => Nat.mod_lt _ (by decide)
def cLow64 (args : List AV) (h : Heap) : Option (List Prop × AV) :=
  match args with
  | [x] => match vw h x with
    | some (n, f, q) => some (q ++ [8 ≤ n], .v1 (.sc (.w .u64 (lo64 f))))
    | none => none
  | _ => none
theorem okLow64 : (CallC.rd cLow64).Ok Try.prog 44 := by
  refine ⟨fun args h pre v e hp => ?_, fun args h slot blk hs ha => ?_⟩
  · unfold cLow64 at e
    split at e
    rotate_left
    · cases e
    rename_i x
    split at e
    rotate_left
    · cases e
    rename_i n f q h1
    cases e
    have hn : 8 ≤ n := hp _ (by simp)
    refine views_call tt_ok Try.func44 (by kernel_rfl) (by kernel_rfl) [.vs n f] (args := [x])
      ⟨⟨q, h1, fun p hq => hp p (List.mem_append_left _ hq)⟩, trivial⟩ 0 [] (.v1 (.sc (.w .u64 (lo64 f)))) rfl rfl rfl (fun t ht => by simp at ht) fun a W hi => ⟨[], rfl, ?_⟩
    rcases hi with _ | _ | ⟨w1, h0, hi⟩ | ⟨t1, o1, c1, v1, kc1, hi⟩ | _
    · exact absurd h0 (by omega)
    · cases hi
      obtain ⟨n, rfl⟩ : ∃ m, n = m + 8 := ⟨n - 8, by omega⟩
      obtain ⟨e, rfl⟩ : ∃ e, c1 = e + (n + 8) := ⟨c1 - (n + 8), by omega⟩
      refine evS_q mixed tt_ok GL6_ok 60 [⟨1,4,.sym⟩] (same (p := o1 ≤ o1 ∧ o1 - o1 + (n + 8) ≤ n + 8 ∧ n + 8 ≤ e + (n + 8) ∧ 4 ≤ n + 8 ∧ 0 ≤ Int.ofNat 4 ∧ Int.ofNat 4 < ((n + 8 + 1 : Nat) : Int) ∧ o1 ≤ addN o1 4 ∧ addN o1 4 - o1 + (n + 8 - 4) ≤ n + 8 ∧ n + 8 - 4 ≤ e + (n + 8) - 4 ∧ 4 ≤ n + 8 - 4 ∧
        endM [0] [wB t1 o1 (n + 8) f v1] [wB t1 o1 (n + 8) f v1] (.v1 (.sc (.w .u64 (lo32 (fun j => f (o1 - o1 + j)) % 4294967296 ||| lo32 (fun j => f (addN o1 4 - o1 + j)) % 4294967296 * 4294967296)))) (.v1 (.sc (.w .u64 (lo64 f))))) ?_ (by kernel_rfl))
      have e4 : addN o1 4 = o1 + 4 := addN_eq ..
      refine ⟨Nat.le_refl _, win_le, by omega, by omega, by decide, by simp only [Int.ofNat_eq_natCast]; omega, by omega, by omega, by omega, by omega, endM_same rfl ?_⟩
      rw [win_fun, show (fun j => f (addN o1 4 - o1 + j)) = (fun j => f (4 + j)) from by funext j; rw [e4]; congr 1; omega]
      rfl
  · unfold cLow64
    split
    · rename_i x
      rw [vw_local hs (ha x (by simp))]
    · rfl

/-! fold -/
def cFold (args : List AV) (h : Heap) (slot : Nat) : Option (List Prop × AV × Heap) :=
  match args with
  | [.v1 (.sc (.pt p 0)), .v1 (.agg [.ws .u64 4 w])] => match hget h p with
    | some ⟨t0, [.ws .u64 3 f, .ws .u64 2 r], 0, 0⟩ => some ([], .tup [], hset h p ⟨t0, [.ws .u64 3 (foR w), .ws .u64 2 r], 0, 0⟩)
    | _ => none
  | _ => none
theorem foC_le (a : Nat → Nat) (l : Nat) : foC a l % 18446744073709551616 ≤ 1 := by
  have : foC a l ≤ 1 := aC_le (by decide)
  omega
theorem okFold : (CallC.mem cFold).Ok Try.prog 57 := by
  intro args h slot pre v h' e hp
  unfold cFold at e
  split at e
  rotate_left
  · cases e
  rename_i p w
  split at e
  rotate_left
  · cases e
  rename_i t0 f r hb0
  cases e
  have hl := hget_lt hb0
  refine mem_walk tt_ok Try.func57 (by kernel_rfl) (by kernel_rfl) [p] [] slot [plB t0 f r] [plB t0 (foR w) r] (args' := [.v1 (.sc (.pt 0 0)), .v1 (.agg [.ws .u64 4 w])]) (vK := .tup [])
    (by kernel_rfl) ?_ (by kernel_rfl) ?_ (by kernel_rfl) (fun i hi => ?_) (by kernel_rfl) (by kernel_rfl) (fun i hi => ?_) (by kernel_rfl) ?_ rfl (fun t ht => by simp at ht) (fun i hi _ => ?_) ?_
  · show [pickB _ (hget h p)] = _
    rw [hb0]; rfl
  · show [AV.v1 (.sc (.pt (bk [p] p) 0)), _] = _
    rw [bk_one]; rfl
  · have : i = 0 := by simpa using hi
    subst this; exact ⟨_, rfl, by simp⟩
  · have : i = 0 := by simpa using hi
    subst this; exact ⟨_, rfl⟩
  · show [pickB _ (hget (hset h p _) p)] = _
    rw [hget_hset_same hl]; rfl
  · exact hget_hset_ne fun e => hi 0 (by simp) (by rw [e]; rfl)
  · refine evS_q mixed tt_ok GAd_ok 500 [] (same (p := 0 % 18446744073709551616 ≤ 1 ∧ foC (fo0 w) (w 2 &&& 18446744073709551612) % 18446744073709551616 ≤ 1 ∧ 0 % 18446744073709551616 ≤ 1 ∧ foC (foW (fo0 w) (w 2 &&& 18446744073709551612) (w 3)) (foL w) % 18446744073709551616 ≤ 1 ∧ endM [0] [plB t0 (foR w) r] [plB t0 (foR w) r] (.tup []) (.tup [])) ?_ (by kernel_rfl))
    exact ⟨by decide, foC_le _ _, by decide, foC_le _ _, endM_same rfl rfl⟩
end Go.Proofs.Ytndmoidenbfflaa
