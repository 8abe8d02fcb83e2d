/- Slices of bytes that are copied, and turned over in place. -/
import Derived.Test.YtndmoidenbfflaaC14
namespace Go.Proofs.Ytndmoidenbfflaa
open Go.Rq Go
set_option linter.unusedVariables false
set_option linter.unusedSimpArgs false

/-! CopyBytes -/
def cCopy (args : List AV) (h : Heap) (slot : Nat) : Option (List Prop × AV × Heap) :=
  match args with
  | [x] => match vwc h x with
    | some (n, c, f, pre) => match isHole h slot && isHole h (slot + 1) with
      | true => some (pre ++ [n = c, c ≤ limN], .v1 (.sc (.so slot n)), hset (hset h slot ⟨5, [.ws .u8 n f], 1, 1⟩) (slot + 1) ⟨0, [], 2, 0⟩)
      | false => none
    | none => none
  | _ => none
theorem okCopy : (CallC.mem cCopy).Ok Try.prog 25 := by
  intro args h slot pre v h' e hp
  unfold cCopy at e
  split at e
  rotate_left
  · cases e
  rename_i x
  split at e
  rotate_left
  · cases e
  rename_i n c f q hx
  split at e
  rotate_left
  · cases e
  rename_i hh
  cases e
  simp only [Bool.and_eq_true] at hh
  have hnc : n = c := hp _ (by simp)
  have hlim : c ≤ limN := hp _ (by simp)
  subst hnc
  refine views_call tt_ok Try.func25 (by kernel_rfl) (by kernel_rfl) [.vc n n f] (args := [x])
    ⟨⟨q, hx, fun p hq => hp p (List.mem_append_left _ hq)⟩, trivial⟩ slot [⟨5, [.ws .u8 n f], 1, 1⟩, ⟨0, [], 2, 0⟩] (.v1 (.sc (.so 0 n))) rfl rfl rfl (fun t ht => by
      have : t = 0 ∨ t = 1 := by simp at ht; omega
      rcases this with rfl | rfl
      · exact hh.1
      · exact hh.2) fun a Wn hi => ⟨[2,3], rfl, ?_⟩
  rcases hi with _ | _ | _ | _ | ⟨t1, o1, v1, hi⟩
  cases hi
  refine evS_q mixed tt_ok (G := ctxL []) ctxL_nil 40 [⟨1,2,.sym⟩] (same (p := o1 ≤ o1 ∧ o1 - o1 + n ≤ n ∧ 0 + n ≤ limN ∧ (false = true → 0 < n) ∧ endM [0,2,3] [wB t1 o1 n f v1, some ⟨5, [.ws .u8 n (fun j => f (o1 - o1 + j))], 1, 1⟩, some ⟨0, [], 2, 0⟩] [wB t1 o1 n f v1, some ⟨5, [.ws .u8 n f], 1, 1⟩, some ⟨0, [], 2, 0⟩] (.v1 (.sc (.so 2 (0 + n)))) (.v1 (.sc (.so 1 n)))) ?_ (by kernel_rfl))
  refine ⟨Nat.le_refl _, win_le, by omega, fun h => (by cases h), endM_ok ⟨simB_refl _, ⟨rfl, rfl, rfl, fun ρ => by rw [win_fun]⟩, simB_refl _, trivial⟩ rfl fun ρ => ?_⟩
  rw [Nat.zero_add]; rfl

/-! OverBytes -/
def ovF (f : Nat → Nat) : Nat → Nat := fun j => f j ^^^ 90
def cOver (args : List AV) (h : Heap) (_ : Nat) : Option (List Prop × AV × Heap) :=
  match args with
  | [.v1 (.sc (.sl b 0 n c))] => match hget h b with
    | some ⟨t, [.ws .u8 N f], 0, 0⟩ => some ([N = c, 0 < c, c < 9223372036854775807], .tup [], hset h b ⟨t, [.ws .u8 N (ovF f)], 0, 0⟩)
    | _ => none
  | _ => none
abbrev oB (t c : Nat) (g : Nat → Nat) : Option Blk := some ⟨t, [.ws .u8 c g], 0, 0⟩
def InvOv (f : Nat → Nat) (c : Nat) (x : Nat × (Nat → Nat)) : Prop := x.1 ≤ c ∧ (∀ j, j < x.1 → x.2 j % 256 = ovF f j % 256) ∧ ∀ j, x.1 ≤ j → x.2 j = f j
theorem inv_ov {f g : Nat → Nat} {c i : Nat} (hi : i < c) (h : InvOv f c (i, g)) : InvOv f c (i + 1, upd g i (g i ^^^ 90)) := by
  obtain ⟨_, h1, h2⟩ := h
  refine ⟨by simp only; omega, fun j hj => ?_, fun j hj => ?_⟩
  · simp only at hj ⊢
    by_cases e : j = i
    · subst e
      rw [upd_same, show g j = f j from h2 j (Nat.le_refl _)]; rfl
    · rw [upd_ne _ _ e]; exact h1 j (by simp only; omega)
  · simp only at hj ⊢
    rw [upd_ne _ _ (by omega)]; exact h2 j (by simp only; omega)
theorem ovF_ovF (f : Nat → Nat) : ovF (ovF f) = f := by
  funext j
  unfold ovF
  rw [Nat.xor_assoc, Nat.xor_self, Nat.xor_zero]
theorem okOver : (CallC.mem cOver).Ok Try.prog 35 := by
  intro args h slot pre v h' e hp
  unfold cOver at e
  split at e
  rotate_left
  · cases e
  rename_i b n c
  split at e
  rotate_left
  · cases e
  rename_i t N f hb
  cases e
  have hN : N = c := hp _ (by simp)
  have hc0 : 0 < c := hp _ (by simp)
  have hc63 : c < 9223372036854775807 := hp _ (by simp)
  subst hN
  obtain ⟨k, rfl⟩ : ∃ k, N = k + 1 := ⟨N - 1, by omega⟩
  have hpk : pickH [b] h [b] = [oB t (k + 1) f] := by
    show [pickB [b] (hget h b)] = _
    rw [hb]; rfl
  have hbk : bk [b] b = 0 := by simp [bk, idxN]
  have hlv : ∀ i, i < 1 → Lv [oB t (k + 1) f] i := fun i hi => by
    have : i = 0 := by omega
    subst this; exact ⟨_, rfl, by simp⟩
  have hlt := hget_lt hb
  have walk : AWqS Try.prog (Dm [oB t (k + 1) f]) (flatC (bodyOf Try.f35)) (FEndM tt Try.f35 [0] (.tup []) [oB t (k + 1) (ovF f)]) ⟨frame0 [.v1 (.sc (.sl 0 0 n (k + 1)))] Try.f35.ntmps, [oB t (k + 1) f]⟩ := by
    refine loopK mixed tt_ok (G := ctxL []) ctxL_nil 0 (by kernel_rfl) (ι := {x // InvOv f (k + 1) x}) [2,3] 22 1 (fun x => [.v1 (.sc (.sl 0 0 (k + 1) (k + 1))), iv (Int.ofNat x.1.1)]) (fun x => [oB t (k + 1) x.1.2]) (fun x => k + 1 - x.1.1) (fun x => x.1.1 = k + 1)
      (fun _ => rfl) (fun _ => by kernel_rfl) (fun x j h => by have := Dm_lt h; simp at this; subst this; exact ⟨_, rfl⟩) 60 [⟨0,3,.sym⟩] ?_ ?_ ?_
    · refine same (p := 0 ≤ Int.ofNat (k + 1) ∧ Int.ofNat (k + 1) < ((k + 1 + 1 : Nat) : Int) ∧ true = true ∧ ∃ j : {x // InvOv f (k + 1) x}, [.v1 (.sc (.sl 0 0 (k + 1) (k + 1))), iv (Int.ofNat 0)] = [.v1 (.sc (.sl 0 0 (k + 1) (k + 1))), iv (Int.ofNat j.1.1)] ∧ [oB t (k + 1) f] = [oB t (k + 1) j.1.2]) ?_ (by kernel_rfl)
      exact ⟨Int.natCast_nonneg _, by simp only [Int.ofNat_eq_natCast]; omega, rfl, ⟨(0, f), by simp, fun j hj => by simp at hj, fun j _ => rfl⟩, rfl, rfl⟩
    · intro ⟨⟨i, g⟩, hinv⟩ junk
      have hi := hinv.1
      simp only at hi
      by_cases hik : i < k + 1
      · refine roundF mixed tt_ok (G := ctxL []) ctxL_nil 60 [⟨2,3,.lit (.bo true)⟩,⟨4,4,.sym⟩,⟨4,5,.sym⟩,⟨4,7,.sym⟩,⟨4,8,.sym⟩,⟨3,1,.lit (.it (Int.ofNat (i+1)))⟩] ?_
        refine same (p := ilt (Int.ofNat i) (Int.ofNat (k + 1)) = true ∧ ix i (k + 1) (ix i (k + 1) (wrapI (Int.ofNat i + 1) = Int.ofNat (i + 1) ∧ true = true ∧
          ∃ j : {x // InvOv f (k + 1) x}, k + 1 - j.1.1 < k + 1 - i ∧ [.v1 (.sc (.sl 0 0 (k + 1) (k + 1))), iv (Int.ofNat (i + 1))] = [.v1 (.sc (.sl 0 0 (k + 1) (k + 1))), iv (Int.ofNat j.1.1)] ∧ [oB t (k + 1) (upd g i (g i ^^^ 90))] = [oB t (k + 1) j.1.2]))) ?_ (by kernel_rfl)
        exact ⟨ilt_t hik, ix_of hik (ix_of hik ⟨wrapI_succ (by omega), rfl, ⟨(i + 1, _), inv_ov hik hinv⟩, by simp only; omega, rfl, rfl⟩)⟩
      · have : i = k + 1 := by omega
        subst this
        refine roundF mixed tt_ok (G := ctxL []) ctxL_nil 60 [⟨2,3,.lit (.bo false)⟩] ?_
        refine same (p := ilt (Int.ofNat (k + 1)) (Int.ofNat (k + 1)) = false ∧ true = true ∧ ∃ j : {x // InvOv f (k + 1) x}, j.1.1 = k + 1 ∧ [.v1 (.sc (.sl 0 0 (k + 1) (k + 1))), iv (Int.ofNat (k + 1))] = [.v1 (.sc (.sl 0 0 (k + 1) (k + 1))), iv (Int.ofNat j.1.1)] ∧ [oB t (k + 1) g] = [oB t (k + 1) j.1.2]) ?_ (by kernel_rfl)
        exact ⟨ilt_f (by omega), rfl, ⟨(k + 1, g), hinv⟩, rfl, rfl, rfl⟩
    · intro ⟨⟨i, g⟩, hinv⟩ junk hi
      simp only at hi
      subst hi
      refine evS_q mixed tt_ok (G := ctxL []) ctxL_nil 40 [] (same (p := endM [0] [oB t (k + 1) g] [oB t (k + 1) (ovF f)] (.tup []) (.tup [])) ?_ (by kernel_rfl))
      exact endM_ok ⟨⟨rfl, rfl, rfl, fun ρ => ws8_val hinv.2.1 ρ⟩, trivial⟩ rfl fun _ => rfl
  refine mem_walk tt_ok Try.func35 (by kernel_rfl) (by kernel_rfl) [b] [] 0 [oB t (k + 1) f] [oB t (k + 1) (ovF f)] (args' := [.v1 (.sc (.sl 0 0 n (k + 1)))]) (vK := .tup [])
    (by kernel_rfl) hpk (by kernel_rfl) ?_ (by kernel_rfl) hlv (by kernel_rfl) (by kernel_rfl) (fun i hi => by
      have : i = 0 := by simpa using hi
      subst this; exact ⟨_, rfl⟩) (by kernel_rfl) ?_ rfl (fun t ht => by simp at ht) (fun i hi _ => ?_) walk
  · show [AV.v1 (.sc (.sl (bk [b] b) 0 n (k + 1)))] = _
    rw [hbk]
  · show [pickB [b] (hget (hset h b _) b)] = _
    rw [hget_hset_same hlt]; rfl
  · exact hget_hset_ne fun e => hi 0 (by simp) (by rw [e]; rfl)
end Go.Proofs.Ytndmoidenbfflaa
