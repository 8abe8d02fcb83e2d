/- Joined: L14 WB L15 L16 L17 LAw WO L18. -/
import Derived.Test.YtafiafkeigdjhaaL13
import Derived.Test.YtafiafkeigdjhaaFwZ
import Derived.Test.YtafiafkeigdjhaaWZ4
import Derived.Test.YtafiafkeigdjhaaRows
import Derived.Test.YtafiafkeigdjhaaLA
import Derived.ProofKit
import Derived.Carry
import Derived.ChangeSlices
import Derived.Test.YtafiafkeigdjhaaWZ3
/- Slices of bytes: as equal, lent, kept. -/
namespace Go.Proofs.Ytafiafkeigdjhaa
open Go.Rq Go
set_option linter.unusedVariables false
set_option linter.unusedSimpArgs false
/-- The end of a walk over windows: what the blocks mc are, and the result. -/
abbrev endM (mc : List Nat) (K' K : Heap) (v vK : AV) : Prop := true = true ∧ true = true ∧ SimH K' K ∧ ∃ v', some v = some v' ∧ avB K' (bkAV mc v') = true ∧ ∀ ρ, (bkAV mc v').val ρ = vK.val ρ
theorem endM_ok {mc : List Nat} {K' K : Heap} {v vK : AV} (hs : SimH K' K) (hb : avB K' (bkAV mc v) = true) (he : ∀ ρ, (bkAV mc v).val ρ = vK.val ρ) : endM mc K' K v vK := ⟨rfl, rfl, hs, v, rfl, hb, he⟩
theorem simB_refl (b : Option Blk) : SimB b b := by
  cases b with
  | none => trivial
  | some b => exact ⟨rfl, rfl, rfl, fun _ => rfl⟩
theorem simH_refl : ∀ h : Heap, SimH h h
  | [] => trivial
  | b :: r => ⟨simB_refl b, simH_refl r⟩
theorem endM_same {mc : List Nat} {K : Heap} {v : AV} (hv : vokB v = true) {vK : AV} (he : v = vK) : endM mc K K v vK :=
  endM_ok (simH_refl K) (by rw [bkAV_plain hv]; exact avB_plain hv) (fun ρ => by rw [bkAV_plain hv, he])

/-! SameBytes -/
def cSame (args : List AV) (h : Heap) : Option (List Prop × AV) :=
  match args with
  | [x, y] => match vw h x, vw h y with
    | some (n, f, p1), some (m, g, p2) => some (p1 ++ p2, .v1 (.sc (.bo (eqStr n f m g))))
    | _, _ => none
  | _ => none
theorem eqStr_nil {f g f' g' : Nat → Nat} {m : Nat} : eqStr 0 f m g = eqStr 0 f' m g' := by
  unfold eqStr
  cases m with
  | zero => rfl
  | succ m => rfl
theorem eqStr_nil' {f g f' g' : Nat → Nat} {n : Nat} : eqStr n f 0 g = eqStr n f' 0 g' := by
  unfold eqStr
  cases n with
  | zero => rfl
  | succ m => rfl
theorem win_id {o j : Nat} : o - o + j = j := by omega
theorem win_fun {o : Nat} {f : Nat → Nat} : (fun j => f (o - o + j)) = f := by funext j; rw [win_id]
theorem win_le {o n : Nat} : o - o + n ≤ n := by omega
theorem okSame : (CallC.rd cSame).Ok Try.prog 17 := by
  refine ⟨fun args h pre v e hp => ?_, fun args h slot blk hs ha => ?_⟩
  · unfold cSame at e
    split at e
    · rename_i x y
      split at e
      · rename_i n f p1 m g p2 h1 h2
        cases e
        refine views_call tt_ok Try.func17 (by kernel_rfl) (by kernel_rfl) [.vs n f, .vs m g] (args := [x, y])
          ⟨⟨p1, h1, fun p hq => hp p (List.mem_append_left _ hq)⟩, ⟨p2, h2, fun p hq => hp p (List.mem_append_right _ hq)⟩, trivial⟩ 0 [] (.v1 (.sc (.bo (eqStr n f m g)))) rfl rfl rfl (fun t ht => by simp at ht) fun a W hi => ⟨[], rfl, ?_⟩
        rcases hi with _ | _ | ⟨w1, hn, hi⟩ | ⟨t1, o1, c1, v1, hi⟩ | _
        · rcases hi with _ | _ | ⟨w2, hm, hi⟩ | ⟨t2, o2, c2, v2, hi⟩ | _
          · cases hi
            subst hn; subst hm
            refine evS_q mixed tt_ok (G := ctxL []) ctxL_nil 40 [] (same (p := endM [] [] [] (.v1 (.sc (.bo (eqStr 0 (fun _ => 0) 0 (fun _ => 0))))) (.v1 (.sc (.bo (eqStr 0 f 0 g))))) ?_ (by kernel_rfl))
            exact endM_same rfl (by rw [eqStr_nil])
          · cases hi
            subst hn
            refine evS_q mixed tt_ok (G := ctxL []) ctxL_nil 40 [⟨1,3,.sym⟩] (same (p := o2 ≤ o2 ∧ o2 - o2 + m ≤ m ∧ m = m ∧ endM [0] [wB t2 o2 m g v2] [wB t2 o2 m g v2] (.v1 (.sc (.bo (eqStr 0 (fun _ => 0) m (fun j => g (o2 - o2 + j)))))) (.v1 (.sc (.bo (eqStr 0 f m g))))) ?_ (by kernel_rfl))
            exact ⟨Nat.le_refl _, win_le, rfl, endM_same rfl (by rw [eqStr_nil])⟩
        · rcases hi with _ | _ | ⟨w2, hm, hi⟩ | ⟨t2, o2, c2, v2, hi⟩ | _
          · cases hi
            subst hm
            refine evS_q mixed tt_ok (G := ctxL []) ctxL_nil 40 [⟨1,1,.sym⟩] (same (p := o1 ≤ o1 ∧ o1 - o1 + n ≤ n ∧ n = n ∧ endM [0] [wB t1 o1 n f v1] [wB t1 o1 n f v1] (.v1 (.sc (.bo (eqStr n (fun j => f (o1 - o1 + j)) 0 (fun _ => 0))))) (.v1 (.sc (.bo (eqStr n f 0 g))))) ?_ (by kernel_rfl))
            exact ⟨Nat.le_refl _, win_le, rfl, endM_same rfl (by rw [eqStr_nil'])⟩
          · cases hi
            refine evS_q mixed tt_ok (G := ctxL []) ctxL_nil 40 [⟨1,1,.sym⟩,⟨1,3,.sym⟩] (same (p := o1 ≤ o1 ∧ o1 - o1 + n ≤ n ∧ n = n ∧ o2 ≤ o2 ∧ o2 - o2 + m ≤ m ∧ m = m ∧ endM [0,1] [wB t1 o1 n f v1, wB t2 o2 m g v2] [wB t1 o1 n f v1, wB t2 o2 m g v2] (.v1 (.sc (.bo (eqStr n (fun j => f (o1 - o1 + j)) m (fun j => g (o2 - o2 + j)))))) (.v1 (.sc (.bo (eqStr n f m g))))) ?_ (by kernel_rfl))
            exact ⟨Nat.le_refl _, win_le, rfl, Nat.le_refl _, win_le, rfl, endM_same rfl (by rw [win_fun, win_fun])⟩
      · cases e
    · cases e
  · unfold cSame
    split
    · rename_i x y
      rw [vw_local hs (ha x (by simp)), vw_local hs (ha y (by simp))]
    · rfl

/-! LentBytes -/
def lentF (n : Nat) (f : Nat → Nat) : Nat → Nat := fun j => bif Nat.blt j n then f j else 160 + j % 90
def cLent (args : List AV) (h : Heap) (slot : Nat) : Option (List Prop × AV × Heap) :=
  match args with
  | [x] => match vw h x with
    | some (n, f, pre) => match isHole h slot with
      | true => some (pre ++ [n + 3 ≤ limN], .v1 (.sc (.sl slot 0 n (n + 3))), hset h slot ⟨5, [.ws .u8 (n + 3) (lentF n f)], 0, 0⟩)
      | false => none
    | none => none
  | _ => none
def InvLe (n : Nat) (f : Nat → Nat) (x : Nat × (Nat → Nat)) : Prop := x.1 ≤ 3 ∧ ∀ j, j < n + x.1 → x.2 j % 256 = lentF n f j % 256
theorem ws8_val {n : Nat} {f g : Nat → Nat} (h : ∀ j, j < n → f j % 256 = g j % 256) (ρ : Ren) : cvals ρ [.ws .u8 n f] = cvals ρ [.ws .u8 n g] := by
  simp only [cvals, Cell.vals, M, List.append_nil]
  exact List.map_congr_left fun j hj => by rw [h j (List.mem_range.1 hj)]
theorem tmodL (n m : Nat) (hm : 0 < m) : (Int.ofNat n).tmod (Int.ofNat m) = Int.ofNat (n % m) := rfl
theorem toU8_small {n : Nat} (h : n < 256) : toU .u8 (Int.ofNat n) % 256 = n := by
  show (Int.ofNat n % 256).toNat % 256 = n
  simp only [Int.ofNat_eq_natCast]; omega
theorem wrapI_nn {n : Nat} (h : n < 9223372036854775808) : wrapI (Int.ofNat n) = Int.ofNat n := by
  refine wrapI_same ?_ ?_ <;> simp only [Int.ofNat_eq_natCast] <;> omega
abbrev lB (n : Nat) (g : Nat → Nat) : Option Blk := some ⟨5, [.ws .u8 (n + 3) g], 0, 0⟩
theorem lent_step {n k : Nat} {f g : Nat → Nat} (hk : k < 3) (hg : ∀ j, j < n + k → g j % 256 = lentF n f j % 256) : ∀ j, j < n + (k + 1) → upd g (n + k) (toU .u8 (Int.ofNat (160 + (n + k) % 90))) j % 256 = lentF n f j % 256 := by
  intro j hj
  by_cases h : j = n + k
  · subst h
    have h1 : Nat.beq (n + k) (n + k) = true := by simp
    have h2 : Nat.blt (n + k) n = false := by rw [← Bool.not_eq_true, Nat.blt_eq]; omega
    unfold upd lentF
    rw [h1, h2]
    simp only [cond_true, cond_false]
    show (160 + (n + k) % 90) % 256 % 256 = _
    omega
  · have h1 : Nat.beq j (n + k) = false := by rw [← Bool.not_eq_true, Nat.beq_eq]; exact h
    unfold upd
    rw [h1, cond_false]
    exact hg j (by omega)
theorem lent_0 {n : Nat} {f : Nat → Nat} : ∀ j, j < n + 0 → putF 0 n (fun _ => 0) f j % 256 = lentF n f j % 256 := by
  intro j hj
  have h1 : Nat.ble 0 j = true := by simp
  have h2 : Nat.blt j (0 + n) = true := by rw [Nat.blt_eq]; omega
  have h3 : Nat.blt j n = true := by rw [Nat.blt_eq]; omega
  unfold putF lentF
  rw [h1, h2, h3]; rfl
theorem le_limN {n : Nat} (h : n + 3 ≤ limN) : n + 3 ≤ 17179869184 := h
theorem okLent : (CallC.mem cLent).Ok Try.prog 10 := by
  intro args h slot pre v h' e hp
  unfold cLent at e
  split at e
  · rename_i x
    split at e
    · rename_i n f p1 h1
      split at e
      · rename_i hh
        cases e
        have hlim := le_limN (hp (n + 3 ≤ limN) (List.mem_append_right _ (List.mem_cons_self ..)))
        refine views_call tt_ok Try.func10 (by kernel_rfl) (by kernel_rfl) [.vs n f] (args := [x])
          ⟨⟨p1, h1, fun p hq => hp p (List.mem_append_left _ hq)⟩, trivial⟩ slot [⟨5, [.ws .u8 (n + 3) (lentF n f)], 0, 0⟩] (.v1 (.sc (.sl 0 0 n (n + 3)))) rfl rfl rfl (fun t ht => by
            have : t = 0 := by simpa using ht
            subst this; exact hh) fun a W hi => ?_
        rcases hi with _ | _ | ⟨w1, hn, hi⟩ | ⟨t1, o1, c1, v1, hi⟩ | _
        · cases hi
          subst hn
          refine ⟨[0], rfl, ?_⟩
          refine loopK mixed tt_ok (G := ctxL []) ctxL_nil 0 (by kernel_rfl) (ι := {x // InvLe 0 f x}) [0,3,4] 31 1 (fun x => [emS w1, .v1 (.sc (.sl 0 0 3 3)), iv (Int.ofNat (0 + x.1.1))]) (fun x => [lB 0 x.1.2]) (fun x => 3 - x.1.1) (fun x => x.1.1 = 3)
            (fun _ => rfl) (fun _ => by kernel_rfl) (fun x j h => by obtain ⟨_, h⟩ := h; simp [hget] at h) 40 [] ?_ ?_ ?_
          · refine same (p := true = true ∧ ∃ j : {x // InvLe 0 f x}, [emS w1, .v1 (.sc (.sl 0 0 3 3)), iv (Int.ofNat (0 + 0))] = [emS w1, .v1 (.sc (.sl 0 0 3 3)), iv (Int.ofNat (0 + j.1.1))] ∧ [lB 0 fun _ => 0] = [lB 0 j.1.2]) ?_ (by kernel_rfl)
            exact ⟨rfl, ⟨(0, fun _ => 0), by simp, fun j hj => by simp at hj⟩, rfl, rfl⟩
          · intro ⟨⟨k, g⟩, hi, hg⟩ junk
            simp only at hi hg
            by_cases h3 : k < 3
            · refine roundF mixed tt_ok (G := ctxL []) ctxL_nil 40 [⟨4,3,.lit (.bo true)⟩,⟨6,3,.lit (.it (Int.ofNat ((0+k)%90)))⟩,⟨6,4,.lit (.it (Int.ofNat (160+(0+k)%90)))⟩,⟨6,6,.sym⟩,⟨6,7,.sym⟩,⟨5,1,.lit (.it (Int.ofNat (0+(k+1))))⟩] ?_
              refine same (p := ilt (Int.ofNat (0 + k)) (Int.ofNat (0 + 3)) = true ∧ (Int.ofNat (0 + k)).tmod 90 = Int.ofNat ((0 + k) % 90) ∧ wrapI (160 + Int.ofNat ((0 + k) % 90)) = Int.ofNat (160 + (0 + k) % 90) ∧ ix (0 + k) (0 + 3) (wrapI (Int.ofNat (0 + k) + 1) = Int.ofNat (0 + (k + 1)) ∧ true = true ∧
                ∃ j : {x // InvLe 0 f x}, 3 - j.1.1 < 3 - k ∧ [emS w1, .v1 (.sc (.sl 0 0 3 3)), iv (Int.ofNat (0 + (k + 1)))] = [emS w1, .v1 (.sc (.sl 0 0 3 3)), iv (Int.ofNat (0 + j.1.1))] ∧ [lB 0 (upd g (0 + k) (toU .u8 (Int.ofNat (160 + (0 + k) % 90))))] = [lB 0 j.1.2])) ?_ (by kernel_rfl)
              exact ⟨ilt_t (by omega), tmodL _ 90 (by omega), wrapI_nn (n := 160 + (0 + k) % 90) (by omega), ix_of (by omega) ⟨wrapI_succ (by omega), rfl, ⟨(k + 1, _), by simp only; omega, lent_step h3 hg⟩, by simp only; omega, rfl, rfl⟩⟩
            · have : k = 3 := by omega
              subst this
              refine roundF mixed tt_ok (G := ctxL []) ctxL_nil 40 [⟨4,3,.lit (.bo false)⟩] ?_
              refine same (p := ilt (Int.ofNat (0 + 3)) (Int.ofNat (0 + 3)) = false ∧ true = true ∧ ∃ j : {x // InvLe 0 f x}, j.1.1 = 3 ∧ [emS w1, .v1 (.sc (.sl 0 0 3 3)), iv (Int.ofNat (0 + 3))] = [emS w1, .v1 (.sc (.sl 0 0 3 3)), iv (Int.ofNat (0 + j.1.1))] ∧ [lB 0 g] = [lB 0 j.1.2]) ?_ (by kernel_rfl)
              exact ⟨ilt_f (by omega), rfl, ⟨(3, g), hi, hg⟩, rfl, rfl, rfl⟩
          · intro ⟨⟨k, g⟩, hi, hg⟩ junk h3
            simp only at hi hg h3
            subst h3
            refine evS_q mixed tt_ok (G := ctxL []) ctxL_nil 40 [] (same (p := endM [0] [lB 0 g] [lB 0 (lentF 0 f)] (.v1 (.sc (.sl 0 0 0 3))) (.v1 (.sc (.sl 0 0 0 3)))) ?_ (by kernel_rfl))
            exact endM_ok ⟨⟨rfl, rfl, rfl, fun ρ => ws8_val hg ρ⟩, trivial⟩ rfl fun _ => rfl
        · cases hi
          refine ⟨[1], rfl, ?_⟩
          refine loopK mixed tt_ok (G := ctxL []) ctxL_nil 0 (by kernel_rfl) (ι := {x // InvLe n f x}) [0,3,4] 31 2 (fun x => [.v1 (.sc (.sl 0 o1 n c1)), .v1 (.sc (.sl 1 0 (n+3) (n+3))), iv (Int.ofNat (n + x.1.1))]) (fun x => [wB t1 o1 n f v1, lB n x.1.2]) (fun x => 3 - x.1.1) (fun x => x.1.1 = 3)
            (fun _ => rfl) (fun _ => by kernel_rfl) (fun x j h => by have := Dm_lt h; simp at this; subst this; exact ⟨_, rfl⟩) 40 [⟨1,2,.lit (.it (Int.ofNat (n+3)))⟩,⟨1,3,.sym⟩,⟨2,2,.sym⟩] ?_ ?_ ?_
          · refine same (p := wrapI (Int.ofNat n + 3) = Int.ofNat (n + 3) ∧ 0 ≤ Int.ofNat (n + 3) ∧ Int.ofNat (n + 3) ≤ Int.ofNat (n + 3) ∧ Int.ofNat (n + 3) ≤ Int.ofNat limN ∧ o1 ≤ o1 ∧ o1 - o1 + n ≤ n ∧ n = n ∧ n ≤ n + 3 ∧ 0 + n ≤ n + 3 ∧ true = true ∧
              ∃ j : {x // InvLe n f x}, [.v1 (.sc (.sl 0 o1 n c1)), .v1 (.sc (.sl 1 0 (n+3) (n+3))), iv (Int.ofNat n)] = [.v1 (.sc (.sl 0 o1 n c1)), .v1 (.sc (.sl 1 0 (n+3) (n+3))), iv (Int.ofNat (n + j.1.1))] ∧ [wB t1 o1 n f v1, lB n (putF 0 n (fun _ => 0) fun j => f (o1 - o1 + j))] = [wB t1 o1 n f v1, lB n j.1.2]) ?_ (by kernel_rfl)
            refine ⟨wrapI_nn (n := n + 3) (by omega), Int.natCast_nonneg _, Int.le_refl _, ?_, Nat.le_refl _, win_le, rfl, by omega, by omega, rfl, ⟨(0, putF 0 n (fun _ => 0) f), by simp, lent_0⟩, rfl, ?_⟩
            · show ((n + 3 : Nat) : Int) ≤ ((17179869184 : Nat) : Int)
              omega
            · rw [win_fun]
          · intro ⟨⟨k, g⟩, hi, hg⟩ junk
            simp only at hi hg
            by_cases h3 : k < 3
            · refine roundF mixed tt_ok (G := ctxL []) ctxL_nil 40 [⟨4,3,.lit (.bo true)⟩,⟨6,3,.lit (.it (Int.ofNat ((n+k)%90)))⟩,⟨6,4,.lit (.it (Int.ofNat (160+(n+k)%90)))⟩,⟨6,6,.sym⟩,⟨6,7,.sym⟩,⟨5,1,.lit (.it (Int.ofNat (n+(k+1))))⟩] ?_
              refine same (p := ilt (Int.ofNat (n + k)) (Int.ofNat (n + 3)) = true ∧ (Int.ofNat (n + k)).tmod 90 = Int.ofNat ((n + k) % 90) ∧ wrapI (160 + Int.ofNat ((n + k) % 90)) = Int.ofNat (160 + (n + k) % 90) ∧ ix (n + k) (n + 3) (wrapI (Int.ofNat (n + k) + 1) = Int.ofNat (n + (k + 1)) ∧ true = true ∧
                ∃ j : {x // InvLe n f x}, 3 - j.1.1 < 3 - k ∧ [.v1 (.sc (.sl 0 o1 n c1)), .v1 (.sc (.sl 1 0 (n+3) (n+3))), iv (Int.ofNat (n + (k + 1)))] = [.v1 (.sc (.sl 0 o1 n c1)), .v1 (.sc (.sl 1 0 (n+3) (n+3))), iv (Int.ofNat (n + j.1.1))] ∧ [wB t1 o1 n f v1, lB n (upd g (n + k) (toU .u8 (Int.ofNat (160 + (n + k) % 90))))] = [wB t1 o1 n f v1, lB n j.1.2])) ?_ (by kernel_rfl)
              exact ⟨ilt_t (by omega), tmodL _ 90 (by omega), wrapI_nn (n := 160 + (n + k) % 90) (by omega), ix_of (by omega) ⟨wrapI_succ (by omega), rfl, ⟨(k + 1, _), by simp only; omega, lent_step h3 hg⟩, by simp only; omega, rfl, rfl⟩⟩
            · have : k = 3 := by omega
              subst this
              refine roundF mixed tt_ok (G := ctxL []) ctxL_nil 40 [⟨4,3,.lit (.bo false)⟩] ?_
              refine same (p := ilt (Int.ofNat (n + 3)) (Int.ofNat (n + 3)) = false ∧ true = true ∧ ∃ j : {x // InvLe n f x}, j.1.1 = 3 ∧ [.v1 (.sc (.sl 0 o1 n c1)), .v1 (.sc (.sl 1 0 (n+3) (n+3))), iv (Int.ofNat (n + 3))] = [.v1 (.sc (.sl 0 o1 n c1)), .v1 (.sc (.sl 1 0 (n+3) (n+3))), iv (Int.ofNat (n + j.1.1))] ∧ [wB t1 o1 n f v1, lB n g] = [wB t1 o1 n f v1, lB n j.1.2]) ?_ (by kernel_rfl)
              exact ⟨ilt_f (by omega), rfl, ⟨(3, g), hi, hg⟩, rfl, rfl, rfl⟩
          · intro ⟨⟨k, g⟩, hi, hg⟩ junk h3
            simp only at hi hg h3
            subst h3
            refine evS_q mixed tt_ok (G := ctxL []) ctxL_nil 40 [⟨7,3,.sym⟩] (same (p := 0 ≤ Int.ofNat n ∧ Int.ofNat n < ((n + 3 + 1 : Nat) : Int) ∧ endM [0,1] [wB t1 o1 n f v1, lB n g] [wB t1 o1 n f v1, lB n (lentF n f)] (.v1 (.sc (.sl 1 0 n (n + 3)))) (.v1 (.sc (.sl 1 0 n (n + 3))))) ?_ (by kernel_rfl))
            exact ⟨Int.natCast_nonneg _, by simp only [Int.ofNat_eq_natCast]; omega, endM_ok ⟨simB_refl _, ⟨rfl, rfl, rfl, fun ρ => ws8_val hg ρ⟩, trivial⟩ rfl fun _ => rfl⟩
      · cases e
    · cases e
  · cases e

/-! KeptBytes -/
def cKept (args : List AV) (h : Heap) : Option (List Prop × AV) :=
  match args with
  | [x, y] => match vwc h x, vw h y with
    | some (n, c, f, p1), some (m, g, p2) => some (p1 ++ p2 ++ [n = m, c = n + 3, n + 3 ≤ limN], .v1 (.sc (.bo (eqStr (n + 3) f (n + 3) (lentF n g)))))
    | _, _ => none
  | _ => none
def GKe : List (Nat × CallC) := [(10, .mem cLent), (17, .rd cSame)]
theorem GKe_ok : CtxOk Try.prog (ctxL GKe) := ctxL_cons okLent <| ctxL_cons okSame ctxL_nil
theorem ieq_same (n : Nat) : ieq (Int.ofNat n) (Int.ofNat n) = true := by rw [ieq_iff]
theorem off_fun {o : Nat} {f : Nat → Nat} : (fun j => f (addN o 0 - o + j)) = f := by
  funext j; rw [addN_eq]; congr 1; omega
theorem off_le {o n : Nat} : addN o 0 - o + n ≤ n := by rw [addN_eq]; omega
theorem okKept : (CallC.rd cKept).Ok Try.prog 14 := by
  refine ⟨fun args h pre v e hp => ?_, fun args h slot blk hs ha => ?_⟩
  · unfold cKept at e
    split at e
    · rename_i x y
      split at e
      · rename_i n c f p1 m g p2 h1 h2
        cases e
        have hnm : n = m := hp _ (by simp)
        have hc : c = n + 3 := hp _ (by simp)
        have hlim := le_limN (hp (n + 3 ≤ limN) (by simp))
        subst hnm; subst hc
        refine views_call tt_ok Try.func14 (by kernel_rfl) (by kernel_rfl) [.vc n (n + 3) f, .vs n g] (args := [x, y])
          ⟨⟨p1, h1, fun p hq => hp p (by simp [hq])⟩, ⟨p2, h2, fun p hq => hp p (by simp [hq])⟩, trivial⟩ 0 [] (.v1 (.sc (.bo (eqStr (n + 3) f (n + 3) (lentF n g))))) rfl rfl rfl (fun t ht => by simp at ht) fun a W hi => ⟨[], rfl, ?_⟩
        rcases hi with _ | _ | _ | _ | ⟨t1, o1, v1, hi⟩
        rcases hi with _ | _ | ⟨w2, hm, hi⟩ | ⟨t2, o2, c2, v2, hi⟩ | _
        · cases hi
          subst hm
          refine evS_q mixed tt_ok GKe_ok 40 [⟨1,9,.sym⟩] (same (p := 0 ≤ Int.ofNat 3 ∧ Int.ofNat 3 < ((3 + 1 : Nat) : Int) ∧ 0 + 3 ≤ limN ∧ o1 ≤ addN o1 0 ∧ addN o1 0 - o1 + 3 ≤ 3 ∧ 0 + 3 ≤ 3 ∧ endM [0] [wB t1 o1 3 f v1] [wB t1 o1 3 f v1] (.v1 (.sc (.bo (eqStr 3 (fun j => f (addN o1 0 - o1 + j)) 3 (fun j => lentF 0 (fun _ => 0) j))))) (.v1 (.sc (.bo (eqStr 3 f 3 (lentF 0 g)))))) ?_ (by kernel_rfl))
          refine ⟨by decide, by decide, by decide, by rw [addN_eq]; omega, off_le, by decide, endM_same rfl ?_⟩
          rw [off_fun]
          rfl
        · cases hi
          refine evS_q mixed tt_ok GKe_ok 40 [⟨1,4,.lit (.bo true)⟩,⟨1,9,.sym⟩,⟨1,14,.lit (.it (Int.ofNat (n+3)))⟩,⟨1,15,.sym⟩] (same (p := ieq (Int.ofNat n) (Int.ofNat n) = true ∧ 0 ≤ Int.ofNat (n + 3) ∧ Int.ofNat (n + 3) < ((n + 3 + 1 : Nat) : Int) ∧ o2 ≤ o2 ∧ o2 - o2 + n ≤ n ∧ n + 3 ≤ limN ∧ wrapI (Int.ofNat n + 3) = Int.ofNat (n + 3) ∧ 0 ≤ Int.ofNat (n + 3) ∧ Int.ofNat (n + 3) < ((n + 3 + 1 : Nat) : Int) ∧
            o1 ≤ addN o1 0 ∧ addN o1 0 - o1 + (n + 3) ≤ n + 3 ∧ 0 + (n + 3) ≤ n + 3 ∧ endM [0,1] [wB t1 o1 (n + 3) f v1, wB t2 o2 n g v2] [wB t1 o1 (n + 3) f v1, wB t2 o2 n g v2] (.v1 (.sc (.bo (eqStr (n + 3) (fun j => f (addN o1 0 - o1 + j)) (n + 3) (fun j => lentF n (fun j => g (o2 - o2 + j)) j))))) (.v1 (.sc (.bo (eqStr (n + 3) f (n + 3) (lentF n g)))))) ?_ (by kernel_rfl))
          have hi1 : Int.ofNat (n + 3) < ((n + 3 + 1 : Nat) : Int) := by simp only [Int.ofNat_eq_natCast]; omega
          refine ⟨ieq_same _, Int.natCast_nonneg _, hi1, Nat.le_refl _, win_le, hlim, wrapI_nn (n := n + 3) (by omega), Int.natCast_nonneg _, hi1, by rw [addN_eq]; omega, off_le, by omega, endM_same rfl ?_⟩
          rw [off_fun, win_fun]
      · cases e
    · cases e
  · unfold cKept
    split
    · rename_i x y
      rw [vwc_local hs (ha x (by simp)), vw_local hs (ha y (by simp))]
    · rfl
end Go.Proofs.Ytafiafkeigdjhaa

/- A point's bytes, and the point of bytes: what they come to. -/
namespace Go.Rq
open Go

/-- The number of k bytes from a on, the highest first. -/
def beP (f : Nat → Nat) (a : Nat) : Nat → Nat
  | 0 => 0
  | k + 1 => beP f a k * 256 + f (a + k) % 256
theorem beP_lt (f : Nat → Nat) (a : Nat) : ∀ k, beP f a k < 256 ^ k
  | 0 => by simp [beP]
  | k + 1 => by
    have := beP_lt f a k
    have h2 : f (a + k) % 256 < 256 := Nat.mod_lt _ (by omega)
    simp only [beP, Nat.pow_succ]
    omega
theorem beP_of {f : Nat → Nat} {a x : Nat} (h : ∀ i, i < 8 → f (a + i) % 256 = x / 256 ^ (7 - i) % 256) : ∀ k, k ≤ 8 → beP f a k = x / 256 ^ (8 - k) % 256 ^ k
  | 0, _ => by simp [beP, Nat.mod_one]
  | k + 1, hk => by
    have ih := beP_of h k (by omega)
    simp only [beP]
    rw [ih, h k (by omega), show 8 - (k + 1) = 7 - k by omega]
    have e : x / 256 ^ (8 - k) = x / 256 ^ (7 - k) / 256 := by
      rw [Nat.div_div_eq_div_mul, ← Nat.pow_succ]; congr 2; omega
    rw [e]
    obtain ⟨z, hz⟩ : ∃ z, z = x / 256 ^ (7 - k) := ⟨_, rfl⟩
    rw [← hz]
    rw [Nat.pow_succ, Nat.mul_comm (256 ^ k) 256, Nat.mod_mul]
    omega
theorem beP_digit (f : Nat → Nat) (a : Nat) : ∀ k i, i < k → beP f a k / 256 ^ (k - 1 - i) % 256 = f (a + i) % 256
  | 0, i, h => by omega
  | k + 1, i, h => by
    simp only [beP]
    by_cases hi : i = k
    · subst hi
      rw [show i + 1 - 1 - i = 0 by omega]
      simp only [Nat.pow_zero, Nat.div_one]
      omega
    · have ih := beP_digit f a k i (by omega)
      rw [show k + 1 - 1 - i = (k - 1 - i) + 1 by omega, Nat.pow_succ, Nat.mul_comm (256 ^ (k - 1 - i)) 256, ← Nat.div_div_eq_div_mul]
      have e : (beP f a k * 256 + f (a + k) % 256) / 256 = beP f a k := by omega
      rw [e, ih]

/-- A point's bytes. -/
def byP (P : LP) (j : Nat) : Nat := bif Nat.beq j 0 then (bif P.z then 1 else 0) else bif Nat.blt j 9 then P.x / 256 ^ (8 - j) else P.y / 256 ^ (16 - j)
theorem byP_0 (P : LP) : byP P 0 = bif P.z then 1 else 0 := rfl
theorem byP_x (P : LP) {i : Nat} (h : i < 8) : byP P (1 + i) = P.x / 256 ^ (7 - i) := by
  have h1 : Nat.beq (1 + i) 0 = false := by rw [← Bool.not_eq_true, Nat.beq_eq]; omega
  have h2 : Nat.blt (1 + i) 9 = true := by rw [Nat.blt_eq]; omega
  unfold byP
  rw [h1, h2, cond_false, cond_true, show 8 - (1 + i) = 7 - i by omega]
theorem byP_y (P : LP) {i : Nat} (h : i < 8) : byP P (9 + i) = P.y / 256 ^ (7 - i) := by
  have h1 : Nat.beq (9 + i) 0 = false := by rw [← Bool.not_eq_true, Nat.beq_eq]; omega
  have h2 : Nat.blt (9 + i) 9 = false := by rw [← Bool.not_eq_true, Nat.blt_eq]; omega
  unfold byP
  rw [h1, h2, cond_false, cond_false, show 16 - (9 + i) = 7 - i by omega]
theorem byte_cases {j : Nat} (h : j < 17) : j = 0 ∨ (∃ i, i < 8 ∧ j = 1 + i) ∨ ∃ i, i < 8 ∧ j = 9 + i := by
  by_cases h0 : j = 0
  · exact .inl h0
  · by_cases h9 : j < 9
    · exact .inr (.inl ⟨j - 1, by omega, by omega⟩)
    · exact .inr (.inr ⟨j - 9, by omega, by omega⟩)

/-- What 17 bytes say. -/
def rdP (f : Nat → Nat) : LP := ⟨beP f 1 8, beP f 9 8, Nat.beq (f 0 % 256) 1⟩
/-- The error of reading n bytes. -/
def rdE (p : Nat) (I : LP → Bool) (n : Nat) (f : Nat → Nat) : Nat := bif Nat.beq n 17 then (bif Nat.blt 1 (f 0 % 256) then 4 else bif onB p (rdP f) then (bif I (rdP f) then 0 else 5) else 4) else 4
def rdQ (p : Nat) (I : LP → Bool) (n : Nat) (f : Nat → Nat) : LP := bif Nat.beq (rdE p I n f) 0 then rdP f else ⟨0, 0, false⟩
theorem rdE_0 {p n : Nat} {I : LP → Bool} {f : Nat → Nat} (h : rdE p I n f = 0) : n = 17 ∧ f 0 % 256 ≤ 1 ∧ onB p (rdP f) = true ∧ I (rdP f) = true := by
  unfold rdE at h
  cases h1 : Nat.beq n 17 <;> rw [h1] at h <;> simp only [cond_true, cond_false] at h
  · cases h
  · cases h2 : Nat.blt 1 (f 0 % 256) <;> rw [h2] at h <;> simp only [cond_true, cond_false] at h
    · have h2' : ¬ 1 < f 0 % 256 := by rw [← Nat.blt_eq, h2]; simp
      cases h3 : onB p (rdP f) <;> rw [h3] at h <;> simp only [cond_true, cond_false] at h
      · cases h
      · cases h4 : I (rdP f) <;> rw [h4] at h <;> simp only [cond_true, cond_false] at h
        · cases h
        · exact ⟨by rw [← Nat.beq_eq]; exact h1, by omega, rfl, rfl⟩
    · cases h
theorem rdP_lw (f : Nat → Nat) : (rdP f).x < 18446744073709551616 ∧ (rdP f).y < 18446744073709551616 := by
  have h1 := beP_lt f 1 8
  have h2 := beP_lt f 9 8
  exact ⟨h1, h2⟩
/-- What is told is read again. -/
theorem rdP_byP {P : LP} (hx : P.x < 18446744073709551616) (hy : P.y < 18446744073709551616) : rdP (byP P) = P := by
  have h1 := beP_of (f := byP P) (a := 1) (x := P.x) (fun i hi => by rw [byP_x P hi]) 8 (Nat.le_refl _)
  have h2 := beP_of (f := byP P) (a := 9) (x := P.y) (fun i hi => by rw [byP_y P hi]) 8 (Nat.le_refl _)
  obtain ⟨x, y, z⟩ := P
  simp only at hx hy h1 h2
  unfold rdP
  rw [h1, h2, byP_0]
  have e : (256 : Nat) ^ 8 = 18446744073709551616 := by decide
  simp only [Nat.sub_self, Nat.pow_zero, Nat.div_one, e]
  rw [Nat.mod_eq_of_lt hx, Nat.mod_eq_of_lt hy]
  cases z <;> rfl
/-- What is read is told again. -/
theorem byP_rdP {f : Nat → Nat} (h : f 0 % 256 ≤ 1) {j : Nat} (hj : j < 17) : byP (rdP f) j % 256 = f j % 256 := by
  rcases byte_cases hj with rfl | ⟨i, hi, rfl⟩ | ⟨i, hi, rfl⟩
  · rw [byP_0]
    show (bif Nat.beq (f 0 % 256) 1 then 1 else 0) % 256 = _
    rcases (by omega : f 0 % 256 = 0 ∨ f 0 % 256 = 1) with e | e <;> rw [e] <;> rfl
  · rw [byP_x _ hi]
    exact beP_digit f 1 8 i hi
  · rw [byP_y _ hi]
    exact beP_digit f 9 8 i hi
/-- A byte taken in. -/
theorem beP_step {x b : Nat} (hb : b < 256) : (x * 256 ||| b) = x * 256 + b := by
  have : x * 256 = 2 ^ 8 * x := by omega
  rw [this]
  exact (Nat.two_pow_add_eq_or_of_lt hb x).symm
end Go.Rq

/- A point's bytes: written, Bytes of the code and of the document. -/
namespace Go.Proofs.Ytafiafkeigdjhaa
open Go.Rq Go
set_option linter.unusedVariables false
set_option linter.unusedSimpArgs false

/-! written -/
abbrev BYx (x k : Nat) : Nat := x % W / 2 ^ min (56 - 8 * k) 64 % W
theorem BYx_eq {x k : Nat} (hx : x < W) (hk : k < 8) : BYx x k = x / 256 ^ (7 - k) := by
  unfold BYx
  rw [Nat.mod_eq_of_lt hx, show min (56 - 8 * k) 64 = 8 * (7 - k) by omega, Nat.pow_mul, Nat.mod_eq_of_lt (Nat.lt_of_le_of_lt (Nat.div_le_self _ _) hx)]
abbrev wrB (g : Nat → Nat) : Option Blk := some ⟨75, [.ws .u8 17 g], 0, 0⟩
def InvWr (P : LP) (a : Nat × (Nat → Nat)) : Prop := a.1 ≤ 8 ∧ a.2 0 % 256 = byP P 0 % 256 ∧ ∀ i, i < a.1 → a.2 (1 + i) % 256 = byP P (1 + i) % 256 ∧ a.2 (9 + i) % 256 = byP P (9 + i) % 256
theorem inv_wr {P : LP} {k : Nat} {g : Nat → Nat} (hx : P.x < W) (hy : P.y < W) (hk : k < 8) (h : InvWr P (k, g)) : InvWr P (k + 1, upd (upd g (1 + k) (BYx P.x k)) (9 + k) (BYx P.y k)) := by
  obtain ⟨_, h0, h1⟩ := h
  have e : ∀ (f : Nat → Nat) i j x, i ≠ j → upd f i x j = f j := fun f i j x h => by
    have : Nat.beq j i = false := by rw [← Bool.not_eq_true, Nat.beq_eq]; exact fun e => h e.symm
    unfold upd; rw [this, cond_false]
  have e' : ∀ (f : Nat → Nat) i x, upd f i x i = x := fun f i x => by
    have : Nat.beq i i = true := by simp
    unfold upd; rw [this, cond_true]
  refine ⟨by simp only; omega, ?_, fun i hi => ?_⟩
  · simp only
    rw [e _ _ _ _ (by omega), e _ _ _ _ (by omega)]; exact h0
  · simp only at hi ⊢
    by_cases hik : i = k
    · subst hik
      rw [e _ _ _ _ (by omega), e', e', BYx_eq hx hk, BYx_eq hy hk, byP_x P hk, byP_y P hk]
      exact ⟨rfl, rfl⟩
    · rw [e _ _ _ _ (by omega), e _ _ _ _ (by omega), e _ _ _ _ (by omega), e _ _ _ _ (by omega)]
      exact h1 i (by omega)
theorem inv_wr8 {P : LP} {g : Nat → Nat} (h : InvWr P (8, g)) : ∀ j, j < 17 → g j % 256 = byP P j % 256 := fun j hj => by
  obtain ⟨_, h0, h1⟩ := h
  rcases byte_cases hj with rfl | ⟨i, hi, rfl⟩ | ⟨i, hi, rfl⟩
  · exact h0
  · exact (h1 i hi).1
  · exact (h1 i hi).2
def kWr : List AV → Option (List Prop × AV)
  | [.v1 (.agg [.one (.w .u64 x), .one (.w .u64 y), .one (.bo z)])] => some ([x < W, y < W], .v1 (.agg [.ws .u8 17 (byP ⟨x, y, z⟩)]))
  | _ => none
abbrev VWr (k : Nat) : List AV := [pt 0 0, pt 1 0, pt 2 0, iv (Int.ofNat k)]
abbrev HWr (P : LP) (g : Nat → Nat) : Heap := [pB P, wrB fun _ => 0, wrB g]
theorem wrapI_sub {a b : Nat} (h : b ≤ a) (ha : a < 9223372036854775808) : wrapI (Int.ofNat a - Int.ofNat b) = Int.ofNat (a - b) := by
  rw [show Int.ofNat a - Int.ofNat b = Int.ofNat (a - b) by simp only [Int.ofNat_eq_natCast]; omega]
  exact wrapI_nn (by omega)
theorem wrapI_add {a b : Nat} (h : a + b < 9223372036854775808) : wrapI (Int.ofNat a + Int.ofNat b) = Int.ofNat (a + b) := wrapI_nn (n := a + b) h
theorem wrapI_mul {a b : Nat} (h : a * b < 9223372036854775808) : wrapI (Int.ofNat a * Int.ofNat b) = Int.ofNat (a * b) := wrapI_nn (n := a * b) h
theorem okWritten : (CallC.pure kWr).Ok Try.prog 43 := by
  intro args pre v e hp
  unfold kWr at e
  split at e
  rotate_left
  · cases e
  rename_i x y z
  cases e
  have hx : x < W := hp _ (by simp)
  have hy : y < W := hp _ (by simp)
  refine pure_walk' tt_ok Try.func43 (by kernel_rfl) (by kernel_rfl) (by rfl) (by rfl) ?_
  refine loopK mixed tt_ok (G := ctxL []) ctxL_nil 0 (by kernel_rfl) (ι := {a // InvWr ⟨x, y, z⟩ a}) [1,2,3,8] 33 3 (fun a => VWr a.1.1) (fun a => HWr ⟨x, y, z⟩ a.1.2) (fun a => 8 - a.1.1) (fun a => a.1.1 = 8)
    (fun _ => rfl) (fun _ => by kernel_rfl) (fun _ _ h => h.elim) 40 [] ?_ ?_ ?_
  · cases z
    · refine same (p := true = true ∧ ∃ j : {a // InvWr ⟨x, y, false⟩ a}, VWr 0 = VWr j.1.1 ∧ HWr ⟨x, y, false⟩ (fun _ => 0) = HWr ⟨x, y, false⟩ j.1.2) ?_ (by kernel_rfl)
      exact ⟨rfl, ⟨(0, fun _ => 0), by simp, rfl, fun i hi => by simp at hi⟩, rfl, rfl⟩
    · refine same (p := true = true ∧ ∃ j : {a // InvWr ⟨x, y, true⟩ a}, VWr 0 = VWr j.1.1 ∧ HWr ⟨x, y, true⟩ (upd (fun _ => 0) 0 1) = HWr ⟨x, y, true⟩ j.1.2) ?_ (by kernel_rfl)
      exact ⟨rfl, ⟨(0, upd (fun _ => 0) 0 1), by simp, rfl, fun i hi => by simp at hi⟩, rfl, rfl⟩
  · intro ⟨⟨k, g⟩, hi⟩ junk
    have hk8 := hi.1
    simp only at hk8
    by_cases h8 : k < 8
    · refine roundF mixed tt_ok (G := ctxL []) ctxL_nil 40 [⟨5,0,.lit (.bo true)⟩,⟨7,1,.lit (.it (Int.ofNat (1+k)))⟩,⟨7,3,.lit (.it (Int.ofNat (9+k)))⟩,⟨7,7,.lit (.it (Int.ofNat (8*k)))⟩,⟨7,8,.lit (.it (Int.ofNat (56-8*k)))⟩,⟨7,14,.lit (.it (Int.ofNat (8*k)))⟩,⟨7,15,.lit (.it (Int.ofNat (56-8*k)))⟩,⟨7,18,.sym⟩,⟨7,19,.sym⟩,⟨7,20,.sym⟩,⟨7,21,.sym⟩,⟨8,0,.lit (.it (Int.ofNat (k+1)))⟩] ?_
      refine same (p := ilt (Int.ofNat k) 8 = true ∧ wrapI (1 + Int.ofNat k) = Int.ofNat (1 + k) ∧ wrapI (9 + Int.ofNat k) = Int.ofNat (9 + k) ∧ wrapI (8 * Int.ofNat k) = Int.ofNat (8 * k) ∧ wrapI (56 - Int.ofNat (8 * k)) = Int.ofNat (56 - 8 * k) ∧ wrapI (8 * Int.ofNat k) = Int.ofNat (8 * k) ∧ wrapI (56 - Int.ofNat (8 * k)) = Int.ofNat (56 - 8 * k) ∧
        ix (1 + k) 17 (ix (9 + k) 17 (wrapI (Int.ofNat k + 1) = Int.ofNat (k + 1) ∧ true = true ∧ ∃ j : {a // InvWr ⟨x, y, z⟩ a}, 8 - j.1.1 < 8 - k ∧ VWr (k + 1) = VWr j.1.1 ∧ HWr ⟨x, y, z⟩ (upd (upd g (1 + k) (BYx x k)) (9 + k) (BYx y k)) = HWr ⟨x, y, z⟩ j.1.2))) ?_ (by kernel_rfl)
      have hm := wrapI_mul (a := 8) (b := k) (by omega)
      have hs := wrapI_sub (a := 56) (b := 8 * k) (by omega) (by omega)
      exact ⟨ilt_t (n := 8) h8, wrapI_add (a := 1) (b := k) (by omega), wrapI_add (a := 9) (b := k) (by omega), hm, hs, hm, hs, ix_of (by omega) (ix_of (by omega) ⟨wrapI_succ (by omega), rfl, ⟨(k + 1, _), inv_wr (P := ⟨x, y, z⟩) hx hy h8 hi⟩, by simp only; omega, rfl, rfl⟩)⟩
    · have : k = 8 := by omega
      subst this
      refine roundF mixed tt_ok (G := ctxL []) ctxL_nil 40 [] ?_
      refine same (p := true = true ∧ ∃ j : {a // InvWr ⟨x, y, z⟩ a}, j.1.1 = 8 ∧ VWr 8 = VWr j.1.1 ∧ HWr ⟨x, y, z⟩ g = HWr ⟨x, y, z⟩ j.1.2) ?_ (by kernel_rfl)
      exact ⟨rfl, ⟨(8, g), hi⟩, rfl, rfl, rfl⟩
  · intro ⟨⟨k, g⟩, hi⟩ junk h8
    simp only at h8
    subst h8
    refine evS_q mixed tt_ok (G := ctxL []) ctxL_nil 40 [] (same (p := endV (.v1 (.agg [.ws .u8 17 g])) (.v1 (.agg [.ws .u8 17 (byP ⟨x, y, z⟩)]))) ?_ (by kernel_rfl))
    refine ⟨_, rfl, fun ρ => ?_⟩
    show Value.agg (cvals ρ [.ws .u8 17 g]).toArray = Value.agg (cvals ρ [.ws .u8 17 (byP ⟨x, y, z⟩)]).toArray
    rw [ws8_val (inv_wr8 hi) ρ]
/-! Bytes of the code -/
def kBytes (s : Int) (p r c gx gy : Nat) (args : List AV) (h : Heap) (slot : Nat) : Option (List Prop × AV × Heap) :=
  match args with
  | [.v1 (.sc (.it t)), .v1 (.agg [.one (.w .u64 x), .one (.w .u64 y), .one (.bo z)])] => match isHole h slot with
    | true => some ([t = s, OnP p ⟨x, y, z⟩], .tup [.sc (.sl slot 0 17 17), .sc (.it 0)], hset h slot ⟨75, [.ws .u8 17 (byP ⟨x, y, z⟩)], 0, 0⟩)
    | false => none
  | _ => none
abbrev nilT (e : Int) : AV := .tup [.sc (.rw (.slice none 0 0)), .sc (.it e)]
def kBytesF (s : Int) (p r c gx gy : Nat) : List AV → Option (List Prop × AV)
  | [.v1 (.sc (.it t)), .v1 (.agg [.one (.w .u64 x), .one (.w .u64 y), .one (.bo z)])] => some ([t = s, LwP p ⟨x, y, z⟩, onB p ⟨x, y, z⟩ = false], nilT 5)
  | _ => none
def kBytesB : List AV → Option (List Prop × AV)
  | [.v1 (.sc (.it t)), .v1 (.agg [.one (.w .u64 x), .one (.w .u64 y), .one (.bo z)])] => some ([t ≠ 1, t ≠ 2], nilT 2)
  | _ => none
section
variable {s : Int} {p r c gx gy : Nat}
theorem okEBytes (hC : CuOk s p r c gx gy) : (CallC.mem (kBytes s p r c gx gy)).Ok Try.prog 12 := by
  have hG : CtxOk Try.prog (ctxL [(42, .rd (kChk1 (qOn1 s p) (chV p r c gx gy 0))), (43, .pure kWr)]) := ctxL_cons (okChk1 hC) <| ctxL_cons okWritten ctxL_nil
  intro args h slot pre v h' e hp
  unfold kBytes at e
  split at e
  rotate_left
  · cases e
  rename_i t x y z
  split at e
  rotate_left
  · cases e
  rename_i hh
  cases e
  have hs : t = s := hp _ (by simp)
  have h1 : OnP p ⟨x, y, z⟩ := hp _ (by simp)
  have hl := h1.lt hC.gp
  have hw := OnP.lw hC.gp h1
  refine views_call tt_ok Try.func12 (by kernel_rfl) (by kernel_rfl) [.pl (.v1 (.sc (.it t))), .pl (.v1 (.agg (pC x y z)))] (args := [.v1 (.sc (.it t)), .v1 (.agg (pC x y z))])
    ⟨⟨rfl, rfl⟩, ⟨rfl, rfl⟩, trivial⟩ slot [⟨75, [.ws .u8 17 (byP ⟨x, y, z⟩)], 0, 0⟩] (.tup [.sc (.sl 0 0 17 17), .sc (.it 0)]) rfl rfl rfl (fun t ht => by
      have : t = 0 := by simpa using ht
      subst this; exact hh) fun a W hi => ⟨[5], rfl, ?_⟩
  rcases hi with _ | ⟨hi⟩ | _ | _ | _
  rcases hi with _ | ⟨hi⟩ | _ | _ | _
  cases hi
  refine evS_q mixed tt_ok hG 60 [] (same (p := qOn1 s p t ⟨x, y, z⟩ ∧ x < W ∧ y < W ∧ endM [5] [wrB (byP ⟨x, y, z⟩)] [wrB (byP ⟨x, y, z⟩)] (.tup [.sc (.sl 5 0 17 17), .sc (.it 0)]) (.tup [.sc (.sl 0 0 17 17), .sc (.it 0)])) ?_ (by kernel_rfl))
  exact ⟨⟨hs, h1⟩, hw.1, hw.2, endM_ok (simH_refl _) rfl fun _ => rfl⟩
theorem okEBytesF (hC : CuOk s p r c gx gy) : (CallC.pure (kBytesF s p r c gx gy)).Ok Try.prog 12 := by
  have hG : CtxOk Try.prog (ctxL [(42, .rd (kChk1 (qOff1 s p) (zCh 5)))]) := ctxL_cons (okChk1F hC) ctxL_nil
  intro args pre v e hp
  unfold kBytesF at e
  split at e
  rotate_left
  · cases e
  rename_i t x y z
  cases e
  have hs : t = s := hp _ (by simp)
  have hl : LwP p ⟨x, y, z⟩ := hp _ (by simp)
  have hb : onB p ⟨x, y, z⟩ = false := hp _ (by simp)
  refine pure_walk' tt_ok Try.func12 (by kernel_rfl) (by kernel_rfl) (by rfl) (by rfl) ?_
  exact evS_q mixed tt_ok hG 60 [] (same (p := qOff1 s p t ⟨x, y, z⟩ ∧ endV (nilT 5) (nilT 5)) ⟨⟨hs, hl, hb⟩, endV_eq rfl⟩ (by kernel_rfl))
theorem okEBytesB : (CallC.pure kBytesB).Ok Try.prog 12 := by
  have hG : CtxOk Try.prog (ctxL [(42, .rd (kChk1 (fun t _ => qBad0 t) (zCh 2)))]) := ctxL_cons okChk1B ctxL_nil
  intro args pre v e hp
  unfold kBytesB at e
  split at e
  rotate_left
  · cases e
  rename_i t x y z
  cases e
  have b1 : t ≠ 1 := hp _ (by simp)
  have b2 : t ≠ 2 := hp _ (by simp)
  refine pure_walk' tt_ok Try.func12 (by kernel_rfl) (by kernel_rfl) (by rfl) (by rfl) ?_
  exact evS_q mixed tt_ok hG 60 [] (same (p := qBad0 t ∧ endV (nilT 2) (nilT 2)) ⟨⟨b1, b2⟩, endV_eq rfl⟩ (by kernel_rfl))
end

/-! Bytes of the document -/
def prI : Nat → Int
  | 0 => -1
  | i + 1 => Int.ofNat i
theorem prI_eq {i : Nat} (h : i < 1000) : wrapI (Int.ofNat i - 1) = prI i := by
  cases i with
  | zero => rfl
  | succ i =>
    rw [show Int.ofNat (i + 1) - 1 = Int.ofNat i by simp only [Int.ofNat_eq_natCast]; omega]
    exact wrapI_nn (by omega)
theorem ige (i : Nat) : (!ilt (Int.ofNat i) 0) = true := by
  have : ilt (Int.ofNat i) 0 = false := by rw [← Bool.not_eq_true, ilt_iff]; simp
  rw [this]; rfl
def InvBd (P : LP) (o : Nat) (a : Nat × Nat × (Nat → Nat)) : Prop := a.1 + a.2.1 = 8 ∧ ∀ j, j < a.2.1 + o → a.2.2 j % 256 = byP P j % 256
abbrev BYr (x i : Nat) : Nat := x % W / 2 ^ min (8 * i) 64 % W
theorem BYr_eq {x i : Nat} (hx : x < W) (hi : i < 8) : BYr x i = x / 256 ^ i := by
  unfold BYr
  rw [Nat.mod_eq_of_lt hx, show min (8 * i) 64 = 8 * i by omega, Nat.pow_mul, Nat.mod_eq_of_lt (Nat.lt_of_le_of_lt (Nat.div_le_self _ _) hx)]
abbrev apF (n : Nat) (g : Nat → Nat) (v : Nat) : Nat → Nat := catF n g (upd (fun _ => 0) 0 v)
theorem apF_inv {P : LP} {n v : Nat} {g : Nat → Nat} (h : ∀ j, j < n → g j % 256 = byP P j % 256) (hv : v % 256 = byP P n % 256) : ∀ j, j < n + 1 → apF n g v j % 256 = byP P j % 256 := by
  intro j hj
  unfold apF catF
  by_cases hjn : j < n
  · have : Nat.blt j n = true := by rw [Nat.blt_eq]; exact hjn
    rw [this, cond_true]; exact h j hjn
  · have : Nat.blt j n = false := by rw [← Bool.not_eq_true, Nat.blt_eq]; exact hjn
    have e : j = n := by omega
    subst e
    rw [this, cond_false, Nat.sub_self]
    exact hv
def VBd (r : Nat) : Nat → List AV
  | 0 => [pt 0 0, .v1 (.sc (.sl 1 0 1 1)), .v1 (.sc (.it (prI r)))]
  | k + 1 => [pt 0 0, .v1 (.sc (.so 1 (k + 2))), .v1 (.sc (.it (prI r)))]
def HBd (P : LP) (g : Nat → Nat) : Nat → Heap
  | 0 => [pB P, some ⟨5, [.ws .u8 1 g], 0, 0⟩, none]
  | k + 1 => [pB P, some ⟨5, [.ws .u8 (k + 2) g], 1, 1⟩, some ⟨0, [], 2, 0⟩]
abbrev VBe (r k : Nat) : List AV := [pt 0 0, .v1 (.sc (.so 1 (k + 9))), .v1 (.sc (.it (prI r)))]
abbrev HBe (P : LP) (g : Nat → Nat) (k : Nat) : Heap := [pB P, some ⟨5, [.ws .u8 (k + 9) g], 1, 1⟩, some ⟨0, [], 2, 0⟩]
def cBytes' (args : List AV) (h : Heap) (slot : Nat) : Option (List Prop × AV × Heap) :=
  match args with
  | [.v1 (.agg [.one (.w .u64 x), .one (.w .u64 y), .one (.bo z)])] => match isHole h slot && isHole h (slot + 1) with
    | true => some ([x < W, y < W], .v1 (.sc (.so slot 17)), hset (hset h slot ⟨5, [.ws .u8 17 (byP ⟨x, y, z⟩)], 1, 1⟩) (slot + 1) ⟨0, [], 2, 0⟩)
    | false => none
  | _ => none
theorem okBytes' : (CallC.mem cBytes').Ok Try.prog 18 := by
  intro args h slot pre v h' e hp
  unfold cBytes' at e
  split at e
  rotate_left
  · cases e
  rename_i x y z
  split at e
  rotate_left
  · cases e
  rename_i hh
  cases e
  simp only [Bool.and_eq_true] at hh
  have hx : x < W := hp _ (by simp)
  have hy : y < W := hp _ (by simp)
  refine views_call tt_ok Try.func18 (by kernel_rfl) (by kernel_rfl) [.pl (.v1 (.agg (pC x y z)))] (args := [.v1 (.agg (pC x y z))])
    ⟨⟨rfl, rfl⟩, trivial⟩ slot [⟨5, [.ws .u8 17 (byP ⟨x, y, z⟩)], 1, 1⟩, ⟨0, [], 2, 0⟩] (.v1 (.sc (.so 0 17))) rfl rfl rfl (fun t ht => by
      have : t = 0 ∨ t = 1 := by simp at ht; omega
      rcases this with rfl | rfl
      · exact hh.1
      · exact hh.2) fun a W hi => ⟨[1,2], rfl, ?_⟩
  rcases hi with _ | ⟨hi⟩ | _ | _ | _
  cases hi
  refine loopR mixed tt_ok (G := ctxL []) ctxL_nil (by kernel_rfl) (ι := {a // InvBd ⟨x, y, z⟩ 1 a}) [0,1,77] [0,4,5] [0,1,2] [1,3,4] 38 (fun a => VBd a.1.1 a.1.2.1) (fun a => HBd ⟨x, y, z⟩ a.1.2.2 a.1.2.1) (fun a => a.1.1) (fun a => a.1.1 = 0)
    (fun a => by
      obtain ⟨⟨r, k, g⟩, _⟩ := a
      cases k <;> kernel_rfl) (fun _ j h => by obtain ⟨_, h⟩ := h; simp [hget] at h) (fun j h => by obtain ⟨_, h⟩ := h; simp [hget] at h) 60 [] ?_ ?_ ?_
  · cases z
    · refine same (p := true = true ∧ true = true ∧ ∃ j : {a // InvBd ⟨x, y, false⟩ 1 a}, VBd 8 0 = VBd j.1.1 j.1.2.1 ∧ HBd ⟨x, y, false⟩ (upd (fun _ => 0) 0 0) 0 = HBd ⟨x, y, false⟩ j.1.2.2 j.1.2.1) ?_ (by kernel_rfl)
      exact ⟨rfl, rfl, ⟨(8, 0, upd (fun _ => 0) 0 0), rfl, fun j hj => by simp at hj; subst hj; rfl⟩, rfl, rfl⟩
    · refine same (p := true = true ∧ true = true ∧ ∃ j : {a // InvBd ⟨x, y, true⟩ 1 a}, VBd 8 0 = VBd j.1.1 j.1.2.1 ∧ HBd ⟨x, y, true⟩ (upd (upd (fun _ => 0) 0 0) 0 1) 0 = HBd ⟨x, y, true⟩ j.1.2.2 j.1.2.1) ?_ (by kernel_rfl)
      exact ⟨rfl, rfl, ⟨(8, 0, upd (upd (fun _ => 0) 0 0) 0 1), rfl, fun j hj => by simp at hj; subst hj; rfl⟩, rfl, rfl⟩
  · intro ⟨⟨r, k, g⟩, hs, hg⟩ junk
    simp only at hs hg
    cases r with
    | zero =>
      cases k with
      | zero => omega
      | succ k =>
        refine roundF mixed tt_ok (G := ctxL []) ctxL_nil 60 [] ?_
        refine same (p := true = true ∧ true = true ∧ ∃ j : {a // InvBd ⟨x, y, z⟩ 1 a}, j.1.1 = 0 ∧ VBd 0 (k + 1) = VBd j.1.1 j.1.2.1 ∧ HBd ⟨x, y, z⟩ g (k + 1) = HBd ⟨x, y, z⟩ j.1.2.2 j.1.2.1) ?_ (by kernel_rfl)
        exact ⟨rfl, rfl, ⟨(0, k + 1, g), hs, hg⟩, rfl, rfl, rfl⟩
    | succ i =>
      have hv : BYr x i % 256 = byP ⟨x, y, z⟩ (k + 1) % 256 := by
        rw [BYr_eq hx (by omega), Nat.add_comm k 1, byP_x ⟨x, y, z⟩ (by omega), show 7 - k = i by omega]
      have hm := wrapI_mul (a := 8) (b := i) (by omega)
      cases k with
      | zero =>
        have hi7 : i = 7 := by omega
        subst hi7
        refine roundF mixed tt_ok (G := ctxL []) ctxL_nil 60 [] ?_
        refine same (p := true = true ∧ true = true ∧ ∃ j : {a // InvBd ⟨x, y, z⟩ 1 a}, j.1.1 < 8 ∧ VBd 7 1 = VBd j.1.1 j.1.2.1 ∧ HBd ⟨x, y, z⟩ (apF 1 g (BYr x 7)) 1 = HBd ⟨x, y, z⟩ j.1.2.2 j.1.2.1) ?_ (by kernel_rfl)
        exact ⟨rfl, rfl, ⟨(7, 1, apF 1 g (BYr x 7)), rfl, apF_inv hg hv⟩, by simp only; omega, rfl, rfl⟩
      | succ k =>
        refine roundF mixed tt_ok (G := ctxL []) ctxL_nil 60 [⟨5,1,.lit (.bo true)⟩,⟨7,4,.lit (.it (Int.ofNat (8*i)))⟩,⟨7,8,.sym⟩,⟨6,1,.lit (.it (prI i))⟩] ?_
        refine same (p := (!ilt (Int.ofNat i) 0) = true ∧ wrapI (8 * Int.ofNat i) = Int.ofNat (8 * i) ∧ k + 2 = k + 2 ∧ 1 ≤ 1 ∧ k + 2 + 1 ≤ limN ∧ (false = true → 0 < 1) ∧ wrapI (Int.ofNat i - 1) = prI i ∧ true = true ∧ true = true ∧
          ∃ j : {a // InvBd ⟨x, y, z⟩ 1 a}, j.1.1 < i + 1 ∧ VBd i (k + 2) = VBd j.1.1 j.1.2.1 ∧ HBd ⟨x, y, z⟩ (apF (k + 2) g (BYr x i)) (k + 2) = HBd ⟨x, y, z⟩ j.1.2.2 j.1.2.1) ?_ (by kernel_rfl)
        exact ⟨ige i, hm, rfl, Nat.le_refl _, by unfold limN; omega, fun h => (by cases h), prI_eq (by omega), rfl, rfl, ⟨(i, k + 2, apF (k + 2) g (BYr x i)), by simp only; omega, apF_inv hg hv⟩, by simp only; omega, rfl, rfl⟩
  · intro ⟨⟨r, k, g⟩, hs, hg⟩ junk h0
    simp only at hs hg h0
    subst h0
    have hk8 : k = 8 := by omega
    subst hk8
    refine loopR mixed tt_ok (G := ctxL []) ctxL_nil (by kernel_rfl) (ι := {a // InvBd ⟨x, y, z⟩ 9 a}) [0,1,2] [0,4,5] [0,1,2] [1,3,5] 38 (fun a => VBe a.1.1 a.1.2.1) (fun a => HBe ⟨x, y, z⟩ a.1.2.2 a.1.2.1) (fun a => a.1.1) (fun a => a.1.1 = 0)
      (fun a => by kernel_rfl) (fun _ j h => by obtain ⟨_, h⟩ := h; simp [hget] at h) (fun j h => by obtain ⟨_, h⟩ := h; simp [hget] at h) 60 [] ?_ ?_ ?_
    · refine same (p := true = true ∧ true = true ∧ ∃ j : {a // InvBd ⟨x, y, z⟩ 9 a}, VBe 8 0 = VBe j.1.1 j.1.2.1 ∧ HBe ⟨x, y, z⟩ g 0 = HBe ⟨x, y, z⟩ j.1.2.2 j.1.2.1) ?_ (by kernel_rfl)
      exact ⟨rfl, rfl, ⟨(8, 0, g), rfl, fun j hj => hg j (by omega)⟩, rfl, rfl⟩
    · intro ⟨⟨r, k, g⟩, hs, hg⟩ junk
      simp only at hs hg
      cases r with
      | zero =>
        refine roundF mixed tt_ok (G := ctxL []) ctxL_nil 60 [] ?_
        refine same (p := true = true ∧ true = true ∧ ∃ j : {a // InvBd ⟨x, y, z⟩ 9 a}, j.1.1 = 0 ∧ VBe 0 k = VBe j.1.1 j.1.2.1 ∧ HBe ⟨x, y, z⟩ g k = HBe ⟨x, y, z⟩ j.1.2.2 j.1.2.1) ?_ (by kernel_rfl)
        exact ⟨rfl, rfl, ⟨(0, k, g), hs, hg⟩, rfl, rfl, rfl⟩
      | succ i =>
        have hv : BYr y i % 256 = byP ⟨x, y, z⟩ (k + 9) % 256 := by
          rw [BYr_eq hy (by omega), Nat.add_comm k 9, byP_y ⟨x, y, z⟩ (by omega), show 7 - k = i by omega]
        have hm := wrapI_mul (a := 8) (b := i) (by omega)
        refine roundF mixed tt_ok (G := ctxL []) ctxL_nil 60 [⟨9,1,.lit (.bo true)⟩,⟨11,4,.lit (.it (Int.ofNat (8*i)))⟩,⟨11,8,.sym⟩,⟨10,1,.lit (.it (prI i))⟩] ?_
        refine same (p := (!ilt (Int.ofNat i) 0) = true ∧ wrapI (8 * Int.ofNat i) = Int.ofNat (8 * i) ∧ k + 9 = k + 9 ∧ 1 ≤ 1 ∧ k + 9 + 1 ≤ limN ∧ (false = true → 0 < 1) ∧ wrapI (Int.ofNat i - 1) = prI i ∧ true = true ∧ true = true ∧
          ∃ j : {a // InvBd ⟨x, y, z⟩ 9 a}, j.1.1 < i + 1 ∧ VBe i (k + 1) = VBe j.1.1 j.1.2.1 ∧ HBe ⟨x, y, z⟩ (apF (k + 9) g (BYr y i)) (k + 1) = HBe ⟨x, y, z⟩ j.1.2.2 j.1.2.1) ?_ (by kernel_rfl)
        have ha := apF_inv hg hv
        exact ⟨ige i, hm, rfl, Nat.le_refl _, by unfold limN; omega, fun h => (by cases h), prI_eq (by omega), rfl, rfl, ⟨(i, k + 1, apF (k + 9) g (BYr y i)), by simp only; omega, fun j hj => ha j (by omega)⟩, by simp only; omega, rfl, rfl⟩
    · intro ⟨⟨r, k, g⟩, hs, hg⟩ junk h0
      simp only at hs hg h0
      subst h0
      have hk8 : k = 8 := by omega
      subst hk8
      refine evS_q mixed tt_ok (G := ctxL []) ctxL_nil 40 [] (same (p := endM [1,2] [some ⟨5, [.ws .u8 17 g], 1, 1⟩, some ⟨0, [], 2, 0⟩] [some ⟨5, [.ws .u8 17 (byP ⟨x, y, z⟩)], 1, 1⟩, some ⟨0, [], 2, 0⟩] (.v1 (.sc (.so 1 17))) (.v1 (.sc (.so 0 17)))) ?_ (by kernel_rfl))
      exact endM_ok ⟨⟨rfl, rfl, rfl, fun ρ => ws8_val hg ρ⟩, simB_refl _, trivial⟩ rfl fun _ => rfl
end Go.Proofs.Ytafiafkeigdjhaa

/- A point of bytes: Read of the code and of the document. Printed by genl16.py. -/
namespace Go.Proofs.Ytafiafkeigdjhaa
open Go.Rq Go
set_option linter.unusedVariables false
set_option linter.unusedSimpArgs false

/-- A window's byte: what an address asks. -/
def wx (o n i : Nat) (q : Prop) : Prop := 0 ≤ Int.ofNat i ∧ Int.ofNat i < (n : Int) ∧ o ≤ addN o i ∧ addN o i < o + n ∧ q
theorem wx_of {o n i : Nat} {q : Prop} (h : i < n) (k : q) : wx o n i q := ⟨Int.natCast_nonneg _, by simp; exact h, by rw [addN_eq]; omega, by rw [addN_eq]; omega, k⟩
abbrev wbv (o i : Nat) (f : Nat → Nat) : Nat := f (addN o i - o)
theorem wbv_eq {o i : Nat} {f : Nat → Nat} : wbv o i f = f i := by
  unfold wbv; rw [addN_eq]; congr 1; omega
def wx0 (o n : Nat) (q : Prop) : Prop := o ≤ addN o 0 ∧ addN o 0 < o + n ∧ q
theorem wx0_of {o n : Nat} {q : Prop} (h : 0 < n) (k : q) : wx0 o n q := ⟨by rw [addN_eq]; omega, by rw [addN_eq]; omega, k⟩
theorem beP_or (f : Nat → Nat) (a k : Nat) : (beP f a k * 256 ||| f (a + k) % 256) = beP f a (k + 1) := beP_step (Nat.mod_lt _ (by omega))
theorem ine17 {n : Nat} (h : n ≠ 17) : (!ieq (Int.ofNat n) 17) = true := by
  have : ieq (Int.ofNat n) 17 = false := by
    rw [← Bool.not_eq_true, ieq_iff]; simp only [Int.ofNat_eq_natCast]; omega
  rw [this]; rfl
theorem rdE_n {p n : Nat} {I : LP → Bool} {f : Nat → Nat} (h : n ≠ 17) : rdE p I n f = 4 := by
  have : Nat.beq n 17 = false := by rw [← Bool.not_eq_true, Nat.beq_eq]; exact h
  unfold rdE; rw [this, cond_false]
theorem rdE_b {p : Nat} {I : LP → Bool} {f : Nat → Nat} (h : Nat.blt 1 (f 0 % 256) = true) : rdE p I 17 f = 4 := by
  unfold rdE; rw [h]; rfl
theorem rdE_o {p : Nat} {I : LP → Bool} {f : Nat → Nat} (h : Nat.blt 1 (f 0 % 256) = false) (h1 : onB p (rdP f) = false) : rdE p I 17 f = 4 := by
  unfold rdE; rw [h, h1]; rfl
theorem rdE_i {p : Nat} {I : LP → Bool} {f : Nat → Nat} (h : Nat.blt 1 (f 0 % 256) = false) (h1 : onB p (rdP f) = true) (h2 : I (rdP f) = false) : rdE p I 17 f = 5 := by
  unfold rdE; rw [h, h1, h2]; rfl
theorem rdE_k {p : Nat} {I : LP → Bool} {f : Nat → Nat} (h : Nat.blt 1 (f 0 % 256) = false) (h1 : onB p (rdP f) = true) (h2 : I (rdP f) = true) : rdE p I 17 f = 0 := by
  unfold rdE; rw [h, h1, h2]; rfl
abbrev rdV (p r n : Nat) (f : Nat → Nat) : AV := .tup [.agg (pC (rdQ p (inN p r) n f).x (rdQ p (inN p r) n f).y (rdQ p (inN p r) n f).z), .sc (.it (Int.ofNat (rdE p (inN p r) n f)))]
theorem rdV_err {p r n e : Nat} {f : Nat → Nat} (h : rdE p (inN p r) n f = e + 1) : (.tup [.agg (pC 0 0 false), .sc (.it (Int.ofNat (e + 1)))] : AV) = rdV p r n f := by
  unfold rdV rdQ
  rw [h]; rfl
theorem rdV_ok {p r n : Nat} {f : Nat → Nat} (h : rdE p (inN p r) n f = 0) : (.tup [.agg (pC (rdP f).x (rdP f).y (rdP f).z), .sc (.it (Int.ofNat 0))] : AV) = rdV p r n f := by
  unfold rdV rdQ
  rw [h]; rfl

def kRead (s : Int) (p r c gx gy : Nat) (args : List AV) (h : Heap) : Option (List Prop × AV) :=
  match args with
  | [.v1 (.sc (.it t)), x] => match vw h x with
    | some (n, f, q) => some (q ++ [t = s], rdV p r n f)
    | none => none
  | _ => none
def kReadB (args : List AV) (h : Heap) : Option (List Prop × AV) :=
  match args with
  | [.v1 (.sc (.it t)), x] => match vw h x with
    | some (n, f, q) => some (q ++ [t ≠ 1, t ≠ 2], .tup [.agg (pC 0 0 false), .sc (.it 2)])
    | none => none
  | _ => none
def GRd (s : Int) (p r c gx gy : Nat) : List (Nat × CallC) := [(42, .pure (kChk0 (fun t => t = s) (chV p r c gx gy 0))), (44, .pure (y1 LwP fun p _ P => .v1 (.sc (.bo (onB p P))))), (45, .pure (y1 LwP fun p r P => .v1 (.sc (.bo (inN p r P)))))]
theorem GRd_ok {s : Int} {p r c gx gy : Nat} (hC : CuOk s p r c gx gy) : CtxOk Try.prog (ctxL (GRd s p r c gx gy)) := ctxL_cons (okChk0 hC) <| ctxL_cons okOn <| ctxL_cons okIn ctxL_nil
theorem read_walk {s : Int} {p r c gx gy : Nat} (hC : CuOk s p r c gx gy) {t : Int} (hs : t = s) {t1 o1 c1 : Nat} {f : Nat → Nat} {v1 : WrapV} : AWqS Try.prog (Dm [wB t1 o1 17 f v1]) (flatC (bodyOf Try.f13)) (FEndM tt Try.f13 [0] (rdV p r 17 f) [wB t1 o1 17 f v1]) ⟨frame0 [.v1 (.sc (.it t)), .v1 (.sc (.sl 0 o1 17 c1))] Try.f13.ntmps, [wB t1 o1 17 f v1]⟩ := by
  have hl := rdP_lw f
  have hPw : LwP p (rdP f) := ⟨hl.1, hl.2⟩
  refine loopK mixed tt_ok (GRd_ok hC) 0 (by kernel_rfl) (ι := {k : Nat // k ≤ 8}) [1,4,6,8,28] 71 5 (fun k => [.v1 (.sc (.sl 0 o1 17 c1)), pt 1 0, pt 3 0, pt 4 0, iv (Int.ofNat k.1)]) (fun k => [wB t1 o1 17 f v1, pB ⟨0, 0, false⟩, none, some ⟨72, cvC p r c gx gy false, 0, 0⟩, pB ⟨beP f 1 k.1, beP f 9 k.1, Nat.beq (f 0 % 256) 1⟩]) (fun k => 8 - k.1) (fun k => k.1 = 8)
    (fun _ => rfl) (fun _ => by kernel_rfl) (fun k j h => by have := Dm_lt h; simp at this; subst this; exact ⟨_, rfl⟩) 60 [⟨6,2,.sym⟩,⟨6,3,.lit (.bo (Nat.beq (f 0 % 256) 1))⟩] ?_ ?_ ?_
  · refine same (p := t = s ∧ wx0 o1 17 (Nat.beq (wbv o1 0 f % 256) 1 = Nat.beq (f 0 % 256) 1 ∧ true = true ∧ ∃ j : {k : Nat // k ≤ 8}, [.v1 (.sc (.sl 0 o1 17 c1)), pt 1 0, pt 3 0, pt 4 0, iv (Int.ofNat 0)] = [.v1 (.sc (.sl 0 o1 17 c1)), pt 1 0, pt 3 0, pt 4 0, iv (Int.ofNat j.1)] ∧ [wB t1 o1 17 f v1, pB ⟨0, 0, false⟩, none, some ⟨72, cvC p r c gx gy false, 0, 0⟩, pB ⟨beP f 1 0, beP f 9 0, Nat.beq (f 0 % 256) 1⟩] = [wB t1 o1 17 f v1, pB ⟨0, 0, false⟩, none, some ⟨72, cvC p r c gx gy false, 0, 0⟩, pB ⟨beP f 1 j.1, beP f 9 j.1, Nat.beq (f 0 % 256) 1⟩])) ?_ (by kernel_rfl)
    exact ⟨hs, wx0_of (by omega) ⟨by rw [wbv_eq], rfl, ⟨0, by omega⟩, rfl, rfl⟩⟩
  · intro ⟨k, hk⟩ junk
    by_cases h8 : k < 8
    · refine roundF mixed tt_ok (GRd_ok hC) 60 [⟨8,0,.lit (.bo true)⟩,⟨10,5,.lit (.it (Int.ofNat (1+k)))⟩,⟨10,6,.sym⟩,⟨10,7,.sym⟩,⟨10,15,.lit (.it (Int.ofNat (9+k)))⟩,⟨10,16,.sym⟩,⟨10,17,.sym⟩,⟨11,0,.lit (.it (Int.ofNat (k+1)))⟩] ?_
      refine same (p := ilt (Int.ofNat k) 8 = true ∧ wrapI (1 + Int.ofNat k) = Int.ofNat (1 + k) ∧ wx o1 17 (1 + k) (wrapI (9 + Int.ofNat k) = Int.ofNat (9 + k) ∧ wx o1 17 (9 + k) (wrapI (Int.ofNat k + 1) = Int.ofNat (k + 1) ∧ true = true ∧
        ∃ j : {k : Nat // k ≤ 8}, 8 - j.1 < 8 - k ∧ [.v1 (.sc (.sl 0 o1 17 c1)), pt 1 0, pt 3 0, pt 4 0, iv (Int.ofNat (k + 1))] = [.v1 (.sc (.sl 0 o1 17 c1)), pt 1 0, pt 3 0, pt 4 0, iv (Int.ofNat j.1)] ∧ [wB t1 o1 17 f v1, pB ⟨0, 0, false⟩, none, some ⟨72, cvC p r c gx gy false, 0, 0⟩, pB ⟨beP f 1 k * 256 ||| wbv o1 (1 + k) f % 256, beP f 9 k * 256 ||| wbv o1 (9 + k) f % 256, Nat.beq (f 0 % 256) 1⟩] = [wB t1 o1 17 f v1, pB ⟨0, 0, false⟩, none, some ⟨72, cvC p r c gx gy false, 0, 0⟩, pB ⟨beP f 1 j.1, beP f 9 j.1, Nat.beq (f 0 % 256) 1⟩]))) ?_ (by kernel_rfl)
      refine ⟨ilt_t (n := 8) h8, wrapI_add (a := 1) (b := k) (by omega), wx_of (by omega) ⟨wrapI_add (a := 9) (b := k) (by omega), wx_of (by omega) ⟨wrapI_succ (by omega), rfl, ⟨k + 1, by omega⟩, by simp only; omega, rfl, ?_⟩⟩⟩
      rw [wbv_eq, wbv_eq, beP_or, beP_or]
    · have : k = 8 := by omega
      subst this
      refine roundF mixed tt_ok (GRd_ok hC) 60 [] ?_
      refine same (p := true = true ∧ ∃ j : {k : Nat // k ≤ 8}, j.1 = 8 ∧ [.v1 (.sc (.sl 0 o1 17 c1)), pt 1 0, pt 3 0, pt 4 0, iv (Int.ofNat 8)] = [.v1 (.sc (.sl 0 o1 17 c1)), pt 1 0, pt 3 0, pt 4 0, iv (Int.ofNat j.1)] ∧ [wB t1 o1 17 f v1, pB ⟨0, 0, false⟩, none, some ⟨72, cvC p r c gx gy false, 0, 0⟩, pB ⟨beP f 1 8, beP f 9 8, Nat.beq (f 0 % 256) 1⟩] = [wB t1 o1 17 f v1, pB ⟨0, 0, false⟩, none, some ⟨72, cvC p r c gx gy false, 0, 0⟩, pB ⟨beP f 1 j.1, beP f 9 j.1, Nat.beq (f 0 % 256) 1⟩]) ?_ (by kernel_rfl)
      exact ⟨rfl, ⟨8, by omega⟩, rfl, rfl, rfl⟩
  · intro ⟨k, hk⟩ junk h8
    simp only at h8
    subst h8
    cases hb : Nat.blt 1 (f 0 % 256)
    · cases ho : onB p (rdP f)
      · refine evS_q mixed tt_ok (GRd_ok hC) 60 [⟨12,2,.sym⟩,⟨12,3,.lit (.bo false)⟩,⟨12,7,.lit (.bo false)⟩] (same (p := wx0 o1 17 (Nat.blt 1 (wbv o1 0 f % 256) = false ∧ onB p (rdP f) = false ∧ Gp p ∧ LwP p (rdP f) ∧ endM [0] [wB t1 o1 17 f v1] [wB t1 o1 17 f v1] (.tup [.agg (pC 0 0 false), .sc (.it (Int.ofNat 4))]) (rdV p r 17 f))) ?_ (by kernel_rfl))
        exact wx0_of (by omega) ⟨by rw [wbv_eq]; exact hb, ho, hC.gp, hPw, endM_same rfl (rdV_err (rdE_o hb ho))⟩
      · cases hi : inN p r (rdP f)
        · refine evS_q mixed tt_ok (GRd_ok hC) 60 [⟨12,2,.sym⟩,⟨12,3,.lit (.bo false)⟩,⟨12,7,.lit (.bo true)⟩,⟨14,2,.lit (.bo false)⟩] (same (p := wx0 o1 17 (Nat.blt 1 (wbv o1 0 f % 256) = false ∧ onB p (rdP f) = true ∧ Gp p ∧ LwP p (rdP f) ∧ inN p r (rdP f) = false ∧ Gp p ∧ LwP p (rdP f) ∧ endM [0] [wB t1 o1 17 f v1] [wB t1 o1 17 f v1] (.tup [.agg (pC 0 0 false), .sc (.it (Int.ofNat 5))]) (rdV p r 17 f))) ?_ (by kernel_rfl))
          exact wx0_of (by omega) ⟨by rw [wbv_eq]; exact hb, ho, hC.gp, hPw, hi, hC.gp, hPw, endM_same rfl (rdV_err (rdE_i hb ho hi))⟩
        · refine evS_q mixed tt_ok (GRd_ok hC) 60 [⟨12,2,.sym⟩,⟨12,3,.lit (.bo false)⟩,⟨12,7,.lit (.bo true)⟩,⟨14,2,.lit (.bo true)⟩] (same (p := wx0 o1 17 (Nat.blt 1 (wbv o1 0 f % 256) = false ∧ onB p (rdP f) = true ∧ Gp p ∧ LwP p (rdP f) ∧ inN p r (rdP f) = true ∧ Gp p ∧ LwP p (rdP f) ∧ endM [0] [wB t1 o1 17 f v1] [wB t1 o1 17 f v1] (.tup [.agg (pC (rdP f).x (rdP f).y (rdP f).z), .sc (.it (Int.ofNat 0))]) (rdV p r 17 f))) ?_ (by kernel_rfl))
          exact wx0_of (by omega) ⟨by rw [wbv_eq]; exact hb, ho, hC.gp, hPw, hi, hC.gp, hPw, endM_same rfl (rdV_ok (rdE_k hb ho hi))⟩
    · refine evS_q mixed tt_ok (GRd_ok hC) 60 [⟨12,2,.sym⟩,⟨12,3,.lit (.bo true)⟩] (same (p := wx0 o1 17 (Nat.blt 1 (wbv o1 0 f % 256) = true ∧ endM [0] [wB t1 o1 17 f v1] [wB t1 o1 17 f v1] (.tup [.agg (pC 0 0 false), .sc (.it (Int.ofNat 4))]) (rdV p r 17 f))) ?_ (by kernel_rfl))
      exact wx0_of (by omega) ⟨by rw [wbv_eq]; exact hb, endM_same rfl (rdV_err (rdE_b hb))⟩
theorem okERead {s : Int} {p r c gx gy : Nat} (hC : CuOk s p r c gx gy) : (CallC.rd (kRead s p r c gx gy)).Ok Try.prog 13 := by
  refine ⟨fun args h pre v e hp => ?_, fun args h slot blk hs ha => ?_⟩
  · unfold kRead at e
    split at e
    rotate_left
    · cases e
    rename_i t x
    split at e
    rotate_left
    · cases e
    rename_i n f q hx
    cases e
    have hs : t = s := hp _ (by simp)
    refine views_call tt_ok Try.func13 (by kernel_rfl) (by kernel_rfl) [.pl (.v1 (.sc (.it t))), .vs n f] (args := [.v1 (.sc (.it t)), x])
      ⟨⟨rfl, rfl⟩, ⟨q, hx, fun p hq => hp p (List.mem_append_left _ hq)⟩, trivial⟩ 0 [] (rdV p r n f) rfl rfl rfl (fun t ht => by simp at ht) fun a W hi => ⟨[], rfl, ?_⟩
    rcases hi with _ | ⟨hi⟩ | _ | _ | _
    rcases hi with _ | _ | ⟨w1, hn, hi⟩ | ⟨t1, o1, c1, v1, hi⟩ | _
    · cases hi
      subst hn
      refine evS_q mixed tt_ok (GRd_ok hC) 60 [] (same (p := t = s ∧ endM [] [] [] (.tup [.agg (pC 0 0 false), .sc (.it (Int.ofNat 4))]) (rdV p r 0 f)) ?_ (by kernel_rfl))
      exact ⟨hs, endM_same rfl (rdV_err (rdE_n (by omega)))⟩
    · cases hi
      by_cases hn : n = 17
      · subst hn
        exact read_walk hC hs
      · refine evS_q mixed tt_ok (GRd_ok hC) 60 [⟨4,2,.lit (.bo true)⟩] (same (p := t = s ∧ (!ieq (Int.ofNat n) 17) = true ∧ endM [0] [wB t1 o1 n f v1] [wB t1 o1 n f v1] (.tup [.agg (pC 0 0 false), .sc (.it (Int.ofNat 4))]) (rdV p r n f)) ?_ (by kernel_rfl))
        exact ⟨hs, ine17 hn, endM_same rfl (rdV_err (rdE_n hn))⟩
  · unfold kRead
    split
    · rename_i t x
      rw [vw_local hs (ha x (by simp))]
    · rfl
def GRdB : List (Nat × CallC) := [(42, .pure (kChk0 qBad0 (zCh 2)))]
theorem GRdB_ok : CtxOk Try.prog (ctxL GRdB) := ctxL_cons okChk0B ctxL_nil
theorem okEReadB : (CallC.rd kReadB).Ok Try.prog 13 := by
  refine ⟨fun args h pre v e hp => ?_, fun args h slot blk hs ha => ?_⟩
  · unfold kReadB at e
    split at e
    rotate_left
    · cases e
    rename_i t x
    split at e
    rotate_left
    · cases e
    rename_i n f q hx
    cases e
    have b1 : t ≠ 1 := hp _ (by simp)
    have b2 : t ≠ 2 := hp _ (by simp)
    refine views_call tt_ok Try.func13 (by kernel_rfl) (by kernel_rfl) [.pl (.v1 (.sc (.it t))), .vs n f] (args := [.v1 (.sc (.it t)), x])
      ⟨⟨rfl, rfl⟩, ⟨q, hx, fun p hq => hp p (List.mem_append_left _ hq)⟩, trivial⟩ 0 [] (.tup [.agg (pC 0 0 false), .sc (.it 2)]) rfl rfl rfl (fun t ht => by simp at ht) fun a W hi => ⟨[], rfl, ?_⟩
    rcases hi with _ | ⟨hi⟩ | _ | _ | _
    rcases hi with _ | _ | ⟨w1, hn, hi⟩ | ⟨t1, o1, c1, v1, hi⟩ | _
    · cases hi
      exact evS_q mixed tt_ok GRdB_ok 60 [] (same (p := qBad0 t ∧ endM [] [] [] (.tup [.agg (pC 0 0 false), .sc (.it 2)]) (.tup [.agg (pC 0 0 false), .sc (.it 2)])) ⟨⟨b1, b2⟩, endM_same rfl rfl⟩ (by kernel_rfl))
    · cases hi
      exact evS_q mixed tt_ok GRdB_ok 60 [] (same (p := qBad0 t ∧ endM [0] [wB t1 o1 n f v1] [wB t1 o1 n f v1] (.tup [.agg (pC 0 0 false), .sc (.it 2)]) (.tup [.agg (pC 0 0 false), .sc (.it 2)])) ⟨⟨b1, b2⟩, endM_same rfl rfl⟩ (by kernel_rfl))
  · unfold kReadB
    split
    · rename_i t x
      rw [vw_local hs (ha x (by simp))]
    · rfl
def cRead' (args : List AV) (h : Heap) : Option (List Prop × AV) :=
  match args with
  | [.v1 (.agg [.one (.w .u64 p), .one (.w .u64 r), .one (.w .u64 c), .one (.w .u64 gx), .one (.w .u64 gy), .one (.bo gz)]), x] => match vw h x with
    | some (n, f, q) => some (q ++ [Gp p], rdV p r n f)
    | none => none
  | _ => none
def GRd' : List (Nat × CallC) := [(16, .pure (y1 LwP fun p _ P => .v1 (.sc (.bo (onB p P))))), (25, .pure (y1 LwP fun p r P => .v1 (.sc (.bo (inN p r P)))))]
theorem GRd'_ok : CtxOk Try.prog (ctxL GRd') := ctxL_cons okOn' <| ctxL_cons okIn' ctxL_nil
theorem read_walk' {p r c gx gy : Nat} {gz : Bool} (hP : Gp p) {t1 o1 c1 : Nat} {f : Nat → Nat} {v1 : WrapV} : AWqS Try.prog (Dm [wB t1 o1 17 f v1]) (flatC (bodyOf Try.f15)) (FEndM tt Try.f15 [0] (rdV p r 17 f) [wB t1 o1 17 f v1]) ⟨frame0 [.v1 (.agg (cvC p r c gx gy gz)), .v1 (.sc (.sl 0 o1 17 c1))] Try.f15.ntmps, [wB t1 o1 17 f v1]⟩ := by
  have hl := rdP_lw f
  have hPw : LwP p (rdP f) := ⟨hl.1, hl.2⟩
  refine loopK mixed tt_ok GRd'_ok 0 (by kernel_rfl) (ι := {k : Nat // k ≤ 8}) [1,2,4,6,7] 60 4 (fun k => [.v1 (.sc (.sl 0 o1 17 c1)), pt 1 0, pt 2 0, pt 3 0, iv (Int.ofNat k.1)]) (fun k => [wB t1 o1 17 f v1, some ⟨29, cvC p r c gx gy gz, 0, 0⟩, pB ⟨0, 0, false⟩, pB ⟨beP f 1 k.1, beP f 9 k.1, Nat.beq (f 0 % 256) 1⟩]) (fun k => 8 - k.1) (fun k => k.1 = 8)
    (fun _ => rfl) (fun _ => by kernel_rfl) (fun k j h => by have := Dm_lt h; simp at this; subst this; exact ⟨_, rfl⟩) 60 [⟨4,2,.sym⟩,⟨4,3,.lit (.bo (Nat.beq (f 0 % 256) 1))⟩] ?_ ?_ ?_
  · refine same (p := wx0 o1 17 (Nat.beq (wbv o1 0 f % 256) 1 = Nat.beq (f 0 % 256) 1 ∧ true = true ∧ ∃ j : {k : Nat // k ≤ 8}, [.v1 (.sc (.sl 0 o1 17 c1)), pt 1 0, pt 2 0, pt 3 0, iv (Int.ofNat 0)] = [.v1 (.sc (.sl 0 o1 17 c1)), pt 1 0, pt 2 0, pt 3 0, iv (Int.ofNat j.1)] ∧ [wB t1 o1 17 f v1, some ⟨29, cvC p r c gx gy gz, 0, 0⟩, pB ⟨0, 0, false⟩, pB ⟨beP f 1 0, beP f 9 0, Nat.beq (f 0 % 256) 1⟩] = [wB t1 o1 17 f v1, some ⟨29, cvC p r c gx gy gz, 0, 0⟩, pB ⟨0, 0, false⟩, pB ⟨beP f 1 j.1, beP f 9 j.1, Nat.beq (f 0 % 256) 1⟩])) ?_ (by kernel_rfl)
    exact wx0_of (by omega) ⟨by rw [wbv_eq], rfl, ⟨0, by omega⟩, rfl, rfl⟩
  · intro ⟨k, hk⟩ junk
    by_cases h8 : k < 8
    · refine roundF mixed tt_ok GRd'_ok 60 [⟨6,1,.lit (.bo true)⟩,⟨8,5,.lit (.it (Int.ofNat (1+k)))⟩,⟨8,6,.sym⟩,⟨8,7,.sym⟩,⟨9,5,.lit (.it (Int.ofNat (9+k)))⟩,⟨9,6,.sym⟩,⟨9,7,.sym⟩,⟨7,1,.lit (.it (Int.ofNat (k+1)))⟩] ?_
      refine same (p := ilt (Int.ofNat k) 8 = true ∧ wrapI (1 + Int.ofNat k) = Int.ofNat (1 + k) ∧ wx o1 17 (1 + k) (wrapI (9 + Int.ofNat k) = Int.ofNat (9 + k) ∧ wx o1 17 (9 + k) (wrapI (Int.ofNat k + 1) = Int.ofNat (k + 1) ∧ true = true ∧
        ∃ j : {k : Nat // k ≤ 8}, 8 - j.1 < 8 - k ∧ [.v1 (.sc (.sl 0 o1 17 c1)), pt 1 0, pt 2 0, pt 3 0, iv (Int.ofNat (k + 1))] = [.v1 (.sc (.sl 0 o1 17 c1)), pt 1 0, pt 2 0, pt 3 0, iv (Int.ofNat j.1)] ∧ [wB t1 o1 17 f v1, some ⟨29, cvC p r c gx gy gz, 0, 0⟩, pB ⟨0, 0, false⟩, pB ⟨beP f 1 k * 256 ||| wbv o1 (1 + k) f % 256, beP f 9 k * 256 ||| wbv o1 (9 + k) f % 256, Nat.beq (f 0 % 256) 1⟩] = [wB t1 o1 17 f v1, some ⟨29, cvC p r c gx gy gz, 0, 0⟩, pB ⟨0, 0, false⟩, pB ⟨beP f 1 j.1, beP f 9 j.1, Nat.beq (f 0 % 256) 1⟩]))) ?_ (by kernel_rfl)
      refine ⟨ilt_t (n := 8) h8, wrapI_add (a := 1) (b := k) (by omega), wx_of (by omega) ⟨wrapI_add (a := 9) (b := k) (by omega), wx_of (by omega) ⟨wrapI_succ (by omega), rfl, ⟨k + 1, by omega⟩, by simp only; omega, rfl, ?_⟩⟩⟩
      rw [wbv_eq, wbv_eq, beP_or, beP_or]
    · have : k = 8 := by omega
      subst this
      refine roundF mixed tt_ok GRd'_ok 60 [] ?_
      refine same (p := true = true ∧ ∃ j : {k : Nat // k ≤ 8}, j.1 = 8 ∧ [.v1 (.sc (.sl 0 o1 17 c1)), pt 1 0, pt 2 0, pt 3 0, iv (Int.ofNat 8)] = [.v1 (.sc (.sl 0 o1 17 c1)), pt 1 0, pt 2 0, pt 3 0, iv (Int.ofNat j.1)] ∧ [wB t1 o1 17 f v1, some ⟨29, cvC p r c gx gy gz, 0, 0⟩, pB ⟨0, 0, false⟩, pB ⟨beP f 1 8, beP f 9 8, Nat.beq (f 0 % 256) 1⟩] = [wB t1 o1 17 f v1, some ⟨29, cvC p r c gx gy gz, 0, 0⟩, pB ⟨0, 0, false⟩, pB ⟨beP f 1 j.1, beP f 9 j.1, Nat.beq (f 0 % 256) 1⟩]) ?_ (by kernel_rfl)
      exact ⟨rfl, ⟨8, by omega⟩, rfl, rfl, rfl⟩
  · intro ⟨k, hk⟩ junk h8
    simp only at h8
    subst h8
    cases hb : Nat.blt 1 (f 0 % 256)
    · cases ho : onB p (rdP f)
      · refine evS_q mixed tt_ok GRd'_ok 60 [⟨10,2,.sym⟩,⟨10,3,.lit (.bo false)⟩,⟨10,7,.lit (.bo false)⟩] (same (p := wx0 o1 17 (Nat.blt 1 (wbv o1 0 f % 256) = false ∧ onB p (rdP f) = false ∧ Gp p ∧ LwP p (rdP f) ∧ endM [0] [wB t1 o1 17 f v1] [wB t1 o1 17 f v1] (.tup [.agg (pC 0 0 false), .sc (.it (Int.ofNat 4))]) (rdV p r 17 f))) ?_ (by kernel_rfl))
        exact wx0_of (by omega) ⟨by rw [wbv_eq]; exact hb, ho, hP, hPw, endM_same rfl (rdV_err (rdE_o hb ho))⟩
      · cases hi : inN p r (rdP f)
        · refine evS_q mixed tt_ok GRd'_ok 60 [⟨10,2,.sym⟩,⟨10,3,.lit (.bo false)⟩,⟨10,7,.lit (.bo true)⟩,⟨12,2,.lit (.bo false)⟩] (same (p := wx0 o1 17 (Nat.blt 1 (wbv o1 0 f % 256) = false ∧ onB p (rdP f) = true ∧ Gp p ∧ LwP p (rdP f) ∧ inN p r (rdP f) = false ∧ Gp p ∧ LwP p (rdP f) ∧ endM [0] [wB t1 o1 17 f v1] [wB t1 o1 17 f v1] (.tup [.agg (pC 0 0 false), .sc (.it (Int.ofNat 5))]) (rdV p r 17 f))) ?_ (by kernel_rfl))
          exact wx0_of (by omega) ⟨by rw [wbv_eq]; exact hb, ho, hP, hPw, hi, hP, hPw, endM_same rfl (rdV_err (rdE_i hb ho hi))⟩
        · refine evS_q mixed tt_ok GRd'_ok 60 [⟨10,2,.sym⟩,⟨10,3,.lit (.bo false)⟩,⟨10,7,.lit (.bo true)⟩,⟨12,2,.lit (.bo true)⟩] (same (p := wx0 o1 17 (Nat.blt 1 (wbv o1 0 f % 256) = false ∧ onB p (rdP f) = true ∧ Gp p ∧ LwP p (rdP f) ∧ inN p r (rdP f) = true ∧ Gp p ∧ LwP p (rdP f) ∧ endM [0] [wB t1 o1 17 f v1] [wB t1 o1 17 f v1] (.tup [.agg (pC (rdP f).x (rdP f).y (rdP f).z), .sc (.it (Int.ofNat 0))]) (rdV p r 17 f))) ?_ (by kernel_rfl))
          exact wx0_of (by omega) ⟨by rw [wbv_eq]; exact hb, ho, hP, hPw, hi, hP, hPw, endM_same rfl (rdV_ok (rdE_k hb ho hi))⟩
    · refine evS_q mixed tt_ok GRd'_ok 60 [⟨10,2,.sym⟩,⟨10,3,.lit (.bo true)⟩] (same (p := wx0 o1 17 (Nat.blt 1 (wbv o1 0 f % 256) = true ∧ endM [0] [wB t1 o1 17 f v1] [wB t1 o1 17 f v1] (.tup [.agg (pC 0 0 false), .sc (.it (Int.ofNat 4))]) (rdV p r 17 f))) ?_ (by kernel_rfl))
      exact wx0_of (by omega) ⟨by rw [wbv_eq]; exact hb, endM_same rfl (rdV_err (rdE_b hb))⟩
theorem okRead' : (CallC.rd cRead').Ok Try.prog 15 := by
  refine ⟨fun args h pre v e hp => ?_, fun args h slot blk hs ha => ?_⟩
  · unfold cRead' at e
    split at e
    rotate_left
    · cases e
    rename_i p r c gx gy gz x
    split at e
    rotate_left
    · cases e
    rename_i n f q hx
    cases e
    have hP : Gp p := hp _ (by simp)
    refine views_call tt_ok Try.func15 (by kernel_rfl) (by kernel_rfl) [.pl (.v1 (.agg (cvC p r c gx gy gz))), .vs n f] (args := [.v1 (.agg (cvC p r c gx gy gz)), x])
      ⟨⟨rfl, rfl⟩, ⟨q, hx, fun p hq => hp p (List.mem_append_left _ hq)⟩, trivial⟩ 0 [] (rdV p r n f) rfl rfl rfl (fun t ht => by simp at ht) fun a W hi => ⟨[], rfl, ?_⟩
    rcases hi with _ | ⟨hi⟩ | _ | _ | _
    rcases hi with _ | _ | ⟨w1, hn, hi⟩ | ⟨t1, o1, c1, v1, hi⟩ | _
    · cases hi
      subst hn
      refine evS_q mixed tt_ok GRd'_ok 60 [] (same (p := endM [] [] [] (.tup [.agg (pC 0 0 false), .sc (.it (Int.ofNat 4))]) (rdV p r 0 f)) ?_ (by kernel_rfl))
      exact endM_same rfl (rdV_err (rdE_n (by omega)))
    · cases hi
      by_cases hn : n = 17
      · subst hn
        exact read_walk' hP
      · refine evS_q mixed tt_ok GRd'_ok 60 [⟨1,2,.lit (.bo true)⟩] (same (p := (!ieq (Int.ofNat n) 17) = true ∧ endM [0] [wB t1 o1 n f v1] [wB t1 o1 n f v1] (.tup [.agg (pC 0 0 false), .sc (.it (Int.ofNat 4))]) (rdV p r n f)) ?_ (by kernel_rfl))
        exact ⟨ine17 hn, endM_same rfl (rdV_err (rdE_n hn))⟩
  · unfold cRead'
    split
    · rename_i p r c gx gy gz x
      rw [vw_local hs (ha x (by simp))]
    · rfl
end Go.Proofs.Ytafiafkeigdjhaa

/- A handed slice of bytes, opened; what a law's walk asks of points and bytes. -/
namespace Go.Proofs.Ytafiafkeigdjhaa
open Go.Rq Go Go.ChangeShapes Go.WideShapes Go.ChangeAt Go.RowKit
set_option linter.unusedVariables false
set_option linter.unusedSimpArgs false

theorem row_of_cell {w : World} {a : Addr} {v : Value} (h : w.cell? a = some v) : ∃ arr t fr, w.heap[a.block]? = some (.cells arr t fr) ∧ arr[a.off]? = some v ∧ a.spot = none := by
  unfold World.cell? at h
  split at h
  · rename_i c t fr hc
    split at h
    · cases h
    · rename_i hs
      exact ⟨c, t, fr, hc, h, by simpa using hs⟩
  · cases h
theorem cell_keep {w w' : World} (hs : StepW w w') {a : Addr} {v : Value} (h : w.cell? a = some v) : w'.cell? a = some v := by
  obtain ⟨arr, t, fr, h1, h2, h3⟩ := row_of_cell h
  have hb := (Array.getElem?_eq_some_iff.1 h1).1
  have e := hs.keep _ hb
  unfold World.cell? at h ⊢
  rw [e]; exact h
theorem u8_of {z : Int} (h : (Lit.int .u8 z).wf = true) : Int.ofNat (z.toNat % 256) = z := by
  have := bounds_u8 h
  simp only [Int.ofNat_eq_natCast]; omega
theorem bytes_open {H : Type} {enc : TypeId × Value → H} {Wd : World} {b0 : Nat} {v : Value} {d : DataW H} {p : List MemPlace}
    (h : DataW.Trod enc Try.prog Wd 0 (fun _ => true) true 26 v d p) (hv : Value.okWide Try.prog Wd .any b0 26 v) :
    ∃ n f, (Sh.vs n f).Sem Wd (fun _ => True) v ∧ ∀ (W' : World), StepW Wd W' → ∀ sp : Nat → Bool, (∀ q ∈ p, sp q.block = true) → DataW.Trod enc Try.prog W' 0 sp true 26 v d p := by
  obtain ⟨a1, len, cap, rfl⟩ := okWide_slice Try.underlying26 hv
  obtain ⟨fuel, hf⟩ := h
  have hc5 : Try.prog.cellsOf 5 = 1 := by kernel_rfl
  rcases open_ints Try.underlying26 Try.underlying5 hc5 hf with ⟨hcs, hx⟩ | ⟨a, len', cap', zs, hcs, hb, hl, hm, hz, hx, hcell, hwz⟩
  · simp [Value.cells] at hcs
    obtain ⟨rfl, rfl, rfl⟩ := hcs
    simp only [Prod.mk.injEq] at hx
    obtain ⟨rfl, rfl⟩ := hx
    refine ⟨0, fun _ => 0, .inl ⟨rfl, none, rfl⟩, fun W' hs sp hsp => ⟨1, ?_⟩⟩
    rw [DataW.trod_step]
    unfold DataW.trodStep
    simp [Try.underlying26, Value.cells]
  · simp [Value.cells] at hcs
    obtain ⟨rfl, rfl, rfl⟩ := hcs
    simp only [Prod.mk.injEq] at hx
    obtain ⟨rfl, rfl⟩ := hx
    simp only [if_true] at hz
    have shut : ∀ (W' : World), StepW Wd W' → ∀ sp : Nat → Bool, (∀ q ∈ MemPlace.row a zs.length, sp q.block = true) → DataW.Trod enc Try.prog W' 0 sp true 26 (.slice (some a) len cap) (.slice (lits .u8 (zs.take len)) (lits .u8 (zs.drop len))) (MemPlace.row a zs.length) := by
      intro W' hs sp hsp
      refine ⟨0 + 2, ?_⟩
      have hz' : zs.length = (if sp a.block then cap else len) := by
        by_cases h0 : zs.length = 0
        · have : cap = 0 := by omega
          have : len = 0 := by omega
          split <;> omega
        · have := hsp (.cell a.block (a.off + 0)) (by simp only [MemPlace.row, List.mem_map, List.mem_range]; exact ⟨0, by omega, rfl⟩)
          have hb : sp a.block = true := this
          rw [if_pos hb]; exact hz
      have := shut_ints (enc := enc) (w := W') (base := 0) (spare := sp) (held := true) 0 Try.underlying26 Try.underlying5 hc5 hb hl hm hz' (fun i hi => cell_keep hs (hcell i hi)) hwz
      simpa [Value.cells] using this
    by_cases h0 : cap = 0
    · have : len = 0 := by omega
      subst this; subst h0
      exact ⟨0, fun _ => 0, .inl ⟨rfl, _, rfl⟩, shut⟩
    · obtain ⟨arr, t, fr, h1, _, h3⟩ := row_of_cell (hcell 0 (by omega))
      rw [block_add] at h1
      have hsp : a.spot = none := by
        obtain ⟨_, _, spot⟩ := a
        cases spot with
        | none => rfl
        | some s => simp [Addr.add] at h3
      obtain ⟨B, off, spot⟩ := a
      simp only at hsp h1
      subst hsp
      refine ⟨len, fun j => (zs.getD j 0).toNat, .inr ⟨⟨B, t, off, len, cap, len, fun j => (zs.getD j 0).toNat, arr, fr⟩, ⟨h1, fun j hj => ?_⟩, trivial, rfl, rfl, rfl, rfl⟩, shut⟩
      have hj : j < len := hj
      have hc := hcell j (by omega)
      rw [add_plain, cell_of_row Wd B (off + j) arr t fr h1] at hc
      show arr[off + j]? = _
      rw [hc, u8_of (hwz _ (by
        have : zs.getD j 0 = zs[j]'(by omega) := by simp [List.getD, show j < zs.length by omega]
        rw [this]; exact List.getElem_mem _))]

/-! equal points, equal bytes -/
def eqLP (P Q : LP) : Bool := Nat.beq (P.x % W) (Q.x % W) && (Nat.beq (P.y % W) (Q.y % W) && (decide (P.z = Q.z) && true))
theorem eqLP_self (P : LP) : eqLP P P = true := by unfold eqLP; simp
theorem neP_same {P Q : LP} (h : P = Q) : (!eqLP P Q) = false := by rw [h, eqLP_self]; rfl
theorem ine_same {a b : Int} (h : a = b) : (!ieq a b) = false := by rw [h, ieq_self]; rfl
theorem cu_cases (s : Int) : (s ≠ 1 ∧ s ≠ 2) ∨ ∃ p r c gx gy, CuOk s p r c gx gy := by
  by_cases h1 : s = 1
  · exact .inr ⟨_, _, _, _, _, .inl ⟨h1, rfl, rfl, rfl, rfl, rfl⟩⟩
  · by_cases h2 : s = 2
    · exact .inr ⟨_, _, _, _, _, .inr ⟨h2, rfl, rfl, rfl, rfl, rfl⟩⟩
    · exact .inl ⟨h1, h2⟩
theorem eqStr_of {n : Nat} {f g : Nat → Nat} (h : ∀ j, j < n → f j % 256 = g j % 256) : eqStr n f n g = true := by
  unfold eqStr
  have : Nat.beq n n = true := by simp
  rw [this, cond_true, eqN_iff]
  exact h
theorem beP_congr {f g : Nat → Nat} {a : Nat} : ∀ {k}, (∀ i, i < k → f (a + i) % 256 = g (a + i) % 256) → beP f a k = beP g a k
  | 0, _ => rfl
  | k + 1, h => by
    simp only [beP]
    rw [beP_congr fun i hi => h i (by omega), h k (by omega)]
theorem lentF_lt {n j : Nat} {f : Nat → Nat} (h : j < n) : lentF n f j = f j := by
  have : Nat.blt j n = true := by rw [Nat.blt_eq]; exact h
  unfold lentF; rw [this, cond_true]
theorem rdP_lent {f : Nat → Nat} : rdP (fun j => lentF 17 f (addN 0 j)) = rdP f := by
  unfold rdP
  have e : lentF 17 f (addN 0 0) = f 0 := by rw [addN_eq]; exact lentF_lt (by omega)
  rw [beP_congr (f := fun j => lentF 17 f (addN 0 j)) (g := f) (a := 1) (k := 8) fun i hi => by simp only [addN_eq, Nat.zero_add]; rw [lentF_lt (by omega)], beP_congr (f := fun j => lentF 17 f (addN 0 j)) (g := f) (a := 9) (k := 8) fun i hi => by simp only [addN_eq, Nat.zero_add]; rw [lentF_lt (by omega)]]
  exact congrArg (fun x => (⟨beP f 1 8, beP f 9 8, Nat.beq (x % 256) 1⟩ : LP)) e
theorem rdE_eq {p n : Nat} {I : LP → Bool} {f g : Nat → Nat} (h0 : f 0 % 256 = g 0 % 256) (h1 : rdP f = rdP g) : rdE p I n f = rdE p I n g := by
  unfold rdE
  rw [h0, h1]
theorem rdE_lent {p n : Nat} {I : LP → Bool} {f : Nat → Nat} : rdE p I n (fun j => lentF n f (addN 0 j)) = rdE p I n f := by
  by_cases h : n = 17
  · subst h
    have e : lentF 17 f (addN 0 0) = f 0 := by rw [addN_eq]; exact lentF_lt (by omega)
    refine rdE_eq (f := fun j => lentF 17 f (addN 0 j)) (g := f) ?_ rdP_lent
    show lentF 17 f (addN 0 0) % 256 = f 0 % 256
    rw [e]
  · rw [rdE_n h, rdE_n h]
theorem rdQ_lent {p n : Nat} {I : LP → Bool} {f : Nat → Nat} : rdQ p I n (fun j => lentF n f (addN 0 j)) = rdQ p I n f := by
  unfold rdQ
  rw [rdE_lent]
  cases h : Nat.beq (rdE p I n f) 0
  · rw [cond_false, cond_false]
  · have := rdE_0 (by rw [← Nat.beq_eq]; exact h)
    rw [this.1, rdP_lent]
theorem kept_self {n : Nat} {f : Nat → Nat} : eqStr (n + 3) (fun j => lentF n f (addN 0 j)) (n + 3) (lentF n f) = true := eqStr_of fun j _ => by rw [addN_eq, Nat.zero_add]
theorem limN_le {n : Nat} (h : n ≤ 100) : n + 3 ≤ limN := by unfold limN; omega
end Go.Proofs.Ytafiafkeigdjhaa

/- 'awake' of layer 7: the document's examples of the little curve. -/
namespace Go.Proofs.Ytafiafkeigdjhaa
open Go.Rq Go
set_option linter.unusedVariables false
abbrev gL : LP := ⟨9723, 164643, false⟩
theorem gL_in : inN 786251 65521 gL = true := by kernel_rfl
theorem gL_p0 : pairN 786251 65521 12 gL gL 0 = 414096 := by kernel_rfl
theorem gL_p1 : pairN 786251 65521 12 gL gL 1 = 460347 := by kernel_rfl
def cAw : List AV → Option (List Prop × AV)
  | [] => some ([], .v1 (.sc (.bo true)))
  | _ => none
def GAw : Ctx := ctxL [(29, .pure (kGen 1 786251 65521 12 9723 164643)), (19, .pure (kPair 1 786251 65521 12 9723 164643))]
theorem cu1 : CuOk 1 786251 65521 12 9723 164643 := .inl ⟨rfl, rfl, rfl, rfl, rfl, rfl⟩
theorem GAw_ok : CtxOk Try.prog GAw := ctxL_cons (okEGen cu1) <| ctxL_cons (okEPair cu1) ctxL_nil
theorem okAw : (CallC.pure cAw).Ok Try.prog 41 := by
  intro args pre v e hp
  unfold cAw at e
  split at e
  rotate_left
  · cases e
  cases e
  refine pure_walk' tt_ok Try.func41 (by kernel_rfl) (by kernel_rfl) (by rfl) (by rfl) (evS_q mixed tt_ok GAw_ok 60 [⟨3,10,.lit (.bo true)⟩] ?_)
  refine same (p := (1 : Int) = 1 ∧ (1 : Int) = 1 ∧ inN 786251 65521 gL = true ∧ inN 786251 65521 gL = true ∧ (Nat.beq (pairN 786251 65521 12 gL gL 0 % W) (414096 % W) && (Nat.beq (pairN 786251 65521 12 gL gL 1 % W) (460347 % W) && true)) = true ∧ endV (.v1 (.sc (.bo true))) (.v1 (.sc (.bo true)))) ?_ (by kernel_rfl)
  refine ⟨rfl, rfl, gL_in, gL_in, ?_, endV_eq rfl⟩
  rw [gL_p0, gL_p1]; rfl
end Go.Proofs.Ytafiafkeigdjhaa

/- The curve y y = x x x + x over a prime p with p % 4 = 3 has p + 1 points: so p + 1 times each is the zero. -/
namespace Go.Rq
open Go

set_option linter.unusedVariables false
namespace LO
def ngM (N a : Nat) : Nat := (N - a % N) % N
theorem pr_mul {N a b : Nat} (hp : Pr N) (h : N ∣ a * b) : N ∣ a ∨ N ∣ b := by
  by_cases ha : N ∣ a
  · exact .inl ha
  · exact .inr ((hp.cop' ha).dvd_of_dvd_mul_left h)
def hV (N a : Nat) : Nat := a ^ ((N - 1) / 2) % N
theorem hV_two {N a : Nat} (hp : Pr N) (h2 : N % 2 = 1) (ha : a % N ≠ 0) : hV N a = 1 ∨ hV N a = N - 1 := by
  have h1 := hp.1
  have hs : hV N a * hV N a % N = 1 := by
    unfold hV
    rw [← Nat.mul_mod, ← Nat.pow_add, show (N - 1) / 2 + (N - 1) / 2 = N - 1 by omega]
    exact fermat_nat hp ha
  have hlt : hV N a < N := Nat.mod_lt _ (by omega)
  generalize hV N a = h at *
  have h0 : h ≠ 0 := fun e => by rw [e, Nat.zero_mul, Nat.zero_mod] at hs; omega
  have hd : N ∣ (h - 1) * (h + 1) := by
    obtain ⟨k, rfl⟩ : ∃ k, h = k + 1 := ⟨h - 1, by omega⟩
    have e : (k + 1) * (k + 1) = k * (k + 2) + 1 := by grind
    rw [e] at hs
    rw [Nat.add_sub_cancel]
    show N ∣ k * (k + 2)
    have := Nat.div_add_mod (k * (k + 2) + 1) N
    rw [hs] at this
    exact ⟨(k * (k + 2) + 1) / N, by omega⟩
  rcases pr_mul hp hd with h3 | h3
  · refine .inl ?_
    have := Nat.eq_zero_of_dvd_of_lt h3 (by omega)
    omega
  · have := Nat.le_of_dvd (by omega) h3
    exact .inr (by omega)
theorem odd_pow {N x y : Nat} (h : N ∣ x + y) : ∀ k : Nat, N ∣ x ^ (2 * k + 1) + y ^ (2 * k + 1)
  | 0 => by rw [Nat.mul_zero, Nat.zero_add, Nat.pow_one, Nat.pow_one]; exact h
  | k + 1 => by
    have ih := odd_pow h k
    obtain ⟨c, hc⟩ := ih
    obtain ⟨d, hd⟩ := h
    have e : ∀ z : Nat, z ^ (2 * (k + 1) + 1) = z * z * z ^ (2 * k + 1) := fun z => by
      rw [show 2 * (k + 1) + 1 = (2 * k + 1) + 2 by omega, Nat.pow_add, Nat.mul_comm, Nat.pow_two]
    rw [e, e]
    generalize x ^ (2 * k + 1) = X at *
    generalize y ^ (2 * k + 1) = Y at *
    have hI : (N : Int) ∣ ((x * x * X + y * y * Y : Nat) : Int) := by
      refine ⟨(x : Int) * x * c + (Y : Int) * (y - x) * d, ?_⟩
      have h1 : (X : Int) + Y = N * c := by exact_mod_cast hc
      have h2 : (x : Int) + y = N * d := by exact_mod_cast hd
      simp only [Int.natCast_add, Int.natCast_mul]
      grind
    exact Int.natCast_dvd_natCast.1 hI
theorem neg_sum {N a : Nat} (h : 0 < N) : N ∣ a + ngM N a := by
  have h1 := Nat.mod_lt a h
  have h2 := Nat.div_add_mod a N
  refine Nat.dvd_of_mod_eq_zero ?_
  unfold ngM
  by_cases h0 : a % N = 0
  · rw [h0, Nat.sub_zero, Nat.mod_self, Nat.add_zero]; exact h0
  · rw [Nat.mod_eq_of_lt (show N - a % N < N by omega), show a + (N - a % N) = N + N * (a / N) by omega, Nat.add_mul_mod_self_left, Nat.mod_self]
theorem neg_ne {N a : Nat} (h : 0 < N) (ha : a % N ≠ 0) : ngM N a % N ≠ 0 := fun e => by
  have h1 := Nat.mod_lt a h
  unfold ngM at e
  rw [Nat.mod_eq_of_lt (show N - a % N < N by omega), Nat.mod_eq_of_lt (show N - a % N < N by omega)] at e
  omega
theorem hV_neg {N a : Nat} (hp : Pr N) (h4 : N % 4 = 3) (ha : a % N ≠ 0) : (hV N a = 1 ↔ hV N (ngM N a) ≠ 1) := by
  have h1 := hp.1
  have hN : 0 < N := by omega
  have hd := odd_pow (neg_sum (a := a) hN) ((N - 3) / 4)
  have e : 2 * ((N - 3) / 4) + 1 = (N - 1) / 2 := by omega
  rw [e] at hd
  have hs : (hV N a + hV N (ngM N a)) % N = 0 := by
    unfold hV
    rw [← Nat.add_mod]
    exact Nat.mod_eq_zero_of_dvd hd
  rcases hV_two hp (by omega) ha with g1 | g1 <;> rcases hV_two hp (by omega) (neg_ne hN ha) with g2 | g2
  · rw [g1, g2, Nat.mod_eq_of_lt (by omega)] at hs; omega
  · rw [g1, g2]; constructor
    · intro _; omega
    · intro _; rfl
  · rw [g1, g2]; constructor
    · intro _; omega
    · intro h; exact absurd rfl h
  · rw [g1, g2, show N - 1 + (N - 1) = N + (N - 2) by omega, Nat.add_mod_left, Nat.mod_eq_of_lt (by omega)] at hs; omega
theorem sq_half {N a : Nat} (h4 : N % 4 = 3) : a ^ ((N + 1) / 4) % N * (a ^ ((N + 1) / 4) % N) % N = hV N a * a % N := by
  unfold hV
  rw [← Nat.mul_mod, ← Nat.pow_add, show (N + 1) / 4 + (N + 1) / 4 = (N - 1) / 2 + 1 by omega, Nat.pow_succ, Nat.mod_mul_mod]
theorem sq_ok {N a : Nat} (hp : Pr N) (h4 : N % 4 = 3) (ha : a % N ≠ 0) : (a ^ ((N + 1) / 4) % N * (a ^ ((N + 1) / 4) % N) % N = a % N ↔ hV N a = 1) := by
  have h1 := hp.1
  rw [sq_half h4]
  constructor
  · intro h
    rcases hV_two hp (by omega) ha with g | g
    · exact g
    · rw [g] at h
      have hm := Nat.sub_mod_eq_zero_of_mod_eq h
      have e : (N - 1) * a - a = (N - 2) * a := by
        rw [show N - 1 = N - 2 + 1 by omega, Nat.add_mul, Nat.one_mul, Nat.add_sub_cancel]
      rw [e] at hm
      rcases pr_mul hp (Nat.dvd_of_mod_eq_zero hm) with h3 | h3
      · have := Nat.eq_zero_of_dvd_of_lt h3 (by omega)
        omega
      · exact absurd (Nat.mod_eq_zero_of_dvd h3) ha
  · intro h
    rw [h, Nat.one_mul]
end LO
open LO
/-! lists without a repetition -/
theorem perm_of {α : Type} [DecidableEq α] : ∀ {A B : List α}, A.Nodup → (∀ a ∈ A, a ∈ B) → A.length = B.length → A.Perm B
  | [], B, _, _, hl => by
    have : B = [] := List.eq_nil_of_length_eq_zero hl.symm
    subst this; exact List.Perm.refl _
  | a :: A, B, hn, hs, hl => by
    have ha : a ∈ B := hs a (List.mem_cons_self ..)
    obtain ⟨h1, h2⟩ := List.nodup_cons.1 hn
    have hlB : (B.erase a).length = A.length := by
      rw [List.length_erase_of_mem ha]; simp only [List.length_cons] at hl; omega
    have ih : A.Perm (B.erase a) := perm_of h2 (fun b hb => (List.mem_erase_of_ne (fun (e : b = a) => h1 (by rw [← e]; exact hb))).2 (hs b (List.mem_cons_of_mem _ hb))) hlB.symm
    exact (ih.cons a).trans (List.perm_cons_erase ha).symm

namespace EC
variable {F : Type} [i : CR F] (C : EC F) [DecidableEq F]
/-- The sum of points. -/
def sumL : List (Option (F × F)) → Option (F × F)
  | [] => none
  | p :: r => C.add p (sumL r)
theorem on_sumL : ∀ {l : List (Option (F × F))}, (∀ p ∈ l, C.on p) → C.on (C.sumL l)
  | [], _ => trivial
  | p :: r, h => C.on_add (h p (List.mem_cons_self ..)) (on_sumL fun q hq => h q (List.mem_cons_of_mem _ hq))
theorem sumL_perm {l m : List (Option (F × F))} (hp : l.Perm m) (h : ∀ p ∈ l, C.on p) : C.sumL l = C.sumL m := by
  induction hp with
  | nil => rfl
  | cons a _ ih => simp only [sumL]; rw [ih fun q hq => h q (List.mem_cons_of_mem _ hq)]
  | swap a b r =>
    have ha : C.on a := h a (by simp)
    have hb : C.on b := h b (by simp)
    have hr : C.on (C.sumL r) := C.on_sumL fun q hq => h q (by simp [hq])
    simp only [sumL]
    rw [← C.assoc hb ha hr, C.add_comm hb ha, C.assoc ha hb hr]
  | trans h1 _ ih1 ih2 => rw [ih1 h, ih2 fun q hq => h q (h1.mem_iff.2 hq)]
theorem sumL_add {p : Option (F × F)} (hp : C.on p) : ∀ {l : List (Option (F × F))}, (∀ q ∈ l, C.on q) → C.sumL (l.map (C.add p)) = C.add (C.mul l.length p) (C.sumL l)
  | [], _ => by
    show none = C.add none none
    rfl
  | q :: r, h => by
    have hq : C.on q := h q (List.mem_cons_self ..)
    have hr : C.on (C.sumL r) := C.on_sumL fun s hs => h s (List.mem_cons_of_mem _ hs)
    have hm := C.on_mul hp r.length
    simp only [List.map_cons, sumL, List.length_cons]
    rw [sumL_add hp fun s hs => h s (List.mem_cons_of_mem _ hs)]
    rw [C.mul_add hp r.length 1, C.mul_one]
    rw [← C.assoc (C.on_add hp hq) hm hr, C.assoc hp hq hm, C.add_comm hq hm, ← C.assoc hp hm hq, C.add_comm hp hm, C.assoc (C.on_add hm hp) hq hr]
/-- A list of all points, none twice: as many times each is the zero. -/
theorem mul_all {l : List (Option (F × F))} (hn : l.Nodup) (hon : ∀ q ∈ l, C.on q) (hall : ∀ q, C.on q → q ∈ l) {p : Option (F × F)} (hp : C.on p) : C.mul l.length p = none := by
  have hn2 : (l.map (C.add p)).Nodup := by
    have key : ∀ m : List (Option (F × F)), (∀ q ∈ m, C.on q) → m.Nodup → (m.map (C.add p)).Nodup := by
      intro m
      induction m with
      | nil => intro _ _; exact List.nodup_nil
      | cons q r ih =>
        intro h1 h2
        obtain ⟨h3, h4⟩ := List.nodup_cons.1 h2
        refine List.nodup_cons.2 ⟨fun hm => ?_, ih (fun s hs => h1 s (List.mem_cons_of_mem _ hs)) h4⟩
        obtain ⟨s, hs, e⟩ := List.mem_map.1 hm
        have e1 := C.back hp (h1 s (List.mem_cons_of_mem _ hs))
        have e2 := C.back hp (h1 q (List.mem_cons_self ..))
        rw [e, e2] at e1
        exact h3 (e1 ▸ hs)
    exact key l hon hn
  have hpm : (l.map (C.add p)).Perm l := perm_of hn2 (fun q hq => by
    obtain ⟨s, hs, rfl⟩ := List.mem_map.1 hq
    exact hall _ (C.on_add hp (hon s hs))) (by simp)
  have e := C.sumL_perm hpm (fun q hq => by
    obtain ⟨s, hs, rfl⟩ := List.mem_map.1 hq
    exact C.on_add hp (hon s hs))
  rw [C.sumL_add hp hon] at e
  have hS := C.on_sumL hon
  have hX := C.on_mul hp l.length
  have b1 := C.back hS hX
  rw [C.add_comm hS hX, e] at b1
  have b2 := C.back (q := none) hS trivial
  rw [C.add_zero] at b2
  rw [← b1, b2]
end EC

section
variable {p : Nat} [NeZero p]
def gX (x : Fin p) : Fin p := x * x * x + x
def rX (x : Fin p) : Fin p := Fin.ofNat p ((gX x).val ^ ((p + 1) / 4))
theorem Gp.four (h : Gp p) : p % 4 = 3 := by
  rcases h with rfl | rfl <;> decide
theorem gX_neg (h : Gp p) (x : Fin p) : gX (0 - x) = 0 - gX x := by unfold gX; grind
theorem rX_sq (x : Fin p) : (rX x * rX x).val = (gX x).val ^ ((p + 1) / 4) % p * ((gX x).val ^ ((p + 1) / 4) % p) % p := rfl
theorem rX_ok (h : Gp p) {x : Fin p} (hx : gX x ≠ 0) : rX x * rX x = gX x ↔ hV p (gX x).val = 1 := by
  have hl := (gX x).isLt
  have hn : (gX x).val % p ≠ 0 := fun e => hx (Fin.ext (by rw [Nat.mod_eq_of_lt hl] at e; rw [e, fZero]))
  have := sq_ok h.pr h.four hn
  rw [Fin.ext_iff, rX_sq, ← this, Nat.mod_eq_of_lt hl]
theorem rX_zero (h : Gp p) {x : Fin p} (hx : gX x = 0) : rX x = 0 := by
  have hb := h.big
  unfold rX
  rw [hx, fZero, Nat.zero_pow (by omega)]
  rfl
theorem ok_neg (h : Gp p) {x : Fin p} (hx : gX x ≠ 0) : rX x * rX x = gX x ↔ ¬ rX (0 - x) * rX (0 - x) = gX (0 - x) := by
  have hl := (gX x).isLt
  have hn : (gX x).val % p ≠ 0 := fun e => hx (Fin.ext (by rw [Nat.mod_eq_of_lt hl] at e; rw [e, fZero]))
  have hx' : gX (0 - x) ≠ 0 := fun e => hx (by rw [gX_neg h] at e; grind)
  rw [rX_ok h hx, rX_ok h hx', hV_neg h.pr h.four hn]
  have e : (gX (0 - x)).val = ngM p (gX x).val := by
    rw [gX_neg h, fv_sub, fZero]
    unfold zSub ngM
    rw [Nat.mod_eq_of_lt hl, Nat.zero_add]
  rw [e]
theorem sq_hV (h : Gp p) {x y : Fin p} (hx : gX x ≠ 0) (e : y * y = gX x) : rX x * rX x = gX x := by
  rw [rX_ok h hx]
  have hy : y.val % p ≠ 0 := fun e2 => hx (by
    have : y = 0 := Fin.ext (by rw [Nat.mod_eq_of_lt y.isLt] at e2; rw [e2, fZero])
    rw [← e, this]; grind)
  have e3 : (gX x).val = y.val * y.val % p := by rw [← e]; rfl
  have h4 := h.four
  unfold hV
  rw [e3, ← Nat.pow_mod, ← Nat.pow_two, ← Nat.pow_mul, show 2 * ((p - 1) / 2) = p - 1 by omega]
  exact fermat_nat h.pr hy
/-- A point for each number. -/
def phi (x : Fin p) : Fin p × Fin p := if rX x * rX x = gX x then (x, rX x) else (0 - x, 0 - rX (0 - x))
theorem phi_on (h : Gp p) (x : Fin p) : (ecZ h).on (some (phi x)) := by
  show (phi x).2 * (phi x).2 = (phi x).1 * (phi x).1 * (phi x).1 + 1 * (phi x).1 + 0
  unfold phi
  by_cases ho : rX x * rX x = gX x
  · rw [if_pos ho]
    simp only
    rw [ho]; unfold gX; grind
  · rw [if_neg ho]
    have hx : gX x ≠ 0 := fun e => ho (by rw [rX_zero h e, e]; grind)
    have : rX (0 - x) * rX (0 - x) = gX (0 - x) := by
      by_cases h2 : rX (0 - x) * rX (0 - x) = gX (0 - x)
      · exact h2
      · exact absurd ((ok_neg h hx).2 h2) ho
    simp only
    have e : (0 - rX (0 - x)) * (0 - rX (0 - x)) = gX (0 - x) := by rw [← this]; grind
    rw [e]; unfold gX; grind
theorem phi_inj (h : Gp p) {x y : Fin p} (e : phi x = phi y) : x = y := by
  have mix : ∀ {x y : Fin p}, rX x * rX x = gX x → ¬ rX y * rX y = gX y → phi x = phi y → False := by
    intro x y hx hy e
    unfold phi at e
    rw [if_pos hx, if_neg hy] at e
    have e1 : x = 0 - y := congrArg Prod.fst e
    have e2 : rX x = 0 - rX (0 - y) := congrArg Prod.snd e
    rw [← e1] at e2
    have e3 : (1 + 1) * rX x = 0 := by grind
    rcases fDom h e3 with e4 | e4
    · exact fTwo h e4
    · have g0 : gX x = 0 := by rw [← hx, e4]; grind
      have g1 : gX y = 0 := by
        have := gX_neg h y
        rw [← e1, g0] at this
        grind
      exact hy (by rw [rX_zero h g1, g1]; grind)
  by_cases hx : rX x * rX x = gX x
  · by_cases hy : rX y * rX y = gX y
    · unfold phi at e
      rw [if_pos hx, if_pos hy] at e
      exact congrArg Prod.fst e
    · exact (mix hx hy e).elim
  · by_cases hy : rX y * rX y = gX y
    · exact (mix hy hx e.symm).elim
    · unfold phi at e
      rw [if_neg hx, if_neg hy] at e
      have e1 : 0 - x = 0 - y := congrArg Prod.fst e
      grind
theorem phi_all (h : Gp p) {x y : Fin p} (ho : (ecZ h).on (some (x, y))) : ∃ t, phi t = (x, y) := by
  have e : y * y = gX x := by
    have : y * y = x * x * x + 1 * x + 0 := ho
    rw [this]; unfold gX; grind
  by_cases h0 : gX x = 0
  · have hy : y = 0 := by
      rw [h0] at e
      rcases fDom h e with e | e <;> exact e
    refine ⟨x, ?_⟩
    unfold phi
    rw [if_pos (by rw [rX_zero h h0, h0]; grind), rX_zero h h0, hy]
  · have hx := sq_hV h h0 e
    have e2 : (y - rX x) * (y + rX x) = 0 := by
      have : (y - rX x) * (y + rX x) = y * y - rX x * rX x := by grind
      rw [this, e, hx]; grind
    rcases fDom h e2 with e3 | e3
    · refine ⟨x, ?_⟩
      unfold phi
      rw [if_pos hx]
      have : y = rX x := by grind
      rw [this]
    · refine ⟨0 - x, ?_⟩
      have e4 : 0 - (0 - x) = x := by grind
      unfold phi
      rw [if_neg ((ok_neg h h0).1 hx), e4]
      have : y = 0 - rX x := by grind
      rw [this]
/-- All points. -/
def allP (p : Nat) [NeZero p] : List (Option (Fin p × Fin p)) := none :: (List.range p).map fun n => some (phi (Fin.ofNat p n))
theorem len_allP : (allP p).length = p + 1 := by simp [allP]
theorem nodup_allP (h : Gp p) : (allP p).Nodup := by
  have key : ∀ l : List Nat, (∀ n ∈ l, n < p) → l.Nodup → (l.map fun n => some (phi (Fin.ofNat p n))).Nodup := by
    intro l
    induction l with
    | nil => intro _ _; exact List.nodup_nil
    | cons a r ih =>
      intro h1 h2
      obtain ⟨h3, h4⟩ := List.nodup_cons.1 h2
      refine List.nodup_cons.2 ⟨fun hm => ?_, ih (fun s hs => h1 s (List.mem_cons_of_mem _ hs)) h4⟩
      obtain ⟨s, hs, e⟩ := List.mem_map.1 hm
      have e1 := phi_inj h (Option.some.inj e)
      have e2 := congrArg Fin.val e1
      have ha := h1 a (List.mem_cons_self ..)
      have hb := h1 s (List.mem_cons_of_mem _ hs)
      have e3 : s % p = a % p := e2
      rw [Nat.mod_eq_of_lt ha, Nat.mod_eq_of_lt hb] at e3
      exact h3 (e3 ▸ hs)
  refine List.nodup_cons.2 ⟨fun hm => ?_, key _ (fun n hn => List.mem_range.1 hn) List.nodup_range⟩
  obtain ⟨s, _, e⟩ := List.mem_map.1 hm
  cases e
/-- p + 1 times a point is the zero. -/
theorem mul_order (h : Gp p) {e : Option (Fin p × Fin p)} (he : (ecZ h).on e) : (ecZ h).mul (p + 1) e = none := by
  rw [← len_allP (p := p)]
  refine (ecZ h).mul_all (nodup_allP h) (fun q hq => ?_) (fun q hq => ?_) he
  · rcases List.mem_cons.1 hq with rfl | hq
    · trivial
    · obtain ⟨n, _, rfl⟩ := List.mem_map.1 hq
      exact phi_on h _
  · cases q with
    | none => exact List.mem_cons_self ..
    | some q =>
      obtain ⟨x, y⟩ := q
      obtain ⟨t, ht⟩ := phi_all h hq
      refine List.mem_cons_of_mem _ (List.mem_map.2 ⟨t.val, List.mem_range.2 t.isLt, ?_⟩)
      rw [ofNat_val, ht]
end
theorem mulP_order {p : Nat} (h : Gp p) {P : LP} (hP : OnP p P) : mulP p P (p + 1) = zeroL := by
  haveI := h.nz
  rw [mulP_eq h hP, mul_order h (on_toE h hP)]
  rfl
end Go.Rq

/- What is cleared is of the group; what is told is read again. -/
namespace Go.Proofs.Ytafiafkeigdjhaa
open Go.Rq Go
set_option linter.unusedVariables false
theorem CuOk.order {s : Int} {p r c gx gy : Nat} (h : CuOk s p r c gx gy) : c % W * (r % W) = p + 1 := by
  rcases h with ⟨_, rfl, rfl, rfl, _⟩ | ⟨_, rfl, rfl, rfl, _⟩ <;> decide
theorem clear_in {s : Int} {p r c gx gy : Nat} (hC : CuOk s p r c gx gy) {P : LP} (hP : OnP p P) : inN p r (mulP p P (c % W)) = true := by
  have h1 := on_mulP hC.gp hP (c % W)
  unfold inN
  rw [Bool.and_eq_true]
  refine ⟨h1, ?_⟩
  rw [mulP_mul hC.gp hP, hC.order, mulP_order hC.gp hP]
  rfl
theorem on_00 {p : Nat} (h : Gp p) : OnP p ⟨0, 0, false⟩ := by
  rcases h with rfl | rfl <;> rfl
theorem rdQ_on {p n : Nat} (h : Gp p) {I : LP → Bool} {f : Nat → Nat} : OnP p (rdQ p I n f) := by
  unfold rdQ
  cases h0 : Nat.beq (rdE p I n f) 0
  · exact on_00 h
  · exact (rdE_0 (by rw [← Nat.beq_eq]; exact h0)).2.2.1
theorem rdQ_0 {p n : Nat} {I : LP → Bool} {f : Nat → Nat} (h : rdE p I n f = 0) : rdQ p I n f = rdP f := by
  unfold rdQ; rw [h]; rfl
theorem byP_fun {P : LP} : (fun j => byP P (addN 0 j)) = byP P := by
  funext j; rw [addN_eq, Nat.zero_add]
theorem back_E {p r : Nat} {P : LP} (hw : LwP p P) (hi : inN p r P = true) : rdE p (inN p r) 17 (fun j => byP P (addN 0 j)) = 0 := by
  rw [byP_fun]
  have e := rdP_byP (P := P) hw.1 hw.2
  have hb : Nat.blt 1 (byP P 0 % 256) = false := by
    rw [byP_0]; cases P.z <;> rfl
  exact rdE_k hb (by rw [e]; exact in_on hi) (by rw [e]; exact hi)
theorem back_Q {p r : Nat} {P : LP} (hw : LwP p P) (hi : inN p r P = true) : rdQ p (inN p r) 17 (fun j => byP P (addN 0 j)) = P := by
  rw [rdQ_0 (back_E hw hi), byP_fun]
  exact rdP_byP hw.1 hw.2
theorem ine0_f {e : Nat} (h : e = 0) : (!ieq (Int.ofNat e) 0) = false := by subst h; rfl
theorem ine0_t {e : Nat} (h : e ≠ 0) : (!ieq (Int.ofNat e) 0) = true := by
  have : ieq (Int.ofNat e) 0 = false := by
    rw [← Bool.not_eq_true, ieq_iff]; simp only [Int.ofNat_eq_natCast]; omega
  rw [this]; rfl
theorem told_again {p n : Nat} {I : LP → Bool} {f : Nat → Nat} (h : rdE p I n f = 0) : eqStr 17 (fun j => byP (rdQ p I n f) (addN 0 j)) n f = true := by
  have h1 := rdE_0 h
  rw [byP_fun, rdQ_0 h]
  obtain ⟨rfl, h2, _, _⟩ := h1
  exact eqStr_of fun j hj => byP_rdP h2 hj
end Go.Proofs.Ytafiafkeigdjhaa
