/- Slices of bytes: as equal, lent, kept. -/
import Derived.Test.YtndmoidenbfflaaW5
import Derived.Test.YtndmoidenbfflaaWM8
import Derived.Test.YtndmoidenbfflaaFwP
import Derived.Test.YtndmoidenbfflaaFwQ
import Derived.Test.YtndmoidenbfflaaFwS
import Derived.Test.YtndmoidenbfflaaFwU
namespace Go.Proofs.Ytndmoidenbfflaa
open Go.Rq Go
set_option linter.unusedVariables false
set_option linter.unusedSimpArgs false
/-- The end of a walk over windows: what the blocks mc are, and the result. -/
abbrev endM (mc : List Nat) (K' K : Heap) (v vK : AV) : Prop := true = true ∧ true = true ∧ SimH K' K ∧ ∃ v', some v = some v' ∧ avB K' (bkAV mc v') = true ∧ ∀ ρ, (bkAV mc v').val ρ = vK.val ρ
theorem endM_ok {mc : List Nat} {K' K : Heap} {v vK : AV} (hs : SimH K' K) (hb : avB K' (bkAV mc v) = true) (he : ∀ ρ, (bkAV mc v).val ρ = vK.val ρ) : endM mc K' K v vK := ⟨rfl, rfl, hs, v, rfl, hb, he⟩
theorem simB_refl (b : Option Blk) : SimB b b := by
  cases b with
  | none => trivial
  | some b => exact ⟨rfl, rfl, rfl, fun _ => rfl⟩
theorem simH_refl : ∀ h : Heap, SimH h h
  | [] => trivial
  | b :: r => ⟨simB_refl b, simH_refl r⟩
theorem endM_same {mc : List Nat} {K : Heap} {v : AV} (hv : vokB v = true) {vK : AV} (he : v = vK) : endM mc K K v vK :=
  endM_ok (simH_refl K) (by rw [bkAV_plain hv]; exact avB_plain hv) (fun ρ => by rw [bkAV_plain hv, he])

/-! SameBytes -/
def cSame (args : List AV) (h : Heap) : Option (List Prop × AV) :=
  match args with
  | [x, y] => match vw h x, vw h y with
    | some (n, f, p1), some (m, g, p2) => some (p1 ++ p2, .v1 (.sc (.bo (eqStr n f m g))))
    | _, _ => none
  | _ => none
theorem eqStr_nil {f g f' g' : Nat → Nat} {m : Nat} : eqStr 0 f m g = eqStr 0 f' m g' := by
  unfold eqStr
  cases m with
  | zero => rfl
  | succ m => rfl
theorem eqStr_nil' {f g f' g' : Nat → Nat} {n : Nat} : eqStr n f 0 g = eqStr n f' 0 g' := by
  unfold eqStr
  cases n with
  | zero => rfl
  | succ m => rfl
theorem win_id {o j : Nat} : o - o + j = j := by omega
theorem win_fun {o : Nat} {f : Nat → Nat} : (fun j => f (o - o + j)) = f := by funext j; rw [win_id]
theorem win_le {o n : Nat} : o - o + n ≤ n := by omega
theorem okSame : (CallC.rd cSame).Ok Try.prog 15 := by
  refine ⟨fun args h pre v e hp => ?_, fun args h slot blk hs ha => ?_⟩
  · unfold cSame at e
    split at e
    · rename_i x y
      split at e
      · rename_i n f p1 m g p2 h1 h2
        cases e
        refine views_call tt_ok Try.func15 (by kernel_rfl) (by kernel_rfl) [.vs n f, .vs m g] (args := [x, y])
          ⟨⟨p1, h1, fun p hq => hp p (List.mem_append_left _ hq)⟩, ⟨p2, h2, fun p hq => hp p (List.mem_append_right _ hq)⟩, trivial⟩ 0 [] (.v1 (.sc (.bo (eqStr n f m g)))) rfl rfl rfl (fun t ht => by simp at ht) fun a W hi => ⟨[], rfl, ?_⟩
        rcases hi with _ | _ | ⟨w1, hn, hi⟩ | ⟨t1, o1, c1, v1, kc1, hi⟩ | _
        · rcases hi with _ | _ | ⟨w2, hm, hi⟩ | ⟨t2, o2, c2, v2, kc2, hi⟩ | _
          · cases hi
            subst hn; subst hm
            refine evS_q mixed tt_ok (G := ctxL []) ctxL_nil 40 [] (same (p := endM [] [] [] (.v1 (.sc (.bo (eqStr 0 (fun _ => 0) 0 (fun _ => 0))))) (.v1 (.sc (.bo (eqStr 0 f 0 g))))) ?_ (by kernel_rfl))
            exact endM_same rfl (by rw [eqStr_nil])
          · cases hi
            subst hn
            refine evS_q mixed tt_ok (G := ctxL []) ctxL_nil 40 [⟨1,3,.sym⟩] (same (p := o2 ≤ o2 ∧ o2 - o2 + m ≤ m ∧ m = m ∧ endM [0] [wB t2 o2 m g v2] [wB t2 o2 m g v2] (.v1 (.sc (.bo (eqStr 0 (fun _ => 0) m (fun j => g (o2 - o2 + j)))))) (.v1 (.sc (.bo (eqStr 0 f m g))))) ?_ (by kernel_rfl))
            exact ⟨Nat.le_refl _, win_le, rfl, endM_same rfl (by rw [eqStr_nil])⟩
        · rcases hi with _ | _ | ⟨w2, hm, hi⟩ | ⟨t2, o2, c2, v2, kc2, hi⟩ | _
          · cases hi
            subst hm
            refine evS_q mixed tt_ok (G := ctxL []) ctxL_nil 40 [⟨1,1,.sym⟩] (same (p := o1 ≤ o1 ∧ o1 - o1 + n ≤ n ∧ n = n ∧ endM [0] [wB t1 o1 n f v1] [wB t1 o1 n f v1] (.v1 (.sc (.bo (eqStr n (fun j => f (o1 - o1 + j)) 0 (fun _ => 0))))) (.v1 (.sc (.bo (eqStr n f 0 g))))) ?_ (by kernel_rfl))
            exact ⟨Nat.le_refl _, win_le, rfl, endM_same rfl (by rw [eqStr_nil'])⟩
          · cases hi
            refine evS_q mixed tt_ok (G := ctxL []) ctxL_nil 40 [⟨1,1,.sym⟩,⟨1,3,.sym⟩] (same (p := o1 ≤ o1 ∧ o1 - o1 + n ≤ n ∧ n = n ∧ o2 ≤ o2 ∧ o2 - o2 + m ≤ m ∧ m = m ∧ endM [0,1] [wB t1 o1 n f v1, wB t2 o2 m g v2] [wB t1 o1 n f v1, wB t2 o2 m g v2] (.v1 (.sc (.bo (eqStr n (fun j => f (o1 - o1 + j)) m (fun j => g (o2 - o2 + j)))))) (.v1 (.sc (.bo (eqStr n f m g))))) ?_ (by kernel_rfl))
            exact ⟨Nat.le_refl _, win_le, rfl, Nat.le_refl _, win_le, rfl, endM_same rfl (by rw [win_fun, win_fun])⟩
      · cases e
    · cases e
  · unfold cSame
    split
    · rename_i x y
      rw [vw_local hs (ha x (by simp)), vw_local hs (ha y (by simp))]
    · rfl

/-! LentBytes -/
def lentF (n : Nat) (f : Nat → Nat) : Nat → Nat := fun j => bif Nat.blt j n then f j else 160 + j % 90
def cLent (args : List AV) (h : Heap) (slot : Nat) : Option (List Prop × AV × Heap) :=
  match args with
  | [x] => match vw h x with
    | some (n, f, pre) => match isHole h slot with
      | true => some (pre ++ [n + 3 ≤ limN], .v1 (.sc (.sl slot 0 n (n + 3))), hset h slot ⟨5, [.ws .u8 (n + 3) (lentF n f)], 0, 0⟩)
      | false => none
    | none => none
  | _ => none
def InvLe (n : Nat) (f : Nat → Nat) (x : Nat × (Nat → Nat)) : Prop := x.1 ≤ 3 ∧ ∀ j, j < n + x.1 → x.2 j % 256 = lentF n f j % 256
theorem ws8_val {n : Nat} {f g : Nat → Nat} (h : ∀ j, j < n → f j % 256 = g j % 256) (ρ : Ren) : cvals ρ [.ws .u8 n f] = cvals ρ [.ws .u8 n g] := by
  simp only [cvals, Cell.vals, M, List.append_nil]
  exact List.map_congr_left fun j hj => by rw [h j (List.mem_range.1 hj)]
theorem tmodL (n m : Nat) (hm : 0 < m) : (Int.ofNat n).tmod (Int.ofNat m) = Int.ofNat (n % m) := rfl
theorem toU8_small {n : Nat} (h : n < 256) : toU .u8 (Int.ofNat n) % 256 = n := by
  show (Int.ofNat n % 256).toNat % 256 = n
  simp only [Int.ofNat_eq_natCast]; omega
theorem wrapI_nn {n : Nat} (h : n < 9223372036854775808) : wrapI (Int.ofNat n) = Int.ofNat n := by
  refine wrapI_same ?_ ?_ <;> simp only [Int.ofNat_eq_natCast] <;> omega
abbrev lB (n : Nat) (g : Nat → Nat) : Option Blk := some ⟨5, [.ws .u8 (n + 3) g], 0, 0⟩
theorem lent_step {n k : Nat} {f g : Nat → Nat} (hk : k < 3) (hg : ∀ j, j < n + k → g j % 256 = lentF n f j % 256) : ∀ j, j < n + (k + 1) → upd g (n + k) (toU .u8 (Int.ofNat (160 + (n + k) % 90))) j % 256 = lentF n f j % 256 := by
  intro j hj
  by_cases h : j = n + k
  · subst h
    have h1 : Nat.beq (n + k) (n + k) = true := by simp
    have h2 : Nat.blt (n + k) n = false := by rw [← Bool.not_eq_true, Nat.blt_eq]; omega
    unfold upd lentF
    rw [h1, h2]
    simp only [cond_true, cond_false]
    show (160 + (n + k) % 90) % 256 % 256 = _
    omega
  · have h1 : Nat.beq j (n + k) = false := by rw [← Bool.not_eq_true, Nat.beq_eq]; exact h
    unfold upd
    rw [h1, cond_false]
    exact hg j (by omega)
theorem lent_0 {n : Nat} {f : Nat → Nat} : ∀ j, j < n + 0 → putF 0 n (fun _ => 0) f j % 256 = lentF n f j % 256 := by
  intro j hj
  have h1 : Nat.ble 0 j = true := by simp
  have h2 : Nat.blt j (0 + n) = true := by rw [Nat.blt_eq]; omega
  have h3 : Nat.blt j n = true := by rw [Nat.blt_eq]; omega
  unfold putF lentF
  rw [h1, h2, h3]; rfl
theorem le_limN {n : Nat} (h : n + 3 ≤ limN) : n + 3 ≤ 17179869184 := h
theorem okLent : (CallC.mem cLent).Ok Try.prog 8 := by
  intro args h slot pre v h' e hp
  unfold cLent at e
  split at e
  · rename_i x
    split at e
    · rename_i n f p1 h1
      split at e
      · rename_i hh
        cases e
        have hlim := le_limN (hp (n + 3 ≤ limN) (List.mem_append_right _ (List.mem_cons_self ..)))
        refine views_call tt_ok Try.func8 (by kernel_rfl) (by kernel_rfl) [.vs n f] (args := [x])
          ⟨⟨p1, h1, fun p hq => hp p (List.mem_append_left _ hq)⟩, trivial⟩ slot [⟨5, [.ws .u8 (n + 3) (lentF n f)], 0, 0⟩] (.v1 (.sc (.sl 0 0 n (n + 3)))) rfl rfl rfl (fun t ht => by
            have : t = 0 := by simpa using ht
            subst this; exact hh) fun a W hi => ?_
        rcases hi with _ | _ | ⟨w1, hn, hi⟩ | ⟨t1, o1, c1, v1, kc1, hi⟩ | _
        · cases hi
          subst hn
          refine ⟨[0], rfl, ?_⟩
          refine loopK mixed tt_ok (G := ctxL []) ctxL_nil 0 (by kernel_rfl) (ι := {x // InvLe 0 f x}) [0,3,4] 31 1 (fun x => [emS w1, .v1 (.sc (.sl 0 0 3 3)), iv (Int.ofNat (0 + x.1.1))]) (fun x => [lB 0 x.1.2]) (fun x => 3 - x.1.1) (fun x => x.1.1 = 3)
            (fun _ => rfl) (fun _ => by kernel_rfl) (fun x j h => by obtain ⟨_, h⟩ := h; simp [hget] at h) 40 [] ?_ ?_ ?_
          · refine same (p := true = true ∧ ∃ j : {x // InvLe 0 f x}, [emS w1, .v1 (.sc (.sl 0 0 3 3)), iv (Int.ofNat (0 + 0))] = [emS w1, .v1 (.sc (.sl 0 0 3 3)), iv (Int.ofNat (0 + j.1.1))] ∧ [lB 0 fun _ => 0] = [lB 0 j.1.2]) ?_ (by kernel_rfl)
            exact ⟨rfl, ⟨(0, fun _ => 0), by simp, fun j hj => by simp at hj⟩, rfl, rfl⟩
          · intro ⟨⟨k, g⟩, hi, hg⟩ junk
            simp only at hi hg
            by_cases h3 : k < 3
            · refine roundF mixed tt_ok (G := ctxL []) ctxL_nil 40 [⟨4,3,.lit (.bo true)⟩,⟨6,3,.lit (.it (Int.ofNat ((0+k)%90)))⟩,⟨6,4,.lit (.it (Int.ofNat (160+(0+k)%90)))⟩,⟨6,6,.sym⟩,⟨6,7,.sym⟩,⟨5,1,.lit (.it (Int.ofNat (0+(k+1))))⟩] ?_
              refine same (p := ilt (Int.ofNat (0 + k)) (Int.ofNat (0 + 3)) = true ∧ (Int.ofNat (0 + k)).tmod 90 = Int.ofNat ((0 + k) % 90) ∧ wrapI (160 + Int.ofNat ((0 + k) % 90)) = Int.ofNat (160 + (0 + k) % 90) ∧ ix (0 + k) (0 + 3) (wrapI (Int.ofNat (0 + k) + 1) = Int.ofNat (0 + (k + 1)) ∧ true = true ∧
                ∃ j : {x // InvLe 0 f x}, 3 - j.1.1 < 3 - k ∧ [emS w1, .v1 (.sc (.sl 0 0 3 3)), iv (Int.ofNat (0 + (k + 1)))] = [emS w1, .v1 (.sc (.sl 0 0 3 3)), iv (Int.ofNat (0 + j.1.1))] ∧ [lB 0 (upd g (0 + k) (toU .u8 (Int.ofNat (160 + (0 + k) % 90))))] = [lB 0 j.1.2])) ?_ (by kernel_rfl)
              exact ⟨ilt_t (by omega), tmodL _ 90 (by omega), wrapI_nn (n := 160 + (0 + k) % 90) (by omega), ix_of (by omega) ⟨wrapI_succ (by omega), rfl, ⟨(k + 1, _), by simp only; omega, lent_step h3 hg⟩, by simp only; omega, rfl, rfl⟩⟩
            · have : k = 3 := by omega
              subst this
              refine roundF mixed tt_ok (G := ctxL []) ctxL_nil 40 [⟨4,3,.lit (.bo false)⟩] ?_
              refine same (p := ilt (Int.ofNat (0 + 3)) (Int.ofNat (0 + 3)) = false ∧ true = true ∧ ∃ j : {x // InvLe 0 f x}, j.1.1 = 3 ∧ [emS w1, .v1 (.sc (.sl 0 0 3 3)), iv (Int.ofNat (0 + 3))] = [emS w1, .v1 (.sc (.sl 0 0 3 3)), iv (Int.ofNat (0 + j.1.1))] ∧ [lB 0 g] = [lB 0 j.1.2]) ?_ (by kernel_rfl)
              exact ⟨ilt_f (by omega), rfl, ⟨(3, g), hi, hg⟩, rfl, rfl, rfl⟩
          · intro ⟨⟨k, g⟩, hi, hg⟩ junk h3
            simp only at hi hg h3
            subst h3
            refine evS_q mixed tt_ok (G := ctxL []) ctxL_nil 40 [] (same (p := endM [0] [lB 0 g] [lB 0 (lentF 0 f)] (.v1 (.sc (.sl 0 0 0 3))) (.v1 (.sc (.sl 0 0 0 3)))) ?_ (by kernel_rfl))
            exact endM_ok ⟨⟨rfl, rfl, rfl, fun ρ => ws8_val hg ρ⟩, trivial⟩ rfl fun _ => rfl
        · cases hi
          refine ⟨[1], rfl, ?_⟩
          refine loopK mixed tt_ok (G := ctxL []) ctxL_nil 0 (by kernel_rfl) (ι := {x // InvLe n f x}) [0,3,4] 31 2 (fun x => [.v1 (.sc (.sl 0 o1 n c1)), .v1 (.sc (.sl 1 0 (n+3) (n+3))), iv (Int.ofNat (n + x.1.1))]) (fun x => [wB t1 o1 n f v1, lB n x.1.2]) (fun x => 3 - x.1.1) (fun x => x.1.1 = 3)
            (fun _ => rfl) (fun _ => by kernel_rfl) (fun x j h => by have := Dm_lt h; simp at this; subst this; exact ⟨_, rfl⟩) 40 [⟨1,2,.lit (.it (Int.ofNat (n+3)))⟩,⟨1,3,.sym⟩,⟨2,2,.sym⟩] ?_ ?_ ?_
          · refine same (p := wrapI (Int.ofNat n + 3) = Int.ofNat (n + 3) ∧ 0 ≤ Int.ofNat (n + 3) ∧ Int.ofNat (n + 3) ≤ Int.ofNat (n + 3) ∧ Int.ofNat (n + 3) ≤ Int.ofNat limN ∧ o1 ≤ o1 ∧ o1 - o1 + n ≤ n ∧ n = n ∧ n ≤ n + 3 ∧ 0 + n ≤ n + 3 ∧ true = true ∧
              ∃ j : {x // InvLe n f x}, [.v1 (.sc (.sl 0 o1 n c1)), .v1 (.sc (.sl 1 0 (n+3) (n+3))), iv (Int.ofNat n)] = [.v1 (.sc (.sl 0 o1 n c1)), .v1 (.sc (.sl 1 0 (n+3) (n+3))), iv (Int.ofNat (n + j.1.1))] ∧ [wB t1 o1 n f v1, lB n (putF 0 n (fun _ => 0) fun j => f (o1 - o1 + j))] = [wB t1 o1 n f v1, lB n j.1.2]) ?_ (by kernel_rfl)
            refine ⟨wrapI_nn (n := n + 3) (by omega), Int.natCast_nonneg _, Int.le_refl _, ?_, Nat.le_refl _, win_le, rfl, by omega, by omega, rfl, ⟨(0, putF 0 n (fun _ => 0) f), by simp, lent_0⟩, rfl, ?_⟩
            · show ((n + 3 : Nat) : Int) ≤ ((17179869184 : Nat) : Int)
              omega
            · rw [win_fun]
          · intro ⟨⟨k, g⟩, hi, hg⟩ junk
            simp only at hi hg
            by_cases h3 : k < 3
            · refine roundF mixed tt_ok (G := ctxL []) ctxL_nil 40 [⟨4,3,.lit (.bo true)⟩,⟨6,3,.lit (.it (Int.ofNat ((n+k)%90)))⟩,⟨6,4,.lit (.it (Int.ofNat (160+(n+k)%90)))⟩,⟨6,6,.sym⟩,⟨6,7,.sym⟩,⟨5,1,.lit (.it (Int.ofNat (n+(k+1))))⟩] ?_
              refine same (p := ilt (Int.ofNat (n + k)) (Int.ofNat (n + 3)) = true ∧ (Int.ofNat (n + k)).tmod 90 = Int.ofNat ((n + k) % 90) ∧ wrapI (160 + Int.ofNat ((n + k) % 90)) = Int.ofNat (160 + (n + k) % 90) ∧ ix (n + k) (n + 3) (wrapI (Int.ofNat (n + k) + 1) = Int.ofNat (n + (k + 1)) ∧ true = true ∧
                ∃ j : {x // InvLe n f x}, 3 - j.1.1 < 3 - k ∧ [.v1 (.sc (.sl 0 o1 n c1)), .v1 (.sc (.sl 1 0 (n+3) (n+3))), iv (Int.ofNat (n + (k + 1)))] = [.v1 (.sc (.sl 0 o1 n c1)), .v1 (.sc (.sl 1 0 (n+3) (n+3))), iv (Int.ofNat (n + j.1.1))] ∧ [wB t1 o1 n f v1, lB n (upd g (n + k) (toU .u8 (Int.ofNat (160 + (n + k) % 90))))] = [wB t1 o1 n f v1, lB n j.1.2])) ?_ (by kernel_rfl)
              exact ⟨ilt_t (by omega), tmodL _ 90 (by omega), wrapI_nn (n := 160 + (n + k) % 90) (by omega), ix_of (by omega) ⟨wrapI_succ (by omega), rfl, ⟨(k + 1, _), by simp only; omega, lent_step h3 hg⟩, by simp only; omega, rfl, rfl⟩⟩
            · have : k = 3 := by omega
              subst this
              refine roundF mixed tt_ok (G := ctxL []) ctxL_nil 40 [⟨4,3,.lit (.bo false)⟩] ?_
              refine same (p := ilt (Int.ofNat (n + 3)) (Int.ofNat (n + 3)) = false ∧ true = true ∧ ∃ j : {x // InvLe n f x}, j.1.1 = 3 ∧ [.v1 (.sc (.sl 0 o1 n c1)), .v1 (.sc (.sl 1 0 (n+3) (n+3))), iv (Int.ofNat (n + 3))] = [.v1 (.sc (.sl 0 o1 n c1)), .v1 (.sc (.sl 1 0 (n+3) (n+3))), iv (Int.ofNat (n + j.1.1))] ∧ [wB t1 o1 n f v1, lB n g] = [wB t1 o1 n f v1, lB n j.1.2]) ?_ (by kernel_rfl)
              exact ⟨ilt_f (by omega), rfl, ⟨(3, g), hi, hg⟩, rfl, rfl, rfl⟩
          · intro ⟨⟨k, g⟩, hi, hg⟩ junk h3
            simp only at hi hg h3
            subst h3
            refine evS_q mixed tt_ok (G := ctxL []) ctxL_nil 40 [⟨7,3,.sym⟩] (same (p := 0 ≤ Int.ofNat n ∧ Int.ofNat n < ((n + 3 + 1 : Nat) : Int) ∧ endM [0,1] [wB t1 o1 n f v1, lB n g] [wB t1 o1 n f v1, lB n (lentF n f)] (.v1 (.sc (.sl 1 0 n (n + 3)))) (.v1 (.sc (.sl 1 0 n (n + 3))))) ?_ (by kernel_rfl))
            exact ⟨Int.natCast_nonneg _, by simp only [Int.ofNat_eq_natCast]; omega, endM_ok ⟨simB_refl _, ⟨rfl, rfl, rfl, fun ρ => ws8_val hg ρ⟩, trivial⟩ rfl fun _ => rfl⟩
      · cases e
    · cases e
  · cases e

/-! KeptBytes -/
def cKept (args : List AV) (h : Heap) : Option (List Prop × AV) :=
  match args with
  | [x, y] => match vwc h x, vw h y with
    | some (n, c, f, p1), some (m, g, p2) => some (p1 ++ p2 ++ [n = m, c = n + 3, n + 3 ≤ limN], .v1 (.sc (.bo (eqStr (n + 3) f (n + 3) (lentF n g)))))
    | _, _ => none
  | _ => none
def GKe : List (Nat × CallC) := [(8, .mem cLent), (15, .rd cSame)]
theorem GKe_ok : CtxOk Try.prog (ctxL GKe) := ctxL_cons okLent <| ctxL_cons okSame ctxL_nil
theorem ieq_same (n : Nat) : ieq (Int.ofNat n) (Int.ofNat n) = true := by rw [ieq_iff]
theorem off_fun {o : Nat} {f : Nat → Nat} : (fun j => f (addN o 0 - o + j)) = f := by
  funext j; rw [addN_eq]; congr 1; omega
theorem off_le {o n : Nat} : addN o 0 - o + n ≤ n := by rw [addN_eq]; omega
theorem okKept : (CallC.rd cKept).Ok Try.prog 16 := by
  refine ⟨fun args h pre v e hp => ?_, fun args h slot blk hs ha => ?_⟩
  · unfold cKept at e
    split at e
    · rename_i x y
      split at e
      · rename_i n c f p1 m g p2 h1 h2
        cases e
        have hnm : n = m := hp _ (by simp)
        have hc : c = n + 3 := hp _ (by simp)
        have hlim := le_limN (hp (n + 3 ≤ limN) (by simp))
        subst hnm; subst hc
        refine views_call tt_ok Try.func16 (by kernel_rfl) (by kernel_rfl) [.vc n (n + 3) f, .vs n g] (args := [x, y])
          ⟨⟨p1, h1, fun p hq => hp p (by simp [hq])⟩, ⟨p2, h2, fun p hq => hp p (by simp [hq])⟩, trivial⟩ 0 [] (.v1 (.sc (.bo (eqStr (n + 3) f (n + 3) (lentF n g))))) rfl rfl rfl (fun t ht => by simp at ht) fun a W hi => ⟨[], rfl, ?_⟩
        rcases hi with _ | _ | _ | _ | ⟨t1, o1, v1, hi⟩
        rcases hi with _ | _ | ⟨w2, hm, hi⟩ | ⟨t2, o2, c2, v2, kc2, hi⟩ | _
        · cases hi
          subst hm
          refine evS_q mixed tt_ok GKe_ok 40 [⟨1,9,.sym⟩] (same (p := 0 ≤ Int.ofNat 3 ∧ Int.ofNat 3 < ((3 + 1 : Nat) : Int) ∧ 0 + 3 ≤ limN ∧ o1 ≤ addN o1 0 ∧ addN o1 0 - o1 + 3 ≤ 3 ∧ 3 ≤ 3 ∧ 0 + 3 ≤ 3 ∧ 3 ≤ 3 ∧ endM [0] [wB t1 o1 3 f v1] [wB t1 o1 3 f v1] (.v1 (.sc (.bo (eqStr 3 (fun j => f (addN o1 0 - o1 + j)) 3 (fun j => lentF 0 (fun _ => 0) j))))) (.v1 (.sc (.bo (eqStr 3 f 3 (lentF 0 g)))))) ?_ (by kernel_rfl))
          refine ⟨by decide, by decide, by decide, by rw [addN_eq]; omega, off_le, Nat.le_refl _, by decide, Nat.le_refl _, endM_same rfl ?_⟩
          rw [off_fun]
          rfl
        · cases hi
          refine evS_q mixed tt_ok GKe_ok 40 [⟨1,4,.lit (.bo true)⟩,⟨1,9,.sym⟩,⟨1,14,.lit (.it (Int.ofNat (n+3)))⟩,⟨1,15,.sym⟩] (same (p := ieq (Int.ofNat n) (Int.ofNat n) = true ∧ 0 ≤ Int.ofNat (n + 3) ∧ Int.ofNat (n + 3) < ((n + 3 + 1 : Nat) : Int) ∧ o2 ≤ o2 ∧ o2 - o2 + n ≤ n ∧ n ≤ c2 ∧ n + 3 ≤ limN ∧ wrapI (Int.ofNat n + 3) = Int.ofNat (n + 3) ∧ 0 ≤ Int.ofNat (n + 3) ∧ Int.ofNat (n + 3) < ((n + 3 + 1 : Nat) : Int) ∧
            o1 ≤ addN o1 0 ∧ addN o1 0 - o1 + (n + 3) ≤ n + 3 ∧ n + 3 ≤ n + 3 ∧ 0 + (n + 3) ≤ n + 3 ∧ n + 3 ≤ n + 3 ∧ endM [0,1] [wB t1 o1 (n + 3) f v1, wB t2 o2 n g v2] [wB t1 o1 (n + 3) f v1, wB t2 o2 n g v2] (.v1 (.sc (.bo (eqStr (n + 3) (fun j => f (addN o1 0 - o1 + j)) (n + 3) (fun j => lentF n (fun j => g (o2 - o2 + j)) j))))) (.v1 (.sc (.bo (eqStr (n + 3) f (n + 3) (lentF n g)))))) ?_ (by kernel_rfl))
          have hi1 : Int.ofNat (n + 3) < ((n + 3 + 1 : Nat) : Int) := by simp only [Int.ofNat_eq_natCast]; omega
          refine ⟨ieq_same _, Int.natCast_nonneg _, hi1, Nat.le_refl _, win_le, kc2, hlim, wrapI_nn (n := n + 3) (by omega), Int.natCast_nonneg _, hi1, by rw [addN_eq]; omega, off_le, Nat.le_refl _, by omega, Nat.le_refl _, endM_same rfl ?_⟩
          rw [off_fun, win_fun]
      · cases e
    · cases e
  · unfold cKept
    split
    · rename_i x y
      rw [vwc_local hs (ha x (by simp)), vw_local hs (ha y (by simp))]
    · rfl
end Go.Proofs.Ytndmoidenbfflaa
