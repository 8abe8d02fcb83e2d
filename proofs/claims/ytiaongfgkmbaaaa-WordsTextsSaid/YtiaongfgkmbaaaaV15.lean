/- The document's Bytes and Read. -/
import Derived.Test.YtiaongfgkmbaaaaV14
namespace Go.Proofs.Ytiaongfgkmbaaaa
open Go.Rq Go
set_option linter.unusedVariables false
set_option linter.unusedSimpArgs false

/-- A window's byte: what an address asks. -/
def wx (o n i : Nat) (q : Prop) : Prop := 0 ≤ Int.ofNat i ∧ Int.ofNat i < (n : Int) ∧ o ≤ addN o i ∧ addN o i < o + n ∧ q
theorem wx_of {o n i : Nat} {q : Prop} (h : i < n) (k : q) : wx o n i q := ⟨Int.natCast_nonneg _, by simp; exact h, by rw [addN_eq]; omega, by rw [addN_eq]; omega, k⟩
abbrev wbv (o i : Nat) (f : Nat → Nat) : Nat := f (addN o i - o)
theorem wbv_eq {o i : Nat} {f : Nat → Nat} : wbv o i f = f i := by
  unfold wbv; rw [addN_eq]; congr 1; omega

/-! Read -/
def cRead' (args : List AV) (h : Heap) : Option (List Prop × AV) :=
  match args with
  | [x] => match vw h x with
    | some (n, f, q) => some (q ++ [n < 9223372036854775807], rdC n f)
    | none => none
  | _ => none
abbrev VRw (o1 n c1 i : Nat) : List AV := [.v1 (.sc (.sl 0 o1 n c1)), pt 1 0, pt 2 0, iv (Int.ofNat i)]
abbrev HRw (t1 o1 n : Nat) (f : Nat → Nat) (v1 : WrapV) (o : Nat → Nat) : Heap := [wB t1 o1 n f v1, nb (fun _ => 0), nb o]
theorem rd_ok {n : Nat} {f o : Nat → Nat} (hl : Nat.blt 48 n = false) (hv : nv o = byN f n) (ρ : Ren) : (AV.tup [.agg [.ws .u64 6 o], .sc (.it 0)]).val ρ = (rdC n f).val ρ := by
  have hE : rdE n = 0 := by unfold rdE; rw [hl]; rfl
  have hV : rdV n f = byN f n := by unfold rdV; rw [hl]; rfl
  unfold rdC
  simp only [AV.val, List.map_cons, List.map_nil]
  rw [hV, hE, numV_val (n := byN f n) (by rw [← hv, Nat.mod_eq_of_lt (nv_lt o)]) ρ]
theorem rd_long {n : Nat} {f : Nat → Nat} (hl : Nat.blt 48 n = true) (ρ : Ren) : (AV.tup [zN, .sc (.it 3)]).val ρ = (rdC n f).val ρ := by
  have hE : rdE n = 3 := by unfold rdE; rw [hl]; rfl
  have hV : rdV n f = 0 := by unfold rdV; rw [hl]; rfl
  unfold rdC
  simp only [AV.val, List.map_cons, List.map_nil]
  rw [hV, hE, zero_num]
theorem okRead' : (CallC.rd cRead').Ok Try.prog 13 := by
  refine ⟨fun args h pre v e hp => ?_, fun args h slot blk hs ha => ?_⟩
  · unfold cRead' at e
    split at e
    rotate_left
    · cases e
    rename_i x
    split at e
    rotate_left
    · cases e
    rename_i n f q hx
    cases e
    have hn63 : n < 9223372036854775807 := hp _ (by simp)
    refine views_call tt_ok Try.func13 (by kernel_rfl) (by kernel_rfl) [.vs n f] (args := [x])
      ⟨⟨q, hx, fun p hq => hp p (List.mem_append_left _ hq)⟩, trivial⟩ 0 [] (rdC n f) rfl rfl rfl (fun t ht => by simp at ht) fun a Wn hi => ⟨[], rfl, ?_⟩
    rcases hi with _ | _ | ⟨w1, hn, hi⟩ | ⟨t1, o1, c1, v1, hi⟩ | _
    · cases hi
      subst hn
      refine evS_q mixed tt_ok (G := ctxL []) ctxL_nil 60 [] (same (p := endM [] [] [] (.tup [.agg [.ws .u64 6 (fun _ => 0)], .sc (.it 0)]) (rdC 0 f)) ?_ (by kernel_rfl))
      exact endM_ok (simH_refl _) rfl fun ρ => rd_ok (n := 0) (f := f) rfl (by rw [zero_nv]; rfl) ρ
    · cases hi
      cases hl : Nat.blt 48 n
      · have hn : n ≤ 48 := by
          have : ¬ 48 < n := by rw [← Nat.blt_eq, hl]; simp
          omega
        refine loopK mixed tt_ok (G := ctxL []) ctxL_nil 0 (by kernel_rfl) (ι := {x // InvRd f n x}) [0,2,4,5] 40 3 (fun x => VRw o1 n c1 x.1.1) (fun x => HRw t1 o1 n f v1 x.1.2) (fun x => n - x.1.1) (fun x => x.1.1 = n)
          (fun _ => rfl) (fun _ => by kernel_rfl) (fun x j h => by have := Dm_lt h; simp at this; subst this; exact ⟨_, rfl⟩) 60 [⟨2,2,.lit (.bo false)⟩] ?_ ?_ ?_
        · refine same (p := ilt 48 (Int.ofNat n) = false ∧ true = true ∧ ∃ j : {x // InvRd f n x}, VRw o1 n c1 0 = VRw o1 n c1 j.1.1 ∧ HRw t1 o1 n f v1 (fun _ => 0) = HRw t1 o1 n f v1 j.1.2) ?_ (by kernel_rfl)
          exact ⟨by rw [ilt_48, hl], rfl, ⟨(0, fun _ => 0), by simp, by simp only [zero_nv, byN]; omega⟩, rfl, rfl⟩
        · intro ⟨⟨i, o⟩, hi, hv⟩ junk
          simp only at hi hv
          by_cases hin : i < n
          · refine roundF mixed tt_ok (G := ctxL []) ctxL_nil 60 [⟨5,3,.lit (.bo true)⟩,⟨7,2,.lit (.it (Int.ofNat (n-1)))⟩,⟨7,4,.lit (.it (Int.ofNat (n-1-i)))⟩,⟨8,1,.lit (.it (Int.ofNat ((n-1-i)/8)))⟩,⟨8,3,.lit (.it (Int.ofNat ((n-1-i)/8)))⟩,⟨8,4,.sym⟩,⟨8,5,.sym⟩,⟨8,8,.sym⟩,⟨8,9,.sym⟩,⟨8,12,.lit (.it (Int.ofNat ((n-1-i)%8)))⟩,⟨8,13,.lit (.it (Int.ofNat (8*((n-1-i)%8))))⟩,⟨8,16,.sym⟩,⟨8,17,.sym⟩,⟨6,1,.lit (.it (Int.ofNat (i+1)))⟩] ?_
            refine same (p := ilt (Int.ofNat i) (Int.ofNat n) = true ∧ wrapI (Int.ofNat n - 1) = Int.ofNat (n-1) ∧ wrapI (Int.ofNat (n-1) - Int.ofNat i) = Int.ofNat (n-1-i) ∧ wrapI ((Int.ofNat (n-1-i)).tdiv 8) = Int.ofNat ((n-1-i)/8) ∧ wrapI ((Int.ofNat (n-1-i)).tdiv 8) = Int.ofNat ((n-1-i)/8) ∧
              ix ((n-1-i)/8) 6 (wx o1 n i ((Int.ofNat (n-1-i)).tmod 8 = Int.ofNat ((n-1-i)%8) ∧ wrapI (8 * Int.ofNat ((n-1-i)%8)) = Int.ofNat (8*((n-1-i)%8)) ∧ ix ((n-1-i)/8) 6 (wrapI (Int.ofNat i + 1) = Int.ofNat (i+1) ∧ true = true ∧
              ∃ j : {x // InvRd f n x}, n - j.1.1 < n - i ∧ VRw o1 n c1 (i + 1) = VRw o1 n c1 j.1.1 ∧ HRw t1 o1 n f v1 (upd o ((n-1-i)/8) (o ((n-1-i)/8) ||| wbv o1 i f % 256 * 2 ^ min (8*((n-1-i)%8)) 64)) = HRw t1 o1 n f v1 j.1.2)))) ?_ (by kernel_rfl)
            have w1 : wrapI (Int.ofNat n - 1) = Int.ofNat (n-1) := by
              rw [wrapI_same (by simp only [Int.ofNat_eq_natCast]; omega) (by simp only [Int.ofNat_eq_natCast]; omega)]
              simp only [Int.ofNat_eq_natCast]; omega
            have w2 : wrapI (Int.ofNat (n-1) - Int.ofNat i) = Int.ofNat (n-1-i) := by
              rw [wrapI_same (by simp only [Int.ofNat_eq_natCast]; omega) (by simp only [Int.ofNat_eq_natCast]; omega)]
              simp only [Int.ofNat_eq_natCast]; omega
            have w3 := tdiv8 ⟨n-1-i, by omega⟩
            refine ⟨ilt_t hin, w1, w2, w3, w3, ix_of (by omega) (wx_of hin ⟨tmod8 ⟨n-1-i, by omega⟩, mul8 ⟨(n-1-i) % 8, Nat.mod_lt _ (by omega)⟩, ix_of (by omega) ⟨wrapI_succ (by omega), rfl, ⟨(i + 1, upd o ((n-1-i)/8) (o ((n-1-i)/8) ||| f i % 256 * 2 ^ min (8*((n-1-i)%8)) 64)), ?_, ?_⟩, ?_, rfl, ?_⟩⟩)⟩
            · simp only; omega
            · simp only
              exact read_step hn hin hv
            · simp only; omega
            · rw [wbv_eq]
          · have : i = n := by omega
            subst this
            refine roundF mixed tt_ok (G := ctxL []) ctxL_nil 60 [⟨5,3,.lit (.bo false)⟩] ?_
            refine same (p := ilt (Int.ofNat i) (Int.ofNat i) = false ∧ true = true ∧ ∃ j : {x // InvRd f i x}, j.1.1 = i ∧ VRw o1 i c1 i = VRw o1 i c1 j.1.1 ∧ HRw t1 o1 i f v1 o = HRw t1 o1 i f v1 j.1.2) ?_ (by kernel_rfl)
            exact ⟨ilt_f (by omega), rfl, ⟨(i, o), hi, hv⟩, rfl, rfl, rfl⟩
        · intro ⟨⟨i, o⟩, hi, hv⟩ junk hin
          simp only at hi hv hin
          subst hin
          refine evS_q mixed tt_ok (G := ctxL []) ctxL_nil 60 [] (same (p := endM [0] [wB t1 o1 i f v1] [wB t1 o1 i f v1] (.tup [.agg [.ws .u64 6 o], .sc (.it 0)]) (rdC i f)) ?_ (by kernel_rfl))
          exact endM_ok (simH_refl _) rfl fun ρ => rd_ok hl (by rw [hv]; simp) ρ
      · refine evS_q mixed tt_ok (G := ctxL []) ctxL_nil 60 [⟨2,2,.lit (.bo true)⟩] (same (p := ilt 48 (Int.ofNat n) = true ∧ endM [0] [wB t1 o1 n f v1] [wB t1 o1 n f v1] (.tup [zN, .sc (.it 3)]) (rdC n f)) ?_ (by kernel_rfl))
        exact ⟨by rw [ilt_48, hl], endM_ok (simH_refl _) rfl fun ρ => rd_long hl ρ⟩
  · unfold cRead'
    split
    · rename_i x
      rw [vw_local hs (ha x (by simp))]
    · rfl

/-! Bytes -/
def cBytes' (args : List AV) (h : Heap) (slot : Nat) : Option (List Prop × AV × Heap) :=
  match args with
  | [.v1 (.agg [.ws .u64 6 a])] => match isHole h slot && isHole h (slot + 1) with
    | true => some ([], .v1 (.sc (.so slot 48)), hset (hset h slot ⟨5, [.ws .u8 48 (byF (nv a))], 1, 1⟩) (slot + 1) ⟨0, [], 2, 0⟩)
    | false => none
  | _ => none
abbrev apF (n : Nat) (g : Nat → Nat) (v : Nat) : Nat → Nat := catF n g (upd (fun _ => 0) 0 v)
theorem apF_inv {B : Nat → Nat} {n v : Nat} {g : Nat → Nat} (h : ∀ j, j < n → g j % 256 = B j % 256) (hv : v % 256 = B n % 256) : ∀ j, j < n + 1 → apF n g v j % 256 = B j % 256 := by
  intro j hj
  unfold apF catF
  by_cases hjn : j < n
  · have : Nat.blt j n = true := by rw [Nat.blt_eq]; exact hjn
    rw [this, cond_true]; exact h j hjn
  · have : Nat.blt j n = false := by rw [← Bool.not_eq_true, Nat.blt_eq]; exact hjn
    have e : j = n := by omega
    subst e
    rw [this, cond_false, Nat.sub_self]
    exact hv
abbrev VBq (r k : Nat) : List AV := [pt 0 0, bS 1 k, .v1 (.sc (.it (predI r)))]
abbrev HBq (a f : Nat → Nat) (k : Nat) : Heap := [nb a, bB f k, bD k]
def InvBq (a : Nat → Nat) (x : Nat × Nat × (Nat → Nat)) : Prop := x.1 + x.2.1 = 48 ∧ ∀ j, j < x.2.1 → x.2.2 j % 256 = byF (nv a) j % 256
theorem okBytes' : (CallC.mem cBytes').Ok Try.prog 17 := by
  intro args h slot pre v h' e hp
  unfold cBytes' at e
  split at e
  rotate_left
  · cases e
  rename_i a
  split at e
  rotate_left
  · cases e
  rename_i hh
  cases e
  simp only [Bool.and_eq_true] at hh
  refine views_call tt_ok Try.func17 (by kernel_rfl) (by kernel_rfl) [.pl (.v1 (.agg [.ws .u64 6 a]))] (args := [.v1 (.agg [.ws .u64 6 a])])
    ⟨⟨rfl, rfl⟩, trivial⟩ slot [⟨5, [.ws .u8 48 (byF (nv a))], 1, 1⟩, ⟨0, [], 2, 0⟩] (.v1 (.sc (.so 0 48))) rfl rfl rfl (fun t ht => by
      have : t = 0 ∨ t = 1 := by simp at ht; omega
      rcases this with rfl | rfl
      · exact hh.1
      · exact hh.2) fun b Wn hi => ⟨[1,2], rfl, ?_⟩
  rcases hi with _ | ⟨hi⟩ | _ | _ | _
  cases hi
  refine loopR mixed tt_ok (G := ctxL []) ctxL_nil (by kernel_rfl) (ι := {x // InvBq a x}) [0,77,78] [0,4,5] [0,1,2] [1,3,4] 22 (fun x => VBq x.1.1 x.1.2.1) (fun x => HBq a x.1.2.2 x.1.2.1) (fun x => x.1.1) (fun x => x.1.1 = 0)
    (fun x => by
      obtain ⟨⟨r, k, g⟩, _⟩ := x
      cases k <;> kernel_rfl) (fun _ j h => by obtain ⟨_, h⟩ := h; simp [hget] at h) (fun j h => by obtain ⟨_, h⟩ := h; simp [hget] at h) 60 [] ?_ ?_ ?_
  · refine same (p := true = true ∧ true = true ∧ ∃ j : {x // InvBq a x}, VBq 48 0 = VBq j.1.1 j.1.2.1 ∧ HBq a (fun _ => 0) 0 = HBq a j.1.2.2 j.1.2.1) ?_ (by kernel_rfl)
    exact ⟨rfl, rfl, ⟨(48, 0, fun _ => 0), rfl, fun j hj => by simp at hj⟩, rfl, rfl⟩
  · intro ⟨⟨r, k, g⟩, hs, hg⟩ junk
    simp only at hs hg
    cases r with
    | zero =>
      cases k with
      | zero => omega
      | succ k =>
        refine roundF mixed tt_ok (G := ctxL []) ctxL_nil 60 [] ?_
        refine same (p := true = true ∧ true = true ∧ ∃ j : {x // InvBq a x}, j.1.1 = 0 ∧ VBq 0 (k + 1) = VBq j.1.1 j.1.2.1 ∧ HBq a g (k + 1) = HBq a j.1.2.2 j.1.2.1) ?_ (by kernel_rfl)
        exact ⟨rfl, rfl, ⟨(0, k + 1, g), hs, hg⟩, rfl, rfl, rfl⟩
    | succ i =>
      have hi48 : i < 48 := by omega
      have hv : BYT a i % W % 256 = byF (nv a) k % 256 := by
        rw [(BYT_eq a (k := i) hi48).1]
        unfold byF
        rw [show 47 - k = i by omega]
      have hge : (!ilt (Int.ofNat i) 0) = true := by rw [(by rw [← Bool.not_eq_true, ilt_iff]; simp : ilt (Int.ofNat i) 0 = false)]; rfl
      have hp : wrapI (Int.ofNat i - 1) = predI i := predI_eq (by omega)
      have t8 := tdiv8 ⟨i, hi48⟩
      have m8 := tmod8 ⟨i, hi48⟩
      have u8 := mul8 ⟨i % 8, Nat.mod_lt _ (by omega)⟩
      have ha := apF_inv hg hv
      cases k with
      | zero =>
        refine roundF mixed tt_ok (G := ctxL []) ctxL_nil 60 [⟨3,1,.lit (.bo true)⟩,⟨5,2,.lit (.it (Int.ofNat (i/8)))⟩,⟨5,3,.sym⟩,⟨5,4,.sym⟩,⟨5,6,.lit (.it (Int.ofNat (i%8)))⟩,⟨5,7,.lit (.it (Int.ofNat (8*(i%8))))⟩,⟨4,1,.lit (.it (predI i))⟩] ?_
        refine same (p := (!ilt (Int.ofNat i) 0) = true ∧ wrapI ((Int.ofNat i).tdiv 8) = Int.ofNat (i / 8) ∧ ix (i / 8) 6 ((Int.ofNat i).tmod 8 = Int.ofNat (i % 8) ∧ wrapI (8 * Int.ofNat (i % 8)) = Int.ofNat (8 * (i % 8)) ∧ wrapI (Int.ofNat i - 1) = predI i ∧ true = true ∧ true = true ∧
          ∃ j : {x // InvBq a x}, j.1.1 < i + 1 ∧ VBq i 1 = VBq j.1.1 j.1.2.1 ∧ HBq a (upd (fun _ => 0) 0 (BYT a i % W)) 1 = HBq a j.1.2.2 j.1.2.1)) ?_ (by kernel_rfl)
        refine ⟨hge, t8, ix_of (by omega) ⟨m8, u8, hp, rfl, rfl, ⟨(i, 1, upd (fun _ => 0) 0 (BYT a i % W)), by simp only; omega, fun j hj => ?_⟩, by simp only; omega, rfl, rfl⟩⟩
        simp only at hj
        have : j = 0 := by omega
        subst this
        simp only
        rw [upd_same]; exact hv
      | succ k =>
        refine roundF mixed tt_ok (G := ctxL []) ctxL_nil 60 [⟨3,1,.lit (.bo true)⟩,⟨5,2,.lit (.it (Int.ofNat (i/8)))⟩,⟨5,3,.sym⟩,⟨5,4,.sym⟩,⟨5,6,.lit (.it (Int.ofNat (i%8)))⟩,⟨5,7,.lit (.it (Int.ofNat (8*(i%8))))⟩,⟨5,11,.sym⟩,⟨4,1,.lit (.it (predI i))⟩] ?_
        refine same (p := (!ilt (Int.ofNat i) 0) = true ∧ wrapI ((Int.ofNat i).tdiv 8) = Int.ofNat (i / 8) ∧ ix (i / 8) 6 ((Int.ofNat i).tmod 8 = Int.ofNat (i % 8) ∧ wrapI (8 * Int.ofNat (i % 8)) = Int.ofNat (8 * (i % 8)) ∧ k + 1 = k + 1 ∧ 1 ≤ 1 ∧ k + 1 + 1 ≤ limN ∧ (false = true → 0 < 1) ∧ wrapI (Int.ofNat i - 1) = predI i ∧ true = true ∧ true = true ∧
          ∃ j : {x // InvBq a x}, j.1.1 < i + 1 ∧ VBq i (k + 2) = VBq j.1.1 j.1.2.1 ∧ HBq a (apF (k + 1) g (BYT a i % W)) (k + 2) = HBq a j.1.2.2 j.1.2.1)) ?_ (by kernel_rfl)
        exact ⟨hge, t8, ix_of (by omega) ⟨m8, u8, rfl, Nat.le_refl _, by unfold limN; omega, fun h => (by cases h), hp, rfl, rfl, ⟨(i, k + 2, apF (k + 1) g (BYT a i % W)), by simp only; omega, ha⟩, by simp only; omega, rfl, rfl⟩⟩
  · intro ⟨⟨r, k, g⟩, hs, hg⟩ junk h0
    simp only at hs hg h0
    subst h0
    have hk : k = 48 := by omega
    subst hk
    refine evS_q mixed tt_ok (G := ctxL []) ctxL_nil 40 [] (same (p := endM [1,2] [some ⟨5, [.ws .u8 48 g], 1, 1⟩, some ⟨0, [], 2, 0⟩] [some ⟨5, [.ws .u8 48 (byF (nv a))], 1, 1⟩, some ⟨0, [], 2, 0⟩] (.v1 (.sc (.so 1 48))) (.v1 (.sc (.so 0 48)))) ?_ (by kernel_rfl))
    exact endM_ok ⟨⟨rfl, rfl, rfl, fun ρ => ws8_val hg ρ⟩, simB_refl _, trivial⟩ rfl fun _ => rfl
end Go.Proofs.Ytiaongfgkmbaaaa
