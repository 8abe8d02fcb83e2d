/- Bytes: a number's, and the number of bytes. -/
import Derived.Test.YtiaongfgkmbaaaaW10
import Derived.Test.YtiaongfgkmbaaaaWM7
import Derived.Test.YtiaongfgkmbaaaaFwQ
namespace Go.Proofs.Ytiaongfgkmbaaaa
open Go.Rq Go

/-! Bytes -/
def cBytes (args : List AV) (h : Heap) (slot : Nat) : Option (List Prop × AV × Heap) :=
  match args with
  | [.v1 (.agg [.ws .u64 6 a])] => match isHole h slot with
    | true => some ([], .v1 (.sc (.sl slot 0 48 48)), hset h slot ⟨5, [.ws .u8 48 (byF (nv a))], 0, 0⟩)
    | false => none
  | _ => none
def VBy (i : Nat) : List AV := [pt 0 0, .v1 (.sc (.sl 1 0 48 48)), iv 48, iv (Int.ofNat i)]
def HBy (a g : Nat → Nat) : Heap := [nb a, some ⟨5, [.ws .u8 48 g], 0, 0⟩]
def InvBy (a : Nat → Nat) (x : Nat × (Nat → Nat)) : Prop := x.1 ≤ 48 ∧ ∀ j, j < x.1 → x.2 j % 256 = byF (nv a) j % 256
theorem ws8_val {n : Nat} {f g : Nat → Nat} (h : ∀ j, j < n → f j % 256 = g j % 256) (ρ : Ren) : cvals ρ [.ws .u8 n f] = cvals ρ [.ws .u8 n g] := by
  simp only [cvals, Cell.vals, M, List.append_nil]
  exact List.map_congr_left fun j hj => by rw [h j (List.mem_range.1 hj)]

theorem okBytes : (CallC.mem cBytes).Ok Try.prog 11 := by
  intro args h slot pre v h' e _
  unfold cBytes at e
  split at e
  · rename_i a
    split at e
    · rename_i hh
      cases e
      refine mem_walk tt_ok Try.func11 (by kernel_rfl) (by kernel_rfl) [] [1] slot [] [some ⟨5, [.ws .u8 48 (byF (nv a))], 0, 0⟩] (args' := [.v1 (.agg [.ws .u64 6 a])]) (vK := .v1 (.sc (.sl 0 0 48 48)))
        (by kernel_rfl) rfl (by kernel_rfl) rfl (by kernel_rfl) (fun i hi => by simp at hi) (by kernel_rfl) (by kernel_rfl) (fun i hi => by
          have : i = 0 := by simpa using hi
          subst this; exact ⟨_, rfl⟩) (by kernel_rfl) ?_ ?_ (fun t ht => by
          have : t = 0 := by simpa using ht
          subst this; exact hh) (fun i _ hi => ?_) ?_
      · show [pickB [slot] (hget (hset h slot _) slot)] = _
        rw [hget_hset_same (isHole_lt hh).1]; rfl
      · show AV.v1 (.sc (.sl (bk [slot] slot) 0 48 48)) = _
        have : bk [slot] slot = 0 := by simp [bk, idxN]
        rw [this]
      · exact hget_hset_ne fun e => hi 0 (by simp) (by omega)
      · refine loopF mixed tt_ok GT_ok (by kernel_rfl) (ι := {x // InvBy a x}) [1,3,8,9] 28 2 (fun x => VBy x.1.1) (fun x => HBy a x.1.2) (fun x => 48 - x.1.1) (fun x => x.1.1 = 48)
          (fun _ => rfl) (fun _ => by kernel_rfl) (fun _ _ h => by obtain ⟨_, h⟩ := h; simp [hget] at h) 60 [] ?_ ?_ ?_
        · refine same (p := true = true ∧ ∃ j : {x // InvBy a x}, VBy 0 = VBy j.1.1 ∧ HBy a (fun _ => 0) = HBy a j.1.2) ?_ (by kernel_rfl)
          exact ⟨rfl, ⟨(0, fun _ => 0), by simp, fun j hj => by simp at hj⟩, rfl, rfl⟩
        · intro ⟨⟨i, g⟩, hi, hg⟩ junk
          simp only at hi hg
          by_cases h48 : i < 48
          · refine roundF mixed tt_ok GT_ok 60 [⟨3,0,.lit (.bo true)⟩,⟨5,1,.lit (.it (Int.ofNat (47-i)))⟩,⟨6,3,.lit (.it (Int.ofNat ((47-i)/8)))⟩,⟨6,4,.sym⟩,⟨6,5,.sym⟩,⟨6,7,.lit (.it (Int.ofNat ((47-i)%8)))⟩,⟨6,8,.lit (.it (Int.ofNat (8*((47-i)%8))))⟩,⟨6,11,.sym⟩,⟨6,12,.sym⟩,⟨7,0,.lit (.it (Int.ofNat (i+1)))⟩] ?_
            refine same (p := ilt (Int.ofNat i) 48 = true ∧ wrapI (47 - Int.ofNat i) = Int.ofNat (47-i) ∧ wrapI ((Int.ofNat (47-i)).tdiv 8) = Int.ofNat ((47-i)/8) ∧ ix ((47-i)/8) 6 ((Int.ofNat (47-i)).tmod 8 = Int.ofNat ((47-i)%8) ∧ wrapI (8 * Int.ofNat ((47-i)%8)) = Int.ofNat (8*((47-i)%8)) ∧
              ix i 48 (wrapI (Int.ofNat i + 1) = Int.ofNat (i+1) ∧ true = true ∧ ∃ j : {x // InvBy a x}, 48 - j.1.1 < 48 - i ∧ VBy (i + 1) = VBy j.1.1 ∧ HBy a (upd g i (BYT a (47-i) % W)) = HBy a j.1.2))) ?_ (by kernel_rfl)
            have hl : ilt (Int.ofNat i) 48 = true := ilt_t (n := 48) h48
            refine ⟨hl, ?_, tdiv8 ⟨47 - i, by omega⟩, ix_of (by omega) ⟨tmod8 ⟨47 - i, by omega⟩, mul8 ⟨(47 - i) % 8, Nat.mod_lt _ (by omega)⟩, ix_of h48 ⟨wrapI_succ (by omega), rfl, ⟨(i + 1, upd g i (BYT a (47-i) % W)), ?_, ?_⟩, ?_, rfl, rfl⟩⟩⟩
            · rw [wrapI_same (by simp only [Int.ofNat_eq_natCast]; omega) (by simp only [Int.ofNat_eq_natCast]; omega)]
              simp only [Int.ofNat_eq_natCast]; omega
            · simp only; omega
            · intro j hj
              simp only at hj ⊢
              by_cases hji : j = i
              · subst hji
                rw [upd_same, (BYT_eq a (k := 47 - j) (by omega)).1]; rfl
              · rw [upd_ne _ _ hji]; exact hg j (by omega)
            · simp only; omega
          · have : i = 48 := by omega
            subst this
            refine roundF mixed tt_ok GT_ok 60 [] ?_
            refine same (p := true = true ∧ ∃ j : {x // InvBy a x}, j.1.1 = 48 ∧ VBy 48 = VBy j.1.1 ∧ HBy a g = HBy a j.1.2) ?_ (by kernel_rfl)
            exact ⟨rfl, ⟨(48, g), hi, hg⟩, rfl, rfl, rfl⟩
        · intro ⟨⟨i, g⟩, hi, hg⟩ junk h48
          simp only at hi hg h48
          subst h48
          refine same (p := true = true ∧ true = true ∧ SimH [some ⟨5, [.ws .u8 48 g], 0, 0⟩] [some ⟨5, [.ws .u8 48 (byF (nv a))], 0, 0⟩] ∧ ∃ v', some (AV.v1 (.sc (.sl 1 0 48 48))) = some v' ∧ avB [some ⟨5, [.ws .u8 48 g], 0, 0⟩] (bkAV [1] v') = true ∧ ∀ ρ, (bkAV [1] v').val ρ = (AV.v1 (.sc (.sl 0 0 48 48))).val ρ) ?_ (by kernel_rfl)
          exact ⟨rfl, rfl, ⟨⟨rfl, rfl, rfl, fun ρ => ws8_val hg ρ⟩, trivial⟩, _, rfl, rfl, fun _ => rfl⟩
    · cases e
  · cases e

/-! Read -/
def rdC (n : Nat) (f : Nat → Nat) : AV := .tup [numV (rdV n f), .sc (.it (rdE n))]
def cRead (args : List AV) (h : Heap) : Option (List Prop × AV) :=
  match args with
  | [.v1 (.sc (.sl b 0 n _))] => match hget h b with
    | some ⟨_, [.ws .u8 N f], 0, 0⟩ => some ([n ≤ N], .tup [numV (rdV n f), .sc (.it (rdE n))])
    | _ => none
  | _ => none
theorem cRead_local (args : List AV) (h : Heap) (slot : Nat) (blk : Blk) (hs : isHole h slot = true) (ha : ∀ x ∈ args, x.ok (Dm h)) : cRead args (hset h slot blk) = cRead args h := by
  unfold cRead
  split
  · rename_i b n c
    have hb : Dm h b := ha _ (List.mem_cons_self ..)
    have hne : b ≠ slot := fun e => by
      obtain ⟨x, hx⟩ := hb
      rw [e, (isHole_lt hs).2] at hx; cases hx
    rw [hget_hset_ne hne]
  · rfl
abbrev rB (t N : Nat) (f : Nat → Nat) : Option Blk := some ⟨t, [.ws .u8 N f], 0, 0⟩
def VRd (n c i : Nat) : List AV := [.v1 (.sc (.sl 0 0 n c)), pt 1 0, pt 2 0, .v1 (.sc (.sl 0 0 n c)), iv (Int.ofNat n), iv (Int.ofNat i)]
def HRd (t N : Nat) (f o : Nat → Nat) : Heap := [rB t N f, nb (fun _ => 0), nb o]
def InvRd (f : Nat → Nat) (n : Nat) (x : Nat × (Nat → Nat)) : Prop := x.1 ≤ n ∧ nv x.2 = byN f x.1 * 2 ^ (8 * (n - x.1))
theorem ilt_48 (n : Nat) : ilt 48 (Int.ofNat n) = Nat.blt 48 n := by
  rw [Bool.eq_iff_iff, ilt_iff, Nat.blt_eq]; simp; omega
theorem Lv_rB {t N : Nat} {f : Nat → Nat} : ∀ i, i < 1 → Lv [rB t N f] i := fun i hi => by
  have : i = 0 := by omega
  subst this; exact ⟨_, rfl, by simp⟩

theorem okRead : (CallC.rd cRead).Ok Try.prog 12 := by
  refine ⟨fun args h pre v e hp => ?_, fun args h slot blk hs ha => cRead_local args h slot blk hs ha⟩
  unfold cRead at e
  split at e
  · rename_i b n c
    split at e
    · rename_i t N f hb
      cases e
      have hnN : n ≤ N := hp _ (List.mem_cons_self ..)
      have hpk : pickH [b] h [b] = [rB t N f] := by
        show [pickB [b] (hget h b)] = _
        rw [hb]; rfl
      have hbk : bk [b] b = 0 := by simp [bk, idxN]
      have walk : AWqS Try.prog (Dm [rB t N f]) (flatC (bodyOf Try.f12)) (FEndM tt Try.f12 [0] (.tup [numV (rdV n f), .sc (.it (rdE n))]) [rB t N f]) ⟨frame0 [.v1 (.sc (.sl 0 0 n c))] Try.f12.ntmps, [rB t N f]⟩ := by
        have hD : ∀ (o : Nat → Nat) j, Dm [rB t N f] j → Dm (HRd t N f o) j := fun o j hj => by
          have : j = 0 := by have := Dm_lt hj; simpa using this
          subst this; exact ⟨_, rfl⟩
        cases hl : Nat.blt 48 n
        · have hn : n ≤ 48 := by
            have : ¬ 48 < n := by rw [← Nat.blt_eq, hl]; simp
            omega
          refine loopF mixed tt_ok GT_ok (by kernel_rfl) (ι := {x // InvRd f n x}) [0,2,4,12,13,14] 38 3 (fun x => VRd n c x.1.1) (fun x => HRd t N f x.1.2) (fun x => n - x.1.1) (fun x => x.1.1 = n)
            (fun _ => rfl) (fun _ => by kernel_rfl) (fun x j h => hD x.1.2 j h) 60 [⟨2,2,.lit (.bo false)⟩] ?_ ?_ ?_
          · refine same (p := ilt 48 (Int.ofNat n) = false ∧ true = true ∧ ∃ j : {x // InvRd f n x}, VRd n c 0 = VRd n c j.1.1 ∧ HRd t N f (fun _ => 0) = HRd t N f j.1.2) ?_ (by kernel_rfl)
            exact ⟨by rw [ilt_48, hl], rfl, ⟨(0, fun _ => 0), by simp, by simp only [zero_nv, byN]; omega⟩, rfl, rfl⟩
          · intro ⟨⟨i, o⟩, hi, hv⟩ junk
            simp only at hi hv
            by_cases hin : i < n
            · refine roundF mixed tt_ok GT_ok 60 [⟨5,0,.lit (.bo true)⟩,⟨6,1,.sym⟩,⟨6,2,.sym⟩,⟨7,2,.lit (.it (Int.ofNat (n-1)))⟩,⟨7,4,.lit (.it (Int.ofNat (n-1-i)))⟩,⟨8,1,.lit (.it (Int.ofNat ((n-1-i)/8)))⟩,⟨8,2,.sym⟩,⟨8,3,.sym⟩,⟨8,7,.lit (.it (Int.ofNat ((n-1-i)%8)))⟩,⟨8,8,.lit (.it (Int.ofNat (8*((n-1-i)%8))))⟩,⟨8,11,.sym⟩,⟨8,12,.sym⟩,⟨9,0,.lit (.it (Int.ofNat (i+1)))⟩] ?_
              refine same (p := ilt (Int.ofNat i) (Int.ofNat n) = true ∧ 0 ≤ Int.ofNat i ∧ Int.ofNat i < (n : Int) ∧ i < N ∧ wrapI (Int.ofNat n - 1) = Int.ofNat (n-1) ∧ wrapI (Int.ofNat (n-1) - Int.ofNat i) = Int.ofNat (n-1-i) ∧
                wrapI ((Int.ofNat (n-1-i)).tdiv 8) = Int.ofNat ((n-1-i)/8) ∧ ix ((n-1-i)/8) 6 ((Int.ofNat (n-1-i)).tmod 8 = Int.ofNat ((n-1-i)%8) ∧ wrapI (8 * Int.ofNat ((n-1-i)%8)) = Int.ofNat (8*((n-1-i)%8)) ∧
                ix ((n-1-i)/8) 6 (wrapI (Int.ofNat i + 1) = Int.ofNat (i+1) ∧ true = true ∧ ∃ j : {x // InvRd f n x}, n - j.1.1 < n - i ∧ VRd n c (i + 1) = VRd n c j.1.1 ∧ HRd t N f (upd o ((n-1-i)/8) (o ((n-1-i)/8) ||| f i % 256 * 2 ^ min (8*((n-1-i)%8)) 64)) = HRd t N f j.1.2))) ?_ (by kernel_rfl)
              have w1 : wrapI (Int.ofNat n - 1) = Int.ofNat (n-1) := by
                rw [wrapI_same (by simp only [Int.ofNat_eq_natCast]; omega) (by simp only [Int.ofNat_eq_natCast]; omega)]
                simp only [Int.ofNat_eq_natCast]; omega
              have w2 : wrapI (Int.ofNat (n-1) - Int.ofNat i) = Int.ofNat (n-1-i) := by
                rw [wrapI_same (by simp only [Int.ofNat_eq_natCast]; omega) (by simp only [Int.ofNat_eq_natCast]; omega)]
                simp only [Int.ofNat_eq_natCast]; omega
              refine ⟨ilt_t hin, Int.natCast_nonneg _, by simp; exact hin, by omega, w1, w2, tdiv8 ⟨n-1-i, by omega⟩, ix_of (by omega) ⟨tmod8 ⟨n-1-i, by omega⟩, mul8 ⟨(n-1-i) % 8, Nat.mod_lt _ (by omega)⟩, ix_of (by omega) ⟨wrapI_succ (by omega), rfl, ⟨(i + 1, upd o ((n-1-i)/8) (o ((n-1-i)/8) ||| f i % 256 * 2 ^ min (8*((n-1-i)%8)) 64)), ?_, ?_⟩, ?_, rfl, rfl⟩⟩⟩
              · simp only; omega
              · simp only
                exact read_step hn hin hv
              · simp only; omega
            · have : i = n := by omega
              subst this
              refine roundF mixed tt_ok GT_ok 60 [⟨5,0,.lit (.bo false)⟩] ?_
              refine same (p := ilt (Int.ofNat i) (Int.ofNat i) = false ∧ true = true ∧ ∃ j : {x // InvRd f i x}, j.1.1 = i ∧ VRd i c i = VRd i c j.1.1 ∧ HRd t N f o = HRd t N f j.1.2) ?_ (by kernel_rfl)
              exact ⟨ilt_f (by omega), rfl, ⟨(i, o), hi, hv⟩, rfl, rfl, rfl⟩
          · intro ⟨⟨i, o⟩, hi, hv⟩ junk hin
            simp only at hi hv hin
            subst hin
            refine same (p := true = true ∧ true = true ∧ SimH [rB t N f] [rB t N f] ∧ ∃ v', some (AV.tup [.agg [.ws .u64 6 o], .sc (.it 0)]) = some v' ∧ avB [rB t N f] (bkAV [0] v') = true ∧ ∀ ρ, (bkAV [0] v').val ρ = (AV.tup [numV (rdV i f), .sc (.it (rdE i))]).val ρ) ?_ (by kernel_rfl)
            refine ⟨rfl, rfl, ⟨⟨rfl, rfl, rfl, fun _ => rfl⟩, trivial⟩, _, rfl, rfl, fun ρ => ?_⟩
            have hE : rdE i = 0 := by unfold rdE; rw [hl]; rfl
            have hV : rdV i f = byN f i := by unfold rdV; rw [hl]; rfl
            show (AV.tup [.agg [.ws .u64 6 o], .sc (.it 0)]).val ρ = _
            simp only [AV.val, List.map_cons, List.map_nil]
            rw [hV, hE, numV_val (n := byN f i) (by
              have h0 : nv o = byN f i := by rw [hv]; simp
              rw [← h0, Nat.mod_eq_of_lt (nv_lt o)]) ρ]
        · refine evS_q mixed tt_ok GT_ok 60 [⟨2,2,.lit (.bo true)⟩] ?_
          refine same (p := ilt 48 (Int.ofNat n) = true ∧ true = true ∧ true = true ∧ SimH [rB t N f] [rB t N f] ∧ ∃ v', some (AV.tup [zN, .sc (.it 3)]) = some v' ∧ avB [rB t N f] (bkAV [0] v') = true ∧ ∀ ρ, (bkAV [0] v').val ρ = (AV.tup [numV (rdV n f), .sc (.it (rdE n))]).val ρ) ?_ (by kernel_rfl)
          refine ⟨by rw [ilt_48, hl], rfl, rfl, ⟨⟨rfl, rfl, rfl, fun _ => rfl⟩, trivial⟩, _, rfl, rfl, fun ρ => ?_⟩
          have hE : rdE n = 3 := by unfold rdE; rw [hl]; rfl
          have hV : rdV n f = 0 := by unfold rdV; rw [hl]; rfl
          show (AV.tup [zN, .sc (.it 3)]).val ρ = _
          simp only [AV.val, List.map_cons, List.map_nil]
          rw [hV, hE, zero_num]
      refine mem_walk tt_ok Try.func12 (by kernel_rfl) (by kernel_rfl) [b] [] 0 [rB t N f] [rB t N f] (args' := [.v1 (.sc (.sl 0 0 n c))]) (vK := .tup [numV (rdV n f), .sc (.it (rdE n))])
        (by kernel_rfl) hpk (by kernel_rfl) ?_ (by kernel_rfl) Lv_rB (by kernel_rfl) (by kernel_rfl) (fun i hi => (Lv_rB i (by simpa using hi)).dm) (by kernel_rfl) hpk rfl (fun t ht => by simp at ht) (fun _ _ _ => rfl) walk
      show [AV.v1 (.sc (.sl (bk [b] b) 0 n c))] = _
      rw [hbk]
    · cases e
  · cases e
end Go.Proofs.Ytiaongfgkmbaaaa
