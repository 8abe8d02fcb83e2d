/- Div64, Rem64: a double word by a word. -/
import Derived.Test.YtafiafkeigdjhaaL0
namespace Go.Proofs.Ytafiafkeigdjhaa
open Go.Rq Go
set_option linter.unusedVariables false
set_option linter.unusedSimpArgs false

def cLz : List AV → Option (List Prop × AV)
  | [.v1 (.sc (.w .u64 x))] => some ([], .v1 (.sc (.it (Int.ofNat (64 - blen (x % W))))))
  | _ => none
def GLz : Ctx := ctxL [(54, .pure cLen64)]
theorem GLz_ok : CtxOk Try.prog GLz := ctxL_cons okLen64 ctxL_nil
theorem okLz : (CallC.pure cLz).Ok Try.prog 74 := by
  intro args pre v h _
  unfold cLz at h
  split at h
  · rename_i x
    cases h
    refine pure_fn mixed tt_ok GLz_ok Try.func74 (by kernel_rfl) (by kernel_rfl) (by kernel_rfl) (by kernel_rfl) 50 [] ?_
    refine same (p := some (AV.v1 (.sc (.it (wrapI (64 - Int.ofNat (blen (x % W))))))) = some (AV.v1 (.sc (.it (Int.ofNat (64 - blen (x % W))))))) ?_ (by kernel_rfl)
    have hb := blen_lt (n := x % W) (k := 64) (by simpa [W] using Nat.mod_lt x (show 0 < W by decide))
    rw [show (64 : Int) - Int.ofNat (blen (x % W)) = Int.ofNat (64 - blen (x % W)) by simp; omega, wrapI_small (by omega)]
  · cases h

/-- The quotient and what is left. -/
def cDiv64 : List AV → Option (List Prop × AV)
  | [.v1 (.sc (.w .u64 h)), .v1 (.sc (.w .u64 l)), .v1 (.sc (.w .u64 y))] => some ([h % W < y % W], .tup [.sc (.w .u64 ((h % W * W + l % W) / (y % W))), .sc (.w .u64 ((h % W * W + l % W) % (y % W)))])
  | _ => none
def GDv : Ctx := ctxL [(74, .pure cLz)]
theorem GDv_ok : CtxOk Try.prog GDv := ctxL_cons okLz ctxL_nil
def VD0 (Y s a b u c d q r : Nat) : List AV := [uv Y, uv s, uv a, uv b, uv u, uv c, uv d, uv q, uv r]
def VD1 (Y s a b u c d q : Nat) : List AV := [uv Y, uv s, uv a, uv b, uv u, uv c, uv d, uv q]
def VE0 (Y s a b d q t e r : Nat) : List AV := [uv Y, uv s, uv a, uv b, uv d, uv q, uv t, uv e, uv r]
def VE1 (Y s d q t e : Nat) : List AV := [uv Y, uv s, uv d, uv q, uv t, uv e]
abbrev InvK (U A b c : Nat) (x : Nat × Nat) : Prop := KI U A b c (x.1 % W) (x.2 % W)
theorem okDiv64 : (CallC.pure cDiv64).Ok Try.prog 72 := by
  intro args pre v e hp
  unfold cDiv64 at e
  split at e
  rotate_left
  · cases e
  rename_i h l y
  cases e
  have hlt : h % W < y % W := hp _ (List.mem_cons_self ..)
  have hy : y % W < W := Nat.mod_lt _ (by decide)
  have hl : l % W < W := Nat.mod_lt _ (by decide)
  have p1 : Nat.beq (y % W) 0 = false := by rw [← Bool.not_eq_true, Nat.beq_eq]; omega
  have p2 : Nat.ble (y % W) (h % W) = false := by rw [← Bool.not_eq_true, Nat.ble_eq]; omega
  refine pure_walk' tt_ok Try.func72 (by kernel_rfl) (by kernel_rfl) (by rfl) (by rfl) ?_
  by_cases h0 : h % W = 0
  · refine evS_q mixed tt_ok GDv_ok 100 [⟨1,1,.lit (.bo false)⟩,⟨3,2,.lit (.bo false)⟩,⟨5,1,.lit (.bo true)⟩,⟨6,2,.sym⟩,⟨6,5,.sym⟩] ?_
    refine same (p := Nat.beq (y % W) 0 = false ∧ Nat.ble (y % W) (h % W) = false ∧ Nat.beq (h % W) 0 = true ∧ Nat.beq (y % W) 0 = false ∧ Nat.beq (y % W) 0 = false ∧
      ∃ v', some (AV.tup [.sc (.w .u64 (l % W / (y % W))), .sc (.w .u64 (l % W % (y % W)))]) = some v' ∧ ∀ ρ, v'.val ρ = (AV.tup [.sc (.w .u64 ((h % W * W + l % W) / (y % W))), .sc (.w .u64 ((h % W * W + l % W) % (y % W)))]).val ρ) ?_ (by kernel_rfl)
    exact ⟨p1, p2, by rw [Nat.beq_eq]; exact h0, p1, p1, _, rfl, fun ρ => by rw [h0, Nat.zero_mul, Nat.zero_add]⟩
  have p3 : Nat.beq (h % W) 0 = false := by rw [← Bool.not_eq_true, Nat.beq_eq]; exact h0
  have hy0 : y % W ≠ 0 := by omega
  obtain ⟨n1, n2, n3, n4⟩ := norm_y hy0 hy
  obtain ⟨s, hsd⟩ : ∃ s, s = 64 - blen (y % W) := ⟨_, rfl⟩
  rw [← hsd] at n3 n4
  have hs64 : s ≤ 64 := by omega
  have hsm : min (s % W) 64 = s := by
    rw [Nat.mod_eq_of_lt (Nat.lt_of_le_of_lt hs64 (by decide))]; omega
  have hsm2 : min ((64 + (18446744073709551616 - s % W)) % W) 64 = 64 - s := by
    rw [Nat.mod_eq_of_lt (a := s) (Nat.lt_of_le_of_lt hs64 (by decide))]
    simp only [W]
    omega
  have hst : toU .u64 (Int.ofNat (64 - blen (y % W))) = s := by
    have := toU_eq (k := .u64) rfl (Int.ofNat (64 - blen (y % W)))
    rw [← hsd] at this
    rw [← hsd]
    rw [wrap_uns rfl, show ((M .u64 : Nat) : Int) = 18446744073709551616 from rfl] at this
    simp only [Int.ofNat_eq_natCast] at this ⊢
    clear hsm hsm2
    omega
  obtain ⟨Y, hY⟩ : ∃ x, x = y * 2 ^ s := ⟨_, rfl⟩
  obtain ⟨A, hA⟩ : ∃ x, x = Y % W / 4294967296 := ⟨_, rfl⟩
  obtain ⟨b, hb⟩ : ∃ x, x = Y &&& 4294967295 := ⟨_, rfl⟩
  obtain ⟨u, hu⟩ : ∃ x, x = (h * 2 ^ s ||| l % W / 2 ^ (64 - s)) := ⟨_, rfl⟩
  obtain ⟨un, hun⟩ : ∃ x, x = l * 2 ^ s := ⟨_, rfl⟩
  obtain ⟨c, hc⟩ : ∃ x, x = un % W / 4294967296 := ⟨_, rfl⟩
  obtain ⟨d, hd⟩ : ∃ x, x = un &&& 4294967295 := ⟨_, rfl⟩
  have hYw : Y % W = y % W * 2 ^ s := by rw [hY]; exact low_y n4
  have hlow : h % W * 2 ^ s < W := Nat.lt_trans (Nat.mul_lt_mul_of_pos_right hlt (Nat.two_pow_pos s)) n4
  have huw : u % W = h % W * 2 ^ s + l % W / 2 ^ (64 - s) := by rw [hu]; exact or_u hs64 hl hlow
  have hunw : un % W = l % W * 2 ^ s % W := by rw [hun, Nat.mul_mod, ← Nat.mod_mod l W, ← Nat.mul_mod, Nat.mod_mod]
  obtain ⟨m1, m2⟩ := norm_u (h := h % W) (l := l % W) (y := y % W) hs64 hl hlt
  rw [← huw, ← hunw] at m1
  rw [← huw, ← hYw] at m2
  obtain ⟨U, hU⟩ : ∃ x, x = u % W := ⟨_, rfl⟩
  have hbm : b = Y % W % 4294967296 := by rw [hb, and_mask]; simp only [W]; omega
  have hdm : d = un % W % 4294967296 := by rw [hd, and_mask]; simp only [W]; omega
  have hYlt : Y % W < 18446744073709551616 := Nat.mod_lt _ (by decide)
  have hYge : 9223372036854775808 ≤ Y % W := by rw [hYw]; exact n3
  have hunlt : un % W < 18446744073709551616 := Nat.mod_lt _ (by decide)
  have hYe : Y % W = A * 4294967296 + b := by rw [hA, hbm]; omega
  have hune : un % W = c * 4294967296 + d := by rw [hc, hdm]; omega
  have hA1 : 2147483648 ≤ A := by omega
  have hA2 : A < 4294967296 := by omega
  have hb2 : b < 4294967296 := by omega
  have hc2 : c < 4294967296 := by omega
  have hd2 : d < 4294967296 := by omega
  have hAm : A % W = A := Nat.mod_eq_of_lt (Nat.lt_trans hA2 (by decide))
  have hUY : U < A * 4294967296 + b := by rw [hU, ← hYe]; exact m2
  have hUlt : U < 18446744073709551616 := by omega
  obtain ⟨q0, hq0⟩ : ∃ x, x = u % W / (A % W) := ⟨_, rfl⟩
  obtain ⟨r0, hr0⟩ : ∃ x, x = u + (W - q0 * A % W) := ⟨_, rfl⟩
  have hq0' : q0 = u % W / A := by rw [hq0, hAm]
  have p4 : Nat.beq (A % W) 0 = false := by rw [hAm, ← Bool.not_eq_true, Nat.beq_eq]; omega
  refine loopX mixed tt_ok GDv_ok 0 (by kernel_rfl) (ι := {x // InvK U A b c x}) (κ := Nat) [2,8,9,10,11,13,14,15,16] [2,8,9,10,11,13,14,15] 135 1
    (fun x => VD0 Y s A b u c d x.1.1 x.1.2) (fun _ => [none]) (fun x => x.1.1 % W) (fun q => VD1 Y s A b u c d q) (fun _ => [none]) (fun q => q % W = (U * 4294967296 + c) / (A * 4294967296 + b))
    (fun _ => rfl) (fun _ => by kernel_rfl) (fun _ _ h => h.elim) (fun _ => rfl) (fun _ => by kernel_rfl) (fun _ _ h => h.elim) 100 [⟨1,1,.lit (.bo false)⟩,⟨3,2,.lit (.bo false)⟩,⟨5,1,.lit (.bo false)⟩,⟨7,2,.lit (.w .u64 s)⟩,⟨8,2,.lit (.w .u64 Y)⟩,⟨9,1,.lit (.w .u64 A)⟩,⟨10,1,.lit (.w .u64 b)⟩,⟨11,7,.lit (.w .u64 u)⟩,⟨12,2,.lit (.w .u64 un)⟩,⟨13,1,.lit (.w .u64 c)⟩,⟨14,1,.lit (.w .u64 d)⟩,⟨15,2,.sym⟩,⟨15,3,.lit (.w .u64 q0)⟩,⟨16,4,.lit (.w .u64 r0)⟩] ?_ ?_ ?_
  · refine same (p := Nat.beq (y % W) 0 = false ∧ Nat.ble (y % W) (h % W) = false ∧ Nat.beq (h % W) 0 = false ∧ toU .u64 (Int.ofNat (64 - blen (y % W))) = s ∧ y * 2 ^ min (s % W) 64 = Y ∧ Y % W / 4294967296 = A ∧ (Y &&& 4294967295) = b ∧
      (h * 2 ^ min (s % W) 64 ||| l % W / 2 ^ min ((64 + (18446744073709551616 - s % W)) % W) 64) = u ∧ l * 2 ^ min (s % W) 64 = un ∧ un % W / 4294967296 = c ∧ (un &&& 4294967295) = d ∧ Nat.beq (A % W) 0 = false ∧ u % W / (A % W) = q0 ∧ u + (W - q0 * A % W) = r0 ∧
      true = true ∧ ∃ j : {x // InvK U A b c x}, VD0 Y s A b u c d q0 r0 = VD0 Y s A b u c d j.1.1 j.1.2 ∧ [none] = ([none] : Heap)) ?_ (by kernel_rfl)
    rw [hsm, hsm2]
    refine ⟨p1, p2, p3, hst, hY.symm, hA.symm, hb.symm, hu.symm, hun.symm, hc.symm, hd.symm, p4, hq0.symm, hr0.symm, rfl, ⟨(q0, r0), ?_⟩, rfl, rfl⟩
    have e1 : q0 % W = U / A := by
      rw [hq0', ← hU, Nat.mod_eq_of_lt]
      exact Nat.lt_of_le_of_lt (Nat.div_le_self _ _) (by rw [hU]; exact Nat.mod_lt _ (by decide))
    have e2 : r0 % W = U % A := by rw [hr0, first_r (by omega) hq0', hU]
    unfold InvK
    simp only
    rw [e1, e2]
    exact KI.start hA1 hA2 hc2
  · intro ⟨⟨q, r⟩, hI⟩ junk
    have hK : KI U A b c (q % W) (r % W) := hI
    have hs := hK.small hA1 hUlt
    have hz := add_w (r := r) (a := A) hK.lt hA2
    have hh := hi_w (r := r) (c := c) hK.lt hc2
    have step : (4294967296 ≤ q % W ∨ 4294967296 * (r % W) + c < q % W * b) → 1 ≤ q % W ∧ (q % W - 1) * A + (r % W + A) = U ∧ (U * 4294967296 + c) / (A * 4294967296 + b) ≤ q % W - 1 := hK.dec hUY hc2
    by_cases h1 : 4294967296 ≤ q % W
    ·
      obtain ⟨g1, g2, g3⟩ := step (.inl h1)
      have hd := dec_w g1
      by_cases hr : 4294967296 ≤ r % W + A
      · refine roundF mixed tt_ok GDv_ok 100 [⟨17,1,.lit (.bo true)⟩,⟨20,1,.lit (.bo true)⟩] ?_
        refine same (p := Nat.ble 4294967296 (q % W) = true ∧ Nat.ble 4294967296 ((r + A) % W) = true ∧ true = true ∧ ∃ j : Nat, j % W = (U * 4294967296 + c) / (A * 4294967296 + b) ∧ VD1 Y s A b u c d (q + 18446744073709551615) = VD1 Y s A b u c d j ∧ [none] = ([none] : Heap)) ?_ (by kernel_rfl)
        exact ⟨Nat.ble_eq_true_of_le h1, by rw [hz]; exact Nat.ble_eq_true_of_le hr, rfl, q + 18446744073709551615, by rw [hd]; exact KI.brk hUY hb2 g2 g3 hr (by omega), rfl, rfl⟩
      · refine roundF mixed tt_ok GDv_ok 100 [⟨17,1,.lit (.bo true)⟩,⟨20,1,.lit (.bo false)⟩] ?_
        refine same (p := Nat.ble 4294967296 (q % W) = true ∧ Nat.ble 4294967296 ((r + A) % W) = false ∧ true = true ∧ ∃ j : {x // InvK U A b c x}, j.1.1 % W < q % W ∧ VD0 Y s A b u c d (q + 18446744073709551615) (r + A) = VD0 Y s A b u c d j.1.1 j.1.2 ∧ [none] = ([none] : Heap)) ?_ (by kernel_rfl)
        exact ⟨Nat.ble_eq_true_of_le h1, by rw [hz, ← Bool.not_eq_true, Nat.ble_eq]; exact hr, rfl, ⟨(q + 18446744073709551615, r + A), by unfold InvK; simp only; rw [hd, hz]; exact ⟨g2, g3, by omega⟩⟩, by simp only; rw [hd]; omega, rfl, rfl⟩
    · have hq := qb_w (q := q) (b := b) (by omega) hb2
      have p1 : Nat.ble 4294967296 (q % W) = false := by rw [← Bool.not_eq_true, Nat.ble_eq]; exact h1
      by_cases h2 : 4294967296 * (r % W) + c < q % W * b
      · have p2 : Nat.blt ((4294967296 * r + c) % W) (q * b % W) = true := by rw [hh, hq, Nat.blt_eq]; exact h2
        obtain ⟨g1, g2, g3⟩ := step (.inr h2)
        have hd := dec_w g1
        by_cases hr : 4294967296 ≤ r % W + A
        · refine roundF mixed tt_ok GDv_ok 100 [⟨17,1,.lit (.bo false)⟩,⟨17,10,.lit (.bo true)⟩,⟨20,1,.lit (.bo true)⟩] ?_
          refine same (p := Nat.ble 4294967296 (q % W) = false ∧ Nat.blt ((4294967296 * r + c) % W) (q * b % W) = true ∧ Nat.ble 4294967296 ((r + A) % W) = true ∧ true = true ∧ ∃ j : Nat, j % W = (U * 4294967296 + c) / (A * 4294967296 + b) ∧ VD1 Y s A b u c d (q + 18446744073709551615) = VD1 Y s A b u c d j ∧ [none] = ([none] : Heap)) ?_ (by kernel_rfl)
          exact ⟨p1, p2, by rw [hz]; exact Nat.ble_eq_true_of_le hr, rfl, q + 18446744073709551615, by rw [hd]; exact KI.brk hUY hb2 g2 g3 hr (by omega), rfl, rfl⟩
        · refine roundF mixed tt_ok GDv_ok 100 [⟨17,1,.lit (.bo false)⟩,⟨17,10,.lit (.bo true)⟩,⟨20,1,.lit (.bo false)⟩] ?_
          refine same (p := Nat.ble 4294967296 (q % W) = false ∧ Nat.blt ((4294967296 * r + c) % W) (q * b % W) = true ∧ Nat.ble 4294967296 ((r + A) % W) = false ∧ true = true ∧ ∃ j : {x // InvK U A b c x}, j.1.1 % W < q % W ∧ VD0 Y s A b u c d (q + 18446744073709551615) (r + A) = VD0 Y s A b u c d j.1.1 j.1.2 ∧ [none] = ([none] : Heap)) ?_ (by kernel_rfl)
          exact ⟨p1, p2, by rw [hz, ← Bool.not_eq_true, Nat.ble_eq]; exact hr, rfl, ⟨(q + 18446744073709551615, r + A), by unfold InvK; simp only; rw [hd, hz]; exact ⟨g2, g3, by omega⟩⟩, by simp only; rw [hd]; omega, rfl, rfl⟩
      · have p2 : Nat.blt ((4294967296 * r + c) % W) (q * b % W) = false := by rw [hh, hq, ← Bool.not_eq_true, Nat.blt_eq]; exact h2
        refine roundF mixed tt_ok GDv_ok 100 [⟨17,1,.lit (.bo false)⟩,⟨17,10,.lit (.bo false)⟩] ?_
        refine same (p := Nat.ble 4294967296 (q % W) = false ∧ Nat.blt ((4294967296 * r + c) % W) (q * b % W) = false ∧ true = true ∧ ∃ j : Nat, j % W = (U * 4294967296 + c) / (A * 4294967296 + b) ∧ VD1 Y s A b u c d q = VD1 Y s A b u c d j ∧ [none] = ([none] : Heap)) ?_ (by kernel_rfl)
        exact ⟨p1, p2, rfl, q, hK.out hA1 (by omega), rfl, rfl⟩
  · intro k junk hk
    obtain ⟨t, ht⟩ : ∃ x, x = u * 4294967296 + c + (W - k * Y % W) := ⟨_, rfl⟩
    obtain ⟨U2, hU2⟩ : ∃ x, x = (U * 4294967296 + c) % (A * 4294967296 + b) := ⟨_, rfl⟩
    have hYpos : 0 < A * 4294967296 + b := by omega
    have hU2Y : U2 < A * 4294967296 + b := by rw [hU2]; exact Nat.mod_lt _ hYpos
    have hdm1 := Nat.div_add_mod (U * 4294967296 + c) (A * 4294967296 + b)
    rw [← hU2, ← hk, Nat.mul_comm] at hdm1
    have htw : t % W = U2 := by
      rw [ht, rest_w (U := U) (Q := k % W) (Y := Y) hU.symm rfl (by rw [hYe]; omega) (by rw [hYe]; show _ < 18446744073709551616; omega), hYe]
      omega
    obtain ⟨q1, hq1⟩ : ∃ x, x = t % W / (A % W) := ⟨_, rfl⟩
    obtain ⟨r1, hr1⟩ : ∃ x, x = t + (W - q1 * A % W) := ⟨_, rfl⟩
    have hq1' : q1 = t % W / A := by rw [hq1, hAm]
    have hU2lt : U2 < 18446744073709551616 := by omega
    refine loopX mixed tt_ok GDv_ok 0 (by kernel_rfl) (ι := {x // InvK U2 A b d x}) (κ := Nat) [2,8,9,10,14,15,17,18,16] [2,8,14,15,17,18] 135 1
      (fun x => VE0 Y s A b d k t x.1.1 x.1.2) (fun _ => [none]) (fun x => x.1.1 % W) (fun q => VE1 Y s d k t q) (fun _ => [none]) (fun q => q % W = (U2 * 4294967296 + d) / (A * 4294967296 + b))
      (fun _ => rfl) (fun _ => by kernel_rfl) (fun _ _ h => h.elim) (fun _ => rfl) (fun _ => by kernel_rfl) (fun _ _ h => h.elim) 100 [⟨21,7,.lit (.w .u64 t)⟩,⟨22,2,.sym⟩,⟨22,3,.lit (.w .u64 q1)⟩,⟨23,4,.lit (.w .u64 r1)⟩] ?_ ?_ ?_
    · refine same (p := u * 4294967296 + c + (W - k * Y % W) = t ∧ Nat.beq (A % W) 0 = false ∧ t % W / (A % W) = q1 ∧ t + (W - q1 * A % W) = r1 ∧
        true = true ∧ ∃ j : {x // InvK U2 A b d x}, VE0 Y s A b d k t q1 r1 = VE0 Y s A b d k t j.1.1 j.1.2 ∧ [none] = ([none] : Heap)) ?_ (by kernel_rfl)
      refine ⟨ht.symm, p4, hq1.symm, hr1.symm, rfl, ⟨(q1, r1), ?_⟩, rfl, rfl⟩
      have e1 : q1 % W = U2 / A := by
        rw [hq1', htw, Nat.mod_eq_of_lt]
        exact Nat.lt_of_le_of_lt (Nat.div_le_self _ _) hU2lt
      have e2 : r1 % W = U2 % A := by rw [hr1, first_r (by omega) hq1', htw]
      unfold InvK
      simp only
      rw [e1, e2]
      exact KI.start hA1 hA2 hd2
    · intro ⟨⟨q, r⟩, hI⟩ junk
      have hK : KI U2 A b d (q % W) (r % W) := hI
      have hs := hK.small hA1 hU2lt
      have hz := add_w (r := r) (a := A) hK.lt hA2
      have hh := hi_w (r := r) (c := d) hK.lt hd2
      have step : (4294967296 ≤ q % W ∨ 4294967296 * (r % W) + d < q % W * b) → 1 ≤ q % W ∧ (q % W - 1) * A + (r % W + A) = U2 ∧ (U2 * 4294967296 + d) / (A * 4294967296 + b) ≤ q % W - 1 := hK.dec hU2Y hd2
      by_cases h1 : 4294967296 ≤ q % W
      ·
        obtain ⟨g1, g2, g3⟩ := step (.inl h1)
        have hd := dec_w g1
        by_cases hr : 4294967296 ≤ r % W + A
        · refine roundF mixed tt_ok GDv_ok 100 [⟨24,1,.lit (.bo true)⟩,⟨27,1,.lit (.bo true)⟩] ?_
          refine same (p := Nat.ble 4294967296 (q % W) = true ∧ Nat.ble 4294967296 ((r + A) % W) = true ∧ true = true ∧ ∃ j : Nat, j % W = (U2 * 4294967296 + d) / (A * 4294967296 + b) ∧ VE1 Y s d k t (q + 18446744073709551615) = VE1 Y s d k t j ∧ [none] = ([none] : Heap)) ?_ (by kernel_rfl)
          exact ⟨Nat.ble_eq_true_of_le h1, by rw [hz]; exact Nat.ble_eq_true_of_le hr, rfl, q + 18446744073709551615, by rw [hd]; exact KI.brk hU2Y hb2 g2 g3 hr (by omega), rfl, rfl⟩
        · refine roundF mixed tt_ok GDv_ok 100 [⟨24,1,.lit (.bo true)⟩,⟨27,1,.lit (.bo false)⟩] ?_
          refine same (p := Nat.ble 4294967296 (q % W) = true ∧ Nat.ble 4294967296 ((r + A) % W) = false ∧ true = true ∧ ∃ j : {x // InvK U2 A b d x}, j.1.1 % W < q % W ∧ VE0 Y s A b d k t (q + 18446744073709551615) (r + A) = VE0 Y s A b d k t j.1.1 j.1.2 ∧ [none] = ([none] : Heap)) ?_ (by kernel_rfl)
          exact ⟨Nat.ble_eq_true_of_le h1, by rw [hz, ← Bool.not_eq_true, Nat.ble_eq]; exact hr, rfl, ⟨(q + 18446744073709551615, r + A), by unfold InvK; simp only; rw [hd, hz]; exact ⟨g2, g3, by omega⟩⟩, by simp only; rw [hd]; omega, rfl, rfl⟩
      · have hq := qb_w (q := q) (b := b) (by omega) hb2
        have p1 : Nat.ble 4294967296 (q % W) = false := by rw [← Bool.not_eq_true, Nat.ble_eq]; exact h1
        by_cases h2 : 4294967296 * (r % W) + d < q % W * b
        · have p2 : Nat.blt ((4294967296 * r + d) % W) (q * b % W) = true := by rw [hh, hq, Nat.blt_eq]; exact h2
          obtain ⟨g1, g2, g3⟩ := step (.inr h2)
          have hd := dec_w g1
          by_cases hr : 4294967296 ≤ r % W + A
          · refine roundF mixed tt_ok GDv_ok 100 [⟨24,1,.lit (.bo false)⟩,⟨24,10,.lit (.bo true)⟩,⟨27,1,.lit (.bo true)⟩] ?_
            refine same (p := Nat.ble 4294967296 (q % W) = false ∧ Nat.blt ((4294967296 * r + d) % W) (q * b % W) = true ∧ Nat.ble 4294967296 ((r + A) % W) = true ∧ true = true ∧ ∃ j : Nat, j % W = (U2 * 4294967296 + d) / (A * 4294967296 + b) ∧ VE1 Y s d k t (q + 18446744073709551615) = VE1 Y s d k t j ∧ [none] = ([none] : Heap)) ?_ (by kernel_rfl)
            exact ⟨p1, p2, by rw [hz]; exact Nat.ble_eq_true_of_le hr, rfl, q + 18446744073709551615, by rw [hd]; exact KI.brk hU2Y hb2 g2 g3 hr (by omega), rfl, rfl⟩
          · refine roundF mixed tt_ok GDv_ok 100 [⟨24,1,.lit (.bo false)⟩,⟨24,10,.lit (.bo true)⟩,⟨27,1,.lit (.bo false)⟩] ?_
            refine same (p := Nat.ble 4294967296 (q % W) = false ∧ Nat.blt ((4294967296 * r + d) % W) (q * b % W) = true ∧ Nat.ble 4294967296 ((r + A) % W) = false ∧ true = true ∧ ∃ j : {x // InvK U2 A b d x}, j.1.1 % W < q % W ∧ VE0 Y s A b d k t (q + 18446744073709551615) (r + A) = VE0 Y s A b d k t j.1.1 j.1.2 ∧ [none] = ([none] : Heap)) ?_ (by kernel_rfl)
            exact ⟨p1, p2, by rw [hz, ← Bool.not_eq_true, Nat.ble_eq]; exact hr, rfl, ⟨(q + 18446744073709551615, r + A), by unfold InvK; simp only; rw [hd, hz]; exact ⟨g2, g3, by omega⟩⟩, by simp only; rw [hd]; omega, rfl, rfl⟩
        · have p2 : Nat.blt ((4294967296 * r + d) % W) (q * b % W) = false := by rw [hh, hq, ← Bool.not_eq_true, Nat.blt_eq]; exact h2
          refine roundF mixed tt_ok GDv_ok 100 [⟨24,1,.lit (.bo false)⟩,⟨24,10,.lit (.bo false)⟩] ?_
          refine same (p := Nat.ble 4294967296 (q % W) = false ∧ Nat.blt ((4294967296 * r + d) % W) (q * b % W) = false ∧ true = true ∧ ∃ j : Nat, j % W = (U2 * 4294967296 + d) / (A * 4294967296 + b) ∧ VE1 Y s d k t q = VE1 Y s d k t j ∧ [none] = ([none] : Heap)) ?_ (by kernel_rfl)
          exact ⟨p1, p2, rfl, q, hK.out hA1 (by omega), rfl, rfl⟩
    · intro e junk he
      refine evS_q mixed tt_ok GDv_ok 100 [] ?_
      refine same (p := ∃ v', some (AV.tup [.sc (.w .u64 (k * 4294967296 + e)), .sc (.w .u64 ((t * 4294967296 + d + (W - e * Y % W)) % W / 2 ^ min (s % W) 64))]) = some v' ∧ ∀ ρ, v'.val ρ = (AV.tup [.sc (.w .u64 ((h % W * W + l % W) / (y % W))), .sc (.w .u64 ((h % W * W + l % W) % (y % W)))]).val ρ) ?_ (by kernel_rfl)
      refine ⟨_, rfl, fun ρ => ?_⟩
      have hD := two_div (U := U) (Y := A * 4294967296 + b) (c := c) (d := d) hYpos hUY hc2 hd2
      simp only at hD
      rw [← hU2, ← hk, ← he] at hD
      obtain ⟨d1, d2, d3, d4, d5⟩ := hD
      have hN : U * 18446744073709551616 + (c * 4294967296 + d) = (h % W * W + l % W) * 2 ^ s := by rw [← hune, hU]; exact m1
      rw [hN, ← hYe, hYw] at d1 d2
      obtain ⟨z1, z2⟩ := shift_mod (N := h % W * W + l % W) (y := y % W) (s := s)
      rw [z2] at d1
      have hdm2 := Nat.div_add_mod (U2 * 4294967296 + d) (A * 4294967296 + b)
      rw [← he, Nat.mul_comm] at hdm2
      have hm2 : (U2 * 4294967296 + d) % (A * 4294967296 + b) < A * 4294967296 + b := Nat.mod_lt _ hYpos
      have hrw : (t * 4294967296 + d + (W - e * Y % W)) % W = (U2 * 4294967296 + d) % (A * 4294967296 + b) := by
        rw [rest_w (U := U2) (Q := e % W) (Y := Y) htw rfl (by rw [hYe]; omega) (by rw [hYe]; show _ < 18446744073709551616; omega), hYe]
        omega
      rw [hrw, hsm, ← hYe, hYw, ← d2, z1]
      have hquo : (k * 4294967296 + e) % W = (h % W * W + l % W) / (y % W) % W := by
        rw [d1]
        exact two_w k e
      simp only [AV.val, List.map_cons, List.map_nil, V1.val, Sc.val, M]
      simp only [W] at hquo
      simp only [W]
      rw [hquo]
def cRem64 : List AV → Option (List Prop × AV)
  | [.v1 (.sc (.w .u64 h)), .v1 (.sc (.w .u64 l)), .v1 (.sc (.w .u64 y))] => some ([0 < y % W], uv ((h % W * W + l % W) % (y % W)))
  | _ => none
def GRm : Ctx := ctxL [(72, .pure cDiv64)]
theorem GRm_ok : CtxOk Try.prog GRm := ctxL_cons okDiv64 ctxL_nil
theorem okRem64 : (CallC.pure cRem64).Ok Try.prog 68 := by
  intro args pre v e hp
  unfold cRem64 at e
  split at e
  rotate_left
  · cases e
  rename_i h l y
  cases e
  have hy : 0 < y % W := hp _ (List.mem_cons_self ..)
  have hyw : y % W < W := Nat.mod_lt _ (by decide)
  refine pure_walk' tt_ok Try.func68 (by kernel_rfl) (by kernel_rfl) (by rfl) (by rfl) ?_
  obtain ⟨g, hg⟩ : ∃ x, x = h % W % (y % W) := ⟨_, rfl⟩
  refine evS_q mixed tt_ok GRm_ok 100 [⟨1,2,.sym⟩] ?_
  have hgl : g < y % W := by rw [hg]; exact Nat.mod_lt _ hy
  have hgw : g % W = g := Nat.mod_eq_of_lt (Nat.lt_trans hgl hyw)
  refine same (p := Nat.beq (y % W) 0 = false ∧ h % W % (y % W) % W < y % W ∧ ∃ v', some (uv ((h % W % (y % W) % W * W + l % W) % (y % W))) = some v' ∧ ∀ ρ, v'.val ρ = (uv ((h % W * W + l % W) % (y % W))).val ρ) ?_ (by kernel_rfl)
  rw [← hg, hgw]
  refine ⟨by rw [← Bool.not_eq_true, Nat.beq_eq]; omega, hgl, _, rfl, fun ρ => ?_⟩
  have : (g * W + l % W) % (y % W) = (h % W * W + l % W) % (y % W) := by
    rw [hg, Nat.add_mod, Nat.mul_mod, Nat.mod_mod, ← Nat.mul_mod, ← Nat.add_mod]
  rw [this]
end Go.Proofs.Ytafiafkeigdjhaa
