/- reliquarylaw01.WordsShifts answers true at every input, and leaves it as it was. Conditions: none. -/
import Derived.Test.YtiaongfgkmbaaaaRows
import Derived.Test.YtiaongfgkmbaaaaW10
import Derived.Test.YtiaongfgkmbaaaaWL
import Derived.ProofKit
namespace Go.Proofs.Ytiaongfgkmbaaaa
open Go.Rq Go Go.ChangeShapes Go.WideShapes Go.ChangeAt Go.RowKit

/-! Pick -/
def pk (x : Int) : Nat := (x % 384).toNat
theorem pk_lt (x : Int) : pk x < 384 := by unfold pk; omega
def cPick : List AV → Option (List Prop × AV)
  | [.v1 (.sc (.it x)), .v1 (.sc (.it (.ofNat 384)))] => some ([], .v1 (.sc (.it (Int.ofNat (pk x)))))
  | _ => none
theorem okPick : (CallC.pure cPick).Ok Try.prog 41 := by
  intro args pre v h _
  unfold cPick at h
  split at h
  · rename_i x
    cases h
    have h1 := Int.mul_tdiv_add_tmod x 384
    have hlt := Int.tmod_lt_of_pos x (show (0 : Int) < 384 by omega)
    have hgt : -384 < x.tmod 384 := by
      have := Int.tmod_lt_of_pos (-x) (show (0 : Int) < 384 by omega)
      rw [Int.neg_tmod] at this; omega
    have hpk : (Int.ofNat (pk x) : Int) = x % 384 := by unfold pk; simp only [Int.ofNat_eq_natCast]; omega
    cases hb : ilt (x.tmod 384) 0
    · have hb' : ¬ x.tmod 384 < 0 := by rw [← ilt_iff, hb]; simp
      have e : x.tmod 384 = Int.ofNat (pk x) := by rw [hpk]; omega
      refine pure_fn mixed tt_ok G0_ok Try.func41 (by kernel_rfl) (by kernel_rfl) (by kernel_rfl) (by kernel_rfl) 50 [⟨3,2,.lit (.it (Int.ofNat (pk x)))⟩,⟨4,1,.lit (.bo false)⟩] ?_
      exact same (p := x.tmod 384 = Int.ofNat (pk x) ∧ ilt (Int.ofNat (pk x)) 0 = false ∧ some (AV.v1 (.sc (.it (Int.ofNat (pk x))))) = some (AV.v1 (.sc (.it (Int.ofNat (pk x)))))) ⟨e, by rw [← e]; exact hb, rfl⟩ (by kernel_rfl)
    · have hb' : x.tmod 384 < 0 := by rw [← ilt_iff, hb]
      have e : wrapI (x.tmod 384 + 384) = Int.ofNat (pk x) := by
        rw [hpk, wrapI_same (by omega) (by omega)]; omega
      refine pure_fn mixed tt_ok G0_ok Try.func41 (by kernel_rfl) (by kernel_rfl) (by kernel_rfl) (by kernel_rfl) 50 [⟨4,1,.lit (.bo true)⟩,⟨5,2,.lit (.it (Int.ofNat (pk x)))⟩] ?_
      exact same (p := ilt (x.tmod 384) 0 = true ∧ wrapI (x.tmod 384 + 384) = Int.ofNat (pk x) ∧ some (AV.v1 (.sc (.it (Int.ofNat (pk x))))) = some (AV.v1 (.sc (.it (Int.ofNat (pk x)))))) ⟨hb, e, rfl⟩ (by kernel_rfl)
  · cases h

def GR : Ctx := ctxL [(40, .pure cAwake), (41, .pure cPick), (38, .pure cOf), (32, .pure cShift), (28, .pure cMul), (30, .pure cDiv2), (36, .pure cLen), (34, .pure cBit)]
theorem GR_ok : CtxOk Try.prog GR := ctxL_cons okAwake <| ctxL_cons okPick <| ctxL_cons okOf <| ctxL_cons okShift <| ctxL_cons okMul <| ctxL_cons (okDiv2_of okDiv) <| ctxL_cons okLen <| ctxL_cons okBit ctxL_nil
theorem eqW_of {x y : Nat} (h : x = y) : (eqN W 6 (wd x) (wd y) && true) = true := by subst h; exact eqW_self _
theorem shift_neg (N k : Nat) : shiftN N (-(Int.ofNat k)) = N / 2 ^ k := by
  cases k with
  | zero => simp [shiftN]
  | succ k => rfl
theorem blen_div (N k : Nat) : blen (N / 2 ^ k) = blen N - k := by
  by_cases h : 2 ^ k ≤ N
  · have := blen_shift h; omega
  · have h1 : N / 2 ^ k = 0 := Nat.div_eq_of_lt (by omega)
    have h2 := blen_lt (n := N) (k := k) (by omega)
    rw [h1, blen_zero]; omega
theorem up_bit {N k : Nat} (hk : k < 384) : N * 2 ^ k % R / 2 ^ k % 2 = N % 2 := by
  have hR : R = 2 ^ (E - k) * 2 ^ k := by rw [R_pow, ← Nat.pow_add]; congr 1; rw [E_eq]; omega
  rw [hR, Nat.mul_mod_mul_right, Nat.mul_div_cancel _ (Nat.two_pow_pos k)]
  refine Nat.mod_mod_of_dvd _ ?_
  exact Nat.dvd_of_pow_dvd (k := 1) (Nat.le_refl _) (Nat.pow_dvd_pow 2 (by rw [E_eq]; omega))

theorem wordsShifts_calls (a : Nat → Nat) (n : Int) (w : World) :
    Calls Try.prog 6 ([.v1 (.agg [.ws .u64 6 a]), .v1 (.sc (.it n))].map (AV.val fun _ => 0)).toArray w (fun e w' => e = .returned (.bool true) ∧ StepW w w') := by
  refine pure_calls tt_ok Try.func6 (by kernel_rfl) (by kernel_rfl) (v := .v1 (.sc (.bo true))) (by kernel_rfl) ?_ w
  have hA := nv_lt a
  obtain ⟨k, hkp⟩ : ∃ k, k = pk n := ⟨_, rfl⟩
  have hk : k < 384 := hkp ▸ pk_lt n
  have hbl : blen (nv a) ≤ 384 := by
    have := hA; rw [R_pow] at this
    have := blen_lt this; rw [E_eq] at this; exact this
  refine evS_q mixed tt_ok GR_ok 100 [⟨2,1,.lit (.it (Int.ofNat k))⟩,⟨3,5,.lit (.it (-(Int.ofNat k)))⟩,⟨6,4,.lit (.bo true)⟩,⟨6,8,.lit (.bo true)⟩,⟨6,13,.lit (.bo true)⟩,⟨6,21,.lit (.it (-(Int.ofNat k)))⟩,⟨6,25,.lit (.bo true)⟩,⟨6,33,.lit (.it (Int.ofNat (blen (nv a)) - Int.ofNat k))⟩,⟨6,34,.lit (.it (Int.ofNat (blen (nv a) - k)))⟩,⟨6,35,.lit (.bo true)⟩,⟨6,43,.lit (.bo true)⟩] ?_
  refine same (p :=
    Int.ofNat (pk n) = Int.ofNat k ∧ wrapI (0 - Int.ofNat k) = -(Int.ofNat k) ∧
    (eqN W 6 (wd (shiftN (nv a) (Int.ofNat k) % R)) (wd (nv a * nv (wd (shiftN (nv (wd (1 % W))) (Int.ofNat k) % R)) % R)) && true) = true ∧
    ieq (dE (nv (wd (shiftN (nv (wd (1 % W))) (Int.ofNat k) % R)))) 0 = true ∧
    (eqN W 6 (wd (shiftN (nv a) (-(Int.ofNat k)) % R)) (wd (dQ (nv a) (nv (wd (shiftN (nv (wd (1 % W))) (Int.ofNat k) % R))))) && true) = true ∧
    wrapI (0 - Int.ofNat k) = -(Int.ofNat k) ∧
    (eqN W 6 (wd (shiftN (nv (wd (shiftN (nv a) (-(Int.ofNat k)) % R))) (Int.ofNat k) % R)) (wd (shiftN (nv (wd (shiftN (nv a) (-(Int.ofNat k)) % R))) (Int.ofNat k) % R)) && true) = true ∧
    wrapI (Int.ofNat (blen (nv a)) - Int.ofNat k) = Int.ofNat (blen (nv a)) - Int.ofNat k ∧
    (bif ilt (Int.ofNat (blen (nv a)) - Int.ofNat k) 0 then 0 else Int.ofNat (blen (nv a)) - Int.ofNat k) = Int.ofNat (blen (nv a) - k) ∧
    ieq (Int.ofNat (blen (nv (wd (shiftN (nv a) (-(Int.ofNat k)) % R))))) (Int.ofNat (blen (nv a) - k)) = true ∧
    ieq (bitI (nv (wd (shiftN (nv a) (Int.ofNat k) % R))) (Int.ofNat k)) (bitI (nv a) 0) = true ∧
    ∃ v', some (AV.v1 (.sc (.bo true))) = some v' ∧ ∀ ρ, v'.val ρ = (AV.v1 (.sc (.bo true))).val ρ) ?_ (by kernel_rfl)
  have hwn : wrapI (0 - Int.ofNat k) = -(Int.ofNat k) := by
    rw [Int.zero_sub]
    exact wrapI_same (by simp only [Int.ofNat_eq_natCast]; omega) (by simp only [Int.ofNat_eq_natCast]; omega)
  have h1 : nv (wd (1 % W)) = 1 := by rw [nv_wd]; decide
  have hpR : 2 ^ k < R := by rw [R_pow]; exact Nat.pow_lt_pow_right (by omega) (by rw [E_eq]; exact hk)
  have h2 : nv (wd (shiftN (nv (wd (1 % W))) (Int.ofNat k) % R)) = 2 ^ k := by
    rw [h1]
    simp only [shiftN]
    rw [Nat.one_mul, nv_wd, Nat.mod_mod, Nat.mod_eq_of_lt hpR]
  have hdown : nv (wd (shiftN (nv a) (-(Int.ofNat k)) % R)) = nv a / 2 ^ k := by
    rw [shift_neg, nv_wd, Nat.mod_mod, Nat.mod_eq_of_lt (Nat.lt_of_le_of_lt (Nat.div_le_self _ _) hA)]
  have hbq : Nat.beq (2 ^ k) 0 = false := by
    have := Nat.two_pow_pos k
    rw [← Bool.not_eq_true, Nat.beq_eq]; omega
  rw [h2, hdown, shift_neg]
  refine ⟨by rw [hkp], hwn, eqW_of (by simp only [shiftN]), by unfold dE; rw [hbq]; rfl, eqW_of ?_, hwn, eqW_self _, ?_, ?_, ?_, ?_, _, rfl, fun _ => rfl⟩
  · unfold dQ; rw [hbq]
    exact Nat.mod_eq_of_lt (Nat.lt_of_le_of_lt (Nat.div_le_self _ _) hA)
  · exact wrapI_same (by simp only [Int.ofNat_eq_natCast]; omega) (by simp only [Int.ofNat_eq_natCast]; omega)
  · cases hc : ilt (Int.ofNat (blen (nv a)) - Int.ofNat k) 0
    · have : ¬ Int.ofNat (blen (nv a)) - Int.ofNat k < 0 := by rw [← ilt_iff, hc]; simp
      simp only [Int.ofNat_eq_natCast] at *
      simp only [cond_false]; omega
    · have : Int.ofNat (blen (nv a)) - Int.ofNat k < 0 := by rw [← ilt_iff, hc]
      simp only [Int.ofNat_eq_natCast] at *
      simp only [cond_true]; omega
  · rw [blen_div]; exact ieq_self _
  · rw [ieq_iff]
    simp only [bitI, shiftN]
    rw [nv_wd, Nat.mod_mod, up_bit hk]
    show _ = Int.ofNat (nv a / 2 ^ 0 % 2)
    rw [Nat.pow_zero, Nat.div_one]

theorem wordsShifts_lifted (os : Os) (started : os.Started) (H : Type) (enc : TypeId × Value → H) :
    ReturnsInHanded {} Try.checked os 6 .any (Rows.wordsShiftsSpec.pre6 enc Try.prog Try.f6 Rows.wordsShiftsRow.domain false) (Rows.wordsShiftsSpec.post enc Try.prog Try.f6 false true false false) := by
  refine returnsInHanded_of_change (C := Try.checked) Try.own started (by kernel_rfl) Try.func6
    (ChangeSpec.witness6 (enc := enc) (C := Try.checked) false ⟨#[], #[.agg #[.int .u64 0, .int .u64 0, .int .u64 0, .int .u64 0, .int .u64 0, .int .u64 0], .int .i64 0], []⟩ 8 (by kernel_rfl) (by kernel_rfl) (by kernel_rfl) (by kernel_rfl)) ?_
  intro Wd base args ds gs before hval0 hW _ _
  have hval : ∀ (j : Nat) t v, Try.f6.params[j]? = some t → args[j]? = some v → Value.okWide Try.prog Wd .any base t v := hval0
  have hW' := hW
  obtain ⟨p, q, hA0, hV, rfl, _, _⟩ := hW
  have hA : DataW.TrodAll enc Try.prog Wd 0 (fun _ => true) true Try.f6.params.toList args.toList ds p := hA0
  rw [Try.params6] at hA hval
  obtain ⟨v0, v1, d0, d1, p0, p1, rfl, rfl, rfl, h0, h1⟩ := trodAll_two hA
  obtain ⟨rfl, rfl⟩ := trodVars_none hV
  obtain ⟨x0, rfl, rfl, t0⟩ := num_open h0 (hval 0 24 v0 rfl rfl)
  obtain ⟨x1, rfl, rfl, rfl, w1⟩ := open_int Try.underlying3 (hval 1 3 v1 rfl rfl) h1
  clear hA0 hval0
  simp only [List.append_nil] at hW'
  refine (wordsShifts_calls x0 x1 Wd).mono fun e W' ⟨he, hw⟩ => ?_
  subst he
  have hg := hw.grown
  exact ⟨_, rfl, post_of_same (pa := []) (pv := []) hW' (fun _ _ _ => trodAll_mk1 (shut_bool Try.underlying4 true)) (fun sp _ => trodAll_mk2 (t0 _ _ _ _) (shut_int Try.underlying3 w1)) (fun _ _ => rfl) rfl (hg.frame _) hg.2.1 (ok_one (by kernel_rfl) rfl (okWide_bool_mk Try.underlying4 true))⟩

theorem wordsShifts_holds : Rows.WordsShiftsSaid :=
  OpenClaim.holds_of_wide 6 Try.f6 rfl rfl rfl rfl rfl rfl rfl ⟨rfl, rfl, rfl, rfl, rfl⟩ rfl rfl rfl rfl rfl (by kernel_rfl) Try.func6 (by kernel_rfl)
    (of_decide_eq_true (by kernel_rfl)) (by unfold Func.isWrapper; rw [if_neg (of_decide_eq_false (by kernel_rfl))]; exact ⟨rfl, rfl⟩)
    (fun os started H enc _ => wordsShifts_lifted os started H enc)
end Go.Proofs.Ytiaongfgkmbaaaa
