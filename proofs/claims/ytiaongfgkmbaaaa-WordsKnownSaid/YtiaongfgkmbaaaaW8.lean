/- Texts: what is read of digits, and which digits are told. -/
import Derived.Test.YtiaongfgkmbaaaaW6
import Derived.Test.YtiaongfgkmbaaaaWM6
import Derived.Test.YtiaongfgkmbaaaaFwP
namespace Go.Proofs.Ytiaongfgkmbaaaa
open Go.Rq Go

abbrev strV (n : Nat) (f : Nat → Nat) : AV := .v1 (.sc (.str n f))

/-! IndexByte -/
def cIdx : List AV → Option (List Prop × AV)
  | [.v1 (.sc (.str n f)), .v1 (.sc (.w .u8 c))] => some ([], iv (idxB f c n 0))
  | _ => none
theorem firstIdx_eq (n : Nat) (f : Nat → Nat) (c : Nat) : firstIdx (bytesF n f) (UInt8.ofNat c) = idxB f c n 0 := by
  unfold firstIdx
  rw [size_bytesF]
  have key : ∀ m i, i + m = n → (match (List.range' i m).find? fun j => (bytesF n f)[j]! == UInt8.ofNat c with
      | some j => (j : Int)
      | none => -1) = idxB f c m i := by
    intro m
    induction m with
    | zero => intro i _; rfl
    | succ m ih =>
      intro i hi
      rw [List.range'_succ, List.find?_cons]
      have hb : (bytesF n f)[i]! = UInt8.ofNat (f i) := by
        have h1 : i < (bytesF n f).size := by rw [size_bytesF]; omega
        rw [getElem!_pos (bytesF n f) i h1]
        show ((bytesF n f).data)[i]'h1 = _
        simp [bytesF]
      have he : ((bytesF n f)[i]! == UInt8.ofNat c) = Nat.beq (f i % 256) (c % 256) := by
        rw [hb, Bool.eq_iff_iff, beq_iff_eq, Nat.beq_eq, ← UInt8.toNat_inj]
        simp
      simp only [idxB]
      rw [he]
      cases Nat.beq (f i % 256) (c % 256)
      · exact ih (i + 1) (by omega)
      · rfl
  have := key n 0 (by omega)
  rw [← List.range_eq_range'] at this
  exact this
theorem okIdxX : (CallC.pure cIdx).Ok Try.prog 62 := by
  intro args pre v h _
  unfold cIdx at h
  split at h
  · rename_i n f c
    cases h
    refine extern_call Try.func62 (by kernel_rfl) (by kernel_rfl) (by kernel_rfl) (e := Extern.BytealgIndexByte.indexByte) (by kernel_rfl) (by kernel_rfl) fun ρ w => ?_
    have := run_indexByte_string (P := Try.prog) (bytesF n f) (Int.ofNat (c % 256)) w
    simp only [List.map_cons, List.map_nil, AV.val, V1.val, Sc.val, M]
    rw [this]
    have e : (Int.ofNat (c % 256)).toNat.toUInt8 = UInt8.ofNat c := by
      show UInt8.ofNat (c % 256) = UInt8.ofNat c
      apply UInt8.toNat_inj.1
      simp
    rw [e, firstIdx_eq]
  · cases h
def GI : Ctx := ctxL [(62, .pure cIdx)]
theorem GI_ok : CtxOk Try.prog GI := ctxL_cons okIdxX ctxL_nil
theorem okIdxY : (CallC.pure cIdx).Ok Try.prog 57 := by
  intro args pre v h _
  unfold cIdx at h
  split at h
  · rename_i n f c
    cases h
    refine pure_fn mixed tt_ok GI_ok Try.func57 (by kernel_rfl) (by kernel_rfl) (by kernel_rfl) (by kernel_rfl) 50 [] ?_
    exact same (p := some (iv (idxB f c n 0)) = some (iv (idxB f c n 0))) rfl (by kernel_rfl)
  · cases h
def GJ : Ctx := ctxL [(57, .pure cIdx)]
theorem GJ_ok : CtxOk Try.prog GJ := ctxL_cons okIdxY ctxL_nil
theorem okIdx : (CallC.pure cIdx).Ok Try.prog 43 := by
  intro args pre v h _
  unfold cIdx at h
  split at h
  · rename_i n f c
    cases h
    refine pure_fn mixed tt_ok GJ_ok Try.func43 (by kernel_rfl) (by kernel_rfl) (by kernel_rfl) (by kernel_rfl) 50 [] ?_
    exact same (p := some (iv (idxB f c n 0)) = some (iv (idxB f c n 0))) rfl (by kernel_rfl)
  · cases h

/-! Parse -/
def GP : Ctx := ctxL [(43, .pure cIdx), (32, .pure cShift)]
theorem GP_ok : CtxOk Try.prog GP := ctxL_cons okIdx <| ctxL_cons okShift ctxL_nil
def parR (n : Nat) (f : Nat → Nat) : AV := .tup [numV (parV n f), .sc (.it (parE n f))]
def cParse : List AV → Option (List Prop × AV)
  | [.v1 (.sc (.str n f))] => some ([], .tup [numV (parV n f), .sc (.it (parE n f))])
  | _ => none
abbrev E0 : ByteArray := ⟨#[]⟩
abbrev E48 : ByteArray := ⟨#[48]⟩
def eqE (n : Nat) (f : Nat → Nat) : Bool := bif Nat.beq n 0 then eqN 256 n f (byteAt E0) else false
def eqZ (n : Nat) (f : Nat → Nat) : Bool := bif Nat.beq n 1 then eqN 256 n f (byteAt E48) else false
theorem eqE_eq (n : Nat) (f : Nat → Nat) : eqE n f = Nat.beq n 0 := by
  unfold eqE
  cases n with
  | zero => rfl
  | succ n => rfl
theorem eqZ_eq (n : Nat) (f : Nat → Nat) (h : Nat.beq (f 0 % 256) 48 = true) : eqZ n f = Nat.beq n 1 := by
  unfold eqZ
  match n with
  | 0 => rfl
  | 1 => show (true && Nat.beq (f 0 % 256) 48) = true
         rw [h]; rfl
  | n + 2 => rfl
theorem ilt_96 (n : Nat) : ilt 96 (Int.ofNat n) = Nat.blt 96 n := by
  rw [Bool.eq_iff_iff, ilt_iff, Nat.blt_eq]; simp; omega
abbrev zN : V1 := .agg [.ws .u64 6 (fun _ => 0)]
theorem zero_num (ρ : Ren) : zN.val ρ = (numV 0).val ρ := numV_val (by rw [zero_nv]; rfl) ρ
def VP (n k : Nat) (f : Nat → Nat) : List AV := [strV n f, pt 0 0, pt 1 0, iv (Int.ofNat n), iv (Int.ofNat k)]
def HP (o : Nat → Nat) : Heap := [nb (fun _ => 0), nb o]
def InvP (n : Nat) (f : Nat → Nat) (x : Nat × (Nat → Nat)) : Prop := x.1 ≤ n ∧ allH f x.1 = true ∧ nv x.2 = horN f x.1

theorem okParse : (CallC.pure cParse).Ok Try.prog 14 := by
  intro args pre v h _
  unfold cParse at h
  split at h
  · rename_i n f
    cases h
    have errCase : ∀ e : Int, parE n f = e → ieq e 0 = false → (∀ h, CallOk Try.prog 14 [strV n f] h (.tup [zN, .sc (.it e)]) h) → ∀ h, CallOk Try.prog 14 [strV n f] h (.tup [numV (parV n f), .sc (.it (parE n f))]) h := by
      intro e he h0 hc h
      refine CallOk.congr (hc h) (fun ρ => ?_) (by kernel_rfl)
      have hv : parV n f = 0 := by unfold parV; rw [he, h0]; rfl
      simp only [AV.val, List.map_cons, List.map_nil]
      rw [hv, he, zero_num]
    cases hl : Nat.blt 96 n
    · have hn : n ≤ 96 := by
        have : ¬ 96 < n := by rw [← Nat.blt_eq, hl]; simp
        omega
      cases h0 : Nat.beq n 0
      · have hn0 : 0 < n := by
          have : n ≠ 0 := fun e => by rw [← Nat.beq_eq, h0] at e; cases e
          omega
        have main : (Nat.beq (f 0 % 256) 48 && !Nat.beq n 1) = false → ∀ hs, (evS Try.prog tt GP 60 (preL (flatC (bodyOf Try.f14))) (fun e s _ => StartE (ι := {x // InvP n f x}) [0,2,4,24,25] 45 2 (fun x => VP n x.1.1 f) (fun x => HP x.1.2) (FEnd' tt Try.f14 (.tup [numV (parV n f), .sc (.it (parE n f))])) e s) ⟨frame0 [strV n f] Try.f14.ntmps, []⟩ hs) → ∀ h, CallOk Try.prog 14 [strV n f] h (.tup [numV (parV n f), .sc (.it (parE n f))]) h := by
          intro hz hs hst
          have hpe : parE n f = bif allH f n then 0 else 4 := by unfold parE; rw [hl, h0, hz]; rfl
          refine pure_walk' tt_ok Try.func14 (by kernel_rfl) (by kernel_rfl) (by kernel_rfl) (by kernel_rfl) ?_
          refine loopF mixed tt_ok GP_ok (by kernel_rfl) (ι := {x // InvP n f x}) [0,2,4,24,25] 45 2 (fun x => VP n x.1.1 f) (fun x => HP x.1.2) (fun x => n - x.1.1) (fun x => x.1.1 = n)
            (fun _ => rfl) (fun _ => by kernel_rfl) (fun _ _ h => h.elim) 60 hs hst ?_ ?_
          · intro ⟨⟨k, o⟩, hk, ha, hv⟩ junk
            simp only at hk ha hv
            by_cases hkn : k < n
            · cases hd : okH (f k)
              · have hI := okH_f hd
                refine roundF mixed tt_ok GP_ok 60 [⟨7,0,.lit (.bo true)⟩,⟨9,2,.sym⟩,⟨9,3,.lit (.it (-1))⟩] ?_
                refine same (p := ilt (Int.ofNat k) (Int.ofNat n) = true ∧ 0 ≤ Int.ofNat k ∧ Int.ofNat k < (n : Int) ∧ hexI (f k) = -1 ∧ ∃ v', some (AV.tup [zN, .sc (.it 4)]) = some v' ∧ ∀ ρ, v'.val ρ = (AV.tup [numV (parV n f), .sc (.it (parE n f))]).val ρ) ?_ (by kernel_rfl)
                refine ⟨ilt_t hkn, Int.natCast_nonneg _, by simp; exact hkn, hI, _, rfl, fun ρ => ?_⟩
                have hall : allH f n = false := by
                  cases e : allH f n
                  · rfl
                  · have := allH_at e hkn; rw [hd] at this; cases this
                have hE : parE n f = 4 := by rw [hpe, hall]; rfl
                have hV : parV n f = 0 := by unfold parV; rw [hE]; rfl
                simp only [AV.val, List.map_cons, List.map_nil]
                rw [hV, hE, zero_num]
              · obtain ⟨hI, hd16, _⟩ := okH_t hd
                refine roundF mixed tt_ok GP_ok 60 [⟨7,0,.lit (.bo true)⟩,⟨9,2,.sym⟩,⟨9,3,.lit (.it (Int.ofNat (dig (f k))))⟩,⟨10,1,.lit (.bo false)⟩,⟨13,3,.lit (.w .u64 (dig (f k)))⟩,⟨14,0,.lit (.it (Int.ofNat (k+1)))⟩] ?_
                refine same (p := ilt (Int.ofNat k) (Int.ofNat n) = true ∧ 0 ≤ Int.ofNat k ∧ Int.ofNat k < (n : Int) ∧ hexI (f k) = Int.ofNat (dig (f k)) ∧ ilt (Int.ofNat (dig (f k))) 0 = false ∧ toU .u64 (Int.ofNat (dig (f k))) = dig (f k) ∧ wrapI (Int.ofNat k + 1) = Int.ofNat (k + 1) ∧ true = true ∧
                  ∃ j : {x // InvP n f x}, n - j.1.1 < n - k ∧ VP n (k + 1) f = VP n j.1.1 f ∧ HP (pIn (shiftN (nv o) 4 % R) (dig (f k))) = HP j.1.2) ?_ (by kernel_rfl)
                have ha1 : allH f (k + 1) = true := by simp only [allH, Bool.and_eq_true]; exact ⟨ha, hd⟩
                have hlt := horN_ltR (f := f) (k := k + 1) (by omega) ha1
                simp only [horN] at hlt
                refine ⟨ilt_t hkn, Int.natCast_nonneg _, by simp; exact hkn, hI, by rw [← Bool.not_eq_true, ilt_iff]; simp, ?_, wrapI_succ (by omega), rfl, ⟨(k + 1, pIn (shiftN (nv o) 4 % R) (dig (f k))), ?_, ha1, ?_⟩, by simp only; omega, rfl, rfl⟩
                · show dig (f k) % 18446744073709551616 = _
                  omega
                · simp only; omega
                · simp only [horN]
                  rw [← hv] at hlt ⊢
                  exact pIn_nv (x := nv o) (by rw [show shiftN (nv o) 4 = nv o * 2 ^ 4 from rfl]) (by omega) hd16
            · have : k = n := by omega
              subst this
              refine roundF mixed tt_ok GP_ok 60 [⟨7,0,.lit (.bo false)⟩] ?_
              refine same (p := ilt (Int.ofNat k) (Int.ofNat k) = false ∧ true = true ∧ ∃ j : {x // InvP k f x}, j.1.1 = k ∧ VP k k f = VP k j.1.1 f ∧ HP o = HP j.1.2) ?_ (by kernel_rfl)
              exact ⟨ilt_f (by omega), rfl, ⟨(k, o), hk, ha, hv⟩, rfl, rfl, rfl⟩
          · intro ⟨⟨k, o⟩, hk, ha, hv⟩ junk hkn
            simp only at hk ha hv hkn
            subst hkn
            refine same (p := ∃ v', some (AV.tup [.agg [.ws .u64 6 o], .sc (.it 0)]) = some v' ∧ ∀ ρ, v'.val ρ = (AV.tup [numV (parV k f), .sc (.it (parE k f))]).val ρ) ?_ (by kernel_rfl)
            refine ⟨_, rfl, fun ρ => ?_⟩
            have hE : parE k f = 0 := by rw [hpe, ha]; rfl
            have hV : parV k f = horN f k := by unfold parV; rw [hE]; rfl
            simp only [AV.val, List.map_cons, List.map_nil]
            rw [hV, hE, numV_val (n := horN f k) (by rw [← hv, Nat.mod_eq_of_lt (nv_lt o)]) ρ]
        have start : ∃ j : {x // InvP n f x}, VP n 0 f = VP n j.1.1 f ∧ HP (fun _ => 0) = HP j.1.2 := ⟨⟨(0, fun _ => 0), by simp, rfl, by simp only [zero_nv]; rfl⟩, rfl, rfl⟩
        cases h48 : Nat.beq (f 0 % 256) 48
        · refine main (by rw [h48]; rfl) [⟨1,2,.lit (.bo false)⟩,⟨3,1,.lit (.bo false)⟩,⟨3,4,.sym⟩,⟨3,5,.lit (.bo false)⟩] ?_
          refine same (p := ilt 96 (Int.ofNat n) = false ∧ eqE n f = false ∧ 0 ≤ (0 : Int) ∧ 0 < (n : Int) ∧ Nat.beq (f 0 % 256) 48 = false ∧ true = true ∧ ∃ j : {x // InvP n f x}, VP n 0 f = VP n j.1.1 f ∧ HP (fun _ => 0) = HP j.1.2) ?_ (by kernel_rfl)
          exact ⟨by rw [ilt_96, hl], by rw [eqE_eq, h0], Int.le_refl _, by simp; exact hn0, h48, rfl, start⟩
        · cases h1 : Nat.beq n 1
          · refine errCase 4 (by unfold parE; rw [hl, h0, h48, h1]; rfl) rfl ?_
            refine pure_fn mixed tt_ok GP_ok Try.func14 (by kernel_rfl) (by kernel_rfl) (by kernel_rfl) (by kernel_rfl) 60 [⟨1,2,.lit (.bo false)⟩,⟨3,1,.lit (.bo false)⟩,⟨3,4,.sym⟩,⟨3,5,.lit (.bo true)⟩,⟨3,8,.lit (.bo true)⟩] ?_
            refine same (p := ilt 96 (Int.ofNat n) = false ∧ eqE n f = false ∧ 0 ≤ (0 : Int) ∧ 0 < (n : Int) ∧ Nat.beq (f 0 % 256) 48 = true ∧ (!eqZ n f) = true ∧ some (AV.tup [zN, .sc (.it 4)]) = some (AV.tup [zN, .sc (.it 4)])) ?_ (by kernel_rfl)
            exact ⟨by rw [ilt_96, hl], by rw [eqE_eq, h0], Int.le_refl _, by simp; exact hn0, h48, by rw [eqZ_eq n f h48, h1]; rfl, rfl⟩
          · refine main (by rw [h1]; simp) [⟨1,2,.lit (.bo false)⟩,⟨3,1,.lit (.bo false)⟩,⟨3,4,.sym⟩,⟨3,5,.lit (.bo true)⟩,⟨3,8,.lit (.bo false)⟩] ?_
            refine same (p := ilt 96 (Int.ofNat n) = false ∧ eqE n f = false ∧ 0 ≤ (0 : Int) ∧ 0 < (n : Int) ∧ Nat.beq (f 0 % 256) 48 = true ∧ (!eqZ n f) = false ∧ true = true ∧ ∃ j : {x // InvP n f x}, VP n 0 f = VP n j.1.1 f ∧ HP (fun _ => 0) = HP j.1.2) ?_ (by kernel_rfl)
            exact ⟨by rw [ilt_96, hl], by rw [eqE_eq, h0], Int.le_refl _, by simp; exact hn0, h48, by rw [eqZ_eq n f h48, h1]; rfl, rfl, start⟩
      · refine errCase 4 (by unfold parE; rw [hl, h0]; rfl) rfl ?_
        refine pure_fn mixed tt_ok GP_ok Try.func14 (by kernel_rfl) (by kernel_rfl) (by kernel_rfl) (by kernel_rfl) 60 [⟨1,2,.lit (.bo false)⟩,⟨3,1,.lit (.bo true)⟩] ?_
        refine same (p := ilt 96 (Int.ofNat n) = false ∧ eqE n f = true ∧ some (AV.tup [zN, .sc (.it 4)]) = some (AV.tup [zN, .sc (.it 4)])) ?_ (by kernel_rfl)
        exact ⟨by rw [ilt_96, hl], by rw [eqE_eq, h0], rfl⟩
    · refine errCase 3 (by unfold parE; rw [hl]; rfl) rfl ?_
      refine pure_fn mixed tt_ok GP_ok Try.func14 (by kernel_rfl) (by kernel_rfl) (by kernel_rfl) (by kernel_rfl) 60 [⟨1,2,.lit (.bo true)⟩] ?_
      refine same (p := ilt 96 (Int.ofNat n) = true ∧ some (AV.tup [zN, .sc (.it 3)]) = some (AV.tup [zN, .sc (.it 3)])) ?_ (by kernel_rfl)
      exact ⟨by rw [ilt_96, hl], rfl⟩
  · cases h
end Go.Proofs.Ytiaongfgkmbaaaa
