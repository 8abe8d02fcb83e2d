/- Products of words, bits, lengths, off their runs. -/
import Derived.Test.YtiaongfgkmbaaaaW1
import Derived.Test.YtiaongfgkmbaaaaFwM
import Derived.Test.YtiaongfgkmbaaaaWM2
namespace Go.Proofs.Ytiaongfgkmbaaaa
open Go.Rq Go

theorem G0_ok : CtxOk Try.prog (ctxL []) := ctxL_nil

/-! Mul64 -/
def cMul64 : List AV → Option (List Prop × AV)
  | [.v1 (.sc (.w .u64 x)), .v1 (.sc (.w .u64 y))] => some ([], .tup [.sc (.w .u64 (x % W * (y % W) / W)), .sc (.w .u64 (x * y))])
  | _ => none
theorem okMul64 : (CallC.pure cMul64).Ok Try.prog 48 := by
  intro args pre v h _
  unfold cMul64 at h
  split at h
  · rename_i x y
    cases h
    intro h
    refine CallOk.congr (v := .tup [.sc (.w .u64 (mulHi x y)), .sc (.w .u64 (x * y))]) (pure_fn mixed tt_ok G0_ok Try.func48 (by kernel_rfl) (by kernel_rfl) (by kernel_rfl) (by kernel_rfl) 50 [] ?_ h) (fun ρ => by rw [mulHi_eq]) (by kernel_rfl)
    exact same (p := some (AV.tup [.sc (.w .u64 (mulHi x y)), .sc (.w .u64 (x * y))]) = some (AV.tup [.sc (.w .u64 (mulHi x y)), .sc (.w .u64 (x * y))])) rfl (by kernel_rfl)
  · cases h

/-! Bit -/
def cBit : List AV → Option (List Prop × AV)
  | [.v1 (.agg [.ws .u64 6 a]), .v1 (.sc (.it i))] => some ([], .v1 (.sc (.it (bitI (nv a) i))))
  | _ => none
theorem okBit : (CallC.pure cBit).Ok Try.prog 34 := by
  intro args pre v h _
  unfold cBit at h
  split at h
  · rename_i a i
    cases h
    cases i with
    | negSucc i =>
      refine pure_fn mixed tt_ok G0_ok Try.func34 (by kernel_rfl) (by kernel_rfl) (by kernel_rfl) (by kernel_rfl) 50 [] ?_
      exact same (p := some (AV.v1 (.sc (.it 0))) = some (AV.v1 (.sc (.it 0)))) rfl (by kernel_rfl)
    | ofNat i =>
      by_cases hi : i < 384
      · refine pure_fn mixed tt_ok G0_ok Try.func34 (by kernel_rfl) (by kernel_rfl) (by kernel_rfl) (by kernel_rfl) 50 [⟨1, 1, .lit (.bo false)⟩, ⟨1,4,.lit (.bo false)⟩, ⟨3,1,.lit (.it (Int.ofNat (i/64)))⟩, ⟨3,2,.sym⟩, ⟨3,3,.sym⟩, ⟨3,5,.lit (.it (Int.ofNat (i%64)))⟩] ?_
        refine same (p := ilt (Int.ofNat i) 0 = false ∧ (!ilt (Int.ofNat i) 384) = false ∧ (Int.ofNat i).fdiv (2 ^ 6) = Int.ofNat (i / 64) ∧ 0 ≤ Int.ofNat (i / 64) ∧ Int.ofNat (i / 64) < ((6 : Nat) : Int) ∧ i / 64 < 6 ∧ bitsI .and (Int.ofNat i) 63 = Int.ofNat (i % 64) ∧
          some (AV.v1 (.sc (.it (wrapI (Int.ofNat ((a (i / 64) % W / 2 ^ min (i % 64) 64 &&& 1) % W)))))) = some (AV.v1 (.sc (.it (bitI (nv a) (Int.ofNat i)))))) ?_ (by kernel_rfl)
        refine ⟨?_, ?_, fdiv6 ⟨i, hi⟩, Int.natCast_nonneg _, by simp; omega, by omega, and63 ⟨i, hi⟩, by rw [bit_word a hi]⟩
        · rw [← Bool.not_eq_true, ilt_iff]; simp
        · have : ilt (Int.ofNat i) 384 = true := by rw [ilt_iff]; simp; omega
          rw [this]; rfl
      · have e : bitI (nv a) (Int.ofNat i) = 0 := bit_high a (by omega)
        rw [e]
        refine pure_fn mixed tt_ok G0_ok Try.func34 (by kernel_rfl) (by kernel_rfl) (by kernel_rfl) (by kernel_rfl) 50 [⟨1, 1, .lit (.bo false)⟩, ⟨1,4,.lit (.bo true)⟩] ?_
        refine same (p := ilt (Int.ofNat i) 0 = false ∧ (!ilt (Int.ofNat i) 384) = true ∧ some (AV.v1 (.sc (.it 0))) = some (AV.v1 (.sc (.it 0)))) ⟨?_, ?_, rfl⟩ (by kernel_rfl)
        · rw [← Bool.not_eq_true, ilt_iff]; simp
        · have : ilt (Int.ofNat i) 384 = false := by rw [← Bool.not_eq_true, ilt_iff]; simp; omega
          rw [this]; rfl
  · cases h
theorem okBit' : (CallC.pure cBit).Ok Try.prog 35 := by
  intro args pre v h _
  unfold cBit at h
  split at h
  · rename_i a i
    cases h
    cases i with
    | negSucc i =>
      refine pure_fn mixed tt_ok G0_ok Try.func35 (by kernel_rfl) (by kernel_rfl) (by kernel_rfl) (by kernel_rfl) 50 [] ?_
      exact same (p := some (AV.v1 (.sc (.it 0))) = some (AV.v1 (.sc (.it 0)))) rfl (by kernel_rfl)
    | ofNat i =>
      by_cases hi : i < 384
      · refine pure_fn mixed tt_ok G0_ok Try.func35 (by kernel_rfl) (by kernel_rfl) (by kernel_rfl) (by kernel_rfl) 50 [⟨1, 1, .lit (.bo false)⟩, ⟨1,4,.lit (.bo false)⟩, ⟨3,1,.lit (.it (Int.ofNat (i/64)))⟩, ⟨3,2,.sym⟩, ⟨3,3,.sym⟩, ⟨3,5,.lit (.it (Int.ofNat (i%64)))⟩] ?_
        refine same (p := ilt (Int.ofNat i) 0 = false ∧ ilt 383 (Int.ofNat i) = false ∧ wrapI ((Int.ofNat i).tdiv 64) = Int.ofNat (i / 64) ∧ 0 ≤ Int.ofNat (i / 64) ∧ Int.ofNat (i / 64) < ((6 : Nat) : Int) ∧ i / 64 < 6 ∧ (Int.ofNat i).tmod 64 = Int.ofNat (i % 64) ∧
          some (AV.v1 (.sc (.it (wrapI (Int.ofNat ((a (i / 64) % W / 2 ^ min (i % 64) 64 &&& 1) % W)))))) = some (AV.v1 (.sc (.it (bitI (nv a) (Int.ofNat i)))))) ?_ (by kernel_rfl)
        refine ⟨?_, ?_, tdiv64 ⟨i, hi⟩, Int.natCast_nonneg _, by simp; omega, by omega, tmod64 ⟨i, hi⟩, by rw [bit_word a hi]⟩
        · rw [← Bool.not_eq_true, ilt_iff]; simp
        · rw [← Bool.not_eq_true, ilt_iff]; simp; omega
      · have e : bitI (nv a) (Int.ofNat i) = 0 := bit_high a (by omega)
        rw [e]
        refine pure_fn mixed tt_ok G0_ok Try.func35 (by kernel_rfl) (by kernel_rfl) (by kernel_rfl) (by kernel_rfl) 50 [⟨1, 1, .lit (.bo false)⟩, ⟨1,4,.lit (.bo true)⟩] ?_
        refine same (p := ilt (Int.ofNat i) 0 = false ∧ ilt 383 (Int.ofNat i) = true ∧ some (AV.v1 (.sc (.it 0))) = some (AV.v1 (.sc (.it 0)))) ⟨?_, ?_, rfl⟩ (by kernel_rfl)
        · rw [← Bool.not_eq_true, ilt_iff]; simp
        · rw [ilt_iff]; simp; omega
  · cases h

/-! Len64 -/
def cLen64 : List AV → Option (List Prop × AV)
  | [.v1 (.sc (.w .u64 x))] => some ([], .v1 (.sc (.it (Int.ofNat (blen (x % W))))))
  | _ => none
theorem len_fin {d e y n : Nat} (h : n = d + e + blen y) (hd : d + e ≤ 64) (hy : y < 256) (z : Int) (hz : z = Int.ofNat (d + e)) : wrapI (z + wrapI (Int.ofNat (byteAt Go.Lib.len8tab y % 256))) = Int.ofNat n := by
  have hb : blen y ≤ 8 := blen_lt (k := 8) (by omega)
  rw [tab_eq hy, Nat.mod_eq_of_lt (by omega), wrapI_small (by omega), hz]
  have : Int.ofNat (d + e) + Int.ofNat (blen y) = Int.ofNat n := by rw [h]; simp
  rw [this, wrapI_small (by omega)]
theorem okLen64 : (CallC.pure cLen64).Ok Try.prog 50 := by
  intro args pre v h _
  unfold cLen64 at h
  split at h
  · rename_i x
    cases h
    have hx : x % W < 18446744073709551616 := Nat.mod_lt _ (by decide)
    by_cases h1 : 4294967296 ≤ x % W
    · have s1 : blen (x % W) = 32 + blen (x % W / 4294967296) := blen_shift (k := 32) h1
      have m1 : x % W / 4294967296 % W = x % W / 4294967296 := Nat.mod_eq_of_lt (by simp only [W] at *; omega)
      by_cases h2 : 65536 ≤ x % W / 4294967296
      · have s2 : blen (x % W / 4294967296) = 16 + blen (x % W / 4294967296 / 65536) := blen_shift (k := 16) h2
        have m2 : x % W / 4294967296 / 65536 % W = x % W / 4294967296 / 65536 := Nat.mod_eq_of_lt (by simp only [W] at *; omega)
        by_cases h3 : 256 ≤ x % W / 4294967296 / 65536
        · have s3 : blen (x % W / 4294967296 / 65536) = 8 + blen (x % W / 4294967296 / 65536 / 256) := blen_shift (k := 8) h3
          have m3 : x % W / 4294967296 / 65536 / 256 % W = x % W / 4294967296 / 65536 / 256 := Nat.mod_eq_of_lt (by simp only [W] at *; omega)
          refine pure_fn mixed tt_ok G0_ok Try.func50 (by kernel_rfl) (by kernel_rfl) (by kernel_rfl) (by kernel_rfl) 50 [⟨1,1,.lit (.bo true)⟩,⟨4,1,.lit (.bo true)⟩,⟨7,1,.lit (.bo true)⟩,⟨10,3,.sym⟩] ?_
          refine same (p := Nat.ble 4294967296 (x % W) = true ∧ Nat.ble 65536 (x % W / 4294967296 % W) = true ∧ Nat.ble 256 (x % W / 4294967296 % W / 65536 % W) = true ∧ x % W / 4294967296 % W / 65536 % W / 256 % W % 256 < 256 ∧ some (AV.v1 (.sc (.it (wrapI (wrapI (wrapI (32 + 16) + 8) + wrapI (Int.ofNat (byteAt Go.Lib.len8tab (x % W / 4294967296 % W / 65536 % W / 256 % W % 256) % 256))))))) = some (AV.v1 (.sc (.it (Int.ofNat (blen (x % W))))))) ?_ (by kernel_rfl)
          rw [m1, m2, m3]
          have hc : x % W / 4294967296 / 65536 / 256 < 256 := by simp only [W] at *; omega
          have me : (x % W / 4294967296 / 65536 / 256) % 256 = x % W / 4294967296 / 65536 / 256 := Nat.mod_eq_of_lt hc
          rw [me]
          refine ⟨Nat.ble_eq_true_of_le h1, Nat.ble_eq_true_of_le h2, Nat.ble_eq_true_of_le h3, hc, ?_⟩
          rw [len_fin (d := 56) (e := 0) (y := x % W / 4294967296 / 65536 / 256) (n := blen (x % W)) (by omega) (by omega) hc _ (by kernel_rfl)]
        · refine pure_fn mixed tt_ok G0_ok Try.func50 (by kernel_rfl) (by kernel_rfl) (by kernel_rfl) (by kernel_rfl) 50 [⟨1,1,.lit (.bo true)⟩,⟨4,1,.lit (.bo true)⟩,⟨7,1,.lit (.bo false)⟩,⟨10,3,.sym⟩] ?_
          refine same (p := Nat.ble 4294967296 (x % W) = true ∧ Nat.ble 65536 (x % W / 4294967296 % W) = true ∧ Nat.ble 256 (x % W / 4294967296 % W / 65536 % W) = false ∧ x % W / 4294967296 % W / 65536 % W % 256 < 256 ∧ some (AV.v1 (.sc (.it (wrapI (wrapI (32 + 16) + wrapI (Int.ofNat (byteAt Go.Lib.len8tab (x % W / 4294967296 % W / 65536 % W % 256) % 256))))))) = some (AV.v1 (.sc (.it (Int.ofNat (blen (x % W))))))) ?_ (by kernel_rfl)
          rw [m1, m2]
          have hc : x % W / 4294967296 / 65536 < 256 := by simp only [W] at *; omega
          have me : (x % W / 4294967296 / 65536) % 256 = x % W / 4294967296 / 65536 := Nat.mod_eq_of_lt hc
          rw [me]
          refine ⟨Nat.ble_eq_true_of_le h1, Nat.ble_eq_true_of_le h2, by rw [← Bool.not_eq_true, Nat.ble_eq]; exact h3, hc, ?_⟩
          rw [len_fin (d := 48) (e := 0) (y := x % W / 4294967296 / 65536) (n := blen (x % W)) (by omega) (by omega) hc _ (by kernel_rfl)]
      · by_cases h3 : 256 ≤ x % W / 4294967296
        · have s3 : blen (x % W / 4294967296) = 8 + blen (x % W / 4294967296 / 256) := blen_shift (k := 8) h3
          have m3 : x % W / 4294967296 / 256 % W = x % W / 4294967296 / 256 := Nat.mod_eq_of_lt (by simp only [W] at *; omega)
          refine pure_fn mixed tt_ok G0_ok Try.func50 (by kernel_rfl) (by kernel_rfl) (by kernel_rfl) (by kernel_rfl) 50 [⟨1,1,.lit (.bo true)⟩,⟨4,1,.lit (.bo false)⟩,⟨7,1,.lit (.bo true)⟩,⟨10,3,.sym⟩] ?_
          refine same (p := Nat.ble 4294967296 (x % W) = true ∧ Nat.ble 65536 (x % W / 4294967296 % W) = false ∧ Nat.ble 256 (x % W / 4294967296 % W) = true ∧ x % W / 4294967296 % W / 256 % W % 256 < 256 ∧ some (AV.v1 (.sc (.it (wrapI (wrapI (32 + 8) + wrapI (Int.ofNat (byteAt Go.Lib.len8tab (x % W / 4294967296 % W / 256 % W % 256) % 256))))))) = some (AV.v1 (.sc (.it (Int.ofNat (blen (x % W))))))) ?_ (by kernel_rfl)
          rw [m1, m3]
          have hc : x % W / 4294967296 / 256 < 256 := by simp only [W] at *; omega
          have me : (x % W / 4294967296 / 256) % 256 = x % W / 4294967296 / 256 := Nat.mod_eq_of_lt hc
          rw [me]
          refine ⟨Nat.ble_eq_true_of_le h1, by rw [← Bool.not_eq_true, Nat.ble_eq]; exact h2, Nat.ble_eq_true_of_le h3, hc, ?_⟩
          rw [len_fin (d := 40) (e := 0) (y := x % W / 4294967296 / 256) (n := blen (x % W)) (by omega) (by omega) hc _ (by kernel_rfl)]
        · refine pure_fn mixed tt_ok G0_ok Try.func50 (by kernel_rfl) (by kernel_rfl) (by kernel_rfl) (by kernel_rfl) 50 [⟨1,1,.lit (.bo true)⟩,⟨4,1,.lit (.bo false)⟩,⟨7,1,.lit (.bo false)⟩,⟨10,3,.sym⟩] ?_
          refine same (p := Nat.ble 4294967296 (x % W) = true ∧ Nat.ble 65536 (x % W / 4294967296 % W) = false ∧ Nat.ble 256 (x % W / 4294967296 % W) = false ∧ x % W / 4294967296 % W % 256 < 256 ∧ some (AV.v1 (.sc (.it (wrapI (32 + wrapI (Int.ofNat (byteAt Go.Lib.len8tab (x % W / 4294967296 % W % 256) % 256))))))) = some (AV.v1 (.sc (.it (Int.ofNat (blen (x % W))))))) ?_ (by kernel_rfl)
          rw [m1]
          have hc : x % W / 4294967296 < 256 := by simp only [W] at *; omega
          have me : (x % W / 4294967296) % 256 = x % W / 4294967296 := Nat.mod_eq_of_lt hc
          rw [me]
          refine ⟨Nat.ble_eq_true_of_le h1, by rw [← Bool.not_eq_true, Nat.ble_eq]; exact h2, by rw [← Bool.not_eq_true, Nat.ble_eq]; exact h3, hc, ?_⟩
          rw [len_fin (d := 32) (e := 0) (y := x % W / 4294967296) (n := blen (x % W)) (by omega) (by omega) hc _ (by kernel_rfl)]
    · by_cases h2 : 65536 ≤ x % W
      · have s2 : blen (x % W) = 16 + blen (x % W / 65536) := blen_shift (k := 16) h2
        have m2 : x % W / 65536 % W = x % W / 65536 := Nat.mod_eq_of_lt (by simp only [W] at *; omega)
        by_cases h3 : 256 ≤ x % W / 65536
        · have s3 : blen (x % W / 65536) = 8 + blen (x % W / 65536 / 256) := blen_shift (k := 8) h3
          have m3 : x % W / 65536 / 256 % W = x % W / 65536 / 256 := Nat.mod_eq_of_lt (by simp only [W] at *; omega)
          refine pure_fn mixed tt_ok G0_ok Try.func50 (by kernel_rfl) (by kernel_rfl) (by kernel_rfl) (by kernel_rfl) 50 [⟨1,1,.lit (.bo false)⟩,⟨4,1,.lit (.bo true)⟩,⟨7,1,.lit (.bo true)⟩,⟨10,3,.sym⟩] ?_
          refine same (p := Nat.ble 4294967296 (x % W) = false ∧ Nat.ble 65536 (x % W) = true ∧ Nat.ble 256 (x % W / 65536 % W) = true ∧ x % W / 65536 % W / 256 % W % 256 < 256 ∧ some (AV.v1 (.sc (.it (wrapI (wrapI (wrapI (0 + 16) + 8) + wrapI (Int.ofNat (byteAt Go.Lib.len8tab (x % W / 65536 % W / 256 % W % 256) % 256))))))) = some (AV.v1 (.sc (.it (Int.ofNat (blen (x % W))))))) ?_ (by kernel_rfl)
          rw [m2, m3]
          have hc : x % W / 65536 / 256 < 256 := by simp only [W] at *; omega
          have me : (x % W / 65536 / 256) % 256 = x % W / 65536 / 256 := Nat.mod_eq_of_lt hc
          rw [me]
          refine ⟨by rw [← Bool.not_eq_true, Nat.ble_eq]; exact h1, Nat.ble_eq_true_of_le h2, Nat.ble_eq_true_of_le h3, hc, ?_⟩
          rw [len_fin (d := 24) (e := 0) (y := x % W / 65536 / 256) (n := blen (x % W)) (by omega) (by omega) hc _ (by kernel_rfl)]
        · refine pure_fn mixed tt_ok G0_ok Try.func50 (by kernel_rfl) (by kernel_rfl) (by kernel_rfl) (by kernel_rfl) 50 [⟨1,1,.lit (.bo false)⟩,⟨4,1,.lit (.bo true)⟩,⟨7,1,.lit (.bo false)⟩,⟨10,3,.sym⟩] ?_
          refine same (p := Nat.ble 4294967296 (x % W) = false ∧ Nat.ble 65536 (x % W) = true ∧ Nat.ble 256 (x % W / 65536 % W) = false ∧ x % W / 65536 % W % 256 < 256 ∧ some (AV.v1 (.sc (.it (wrapI (wrapI (0 + 16) + wrapI (Int.ofNat (byteAt Go.Lib.len8tab (x % W / 65536 % W % 256) % 256))))))) = some (AV.v1 (.sc (.it (Int.ofNat (blen (x % W))))))) ?_ (by kernel_rfl)
          rw [m2]
          have hc : x % W / 65536 < 256 := by simp only [W] at *; omega
          have me : (x % W / 65536) % 256 = x % W / 65536 := Nat.mod_eq_of_lt hc
          rw [me]
          refine ⟨by rw [← Bool.not_eq_true, Nat.ble_eq]; exact h1, Nat.ble_eq_true_of_le h2, by rw [← Bool.not_eq_true, Nat.ble_eq]; exact h3, hc, ?_⟩
          rw [len_fin (d := 16) (e := 0) (y := x % W / 65536) (n := blen (x % W)) (by omega) (by omega) hc _ (by kernel_rfl)]
      · by_cases h3 : 256 ≤ x % W
        · have s3 : blen (x % W) = 8 + blen (x % W / 256) := blen_shift (k := 8) h3
          have m3 : x % W / 256 % W = x % W / 256 := Nat.mod_eq_of_lt (by simp only [W] at *; omega)
          refine pure_fn mixed tt_ok G0_ok Try.func50 (by kernel_rfl) (by kernel_rfl) (by kernel_rfl) (by kernel_rfl) 50 [⟨1,1,.lit (.bo false)⟩,⟨4,1,.lit (.bo false)⟩,⟨7,1,.lit (.bo true)⟩,⟨10,3,.sym⟩] ?_
          refine same (p := Nat.ble 4294967296 (x % W) = false ∧ Nat.ble 65536 (x % W) = false ∧ Nat.ble 256 (x % W) = true ∧ x % W / 256 % W % 256 < 256 ∧ some (AV.v1 (.sc (.it (wrapI (wrapI (0 + 8) + wrapI (Int.ofNat (byteAt Go.Lib.len8tab (x % W / 256 % W % 256) % 256))))))) = some (AV.v1 (.sc (.it (Int.ofNat (blen (x % W))))))) ?_ (by kernel_rfl)
          rw [m3]
          have hc : x % W / 256 < 256 := by simp only [W] at *; omega
          have me : (x % W / 256) % 256 = x % W / 256 := Nat.mod_eq_of_lt hc
          rw [me]
          refine ⟨by rw [← Bool.not_eq_true, Nat.ble_eq]; exact h1, by rw [← Bool.not_eq_true, Nat.ble_eq]; exact h2, Nat.ble_eq_true_of_le h3, hc, ?_⟩
          rw [len_fin (d := 8) (e := 0) (y := x % W / 256) (n := blen (x % W)) (by omega) (by omega) hc _ (by kernel_rfl)]
        · refine pure_fn mixed tt_ok G0_ok Try.func50 (by kernel_rfl) (by kernel_rfl) (by kernel_rfl) (by kernel_rfl) 50 [⟨1,1,.lit (.bo false)⟩,⟨4,1,.lit (.bo false)⟩,⟨7,1,.lit (.bo false)⟩,⟨10,3,.sym⟩] ?_
          refine same (p := Nat.ble 4294967296 (x % W) = false ∧ Nat.ble 65536 (x % W) = false ∧ Nat.ble 256 (x % W) = false ∧ x % W % 256 < 256 ∧ some (AV.v1 (.sc (.it (wrapI (0 + wrapI (Int.ofNat (byteAt Go.Lib.len8tab (x % W % 256) % 256))))))) = some (AV.v1 (.sc (.it (Int.ofNat (blen (x % W))))))) ?_ (by kernel_rfl)
          have hc : x % W < 256 := by simp only [W] at *; omega
          have me : (x % W) % 256 = x % W := Nat.mod_eq_of_lt hc
          rw [me]
          refine ⟨by rw [← Bool.not_eq_true, Nat.ble_eq]; exact h1, by rw [← Bool.not_eq_true, Nat.ble_eq]; exact h2, by rw [← Bool.not_eq_true, Nat.ble_eq]; exact h3, hc, ?_⟩
          rw [len_fin (d := 0) (e := 0) (y := x % W) (n := blen (x % W)) (by omega) (by omega) hc _ (by kernel_rfl)]
  · cases h

/-! Len -/
def GL : Ctx := ctxL [(50, .pure cLen64), (35, .pure cBit)]
theorem GL_ok : CtxOk Try.prog GL := ctxL_cons okLen64 (ctxL_cons okBit' ctxL_nil)
def cLen : List AV → Option (List Prop × AV)
  | [.v1 (.agg [.ws .u64 6 a])] => some ([], .v1 (.sc (.it (Int.ofNat (blen (nv a))))))
  | _ => none
theorem okLen : (CallC.pure cLen).Ok Try.prog 36 := by
  intro args pre v h _
  unfold cLen at h
  split at h
  · rename_i a
    cases h
    refine pure_fn mixed tt_ok GL_ok Try.func36 (by kernel_rfl) (by kernel_rfl) (by kernel_rfl) (by kernel_rfl) 100 [] ?_
    refine same (p := lenP a (fun z => some (AV.v1 (.sc (.it z))) = some (AV.v1 (.sc (.it (Int.ofNat (blen (nv a))))))) 6) (lenP_of a _ 6 (by omega) (by rw [← nv_nvn])) (by kernel_rfl)
  · cases h
theorem okLen' : (CallC.pure cLen).Ok Try.prog 37 := by
  intro args pre v h _
  unfold cLen at h
  split at h
  · rename_i a
    cases h
    refine pure_fn mixed tt_ok GL_ok Try.func37 (by kernel_rfl) (by kernel_rfl) (by kernel_rfl) (by kernel_rfl) 2000 [] ?_
    refine same (p := lenB (nv a) (fun z => some (AV.v1 (.sc (.it z))) = some (AV.v1 (.sc (.it (Int.ofNat (blen (nv a))))))) E) (lenB_of (nv a) _ E (by decide) (by rw [Nat.mod_eq_of_lt (by have := nv_lt a; rw [R_pow] at this; exact this)])) (by kernel_rfl)
  · cases h
end Go.Proofs.Ytiaongfgkmbaaaa
