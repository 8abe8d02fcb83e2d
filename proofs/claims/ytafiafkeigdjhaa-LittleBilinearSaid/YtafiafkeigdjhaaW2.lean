/- Products of words, bits, lengths, off their runs. -/
import Derived.Test.YtafiafkeigdjhaaW1
import Derived.Test.YtafiafkeigdjhaaFwM
import Derived.Test.YtafiafkeigdjhaaWM2
namespace Go.Proofs.Ytafiafkeigdjhaa
open Go.Rq Go

theorem G0_ok : CtxOk Try.prog (ctxL []) := ctxL_nil

/-! Mul64 -/
def cMul64 : List AV → Option (List Prop × AV)
  | [.v1 (.sc (.w .u64 x)), .v1 (.sc (.w .u64 y))] => some ([], .tup [.sc (.w .u64 (x % W * (y % W) / W)), .sc (.w .u64 (x * y))])
  | _ => none
theorem okMul64 : (CallC.pure cMul64).Ok Try.prog 67 := by
  intro args pre v h _
  unfold cMul64 at h
  split at h
  · rename_i x y
    cases h
    intro h
    refine CallOk.congr (v := .tup [.sc (.w .u64 (mulHi x y)), .sc (.w .u64 (x * y))]) (pure_fn mixed tt_ok G0_ok Try.func67 (by kernel_rfl) (by kernel_rfl) (by kernel_rfl) (by kernel_rfl) 50 [] ?_ h) (fun ρ => by rw [mulHi_eq]) (by kernel_rfl)
    exact same (p := some (AV.tup [.sc (.w .u64 (mulHi x y)), .sc (.w .u64 (x * y))]) = some (AV.tup [.sc (.w .u64 (mulHi x y)), .sc (.w .u64 (x * y))])) rfl (by kernel_rfl)
  · cases h

/-! Bit -/
def cBit : List AV → Option (List Prop × AV)
  | [.v1 (.agg [.ws .u64 6 a]), .v1 (.sc (.it i))] => some ([], .v1 (.sc (.it (bitI (nv a) i))))
  | _ => none
/-! Len64 -/
def cLen64 : List AV → Option (List Prop × AV)
  | [.v1 (.sc (.w .u64 x))] => some ([], .v1 (.sc (.it (Int.ofNat (blen (x % W))))))
  | _ => none
theorem len_fin {d e y n : Nat} (h : n = d + e + blen y) (hd : d + e ≤ 64) (hy : y < 256) (z : Int) (hz : z = Int.ofNat (d + e)) : wrapI (z + wrapI (Int.ofNat (byteAt Go.Lib.len8tab y % 256))) = Int.ofNat n := by
  have hb : blen y ≤ 8 := blen_lt (k := 8) (by omega)
  rw [tab_eq hy, Nat.mod_eq_of_lt (by omega), wrapI_small (by omega), hz]
  have : Int.ofNat (d + e) + Int.ofNat (blen y) = Int.ofNat n := by rw [h]; simp
  rw [this, wrapI_small (by omega)]
theorem okLen64 : (CallC.pure cLen64).Ok Try.prog 54 := by
  intro args pre v h _
  unfold cLen64 at h
  split at h
  · rename_i x
    cases h
    have hx : x % W < 18446744073709551616 := Nat.mod_lt _ (by decide)
    by_cases h1 : 4294967296 ≤ x % W
    · have s1 : blen (x % W) = 32 + blen (x % W / 4294967296) := blen_shift (k := 32) h1
      have m1 : x % W / 4294967296 % W = x % W / 4294967296 := Nat.mod_eq_of_lt (by simp only [W] at *; omega)
      by_cases h2 : 65536 ≤ x % W / 4294967296
      · have s2 : blen (x % W / 4294967296) = 16 + blen (x % W / 4294967296 / 65536) := blen_shift (k := 16) h2
        have m2 : x % W / 4294967296 / 65536 % W = x % W / 4294967296 / 65536 := Nat.mod_eq_of_lt (by simp only [W] at *; omega)
        by_cases h3 : 256 ≤ x % W / 4294967296 / 65536
        · have s3 : blen (x % W / 4294967296 / 65536) = 8 + blen (x % W / 4294967296 / 65536 / 256) := blen_shift (k := 8) h3
          have m3 : x % W / 4294967296 / 65536 / 256 % W = x % W / 4294967296 / 65536 / 256 := Nat.mod_eq_of_lt (by simp only [W] at *; omega)
          refine pure_fn mixed tt_ok G0_ok Try.func54 (by kernel_rfl) (by kernel_rfl) (by kernel_rfl) (by kernel_rfl) 50 [⟨1,1,.lit (.bo true)⟩,⟨4,1,.lit (.bo true)⟩,⟨7,1,.lit (.bo true)⟩,⟨10,3,.sym⟩] ?_
          refine same (p := Nat.ble 4294967296 (x % W) = true ∧ Nat.ble 65536 (x % W / 4294967296 % W) = true ∧ Nat.ble 256 (x % W / 4294967296 % W / 65536 % W) = true ∧ x % W / 4294967296 % W / 65536 % W / 256 % W % 256 < 256 ∧ some (AV.v1 (.sc (.it (wrapI (wrapI (wrapI (32 + 16) + 8) + wrapI (Int.ofNat (byteAt Go.Lib.len8tab (x % W / 4294967296 % W / 65536 % W / 256 % W % 256) % 256))))))) = some (AV.v1 (.sc (.it (Int.ofNat (blen (x % W))))))) ?_ (by kernel_rfl)
          rw [m1, m2, m3]
          have hc : x % W / 4294967296 / 65536 / 256 < 256 := by simp only [W] at *; omega
          have me : (x % W / 4294967296 / 65536 / 256) % 256 = x % W / 4294967296 / 65536 / 256 := Nat.mod_eq_of_lt hc
          rw [me]
          refine ⟨Nat.ble_eq_true_of_le h1, Nat.ble_eq_true_of_le h2, Nat.ble_eq_true_of_le h3, hc, ?_⟩
          rw [len_fin (d := 56) (e := 0) (y := x % W / 4294967296 / 65536 / 256) (n := blen (x % W)) (by omega) (by omega) hc _ (by kernel_rfl)]
        · refine pure_fn mixed tt_ok G0_ok Try.func54 (by kernel_rfl) (by kernel_rfl) (by kernel_rfl) (by kernel_rfl) 50 [⟨1,1,.lit (.bo true)⟩,⟨4,1,.lit (.bo true)⟩,⟨7,1,.lit (.bo false)⟩,⟨10,3,.sym⟩] ?_
          refine same (p := Nat.ble 4294967296 (x % W) = true ∧ Nat.ble 65536 (x % W / 4294967296 % W) = true ∧ Nat.ble 256 (x % W / 4294967296 % W / 65536 % W) = false ∧ x % W / 4294967296 % W / 65536 % W % 256 < 256 ∧ some (AV.v1 (.sc (.it (wrapI (wrapI (32 + 16) + wrapI (Int.ofNat (byteAt Go.Lib.len8tab (x % W / 4294967296 % W / 65536 % W % 256) % 256))))))) = some (AV.v1 (.sc (.it (Int.ofNat (blen (x % W))))))) ?_ (by kernel_rfl)
          rw [m1, m2]
          have hc : x % W / 4294967296 / 65536 < 256 := by simp only [W] at *; omega
          have me : (x % W / 4294967296 / 65536) % 256 = x % W / 4294967296 / 65536 := Nat.mod_eq_of_lt hc
          rw [me]
          refine ⟨Nat.ble_eq_true_of_le h1, Nat.ble_eq_true_of_le h2, by rw [← Bool.not_eq_true, Nat.ble_eq]; exact h3, hc, ?_⟩
          rw [len_fin (d := 48) (e := 0) (y := x % W / 4294967296 / 65536) (n := blen (x % W)) (by omega) (by omega) hc _ (by kernel_rfl)]
      · by_cases h3 : 256 ≤ x % W / 4294967296
        · have s3 : blen (x % W / 4294967296) = 8 + blen (x % W / 4294967296 / 256) := blen_shift (k := 8) h3
          have m3 : x % W / 4294967296 / 256 % W = x % W / 4294967296 / 256 := Nat.mod_eq_of_lt (by simp only [W] at *; omega)
          refine pure_fn mixed tt_ok G0_ok Try.func54 (by kernel_rfl) (by kernel_rfl) (by kernel_rfl) (by kernel_rfl) 50 [⟨1,1,.lit (.bo true)⟩,⟨4,1,.lit (.bo false)⟩,⟨7,1,.lit (.bo true)⟩,⟨10,3,.sym⟩] ?_
          refine same (p := Nat.ble 4294967296 (x % W) = true ∧ Nat.ble 65536 (x % W / 4294967296 % W) = false ∧ Nat.ble 256 (x % W / 4294967296 % W) = true ∧ x % W / 4294967296 % W / 256 % W % 256 < 256 ∧ some (AV.v1 (.sc (.it (wrapI (wrapI (32 + 8) + wrapI (Int.ofNat (byteAt Go.Lib.len8tab (x % W / 4294967296 % W / 256 % W % 256) % 256))))))) = some (AV.v1 (.sc (.it (Int.ofNat (blen (x % W))))))) ?_ (by kernel_rfl)
          rw [m1, m3]
          have hc : x % W / 4294967296 / 256 < 256 := by simp only [W] at *; omega
          have me : (x % W / 4294967296 / 256) % 256 = x % W / 4294967296 / 256 := Nat.mod_eq_of_lt hc
          rw [me]
          refine ⟨Nat.ble_eq_true_of_le h1, by rw [← Bool.not_eq_true, Nat.ble_eq]; exact h2, Nat.ble_eq_true_of_le h3, hc, ?_⟩
          rw [len_fin (d := 40) (e := 0) (y := x % W / 4294967296 / 256) (n := blen (x % W)) (by omega) (by omega) hc _ (by kernel_rfl)]
        · refine pure_fn mixed tt_ok G0_ok Try.func54 (by kernel_rfl) (by kernel_rfl) (by kernel_rfl) (by kernel_rfl) 50 [⟨1,1,.lit (.bo true)⟩,⟨4,1,.lit (.bo false)⟩,⟨7,1,.lit (.bo false)⟩,⟨10,3,.sym⟩] ?_
          refine same (p := Nat.ble 4294967296 (x % W) = true ∧ Nat.ble 65536 (x % W / 4294967296 % W) = false ∧ Nat.ble 256 (x % W / 4294967296 % W) = false ∧ x % W / 4294967296 % W % 256 < 256 ∧ some (AV.v1 (.sc (.it (wrapI (32 + wrapI (Int.ofNat (byteAt Go.Lib.len8tab (x % W / 4294967296 % W % 256) % 256))))))) = some (AV.v1 (.sc (.it (Int.ofNat (blen (x % W))))))) ?_ (by kernel_rfl)
          rw [m1]
          have hc : x % W / 4294967296 < 256 := by simp only [W] at *; omega
          have me : (x % W / 4294967296) % 256 = x % W / 4294967296 := Nat.mod_eq_of_lt hc
          rw [me]
          refine ⟨Nat.ble_eq_true_of_le h1, by rw [← Bool.not_eq_true, Nat.ble_eq]; exact h2, by rw [← Bool.not_eq_true, Nat.ble_eq]; exact h3, hc, ?_⟩
          rw [len_fin (d := 32) (e := 0) (y := x % W / 4294967296) (n := blen (x % W)) (by omega) (by omega) hc _ (by kernel_rfl)]
    · by_cases h2 : 65536 ≤ x % W
      · have s2 : blen (x % W) = 16 + blen (x % W / 65536) := blen_shift (k := 16) h2
        have m2 : x % W / 65536 % W = x % W / 65536 := Nat.mod_eq_of_lt (by simp only [W] at *; omega)
        by_cases h3 : 256 ≤ x % W / 65536
        · have s3 : blen (x % W / 65536) = 8 + blen (x % W / 65536 / 256) := blen_shift (k := 8) h3
          have m3 : x % W / 65536 / 256 % W = x % W / 65536 / 256 := Nat.mod_eq_of_lt (by simp only [W] at *; omega)
          refine pure_fn mixed tt_ok G0_ok Try.func54 (by kernel_rfl) (by kernel_rfl) (by kernel_rfl) (by kernel_rfl) 50 [⟨1,1,.lit (.bo false)⟩,⟨4,1,.lit (.bo true)⟩,⟨7,1,.lit (.bo true)⟩,⟨10,3,.sym⟩] ?_
          refine same (p := Nat.ble 4294967296 (x % W) = false ∧ Nat.ble 65536 (x % W) = true ∧ Nat.ble 256 (x % W / 65536 % W) = true ∧ x % W / 65536 % W / 256 % W % 256 < 256 ∧ some (AV.v1 (.sc (.it (wrapI (wrapI (wrapI (0 + 16) + 8) + wrapI (Int.ofNat (byteAt Go.Lib.len8tab (x % W / 65536 % W / 256 % W % 256) % 256))))))) = some (AV.v1 (.sc (.it (Int.ofNat (blen (x % W))))))) ?_ (by kernel_rfl)
          rw [m2, m3]
          have hc : x % W / 65536 / 256 < 256 := by simp only [W] at *; omega
          have me : (x % W / 65536 / 256) % 256 = x % W / 65536 / 256 := Nat.mod_eq_of_lt hc
          rw [me]
          refine ⟨by rw [← Bool.not_eq_true, Nat.ble_eq]; exact h1, Nat.ble_eq_true_of_le h2, Nat.ble_eq_true_of_le h3, hc, ?_⟩
          rw [len_fin (d := 24) (e := 0) (y := x % W / 65536 / 256) (n := blen (x % W)) (by omega) (by omega) hc _ (by kernel_rfl)]
        · refine pure_fn mixed tt_ok G0_ok Try.func54 (by kernel_rfl) (by kernel_rfl) (by kernel_rfl) (by kernel_rfl) 50 [⟨1,1,.lit (.bo false)⟩,⟨4,1,.lit (.bo true)⟩,⟨7,1,.lit (.bo false)⟩,⟨10,3,.sym⟩] ?_
          refine same (p := Nat.ble 4294967296 (x % W) = false ∧ Nat.ble 65536 (x % W) = true ∧ Nat.ble 256 (x % W / 65536 % W) = false ∧ x % W / 65536 % W % 256 < 256 ∧ some (AV.v1 (.sc (.it (wrapI (wrapI (0 + 16) + wrapI (Int.ofNat (byteAt Go.Lib.len8tab (x % W / 65536 % W % 256) % 256))))))) = some (AV.v1 (.sc (.it (Int.ofNat (blen (x % W))))))) ?_ (by kernel_rfl)
          rw [m2]
          have hc : x % W / 65536 < 256 := by simp only [W] at *; omega
          have me : (x % W / 65536) % 256 = x % W / 65536 := Nat.mod_eq_of_lt hc
          rw [me]
          refine ⟨by rw [← Bool.not_eq_true, Nat.ble_eq]; exact h1, Nat.ble_eq_true_of_le h2, by rw [← Bool.not_eq_true, Nat.ble_eq]; exact h3, hc, ?_⟩
          rw [len_fin (d := 16) (e := 0) (y := x % W / 65536) (n := blen (x % W)) (by omega) (by omega) hc _ (by kernel_rfl)]
      · by_cases h3 : 256 ≤ x % W
        · have s3 : blen (x % W) = 8 + blen (x % W / 256) := blen_shift (k := 8) h3
          have m3 : x % W / 256 % W = x % W / 256 := Nat.mod_eq_of_lt (by simp only [W] at *; omega)
          refine pure_fn mixed tt_ok G0_ok Try.func54 (by kernel_rfl) (by kernel_rfl) (by kernel_rfl) (by kernel_rfl) 50 [⟨1,1,.lit (.bo false)⟩,⟨4,1,.lit (.bo false)⟩,⟨7,1,.lit (.bo true)⟩,⟨10,3,.sym⟩] ?_
          refine same (p := Nat.ble 4294967296 (x % W) = false ∧ Nat.ble 65536 (x % W) = false ∧ Nat.ble 256 (x % W) = true ∧ x % W / 256 % W % 256 < 256 ∧ some (AV.v1 (.sc (.it (wrapI (wrapI (0 + 8) + wrapI (Int.ofNat (byteAt Go.Lib.len8tab (x % W / 256 % W % 256) % 256))))))) = some (AV.v1 (.sc (.it (Int.ofNat (blen (x % W))))))) ?_ (by kernel_rfl)
          rw [m3]
          have hc : x % W / 256 < 256 := by simp only [W] at *; omega
          have me : (x % W / 256) % 256 = x % W / 256 := Nat.mod_eq_of_lt hc
          rw [me]
          refine ⟨by rw [← Bool.not_eq_true, Nat.ble_eq]; exact h1, by rw [← Bool.not_eq_true, Nat.ble_eq]; exact h2, Nat.ble_eq_true_of_le h3, hc, ?_⟩
          rw [len_fin (d := 8) (e := 0) (y := x % W / 256) (n := blen (x % W)) (by omega) (by omega) hc _ (by kernel_rfl)]
        · refine pure_fn mixed tt_ok G0_ok Try.func54 (by kernel_rfl) (by kernel_rfl) (by kernel_rfl) (by kernel_rfl) 50 [⟨1,1,.lit (.bo false)⟩,⟨4,1,.lit (.bo false)⟩,⟨7,1,.lit (.bo false)⟩,⟨10,3,.sym⟩] ?_
          refine same (p := Nat.ble 4294967296 (x % W) = false ∧ Nat.ble 65536 (x % W) = false ∧ Nat.ble 256 (x % W) = false ∧ x % W % 256 < 256 ∧ some (AV.v1 (.sc (.it (wrapI (0 + wrapI (Int.ofNat (byteAt Go.Lib.len8tab (x % W % 256) % 256))))))) = some (AV.v1 (.sc (.it (Int.ofNat (blen (x % W))))))) ?_ (by kernel_rfl)
          have hc : x % W < 256 := by simp only [W] at *; omega
          have me : (x % W) % 256 = x % W := Nat.mod_eq_of_lt hc
          rw [me]
          refine ⟨by rw [← Bool.not_eq_true, Nat.ble_eq]; exact h1, by rw [← Bool.not_eq_true, Nat.ble_eq]; exact h2, by rw [← Bool.not_eq_true, Nat.ble_eq]; exact h3, hc, ?_⟩
          rw [len_fin (d := 0) (e := 0) (y := x % W) (n := blen (x % W)) (by omega) (by omega) hc _ (by kernel_rfl)]
  · cases h

/-! Len -/
def GL : Ctx := ctxL [(54, .pure cLen64)]
theorem GL_ok : CtxOk Try.prog GL := ctxL_cons okLen64 ctxL_nil
def cLen : List AV → Option (List Prop × AV)
  | [.v1 (.agg [.ws .u64 6 a])] => some ([], .v1 (.sc (.it (Int.ofNat (blen (nv a))))))
  | _ => none
end Go.Proofs.Ytafiafkeigdjhaa
