/- Products of words, bits, lengths, off their runs. -/
import Derived.Test.YtndmoidenbfflaaW1
import Derived.Test.YtndmoidenbfflaaFwM
import Derived.Test.YtndmoidenbfflaaWM2
namespace Go.Proofs.Ytndmoidenbfflaa
open Go.Rq Go

theorem G0_ok : CtxOk Try.prog (ctxL []) := ctxL_nil

/-! Mul64 -/
def cMul64 : List AV → Option (List Prop × AV)
  | [.v1 (.sc (.w .u64 x)), .v1 (.sc (.w .u64 y))] => some ([], .tup [.sc (.w .u64 (x % W * (y % W) / W)), .sc (.w .u64 (x * y))])
  | _ => none
theorem okMul64 : (CallC.pure cMul64).Ok Try.prog 56 := by
  intro args pre v h _
  unfold cMul64 at h
  split at h
  · rename_i x y
    cases h
    intro h
    refine CallOk.congr (v := .tup [.sc (.w .u64 (mulHi x y)), .sc (.w .u64 (x * y))]) (pure_fn mixed tt_ok G0_ok Try.func56 (by kernel_rfl) (by kernel_rfl) (by kernel_rfl) (by kernel_rfl) 50 [] ?_ h) (fun ρ => by rw [mulHi_eq]) (by kernel_rfl)
    exact same (p := some (AV.tup [.sc (.w .u64 (mulHi x y)), .sc (.w .u64 (x * y))]) = some (AV.tup [.sc (.w .u64 (mulHi x y)), .sc (.w .u64 (x * y))])) rfl (by kernel_rfl)
  · cases h

/-! Bit -/
def cBit : List AV → Option (List Prop × AV)
  | [.v1 (.agg [.ws .u64 6 a]), .v1 (.sc (.it i))] => some ([], .v1 (.sc (.it (bitI (nv a) i))))
  | _ => none
/-! Len64 -/
def cLen64 : List AV → Option (List Prop × AV)
  | [.v1 (.sc (.w .u64 x))] => some ([], .v1 (.sc (.it (Int.ofNat (blen (x % W))))))
  | _ => none
theorem len_fin {d e y n : Nat} (h : n = d + e + blen y) (hd : d + e ≤ 64) (hy : y < 256) (z : Int) (hz : z = Int.ofNat (d + e)) : wrapI (z + wrapI (Int.ofNat (byteAt Go.Lib.len8tab y % 256))) = Int.ofNat n := by
  have hb : blen y ≤ 8 := blen_lt (k := 8) (by omega)
  rw [tab_eq hy, Nat.mod_eq_of_lt (by omega), wrapI_small (by omega), hz]
  have : Int.ofNat (d + e) + Int.ofNat (blen y) = Int.ofNat n := by rw [h]; simp
  rw [this, wrapI_small (by omega)]
/-! Len -/
def GL : Ctx := ctxL []
theorem GL_ok : CtxOk Try.prog GL := ctxL_nil
def cLen : List AV → Option (List Prop × AV)
  | [.v1 (.agg [.ws .u64 6 a])] => some ([], .v1 (.sc (.it (Int.ofNat (blen (nv a))))))
  | _ => none
end Go.Proofs.Ytndmoidenbfflaa
