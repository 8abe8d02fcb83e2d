/- Tools for the laws' frames: a number that is handed in, opened. -/
import Derived.Test.YtiaongfgkmbaaaaRows
import Derived.Test.YtiaongfgkmbaaaaW3
import Derived.Test.YtiaongfgkmbaaaaFwO
import Derived.ProofKit
namespace Go.Proofs.Ytiaongfgkmbaaaa
open Go.Rq Go Go.ChangeShapes Go.WideShapes Go.ChangeAt Go.RowKit

theorem Try.own : ownKnob Try.prog.godebug = none := by kernel_rfl
theorem Try.cells24 : Try.prog.cellsOf 24 = 6 := by kernel_rfl
theorem Try.cells22 : Try.prog.cellsOf 22 = 1 := by kernel_rfl

theorem list6 {α : Type} (l : List α) (h : l.length = 6) : ∃ a b c d e f, l = [a, b, c, d, e, f] := by
  match l, h with
  | [a, b, c, d, e, f], _ => exact ⟨a, b, c, d, e, f, rfl⟩
theorem u64_lit {z : Int} (h : (Lit.int .u64 z).wf = true) : Int.ofNat (z.toNat % W) = z := by
  simp only [Lit.wf, IntKind.min, IntKind.max, IntKind.signed, IntKind.bits, Bool.and_eq_true] at h
  simp only [W, Int.ofNat_eq_natCast]
  simp at h
  omega

/-- A number of six words, opened. -/
theorem num_open {H : Type} {enc : TypeId × Value → H} {Wd : World} {base b0 : Nat} {sp : Nat → Bool} {hd : Bool} {v : Value} {d : DataW H} {p : List MemPlace}
    (h : DataW.Trod enc Try.prog Wd base sp hd 24 v d p) (hv : Value.okWide Try.prog Wd .any b0 24 v) :
    ∃ a : Nat → Nat, v = (AV.v1 (.agg [.ws .u64 6 a])).val (fun _ => 0) ∧ p = [] ∧ ∀ (W' : World) (b : Nat) (sp : Nat → Bool) (hd : Bool), DataW.Trod enc Try.prog W' b sp hd 24 v d [] := by
  obtain ⟨cs, rfl, hsz⟩ : ∃ cs, v = .agg cs ∧ cs.size = Try.prog.cellsOf 24 := by
    have := hv
    simp [Value.okWide, Try.underlying24] at this
    obtain ⟨cs, h1, h2, _⟩ := this
    exact ⟨cs, h1, h2⟩
  rw [Try.cells24] at hsz
  obtain ⟨l⟩ := cs
  obtain ⟨c0, c1, c2, c3, c4, c5, rfl⟩ := list6 l hsz
  obtain ⟨fuel, hf⟩ := h
  obtain ⟨xs, m, _, hx, _, hl, hi⟩ := DataW.trod_array Try.underlying24 hf
  obtain ⟨y0, y1, y2, y3, y4, y5, rfl⟩ := list6 xs hl
  rw [Try.cells22] at hi
  have i0 := hi 0 (by omega)
  have i1 := hi 1 (by omega)
  have i2 := hi 2 (by omega)
  have i3 := hi 3 (by omega)
  have i4 := hi 4 (by omega)
  have i5 := hi 5 (by omega)
  obtain ⟨x0, e0, rfl, w0⟩ := DataW.trod_int Try.underlying22 i0
  obtain ⟨x1, e1, rfl, w1⟩ := DataW.trod_int Try.underlying22 i1
  obtain ⟨x2, e2, rfl, w2⟩ := DataW.trod_int Try.underlying22 i2
  obtain ⟨x3, e3, rfl, w3⟩ := DataW.trod_int Try.underlying22 i3
  obtain ⟨x4, e4, rfl, w4⟩ := DataW.trod_int Try.underlying22 i4
  obtain ⟨x5, e5, rfl, w5⟩ := DataW.trod_int Try.underlying22 i5
  simp [Value.cells] at e0 e1 e2 e3 e4 e5
  subst e0 e1 e2 e3 e4 e5
  simp at hx
  obtain ⟨rfl, rfl⟩ := hx
  refine ⟨fun i => ([x0, x1, x2, x3, x4, x5].getD i 0).toNat, ?_, rfl, fun W' b sp hd => ⟨2, ?_⟩⟩
  · simp only [AV.val, V1.val, cvals, Cell.vals, List.append_nil, M]
    rw [show List.range 6 = [0, 1, 2, 3, 4, 5] from rfl]
    have f0 := u64_lit w0
    have f1 := u64_lit w1
    have f2 := u64_lit w2
    have f3 := u64_lit w3
    have f4 := u64_lit w4
    have f5 := u64_lit w5
    simp only [W] at f0 f1 f2 f3 f4 f5
    simp only [List.map_cons, List.map_nil, List.getD_cons_zero, List.getD_cons_succ, f0, f1, f2, f3, f4, f5]
  · simp [DataW.trod, Value.cells, Try.underlying24, Try.underlying22, Try.cells24, Try.cells22, w0, w1, w2, w3, w4, w5, show List.range 6 = [0, 1, 2, 3, 4, 5] from rfl]

theorem eqW_self (f : Nat → Nat) : (eqN W 6 f f && true) = true := by
  rw [Bool.and_true, eqN_iff]; intro i _; rfl
theorem neW_self (f : Nat → Nat) : (!(eqN W 6 f f && true)) = false := by rw [eqW_self]; rfl
theorem ieq_self (z : Int) : ieq z z = true := by rw [ieq_iff]
end Go.Proofs.Ytiaongfgkmbaaaa
