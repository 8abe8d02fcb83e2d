/- Suites, points and pairs that are handed in, opened. -/
import Derived.Test.YtafiafkeigdjhaaRows
import Derived.Test.YtafiafkeigdjhaaL12
import Derived.Test.YtafiafkeigdjhaaFwV
import Derived.ProofKit
import Derived.Carry
namespace Go.Proofs.Ytafiafkeigdjhaa
open Go.Rq Go Go.ChangeShapes Go.WideShapes Go.ChangeAt Go.RowKit

theorem Try.own : ownKnob Try.prog.godebug = none := by kernel_rfl
theorem u64_lit {z : Int} (h : (Lit.int .u64 z).wf = true) : Int.ofNat (z.toNat % W) = z := by
  simp only [Lit.wf, IntKind.min, IntKind.max, IntKind.signed, IntKind.bits, Bool.and_eq_true] at h
  simp only [W, Int.ofNat_eq_natCast]
  simp at h
  omega
theorem u64_lt {z : Int} (h : (Lit.int .u64 z).wf = true) : z.toNat < W := by
  simp only [Lit.wf, IntKind.min, IntKind.max, IntKind.signed, IntKind.bits, Bool.and_eq_true] at h
  simp only [W]
  simp at h
  omega
theorem u32_lit {z : Int} (h : (Lit.int .u32 z).wf = true) : Int.ofNat (z.toNat % 4294967296) = z := by
  simp only [Lit.wf, IntKind.min, IntKind.max, IntKind.signed, IntKind.bits, Bool.and_eq_true] at h
  simp only [Int.ofNat_eq_natCast]
  simp at h
  omega
theorem flatU : FlatTy Try.prog 23 [.i .u64] := .int Try.underlying23
theorem flatB : FlatTy Try.prog 4 [.b] := .bool Try.underlying4
theorem flatL1 : FlatTy Try.prog 25 ([.i .u64] ++ ([.i .u64] ++ ([.b] ++ []))) :=
  .str Try.underlying25 (.cons rfl flatU (by kernel_rfl) (.cons rfl flatU (by kernel_rfl) (.cons rfl flatB (by kernel_rfl) (.nil _)))) (by kernel_rfl)
theorem flatL2 : FlatTy Try.prog 43 (List.replicate 2 (.i .u64) ++ []) := .arr Try.underlying43 flatU (by kernel_rfl) (by kernel_rfl)
theorem agg_arr {P : Program} {Wd : World} {b0 : Nat} {t e : TypeId} {n : Nat} {v : Value} (hu : P.underlying t = some (.array n e)) (hv : Value.okWide P Wd .any b0 t v) : ∃ cs, v = .agg cs := by
  have := hv
  simp [Value.okWide, hu] at this
  obtain ⟨cs, h1, _⟩ := this
  exact ⟨cs, h1⟩
theorem agg_str {P : Program} {Wd : World} {b0 : Nat} {t : TypeId} {fs : Array Field} {v : Value} (hu : P.underlying t = some (.struct fs)) (hv : Value.okWide P Wd .any b0 t v) : ∃ cs, v = .agg cs := by
  have := hv
  simp [Value.okWide, hu] at this
  obtain ⟨cs, h1, _⟩ := this
  exact ⟨cs, h1⟩
theorem l1_open {H : Type} {enc : TypeId × Value → H} {Wd : World} {base b0 : Nat} {sp : Nat → Bool} {hd : Bool} {v : Value} {d : DataW H} {p : List MemPlace}
    (h : DataW.Trod enc Try.prog Wd base sp hd 25 v d p) (hv : Value.okWide Try.prog Wd .any b0 25 v) :
    ∃ (x y : Nat) (z : Bool), x < W ∧ y < W ∧ v = (AV.v1 (.agg [.one (.w .u64 x), .one (.w .u64 y), .one (.bo z)])).val (fun _ => 0) ∧ p = [] ∧ ∀ (W' : World) (b : Nat) (sp : Nat → Bool) (hd : Bool), DataW.Trod enc Try.prog W' b sp hd 25 v d [] := by
  obtain ⟨cs, rfl⟩ := agg_str Try.underlying25 hv
  obtain ⟨hc, hp, ht⟩ := flatL1.trod h
  obtain ⟨a, r1, e1, w1, hc⟩ := CsOk.int hc
  obtain ⟨b, r2, e2, w2, hc⟩ := CsOk.int hc
  obtain ⟨c, r3, e3, hc⟩ := CsOk.bo hc
  have e4 := CsOk.nil hc
  subst e4 e3 e2
  refine ⟨a.toNat, b.toNat, c, u64_lt w1, u64_lt w2, ?_, hp, ht⟩
  have f1 := u64_lit w1
  have f2 := u64_lit w2
  simp only [W] at f1 f2
  have : cs = #[.int .u64 a, .int .u64 b, .bool c] := by
    apply Array.ext'
    simp only [Value.cells] at e1
    rw [e1]
  subst this
  simp only [AV.val, V1.val, cvals, Cell.vals, Sc.val, M, f1, f2, List.cons_append, List.nil_append]
theorem l2_open {H : Type} {enc : TypeId × Value → H} {Wd : World} {base b0 : Nat} {sp : Nat → Bool} {hd : Bool} {v : Value} {d : DataW H} {p : List MemPlace}
    (h : DataW.Trod enc Try.prog Wd base sp hd 43 v d p) (hv : Value.okWide Try.prog Wd .any b0 43 v) :
    ∃ a : Nat → Nat, v = (AV.v1 (.agg [.ws .u64 2 a])).val (fun _ => 0) ∧ p = [] ∧ ∀ (W' : World) (b : Nat) (sp : Nat → Bool) (hd : Bool), DataW.Trod enc Try.prog W' b sp hd 43 v d [] := by
  obtain ⟨cs, rfl⟩ := agg_arr Try.underlying43 hv
  obtain ⟨hc, hp, ht⟩ := flatL2.trod h
  obtain ⟨a, r1, e1, hc⟩ := CsOk.u64 hc
  have e4 := CsOk.nil hc
  subst e4
  refine ⟨a, ?_, hp, ht⟩
  have : cs = (cvals (fun _ => 0) [.ws .u64 2 a]).toArray := by
    apply Array.ext'
    simp only [Value.cells] at e1
    rw [e1]
    rfl
  rw [this]
  rfl
section
variable {H : Type} {enc : TypeId × Value → H} {P : Program} {w : World} {base : Nat} {spare : Nat → Bool} {held : Bool}
theorem trodAll_six {t0 t1 t2 t3 t4 t5 : TypeId} {args : Array Value} {ds : List (DataW H)} {ps : List MemPlace} (h : DataW.TrodAll enc P w base spare held [t0, t1, t2, t3, t4, t5] args.toList ds ps) :
    ∃ v0 v1 v2 v3 v4 v5 d0 d1 d2 d3 d4 d5 p0 p1 p2 p3 p4 p5, args = #[v0, v1, v2, v3, v4, v5] ∧ ds = [d0, d1, d2, d3, d4, d5] ∧ ps = p0 ++ p1 ++ p2 ++ p3 ++ p4 ++ p5 ∧ DataW.Trod enc P w base spare held t0 v0 d0 p0 ∧ DataW.Trod enc P w base spare held t1 v1 d1 p1 ∧
      DataW.Trod enc P w base spare held t2 v2 d2 p2 ∧ DataW.Trod enc P w base spare held t3 v3 d3 p3 ∧ DataW.Trod enc P w base spare held t4 v4 d4 p4 ∧ DataW.Trod enc P w base spare held t5 v5 d5 p5 := by
  obtain ⟨v0, vs0, d0, ds0, p0, q0, hargs, rfl, rfl, h0, r0⟩ := trodAll_cons h
  obtain ⟨v1, vs1, d1, ds1, p1, q1, rfl, rfl, rfl, h1, r1⟩ := trodAll_cons r0
  obtain ⟨v2, vs2, d2, ds2, p2, q2, rfl, rfl, rfl, h2, r2⟩ := trodAll_cons r1
  obtain ⟨v3, vs3, d3, ds3, p3, q3, rfl, rfl, rfl, h3, r3⟩ := trodAll_cons r2
  obtain ⟨v4, vs4, d4, ds4, p4, q4, rfl, rfl, rfl, h4, r4⟩ := trodAll_cons r3
  obtain ⟨v5, vs5, d5, ds5, p5, q5, rfl, rfl, rfl, h5, r5⟩ := trodAll_cons r4
  obtain ⟨rfl, rfl, rfl⟩ := trodAll_nil r5
  exact ⟨v0, v1, v2, v3, v4, v5, d0, d1, d2, d3, d4, d5, p0, p1, p2, p3, p4, p5, by cases args; simp_all, rfl, by simp, h0, h1, h2, h3, h4, h5⟩
theorem trodAll_mk6 {t0 t1 t2 t3 t4 t5 : TypeId} {v0 v1 v2 v3 v4 v5 : Value} {d0 d1 d2 d3 d4 d5 : DataW H} {p0 p1 p2 p3 p4 p5 : List MemPlace} (h0 : DataW.Trod enc P w base spare held t0 v0 d0 p0) (h1 : DataW.Trod enc P w base spare held t1 v1 d1 p1)
    (h2 : DataW.Trod enc P w base spare held t2 v2 d2 p2) (h3 : DataW.Trod enc P w base spare held t3 v3 d3 p3) (h4 : DataW.Trod enc P w base spare held t4 v4 d4 p4) (h5 : DataW.Trod enc P w base spare held t5 v5 d5 p5) :
    DataW.TrodAll enc P w base spare held [t0, t1, t2, t3, t4, t5] [v0, v1, v2, v3, v4, v5] [d0, d1, d2, d3, d4, d5] (p0 ++ (p1 ++ (p2 ++ (p3 ++ (p4 ++ p5))))) := ⟨p0, _, h0, ⟨p1, _, h1, trodAll_mk4 h2 h3 h4 h5, rfl⟩, rfl⟩
end
abbrev endT : Prop := ∃ v', some (AV.v1 (.sc (.bo true))) = some v' ∧ ∀ ρ, v'.val ρ = (AV.v1 (.sc (.bo true))).val ρ
theorem endT_ok : endT := ⟨_, rfl, fun _ => rfl⟩
theorem ieq_self (z : Int) : ieq z z = true := by rw [ieq_iff]
end Go.Proofs.Ytafiafkeigdjhaa
