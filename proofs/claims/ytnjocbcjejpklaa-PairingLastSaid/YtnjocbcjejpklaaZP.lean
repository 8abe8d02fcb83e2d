/- Joined: WK P0 P1 P2 P3 P4 P5 P6. -/
import Derived.Test.YtnjocbcjejpklaaZB
import Derived.Test.YtnjocbcjejpklaaZD
import Derived.Test.YtnjocbcjejpklaaZC
/- Points of three numbers: x / z z and y / z z z; z 0 is the zero. -/
namespace Go.Rq
open Go

structure J3 (F : Type) where
  x : F
  y : F
  z : F
namespace J3
variable {F : Type} [CR F]
def dbl (p : J3 F) : J3 F :=
  let yy := p.y * p.y
  let s1 := p.x * yy
  let s2 := s1 + s1
  let s := s2 + s2
  let m1 := p.x * p.x
  let m := (m1 + m1) + m1
  let x := m * m - (s + s)
  let e1 := yy * yy
  let e2 := e1 + e1
  let e3 := e2 + e2
  let z1 := p.y * p.z
  ⟨x, m * (s - x) - (e3 + e3), z1 + z1⟩
def nil : J3 F := ⟨1, 1, 0⟩
/-- The sum of two points with different X. -/
def gen (p q : J3 F) : J3 F :=
  let pp := p.z * p.z
  let qq := q.z * q.z
  let u := p.x * qq
  let v := q.x * pp
  let s := p.y * (qq * q.z)
  let t := q.y * (pp * p.z)
  let h := v - u
  let r := t - s
  let hh := h * h
  let hhh := hh * h
  let w := u * hh
  let x := (r * r - hhh) - (w + w)
  ⟨x, r * (w - x) - s * hhh, h * (p.z * q.z)⟩
def hh (p q : J3 F) : F := q.x * (p.z * p.z) - p.x * (q.z * q.z)
def rr (p q : J3 F) : F := q.y * ((p.z * p.z) * p.z) - p.y * ((q.z * q.z) * q.z)
variable [DecidableEq F]
def add (p q : J3 F) : J3 F := if p.z = 0 then q else if q.z = 0 then p else if hh p q = 0 then (if rr p q = 0 then dbl p else nil) else gen p q
/-- By the k lowest bits of n, from above. -/
def times (p : J3 F) : Nat → Nat → J3 F
  | 0, _ => nil
  | k + 1, n => if n % 2 = 1 then add (dbl (times p k (n / 2))) p else dbl (times p k (n / 2))
def lower (inv : F → F) (p : J3 F) : Option (F × F) := if p.z = 0 then none else some (p.x * (inv p.z * inv p.z), p.y * (inv p.z * inv p.z * inv p.z))
def raise : Option (F × F) → J3 F
  | none => nil
  | some q => ⟨q.1, q.2, 1⟩
end J3
/-- A point as it is told. -/
structure A2 (F : Type) where
  x : F
  y : F
  z : Bool
namespace A2
variable {F : Type} [CR F] [DecidableEq F]
def on (b : F) (p : A2 F) : Bool := bif p.z then (decide (p.x = 0) && decide (p.y = 0)) else decide (p.y * p.y = p.x * p.x * p.x + b)
def raise (p : A2 F) : J3 F := bif p.z then J3.nil else ⟨p.x, p.y, 1⟩
def lower (inv : F → F) (p : J3 F) : A2 F := if p.z = 0 then ⟨0, 0, true⟩ else ⟨p.x * (inv p.z * inv p.z), p.y * ((inv p.z * inv p.z) * inv p.z), false⟩
def mulJ (p : A2 F) (n : Nat) : J3 F := J3.times (raise p) (blen n) n
def isIn (b : F) (r : Nat) (p : A2 F) : Bool := on b p && decide ((mulJ p r).z = 0)
end A2
instance : DecidableEq F2p := fun a b =>
  if h1 : a.x = b.x then (if h2 : a.y = b.y then .isTrue (F2p.ext h1 h2) else .isFalse fun e => h2 (by rw [e])) else .isFalse fun e => h1 (by rw [e])
end Go.Rq

/- Values told otherwise; zeros of elements. -/
namespace Go.Proofs.Ytnjocbcjejpklaa
open Go.Rq Go
set_option maxRecDepth 100000
set_option linter.unusedVariables false
set_option linter.unusedSimpArgs false

/-- Cells that stand for the same. -/
def asP (u cs : List Cell) : Prop := ∀ ρ : Ren, (V1.agg u).val ρ = (V1.agg cs).val ρ
theorem cv_nil : ∀ ρ : Ren, cvals ρ [] = cvals ρ [] := fun _ => rfl
theorem cv_cons {f g : Nat → Nat} {cs ds : List Cell} (h : nv f = nv g) (r : ∀ ρ : Ren, cvals ρ cs = cvals ρ ds) : ∀ ρ : Ren, cvals ρ (.ws .u64 6 f :: cs) = cvals ρ (.ws .u64 6 g :: ds) := fun ρ => by
  have e := nm_val h ρ
  simp only [AV.val, V1.val, cvals, List.append_nil] at e
  simp only [cvals]
  rw [r ρ]
  congr 1
  exact congrArg Array.toList (Value.agg.inj e)
theorem cv_one {s : Sc} {cs ds : List Cell} (r : ∀ ρ : Ren, cvals ρ cs = cvals ρ ds) : ∀ ρ : Ren, cvals ρ (.one s :: cs) = cvals ρ (.one s :: ds) := fun ρ => by
  simp only [cvals]; rw [r ρ]
theorem endC {cs ds : List Cell} (h : ∀ ρ : Ren, cvals ρ cs = cvals ρ ds) : endN (.v1 (.agg cs)) (.v1 (.agg ds)) := ⟨_, rfl, fun ρ => by simp only [AV.val, V1.val, h ρ]⟩
theorem lt_zero : nv (fun _ => 0) < pN := by rw [zero_nv]; exact pN_pos
theorem enc_0 : enc 0 = 0 := (enc_of pN_pos (by rw [ofN_zero]; show (0 : Fp) = 0 * rr; rw [Fin.mul_comm]; exact (Rg.mul_zero rr).symm)).symm
theorem dF_0 : dF (fun _ => 0) = 0 := by
  unfold dF
  rw [zero_nv, ← enc_0, dec_enc]
theorem nv_eF0 : nv (eF 0) = 0 := by rw [nv_eF, enc_0]
theorem nv_one1 : nv oneF = nv (eF 1) := by rw [one_enc, nv_eF]
theorem lt_one : nv oneF < pN := by rw [one_enc]; exact enc_lt 1
theorem nv_d {a : Nat → Nat} (h : nv a < pN) : nv a = nv (eF (dF a)) := (eF_dF h).symm
theorem dF_inj {a b : Nat → Nat} (ha : nv a < pN) (hb : nv b < pN) (e : dF a = dF b) : nv a = nv b := by rw [nv_d ha, nv_d hb, e]
/-- Two elements are equal as they are held, just if they are. -/
theorem eqE {a b : Nat → Nat} (ha : nv a < pN) (hb : nv b < pN) : (eqN W 6 a b && true) = decide (dF a = dF b) := by
  rw [eqW_beq, Bool.eq_iff_iff, Nat.beq_eq, decide_eq_true_eq]
  exact ⟨fun e => by unfold dF; rw [e], dF_inj ha hb⟩
theorem eqE_t {a b : Nat → Nat} (ha : nv a < pN) (hb : nv b < pN) (e : dF a = dF b) : (eqN W 6 a b && true) = true := by rw [eqE ha hb, e]; exact decide_eq_true rfl
theorem eqE_f {a b : Nat → Nat} (ha : nv a < pN) (hb : nv b < pN) (e : dF a ≠ dF b) : (eqN W 6 a b && true) = false := by rw [eqE ha hb]; exact decide_eq_false e
theorem zE_t {a : Nat → Nat} (ha : nv a < pN) (e : dF a = 0) : (eqN W 6 a (fun _ => 0) && true) = true := eqE_t ha lt_zero (by rw [e, dF_0])
theorem zE_f {a : Nat → Nat} (ha : nv a < pN) (e : dF a ≠ 0) : (eqN W 6 a (fun _ => 0) && true) = false := eqE_f ha lt_zero (by rw [dF_0]; exact e)
theorem eqQ {a b c d : Nat → Nat} (ha : nv a < pN) (hb : nv b < pN) (hc : nv c < pN) (hd : nv d < pN) : (eqN W 6 a c && (eqN W 6 b d && true)) = decide ((⟨dF a, dF b⟩ : F2p) = ⟨dF c, dF d⟩) := by
  rw [eqE hb hd]
  have := eqE ha hc
  rw [Bool.and_true] at this
  rw [this, Bool.eq_iff_iff, Bool.and_eq_true, decide_eq_true_eq, decide_eq_true_eq, decide_eq_true_eq, F2p.mk.injEq]
theorem eqQ_t {a b c d : Nat → Nat} (ha : nv a < pN) (hb : nv b < pN) (hc : nv c < pN) (hd : nv d < pN) (e : (⟨dF a, dF b⟩ : F2p) = ⟨dF c, dF d⟩) : (eqN W 6 a c && (eqN W 6 b d && true)) = true := by rw [eqQ ha hb hc hd]; exact decide_eq_true e
theorem eqQ_f {a b c d : Nat → Nat} (ha : nv a < pN) (hb : nv b < pN) (hc : nv c < pN) (hd : nv d < pN) (e : (⟨dF a, dF b⟩ : F2p) ≠ ⟨dF c, dF d⟩) : (eqN W 6 a c && (eqN W 6 b d && true)) = false := by rw [eqQ ha hb hc hd]; exact decide_eq_false e
theorem zQ_t {a b : Nat → Nat} (ha : nv a < pN) (hb : nv b < pN) (e : (⟨dF a, dF b⟩ : F2p) = 0) : (eqN W 6 a (fun _ => 0) && (eqN W 6 b (fun _ => 0) && true)) = true := eqQ_t ha hb lt_zero lt_zero (by rw [e, dF_0]; rfl)
theorem zQ_f {a b : Nat → Nat} (ha : nv a < pN) (hb : nv b < pN) (e : (⟨dF a, dF b⟩ : F2p) ≠ 0) : (eqN W 6 a (fun _ => 0) && (eqN W 6 b (fun _ => 0) && true)) = false := eqQ_f ha hb lt_zero lt_zero (by rw [dF_0]; exact e)
def F2p.sc (a : F2p) (n : Fp) : F2p := ⟨a.x * n, a.y * n⟩
def F2p.ng' (a : F2p) : F2p := ⟨0 - a.x, 0 - a.y⟩
abbrev cells12 (s : S12) : List Cell := [.ws .u64 6 (eF s.p.u.x), .ws .u64 6 (eF s.p.u.y), .ws .u64 6 (eF s.q.u.x), .ws .u64 6 (eF s.q.u.y), .ws .u64 6 (eF s.p.v.x), .ws .u64 6 (eF s.p.v.y), .ws .u64 6 (eF s.q.v.x), .ws .u64 6 (eF s.q.v.y), .ws .u64 6 (eF s.p.w.x), .ws .u64 6 (eF s.p.w.y), .ws .u64 6 (eF s.q.w.x), .ws .u64 6 (eF s.q.w.y)]
theorem d12_eF (s : S12) : d12 (eF s.p.u.x) (eF s.p.u.y) (eF s.q.u.x) (eF s.q.u.y) (eF s.p.v.x) (eF s.p.v.y) (eF s.q.v.x) (eF s.q.v.y) (eF s.p.w.x) (eF s.p.w.y) (eF s.q.w.x) (eF s.q.w.y) = s := by
  unfold d12 d6
  simp only [dF_eF]

/-! each call's value, told otherwise -/
theorem asE {f g : Nat → Nat} (h : f = g) : asP [.ws .u64 6 f] [.ws .u64 6 g] := fun ρ => by rw [h]
theorem asQ {f g f' g' : Nat → Nat} (h : f = g) (h' : f' = g') : asP [.ws .u64 6 f, .ws .u64 6 f'] [.ws .u64 6 g, .ws .u64 6 g'] := fun ρ => by rw [h, h']
section
variable {A B C D : Nat → Nat}
theorem as_mulE {s u t : Fp} (a : dF A = s) (b : dF B = u) (h : t = s * u) : asP [.ws .u64 6 (eF (eMul (dF A) (dF B)))] [.ws .u64 6 (eF t)] := asE (by rw [a, b, h]; rfl)
theorem as_addE {s u t : Fp} (a : dF A = s) (b : dF B = u) (h : t = s + u) : asP [.ws .u64 6 (eF (eAdd (dF A) (dF B)))] [.ws .u64 6 (eF t)] := asE (by rw [a, b, h]; rfl)
theorem as_subE {s u t : Fp} (a : dF A = s) (b : dF B = u) (h : t = s - u) : asP [.ws .u64 6 (eF (eSub (dF A) (dF B)))] [.ws .u64 6 (eF t)] := asE (by rw [a, b, h]; rfl)
theorem as_invE {s t : Fp} (a : dF A = s) (h : t = eInv s) : asP [.ws .u64 6 (eF (eInv (dF A)))] [.ws .u64 6 (eF t)] := asE (by rw [a, h])
theorem as_mulQ {s u t : F2p} (a : dF A = s.x) (b : dF B = s.y) (c : dF C = u.x) (d : dF D = u.y) (h : t = s * u) : asP [.ws .u64 6 (eF (mul2x (dF A) (dF B) (dF C) (dF D))), .ws .u64 6 (eF (mul2y (dF A) (dF B) (dF C) (dF D)))] [.ws .u64 6 (eF t.x), .ws .u64 6 (eF t.y)] := asQ (by rw [a, b, c, d, h]; rfl) (by rw [a, b, c, d, h]; rfl)
theorem as_addQ {s u t : F2p} (a : dF A = s.x) (b : dF B = s.y) (c : dF C = u.x) (d : dF D = u.y) (h : t = s + u) : asP [.ws .u64 6 (eF (add2x (dF A) (dF B) (dF C) (dF D))), .ws .u64 6 (eF (add2y (dF A) (dF B) (dF C) (dF D)))] [.ws .u64 6 (eF t.x), .ws .u64 6 (eF t.y)] := asQ (by rw [a, b, c, d, h]; rfl) (by rw [a, b, c, d, h]; rfl)
theorem as_subQ {s u t : F2p} (a : dF A = s.x) (b : dF B = s.y) (c : dF C = u.x) (d : dF D = u.y) (h : t = s - u) : asP [.ws .u64 6 (eF (sub2x (dF A) (dF B) (dF C) (dF D))), .ws .u64 6 (eF (sub2y (dF A) (dF B) (dF C) (dF D)))] [.ws .u64 6 (eF t.x), .ws .u64 6 (eF t.y)] := asQ (by rw [a, b, c, d, h]; rfl) (by rw [a, b, c, d, h]; rfl)
theorem as_invQ {s t : F2p} (a : dF A = s.x) (b : dF B = s.y) (h : t = F2p.inv s) : asP [.ws .u64 6 (eF (inv2x (dF A) (dF B))), .ws .u64 6 (eF (inv2y (dF A) (dF B)))] [.ws .u64 6 (eF t.x), .ws .u64 6 (eF t.y)] := asQ (by rw [a, b, h]; rfl) (by rw [a, b, h]; rfl)
theorem as_negQ {s t : F2p} (a : dF A = s.x) (b : dF B = s.y) (h : t = F2p.ng' s) : asP [.ws .u64 6 (eF (neg2x (dF A) (dF B))), .ws .u64 6 (eF (neg2y (dF A) (dF B)))] [.ws .u64 6 (eF t.x), .ws .u64 6 (eF t.y)] := asQ (by rw [a, b, h]; rfl) (by rw [a, b, h]; rfl)
theorem as_scaleQ {s t : F2p} {n : Fp} (a : dF A = s.x) (b : dF B = s.y) (c : dF C = n) (h : t = F2p.sc s n) : asP [.ws .u64 6 (eF (sc2x (dF A) (dF B) (dF C))), .ws .u64 6 (eF (sc2y (dF A) (dF B) (dF C)))] [.ws .u64 6 (eF t.x), .ws .u64 6 (eF t.y)] := asQ (by rw [a, b, c, h]; rfl) (by rw [a, b, c, h]; rfl)
end
/-! families of cells -/
def of3 (a b c : Nat → Nat) : Nat → Nat → Nat
  | 0 => a
  | 1 => b
  | _ => c
def of6 (a b c d e f : Nat → Nat) : Nat → Nat → Nat
  | 0 => a
  | 1 => b
  | 2 => c
  | 3 => d
  | 4 => e
  | _ => f
abbrev csE (g : Nat → Nat → Nat) : List Cell := [.ws .u64 6 (g 0), .ws .u64 6 (g 1), .ws .u64 6 (g 2)]
abbrev csQ (g : Nat → Nat → Nat) : List Cell := [.ws .u64 6 (g 0), .ws .u64 6 (g 1), .ws .u64 6 (g 2), .ws .u64 6 (g 3), .ws .u64 6 (g 4), .ws .u64 6 (g 5)]
def JvE (g : Nat → Nat → Nat) : J3 Fp := ⟨dF (g 0), dF (g 1), dF (g 2)⟩
def JvQ (g : Nat → Nat → Nat) : J3 F2p := ⟨⟨dF (g 0), dF (g 1)⟩, ⟨dF (g 2), dF (g 3)⟩, ⟨dF (g 4), dF (g 5)⟩⟩
def selE (p : J3 Fp) : Nat → Nat → Nat := of3 (eF p.x) (eF p.y) (eF p.z)
def selQ (p : J3 F2p) : Nat → Nat → Nat := of6 (eF p.x.x) (eF p.x.y) (eF p.y.x) (eF p.y.y) (eF p.z.x) (eF p.z.y)
theorem JvE_sel (p : J3 Fp) : JvE (selE p) = p := by
  show (⟨dF (eF p.x), dF (eF p.y), dF (eF p.z)⟩ : J3 Fp) = p
  rw [dF_eF, dF_eF, dF_eF]
theorem JvQ_sel (p : J3 F2p) : JvQ (selQ p) = p := by
  show (⟨⟨dF (eF p.x.x), dF (eF p.x.y)⟩, ⟨dF (eF p.y.x), dF (eF p.y.y)⟩, ⟨dF (eF p.z.x), dF (eF p.z.y)⟩⟩ : J3 F2p) = p
  rw [dF_eF, dF_eF, dF_eF, dF_eF, dF_eF, dF_eF]
def LtE (g : Nat → Nat → Nat) : Prop := nv (g 0) < pN ∧ nv (g 1) < pN ∧ nv (g 2) < pN
def LtQ (g : Nat → Nat → Nat) : Prop := nv (g 0) < pN ∧ nv (g 1) < pN ∧ nv (g 2) < pN ∧ nv (g 3) < pN ∧ nv (g 4) < pN ∧ nv (g 5) < pN
theorem LtE_of {a b c : Nat → Nat} (ha : nv a < pN) (hb : nv b < pN) (hc : nv c < pN) : LtE (of3 a b c) := ⟨ha, hb, hc⟩
theorem LtQ_of {a b c d e f : Nat → Nat} (ha : nv a < pN) (hb : nv b < pN) (hc : nv c < pN) (hd : nv d < pN) (he : nv e < pN) (hf : nv f < pN) : LtQ (of6 a b c d e f) := ⟨ha, hb, hc, hd, he, hf⟩
theorem on_f {F : Type} [CR F] [DecidableEq F] (b x y : F) : A2.on b ⟨x, y, false⟩ = decide (y * y = x * x * x + b) := rfl
theorem on_t {F : Type} [CR F] [DecidableEq F] (b x y : F) : A2.on b ⟨x, y, true⟩ = (decide (x = 0) && decide (y = 0)) := rfl
theorem JvE_of {a b c : Nat → Nat} : JvE (of3 a b c) = ⟨dF a, dF b, dF c⟩ := rfl
theorem JvQ_of {a b c d e f : Nat → Nat} : JvQ (of6 a b c d e f) = ⟨⟨dF a, dF b⟩, ⟨dF c, dF d⟩, ⟨dF e, dF f⟩⟩ := rfl
theorem LtE_sel (p : J3 Fp) : LtE (selE p) := ⟨lt_eF _, lt_eF _, lt_eF _⟩
theorem LtQ_sel (p : J3 F2p) : LtQ (selQ p) := ⟨lt_eF _, lt_eF _, lt_eF _, lt_eF _, lt_eF _, lt_eF _⟩
theorem one_Q : (⟨dF oneF, dF (fun _ => 0)⟩ : F2p) = 1 := by rw [dF_one, dF_0]; rfl
theorem zero_Q : (⟨dF (fun _ => 0), dF (fun _ => 0)⟩ : F2p) = 0 := by rw [dF_0]; rfl
theorem blen_le' (e : Nat → Nat) : blen (nv e) ≤ 384 := by
  have := nv_lt e; rw [R_pow] at this
  have := blen_lt this; rw [E_eq] at this; exact this
theorem ilt_nn2 (k : Nat) : (!ilt (Int.ofNat k) 0) = true := by rw [ilt_not (by simp)]; rfl
theorem endB {b c : Bool} (h : b = c) : endN (.v1 (.sc (.bo b))) (.v1 (.sc (.bo c))) := ⟨_, rfl, fun _ => by rw [h]⟩
theorem nilQ : (J3.nil : J3 F2p) = ⟨1, 1, 0⟩ := rfl
theorem nilE : (J3.nil : J3 Fp) = ⟨1, 1, 0⟩ := rfl
theorem q1x : nv oneF = nv (eF (1 : F2p).x) := by rw [F2p.one_x]; exact nv_one1
theorem q1y : nv (fun _ => 0) = nv (eF (1 : F2p).y) := by rw [F2p.one_y, nv_eF0, zero_nv]
theorem q0x : nv (fun _ => 0) = nv (eF (0 : F2p).x) := by rw [F2p.zero_x, nv_eF0, zero_nv]
theorem q0y : nv (fun _ => 0) = nv (eF (0 : F2p).y) := by rw [F2p.zero_y, nv_eF0, zero_nv]
theorem e0x : nv (fun _ => 0) = nv (eF 0) := by rw [nv_eF0, zero_nv]
theorem nv_t {s t : Fp} (h : s = t) : nv (eF s) = nv (eF t) := by rw [h]
theorem nv_tx {s t : F2p} (h : s = t) : nv (eF s.x) = nv (eF t.x) := by rw [h]
theorem nv_ty {s t : F2p} (h : s = t) : nv (eF s.y) = nv (eF t.y) := by rw [h]
end Go.Proofs.Ytnjocbcjejpklaa

/- The curve's points of three numbers, over elements: twice, sum. Printed by gp1.py E. -/
namespace Go.Proofs.Ytnjocbcjejpklaa
open Go.Rq Go
set_option maxRecDepth 100000
set_option linter.unusedVariables false
set_option linter.unusedSimpArgs false
set_option maxHeartbeats 4000000


abbrev fdE : List Cell := [.one (.fn 57 []), .one (.fn 58 []), .one (.fn 59 []), .one (.fn 60 []), .ws .u64 6 oneF, .ws .u64 6 (eF (ofN (nv (wd (4 % W)))))]
def jE1 (F : J3 Fp → J3 Fp) : List AV → Option (List Prop × AV)
  | [.v1 (.agg cs), .v1 (.agg [.ws .u64 6 x, .ws .u64 6 y, .ws .u64 6 z])] => some ([cs = fdE, nv x < pN, nv y < pN, nv z < pN], .v1 (.agg [.ws .u64 6 (eF (F (⟨(dF x), (dF y), (dF z)⟩ : J3 Fp)).x), .ws .u64 6 (eF (F (⟨(dF x), (dF y), (dF z)⟩ : J3 Fp)).y), .ws .u64 6 (eF (F (⟨(dF x), (dF y), (dF z)⟩ : J3 Fp)).z)]))
  | _ => none
def jE2 (F : J3 Fp → J3 Fp → J3 Fp) : List AV → Option (List Prop × AV)
  | [.v1 (.agg cs), .v1 (.agg [.ws .u64 6 x, .ws .u64 6 y, .ws .u64 6 z]), .v1 (.agg [.ws .u64 6 u, .ws .u64 6 v, .ws .u64 6 w])] => some ([cs = fdE, nv x < pN, nv y < pN, nv z < pN, nv u < pN, nv v < pN, nv w < pN], .v1 (.agg [.ws .u64 6 (eF (F (⟨(dF x), (dF y), (dF z)⟩ : J3 Fp) (⟨(dF u), (dF v), (dF w)⟩ : J3 Fp)).x), .ws .u64 6 (eF (F (⟨(dF x), (dF y), (dF z)⟩ : J3 Fp) (⟨(dF u), (dF v), (dF w)⟩ : J3 Fp)).y), .ws .u64 6 (eF (F (⟨(dF x), (dF y), (dF z)⟩ : J3 Fp) (⟨(dF u), (dF v), (dF w)⟩ : J3 Fp)).z)]))
  | _ => none
def GCE : List (Nat × CallC) := [(57, .pure (el2 eAdd)), (58, .pure (el2 eSub)), (59, .pure (cEMul)), (60, .pure (el1 eInv))]
theorem GCE_ok : CtxOk Try.prog (ctxL GCE) := ctxL_cons okEAdd <| ctxL_cons okESub <| ctxL_cons okEMul <| ctxL_cons okEInv ctxL_nil
theorem okTwE : (CallC.pure (jE1 J3.dbl)).Ok Try.prog 86 := by
  intro args pre v e hp
  unfold jE1 at e
  split at e
  rotate_left
  · cases e
  rename_i cs x y z
  cases e
  have hcs : cs = fdE := hp _ (by simp)
  subst hcs
  have hx : nv x < pN := hp (nv x < pN) (by simp)
  have hy : nv y < pN := hp (nv y < pN) (by simp)
  have hz : nv z < pN := hp (nv z < pN) (by simp)
  refine pure_walk' tt_ok Try.func86 (by kernel_rfl) (by kernel_rfl) (by rfl) (by rfl) ?_
  obtain ⟨t1, ht1⟩ : ∃ q_ : Fp, q_ = (dF y) * (dF y) := ⟨_, rfl⟩
  obtain ⟨t2, ht2⟩ : ∃ q_ : Fp, q_ = (dF x) * t1 := ⟨_, rfl⟩
  obtain ⟨t3, ht3⟩ : ∃ q_ : Fp, q_ = t2 + t2 := ⟨_, rfl⟩
  obtain ⟨t4, ht4⟩ : ∃ q_ : Fp, q_ = t3 + t3 := ⟨_, rfl⟩
  obtain ⟨t5, ht5⟩ : ∃ q_ : Fp, q_ = (dF x) * (dF x) := ⟨_, rfl⟩
  obtain ⟨t6, ht6⟩ : ∃ q_ : Fp, q_ = t5 + t5 := ⟨_, rfl⟩
  obtain ⟨t7, ht7⟩ : ∃ q_ : Fp, q_ = t6 + t5 := ⟨_, rfl⟩
  obtain ⟨t8, ht8⟩ : ∃ q_ : Fp, q_ = t7 * t7 := ⟨_, rfl⟩
  obtain ⟨t9, ht9⟩ : ∃ q_ : Fp, q_ = t4 + t4 := ⟨_, rfl⟩
  obtain ⟨t10, ht10⟩ : ∃ q_ : Fp, q_ = t8 - t9 := ⟨_, rfl⟩
  obtain ⟨t11, ht11⟩ : ∃ q_ : Fp, q_ = t1 * t1 := ⟨_, rfl⟩
  obtain ⟨t12, ht12⟩ : ∃ q_ : Fp, q_ = t11 + t11 := ⟨_, rfl⟩
  obtain ⟨t13, ht13⟩ : ∃ q_ : Fp, q_ = t12 + t12 := ⟨_, rfl⟩
  obtain ⟨t14, ht14⟩ : ∃ q_ : Fp, q_ = t13 + t13 := ⟨_, rfl⟩
  obtain ⟨t15, ht15⟩ : ∃ q_ : Fp, q_ = (dF y) * (dF z) := ⟨_, rfl⟩
  obtain ⟨t16, ht16⟩ : ∃ q_ : Fp, q_ = t4 - t10 := ⟨_, rfl⟩
  obtain ⟨t17, ht17⟩ : ∃ q_ : Fp, q_ = t7 * t16 := ⟨_, rfl⟩
  obtain ⟨t18, ht18⟩ : ∃ q_ : Fp, q_ = t17 - t14 := ⟨_, rfl⟩
  obtain ⟨t19, ht19⟩ : ∃ q_ : Fp, q_ = t15 + t15 := ⟨_, rfl⟩
  refine evS_q mixed tt_ok GCE_ok 200 [⟨1,6,.as [.ws .u64 6 (eF t1)]⟩,⟨2,5,.as [.ws .u64 6 (eF t2)]⟩,⟨3,4,.as [.ws .u64 6 (eF t3)]⟩,⟨4,4,.as [.ws .u64 6 (eF t4)]⟩,⟨5,6,.as [.ws .u64 6 (eF t5)]⟩,⟨6,6,.as [.ws .u64 6 (eF t6)]⟩,⟨6,8,.as [.ws .u64 6 (eF t7)]⟩,⟨7,6,.as [.ws .u64 6 (eF t8)]⟩,⟨7,11,.as [.ws .u64 6 (eF t9)]⟩,⟨7,12,.as [.ws .u64 6 (eF t10)]⟩,⟨8,4,.as [.ws .u64 6 (eF t11)]⟩,⟨9,4,.as [.ws .u64 6 (eF t12)]⟩,⟨10,4,.as [.ws .u64 6 (eF t13)]⟩,⟨11,4,.as [.ws .u64 6 (eF t14)]⟩,⟨12,6,.as [.ws .u64 6 (eF t15)]⟩,⟨13,10,.as [.ws .u64 6 (eF t16)]⟩,⟨13,11,.as [.ws .u64 6 (eF t17)]⟩,⟨13,13,.as [.ws .u64 6 (eF t18)]⟩,⟨13,18,.as [.ws .u64 6 (eF t19)]⟩] ?_
  refine same (p := asP [.ws .u64 6 (eF (eMul (dF y) (dF y)))] [.ws .u64 6 (eF t1)] ∧ nv y < pN ∧ asP [.ws .u64 6 (eF (eMul (dF x) (dF (eF t1))))] [.ws .u64 6 (eF t2)] ∧ nv x < pN ∧ asP [.ws .u64 6 (eF (eAdd (dF (eF t2)) (dF (eF t2))))] [.ws .u64 6 (eF t3)] ∧ nv (eF t2) < pN ∧ nv (eF t2) < pN ∧ asP [.ws .u64 6 (eF (eAdd (dF (eF t3)) (dF (eF t3))))] [.ws .u64 6 (eF t4)] ∧ nv (eF t3) < pN ∧ nv (eF t3) < pN ∧ asP [.ws .u64 6 (eF (eMul (dF x) (dF x)))] [.ws .u64 6 (eF t5)] ∧ nv x < pN ∧ asP [.ws .u64 6 (eF (eAdd (dF (eF t5)) (dF (eF t5))))] [.ws .u64 6 (eF t6)] ∧ nv (eF t5) < pN ∧ nv (eF t5) < pN ∧ asP [.ws .u64 6 (eF (eAdd (dF (eF t6)) (dF (eF t5))))] [.ws .u64 6 (eF t7)] ∧ nv (eF t6) < pN ∧ nv (eF t5) < pN ∧ asP [.ws .u64 6 (eF (eMul (dF (eF t7)) (dF (eF t7))))] [.ws .u64 6 (eF t8)] ∧ nv (eF t7) < pN ∧ asP [.ws .u64 6 (eF (eAdd (dF (eF t4)) (dF (eF t4))))] [.ws .u64 6 (eF t9)] ∧ nv (eF t4) < pN ∧ nv (eF t4) < pN ∧ asP [.ws .u64 6 (eF (eSub (dF (eF t8)) (dF (eF t9))))] [.ws .u64 6 (eF t10)] ∧ nv (eF t8) < pN ∧ nv (eF t9) < pN ∧ asP [.ws .u64 6 (eF (eMul (dF (eF t1)) (dF (eF t1))))] [.ws .u64 6 (eF t11)] ∧ nv (eF t1) < pN ∧ asP [.ws .u64 6 (eF (eAdd (dF (eF t11)) (dF (eF t11))))] [.ws .u64 6 (eF t12)] ∧ nv (eF t11) < pN ∧ nv (eF t11) < pN ∧ asP [.ws .u64 6 (eF (eAdd (dF (eF t12)) (dF (eF t12))))] [.ws .u64 6 (eF t13)] ∧ nv (eF t12) < pN ∧ nv (eF t12) < pN ∧ asP [.ws .u64 6 (eF (eAdd (dF (eF t13)) (dF (eF t13))))] [.ws .u64 6 (eF t14)] ∧ nv (eF t13) < pN ∧ nv (eF t13) < pN ∧ asP [.ws .u64 6 (eF (eMul (dF y) (dF z)))] [.ws .u64 6 (eF t15)] ∧ nv y < pN ∧ asP [.ws .u64 6 (eF (eSub (dF (eF t4)) (dF (eF t10))))] [.ws .u64 6 (eF t16)] ∧ nv (eF t4) < pN ∧ nv (eF t10) < pN ∧ asP [.ws .u64 6 (eF (eMul (dF (eF t7)) (dF (eF t16))))] [.ws .u64 6 (eF t17)] ∧ nv (eF t7) < pN ∧ asP [.ws .u64 6 (eF (eSub (dF (eF t17)) (dF (eF t14))))] [.ws .u64 6 (eF t18)] ∧ nv (eF t17) < pN ∧ nv (eF t14) < pN ∧ asP [.ws .u64 6 (eF (eAdd (dF (eF t15)) (dF (eF t15))))] [.ws .u64 6 (eF t19)] ∧ nv (eF t15) < pN ∧ nv (eF t15) < pN ∧ endN (.v1 (.agg [.ws .u64 6 (eF t10), .ws .u64 6 (eF t18), .ws .u64 6 (eF t19)])) (.v1 (.agg [.ws .u64 6 (eF (J3.dbl (⟨(dF x), (dF y), (dF z)⟩ : J3 Fp)).x), .ws .u64 6 (eF (J3.dbl (⟨(dF x), (dF y), (dF z)⟩ : J3 Fp)).y), .ws .u64 6 (eF (J3.dbl (⟨(dF x), (dF y), (dF z)⟩ : J3 Fp)).z)]))) ?_ (by kernel_rfl)
  exact ⟨as_mulE rfl rfl ht1, hy, as_mulE rfl (dF_eF _) ht2, hx, as_addE (dF_eF _) (dF_eF _) ht3, lt_eF _, lt_eF _, as_addE (dF_eF _) (dF_eF _) ht4, lt_eF _, lt_eF _, as_mulE rfl rfl ht5, hx, as_addE (dF_eF _) (dF_eF _) ht6, lt_eF _, lt_eF _, as_addE (dF_eF _) (dF_eF _) ht7, lt_eF _, lt_eF _, as_mulE (dF_eF _) (dF_eF _) ht8, lt_eF _, as_addE (dF_eF _) (dF_eF _) ht9, lt_eF _, lt_eF _, as_subE (dF_eF _) (dF_eF _) ht10, lt_eF _, lt_eF _, as_mulE (dF_eF _) (dF_eF _) ht11, lt_eF _, as_addE (dF_eF _) (dF_eF _) ht12, lt_eF _, lt_eF _, as_addE (dF_eF _) (dF_eF _) ht13, lt_eF _, lt_eF _, as_addE (dF_eF _) (dF_eF _) ht14, lt_eF _, lt_eF _, as_mulE rfl rfl ht15, hy, as_subE (dF_eF _) (dF_eF _) ht16, lt_eF _, lt_eF _, as_mulE (dF_eF _) (dF_eF _) ht17, lt_eF _, as_subE (dF_eF _) (dF_eF _) ht18, lt_eF _, lt_eF _, as_addE (dF_eF _) (dF_eF _) ht19, lt_eF _, lt_eF _, endC (cv_cons (nv_t (by subst ht19 ht18 ht17 ht16 ht15 ht14 ht13 ht12 ht11 ht10 ht9 ht8 ht7 ht6 ht5 ht4 ht3 ht2 ht1; rfl)) (cv_cons (nv_t (by subst ht19 ht18 ht17 ht16 ht15 ht14 ht13 ht12 ht11 ht10 ht9 ht8 ht7 ht6 ht5 ht4 ht3 ht2 ht1; rfl)) (cv_cons (nv_t (by subst ht19 ht18 ht17 ht16 ht15 ht14 ht13 ht12 ht11 ht10 ht9 ht8 ht7 ht6 ht5 ht4 ht3 ht2 ht1; rfl)) (cv_nil))))⟩
def GSE : List (Nat × CallC) := (86, .pure (jE1 J3.dbl)) :: GCE
theorem GSE_ok : CtxOk Try.prog (ctxL GSE) := ctxL_cons okTwE GCE_ok
theorem okSmE : (CallC.pure (jE2 J3.add)).Ok Try.prog 87 := by
  intro args pre v e hp
  unfold jE2 at e
  split at e
  rotate_left
  · cases e
  rename_i cs x y z u v w
  cases e
  have hcs : cs = fdE := hp _ (by simp)
  subst hcs
  have hx : nv x < pN := hp (nv x < pN) (by simp)
  have hy : nv y < pN := hp (nv y < pN) (by simp)
  have hz : nv z < pN := hp (nv z < pN) (by simp)
  have hu : nv u < pN := hp (nv u < pN) (by simp)
  have hv : nv v < pN := hp (nv v < pN) (by simp)
  have hw : nv w < pN := hp (nv w < pN) (by simp)
  refine pure_walk' tt_ok Try.func87 (by kernel_rfl) (by kernel_rfl) (by rfl) (by rfl) ?_
  by_cases hZZ : (dF z) = 0
  · have hadd : J3.add (⟨(dF x), (dF y), (dF z)⟩ : J3 Fp) (⟨(dF u), (dF v), (dF w)⟩ : J3 Fp) = (⟨(dF u), (dF v), (dF w)⟩ : J3 Fp) := if_pos hZZ
    rw [hadd]
    refine evS_q mixed tt_ok GSE_ok 100 [⟨2,3,.lit (.bo true)⟩] ?_
    refine same (p := (eqN W 6 z (fun _ => 0) && true) = true ∧ endN (.v1 (.agg [.ws .u64 6 u, .ws .u64 6 v, .ws .u64 6 w])) (.v1 (.agg [.ws .u64 6 (eF ((⟨(dF u), (dF v), (dF w)⟩ : J3 Fp)).x), .ws .u64 6 (eF ((⟨(dF u), (dF v), (dF w)⟩ : J3 Fp)).y), .ws .u64 6 (eF ((⟨(dF u), (dF v), (dF w)⟩ : J3 Fp)).z)]))) ?_ (by kernel_rfl)
    exact ⟨zE_t hz hZZ, endC (cv_cons (nv_d hu) (cv_cons (nv_d hv) (cv_cons (nv_d hw) (cv_nil))))⟩
  · by_cases hWW : (dF w) = 0
    · have hadd : J3.add (⟨(dF x), (dF y), (dF z)⟩ : J3 Fp) (⟨(dF u), (dF v), (dF w)⟩ : J3 Fp) = (⟨(dF x), (dF y), (dF z)⟩ : J3 Fp) := (if_neg hZZ).trans (if_pos hWW)
      rw [hadd]
      refine evS_q mixed tt_ok GSE_ok 100 [⟨2,3,.lit (.bo false)⟩,⟨4,3,.lit (.bo true)⟩] ?_
      refine same (p := (eqN W 6 z (fun _ => 0) && true) = false ∧ (eqN W 6 w (fun _ => 0) && true) = true ∧ endN (.v1 (.agg [.ws .u64 6 x, .ws .u64 6 y, .ws .u64 6 z])) (.v1 (.agg [.ws .u64 6 (eF ((⟨(dF x), (dF y), (dF z)⟩ : J3 Fp)).x), .ws .u64 6 (eF ((⟨(dF x), (dF y), (dF z)⟩ : J3 Fp)).y), .ws .u64 6 (eF ((⟨(dF x), (dF y), (dF z)⟩ : J3 Fp)).z)]))) ?_ (by kernel_rfl)
      exact ⟨zE_f hz hZZ, zE_t hw hWW, endC (cv_cons (nv_d hx) (cv_cons (nv_d hy) (cv_cons (nv_d hz) (cv_nil))))⟩
    · have hadd0 : J3.add (⟨(dF x), (dF y), (dF z)⟩ : J3 Fp) (⟨(dF u), (dF v), (dF w)⟩ : J3 Fp) = if J3.hh (⟨(dF x), (dF y), (dF z)⟩ : J3 Fp) (⟨(dF u), (dF v), (dF w)⟩ : J3 Fp) = 0 then (if J3.rr (⟨(dF x), (dF y), (dF z)⟩ : J3 Fp) (⟨(dF u), (dF v), (dF w)⟩ : J3 Fp) = 0 then J3.dbl (⟨(dF x), (dF y), (dF z)⟩ : J3 Fp) else J3.nil) else J3.gen (⟨(dF x), (dF y), (dF z)⟩ : J3 Fp) (⟨(dF u), (dF v), (dF w)⟩ : J3 Fp) := (if_neg hZZ).trans (if_neg hWW)
      by_cases hh0 : J3.hh (⟨(dF x), (dF y), (dF z)⟩ : J3 Fp) (⟨(dF u), (dF v), (dF w)⟩ : J3 Fp) = 0
      · by_cases hr0 : J3.rr (⟨(dF x), (dF y), (dF z)⟩ : J3 Fp) (⟨(dF u), (dF v), (dF w)⟩ : J3 Fp) = 0
        · have hadd : J3.add (⟨(dF x), (dF y), (dF z)⟩ : J3 Fp) (⟨(dF u), (dF v), (dF w)⟩ : J3 Fp) = J3.dbl (⟨(dF x), (dF y), (dF z)⟩ : J3 Fp) := hadd0.trans ((if_pos hh0).trans (if_pos hr0))
          rw [hadd]
          obtain ⟨t1, ht1⟩ : ∃ q_ : Fp, q_ = (dF z) * (dF z) := ⟨_, rfl⟩
          obtain ⟨t2, ht2⟩ : ∃ q_ : Fp, q_ = (dF w) * (dF w) := ⟨_, rfl⟩
          obtain ⟨t3, ht3⟩ : ∃ q_ : Fp, q_ = (dF x) * t2 := ⟨_, rfl⟩
          obtain ⟨t4, ht4⟩ : ∃ q_ : Fp, q_ = (dF u) * t1 := ⟨_, rfl⟩
          obtain ⟨t5, ht5⟩ : ∃ q_ : Fp, q_ = t2 * (dF w) := ⟨_, rfl⟩
          obtain ⟨t6, ht6⟩ : ∃ q_ : Fp, q_ = (dF y) * t5 := ⟨_, rfl⟩
          obtain ⟨t7, ht7⟩ : ∃ q_ : Fp, q_ = t1 * (dF z) := ⟨_, rfl⟩
          obtain ⟨t8, ht8⟩ : ∃ q_ : Fp, q_ = (dF v) * t7 := ⟨_, rfl⟩
          obtain ⟨t9, ht9⟩ : ∃ q_ : Fp, q_ = t4 - t3 := ⟨_, rfl⟩
          obtain ⟨t10, ht10⟩ : ∃ q_ : Fp, q_ = t8 - t6 := ⟨_, rfl⟩
          refine evS_q mixed tt_ok GSE_ok 200 [⟨2,3,.lit (.bo false)⟩,⟨4,3,.lit (.bo false)⟩,⟨6,6,.as [.ws .u64 6 (eF t1)]⟩,⟨6,13,.as [.ws .u64 6 (eF t2)]⟩,⟨7,5,.as [.ws .u64 6 (eF t3)]⟩,⟨7,11,.as [.ws .u64 6 (eF t4)]⟩,⟨8,9,.as [.ws .u64 6 (eF t5)]⟩,⟨8,10,.as [.ws .u64 6 (eF t6)]⟩,⟨8,20,.as [.ws .u64 6 (eF t7)]⟩,⟨8,21,.as [.ws .u64 6 (eF t8)]⟩,⟨9,4,.as [.ws .u64 6 (eF t9)]⟩,⟨9,9,.as [.ws .u64 6 (eF t10)]⟩,⟨10,2,.lit (.bo true)⟩,⟨11,2,.lit (.bo true)⟩] ?_
          refine same (p := (eqN W 6 z (fun _ => 0) && true) = false ∧ (eqN W 6 w (fun _ => 0) && true) = false ∧ asP [.ws .u64 6 (eF (eMul (dF z) (dF z)))] [.ws .u64 6 (eF t1)] ∧ nv z < pN ∧ asP [.ws .u64 6 (eF (eMul (dF w) (dF w)))] [.ws .u64 6 (eF t2)] ∧ nv w < pN ∧ asP [.ws .u64 6 (eF (eMul (dF x) (dF (eF t2))))] [.ws .u64 6 (eF t3)] ∧ nv x < pN ∧ asP [.ws .u64 6 (eF (eMul (dF u) (dF (eF t1))))] [.ws .u64 6 (eF t4)] ∧ nv u < pN ∧ asP [.ws .u64 6 (eF (eMul (dF (eF t2)) (dF w)))] [.ws .u64 6 (eF t5)] ∧ nv (eF t2) < pN ∧ asP [.ws .u64 6 (eF (eMul (dF y) (dF (eF t5))))] [.ws .u64 6 (eF t6)] ∧ nv y < pN ∧ asP [.ws .u64 6 (eF (eMul (dF (eF t1)) (dF z)))] [.ws .u64 6 (eF t7)] ∧ nv (eF t1) < pN ∧ asP [.ws .u64 6 (eF (eMul (dF v) (dF (eF t7))))] [.ws .u64 6 (eF t8)] ∧ nv v < pN ∧ asP [.ws .u64 6 (eF (eSub (dF (eF t4)) (dF (eF t3))))] [.ws .u64 6 (eF t9)] ∧ nv (eF t4) < pN ∧ nv (eF t3) < pN ∧ asP [.ws .u64 6 (eF (eSub (dF (eF t8)) (dF (eF t6))))] [.ws .u64 6 (eF t10)] ∧ nv (eF t8) < pN ∧ nv (eF t6) < pN ∧ (eqN W 6 (eF t9) (fun _ => 0) && true) = true ∧ (eqN W 6 (eF t10) (fun _ => 0) && true) = true ∧ fdE = fdE ∧ nv x < pN ∧ nv y < pN ∧ nv z < pN ∧ endN (.v1 (.agg [.ws .u64 6 (eF (J3.dbl (⟨(dF x), (dF y), (dF z)⟩ : J3 Fp)).x), .ws .u64 6 (eF (J3.dbl (⟨(dF x), (dF y), (dF z)⟩ : J3 Fp)).y), .ws .u64 6 (eF (J3.dbl (⟨(dF x), (dF y), (dF z)⟩ : J3 Fp)).z)])) (.v1 (.agg [.ws .u64 6 (eF (J3.dbl (⟨(dF x), (dF y), (dF z)⟩ : J3 Fp)).x), .ws .u64 6 (eF (J3.dbl (⟨(dF x), (dF y), (dF z)⟩ : J3 Fp)).y), .ws .u64 6 (eF (J3.dbl (⟨(dF x), (dF y), (dF z)⟩ : J3 Fp)).z)]))) ?_ (by kernel_rfl)
          exact ⟨zE_f hz hZZ, zE_f hw hWW, as_mulE rfl rfl ht1, hz, as_mulE rfl rfl ht2, hw, as_mulE rfl (dF_eF _) ht3, hx, as_mulE rfl (dF_eF _) ht4, hu, as_mulE (dF_eF _) rfl ht5, lt_eF _, as_mulE rfl (dF_eF _) ht6, hy, as_mulE (dF_eF _) rfl ht7, lt_eF _, as_mulE rfl (dF_eF _) ht8, hv, as_subE (dF_eF _) (dF_eF _) ht9, lt_eF _, lt_eF _, as_subE (dF_eF _) (dF_eF _) ht10, lt_eF _, lt_eF _, zE_t (lt_eF _) (by rw [dF_eF]; subst ht10 ht9 ht8 ht7 ht6 ht5 ht4 ht3 ht2 ht1; exact hh0), zE_t (lt_eF _) (by rw [dF_eF]; subst ht10 ht9 ht8 ht7 ht6 ht5 ht4 ht3 ht2 ht1; exact hr0), rfl, hx, hy, hz, _, rfl, fun _ => rfl⟩
        · have hadd : J3.add (⟨(dF x), (dF y), (dF z)⟩ : J3 Fp) (⟨(dF u), (dF v), (dF w)⟩ : J3 Fp) = J3.nil := hadd0.trans ((if_pos hh0).trans (if_neg hr0))
          rw [hadd, nilE]
          obtain ⟨t1, ht1⟩ : ∃ q_ : Fp, q_ = (dF z) * (dF z) := ⟨_, rfl⟩
          obtain ⟨t2, ht2⟩ : ∃ q_ : Fp, q_ = (dF w) * (dF w) := ⟨_, rfl⟩
          obtain ⟨t3, ht3⟩ : ∃ q_ : Fp, q_ = (dF x) * t2 := ⟨_, rfl⟩
          obtain ⟨t4, ht4⟩ : ∃ q_ : Fp, q_ = (dF u) * t1 := ⟨_, rfl⟩
          obtain ⟨t5, ht5⟩ : ∃ q_ : Fp, q_ = t2 * (dF w) := ⟨_, rfl⟩
          obtain ⟨t6, ht6⟩ : ∃ q_ : Fp, q_ = (dF y) * t5 := ⟨_, rfl⟩
          obtain ⟨t7, ht7⟩ : ∃ q_ : Fp, q_ = t1 * (dF z) := ⟨_, rfl⟩
          obtain ⟨t8, ht8⟩ : ∃ q_ : Fp, q_ = (dF v) * t7 := ⟨_, rfl⟩
          obtain ⟨t9, ht9⟩ : ∃ q_ : Fp, q_ = t4 - t3 := ⟨_, rfl⟩
          obtain ⟨t10, ht10⟩ : ∃ q_ : Fp, q_ = t8 - t6 := ⟨_, rfl⟩
          refine evS_q mixed tt_ok GSE_ok 200 [⟨2,3,.lit (.bo false)⟩,⟨4,3,.lit (.bo false)⟩,⟨6,6,.as [.ws .u64 6 (eF t1)]⟩,⟨6,13,.as [.ws .u64 6 (eF t2)]⟩,⟨7,5,.as [.ws .u64 6 (eF t3)]⟩,⟨7,11,.as [.ws .u64 6 (eF t4)]⟩,⟨8,9,.as [.ws .u64 6 (eF t5)]⟩,⟨8,10,.as [.ws .u64 6 (eF t6)]⟩,⟨8,20,.as [.ws .u64 6 (eF t7)]⟩,⟨8,21,.as [.ws .u64 6 (eF t8)]⟩,⟨9,4,.as [.ws .u64 6 (eF t9)]⟩,⟨9,9,.as [.ws .u64 6 (eF t10)]⟩,⟨10,2,.lit (.bo true)⟩,⟨11,2,.lit (.bo false)⟩] ?_
          refine same (p := (eqN W 6 z (fun _ => 0) && true) = false ∧ (eqN W 6 w (fun _ => 0) && true) = false ∧ asP [.ws .u64 6 (eF (eMul (dF z) (dF z)))] [.ws .u64 6 (eF t1)] ∧ nv z < pN ∧ asP [.ws .u64 6 (eF (eMul (dF w) (dF w)))] [.ws .u64 6 (eF t2)] ∧ nv w < pN ∧ asP [.ws .u64 6 (eF (eMul (dF x) (dF (eF t2))))] [.ws .u64 6 (eF t3)] ∧ nv x < pN ∧ asP [.ws .u64 6 (eF (eMul (dF u) (dF (eF t1))))] [.ws .u64 6 (eF t4)] ∧ nv u < pN ∧ asP [.ws .u64 6 (eF (eMul (dF (eF t2)) (dF w)))] [.ws .u64 6 (eF t5)] ∧ nv (eF t2) < pN ∧ asP [.ws .u64 6 (eF (eMul (dF y) (dF (eF t5))))] [.ws .u64 6 (eF t6)] ∧ nv y < pN ∧ asP [.ws .u64 6 (eF (eMul (dF (eF t1)) (dF z)))] [.ws .u64 6 (eF t7)] ∧ nv (eF t1) < pN ∧ asP [.ws .u64 6 (eF (eMul (dF v) (dF (eF t7))))] [.ws .u64 6 (eF t8)] ∧ nv v < pN ∧ asP [.ws .u64 6 (eF (eSub (dF (eF t4)) (dF (eF t3))))] [.ws .u64 6 (eF t9)] ∧ nv (eF t4) < pN ∧ nv (eF t3) < pN ∧ asP [.ws .u64 6 (eF (eSub (dF (eF t8)) (dF (eF t6))))] [.ws .u64 6 (eF t10)] ∧ nv (eF t8) < pN ∧ nv (eF t6) < pN ∧ (eqN W 6 (eF t9) (fun _ => 0) && true) = true ∧ (eqN W 6 (eF t10) (fun _ => 0) && true) = false ∧ endN (.v1 (.agg [.ws .u64 6 oneF, .ws .u64 6 oneF, .ws .u64 6 (fun _ => 0)])) (.v1 (.agg [.ws .u64 6 (eF ((⟨1, 1, 0⟩ : J3 Fp)).x), .ws .u64 6 (eF ((⟨1, 1, 0⟩ : J3 Fp)).y), .ws .u64 6 (eF ((⟨1, 1, 0⟩ : J3 Fp)).z)]))) ?_ (by kernel_rfl)
          exact ⟨zE_f hz hZZ, zE_f hw hWW, as_mulE rfl rfl ht1, hz, as_mulE rfl rfl ht2, hw, as_mulE rfl (dF_eF _) ht3, hx, as_mulE rfl (dF_eF _) ht4, hu, as_mulE (dF_eF _) rfl ht5, lt_eF _, as_mulE rfl (dF_eF _) ht6, hy, as_mulE (dF_eF _) rfl ht7, lt_eF _, as_mulE rfl (dF_eF _) ht8, hv, as_subE (dF_eF _) (dF_eF _) ht9, lt_eF _, lt_eF _, as_subE (dF_eF _) (dF_eF _) ht10, lt_eF _, lt_eF _, zE_t (lt_eF _) (by rw [dF_eF]; subst ht10 ht9 ht8 ht7 ht6 ht5 ht4 ht3 ht2 ht1; exact hh0), zE_f (lt_eF _) (by rw [dF_eF]; subst ht10 ht9 ht8 ht7 ht6 ht5 ht4 ht3 ht2 ht1; exact hr0), endC (cv_cons nv_one1 (cv_cons nv_one1 (cv_cons e0x (cv_nil))))⟩
      · have hadd : J3.add (⟨(dF x), (dF y), (dF z)⟩ : J3 Fp) (⟨(dF u), (dF v), (dF w)⟩ : J3 Fp) = J3.gen (⟨(dF x), (dF y), (dF z)⟩ : J3 Fp) (⟨(dF u), (dF v), (dF w)⟩ : J3 Fp) := hadd0.trans (if_neg hh0)
        rw [hadd]
        obtain ⟨t1, ht1⟩ : ∃ q_ : Fp, q_ = (dF z) * (dF z) := ⟨_, rfl⟩
        obtain ⟨t2, ht2⟩ : ∃ q_ : Fp, q_ = (dF w) * (dF w) := ⟨_, rfl⟩
        obtain ⟨t3, ht3⟩ : ∃ q_ : Fp, q_ = (dF x) * t2 := ⟨_, rfl⟩
        obtain ⟨t4, ht4⟩ : ∃ q_ : Fp, q_ = (dF u) * t1 := ⟨_, rfl⟩
        obtain ⟨t5, ht5⟩ : ∃ q_ : Fp, q_ = t2 * (dF w) := ⟨_, rfl⟩
        obtain ⟨t6, ht6⟩ : ∃ q_ : Fp, q_ = (dF y) * t5 := ⟨_, rfl⟩
        obtain ⟨t7, ht7⟩ : ∃ q_ : Fp, q_ = t1 * (dF z) := ⟨_, rfl⟩
        obtain ⟨t8, ht8⟩ : ∃ q_ : Fp, q_ = (dF v) * t7 := ⟨_, rfl⟩
        obtain ⟨t9, ht9⟩ : ∃ q_ : Fp, q_ = t4 - t3 := ⟨_, rfl⟩
        obtain ⟨t10, ht10⟩ : ∃ q_ : Fp, q_ = t8 - t6 := ⟨_, rfl⟩
        obtain ⟨t11, ht11⟩ : ∃ q_ : Fp, q_ = t9 * t9 := ⟨_, rfl⟩
        obtain ⟨t12, ht12⟩ : ∃ q_ : Fp, q_ = t11 * t9 := ⟨_, rfl⟩
        obtain ⟨t13, ht13⟩ : ∃ q_ : Fp, q_ = t3 * t11 := ⟨_, rfl⟩
        obtain ⟨t14, ht14⟩ : ∃ q_ : Fp, q_ = t10 * t10 := ⟨_, rfl⟩
        obtain ⟨t15, ht15⟩ : ∃ q_ : Fp, q_ = t14 - t12 := ⟨_, rfl⟩
        obtain ⟨t16, ht16⟩ : ∃ q_ : Fp, q_ = t13 + t13 := ⟨_, rfl⟩
        obtain ⟨t17, ht17⟩ : ∃ q_ : Fp, q_ = t15 - t16 := ⟨_, rfl⟩
        obtain ⟨t18, ht18⟩ : ∃ q_ : Fp, q_ = t13 - t17 := ⟨_, rfl⟩
        obtain ⟨t19, ht19⟩ : ∃ q_ : Fp, q_ = t10 * t18 := ⟨_, rfl⟩
        obtain ⟨t20, ht20⟩ : ∃ q_ : Fp, q_ = t6 * t12 := ⟨_, rfl⟩
        obtain ⟨t21, ht21⟩ : ∃ q_ : Fp, q_ = t19 - t20 := ⟨_, rfl⟩
        obtain ⟨t22, ht22⟩ : ∃ q_ : Fp, q_ = (dF z) * (dF w) := ⟨_, rfl⟩
        obtain ⟨t23, ht23⟩ : ∃ q_ : Fp, q_ = t9 * t22 := ⟨_, rfl⟩
        refine evS_q mixed tt_ok GSE_ok 300 [⟨2,3,.lit (.bo false)⟩,⟨4,3,.lit (.bo false)⟩,⟨6,6,.as [.ws .u64 6 (eF t1)]⟩,⟨6,13,.as [.ws .u64 6 (eF t2)]⟩,⟨7,5,.as [.ws .u64 6 (eF t3)]⟩,⟨7,11,.as [.ws .u64 6 (eF t4)]⟩,⟨8,9,.as [.ws .u64 6 (eF t5)]⟩,⟨8,10,.as [.ws .u64 6 (eF t6)]⟩,⟨8,20,.as [.ws .u64 6 (eF t7)]⟩,⟨8,21,.as [.ws .u64 6 (eF t8)]⟩,⟨9,4,.as [.ws .u64 6 (eF t9)]⟩,⟨9,9,.as [.ws .u64 6 (eF t10)]⟩,⟨10,2,.lit (.bo false)⟩,⟨14,4,.as [.ws .u64 6 (eF t11)]⟩,⟨15,4,.as [.ws .u64 6 (eF t12)]⟩,⟨16,4,.as [.ws .u64 6 (eF t13)]⟩,⟨17,8,.as [.ws .u64 6 (eF t14)]⟩,⟨17,10,.as [.ws .u64 6 (eF t15)]⟩,⟨17,15,.as [.ws .u64 6 (eF t16)]⟩,⟨17,16,.as [.ws .u64 6 (eF t17)]⟩,⟨18,10,.as [.ws .u64 6 (eF t18)]⟩,⟨18,11,.as [.ws .u64 6 (eF t19)]⟩,⟨18,16,.as [.ws .u64 6 (eF t20)]⟩,⟨18,17,.as [.ws .u64 6 (eF t21)]⟩,⟨18,27,.as [.ws .u64 6 (eF t22)]⟩,⟨18,28,.as [.ws .u64 6 (eF t23)]⟩] ?_
        refine same (p := (eqN W 6 z (fun _ => 0) && true) = false ∧ (eqN W 6 w (fun _ => 0) && true) = false ∧ asP [.ws .u64 6 (eF (eMul (dF z) (dF z)))] [.ws .u64 6 (eF t1)] ∧ nv z < pN ∧ asP [.ws .u64 6 (eF (eMul (dF w) (dF w)))] [.ws .u64 6 (eF t2)] ∧ nv w < pN ∧ asP [.ws .u64 6 (eF (eMul (dF x) (dF (eF t2))))] [.ws .u64 6 (eF t3)] ∧ nv x < pN ∧ asP [.ws .u64 6 (eF (eMul (dF u) (dF (eF t1))))] [.ws .u64 6 (eF t4)] ∧ nv u < pN ∧ asP [.ws .u64 6 (eF (eMul (dF (eF t2)) (dF w)))] [.ws .u64 6 (eF t5)] ∧ nv (eF t2) < pN ∧ asP [.ws .u64 6 (eF (eMul (dF y) (dF (eF t5))))] [.ws .u64 6 (eF t6)] ∧ nv y < pN ∧ asP [.ws .u64 6 (eF (eMul (dF (eF t1)) (dF z)))] [.ws .u64 6 (eF t7)] ∧ nv (eF t1) < pN ∧ asP [.ws .u64 6 (eF (eMul (dF v) (dF (eF t7))))] [.ws .u64 6 (eF t8)] ∧ nv v < pN ∧ asP [.ws .u64 6 (eF (eSub (dF (eF t4)) (dF (eF t3))))] [.ws .u64 6 (eF t9)] ∧ nv (eF t4) < pN ∧ nv (eF t3) < pN ∧ asP [.ws .u64 6 (eF (eSub (dF (eF t8)) (dF (eF t6))))] [.ws .u64 6 (eF t10)] ∧ nv (eF t8) < pN ∧ nv (eF t6) < pN ∧ (eqN W 6 (eF t9) (fun _ => 0) && true) = false ∧ asP [.ws .u64 6 (eF (eMul (dF (eF t9)) (dF (eF t9))))] [.ws .u64 6 (eF t11)] ∧ nv (eF t9) < pN ∧ asP [.ws .u64 6 (eF (eMul (dF (eF t11)) (dF (eF t9))))] [.ws .u64 6 (eF t12)] ∧ nv (eF t11) < pN ∧ asP [.ws .u64 6 (eF (eMul (dF (eF t3)) (dF (eF t11))))] [.ws .u64 6 (eF t13)] ∧ nv (eF t3) < pN ∧ asP [.ws .u64 6 (eF (eMul (dF (eF t10)) (dF (eF t10))))] [.ws .u64 6 (eF t14)] ∧ nv (eF t10) < pN ∧ asP [.ws .u64 6 (eF (eSub (dF (eF t14)) (dF (eF t12))))] [.ws .u64 6 (eF t15)] ∧ nv (eF t14) < pN ∧ nv (eF t12) < pN ∧ asP [.ws .u64 6 (eF (eAdd (dF (eF t13)) (dF (eF t13))))] [.ws .u64 6 (eF t16)] ∧ nv (eF t13) < pN ∧ nv (eF t13) < pN ∧ asP [.ws .u64 6 (eF (eSub (dF (eF t15)) (dF (eF t16))))] [.ws .u64 6 (eF t17)] ∧ nv (eF t15) < pN ∧ nv (eF t16) < pN ∧ asP [.ws .u64 6 (eF (eSub (dF (eF t13)) (dF (eF t17))))] [.ws .u64 6 (eF t18)] ∧ nv (eF t13) < pN ∧ nv (eF t17) < pN ∧ asP [.ws .u64 6 (eF (eMul (dF (eF t10)) (dF (eF t18))))] [.ws .u64 6 (eF t19)] ∧ nv (eF t10) < pN ∧ asP [.ws .u64 6 (eF (eMul (dF (eF t6)) (dF (eF t12))))] [.ws .u64 6 (eF t20)] ∧ nv (eF t6) < pN ∧ asP [.ws .u64 6 (eF (eSub (dF (eF t19)) (dF (eF t20))))] [.ws .u64 6 (eF t21)] ∧ nv (eF t19) < pN ∧ nv (eF t20) < pN ∧ asP [.ws .u64 6 (eF (eMul (dF z) (dF w)))] [.ws .u64 6 (eF t22)] ∧ nv z < pN ∧ asP [.ws .u64 6 (eF (eMul (dF (eF t9)) (dF (eF t22))))] [.ws .u64 6 (eF t23)] ∧ nv (eF t9) < pN ∧ endN (.v1 (.agg [.ws .u64 6 (eF t17), .ws .u64 6 (eF t21), .ws .u64 6 (eF t23)])) (.v1 (.agg [.ws .u64 6 (eF (J3.gen (⟨(dF x), (dF y), (dF z)⟩ : J3 Fp) (⟨(dF u), (dF v), (dF w)⟩ : J3 Fp)).x), .ws .u64 6 (eF (J3.gen (⟨(dF x), (dF y), (dF z)⟩ : J3 Fp) (⟨(dF u), (dF v), (dF w)⟩ : J3 Fp)).y), .ws .u64 6 (eF (J3.gen (⟨(dF x), (dF y), (dF z)⟩ : J3 Fp) (⟨(dF u), (dF v), (dF w)⟩ : J3 Fp)).z)]))) ?_ (by kernel_rfl)
        exact ⟨zE_f hz hZZ, zE_f hw hWW, as_mulE rfl rfl ht1, hz, as_mulE rfl rfl ht2, hw, as_mulE rfl (dF_eF _) ht3, hx, as_mulE rfl (dF_eF _) ht4, hu, as_mulE (dF_eF _) rfl ht5, lt_eF _, as_mulE rfl (dF_eF _) ht6, hy, as_mulE (dF_eF _) rfl ht7, lt_eF _, as_mulE rfl (dF_eF _) ht8, hv, as_subE (dF_eF _) (dF_eF _) ht9, lt_eF _, lt_eF _, as_subE (dF_eF _) (dF_eF _) ht10, lt_eF _, lt_eF _, zE_f (lt_eF _) (by rw [dF_eF]; subst ht10 ht9 ht8 ht7 ht6 ht5 ht4 ht3 ht2 ht1; exact hh0), as_mulE (dF_eF _) (dF_eF _) ht11, lt_eF _, as_mulE (dF_eF _) (dF_eF _) ht12, lt_eF _, as_mulE (dF_eF _) (dF_eF _) ht13, lt_eF _, as_mulE (dF_eF _) (dF_eF _) ht14, lt_eF _, as_subE (dF_eF _) (dF_eF _) ht15, lt_eF _, lt_eF _, as_addE (dF_eF _) (dF_eF _) ht16, lt_eF _, lt_eF _, as_subE (dF_eF _) (dF_eF _) ht17, lt_eF _, lt_eF _, as_subE (dF_eF _) (dF_eF _) ht18, lt_eF _, lt_eF _, as_mulE (dF_eF _) (dF_eF _) ht19, lt_eF _, as_mulE (dF_eF _) (dF_eF _) ht20, lt_eF _, as_subE (dF_eF _) (dF_eF _) ht21, lt_eF _, lt_eF _, as_mulE rfl rfl ht22, hz, as_mulE (dF_eF _) (dF_eF _) ht23, lt_eF _, endC (cv_cons (nv_t (by subst ht23 ht22 ht21 ht20 ht19 ht18 ht17 ht16 ht15 ht14 ht13 ht12 ht11 ht10 ht9 ht8 ht7 ht6 ht5 ht4 ht3 ht2 ht1; rfl)) (cv_cons (nv_t (by subst ht23 ht22 ht21 ht20 ht19 ht18 ht17 ht16 ht15 ht14 ht13 ht12 ht11 ht10 ht9 ht8 ht7 ht6 ht5 ht4 ht3 ht2 ht1; rfl)) (cv_cons (nv_t (by subst ht23 ht22 ht21 ht20 ht19 ht18 ht17 ht16 ht15 ht14 ht13 ht12 ht11 ht10 ht9 ht8 ht7 ht6 ht5 ht4 ht3 ht2 ht1; rfl)) (cv_nil))))⟩
end Go.Proofs.Ytnjocbcjejpklaa

/- The curve's points of three numbers, over numbers of two parts: twice, sum. Printed by gp1.py Q. -/
namespace Go.Proofs.Ytnjocbcjejpklaa
open Go.Rq Go
set_option maxRecDepth 100000
set_option linter.unusedVariables false
set_option linter.unusedSimpArgs false
set_option maxHeartbeats 4000000

abbrev fdQ : List Cell := [.one (.fn 54 []), .one (.fn 53 []), .one (.fn 50 []), .one (.fn 67 []), .ws .u64 6 oneF, .ws .u64 6 (fun _ => 0), .ws .u64 6 (eF (ofN (nv (wd (4 % W))))), .ws .u64 6 (eF (ofN (nv (wd (4 % W)))))]
def jQ1 (F : J3 F2p → J3 F2p) : List AV → Option (List Prop × AV)
  | [.v1 (.agg cs), .v1 (.agg [.ws .u64 6 x0, .ws .u64 6 x1, .ws .u64 6 y0, .ws .u64 6 y1, .ws .u64 6 z0, .ws .u64 6 z1])] => some ([cs = fdQ, nv x0 < pN, nv x1 < pN, nv y0 < pN, nv y1 < pN, nv z0 < pN, nv z1 < pN], .v1 (.agg [.ws .u64 6 (eF (F (⟨(⟨dF x0, dF x1⟩ : F2p), (⟨dF y0, dF y1⟩ : F2p), (⟨dF z0, dF z1⟩ : F2p)⟩ : J3 F2p)).x.x), .ws .u64 6 (eF (F (⟨(⟨dF x0, dF x1⟩ : F2p), (⟨dF y0, dF y1⟩ : F2p), (⟨dF z0, dF z1⟩ : F2p)⟩ : J3 F2p)).x.y), .ws .u64 6 (eF (F (⟨(⟨dF x0, dF x1⟩ : F2p), (⟨dF y0, dF y1⟩ : F2p), (⟨dF z0, dF z1⟩ : F2p)⟩ : J3 F2p)).y.x), .ws .u64 6 (eF (F (⟨(⟨dF x0, dF x1⟩ : F2p), (⟨dF y0, dF y1⟩ : F2p), (⟨dF z0, dF z1⟩ : F2p)⟩ : J3 F2p)).y.y), .ws .u64 6 (eF (F (⟨(⟨dF x0, dF x1⟩ : F2p), (⟨dF y0, dF y1⟩ : F2p), (⟨dF z0, dF z1⟩ : F2p)⟩ : J3 F2p)).z.x), .ws .u64 6 (eF (F (⟨(⟨dF x0, dF x1⟩ : F2p), (⟨dF y0, dF y1⟩ : F2p), (⟨dF z0, dF z1⟩ : F2p)⟩ : J3 F2p)).z.y)]))
  | _ => none
def jQ2 (F : J3 F2p → J3 F2p → J3 F2p) : List AV → Option (List Prop × AV)
  | [.v1 (.agg cs), .v1 (.agg [.ws .u64 6 x0, .ws .u64 6 x1, .ws .u64 6 y0, .ws .u64 6 y1, .ws .u64 6 z0, .ws .u64 6 z1]), .v1 (.agg [.ws .u64 6 u0, .ws .u64 6 u1, .ws .u64 6 v0, .ws .u64 6 v1, .ws .u64 6 w0, .ws .u64 6 w1])] => some ([cs = fdQ, nv x0 < pN, nv x1 < pN, nv y0 < pN, nv y1 < pN, nv z0 < pN, nv z1 < pN, nv u0 < pN, nv u1 < pN, nv v0 < pN, nv v1 < pN, nv w0 < pN, nv w1 < pN], .v1 (.agg [.ws .u64 6 (eF (F (⟨(⟨dF x0, dF x1⟩ : F2p), (⟨dF y0, dF y1⟩ : F2p), (⟨dF z0, dF z1⟩ : F2p)⟩ : J3 F2p) (⟨(⟨dF u0, dF u1⟩ : F2p), (⟨dF v0, dF v1⟩ : F2p), (⟨dF w0, dF w1⟩ : F2p)⟩ : J3 F2p)).x.x), .ws .u64 6 (eF (F (⟨(⟨dF x0, dF x1⟩ : F2p), (⟨dF y0, dF y1⟩ : F2p), (⟨dF z0, dF z1⟩ : F2p)⟩ : J3 F2p) (⟨(⟨dF u0, dF u1⟩ : F2p), (⟨dF v0, dF v1⟩ : F2p), (⟨dF w0, dF w1⟩ : F2p)⟩ : J3 F2p)).x.y), .ws .u64 6 (eF (F (⟨(⟨dF x0, dF x1⟩ : F2p), (⟨dF y0, dF y1⟩ : F2p), (⟨dF z0, dF z1⟩ : F2p)⟩ : J3 F2p) (⟨(⟨dF u0, dF u1⟩ : F2p), (⟨dF v0, dF v1⟩ : F2p), (⟨dF w0, dF w1⟩ : F2p)⟩ : J3 F2p)).y.x), .ws .u64 6 (eF (F (⟨(⟨dF x0, dF x1⟩ : F2p), (⟨dF y0, dF y1⟩ : F2p), (⟨dF z0, dF z1⟩ : F2p)⟩ : J3 F2p) (⟨(⟨dF u0, dF u1⟩ : F2p), (⟨dF v0, dF v1⟩ : F2p), (⟨dF w0, dF w1⟩ : F2p)⟩ : J3 F2p)).y.y), .ws .u64 6 (eF (F (⟨(⟨dF x0, dF x1⟩ : F2p), (⟨dF y0, dF y1⟩ : F2p), (⟨dF z0, dF z1⟩ : F2p)⟩ : J3 F2p) (⟨(⟨dF u0, dF u1⟩ : F2p), (⟨dF v0, dF v1⟩ : F2p), (⟨dF w0, dF w1⟩ : F2p)⟩ : J3 F2p)).z.x), .ws .u64 6 (eF (F (⟨(⟨dF x0, dF x1⟩ : F2p), (⟨dF y0, dF y1⟩ : F2p), (⟨dF z0, dF z1⟩ : F2p)⟩ : J3 F2p) (⟨(⟨dF u0, dF u1⟩ : F2p), (⟨dF v0, dF v1⟩ : F2p), (⟨dF w0, dF w1⟩ : F2p)⟩ : J3 F2p)).z.y)]))
  | _ => none
def GCQ : List (Nat × CallC) := [(54, .pure (q2 add2x add2y)), (53, .pure (q2 sub2x sub2y)), (50, .pure (q2 mul2x mul2y)), (67, .pure (q1 inv2x inv2y))]
theorem GCQ_ok : CtxOk Try.prog (ctxL GCQ) := ctxL_cons okAdd2 <| ctxL_cons okSub2 <| ctxL_cons okMul2 <| ctxL_cons okMInv2 ctxL_nil
theorem okTwQ : (CallC.pure (jQ1 J3.dbl)).Ok Try.prog 90 := by
  intro args pre v e hp
  unfold jQ1 at e
  split at e
  rotate_left
  · cases e
  rename_i cs x0 x1 y0 y1 z0 z1
  cases e
  have hcs : cs = fdQ := hp _ (by simp)
  subst hcs
  have hx0 : nv x0 < pN := hp (nv x0 < pN) (by simp)
  have hx1 : nv x1 < pN := hp (nv x1 < pN) (by simp)
  have hy0 : nv y0 < pN := hp (nv y0 < pN) (by simp)
  have hy1 : nv y1 < pN := hp (nv y1 < pN) (by simp)
  have hz0 : nv z0 < pN := hp (nv z0 < pN) (by simp)
  have hz1 : nv z1 < pN := hp (nv z1 < pN) (by simp)
  refine pure_walk' tt_ok Try.func90 (by kernel_rfl) (by kernel_rfl) (by rfl) (by rfl) ?_
  obtain ⟨t1, ht1⟩ : ∃ q_ : F2p, q_ = (⟨dF y0, dF y1⟩ : F2p) * (⟨dF y0, dF y1⟩ : F2p) := ⟨_, rfl⟩
  obtain ⟨t2, ht2⟩ : ∃ q_ : F2p, q_ = (⟨dF x0, dF x1⟩ : F2p) * t1 := ⟨_, rfl⟩
  obtain ⟨t3, ht3⟩ : ∃ q_ : F2p, q_ = t2 + t2 := ⟨_, rfl⟩
  obtain ⟨t4, ht4⟩ : ∃ q_ : F2p, q_ = t3 + t3 := ⟨_, rfl⟩
  obtain ⟨t5, ht5⟩ : ∃ q_ : F2p, q_ = (⟨dF x0, dF x1⟩ : F2p) * (⟨dF x0, dF x1⟩ : F2p) := ⟨_, rfl⟩
  obtain ⟨t6, ht6⟩ : ∃ q_ : F2p, q_ = t5 + t5 := ⟨_, rfl⟩
  obtain ⟨t7, ht7⟩ : ∃ q_ : F2p, q_ = t6 + t5 := ⟨_, rfl⟩
  obtain ⟨t8, ht8⟩ : ∃ q_ : F2p, q_ = t7 * t7 := ⟨_, rfl⟩
  obtain ⟨t9, ht9⟩ : ∃ q_ : F2p, q_ = t4 + t4 := ⟨_, rfl⟩
  obtain ⟨t10, ht10⟩ : ∃ q_ : F2p, q_ = t8 - t9 := ⟨_, rfl⟩
  obtain ⟨t11, ht11⟩ : ∃ q_ : F2p, q_ = t1 * t1 := ⟨_, rfl⟩
  obtain ⟨t12, ht12⟩ : ∃ q_ : F2p, q_ = t11 + t11 := ⟨_, rfl⟩
  obtain ⟨t13, ht13⟩ : ∃ q_ : F2p, q_ = t12 + t12 := ⟨_, rfl⟩
  obtain ⟨t14, ht14⟩ : ∃ q_ : F2p, q_ = t13 + t13 := ⟨_, rfl⟩
  obtain ⟨t15, ht15⟩ : ∃ q_ : F2p, q_ = (⟨dF y0, dF y1⟩ : F2p) * (⟨dF z0, dF z1⟩ : F2p) := ⟨_, rfl⟩
  obtain ⟨t16, ht16⟩ : ∃ q_ : F2p, q_ = t4 - t10 := ⟨_, rfl⟩
  obtain ⟨t17, ht17⟩ : ∃ q_ : F2p, q_ = t7 * t16 := ⟨_, rfl⟩
  obtain ⟨t18, ht18⟩ : ∃ q_ : F2p, q_ = t17 - t14 := ⟨_, rfl⟩
  obtain ⟨t19, ht19⟩ : ∃ q_ : F2p, q_ = t15 + t15 := ⟨_, rfl⟩
  refine evS_q mixed tt_ok GCQ_ok 200 [⟨1,6,.as [.ws .u64 6 (eF t1.x), .ws .u64 6 (eF t1.y)]⟩,⟨2,5,.as [.ws .u64 6 (eF t2.x), .ws .u64 6 (eF t2.y)]⟩,⟨3,4,.as [.ws .u64 6 (eF t3.x), .ws .u64 6 (eF t3.y)]⟩,⟨4,4,.as [.ws .u64 6 (eF t4.x), .ws .u64 6 (eF t4.y)]⟩,⟨5,6,.as [.ws .u64 6 (eF t5.x), .ws .u64 6 (eF t5.y)]⟩,⟨6,6,.as [.ws .u64 6 (eF t6.x), .ws .u64 6 (eF t6.y)]⟩,⟨6,8,.as [.ws .u64 6 (eF t7.x), .ws .u64 6 (eF t7.y)]⟩,⟨7,6,.as [.ws .u64 6 (eF t8.x), .ws .u64 6 (eF t8.y)]⟩,⟨7,11,.as [.ws .u64 6 (eF t9.x), .ws .u64 6 (eF t9.y)]⟩,⟨7,12,.as [.ws .u64 6 (eF t10.x), .ws .u64 6 (eF t10.y)]⟩,⟨8,4,.as [.ws .u64 6 (eF t11.x), .ws .u64 6 (eF t11.y)]⟩,⟨9,4,.as [.ws .u64 6 (eF t12.x), .ws .u64 6 (eF t12.y)]⟩,⟨10,4,.as [.ws .u64 6 (eF t13.x), .ws .u64 6 (eF t13.y)]⟩,⟨11,4,.as [.ws .u64 6 (eF t14.x), .ws .u64 6 (eF t14.y)]⟩,⟨12,6,.as [.ws .u64 6 (eF t15.x), .ws .u64 6 (eF t15.y)]⟩,⟨13,10,.as [.ws .u64 6 (eF t16.x), .ws .u64 6 (eF t16.y)]⟩,⟨13,11,.as [.ws .u64 6 (eF t17.x), .ws .u64 6 (eF t17.y)]⟩,⟨13,13,.as [.ws .u64 6 (eF t18.x), .ws .u64 6 (eF t18.y)]⟩,⟨13,18,.as [.ws .u64 6 (eF t19.x), .ws .u64 6 (eF t19.y)]⟩] ?_
  refine same (p := asP [.ws .u64 6 (eF (mul2x (dF y0) (dF y1) (dF y0) (dF y1))), .ws .u64 6 (eF (mul2y (dF y0) (dF y1) (dF y0) (dF y1)))] [.ws .u64 6 (eF t1.x), .ws .u64 6 (eF t1.y)] ∧ nv y0 < pN ∧ nv y1 < pN ∧ nv y0 < pN ∧ nv y1 < pN ∧ asP [.ws .u64 6 (eF (mul2x (dF x0) (dF x1) (dF (eF t1.x)) (dF (eF t1.y)))), .ws .u64 6 (eF (mul2y (dF x0) (dF x1) (dF (eF t1.x)) (dF (eF t1.y))))] [.ws .u64 6 (eF t2.x), .ws .u64 6 (eF t2.y)] ∧ nv x0 < pN ∧ nv x1 < pN ∧ nv (eF t1.x) < pN ∧ nv (eF t1.y) < pN ∧ asP [.ws .u64 6 (eF (add2x (dF (eF t2.x)) (dF (eF t2.y)) (dF (eF t2.x)) (dF (eF t2.y)))), .ws .u64 6 (eF (add2y (dF (eF t2.x)) (dF (eF t2.y)) (dF (eF t2.x)) (dF (eF t2.y))))] [.ws .u64 6 (eF t3.x), .ws .u64 6 (eF t3.y)] ∧ nv (eF t2.x) < pN ∧ nv (eF t2.y) < pN ∧ nv (eF t2.x) < pN ∧ nv (eF t2.y) < pN ∧ asP [.ws .u64 6 (eF (add2x (dF (eF t3.x)) (dF (eF t3.y)) (dF (eF t3.x)) (dF (eF t3.y)))), .ws .u64 6 (eF (add2y (dF (eF t3.x)) (dF (eF t3.y)) (dF (eF t3.x)) (dF (eF t3.y))))] [.ws .u64 6 (eF t4.x), .ws .u64 6 (eF t4.y)] ∧ nv (eF t3.x) < pN ∧ nv (eF t3.y) < pN ∧ nv (eF t3.x) < pN ∧ nv (eF t3.y) < pN ∧ asP [.ws .u64 6 (eF (mul2x (dF x0) (dF x1) (dF x0) (dF x1))), .ws .u64 6 (eF (mul2y (dF x0) (dF x1) (dF x0) (dF x1)))] [.ws .u64 6 (eF t5.x), .ws .u64 6 (eF t5.y)] ∧ nv x0 < pN ∧ nv x1 < pN ∧ nv x0 < pN ∧ nv x1 < pN ∧ asP [.ws .u64 6 (eF (add2x (dF (eF t5.x)) (dF (eF t5.y)) (dF (eF t5.x)) (dF (eF t5.y)))), .ws .u64 6 (eF (add2y (dF (eF t5.x)) (dF (eF t5.y)) (dF (eF t5.x)) (dF (eF t5.y))))] [.ws .u64 6 (eF t6.x), .ws .u64 6 (eF t6.y)] ∧ nv (eF t5.x) < pN ∧ nv (eF t5.y) < pN ∧ nv (eF t5.x) < pN ∧ nv (eF t5.y) < pN ∧ asP [.ws .u64 6 (eF (add2x (dF (eF t6.x)) (dF (eF t6.y)) (dF (eF t5.x)) (dF (eF t5.y)))), .ws .u64 6 (eF (add2y (dF (eF t6.x)) (dF (eF t6.y)) (dF (eF t5.x)) (dF (eF t5.y))))] [.ws .u64 6 (eF t7.x), .ws .u64 6 (eF t7.y)] ∧ nv (eF t6.x) < pN ∧ nv (eF t6.y) < pN ∧ nv (eF t5.x) < pN ∧ nv (eF t5.y) < pN ∧ asP [.ws .u64 6 (eF (mul2x (dF (eF t7.x)) (dF (eF t7.y)) (dF (eF t7.x)) (dF (eF t7.y)))), .ws .u64 6 (eF (mul2y (dF (eF t7.x)) (dF (eF t7.y)) (dF (eF t7.x)) (dF (eF t7.y))))] [.ws .u64 6 (eF t8.x), .ws .u64 6 (eF t8.y)] ∧ nv (eF t7.x) < pN ∧ nv (eF t7.y) < pN ∧ nv (eF t7.x) < pN ∧ nv (eF t7.y) < pN ∧ asP [.ws .u64 6 (eF (add2x (dF (eF t4.x)) (dF (eF t4.y)) (dF (eF t4.x)) (dF (eF t4.y)))), .ws .u64 6 (eF (add2y (dF (eF t4.x)) (dF (eF t4.y)) (dF (eF t4.x)) (dF (eF t4.y))))] [.ws .u64 6 (eF t9.x), .ws .u64 6 (eF t9.y)] ∧ nv (eF t4.x) < pN ∧ nv (eF t4.y) < pN ∧ nv (eF t4.x) < pN ∧ nv (eF t4.y) < pN ∧ asP [.ws .u64 6 (eF (sub2x (dF (eF t8.x)) (dF (eF t8.y)) (dF (eF t9.x)) (dF (eF t9.y)))), .ws .u64 6 (eF (sub2y (dF (eF t8.x)) (dF (eF t8.y)) (dF (eF t9.x)) (dF (eF t9.y))))] [.ws .u64 6 (eF t10.x), .ws .u64 6 (eF t10.y)] ∧ nv (eF t8.x) < pN ∧ nv (eF t8.y) < pN ∧ nv (eF t9.x) < pN ∧ nv (eF t9.y) < pN ∧ asP [.ws .u64 6 (eF (mul2x (dF (eF t1.x)) (dF (eF t1.y)) (dF (eF t1.x)) (dF (eF t1.y)))), .ws .u64 6 (eF (mul2y (dF (eF t1.x)) (dF (eF t1.y)) (dF (eF t1.x)) (dF (eF t1.y))))] [.ws .u64 6 (eF t11.x), .ws .u64 6 (eF t11.y)] ∧ nv (eF t1.x) < pN ∧ nv (eF t1.y) < pN ∧ nv (eF t1.x) < pN ∧ nv (eF t1.y) < pN ∧ asP [.ws .u64 6 (eF (add2x (dF (eF t11.x)) (dF (eF t11.y)) (dF (eF t11.x)) (dF (eF t11.y)))), .ws .u64 6 (eF (add2y (dF (eF t11.x)) (dF (eF t11.y)) (dF (eF t11.x)) (dF (eF t11.y))))] [.ws .u64 6 (eF t12.x), .ws .u64 6 (eF t12.y)] ∧ nv (eF t11.x) < pN ∧ nv (eF t11.y) < pN ∧ nv (eF t11.x) < pN ∧ nv (eF t11.y) < pN ∧ asP [.ws .u64 6 (eF (add2x (dF (eF t12.x)) (dF (eF t12.y)) (dF (eF t12.x)) (dF (eF t12.y)))), .ws .u64 6 (eF (add2y (dF (eF t12.x)) (dF (eF t12.y)) (dF (eF t12.x)) (dF (eF t12.y))))] [.ws .u64 6 (eF t13.x), .ws .u64 6 (eF t13.y)] ∧ nv (eF t12.x) < pN ∧ nv (eF t12.y) < pN ∧ nv (eF t12.x) < pN ∧ nv (eF t12.y) < pN ∧ asP [.ws .u64 6 (eF (add2x (dF (eF t13.x)) (dF (eF t13.y)) (dF (eF t13.x)) (dF (eF t13.y)))), .ws .u64 6 (eF (add2y (dF (eF t13.x)) (dF (eF t13.y)) (dF (eF t13.x)) (dF (eF t13.y))))] [.ws .u64 6 (eF t14.x), .ws .u64 6 (eF t14.y)] ∧ nv (eF t13.x) < pN ∧ nv (eF t13.y) < pN ∧ nv (eF t13.x) < pN ∧ nv (eF t13.y) < pN ∧ asP [.ws .u64 6 (eF (mul2x (dF y0) (dF y1) (dF z0) (dF z1))), .ws .u64 6 (eF (mul2y (dF y0) (dF y1) (dF z0) (dF z1)))] [.ws .u64 6 (eF t15.x), .ws .u64 6 (eF t15.y)] ∧ nv y0 < pN ∧ nv y1 < pN ∧ nv z0 < pN ∧ nv z1 < pN ∧ asP [.ws .u64 6 (eF (sub2x (dF (eF t4.x)) (dF (eF t4.y)) (dF (eF t10.x)) (dF (eF t10.y)))), .ws .u64 6 (eF (sub2y (dF (eF t4.x)) (dF (eF t4.y)) (dF (eF t10.x)) (dF (eF t10.y))))] [.ws .u64 6 (eF t16.x), .ws .u64 6 (eF t16.y)] ∧ nv (eF t4.x) < pN ∧ nv (eF t4.y) < pN ∧ nv (eF t10.x) < pN ∧ nv (eF t10.y) < pN ∧ asP [.ws .u64 6 (eF (mul2x (dF (eF t7.x)) (dF (eF t7.y)) (dF (eF t16.x)) (dF (eF t16.y)))), .ws .u64 6 (eF (mul2y (dF (eF t7.x)) (dF (eF t7.y)) (dF (eF t16.x)) (dF (eF t16.y))))] [.ws .u64 6 (eF t17.x), .ws .u64 6 (eF t17.y)] ∧ nv (eF t7.x) < pN ∧ nv (eF t7.y) < pN ∧ nv (eF t16.x) < pN ∧ nv (eF t16.y) < pN ∧ asP [.ws .u64 6 (eF (sub2x (dF (eF t17.x)) (dF (eF t17.y)) (dF (eF t14.x)) (dF (eF t14.y)))), .ws .u64 6 (eF (sub2y (dF (eF t17.x)) (dF (eF t17.y)) (dF (eF t14.x)) (dF (eF t14.y))))] [.ws .u64 6 (eF t18.x), .ws .u64 6 (eF t18.y)] ∧ nv (eF t17.x) < pN ∧ nv (eF t17.y) < pN ∧ nv (eF t14.x) < pN ∧ nv (eF t14.y) < pN ∧ asP [.ws .u64 6 (eF (add2x (dF (eF t15.x)) (dF (eF t15.y)) (dF (eF t15.x)) (dF (eF t15.y)))), .ws .u64 6 (eF (add2y (dF (eF t15.x)) (dF (eF t15.y)) (dF (eF t15.x)) (dF (eF t15.y))))] [.ws .u64 6 (eF t19.x), .ws .u64 6 (eF t19.y)] ∧ nv (eF t15.x) < pN ∧ nv (eF t15.y) < pN ∧ nv (eF t15.x) < pN ∧ nv (eF t15.y) < pN ∧ endN (.v1 (.agg [.ws .u64 6 (eF t10.x), .ws .u64 6 (eF t10.y), .ws .u64 6 (eF t18.x), .ws .u64 6 (eF t18.y), .ws .u64 6 (eF t19.x), .ws .u64 6 (eF t19.y)])) (.v1 (.agg [.ws .u64 6 (eF (J3.dbl (⟨(⟨dF x0, dF x1⟩ : F2p), (⟨dF y0, dF y1⟩ : F2p), (⟨dF z0, dF z1⟩ : F2p)⟩ : J3 F2p)).x.x), .ws .u64 6 (eF (J3.dbl (⟨(⟨dF x0, dF x1⟩ : F2p), (⟨dF y0, dF y1⟩ : F2p), (⟨dF z0, dF z1⟩ : F2p)⟩ : J3 F2p)).x.y), .ws .u64 6 (eF (J3.dbl (⟨(⟨dF x0, dF x1⟩ : F2p), (⟨dF y0, dF y1⟩ : F2p), (⟨dF z0, dF z1⟩ : F2p)⟩ : J3 F2p)).y.x), .ws .u64 6 (eF (J3.dbl (⟨(⟨dF x0, dF x1⟩ : F2p), (⟨dF y0, dF y1⟩ : F2p), (⟨dF z0, dF z1⟩ : F2p)⟩ : J3 F2p)).y.y), .ws .u64 6 (eF (J3.dbl (⟨(⟨dF x0, dF x1⟩ : F2p), (⟨dF y0, dF y1⟩ : F2p), (⟨dF z0, dF z1⟩ : F2p)⟩ : J3 F2p)).z.x), .ws .u64 6 (eF (J3.dbl (⟨(⟨dF x0, dF x1⟩ : F2p), (⟨dF y0, dF y1⟩ : F2p), (⟨dF z0, dF z1⟩ : F2p)⟩ : J3 F2p)).z.y)]))) ?_ (by kernel_rfl)
  exact ⟨as_mulQ rfl rfl rfl rfl ht1, hy0, hy1, hy0, hy1, as_mulQ rfl rfl (dF_eF _) (dF_eF _) ht2, hx0, hx1, lt_eF _, lt_eF _, as_addQ (dF_eF _) (dF_eF _) (dF_eF _) (dF_eF _) ht3, lt_eF _, lt_eF _, lt_eF _, lt_eF _, as_addQ (dF_eF _) (dF_eF _) (dF_eF _) (dF_eF _) ht4, lt_eF _, lt_eF _, lt_eF _, lt_eF _, as_mulQ rfl rfl rfl rfl ht5, hx0, hx1, hx0, hx1, as_addQ (dF_eF _) (dF_eF _) (dF_eF _) (dF_eF _) ht6, lt_eF _, lt_eF _, lt_eF _, lt_eF _, as_addQ (dF_eF _) (dF_eF _) (dF_eF _) (dF_eF _) ht7, lt_eF _, lt_eF _, lt_eF _, lt_eF _, as_mulQ (dF_eF _) (dF_eF _) (dF_eF _) (dF_eF _) ht8, lt_eF _, lt_eF _, lt_eF _, lt_eF _, as_addQ (dF_eF _) (dF_eF _) (dF_eF _) (dF_eF _) ht9, lt_eF _, lt_eF _, lt_eF _, lt_eF _, as_subQ (dF_eF _) (dF_eF _) (dF_eF _) (dF_eF _) ht10, lt_eF _, lt_eF _, lt_eF _, lt_eF _, as_mulQ (dF_eF _) (dF_eF _) (dF_eF _) (dF_eF _) ht11, lt_eF _, lt_eF _, lt_eF _, lt_eF _, as_addQ (dF_eF _) (dF_eF _) (dF_eF _) (dF_eF _) ht12, lt_eF _, lt_eF _, lt_eF _, lt_eF _, as_addQ (dF_eF _) (dF_eF _) (dF_eF _) (dF_eF _) ht13, lt_eF _, lt_eF _, lt_eF _, lt_eF _, as_addQ (dF_eF _) (dF_eF _) (dF_eF _) (dF_eF _) ht14, lt_eF _, lt_eF _, lt_eF _, lt_eF _, as_mulQ rfl rfl rfl rfl ht15, hy0, hy1, hz0, hz1, as_subQ (dF_eF _) (dF_eF _) (dF_eF _) (dF_eF _) ht16, lt_eF _, lt_eF _, lt_eF _, lt_eF _, as_mulQ (dF_eF _) (dF_eF _) (dF_eF _) (dF_eF _) ht17, lt_eF _, lt_eF _, lt_eF _, lt_eF _, as_subQ (dF_eF _) (dF_eF _) (dF_eF _) (dF_eF _) ht18, lt_eF _, lt_eF _, lt_eF _, lt_eF _, as_addQ (dF_eF _) (dF_eF _) (dF_eF _) (dF_eF _) ht19, lt_eF _, lt_eF _, lt_eF _, lt_eF _, endC (cv_cons (nv_tx (by subst ht19 ht18 ht17 ht16 ht15 ht14 ht13 ht12 ht11 ht10 ht9 ht8 ht7 ht6 ht5 ht4 ht3 ht2 ht1; rfl)) (cv_cons (nv_ty (by subst ht19 ht18 ht17 ht16 ht15 ht14 ht13 ht12 ht11 ht10 ht9 ht8 ht7 ht6 ht5 ht4 ht3 ht2 ht1; rfl)) (cv_cons (nv_tx (by subst ht19 ht18 ht17 ht16 ht15 ht14 ht13 ht12 ht11 ht10 ht9 ht8 ht7 ht6 ht5 ht4 ht3 ht2 ht1; rfl)) (cv_cons (nv_ty (by subst ht19 ht18 ht17 ht16 ht15 ht14 ht13 ht12 ht11 ht10 ht9 ht8 ht7 ht6 ht5 ht4 ht3 ht2 ht1; rfl)) (cv_cons (nv_tx (by subst ht19 ht18 ht17 ht16 ht15 ht14 ht13 ht12 ht11 ht10 ht9 ht8 ht7 ht6 ht5 ht4 ht3 ht2 ht1; rfl)) (cv_cons (nv_ty (by subst ht19 ht18 ht17 ht16 ht15 ht14 ht13 ht12 ht11 ht10 ht9 ht8 ht7 ht6 ht5 ht4 ht3 ht2 ht1; rfl)) (cv_nil)))))))⟩
def GSQ : List (Nat × CallC) := (90, .pure (jQ1 J3.dbl)) :: GCQ
theorem GSQ_ok : CtxOk Try.prog (ctxL GSQ) := ctxL_cons okTwQ GCQ_ok
theorem okSmQ : (CallC.pure (jQ2 J3.add)).Ok Try.prog 91 := by
  intro args pre v e hp
  unfold jQ2 at e
  split at e
  rotate_left
  · cases e
  rename_i cs x0 x1 y0 y1 z0 z1 u0 u1 v0 v1 w0 w1
  cases e
  have hcs : cs = fdQ := hp _ (by simp)
  subst hcs
  have hx0 : nv x0 < pN := hp (nv x0 < pN) (by simp)
  have hx1 : nv x1 < pN := hp (nv x1 < pN) (by simp)
  have hy0 : nv y0 < pN := hp (nv y0 < pN) (by simp)
  have hy1 : nv y1 < pN := hp (nv y1 < pN) (by simp)
  have hz0 : nv z0 < pN := hp (nv z0 < pN) (by simp)
  have hz1 : nv z1 < pN := hp (nv z1 < pN) (by simp)
  have hu0 : nv u0 < pN := hp (nv u0 < pN) (by simp)
  have hu1 : nv u1 < pN := hp (nv u1 < pN) (by simp)
  have hv0 : nv v0 < pN := hp (nv v0 < pN) (by simp)
  have hv1 : nv v1 < pN := hp (nv v1 < pN) (by simp)
  have hw0 : nv w0 < pN := hp (nv w0 < pN) (by simp)
  have hw1 : nv w1 < pN := hp (nv w1 < pN) (by simp)
  refine pure_walk' tt_ok Try.func91 (by kernel_rfl) (by kernel_rfl) (by rfl) (by rfl) ?_
  by_cases hZZ : (⟨dF z0, dF z1⟩ : F2p) = 0
  · have hadd : J3.add (⟨(⟨dF x0, dF x1⟩ : F2p), (⟨dF y0, dF y1⟩ : F2p), (⟨dF z0, dF z1⟩ : F2p)⟩ : J3 F2p) (⟨(⟨dF u0, dF u1⟩ : F2p), (⟨dF v0, dF v1⟩ : F2p), (⟨dF w0, dF w1⟩ : F2p)⟩ : J3 F2p) = (⟨(⟨dF u0, dF u1⟩ : F2p), (⟨dF v0, dF v1⟩ : F2p), (⟨dF w0, dF w1⟩ : F2p)⟩ : J3 F2p) := if_pos hZZ
    rw [hadd]
    refine evS_q mixed tt_ok GSQ_ok 100 [⟨2,3,.lit (.bo true)⟩] ?_
    refine same (p := (eqN W 6 z0 (fun _ => 0) && (eqN W 6 z1 (fun _ => 0) && true)) = true ∧ endN (.v1 (.agg [.ws .u64 6 u0, .ws .u64 6 u1, .ws .u64 6 v0, .ws .u64 6 v1, .ws .u64 6 w0, .ws .u64 6 w1])) (.v1 (.agg [.ws .u64 6 (eF ((⟨(⟨dF u0, dF u1⟩ : F2p), (⟨dF v0, dF v1⟩ : F2p), (⟨dF w0, dF w1⟩ : F2p)⟩ : J3 F2p)).x.x), .ws .u64 6 (eF ((⟨(⟨dF u0, dF u1⟩ : F2p), (⟨dF v0, dF v1⟩ : F2p), (⟨dF w0, dF w1⟩ : F2p)⟩ : J3 F2p)).x.y), .ws .u64 6 (eF ((⟨(⟨dF u0, dF u1⟩ : F2p), (⟨dF v0, dF v1⟩ : F2p), (⟨dF w0, dF w1⟩ : F2p)⟩ : J3 F2p)).y.x), .ws .u64 6 (eF ((⟨(⟨dF u0, dF u1⟩ : F2p), (⟨dF v0, dF v1⟩ : F2p), (⟨dF w0, dF w1⟩ : F2p)⟩ : J3 F2p)).y.y), .ws .u64 6 (eF ((⟨(⟨dF u0, dF u1⟩ : F2p), (⟨dF v0, dF v1⟩ : F2p), (⟨dF w0, dF w1⟩ : F2p)⟩ : J3 F2p)).z.x), .ws .u64 6 (eF ((⟨(⟨dF u0, dF u1⟩ : F2p), (⟨dF v0, dF v1⟩ : F2p), (⟨dF w0, dF w1⟩ : F2p)⟩ : J3 F2p)).z.y)]))) ?_ (by kernel_rfl)
    exact ⟨zQ_t hz0 hz1 hZZ, endC (cv_cons (nv_d hu0) (cv_cons (nv_d hu1) (cv_cons (nv_d hv0) (cv_cons (nv_d hv1) (cv_cons (nv_d hw0) (cv_cons (nv_d hw1) (cv_nil)))))))⟩
  · by_cases hWW : (⟨dF w0, dF w1⟩ : F2p) = 0
    · have hadd : J3.add (⟨(⟨dF x0, dF x1⟩ : F2p), (⟨dF y0, dF y1⟩ : F2p), (⟨dF z0, dF z1⟩ : F2p)⟩ : J3 F2p) (⟨(⟨dF u0, dF u1⟩ : F2p), (⟨dF v0, dF v1⟩ : F2p), (⟨dF w0, dF w1⟩ : F2p)⟩ : J3 F2p) = (⟨(⟨dF x0, dF x1⟩ : F2p), (⟨dF y0, dF y1⟩ : F2p), (⟨dF z0, dF z1⟩ : F2p)⟩ : J3 F2p) := (if_neg hZZ).trans (if_pos hWW)
      rw [hadd]
      refine evS_q mixed tt_ok GSQ_ok 100 [⟨2,3,.lit (.bo false)⟩,⟨4,3,.lit (.bo true)⟩] ?_
      refine same (p := (eqN W 6 z0 (fun _ => 0) && (eqN W 6 z1 (fun _ => 0) && true)) = false ∧ (eqN W 6 w0 (fun _ => 0) && (eqN W 6 w1 (fun _ => 0) && true)) = true ∧ endN (.v1 (.agg [.ws .u64 6 x0, .ws .u64 6 x1, .ws .u64 6 y0, .ws .u64 6 y1, .ws .u64 6 z0, .ws .u64 6 z1])) (.v1 (.agg [.ws .u64 6 (eF ((⟨(⟨dF x0, dF x1⟩ : F2p), (⟨dF y0, dF y1⟩ : F2p), (⟨dF z0, dF z1⟩ : F2p)⟩ : J3 F2p)).x.x), .ws .u64 6 (eF ((⟨(⟨dF x0, dF x1⟩ : F2p), (⟨dF y0, dF y1⟩ : F2p), (⟨dF z0, dF z1⟩ : F2p)⟩ : J3 F2p)).x.y), .ws .u64 6 (eF ((⟨(⟨dF x0, dF x1⟩ : F2p), (⟨dF y0, dF y1⟩ : F2p), (⟨dF z0, dF z1⟩ : F2p)⟩ : J3 F2p)).y.x), .ws .u64 6 (eF ((⟨(⟨dF x0, dF x1⟩ : F2p), (⟨dF y0, dF y1⟩ : F2p), (⟨dF z0, dF z1⟩ : F2p)⟩ : J3 F2p)).y.y), .ws .u64 6 (eF ((⟨(⟨dF x0, dF x1⟩ : F2p), (⟨dF y0, dF y1⟩ : F2p), (⟨dF z0, dF z1⟩ : F2p)⟩ : J3 F2p)).z.x), .ws .u64 6 (eF ((⟨(⟨dF x0, dF x1⟩ : F2p), (⟨dF y0, dF y1⟩ : F2p), (⟨dF z0, dF z1⟩ : F2p)⟩ : J3 F2p)).z.y)]))) ?_ (by kernel_rfl)
      exact ⟨zQ_f hz0 hz1 hZZ, zQ_t hw0 hw1 hWW, endC (cv_cons (nv_d hx0) (cv_cons (nv_d hx1) (cv_cons (nv_d hy0) (cv_cons (nv_d hy1) (cv_cons (nv_d hz0) (cv_cons (nv_d hz1) (cv_nil)))))))⟩
    · have hadd0 : J3.add (⟨(⟨dF x0, dF x1⟩ : F2p), (⟨dF y0, dF y1⟩ : F2p), (⟨dF z0, dF z1⟩ : F2p)⟩ : J3 F2p) (⟨(⟨dF u0, dF u1⟩ : F2p), (⟨dF v0, dF v1⟩ : F2p), (⟨dF w0, dF w1⟩ : F2p)⟩ : J3 F2p) = if J3.hh (⟨(⟨dF x0, dF x1⟩ : F2p), (⟨dF y0, dF y1⟩ : F2p), (⟨dF z0, dF z1⟩ : F2p)⟩ : J3 F2p) (⟨(⟨dF u0, dF u1⟩ : F2p), (⟨dF v0, dF v1⟩ : F2p), (⟨dF w0, dF w1⟩ : F2p)⟩ : J3 F2p) = 0 then (if J3.rr (⟨(⟨dF x0, dF x1⟩ : F2p), (⟨dF y0, dF y1⟩ : F2p), (⟨dF z0, dF z1⟩ : F2p)⟩ : J3 F2p) (⟨(⟨dF u0, dF u1⟩ : F2p), (⟨dF v0, dF v1⟩ : F2p), (⟨dF w0, dF w1⟩ : F2p)⟩ : J3 F2p) = 0 then J3.dbl (⟨(⟨dF x0, dF x1⟩ : F2p), (⟨dF y0, dF y1⟩ : F2p), (⟨dF z0, dF z1⟩ : F2p)⟩ : J3 F2p) else J3.nil) else J3.gen (⟨(⟨dF x0, dF x1⟩ : F2p), (⟨dF y0, dF y1⟩ : F2p), (⟨dF z0, dF z1⟩ : F2p)⟩ : J3 F2p) (⟨(⟨dF u0, dF u1⟩ : F2p), (⟨dF v0, dF v1⟩ : F2p), (⟨dF w0, dF w1⟩ : F2p)⟩ : J3 F2p) := (if_neg hZZ).trans (if_neg hWW)
      by_cases hh0 : J3.hh (⟨(⟨dF x0, dF x1⟩ : F2p), (⟨dF y0, dF y1⟩ : F2p), (⟨dF z0, dF z1⟩ : F2p)⟩ : J3 F2p) (⟨(⟨dF u0, dF u1⟩ : F2p), (⟨dF v0, dF v1⟩ : F2p), (⟨dF w0, dF w1⟩ : F2p)⟩ : J3 F2p) = 0
      · by_cases hr0 : J3.rr (⟨(⟨dF x0, dF x1⟩ : F2p), (⟨dF y0, dF y1⟩ : F2p), (⟨dF z0, dF z1⟩ : F2p)⟩ : J3 F2p) (⟨(⟨dF u0, dF u1⟩ : F2p), (⟨dF v0, dF v1⟩ : F2p), (⟨dF w0, dF w1⟩ : F2p)⟩ : J3 F2p) = 0
        · have hadd : J3.add (⟨(⟨dF x0, dF x1⟩ : F2p), (⟨dF y0, dF y1⟩ : F2p), (⟨dF z0, dF z1⟩ : F2p)⟩ : J3 F2p) (⟨(⟨dF u0, dF u1⟩ : F2p), (⟨dF v0, dF v1⟩ : F2p), (⟨dF w0, dF w1⟩ : F2p)⟩ : J3 F2p) = J3.dbl (⟨(⟨dF x0, dF x1⟩ : F2p), (⟨dF y0, dF y1⟩ : F2p), (⟨dF z0, dF z1⟩ : F2p)⟩ : J3 F2p) := hadd0.trans ((if_pos hh0).trans (if_pos hr0))
          rw [hadd]
          obtain ⟨t1, ht1⟩ : ∃ q_ : F2p, q_ = (⟨dF z0, dF z1⟩ : F2p) * (⟨dF z0, dF z1⟩ : F2p) := ⟨_, rfl⟩
          obtain ⟨t2, ht2⟩ : ∃ q_ : F2p, q_ = (⟨dF w0, dF w1⟩ : F2p) * (⟨dF w0, dF w1⟩ : F2p) := ⟨_, rfl⟩
          obtain ⟨t3, ht3⟩ : ∃ q_ : F2p, q_ = (⟨dF x0, dF x1⟩ : F2p) * t2 := ⟨_, rfl⟩
          obtain ⟨t4, ht4⟩ : ∃ q_ : F2p, q_ = (⟨dF u0, dF u1⟩ : F2p) * t1 := ⟨_, rfl⟩
          obtain ⟨t5, ht5⟩ : ∃ q_ : F2p, q_ = t2 * (⟨dF w0, dF w1⟩ : F2p) := ⟨_, rfl⟩
          obtain ⟨t6, ht6⟩ : ∃ q_ : F2p, q_ = (⟨dF y0, dF y1⟩ : F2p) * t5 := ⟨_, rfl⟩
          obtain ⟨t7, ht7⟩ : ∃ q_ : F2p, q_ = t1 * (⟨dF z0, dF z1⟩ : F2p) := ⟨_, rfl⟩
          obtain ⟨t8, ht8⟩ : ∃ q_ : F2p, q_ = (⟨dF v0, dF v1⟩ : F2p) * t7 := ⟨_, rfl⟩
          obtain ⟨t9, ht9⟩ : ∃ q_ : F2p, q_ = t4 - t3 := ⟨_, rfl⟩
          obtain ⟨t10, ht10⟩ : ∃ q_ : F2p, q_ = t8 - t6 := ⟨_, rfl⟩
          refine evS_q mixed tt_ok GSQ_ok 200 [⟨2,3,.lit (.bo false)⟩,⟨4,3,.lit (.bo false)⟩,⟨6,6,.as [.ws .u64 6 (eF t1.x), .ws .u64 6 (eF t1.y)]⟩,⟨6,13,.as [.ws .u64 6 (eF t2.x), .ws .u64 6 (eF t2.y)]⟩,⟨7,5,.as [.ws .u64 6 (eF t3.x), .ws .u64 6 (eF t3.y)]⟩,⟨7,11,.as [.ws .u64 6 (eF t4.x), .ws .u64 6 (eF t4.y)]⟩,⟨8,9,.as [.ws .u64 6 (eF t5.x), .ws .u64 6 (eF t5.y)]⟩,⟨8,10,.as [.ws .u64 6 (eF t6.x), .ws .u64 6 (eF t6.y)]⟩,⟨8,20,.as [.ws .u64 6 (eF t7.x), .ws .u64 6 (eF t7.y)]⟩,⟨8,21,.as [.ws .u64 6 (eF t8.x), .ws .u64 6 (eF t8.y)]⟩,⟨9,4,.as [.ws .u64 6 (eF t9.x), .ws .u64 6 (eF t9.y)]⟩,⟨9,9,.as [.ws .u64 6 (eF t10.x), .ws .u64 6 (eF t10.y)]⟩,⟨10,2,.lit (.bo true)⟩,⟨11,2,.lit (.bo true)⟩] ?_
          refine same (p := (eqN W 6 z0 (fun _ => 0) && (eqN W 6 z1 (fun _ => 0) && true)) = false ∧ (eqN W 6 w0 (fun _ => 0) && (eqN W 6 w1 (fun _ => 0) && true)) = false ∧ asP [.ws .u64 6 (eF (mul2x (dF z0) (dF z1) (dF z0) (dF z1))), .ws .u64 6 (eF (mul2y (dF z0) (dF z1) (dF z0) (dF z1)))] [.ws .u64 6 (eF t1.x), .ws .u64 6 (eF t1.y)] ∧ nv z0 < pN ∧ nv z1 < pN ∧ nv z0 < pN ∧ nv z1 < pN ∧ asP [.ws .u64 6 (eF (mul2x (dF w0) (dF w1) (dF w0) (dF w1))), .ws .u64 6 (eF (mul2y (dF w0) (dF w1) (dF w0) (dF w1)))] [.ws .u64 6 (eF t2.x), .ws .u64 6 (eF t2.y)] ∧ nv w0 < pN ∧ nv w1 < pN ∧ nv w0 < pN ∧ nv w1 < pN ∧ asP [.ws .u64 6 (eF (mul2x (dF x0) (dF x1) (dF (eF t2.x)) (dF (eF t2.y)))), .ws .u64 6 (eF (mul2y (dF x0) (dF x1) (dF (eF t2.x)) (dF (eF t2.y))))] [.ws .u64 6 (eF t3.x), .ws .u64 6 (eF t3.y)] ∧ nv x0 < pN ∧ nv x1 < pN ∧ nv (eF t2.x) < pN ∧ nv (eF t2.y) < pN ∧ asP [.ws .u64 6 (eF (mul2x (dF u0) (dF u1) (dF (eF t1.x)) (dF (eF t1.y)))), .ws .u64 6 (eF (mul2y (dF u0) (dF u1) (dF (eF t1.x)) (dF (eF t1.y))))] [.ws .u64 6 (eF t4.x), .ws .u64 6 (eF t4.y)] ∧ nv u0 < pN ∧ nv u1 < pN ∧ nv (eF t1.x) < pN ∧ nv (eF t1.y) < pN ∧ asP [.ws .u64 6 (eF (mul2x (dF (eF t2.x)) (dF (eF t2.y)) (dF w0) (dF w1))), .ws .u64 6 (eF (mul2y (dF (eF t2.x)) (dF (eF t2.y)) (dF w0) (dF w1)))] [.ws .u64 6 (eF t5.x), .ws .u64 6 (eF t5.y)] ∧ nv (eF t2.x) < pN ∧ nv (eF t2.y) < pN ∧ nv w0 < pN ∧ nv w1 < pN ∧ asP [.ws .u64 6 (eF (mul2x (dF y0) (dF y1) (dF (eF t5.x)) (dF (eF t5.y)))), .ws .u64 6 (eF (mul2y (dF y0) (dF y1) (dF (eF t5.x)) (dF (eF t5.y))))] [.ws .u64 6 (eF t6.x), .ws .u64 6 (eF t6.y)] ∧ nv y0 < pN ∧ nv y1 < pN ∧ nv (eF t5.x) < pN ∧ nv (eF t5.y) < pN ∧ asP [.ws .u64 6 (eF (mul2x (dF (eF t1.x)) (dF (eF t1.y)) (dF z0) (dF z1))), .ws .u64 6 (eF (mul2y (dF (eF t1.x)) (dF (eF t1.y)) (dF z0) (dF z1)))] [.ws .u64 6 (eF t7.x), .ws .u64 6 (eF t7.y)] ∧ nv (eF t1.x) < pN ∧ nv (eF t1.y) < pN ∧ nv z0 < pN ∧ nv z1 < pN ∧ asP [.ws .u64 6 (eF (mul2x (dF v0) (dF v1) (dF (eF t7.x)) (dF (eF t7.y)))), .ws .u64 6 (eF (mul2y (dF v0) (dF v1) (dF (eF t7.x)) (dF (eF t7.y))))] [.ws .u64 6 (eF t8.x), .ws .u64 6 (eF t8.y)] ∧ nv v0 < pN ∧ nv v1 < pN ∧ nv (eF t7.x) < pN ∧ nv (eF t7.y) < pN ∧ asP [.ws .u64 6 (eF (sub2x (dF (eF t4.x)) (dF (eF t4.y)) (dF (eF t3.x)) (dF (eF t3.y)))), .ws .u64 6 (eF (sub2y (dF (eF t4.x)) (dF (eF t4.y)) (dF (eF t3.x)) (dF (eF t3.y))))] [.ws .u64 6 (eF t9.x), .ws .u64 6 (eF t9.y)] ∧ nv (eF t4.x) < pN ∧ nv (eF t4.y) < pN ∧ nv (eF t3.x) < pN ∧ nv (eF t3.y) < pN ∧ asP [.ws .u64 6 (eF (sub2x (dF (eF t8.x)) (dF (eF t8.y)) (dF (eF t6.x)) (dF (eF t6.y)))), .ws .u64 6 (eF (sub2y (dF (eF t8.x)) (dF (eF t8.y)) (dF (eF t6.x)) (dF (eF t6.y))))] [.ws .u64 6 (eF t10.x), .ws .u64 6 (eF t10.y)] ∧ nv (eF t8.x) < pN ∧ nv (eF t8.y) < pN ∧ nv (eF t6.x) < pN ∧ nv (eF t6.y) < pN ∧ (eqN W 6 (eF t9.x) (fun _ => 0) && (eqN W 6 (eF t9.y) (fun _ => 0) && true)) = true ∧ (eqN W 6 (eF t10.x) (fun _ => 0) && (eqN W 6 (eF t10.y) (fun _ => 0) && true)) = true ∧ fdQ = fdQ ∧ nv x0 < pN ∧ nv x1 < pN ∧ nv y0 < pN ∧ nv y1 < pN ∧ nv z0 < pN ∧ nv z1 < pN ∧ endN (.v1 (.agg [.ws .u64 6 (eF (J3.dbl (⟨(⟨dF x0, dF x1⟩ : F2p), (⟨dF y0, dF y1⟩ : F2p), (⟨dF z0, dF z1⟩ : F2p)⟩ : J3 F2p)).x.x), .ws .u64 6 (eF (J3.dbl (⟨(⟨dF x0, dF x1⟩ : F2p), (⟨dF y0, dF y1⟩ : F2p), (⟨dF z0, dF z1⟩ : F2p)⟩ : J3 F2p)).x.y), .ws .u64 6 (eF (J3.dbl (⟨(⟨dF x0, dF x1⟩ : F2p), (⟨dF y0, dF y1⟩ : F2p), (⟨dF z0, dF z1⟩ : F2p)⟩ : J3 F2p)).y.x), .ws .u64 6 (eF (J3.dbl (⟨(⟨dF x0, dF x1⟩ : F2p), (⟨dF y0, dF y1⟩ : F2p), (⟨dF z0, dF z1⟩ : F2p)⟩ : J3 F2p)).y.y), .ws .u64 6 (eF (J3.dbl (⟨(⟨dF x0, dF x1⟩ : F2p), (⟨dF y0, dF y1⟩ : F2p), (⟨dF z0, dF z1⟩ : F2p)⟩ : J3 F2p)).z.x), .ws .u64 6 (eF (J3.dbl (⟨(⟨dF x0, dF x1⟩ : F2p), (⟨dF y0, dF y1⟩ : F2p), (⟨dF z0, dF z1⟩ : F2p)⟩ : J3 F2p)).z.y)])) (.v1 (.agg [.ws .u64 6 (eF (J3.dbl (⟨(⟨dF x0, dF x1⟩ : F2p), (⟨dF y0, dF y1⟩ : F2p), (⟨dF z0, dF z1⟩ : F2p)⟩ : J3 F2p)).x.x), .ws .u64 6 (eF (J3.dbl (⟨(⟨dF x0, dF x1⟩ : F2p), (⟨dF y0, dF y1⟩ : F2p), (⟨dF z0, dF z1⟩ : F2p)⟩ : J3 F2p)).x.y), .ws .u64 6 (eF (J3.dbl (⟨(⟨dF x0, dF x1⟩ : F2p), (⟨dF y0, dF y1⟩ : F2p), (⟨dF z0, dF z1⟩ : F2p)⟩ : J3 F2p)).y.x), .ws .u64 6 (eF (J3.dbl (⟨(⟨dF x0, dF x1⟩ : F2p), (⟨dF y0, dF y1⟩ : F2p), (⟨dF z0, dF z1⟩ : F2p)⟩ : J3 F2p)).y.y), .ws .u64 6 (eF (J3.dbl (⟨(⟨dF x0, dF x1⟩ : F2p), (⟨dF y0, dF y1⟩ : F2p), (⟨dF z0, dF z1⟩ : F2p)⟩ : J3 F2p)).z.x), .ws .u64 6 (eF (J3.dbl (⟨(⟨dF x0, dF x1⟩ : F2p), (⟨dF y0, dF y1⟩ : F2p), (⟨dF z0, dF z1⟩ : F2p)⟩ : J3 F2p)).z.y)]))) ?_ (by kernel_rfl)
          exact ⟨zQ_f hz0 hz1 hZZ, zQ_f hw0 hw1 hWW, as_mulQ rfl rfl rfl rfl ht1, hz0, hz1, hz0, hz1, as_mulQ rfl rfl rfl rfl ht2, hw0, hw1, hw0, hw1, as_mulQ rfl rfl (dF_eF _) (dF_eF _) ht3, hx0, hx1, lt_eF _, lt_eF _, as_mulQ rfl rfl (dF_eF _) (dF_eF _) ht4, hu0, hu1, lt_eF _, lt_eF _, as_mulQ (dF_eF _) (dF_eF _) rfl rfl ht5, lt_eF _, lt_eF _, hw0, hw1, as_mulQ rfl rfl (dF_eF _) (dF_eF _) ht6, hy0, hy1, lt_eF _, lt_eF _, as_mulQ (dF_eF _) (dF_eF _) rfl rfl ht7, lt_eF _, lt_eF _, hz0, hz1, as_mulQ rfl rfl (dF_eF _) (dF_eF _) ht8, hv0, hv1, lt_eF _, lt_eF _, as_subQ (dF_eF _) (dF_eF _) (dF_eF _) (dF_eF _) ht9, lt_eF _, lt_eF _, lt_eF _, lt_eF _, as_subQ (dF_eF _) (dF_eF _) (dF_eF _) (dF_eF _) ht10, lt_eF _, lt_eF _, lt_eF _, lt_eF _, zQ_t (lt_eF _) (lt_eF _) (by rw [dF_eF, dF_eF]; subst ht10 ht9 ht8 ht7 ht6 ht5 ht4 ht3 ht2 ht1; exact hh0), zQ_t (lt_eF _) (lt_eF _) (by rw [dF_eF, dF_eF]; subst ht10 ht9 ht8 ht7 ht6 ht5 ht4 ht3 ht2 ht1; exact hr0), rfl, hx0, hx1, hy0, hy1, hz0, hz1, _, rfl, fun _ => rfl⟩
        · have hadd : J3.add (⟨(⟨dF x0, dF x1⟩ : F2p), (⟨dF y0, dF y1⟩ : F2p), (⟨dF z0, dF z1⟩ : F2p)⟩ : J3 F2p) (⟨(⟨dF u0, dF u1⟩ : F2p), (⟨dF v0, dF v1⟩ : F2p), (⟨dF w0, dF w1⟩ : F2p)⟩ : J3 F2p) = J3.nil := hadd0.trans ((if_pos hh0).trans (if_neg hr0))
          rw [hadd, nilQ]
          obtain ⟨t1, ht1⟩ : ∃ q_ : F2p, q_ = (⟨dF z0, dF z1⟩ : F2p) * (⟨dF z0, dF z1⟩ : F2p) := ⟨_, rfl⟩
          obtain ⟨t2, ht2⟩ : ∃ q_ : F2p, q_ = (⟨dF w0, dF w1⟩ : F2p) * (⟨dF w0, dF w1⟩ : F2p) := ⟨_, rfl⟩
          obtain ⟨t3, ht3⟩ : ∃ q_ : F2p, q_ = (⟨dF x0, dF x1⟩ : F2p) * t2 := ⟨_, rfl⟩
          obtain ⟨t4, ht4⟩ : ∃ q_ : F2p, q_ = (⟨dF u0, dF u1⟩ : F2p) * t1 := ⟨_, rfl⟩
          obtain ⟨t5, ht5⟩ : ∃ q_ : F2p, q_ = t2 * (⟨dF w0, dF w1⟩ : F2p) := ⟨_, rfl⟩
          obtain ⟨t6, ht6⟩ : ∃ q_ : F2p, q_ = (⟨dF y0, dF y1⟩ : F2p) * t5 := ⟨_, rfl⟩
          obtain ⟨t7, ht7⟩ : ∃ q_ : F2p, q_ = t1 * (⟨dF z0, dF z1⟩ : F2p) := ⟨_, rfl⟩
          obtain ⟨t8, ht8⟩ : ∃ q_ : F2p, q_ = (⟨dF v0, dF v1⟩ : F2p) * t7 := ⟨_, rfl⟩
          obtain ⟨t9, ht9⟩ : ∃ q_ : F2p, q_ = t4 - t3 := ⟨_, rfl⟩
          obtain ⟨t10, ht10⟩ : ∃ q_ : F2p, q_ = t8 - t6 := ⟨_, rfl⟩
          refine evS_q mixed tt_ok GSQ_ok 200 [⟨2,3,.lit (.bo false)⟩,⟨4,3,.lit (.bo false)⟩,⟨6,6,.as [.ws .u64 6 (eF t1.x), .ws .u64 6 (eF t1.y)]⟩,⟨6,13,.as [.ws .u64 6 (eF t2.x), .ws .u64 6 (eF t2.y)]⟩,⟨7,5,.as [.ws .u64 6 (eF t3.x), .ws .u64 6 (eF t3.y)]⟩,⟨7,11,.as [.ws .u64 6 (eF t4.x), .ws .u64 6 (eF t4.y)]⟩,⟨8,9,.as [.ws .u64 6 (eF t5.x), .ws .u64 6 (eF t5.y)]⟩,⟨8,10,.as [.ws .u64 6 (eF t6.x), .ws .u64 6 (eF t6.y)]⟩,⟨8,20,.as [.ws .u64 6 (eF t7.x), .ws .u64 6 (eF t7.y)]⟩,⟨8,21,.as [.ws .u64 6 (eF t8.x), .ws .u64 6 (eF t8.y)]⟩,⟨9,4,.as [.ws .u64 6 (eF t9.x), .ws .u64 6 (eF t9.y)]⟩,⟨9,9,.as [.ws .u64 6 (eF t10.x), .ws .u64 6 (eF t10.y)]⟩,⟨10,2,.lit (.bo true)⟩,⟨11,2,.lit (.bo false)⟩] ?_
          refine same (p := (eqN W 6 z0 (fun _ => 0) && (eqN W 6 z1 (fun _ => 0) && true)) = false ∧ (eqN W 6 w0 (fun _ => 0) && (eqN W 6 w1 (fun _ => 0) && true)) = false ∧ asP [.ws .u64 6 (eF (mul2x (dF z0) (dF z1) (dF z0) (dF z1))), .ws .u64 6 (eF (mul2y (dF z0) (dF z1) (dF z0) (dF z1)))] [.ws .u64 6 (eF t1.x), .ws .u64 6 (eF t1.y)] ∧ nv z0 < pN ∧ nv z1 < pN ∧ nv z0 < pN ∧ nv z1 < pN ∧ asP [.ws .u64 6 (eF (mul2x (dF w0) (dF w1) (dF w0) (dF w1))), .ws .u64 6 (eF (mul2y (dF w0) (dF w1) (dF w0) (dF w1)))] [.ws .u64 6 (eF t2.x), .ws .u64 6 (eF t2.y)] ∧ nv w0 < pN ∧ nv w1 < pN ∧ nv w0 < pN ∧ nv w1 < pN ∧ asP [.ws .u64 6 (eF (mul2x (dF x0) (dF x1) (dF (eF t2.x)) (dF (eF t2.y)))), .ws .u64 6 (eF (mul2y (dF x0) (dF x1) (dF (eF t2.x)) (dF (eF t2.y))))] [.ws .u64 6 (eF t3.x), .ws .u64 6 (eF t3.y)] ∧ nv x0 < pN ∧ nv x1 < pN ∧ nv (eF t2.x) < pN ∧ nv (eF t2.y) < pN ∧ asP [.ws .u64 6 (eF (mul2x (dF u0) (dF u1) (dF (eF t1.x)) (dF (eF t1.y)))), .ws .u64 6 (eF (mul2y (dF u0) (dF u1) (dF (eF t1.x)) (dF (eF t1.y))))] [.ws .u64 6 (eF t4.x), .ws .u64 6 (eF t4.y)] ∧ nv u0 < pN ∧ nv u1 < pN ∧ nv (eF t1.x) < pN ∧ nv (eF t1.y) < pN ∧ asP [.ws .u64 6 (eF (mul2x (dF (eF t2.x)) (dF (eF t2.y)) (dF w0) (dF w1))), .ws .u64 6 (eF (mul2y (dF (eF t2.x)) (dF (eF t2.y)) (dF w0) (dF w1)))] [.ws .u64 6 (eF t5.x), .ws .u64 6 (eF t5.y)] ∧ nv (eF t2.x) < pN ∧ nv (eF t2.y) < pN ∧ nv w0 < pN ∧ nv w1 < pN ∧ asP [.ws .u64 6 (eF (mul2x (dF y0) (dF y1) (dF (eF t5.x)) (dF (eF t5.y)))), .ws .u64 6 (eF (mul2y (dF y0) (dF y1) (dF (eF t5.x)) (dF (eF t5.y))))] [.ws .u64 6 (eF t6.x), .ws .u64 6 (eF t6.y)] ∧ nv y0 < pN ∧ nv y1 < pN ∧ nv (eF t5.x) < pN ∧ nv (eF t5.y) < pN ∧ asP [.ws .u64 6 (eF (mul2x (dF (eF t1.x)) (dF (eF t1.y)) (dF z0) (dF z1))), .ws .u64 6 (eF (mul2y (dF (eF t1.x)) (dF (eF t1.y)) (dF z0) (dF z1)))] [.ws .u64 6 (eF t7.x), .ws .u64 6 (eF t7.y)] ∧ nv (eF t1.x) < pN ∧ nv (eF t1.y) < pN ∧ nv z0 < pN ∧ nv z1 < pN ∧ asP [.ws .u64 6 (eF (mul2x (dF v0) (dF v1) (dF (eF t7.x)) (dF (eF t7.y)))), .ws .u64 6 (eF (mul2y (dF v0) (dF v1) (dF (eF t7.x)) (dF (eF t7.y))))] [.ws .u64 6 (eF t8.x), .ws .u64 6 (eF t8.y)] ∧ nv v0 < pN ∧ nv v1 < pN ∧ nv (eF t7.x) < pN ∧ nv (eF t7.y) < pN ∧ asP [.ws .u64 6 (eF (sub2x (dF (eF t4.x)) (dF (eF t4.y)) (dF (eF t3.x)) (dF (eF t3.y)))), .ws .u64 6 (eF (sub2y (dF (eF t4.x)) (dF (eF t4.y)) (dF (eF t3.x)) (dF (eF t3.y))))] [.ws .u64 6 (eF t9.x), .ws .u64 6 (eF t9.y)] ∧ nv (eF t4.x) < pN ∧ nv (eF t4.y) < pN ∧ nv (eF t3.x) < pN ∧ nv (eF t3.y) < pN ∧ asP [.ws .u64 6 (eF (sub2x (dF (eF t8.x)) (dF (eF t8.y)) (dF (eF t6.x)) (dF (eF t6.y)))), .ws .u64 6 (eF (sub2y (dF (eF t8.x)) (dF (eF t8.y)) (dF (eF t6.x)) (dF (eF t6.y))))] [.ws .u64 6 (eF t10.x), .ws .u64 6 (eF t10.y)] ∧ nv (eF t8.x) < pN ∧ nv (eF t8.y) < pN ∧ nv (eF t6.x) < pN ∧ nv (eF t6.y) < pN ∧ (eqN W 6 (eF t9.x) (fun _ => 0) && (eqN W 6 (eF t9.y) (fun _ => 0) && true)) = true ∧ (eqN W 6 (eF t10.x) (fun _ => 0) && (eqN W 6 (eF t10.y) (fun _ => 0) && true)) = false ∧ endN (.v1 (.agg [.ws .u64 6 oneF, .ws .u64 6 (fun _ => 0), .ws .u64 6 oneF, .ws .u64 6 (fun _ => 0), .ws .u64 6 (fun _ => 0), .ws .u64 6 (fun _ => 0)])) (.v1 (.agg [.ws .u64 6 (eF ((⟨1, 1, 0⟩ : J3 F2p)).x.x), .ws .u64 6 (eF ((⟨1, 1, 0⟩ : J3 F2p)).x.y), .ws .u64 6 (eF ((⟨1, 1, 0⟩ : J3 F2p)).y.x), .ws .u64 6 (eF ((⟨1, 1, 0⟩ : J3 F2p)).y.y), .ws .u64 6 (eF ((⟨1, 1, 0⟩ : J3 F2p)).z.x), .ws .u64 6 (eF ((⟨1, 1, 0⟩ : J3 F2p)).z.y)]))) ?_ (by kernel_rfl)
          exact ⟨zQ_f hz0 hz1 hZZ, zQ_f hw0 hw1 hWW, as_mulQ rfl rfl rfl rfl ht1, hz0, hz1, hz0, hz1, as_mulQ rfl rfl rfl rfl ht2, hw0, hw1, hw0, hw1, as_mulQ rfl rfl (dF_eF _) (dF_eF _) ht3, hx0, hx1, lt_eF _, lt_eF _, as_mulQ rfl rfl (dF_eF _) (dF_eF _) ht4, hu0, hu1, lt_eF _, lt_eF _, as_mulQ (dF_eF _) (dF_eF _) rfl rfl ht5, lt_eF _, lt_eF _, hw0, hw1, as_mulQ rfl rfl (dF_eF _) (dF_eF _) ht6, hy0, hy1, lt_eF _, lt_eF _, as_mulQ (dF_eF _) (dF_eF _) rfl rfl ht7, lt_eF _, lt_eF _, hz0, hz1, as_mulQ rfl rfl (dF_eF _) (dF_eF _) ht8, hv0, hv1, lt_eF _, lt_eF _, as_subQ (dF_eF _) (dF_eF _) (dF_eF _) (dF_eF _) ht9, lt_eF _, lt_eF _, lt_eF _, lt_eF _, as_subQ (dF_eF _) (dF_eF _) (dF_eF _) (dF_eF _) ht10, lt_eF _, lt_eF _, lt_eF _, lt_eF _, zQ_t (lt_eF _) (lt_eF _) (by rw [dF_eF, dF_eF]; subst ht10 ht9 ht8 ht7 ht6 ht5 ht4 ht3 ht2 ht1; exact hh0), zQ_f (lt_eF _) (lt_eF _) (by rw [dF_eF, dF_eF]; subst ht10 ht9 ht8 ht7 ht6 ht5 ht4 ht3 ht2 ht1; exact hr0), endC (cv_cons q1x (cv_cons q1y (cv_cons q1x (cv_cons q1y (cv_cons q0x (cv_cons q0y (cv_nil)))))))⟩
      · have hadd : J3.add (⟨(⟨dF x0, dF x1⟩ : F2p), (⟨dF y0, dF y1⟩ : F2p), (⟨dF z0, dF z1⟩ : F2p)⟩ : J3 F2p) (⟨(⟨dF u0, dF u1⟩ : F2p), (⟨dF v0, dF v1⟩ : F2p), (⟨dF w0, dF w1⟩ : F2p)⟩ : J3 F2p) = J3.gen (⟨(⟨dF x0, dF x1⟩ : F2p), (⟨dF y0, dF y1⟩ : F2p), (⟨dF z0, dF z1⟩ : F2p)⟩ : J3 F2p) (⟨(⟨dF u0, dF u1⟩ : F2p), (⟨dF v0, dF v1⟩ : F2p), (⟨dF w0, dF w1⟩ : F2p)⟩ : J3 F2p) := hadd0.trans (if_neg hh0)
        rw [hadd]
        obtain ⟨t1, ht1⟩ : ∃ q_ : F2p, q_ = (⟨dF z0, dF z1⟩ : F2p) * (⟨dF z0, dF z1⟩ : F2p) := ⟨_, rfl⟩
        obtain ⟨t2, ht2⟩ : ∃ q_ : F2p, q_ = (⟨dF w0, dF w1⟩ : F2p) * (⟨dF w0, dF w1⟩ : F2p) := ⟨_, rfl⟩
        obtain ⟨t3, ht3⟩ : ∃ q_ : F2p, q_ = (⟨dF x0, dF x1⟩ : F2p) * t2 := ⟨_, rfl⟩
        obtain ⟨t4, ht4⟩ : ∃ q_ : F2p, q_ = (⟨dF u0, dF u1⟩ : F2p) * t1 := ⟨_, rfl⟩
        obtain ⟨t5, ht5⟩ : ∃ q_ : F2p, q_ = t2 * (⟨dF w0, dF w1⟩ : F2p) := ⟨_, rfl⟩
        obtain ⟨t6, ht6⟩ : ∃ q_ : F2p, q_ = (⟨dF y0, dF y1⟩ : F2p) * t5 := ⟨_, rfl⟩
        obtain ⟨t7, ht7⟩ : ∃ q_ : F2p, q_ = t1 * (⟨dF z0, dF z1⟩ : F2p) := ⟨_, rfl⟩
        obtain ⟨t8, ht8⟩ : ∃ q_ : F2p, q_ = (⟨dF v0, dF v1⟩ : F2p) * t7 := ⟨_, rfl⟩
        obtain ⟨t9, ht9⟩ : ∃ q_ : F2p, q_ = t4 - t3 := ⟨_, rfl⟩
        obtain ⟨t10, ht10⟩ : ∃ q_ : F2p, q_ = t8 - t6 := ⟨_, rfl⟩
        obtain ⟨t11, ht11⟩ : ∃ q_ : F2p, q_ = t9 * t9 := ⟨_, rfl⟩
        obtain ⟨t12, ht12⟩ : ∃ q_ : F2p, q_ = t11 * t9 := ⟨_, rfl⟩
        obtain ⟨t13, ht13⟩ : ∃ q_ : F2p, q_ = t3 * t11 := ⟨_, rfl⟩
        obtain ⟨t14, ht14⟩ : ∃ q_ : F2p, q_ = t10 * t10 := ⟨_, rfl⟩
        obtain ⟨t15, ht15⟩ : ∃ q_ : F2p, q_ = t14 - t12 := ⟨_, rfl⟩
        obtain ⟨t16, ht16⟩ : ∃ q_ : F2p, q_ = t13 + t13 := ⟨_, rfl⟩
        obtain ⟨t17, ht17⟩ : ∃ q_ : F2p, q_ = t15 - t16 := ⟨_, rfl⟩
        obtain ⟨t18, ht18⟩ : ∃ q_ : F2p, q_ = t13 - t17 := ⟨_, rfl⟩
        obtain ⟨t19, ht19⟩ : ∃ q_ : F2p, q_ = t10 * t18 := ⟨_, rfl⟩
        obtain ⟨t20, ht20⟩ : ∃ q_ : F2p, q_ = t6 * t12 := ⟨_, rfl⟩
        obtain ⟨t21, ht21⟩ : ∃ q_ : F2p, q_ = t19 - t20 := ⟨_, rfl⟩
        obtain ⟨t22, ht22⟩ : ∃ q_ : F2p, q_ = (⟨dF z0, dF z1⟩ : F2p) * (⟨dF w0, dF w1⟩ : F2p) := ⟨_, rfl⟩
        obtain ⟨t23, ht23⟩ : ∃ q_ : F2p, q_ = t9 * t22 := ⟨_, rfl⟩
        refine evS_q mixed tt_ok GSQ_ok 300 [⟨2,3,.lit (.bo false)⟩,⟨4,3,.lit (.bo false)⟩,⟨6,6,.as [.ws .u64 6 (eF t1.x), .ws .u64 6 (eF t1.y)]⟩,⟨6,13,.as [.ws .u64 6 (eF t2.x), .ws .u64 6 (eF t2.y)]⟩,⟨7,5,.as [.ws .u64 6 (eF t3.x), .ws .u64 6 (eF t3.y)]⟩,⟨7,11,.as [.ws .u64 6 (eF t4.x), .ws .u64 6 (eF t4.y)]⟩,⟨8,9,.as [.ws .u64 6 (eF t5.x), .ws .u64 6 (eF t5.y)]⟩,⟨8,10,.as [.ws .u64 6 (eF t6.x), .ws .u64 6 (eF t6.y)]⟩,⟨8,20,.as [.ws .u64 6 (eF t7.x), .ws .u64 6 (eF t7.y)]⟩,⟨8,21,.as [.ws .u64 6 (eF t8.x), .ws .u64 6 (eF t8.y)]⟩,⟨9,4,.as [.ws .u64 6 (eF t9.x), .ws .u64 6 (eF t9.y)]⟩,⟨9,9,.as [.ws .u64 6 (eF t10.x), .ws .u64 6 (eF t10.y)]⟩,⟨10,2,.lit (.bo false)⟩,⟨14,4,.as [.ws .u64 6 (eF t11.x), .ws .u64 6 (eF t11.y)]⟩,⟨15,4,.as [.ws .u64 6 (eF t12.x), .ws .u64 6 (eF t12.y)]⟩,⟨16,4,.as [.ws .u64 6 (eF t13.x), .ws .u64 6 (eF t13.y)]⟩,⟨17,8,.as [.ws .u64 6 (eF t14.x), .ws .u64 6 (eF t14.y)]⟩,⟨17,10,.as [.ws .u64 6 (eF t15.x), .ws .u64 6 (eF t15.y)]⟩,⟨17,15,.as [.ws .u64 6 (eF t16.x), .ws .u64 6 (eF t16.y)]⟩,⟨17,16,.as [.ws .u64 6 (eF t17.x), .ws .u64 6 (eF t17.y)]⟩,⟨18,10,.as [.ws .u64 6 (eF t18.x), .ws .u64 6 (eF t18.y)]⟩,⟨18,11,.as [.ws .u64 6 (eF t19.x), .ws .u64 6 (eF t19.y)]⟩,⟨18,16,.as [.ws .u64 6 (eF t20.x), .ws .u64 6 (eF t20.y)]⟩,⟨18,17,.as [.ws .u64 6 (eF t21.x), .ws .u64 6 (eF t21.y)]⟩,⟨18,27,.as [.ws .u64 6 (eF t22.x), .ws .u64 6 (eF t22.y)]⟩,⟨18,28,.as [.ws .u64 6 (eF t23.x), .ws .u64 6 (eF t23.y)]⟩] ?_
        refine same (p := (eqN W 6 z0 (fun _ => 0) && (eqN W 6 z1 (fun _ => 0) && true)) = false ∧ (eqN W 6 w0 (fun _ => 0) && (eqN W 6 w1 (fun _ => 0) && true)) = false ∧ asP [.ws .u64 6 (eF (mul2x (dF z0) (dF z1) (dF z0) (dF z1))), .ws .u64 6 (eF (mul2y (dF z0) (dF z1) (dF z0) (dF z1)))] [.ws .u64 6 (eF t1.x), .ws .u64 6 (eF t1.y)] ∧ nv z0 < pN ∧ nv z1 < pN ∧ nv z0 < pN ∧ nv z1 < pN ∧ asP [.ws .u64 6 (eF (mul2x (dF w0) (dF w1) (dF w0) (dF w1))), .ws .u64 6 (eF (mul2y (dF w0) (dF w1) (dF w0) (dF w1)))] [.ws .u64 6 (eF t2.x), .ws .u64 6 (eF t2.y)] ∧ nv w0 < pN ∧ nv w1 < pN ∧ nv w0 < pN ∧ nv w1 < pN ∧ asP [.ws .u64 6 (eF (mul2x (dF x0) (dF x1) (dF (eF t2.x)) (dF (eF t2.y)))), .ws .u64 6 (eF (mul2y (dF x0) (dF x1) (dF (eF t2.x)) (dF (eF t2.y))))] [.ws .u64 6 (eF t3.x), .ws .u64 6 (eF t3.y)] ∧ nv x0 < pN ∧ nv x1 < pN ∧ nv (eF t2.x) < pN ∧ nv (eF t2.y) < pN ∧ asP [.ws .u64 6 (eF (mul2x (dF u0) (dF u1) (dF (eF t1.x)) (dF (eF t1.y)))), .ws .u64 6 (eF (mul2y (dF u0) (dF u1) (dF (eF t1.x)) (dF (eF t1.y))))] [.ws .u64 6 (eF t4.x), .ws .u64 6 (eF t4.y)] ∧ nv u0 < pN ∧ nv u1 < pN ∧ nv (eF t1.x) < pN ∧ nv (eF t1.y) < pN ∧ asP [.ws .u64 6 (eF (mul2x (dF (eF t2.x)) (dF (eF t2.y)) (dF w0) (dF w1))), .ws .u64 6 (eF (mul2y (dF (eF t2.x)) (dF (eF t2.y)) (dF w0) (dF w1)))] [.ws .u64 6 (eF t5.x), .ws .u64 6 (eF t5.y)] ∧ nv (eF t2.x) < pN ∧ nv (eF t2.y) < pN ∧ nv w0 < pN ∧ nv w1 < pN ∧ asP [.ws .u64 6 (eF (mul2x (dF y0) (dF y1) (dF (eF t5.x)) (dF (eF t5.y)))), .ws .u64 6 (eF (mul2y (dF y0) (dF y1) (dF (eF t5.x)) (dF (eF t5.y))))] [.ws .u64 6 (eF t6.x), .ws .u64 6 (eF t6.y)] ∧ nv y0 < pN ∧ nv y1 < pN ∧ nv (eF t5.x) < pN ∧ nv (eF t5.y) < pN ∧ asP [.ws .u64 6 (eF (mul2x (dF (eF t1.x)) (dF (eF t1.y)) (dF z0) (dF z1))), .ws .u64 6 (eF (mul2y (dF (eF t1.x)) (dF (eF t1.y)) (dF z0) (dF z1)))] [.ws .u64 6 (eF t7.x), .ws .u64 6 (eF t7.y)] ∧ nv (eF t1.x) < pN ∧ nv (eF t1.y) < pN ∧ nv z0 < pN ∧ nv z1 < pN ∧ asP [.ws .u64 6 (eF (mul2x (dF v0) (dF v1) (dF (eF t7.x)) (dF (eF t7.y)))), .ws .u64 6 (eF (mul2y (dF v0) (dF v1) (dF (eF t7.x)) (dF (eF t7.y))))] [.ws .u64 6 (eF t8.x), .ws .u64 6 (eF t8.y)] ∧ nv v0 < pN ∧ nv v1 < pN ∧ nv (eF t7.x) < pN ∧ nv (eF t7.y) < pN ∧ asP [.ws .u64 6 (eF (sub2x (dF (eF t4.x)) (dF (eF t4.y)) (dF (eF t3.x)) (dF (eF t3.y)))), .ws .u64 6 (eF (sub2y (dF (eF t4.x)) (dF (eF t4.y)) (dF (eF t3.x)) (dF (eF t3.y))))] [.ws .u64 6 (eF t9.x), .ws .u64 6 (eF t9.y)] ∧ nv (eF t4.x) < pN ∧ nv (eF t4.y) < pN ∧ nv (eF t3.x) < pN ∧ nv (eF t3.y) < pN ∧ asP [.ws .u64 6 (eF (sub2x (dF (eF t8.x)) (dF (eF t8.y)) (dF (eF t6.x)) (dF (eF t6.y)))), .ws .u64 6 (eF (sub2y (dF (eF t8.x)) (dF (eF t8.y)) (dF (eF t6.x)) (dF (eF t6.y))))] [.ws .u64 6 (eF t10.x), .ws .u64 6 (eF t10.y)] ∧ nv (eF t8.x) < pN ∧ nv (eF t8.y) < pN ∧ nv (eF t6.x) < pN ∧ nv (eF t6.y) < pN ∧ (eqN W 6 (eF t9.x) (fun _ => 0) && (eqN W 6 (eF t9.y) (fun _ => 0) && true)) = false ∧ asP [.ws .u64 6 (eF (mul2x (dF (eF t9.x)) (dF (eF t9.y)) (dF (eF t9.x)) (dF (eF t9.y)))), .ws .u64 6 (eF (mul2y (dF (eF t9.x)) (dF (eF t9.y)) (dF (eF t9.x)) (dF (eF t9.y))))] [.ws .u64 6 (eF t11.x), .ws .u64 6 (eF t11.y)] ∧ nv (eF t9.x) < pN ∧ nv (eF t9.y) < pN ∧ nv (eF t9.x) < pN ∧ nv (eF t9.y) < pN ∧ asP [.ws .u64 6 (eF (mul2x (dF (eF t11.x)) (dF (eF t11.y)) (dF (eF t9.x)) (dF (eF t9.y)))), .ws .u64 6 (eF (mul2y (dF (eF t11.x)) (dF (eF t11.y)) (dF (eF t9.x)) (dF (eF t9.y))))] [.ws .u64 6 (eF t12.x), .ws .u64 6 (eF t12.y)] ∧ nv (eF t11.x) < pN ∧ nv (eF t11.y) < pN ∧ nv (eF t9.x) < pN ∧ nv (eF t9.y) < pN ∧ asP [.ws .u64 6 (eF (mul2x (dF (eF t3.x)) (dF (eF t3.y)) (dF (eF t11.x)) (dF (eF t11.y)))), .ws .u64 6 (eF (mul2y (dF (eF t3.x)) (dF (eF t3.y)) (dF (eF t11.x)) (dF (eF t11.y))))] [.ws .u64 6 (eF t13.x), .ws .u64 6 (eF t13.y)] ∧ nv (eF t3.x) < pN ∧ nv (eF t3.y) < pN ∧ nv (eF t11.x) < pN ∧ nv (eF t11.y) < pN ∧ asP [.ws .u64 6 (eF (mul2x (dF (eF t10.x)) (dF (eF t10.y)) (dF (eF t10.x)) (dF (eF t10.y)))), .ws .u64 6 (eF (mul2y (dF (eF t10.x)) (dF (eF t10.y)) (dF (eF t10.x)) (dF (eF t10.y))))] [.ws .u64 6 (eF t14.x), .ws .u64 6 (eF t14.y)] ∧ nv (eF t10.x) < pN ∧ nv (eF t10.y) < pN ∧ nv (eF t10.x) < pN ∧ nv (eF t10.y) < pN ∧ asP [.ws .u64 6 (eF (sub2x (dF (eF t14.x)) (dF (eF t14.y)) (dF (eF t12.x)) (dF (eF t12.y)))), .ws .u64 6 (eF (sub2y (dF (eF t14.x)) (dF (eF t14.y)) (dF (eF t12.x)) (dF (eF t12.y))))] [.ws .u64 6 (eF t15.x), .ws .u64 6 (eF t15.y)] ∧ nv (eF t14.x) < pN ∧ nv (eF t14.y) < pN ∧ nv (eF t12.x) < pN ∧ nv (eF t12.y) < pN ∧ asP [.ws .u64 6 (eF (add2x (dF (eF t13.x)) (dF (eF t13.y)) (dF (eF t13.x)) (dF (eF t13.y)))), .ws .u64 6 (eF (add2y (dF (eF t13.x)) (dF (eF t13.y)) (dF (eF t13.x)) (dF (eF t13.y))))] [.ws .u64 6 (eF t16.x), .ws .u64 6 (eF t16.y)] ∧ nv (eF t13.x) < pN ∧ nv (eF t13.y) < pN ∧ nv (eF t13.x) < pN ∧ nv (eF t13.y) < pN ∧ asP [.ws .u64 6 (eF (sub2x (dF (eF t15.x)) (dF (eF t15.y)) (dF (eF t16.x)) (dF (eF t16.y)))), .ws .u64 6 (eF (sub2y (dF (eF t15.x)) (dF (eF t15.y)) (dF (eF t16.x)) (dF (eF t16.y))))] [.ws .u64 6 (eF t17.x), .ws .u64 6 (eF t17.y)] ∧ nv (eF t15.x) < pN ∧ nv (eF t15.y) < pN ∧ nv (eF t16.x) < pN ∧ nv (eF t16.y) < pN ∧ asP [.ws .u64 6 (eF (sub2x (dF (eF t13.x)) (dF (eF t13.y)) (dF (eF t17.x)) (dF (eF t17.y)))), .ws .u64 6 (eF (sub2y (dF (eF t13.x)) (dF (eF t13.y)) (dF (eF t17.x)) (dF (eF t17.y))))] [.ws .u64 6 (eF t18.x), .ws .u64 6 (eF t18.y)] ∧ nv (eF t13.x) < pN ∧ nv (eF t13.y) < pN ∧ nv (eF t17.x) < pN ∧ nv (eF t17.y) < pN ∧ asP [.ws .u64 6 (eF (mul2x (dF (eF t10.x)) (dF (eF t10.y)) (dF (eF t18.x)) (dF (eF t18.y)))), .ws .u64 6 (eF (mul2y (dF (eF t10.x)) (dF (eF t10.y)) (dF (eF t18.x)) (dF (eF t18.y))))] [.ws .u64 6 (eF t19.x), .ws .u64 6 (eF t19.y)] ∧ nv (eF t10.x) < pN ∧ nv (eF t10.y) < pN ∧ nv (eF t18.x) < pN ∧ nv (eF t18.y) < pN ∧ asP [.ws .u64 6 (eF (mul2x (dF (eF t6.x)) (dF (eF t6.y)) (dF (eF t12.x)) (dF (eF t12.y)))), .ws .u64 6 (eF (mul2y (dF (eF t6.x)) (dF (eF t6.y)) (dF (eF t12.x)) (dF (eF t12.y))))] [.ws .u64 6 (eF t20.x), .ws .u64 6 (eF t20.y)] ∧ nv (eF t6.x) < pN ∧ nv (eF t6.y) < pN ∧ nv (eF t12.x) < pN ∧ nv (eF t12.y) < pN ∧ asP [.ws .u64 6 (eF (sub2x (dF (eF t19.x)) (dF (eF t19.y)) (dF (eF t20.x)) (dF (eF t20.y)))), .ws .u64 6 (eF (sub2y (dF (eF t19.x)) (dF (eF t19.y)) (dF (eF t20.x)) (dF (eF t20.y))))] [.ws .u64 6 (eF t21.x), .ws .u64 6 (eF t21.y)] ∧ nv (eF t19.x) < pN ∧ nv (eF t19.y) < pN ∧ nv (eF t20.x) < pN ∧ nv (eF t20.y) < pN ∧ asP [.ws .u64 6 (eF (mul2x (dF z0) (dF z1) (dF w0) (dF w1))), .ws .u64 6 (eF (mul2y (dF z0) (dF z1) (dF w0) (dF w1)))] [.ws .u64 6 (eF t22.x), .ws .u64 6 (eF t22.y)] ∧ nv z0 < pN ∧ nv z1 < pN ∧ nv w0 < pN ∧ nv w1 < pN ∧ asP [.ws .u64 6 (eF (mul2x (dF (eF t9.x)) (dF (eF t9.y)) (dF (eF t22.x)) (dF (eF t22.y)))), .ws .u64 6 (eF (mul2y (dF (eF t9.x)) (dF (eF t9.y)) (dF (eF t22.x)) (dF (eF t22.y))))] [.ws .u64 6 (eF t23.x), .ws .u64 6 (eF t23.y)] ∧ nv (eF t9.x) < pN ∧ nv (eF t9.y) < pN ∧ nv (eF t22.x) < pN ∧ nv (eF t22.y) < pN ∧ endN (.v1 (.agg [.ws .u64 6 (eF t17.x), .ws .u64 6 (eF t17.y), .ws .u64 6 (eF t21.x), .ws .u64 6 (eF t21.y), .ws .u64 6 (eF t23.x), .ws .u64 6 (eF t23.y)])) (.v1 (.agg [.ws .u64 6 (eF (J3.gen (⟨(⟨dF x0, dF x1⟩ : F2p), (⟨dF y0, dF y1⟩ : F2p), (⟨dF z0, dF z1⟩ : F2p)⟩ : J3 F2p) (⟨(⟨dF u0, dF u1⟩ : F2p), (⟨dF v0, dF v1⟩ : F2p), (⟨dF w0, dF w1⟩ : F2p)⟩ : J3 F2p)).x.x), .ws .u64 6 (eF (J3.gen (⟨(⟨dF x0, dF x1⟩ : F2p), (⟨dF y0, dF y1⟩ : F2p), (⟨dF z0, dF z1⟩ : F2p)⟩ : J3 F2p) (⟨(⟨dF u0, dF u1⟩ : F2p), (⟨dF v0, dF v1⟩ : F2p), (⟨dF w0, dF w1⟩ : F2p)⟩ : J3 F2p)).x.y), .ws .u64 6 (eF (J3.gen (⟨(⟨dF x0, dF x1⟩ : F2p), (⟨dF y0, dF y1⟩ : F2p), (⟨dF z0, dF z1⟩ : F2p)⟩ : J3 F2p) (⟨(⟨dF u0, dF u1⟩ : F2p), (⟨dF v0, dF v1⟩ : F2p), (⟨dF w0, dF w1⟩ : F2p)⟩ : J3 F2p)).y.x), .ws .u64 6 (eF (J3.gen (⟨(⟨dF x0, dF x1⟩ : F2p), (⟨dF y0, dF y1⟩ : F2p), (⟨dF z0, dF z1⟩ : F2p)⟩ : J3 F2p) (⟨(⟨dF u0, dF u1⟩ : F2p), (⟨dF v0, dF v1⟩ : F2p), (⟨dF w0, dF w1⟩ : F2p)⟩ : J3 F2p)).y.y), .ws .u64 6 (eF (J3.gen (⟨(⟨dF x0, dF x1⟩ : F2p), (⟨dF y0, dF y1⟩ : F2p), (⟨dF z0, dF z1⟩ : F2p)⟩ : J3 F2p) (⟨(⟨dF u0, dF u1⟩ : F2p), (⟨dF v0, dF v1⟩ : F2p), (⟨dF w0, dF w1⟩ : F2p)⟩ : J3 F2p)).z.x), .ws .u64 6 (eF (J3.gen (⟨(⟨dF x0, dF x1⟩ : F2p), (⟨dF y0, dF y1⟩ : F2p), (⟨dF z0, dF z1⟩ : F2p)⟩ : J3 F2p) (⟨(⟨dF u0, dF u1⟩ : F2p), (⟨dF v0, dF v1⟩ : F2p), (⟨dF w0, dF w1⟩ : F2p)⟩ : J3 F2p)).z.y)]))) ?_ (by kernel_rfl)
        exact ⟨zQ_f hz0 hz1 hZZ, zQ_f hw0 hw1 hWW, as_mulQ rfl rfl rfl rfl ht1, hz0, hz1, hz0, hz1, as_mulQ rfl rfl rfl rfl ht2, hw0, hw1, hw0, hw1, as_mulQ rfl rfl (dF_eF _) (dF_eF _) ht3, hx0, hx1, lt_eF _, lt_eF _, as_mulQ rfl rfl (dF_eF _) (dF_eF _) ht4, hu0, hu1, lt_eF _, lt_eF _, as_mulQ (dF_eF _) (dF_eF _) rfl rfl ht5, lt_eF _, lt_eF _, hw0, hw1, as_mulQ rfl rfl (dF_eF _) (dF_eF _) ht6, hy0, hy1, lt_eF _, lt_eF _, as_mulQ (dF_eF _) (dF_eF _) rfl rfl ht7, lt_eF _, lt_eF _, hz0, hz1, as_mulQ rfl rfl (dF_eF _) (dF_eF _) ht8, hv0, hv1, lt_eF _, lt_eF _, as_subQ (dF_eF _) (dF_eF _) (dF_eF _) (dF_eF _) ht9, lt_eF _, lt_eF _, lt_eF _, lt_eF _, as_subQ (dF_eF _) (dF_eF _) (dF_eF _) (dF_eF _) ht10, lt_eF _, lt_eF _, lt_eF _, lt_eF _, zQ_f (lt_eF _) (lt_eF _) (by rw [dF_eF, dF_eF]; subst ht10 ht9 ht8 ht7 ht6 ht5 ht4 ht3 ht2 ht1; exact hh0), as_mulQ (dF_eF _) (dF_eF _) (dF_eF _) (dF_eF _) ht11, lt_eF _, lt_eF _, lt_eF _, lt_eF _, as_mulQ (dF_eF _) (dF_eF _) (dF_eF _) (dF_eF _) ht12, lt_eF _, lt_eF _, lt_eF _, lt_eF _, as_mulQ (dF_eF _) (dF_eF _) (dF_eF _) (dF_eF _) ht13, lt_eF _, lt_eF _, lt_eF _, lt_eF _, as_mulQ (dF_eF _) (dF_eF _) (dF_eF _) (dF_eF _) ht14, lt_eF _, lt_eF _, lt_eF _, lt_eF _, as_subQ (dF_eF _) (dF_eF _) (dF_eF _) (dF_eF _) ht15, lt_eF _, lt_eF _, lt_eF _, lt_eF _, as_addQ (dF_eF _) (dF_eF _) (dF_eF _) (dF_eF _) ht16, lt_eF _, lt_eF _, lt_eF _, lt_eF _, as_subQ (dF_eF _) (dF_eF _) (dF_eF _) (dF_eF _) ht17, lt_eF _, lt_eF _, lt_eF _, lt_eF _, as_subQ (dF_eF _) (dF_eF _) (dF_eF _) (dF_eF _) ht18, lt_eF _, lt_eF _, lt_eF _, lt_eF _, as_mulQ (dF_eF _) (dF_eF _) (dF_eF _) (dF_eF _) ht19, lt_eF _, lt_eF _, lt_eF _, lt_eF _, as_mulQ (dF_eF _) (dF_eF _) (dF_eF _) (dF_eF _) ht20, lt_eF _, lt_eF _, lt_eF _, lt_eF _, as_subQ (dF_eF _) (dF_eF _) (dF_eF _) (dF_eF _) ht21, lt_eF _, lt_eF _, lt_eF _, lt_eF _, as_mulQ rfl rfl rfl rfl ht22, hz0, hz1, hw0, hw1, as_mulQ (dF_eF _) (dF_eF _) (dF_eF _) (dF_eF _) ht23, lt_eF _, lt_eF _, lt_eF _, lt_eF _, endC (cv_cons (nv_tx (by subst ht23 ht22 ht21 ht20 ht19 ht18 ht17 ht16 ht15 ht14 ht13 ht12 ht11 ht10 ht9 ht8 ht7 ht6 ht5 ht4 ht3 ht2 ht1; rfl)) (cv_cons (nv_ty (by subst ht23 ht22 ht21 ht20 ht19 ht18 ht17 ht16 ht15 ht14 ht13 ht12 ht11 ht10 ht9 ht8 ht7 ht6 ht5 ht4 ht3 ht2 ht1; rfl)) (cv_cons (nv_tx (by subst ht23 ht22 ht21 ht20 ht19 ht18 ht17 ht16 ht15 ht14 ht13 ht12 ht11 ht10 ht9 ht8 ht7 ht6 ht5 ht4 ht3 ht2 ht1; rfl)) (cv_cons (nv_ty (by subst ht23 ht22 ht21 ht20 ht19 ht18 ht17 ht16 ht15 ht14 ht13 ht12 ht11 ht10 ht9 ht8 ht7 ht6 ht5 ht4 ht3 ht2 ht1; rfl)) (cv_cons (nv_tx (by subst ht23 ht22 ht21 ht20 ht19 ht18 ht17 ht16 ht15 ht14 ht13 ht12 ht11 ht10 ht9 ht8 ht7 ht6 ht5 ht4 ht3 ht2 ht1; rfl)) (cv_cons (nv_ty (by subst ht23 ht22 ht21 ht20 ht19 ht18 ht17 ht16 ht15 ht14 ht13 ht12 ht11 ht10 ht9 ht8 ht7 ht6 ht5 ht4 ht3 ht2 ht1; rfl)) (cv_nil)))))))⟩
end Go.Proofs.Ytnjocbcjejpklaa

/- The curve's points, over elements: on, raise, lower, times, in. Printed by gp2.py E. -/
namespace Go.Proofs.Ytnjocbcjejpklaa
open Go.Rq Go
set_option maxRecDepth 100000
set_option linter.unusedVariables false
set_option linter.unusedSimpArgs false
set_option maxHeartbeats 4000000
abbrev fourE : Fp := (ofN (nv (wd (4 % W))))
def onCE : List AV → Option (List Prop × AV)
  | [.v1 (.agg cs), .v1 (.agg [.ws .u64 6 x, .ws .u64 6 y, .one (.bo z)])] => some ([cs = fdE, nv x < pN, nv y < pN], .v1 (.sc (.bo (A2.on fourE (⟨(dF x), (dF y), z⟩ : A2 Fp)))))
  | _ => none
def raCE : List AV → Option (List Prop × AV)
  | [.v1 (.agg cs), .v1 (.agg [.ws .u64 6 x, .ws .u64 6 y, .one (.bo z)])] => some ([cs = fdE, nv x < pN, nv y < pN], .v1 (.agg [.ws .u64 6 (eF (A2.raise (⟨(dF x), (dF y), z⟩ : A2 Fp)).x), .ws .u64 6 (eF (A2.raise (⟨(dF x), (dF y), z⟩ : A2 Fp)).y), .ws .u64 6 (eF (A2.raise (⟨(dF x), (dF y), z⟩ : A2 Fp)).z)]))
  | _ => none
def loCE : List AV → Option (List Prop × AV)
  | [.v1 (.agg cs), .v1 (.agg [.ws .u64 6 x, .ws .u64 6 y, .ws .u64 6 z])] => some ([cs = fdE, nv x < pN, nv y < pN, nv z < pN], .v1 (.agg [.ws .u64 6 (eF (A2.lower eInv (⟨(dF x), (dF y), (dF z)⟩ : J3 Fp)).x), .ws .u64 6 (eF (A2.lower eInv (⟨(dF x), (dF y), (dF z)⟩ : J3 Fp)).y), .one (.bo (A2.lower eInv (⟨(dF x), (dF y), (dF z)⟩ : J3 Fp)).z)]))
  | _ => none
def tiCE : List AV → Option (List Prop × AV)
  | [.v1 (.agg cs), .v1 (.agg [.ws .u64 6 x, .ws .u64 6 y, .ws .u64 6 z]), .v1 (.agg [.ws .u64 6 n])] => some ([cs = fdE, nv x < pN, nv y < pN, nv z < pN], .v1 (.agg [.ws .u64 6 (eF (J3.times (⟨(dF x), (dF y), (dF z)⟩ : J3 Fp) (blen (nv n)) (nv n)).x), .ws .u64 6 (eF (J3.times (⟨(dF x), (dF y), (dF z)⟩ : J3 Fp) (blen (nv n)) (nv n)).y), .ws .u64 6 (eF (J3.times (⟨(dF x), (dF y), (dF z)⟩ : J3 Fp) (blen (nv n)) (nv n)).z)]))
  | _ => none
def inCE (r : Nat) : List AV → Option (List Prop × AV)
  | [.v1 (.agg cs), .v1 (.agg [.ws .u64 6 x, .ws .u64 6 y, .one (.bo z)])] => some ([cs = fdE, nv x < pN, nv y < pN], .v1 (.sc (.bo (A2.isIn fourE r (⟨(dF x), (dF y), z⟩ : A2 Fp)))))
  | _ => none
theorem okOnE : (CallC.pure onCE).Ok Try.prog 62 := by
  intro args pre v e hp
  unfold onCE at e
  split at e
  rotate_left
  · cases e
  rename_i cs x y z
  cases e
  have hcs : cs = fdE := hp _ (by simp)
  subst hcs
  have hx : nv x < pN := hp (nv x < pN) (by simp)
  have hy : nv y < pN := hp (nv y < pN) (by simp)
  refine pure_walk' tt_ok Try.func62 (by kernel_rfl) (by kernel_rfl) (by rfl) (by rfl) ?_
  cases z
  · skip
    obtain ⟨t1, ht1⟩ : ∃ q_ : Fp, q_ = (dF y) * (dF y) := ⟨_, rfl⟩
    obtain ⟨t2, ht2⟩ : ∃ q_ : Fp, q_ = (dF x) * (dF x) := ⟨_, rfl⟩
    obtain ⟨t3, ht3⟩ : ∃ q_ : Fp, q_ = t2 * (dF x) := ⟨_, rfl⟩
    obtain ⟨t4, ht4⟩ : ∃ q_ : Fp, q_ = t3 + fourE := ⟨_, rfl⟩
    refine evS_q mixed tt_ok GCE_ok 100 [⟨4,6,.as [.ws .u64 6 (eF t1)]⟩,⟨4,17,.as [.ws .u64 6 (eF t2)]⟩,⟨4,20,.as [.ws .u64 6 (eF t3)]⟩,⟨4,23,.as [.ws .u64 6 (eF t4)]⟩] ?_
    refine same (p := asP [.ws .u64 6 (eF (eMul (dF y) (dF y)))] [.ws .u64 6 (eF t1)] ∧ nv y < pN ∧ asP [.ws .u64 6 (eF (eMul (dF x) (dF x)))] [.ws .u64 6 (eF t2)] ∧ nv x < pN ∧ asP [.ws .u64 6 (eF (eMul (dF (eF t2)) (dF x)))] [.ws .u64 6 (eF t3)] ∧ nv (eF t2) < pN ∧ asP [.ws .u64 6 (eF (eAdd (dF (eF t3)) (dF (eF (ofN (nv (wd (4 % W))))))))] [.ws .u64 6 (eF t4)] ∧ nv (eF t3) < pN ∧ nv (eF (ofN (nv (wd (4 % W))))) < pN ∧ endN (.v1 (.sc (.bo (eqN W 6 (eF t1) (eF t4) && true)))) (.v1 (.sc (.bo (A2.on fourE (⟨(dF x), (dF y), false⟩ : A2 Fp)))))) ?_ (by kernel_rfl)
    exact ⟨as_mulE rfl rfl ht1, hy, as_mulE rfl rfl ht2, hx, as_mulE (dF_eF _) rfl ht3, lt_eF _, as_addE (dF_eF _) (dF_eF _) ht4, lt_eF _, (lt_eF _), endB (by rw [eqE (lt_eF _) (lt_eF _), dF_eF, dF_eF, on_f]; exact decide_eq_decide.2 (by rw [ht4, ht3, ht2, ht1]))⟩
  · by_cases hXX : (dF x) = 0
    · by_cases hYY : (dF y) = 0
      · skip
        refine evS_q mixed tt_ok GCE_ok 100 [⟨3,3,.lit (.bo true)⟩,⟨3,8,.lit (.bo true)⟩] ?_
        refine same (p := (eqN W 6 x (fun _ => 0) && true) = true ∧ (eqN W 6 y (fun _ => 0) && true) = true ∧ endN (.v1 (.sc (.bo true))) (.v1 (.sc (.bo (A2.on fourE (⟨(dF x), (dF y), true⟩ : A2 Fp)))))) ?_ (by kernel_rfl)
        exact ⟨zE_t hx hXX, zE_t hy hYY, endB (by rw [on_t, decide_eq_true hXX, decide_eq_true hYY]; rfl)⟩
      · skip
        refine evS_q mixed tt_ok GCE_ok 100 [⟨3,3,.lit (.bo true)⟩,⟨3,8,.lit (.bo false)⟩] ?_
        refine same (p := (eqN W 6 x (fun _ => 0) && true) = true ∧ (eqN W 6 y (fun _ => 0) && true) = false ∧ endN (.v1 (.sc (.bo false))) (.v1 (.sc (.bo (A2.on fourE (⟨(dF x), (dF y), true⟩ : A2 Fp)))))) ?_ (by kernel_rfl)
        exact ⟨zE_t hx hXX, zE_f hy hYY, endB (by rw [on_t, decide_eq_true hXX, decide_eq_false hYY]; rfl)⟩
    · skip
      refine evS_q mixed tt_ok GCE_ok 100 [⟨3,3,.lit (.bo false)⟩] ?_
      refine same (p := (eqN W 6 x (fun _ => 0) && true) = false ∧ endN (.v1 (.sc (.bo false))) (.v1 (.sc (.bo (A2.on fourE (⟨(dF x), (dF y), true⟩ : A2 Fp)))))) ?_ (by kernel_rfl)
      exact ⟨zE_f hx hXX, endB (by rw [on_t, decide_eq_false hXX]; rfl)⟩
theorem okRaE : (CallC.pure raCE).Ok Try.prog 65 := by
  intro args pre v e hp
  unfold raCE at e
  split at e
  rotate_left
  · cases e
  rename_i cs x y z
  cases e
  have hcs : cs = fdE := hp _ (by simp)
  subst hcs
  have hx : nv x < pN := hp (nv x < pN) (by simp)
  have hy : nv y < pN := hp (nv y < pN) (by simp)
  refine pure_walk' tt_ok Try.func65 (by kernel_rfl) (by kernel_rfl) (by rfl) (by rfl) ?_
  cases z
  · rw [show A2.raise (⟨(dF x), (dF y), false⟩ : A2 Fp) = (⟨(dF x), (dF y), 1⟩ : J3 Fp) from rfl]
    refine evS_q mixed tt_ok GCE_ok 100 [] ?_
    refine same (p := endN (.v1 (.agg [.ws .u64 6 x, .ws .u64 6 y, .ws .u64 6 oneF])) (.v1 (.agg [.ws .u64 6 (eF ((⟨(dF x), (dF y), 1⟩ : J3 Fp)).x), .ws .u64 6 (eF ((⟨(dF x), (dF y), 1⟩ : J3 Fp)).y), .ws .u64 6 (eF ((⟨(dF x), (dF y), 1⟩ : J3 Fp)).z)]))) ?_ (by kernel_rfl)
    exact endC (cv_cons (nv_d hx) (cv_cons (nv_d hy) (cv_cons nv_one1 (cv_nil))))
  · rw [show A2.raise (⟨(dF x), (dF y), true⟩ : A2 Fp) = (⟨1, 1, 0⟩ : J3 Fp) from rfl]
    refine evS_q mixed tt_ok GCE_ok 100 [] ?_
    refine same (p := endN (.v1 (.agg [.ws .u64 6 oneF, .ws .u64 6 oneF, .ws .u64 6 (fun _ => 0)])) (.v1 (.agg [.ws .u64 6 (eF ((⟨1, 1, 0⟩ : J3 Fp)).x), .ws .u64 6 (eF ((⟨1, 1, 0⟩ : J3 Fp)).y), .ws .u64 6 (eF ((⟨1, 1, 0⟩ : J3 Fp)).z)]))) ?_ (by kernel_rfl)
    exact endC (cv_cons nv_one1 (cv_cons nv_one1 (cv_cons e0x (cv_nil))))
theorem okLoE : (CallC.pure loCE).Ok Try.prog 63 := by
  intro args pre v e hp
  unfold loCE at e
  split at e
  rotate_left
  · cases e
  rename_i cs x y z
  cases e
  have hcs : cs = fdE := hp _ (by simp)
  subst hcs
  have hx : nv x < pN := hp (nv x < pN) (by simp)
  have hy : nv y < pN := hp (nv y < pN) (by simp)
  have hz : nv z < pN := hp (nv z < pN) (by simp)
  refine pure_walk' tt_ok Try.func63 (by kernel_rfl) (by kernel_rfl) (by rfl) (by rfl) ?_
  by_cases hZZ : (dF z) = 0
  · have hlo : A2.lower eInv (⟨(dF x), (dF y), (dF z)⟩ : J3 Fp) = ⟨0, 0, true⟩ := if_pos hZZ
    rw [hlo]
    refine evS_q mixed tt_ok GCE_ok 100 [⟨2,3,.lit (.bo true)⟩] ?_
    refine same (p := (eqN W 6 z (fun _ => 0) && true) = true ∧ endN (.v1 (.agg [.ws .u64 6 (fun _ => 0), .ws .u64 6 (fun _ => 0), .one (.bo true)])) (.v1 (.agg [.ws .u64 6 (eF ((⟨0, 0, true⟩ : A2 Fp)).x), .ws .u64 6 (eF ((⟨0, 0, true⟩ : A2 Fp)).y), .one (.bo ((⟨0, 0, true⟩ : A2 Fp)).z)]))) ?_ (by kernel_rfl)
    exact ⟨zE_t hz hZZ, endC (cv_cons e0x (cv_cons e0x (cv_one cv_nil)))⟩
  · have hlo : A2.lower eInv (⟨(dF x), (dF y), (dF z)⟩ : J3 Fp) = (⟨(dF x) * (eInv (dF z) * eInv (dF z)), (dF y) * ((eInv (dF z) * eInv (dF z)) * eInv (dF z)), false⟩ : A2 Fp) := if_neg hZZ
    rw [hlo]
    obtain ⟨t1, ht1⟩ : ∃ q_ : Fp, q_ = eInv (dF z) := ⟨_, rfl⟩
    obtain ⟨t2, ht2⟩ : ∃ q_ : Fp, q_ = t1 * t1 := ⟨_, rfl⟩
    obtain ⟨t3, ht3⟩ : ∃ q_ : Fp, q_ = (dF x) * t2 := ⟨_, rfl⟩
    obtain ⟨t4, ht4⟩ : ∃ q_ : Fp, q_ = t2 * t1 := ⟨_, rfl⟩
    obtain ⟨t5, ht5⟩ : ∃ q_ : Fp, q_ = (dF y) * t4 := ⟨_, rfl⟩
    refine evS_q mixed tt_ok GCE_ok 100 [⟨2,3,.lit (.bo false)⟩,⟨4,4,.as [.ws .u64 6 (eF t1)]⟩,⟨5,4,.as [.ws .u64 6 (eF t2)]⟩,⟨6,5,.as [.ws .u64 6 (eF t3)]⟩,⟨6,14,.as [.ws .u64 6 (eF t4)]⟩,⟨6,15,.as [.ws .u64 6 (eF t5)]⟩] ?_
    refine same (p := (eqN W 6 z (fun _ => 0) && true) = false ∧ asP [.ws .u64 6 (eF (eInv (dF z)))] [.ws .u64 6 (eF t1)] ∧ nv z < pN ∧ asP [.ws .u64 6 (eF (eMul (dF (eF t1)) (dF (eF t1))))] [.ws .u64 6 (eF t2)] ∧ nv (eF t1) < pN ∧ asP [.ws .u64 6 (eF (eMul (dF x) (dF (eF t2))))] [.ws .u64 6 (eF t3)] ∧ nv x < pN ∧ asP [.ws .u64 6 (eF (eMul (dF (eF t2)) (dF (eF t1))))] [.ws .u64 6 (eF t4)] ∧ nv (eF t2) < pN ∧ asP [.ws .u64 6 (eF (eMul (dF y) (dF (eF t4))))] [.ws .u64 6 (eF t5)] ∧ nv y < pN ∧ endN (.v1 (.agg [.ws .u64 6 (eF t3), .ws .u64 6 (eF t5), .one (.bo false)])) (.v1 (.agg [.ws .u64 6 (eF ((dF x) * (eInv (dF z) * eInv (dF z)))), .ws .u64 6 (eF ((dF y) * ((eInv (dF z) * eInv (dF z)) * eInv (dF z)))), .one (.bo false)]))) ?_ (by kernel_rfl)
    exact ⟨zE_f hz hZZ, as_invE rfl ht1, hz, as_mulE (dF_eF _) (dF_eF _) ht2, lt_eF _, as_mulE rfl (dF_eF _) ht3, hx, as_mulE (dF_eF _) (dF_eF _) ht4, lt_eF _, as_mulE rfl (dF_eF _) ht5, hy, endC (cv_cons (nv_t (by rw [ht3, ht2, ht1])) (cv_cons (nv_t (by rw [ht5, ht4, ht2, ht1])) (cv_one cv_nil)))⟩
def GtiE : Ctx := ctxL [(86, .pure (jE1 J3.dbl)), (87, .pure (jE2 J3.add)), (43, .pure cLen), (45, .pure cBit)]
theorem GtiE_ok : CtxOk Try.prog GtiE := ctxL_cons okTwE <| ctxL_cons okSmE <| ctxL_cons okLen <| ctxL_cons okBit ctxL_nil
abbrev VtiE (k : Nat) : List AV := [pt 0 0, pt 1 0, pt 2 0, pt 3 0, pt 4 0, iv (predI k)]
abbrev HtiE (x y z n : Nat → Nat) (g : Nat → Nat → Nat) : Heap := [some ⟨74, fdE, 0, 0⟩, some ⟨102, [.ws .u64 6 x, .ws .u64 6 y, .ws .u64 6 z], 0, 0⟩, nb n, some ⟨102, csE (fun _ _ => 0), 0, 0⟩, some ⟨102, csE g, 0, 0⟩, none]
def IntiE (P : J3 Fp) (n : Nat) (x : Nat × (Nat → Nat → Nat)) : Prop := x.1 ≤ blen n ∧ LtE x.2 ∧ JvE x.2 = J3.times P (blen n - x.1) (n / 2 ^ x.1)
theorem nilvE : JvE (of3 oneF oneF (fun _ => 0)) = J3.nil := by
  rw [JvE_of, dF_one, dF_0]; exact nilE.symm
theorem okTiE : (CallC.pure tiCE).Ok Try.prog 64 := by
  intro args pre v e hp
  unfold tiCE at e
  split at e
  rotate_left
  · cases e
  rename_i cs x y z n
  cases e
  have hcs : cs = fdE := hp _ (by simp)
  subst hcs
  have hx : nv x < pN := hp (nv x < pN) (by simp)
  have hy : nv y < pN := hp (nv y < pN) (by simp)
  have hz : nv z < pN := hp (nv z < pN) (by simp)
  refine pure_walk' tt_ok Try.func64 (by kernel_rfl) (by kernel_rfl) (by rfl) (by rfl) ?_
  have hbl := blen_le' n
  refine loopF mixed tt_ok GtiE_ok (by kernel_rfl) (ι := {x_ // IntiE (⟨(dF x), (dF y), (dF z)⟩ : J3 Fp) (nv n) x_}) [3,4,5,6,7,8] 33 6 (fun x_ => VtiE x_.1.1) (fun x_ => HtiE x y z n x_.1.2) (fun x_ => x_.1.1) (fun x_ => x_.1.1 = 0)
    (fun _ => rfl) (fun _ => by kernel_rfl) (fun _ _ h => h.elim) 60 [⟨2,2,.lit (.it (predI (blen (nv n))))⟩] ?_ ?_ ?_
  · refine same (p := wrapI (Int.ofNat (blen (nv n)) - 1) = predI (blen (nv n)) ∧ true = true ∧ ∃ j : {x_ // IntiE (⟨(dF x), (dF y), (dF z)⟩ : J3 Fp) (nv n) x_}, VtiE (blen (nv n)) = VtiE j.1.1 ∧ HtiE x y z n (of3 oneF oneF (fun _ => 0)) = HtiE x y z n j.1.2) ?_ (by kernel_rfl)
    refine ⟨predI_eq (by omega), rfl, ⟨(blen (nv n), (of3 oneF oneF (fun _ => 0))), Nat.le_refl _, LtE_of lt_one lt_one lt_zero, ?_⟩, rfl, rfl⟩
    simp only
    rw [nilvE, Nat.sub_self]; rfl
  · intro ⟨⟨k, g⟩, hk, hg, hv⟩ junk
    simp only at hk hv
    have hg : LtE g := hg
    cases k with
    | zero =>
      refine roundF mixed tt_ok GtiE_ok 60 [] ?_
      refine same (p := true = true ∧ ∃ j : {x_ // IntiE (⟨(dF x), (dF y), (dF z)⟩ : J3 Fp) (nv n) x_}, j.1.1 = 0 ∧ VtiE 0 = VtiE j.1.1 ∧ HtiE x y z n g = HtiE x y z n j.1.2) ?_ (by kernel_rfl)
      exact ⟨rfl, ⟨(0, g), hk, hg, hv⟩, rfl, rfl, rfl⟩
    | succ k =>
      have hs : wrapI (Int.ofNat k - 1) = predI k := predI_eq (by omega)
      have hhalf : nv n / 2 ^ k / 2 = nv n / 2 ^ (k + 1) := by rw [Nat.div_div_eq_div_mul, Nat.pow_succ]
      have hnext : blen (nv n) - k = (blen (nv n) - (k + 1)) + 1 := by omega
      have next : ∀ J : J3 Fp, J = J3.times (⟨(dF x), (dF y), (dF z)⟩ : J3 Fp) (blen (nv n) - k) (nv n / 2 ^ k) → ∃ j : {x_ // IntiE (⟨(dF x), (dF y), (dF z)⟩ : J3 Fp) (nv n) x_}, j.1.1 < k + 1 ∧ VtiE k = VtiE j.1.1 ∧ HtiE x y z n (selE J) = HtiE x y z n j.1.2 :=
        fun J h' => ⟨⟨(k, selE J), by simp only; omega, LtE_sel J, by simp only; rw [JvE_sel, h']⟩, by simp only; omega, rfl, rfl⟩
      have hbit : nv n / 2 ^ k % 2 = 0 ∨ nv n / 2 ^ k % 2 = 1 := by omega
      rcases hbit with h0 | h0
      · refine roundF mixed tt_ok GtiE_ok 60 [⟨3,1,.lit (.bo true)⟩,⟨6,3,.lit (.bo false)⟩,⟨4,1,.lit (.it (predI k))⟩] ?_
        refine same (p := (!ilt (Int.ofNat k) 0) = true ∧ fdE = fdE ∧ nv (g 0) < pN ∧ nv (g 1) < pN ∧ nv (g 2) < pN ∧ ieq (Int.ofNat (nv n / 2 ^ k % 2)) 1 = false ∧ wrapI (Int.ofNat k - 1) = predI k ∧ true = true ∧
          ∃ j : {x_ // IntiE (⟨(dF x), (dF y), (dF z)⟩ : J3 Fp) (nv n) x_}, j.1.1 < k + 1 ∧ VtiE k = VtiE j.1.1 ∧ HtiE x y z n (selE (J3.dbl (JvE g))) = HtiE x y z n j.1.2) ?_ (by kernel_rfl)
        refine ⟨ilt_nn2 k, rfl, hg.1, hg.2.1, hg.2.2, by rw [h0]; rfl, hs, rfl, next _ ?_⟩
        rw [hnext, J3.times, if_neg (by omega), hhalf, hv]
      · refine roundF mixed tt_ok GtiE_ok 60 [⟨3,1,.lit (.bo true)⟩,⟨6,3,.lit (.bo true)⟩,⟨4,1,.lit (.it (predI k))⟩] ?_
        refine same (p := (!ilt (Int.ofNat k) 0) = true ∧ fdE = fdE ∧ nv (g 0) < pN ∧ nv (g 1) < pN ∧ nv (g 2) < pN ∧ ieq (Int.ofNat (nv n / 2 ^ k % 2)) 1 = true ∧ fdE = fdE ∧ nv ((selE (J3.dbl (JvE g))) 0) < pN ∧ nv ((selE (J3.dbl (JvE g))) 1) < pN ∧ nv ((selE (J3.dbl (JvE g))) 2) < pN ∧ nv x < pN ∧ nv y < pN ∧ nv z < pN ∧ wrapI (Int.ofNat k - 1) = predI k ∧ true = true ∧
          ∃ j : {x_ // IntiE (⟨(dF x), (dF y), (dF z)⟩ : J3 Fp) (nv n) x_}, j.1.1 < k + 1 ∧ VtiE k = VtiE j.1.1 ∧ HtiE x y z n (selE (J3.add (JvE (selE (J3.dbl (JvE g)))) (⟨(dF x), (dF y), (dF z)⟩ : J3 Fp))) = HtiE x y z n j.1.2) ?_ (by kernel_rfl)
        refine ⟨ilt_nn2 k, rfl, hg.1, hg.2.1, hg.2.2, by rw [h0]; rfl, rfl, lt_eF _, lt_eF _, lt_eF _, hx, hy, hz, hs, rfl, next _ ?_⟩
        rw [JvE_sel, hnext, J3.times, if_pos h0, hhalf, hv]
  · intro ⟨⟨k, g⟩, hk, hg, hv⟩ junk h0
    simp only at hk hv h0
    have hg : LtE g := hg
    subst h0
    rw [Nat.sub_zero, Nat.pow_zero, Nat.div_one] at hv
    refine same (p := endN (.v1 (.agg (csE g))) (.v1 (.agg [.ws .u64 6 (eF (J3.times (⟨(dF x), (dF y), (dF z)⟩ : J3 Fp) (blen (nv n)) (nv n)).x), .ws .u64 6 (eF (J3.times (⟨(dF x), (dF y), (dF z)⟩ : J3 Fp) (blen (nv n)) (nv n)).y), .ws .u64 6 (eF (J3.times (⟨(dF x), (dF y), (dF z)⟩ : J3 Fp) (blen (nv n)) (nv n)).z)]))) ?_ (by kernel_rfl)
    rw [← hv]
    exact endC (cv_cons (nv_d hg.1) (cv_cons (nv_d hg.2.1) (cv_cons (nv_d hg.2.2) cv_nil)))
def orderF : Nat → Nat := upd (upd (upd (upd (fun _ => 0) 0 18446744069414584321) 1 6034159408538082302) 2 3691218898639771653) 3 8353516859464449352
def rNm : Nat := 52435875175126190479447740508185965837690552500527637822603658699938581184513
theorem nv_order : nv orderF = rNm := by kernel_rfl
theorem okOrderF : (CallC.pure (cK orderF)).Ok Try.prog 66 :=
  cK_ok Try.func66 (by kernel_rfl) (by kernel_rfl) (same (p := some (nm orderF) = some (nm orderF)) rfl (by kernel_rfl))
theorem lower_z {F : Type} [CR F] [DecidableEq F] (inv : F → F) (p : J3 F) : (A2.lower inv p).z = decide (p.z = 0) := by
  unfold A2.lower
  by_cases h : p.z = 0
  · rw [if_pos h, decide_eq_true h]
  · rw [if_neg h, decide_eq_false h]
def GinE : List (Nat × CallC) := [(62, .pure onCE), (65, .pure raCE), (64, .pure tiCE), (63, .pure loCE), (66, .pure (cK orderF))]
theorem GinE_ok : CtxOk Try.prog (ctxL GinE) := ctxL_cons okOnE <| ctxL_cons okRaE <| ctxL_cons okTiE <| ctxL_cons okLoE <| ctxL_cons okOrderF ctxL_nil
theorem okInE : (CallC.pure (inCE rNm)).Ok Try.prog 35 := by
  intro args pre v e hp
  unfold inCE at e
  split at e
  rotate_left
  · cases e
  rename_i cs x y z
  cases e
  have hcs : cs = fdE := hp _ (by simp)
  subst hcs
  have hx : nv x < pN := hp (nv x < pN) (by simp)
  have hy : nv y < pN := hp (nv y < pN) (by simp)
  refine pure_walk' tt_ok Try.func35 (by kernel_rfl) (by kernel_rfl) (by rfl) (by rfl) ?_
  cases ho : A2.on fourE (⟨(dF x), (dF y), z⟩ : A2 Fp)
  · refine evS_q mixed tt_ok GinE_ok 60 [⟨1,2,.lit (.bo false)⟩] (same (p := A2.on fourE (⟨(dF x), (dF y), z⟩ : A2 Fp) = false ∧ fdE = fdE ∧ nv x < pN ∧ nv y < pN ∧ endN (.v1 (.sc (.bo false))) (.v1 (.sc (.bo (A2.isIn fourE rNm (⟨(dF x), (dF y), z⟩ : A2 Fp)))))) ?_ (by kernel_rfl))
    exact ⟨ho, rfl, hx, hy, endB (by unfold A2.isIn; rw [ho]; rfl)⟩
  · refine evS_q mixed tt_ok GinE_ok 60 [⟨1,2,.lit (.bo true)⟩] (same (p := A2.on fourE (⟨(dF x), (dF y), z⟩ : A2 Fp) = true ∧ fdE = fdE ∧ nv x < pN ∧ nv y < pN ∧ fdE = fdE ∧ nv x < pN ∧ nv y < pN ∧ fdE = fdE ∧ nv ((selE (A2.raise (⟨(dF x), (dF y), z⟩ : A2 Fp))) 0) < pN ∧ nv ((selE (A2.raise (⟨(dF x), (dF y), z⟩ : A2 Fp))) 1) < pN ∧ nv ((selE (A2.raise (⟨(dF x), (dF y), z⟩ : A2 Fp))) 2) < pN ∧ fdE = fdE ∧ nv ((selE (J3.times (JvE (selE (A2.raise (⟨(dF x), (dF y), z⟩ : A2 Fp)))) (blen (nv orderF)) (nv orderF))) 0) < pN ∧ nv ((selE (J3.times (JvE (selE (A2.raise (⟨(dF x), (dF y), z⟩ : A2 Fp)))) (blen (nv orderF)) (nv orderF))) 1) < pN ∧ nv ((selE (J3.times (JvE (selE (A2.raise (⟨(dF x), (dF y), z⟩ : A2 Fp)))) (blen (nv orderF)) (nv orderF))) 2) < pN ∧ endN (.v1 (.sc (.bo (A2.lower eInv (JvE (selE (J3.times (JvE (selE (A2.raise (⟨(dF x), (dF y), z⟩ : A2 Fp)))) (blen (nv orderF)) (nv orderF))))).z))) (.v1 (.sc (.bo (A2.isIn fourE rNm (⟨(dF x), (dF y), z⟩ : A2 Fp)))))) ?_ (by kernel_rfl))
    refine ⟨ho, rfl, hx, hy, rfl, hx, hy, rfl, lt_eF _, lt_eF _, lt_eF _, rfl, lt_eF _, lt_eF _, lt_eF _, endB ?_⟩
    have e0 : JvE (selE (A2.raise (⟨(dF x), (dF y), z⟩ : A2 Fp))) = A2.raise (⟨(dF x), (dF y), z⟩ : A2 Fp) := JvE_sel _
    have e1 : J3.times (JvE (selE (A2.raise (⟨(dF x), (dF y), z⟩ : A2 Fp)))) (blen (nv orderF)) (nv orderF) = J3.times (A2.raise (⟨(dF x), (dF y), z⟩ : A2 Fp)) (blen (nv orderF)) (nv orderF) := congrArg (fun q => J3.times q (blen (nv orderF)) (nv orderF)) e0
    have e2 : JvE (selE (J3.times (JvE (selE (A2.raise (⟨(dF x), (dF y), z⟩ : A2 Fp)))) (blen (nv orderF)) (nv orderF))) = J3.times (JvE (selE (A2.raise (⟨(dF x), (dF y), z⟩ : A2 Fp)))) (blen (nv orderF)) (nv orderF) := JvE_sel _
    have e4 : J3.times (A2.raise (⟨(dF x), (dF y), z⟩ : A2 Fp)) (blen (nv orderF)) (nv orderF) = J3.times (A2.raise (⟨(dF x), (dF y), z⟩ : A2 Fp)) (blen rNm) rNm := by rw [nv_order]
    have e3 : (A2.lower eInv (JvE (selE (J3.times (JvE (selE (A2.raise (⟨(dF x), (dF y), z⟩ : A2 Fp)))) (blen (nv orderF)) (nv orderF))))).z = decide ((J3.times (A2.raise (⟨(dF x), (dF y), z⟩ : A2 Fp)) (blen rNm) rNm).z = 0) := (lower_z eInv _).trans (congrArg (fun q : J3 Fp => decide (q.z = 0)) (e2.trans (e1.trans e4)))
    refine e3.trans ?_
    unfold A2.isIn A2.mulJ
    rw [ho, Bool.true_and]
end Go.Proofs.Ytnjocbcjejpklaa

/- The curve's points, over numbers of two parts: on, raise, lower, times, in. Printed by gp2.py Q. -/
namespace Go.Proofs.Ytnjocbcjejpklaa
open Go.Rq Go
set_option maxRecDepth 100000
set_option linter.unusedVariables false
set_option linter.unusedSimpArgs false
set_option maxHeartbeats 4000000
abbrev fourQ : F2p := (⟨ofN (nv (wd (4 % W))), ofN (nv (wd (4 % W)))⟩ : F2p)
def onCQ : List AV → Option (List Prop × AV)
  | [.v1 (.agg cs), .v1 (.agg [.ws .u64 6 x0, .ws .u64 6 x1, .ws .u64 6 y0, .ws .u64 6 y1, .one (.bo z)])] => some ([cs = fdQ, nv x0 < pN, nv x1 < pN, nv y0 < pN, nv y1 < pN], .v1 (.sc (.bo (A2.on fourQ (⟨(⟨dF x0, dF x1⟩ : F2p), (⟨dF y0, dF y1⟩ : F2p), z⟩ : A2 F2p)))))
  | _ => none
def raCQ : List AV → Option (List Prop × AV)
  | [.v1 (.agg cs), .v1 (.agg [.ws .u64 6 x0, .ws .u64 6 x1, .ws .u64 6 y0, .ws .u64 6 y1, .one (.bo z)])] => some ([cs = fdQ, nv x0 < pN, nv x1 < pN, nv y0 < pN, nv y1 < pN], .v1 (.agg [.ws .u64 6 (eF (A2.raise (⟨(⟨dF x0, dF x1⟩ : F2p), (⟨dF y0, dF y1⟩ : F2p), z⟩ : A2 F2p)).x.x), .ws .u64 6 (eF (A2.raise (⟨(⟨dF x0, dF x1⟩ : F2p), (⟨dF y0, dF y1⟩ : F2p), z⟩ : A2 F2p)).x.y), .ws .u64 6 (eF (A2.raise (⟨(⟨dF x0, dF x1⟩ : F2p), (⟨dF y0, dF y1⟩ : F2p), z⟩ : A2 F2p)).y.x), .ws .u64 6 (eF (A2.raise (⟨(⟨dF x0, dF x1⟩ : F2p), (⟨dF y0, dF y1⟩ : F2p), z⟩ : A2 F2p)).y.y), .ws .u64 6 (eF (A2.raise (⟨(⟨dF x0, dF x1⟩ : F2p), (⟨dF y0, dF y1⟩ : F2p), z⟩ : A2 F2p)).z.x), .ws .u64 6 (eF (A2.raise (⟨(⟨dF x0, dF x1⟩ : F2p), (⟨dF y0, dF y1⟩ : F2p), z⟩ : A2 F2p)).z.y)]))
  | _ => none
def loCQ : List AV → Option (List Prop × AV)
  | [.v1 (.agg cs), .v1 (.agg [.ws .u64 6 x0, .ws .u64 6 x1, .ws .u64 6 y0, .ws .u64 6 y1, .ws .u64 6 z0, .ws .u64 6 z1])] => some ([cs = fdQ, nv x0 < pN, nv x1 < pN, nv y0 < pN, nv y1 < pN, nv z0 < pN, nv z1 < pN], .v1 (.agg [.ws .u64 6 (eF (A2.lower F2p.inv (⟨(⟨dF x0, dF x1⟩ : F2p), (⟨dF y0, dF y1⟩ : F2p), (⟨dF z0, dF z1⟩ : F2p)⟩ : J3 F2p)).x.x), .ws .u64 6 (eF (A2.lower F2p.inv (⟨(⟨dF x0, dF x1⟩ : F2p), (⟨dF y0, dF y1⟩ : F2p), (⟨dF z0, dF z1⟩ : F2p)⟩ : J3 F2p)).x.y), .ws .u64 6 (eF (A2.lower F2p.inv (⟨(⟨dF x0, dF x1⟩ : F2p), (⟨dF y0, dF y1⟩ : F2p), (⟨dF z0, dF z1⟩ : F2p)⟩ : J3 F2p)).y.x), .ws .u64 6 (eF (A2.lower F2p.inv (⟨(⟨dF x0, dF x1⟩ : F2p), (⟨dF y0, dF y1⟩ : F2p), (⟨dF z0, dF z1⟩ : F2p)⟩ : J3 F2p)).y.y), .one (.bo (A2.lower F2p.inv (⟨(⟨dF x0, dF x1⟩ : F2p), (⟨dF y0, dF y1⟩ : F2p), (⟨dF z0, dF z1⟩ : F2p)⟩ : J3 F2p)).z)]))
  | _ => none
def tiCQ : List AV → Option (List Prop × AV)
  | [.v1 (.agg cs), .v1 (.agg [.ws .u64 6 x0, .ws .u64 6 x1, .ws .u64 6 y0, .ws .u64 6 y1, .ws .u64 6 z0, .ws .u64 6 z1]), .v1 (.agg [.ws .u64 6 n])] => some ([cs = fdQ, nv x0 < pN, nv x1 < pN, nv y0 < pN, nv y1 < pN, nv z0 < pN, nv z1 < pN], .v1 (.agg [.ws .u64 6 (eF (J3.times (⟨(⟨dF x0, dF x1⟩ : F2p), (⟨dF y0, dF y1⟩ : F2p), (⟨dF z0, dF z1⟩ : F2p)⟩ : J3 F2p) (blen (nv n)) (nv n)).x.x), .ws .u64 6 (eF (J3.times (⟨(⟨dF x0, dF x1⟩ : F2p), (⟨dF y0, dF y1⟩ : F2p), (⟨dF z0, dF z1⟩ : F2p)⟩ : J3 F2p) (blen (nv n)) (nv n)).x.y), .ws .u64 6 (eF (J3.times (⟨(⟨dF x0, dF x1⟩ : F2p), (⟨dF y0, dF y1⟩ : F2p), (⟨dF z0, dF z1⟩ : F2p)⟩ : J3 F2p) (blen (nv n)) (nv n)).y.x), .ws .u64 6 (eF (J3.times (⟨(⟨dF x0, dF x1⟩ : F2p), (⟨dF y0, dF y1⟩ : F2p), (⟨dF z0, dF z1⟩ : F2p)⟩ : J3 F2p) (blen (nv n)) (nv n)).y.y), .ws .u64 6 (eF (J3.times (⟨(⟨dF x0, dF x1⟩ : F2p), (⟨dF y0, dF y1⟩ : F2p), (⟨dF z0, dF z1⟩ : F2p)⟩ : J3 F2p) (blen (nv n)) (nv n)).z.x), .ws .u64 6 (eF (J3.times (⟨(⟨dF x0, dF x1⟩ : F2p), (⟨dF y0, dF y1⟩ : F2p), (⟨dF z0, dF z1⟩ : F2p)⟩ : J3 F2p) (blen (nv n)) (nv n)).z.y)]))
  | _ => none
def inCQ (r : Nat) : List AV → Option (List Prop × AV)
  | [.v1 (.agg cs), .v1 (.agg [.ws .u64 6 x0, .ws .u64 6 x1, .ws .u64 6 y0, .ws .u64 6 y1, .one (.bo z)])] => some ([cs = fdQ, nv x0 < pN, nv x1 < pN, nv y0 < pN, nv y1 < pN], .v1 (.sc (.bo (A2.isIn fourQ r (⟨(⟨dF x0, dF x1⟩ : F2p), (⟨dF y0, dF y1⟩ : F2p), z⟩ : A2 F2p)))))
  | _ => none
theorem okOnQ : (CallC.pure onCQ).Ok Try.prog 68 := by
  intro args pre v e hp
  unfold onCQ at e
  split at e
  rotate_left
  · cases e
  rename_i cs x0 x1 y0 y1 z
  cases e
  have hcs : cs = fdQ := hp _ (by simp)
  subst hcs
  have hx0 : nv x0 < pN := hp (nv x0 < pN) (by simp)
  have hx1 : nv x1 < pN := hp (nv x1 < pN) (by simp)
  have hy0 : nv y0 < pN := hp (nv y0 < pN) (by simp)
  have hy1 : nv y1 < pN := hp (nv y1 < pN) (by simp)
  refine pure_walk' tt_ok Try.func68 (by kernel_rfl) (by kernel_rfl) (by rfl) (by rfl) ?_
  cases z
  · skip
    obtain ⟨t1, ht1⟩ : ∃ q_ : F2p, q_ = (⟨dF y0, dF y1⟩ : F2p) * (⟨dF y0, dF y1⟩ : F2p) := ⟨_, rfl⟩
    obtain ⟨t2, ht2⟩ : ∃ q_ : F2p, q_ = (⟨dF x0, dF x1⟩ : F2p) * (⟨dF x0, dF x1⟩ : F2p) := ⟨_, rfl⟩
    obtain ⟨t3, ht3⟩ : ∃ q_ : F2p, q_ = t2 * (⟨dF x0, dF x1⟩ : F2p) := ⟨_, rfl⟩
    obtain ⟨t4, ht4⟩ : ∃ q_ : F2p, q_ = t3 + fourQ := ⟨_, rfl⟩
    refine evS_q mixed tt_ok GCQ_ok 100 [⟨4,6,.as [.ws .u64 6 (eF t1.x), .ws .u64 6 (eF t1.y)]⟩,⟨4,17,.as [.ws .u64 6 (eF t2.x), .ws .u64 6 (eF t2.y)]⟩,⟨4,20,.as [.ws .u64 6 (eF t3.x), .ws .u64 6 (eF t3.y)]⟩,⟨4,23,.as [.ws .u64 6 (eF t4.x), .ws .u64 6 (eF t4.y)]⟩] ?_
    refine same (p := asP [.ws .u64 6 (eF (mul2x (dF y0) (dF y1) (dF y0) (dF y1))), .ws .u64 6 (eF (mul2y (dF y0) (dF y1) (dF y0) (dF y1)))] [.ws .u64 6 (eF t1.x), .ws .u64 6 (eF t1.y)] ∧ nv y0 < pN ∧ nv y1 < pN ∧ nv y0 < pN ∧ nv y1 < pN ∧ asP [.ws .u64 6 (eF (mul2x (dF x0) (dF x1) (dF x0) (dF x1))), .ws .u64 6 (eF (mul2y (dF x0) (dF x1) (dF x0) (dF x1)))] [.ws .u64 6 (eF t2.x), .ws .u64 6 (eF t2.y)] ∧ nv x0 < pN ∧ nv x1 < pN ∧ nv x0 < pN ∧ nv x1 < pN ∧ asP [.ws .u64 6 (eF (mul2x (dF (eF t2.x)) (dF (eF t2.y)) (dF x0) (dF x1))), .ws .u64 6 (eF (mul2y (dF (eF t2.x)) (dF (eF t2.y)) (dF x0) (dF x1)))] [.ws .u64 6 (eF t3.x), .ws .u64 6 (eF t3.y)] ∧ nv (eF t2.x) < pN ∧ nv (eF t2.y) < pN ∧ nv x0 < pN ∧ nv x1 < pN ∧ asP [.ws .u64 6 (eF (add2x (dF (eF t3.x)) (dF (eF t3.y)) (dF (eF (ofN (nv (wd (4 % W)))))) (dF (eF (ofN (nv (wd (4 % W)))))))), .ws .u64 6 (eF (add2y (dF (eF t3.x)) (dF (eF t3.y)) (dF (eF (ofN (nv (wd (4 % W)))))) (dF (eF (ofN (nv (wd (4 % W))))))))] [.ws .u64 6 (eF t4.x), .ws .u64 6 (eF t4.y)] ∧ nv (eF t3.x) < pN ∧ nv (eF t3.y) < pN ∧ nv (eF (ofN (nv (wd (4 % W))))) < pN ∧ nv (eF (ofN (nv (wd (4 % W))))) < pN ∧ endN (.v1 (.sc (.bo (eqN W 6 (eF t1.x) (eF t4.x) && (eqN W 6 (eF t1.y) (eF t4.y) && true))))) (.v1 (.sc (.bo (A2.on fourQ (⟨(⟨dF x0, dF x1⟩ : F2p), (⟨dF y0, dF y1⟩ : F2p), false⟩ : A2 F2p)))))) ?_ (by kernel_rfl)
    exact ⟨as_mulQ rfl rfl rfl rfl ht1, hy0, hy1, hy0, hy1, as_mulQ rfl rfl rfl rfl ht2, hx0, hx1, hx0, hx1, as_mulQ (dF_eF _) (dF_eF _) rfl rfl ht3, lt_eF _, lt_eF _, hx0, hx1, as_addQ (dF_eF _) (dF_eF _) (dF_eF _) (dF_eF _) ht4, lt_eF _, lt_eF _, (lt_eF _), (lt_eF _), endB (by rw [eqQ (lt_eF _) (lt_eF _) (lt_eF _) (lt_eF _), dF_eF, dF_eF, dF_eF, dF_eF, on_f]; exact decide_eq_decide.2 (by rw [ht4, ht3, ht2, ht1]))⟩
  · by_cases hXX : (⟨dF x0, dF x1⟩ : F2p) = 0
    · by_cases hYY : (⟨dF y0, dF y1⟩ : F2p) = 0
      · skip
        refine evS_q mixed tt_ok GCQ_ok 100 [⟨3,3,.lit (.bo true)⟩,⟨3,8,.lit (.bo true)⟩] ?_
        refine same (p := (eqN W 6 x0 (fun _ => 0) && (eqN W 6 x1 (fun _ => 0) && true)) = true ∧ (eqN W 6 y0 (fun _ => 0) && (eqN W 6 y1 (fun _ => 0) && true)) = true ∧ endN (.v1 (.sc (.bo true))) (.v1 (.sc (.bo (A2.on fourQ (⟨(⟨dF x0, dF x1⟩ : F2p), (⟨dF y0, dF y1⟩ : F2p), true⟩ : A2 F2p)))))) ?_ (by kernel_rfl)
        exact ⟨zQ_t hx0 hx1 hXX, zQ_t hy0 hy1 hYY, endB (by rw [on_t, decide_eq_true hXX, decide_eq_true hYY]; rfl)⟩
      · skip
        refine evS_q mixed tt_ok GCQ_ok 100 [⟨3,3,.lit (.bo true)⟩,⟨3,8,.lit (.bo false)⟩] ?_
        refine same (p := (eqN W 6 x0 (fun _ => 0) && (eqN W 6 x1 (fun _ => 0) && true)) = true ∧ (eqN W 6 y0 (fun _ => 0) && (eqN W 6 y1 (fun _ => 0) && true)) = false ∧ endN (.v1 (.sc (.bo false))) (.v1 (.sc (.bo (A2.on fourQ (⟨(⟨dF x0, dF x1⟩ : F2p), (⟨dF y0, dF y1⟩ : F2p), true⟩ : A2 F2p)))))) ?_ (by kernel_rfl)
        exact ⟨zQ_t hx0 hx1 hXX, zQ_f hy0 hy1 hYY, endB (by rw [on_t, decide_eq_true hXX, decide_eq_false hYY]; rfl)⟩
    · skip
      refine evS_q mixed tt_ok GCQ_ok 100 [⟨3,3,.lit (.bo false)⟩] ?_
      refine same (p := (eqN W 6 x0 (fun _ => 0) && (eqN W 6 x1 (fun _ => 0) && true)) = false ∧ endN (.v1 (.sc (.bo false))) (.v1 (.sc (.bo (A2.on fourQ (⟨(⟨dF x0, dF x1⟩ : F2p), (⟨dF y0, dF y1⟩ : F2p), true⟩ : A2 F2p)))))) ?_ (by kernel_rfl)
      exact ⟨zQ_f hx0 hx1 hXX, endB (by rw [on_t, decide_eq_false hXX]; rfl)⟩
theorem okRaQ : (CallC.pure raCQ).Ok Try.prog 71 := by
  intro args pre v e hp
  unfold raCQ at e
  split at e
  rotate_left
  · cases e
  rename_i cs x0 x1 y0 y1 z
  cases e
  have hcs : cs = fdQ := hp _ (by simp)
  subst hcs
  have hx0 : nv x0 < pN := hp (nv x0 < pN) (by simp)
  have hx1 : nv x1 < pN := hp (nv x1 < pN) (by simp)
  have hy0 : nv y0 < pN := hp (nv y0 < pN) (by simp)
  have hy1 : nv y1 < pN := hp (nv y1 < pN) (by simp)
  refine pure_walk' tt_ok Try.func71 (by kernel_rfl) (by kernel_rfl) (by rfl) (by rfl) ?_
  cases z
  · rw [show A2.raise (⟨(⟨dF x0, dF x1⟩ : F2p), (⟨dF y0, dF y1⟩ : F2p), false⟩ : A2 F2p) = (⟨(⟨dF x0, dF x1⟩ : F2p), (⟨dF y0, dF y1⟩ : F2p), 1⟩ : J3 F2p) from rfl]
    refine evS_q mixed tt_ok GCQ_ok 100 [] ?_
    refine same (p := endN (.v1 (.agg [.ws .u64 6 x0, .ws .u64 6 x1, .ws .u64 6 y0, .ws .u64 6 y1, .ws .u64 6 oneF, .ws .u64 6 (fun _ => 0)])) (.v1 (.agg [.ws .u64 6 (eF ((⟨(⟨dF x0, dF x1⟩ : F2p), (⟨dF y0, dF y1⟩ : F2p), 1⟩ : J3 F2p)).x.x), .ws .u64 6 (eF ((⟨(⟨dF x0, dF x1⟩ : F2p), (⟨dF y0, dF y1⟩ : F2p), 1⟩ : J3 F2p)).x.y), .ws .u64 6 (eF ((⟨(⟨dF x0, dF x1⟩ : F2p), (⟨dF y0, dF y1⟩ : F2p), 1⟩ : J3 F2p)).y.x), .ws .u64 6 (eF ((⟨(⟨dF x0, dF x1⟩ : F2p), (⟨dF y0, dF y1⟩ : F2p), 1⟩ : J3 F2p)).y.y), .ws .u64 6 (eF ((⟨(⟨dF x0, dF x1⟩ : F2p), (⟨dF y0, dF y1⟩ : F2p), 1⟩ : J3 F2p)).z.x), .ws .u64 6 (eF ((⟨(⟨dF x0, dF x1⟩ : F2p), (⟨dF y0, dF y1⟩ : F2p), 1⟩ : J3 F2p)).z.y)]))) ?_ (by kernel_rfl)
    exact endC (cv_cons (nv_d hx0) (cv_cons (nv_d hx1) (cv_cons (nv_d hy0) (cv_cons (nv_d hy1) (cv_cons q1x (cv_cons q1y (cv_nil)))))))
  · rw [show A2.raise (⟨(⟨dF x0, dF x1⟩ : F2p), (⟨dF y0, dF y1⟩ : F2p), true⟩ : A2 F2p) = (⟨1, 1, 0⟩ : J3 F2p) from rfl]
    refine evS_q mixed tt_ok GCQ_ok 100 [] ?_
    refine same (p := endN (.v1 (.agg [.ws .u64 6 oneF, .ws .u64 6 (fun _ => 0), .ws .u64 6 oneF, .ws .u64 6 (fun _ => 0), .ws .u64 6 (fun _ => 0), .ws .u64 6 (fun _ => 0)])) (.v1 (.agg [.ws .u64 6 (eF ((⟨1, 1, 0⟩ : J3 F2p)).x.x), .ws .u64 6 (eF ((⟨1, 1, 0⟩ : J3 F2p)).x.y), .ws .u64 6 (eF ((⟨1, 1, 0⟩ : J3 F2p)).y.x), .ws .u64 6 (eF ((⟨1, 1, 0⟩ : J3 F2p)).y.y), .ws .u64 6 (eF ((⟨1, 1, 0⟩ : J3 F2p)).z.x), .ws .u64 6 (eF ((⟨1, 1, 0⟩ : J3 F2p)).z.y)]))) ?_ (by kernel_rfl)
    exact endC (cv_cons q1x (cv_cons q1y (cv_cons q1x (cv_cons q1y (cv_cons q0x (cv_cons q0y (cv_nil)))))))
theorem okLoQ : (CallC.pure loCQ).Ok Try.prog 69 := by
  intro args pre v e hp
  unfold loCQ at e
  split at e
  rotate_left
  · cases e
  rename_i cs x0 x1 y0 y1 z0 z1
  cases e
  have hcs : cs = fdQ := hp _ (by simp)
  subst hcs
  have hx0 : nv x0 < pN := hp (nv x0 < pN) (by simp)
  have hx1 : nv x1 < pN := hp (nv x1 < pN) (by simp)
  have hy0 : nv y0 < pN := hp (nv y0 < pN) (by simp)
  have hy1 : nv y1 < pN := hp (nv y1 < pN) (by simp)
  have hz0 : nv z0 < pN := hp (nv z0 < pN) (by simp)
  have hz1 : nv z1 < pN := hp (nv z1 < pN) (by simp)
  refine pure_walk' tt_ok Try.func69 (by kernel_rfl) (by kernel_rfl) (by rfl) (by rfl) ?_
  by_cases hZZ : (⟨dF z0, dF z1⟩ : F2p) = 0
  · have hlo : A2.lower F2p.inv (⟨(⟨dF x0, dF x1⟩ : F2p), (⟨dF y0, dF y1⟩ : F2p), (⟨dF z0, dF z1⟩ : F2p)⟩ : J3 F2p) = ⟨0, 0, true⟩ := if_pos hZZ
    rw [hlo]
    refine evS_q mixed tt_ok GCQ_ok 100 [⟨2,3,.lit (.bo true)⟩] ?_
    refine same (p := (eqN W 6 z0 (fun _ => 0) && (eqN W 6 z1 (fun _ => 0) && true)) = true ∧ endN (.v1 (.agg [.ws .u64 6 (fun _ => 0), .ws .u64 6 (fun _ => 0), .ws .u64 6 (fun _ => 0), .ws .u64 6 (fun _ => 0), .one (.bo true)])) (.v1 (.agg [.ws .u64 6 (eF ((⟨0, 0, true⟩ : A2 F2p)).x.x), .ws .u64 6 (eF ((⟨0, 0, true⟩ : A2 F2p)).x.y), .ws .u64 6 (eF ((⟨0, 0, true⟩ : A2 F2p)).y.x), .ws .u64 6 (eF ((⟨0, 0, true⟩ : A2 F2p)).y.y), .one (.bo ((⟨0, 0, true⟩ : A2 F2p)).z)]))) ?_ (by kernel_rfl)
    exact ⟨zQ_t hz0 hz1 hZZ, endC (cv_cons q0x (cv_cons q0y (cv_cons q0x (cv_cons q0y (cv_one cv_nil)))))⟩
  · have hlo : A2.lower F2p.inv (⟨(⟨dF x0, dF x1⟩ : F2p), (⟨dF y0, dF y1⟩ : F2p), (⟨dF z0, dF z1⟩ : F2p)⟩ : J3 F2p) = (⟨(⟨dF x0, dF x1⟩ : F2p) * (F2p.inv (⟨dF z0, dF z1⟩ : F2p) * F2p.inv (⟨dF z0, dF z1⟩ : F2p)), (⟨dF y0, dF y1⟩ : F2p) * ((F2p.inv (⟨dF z0, dF z1⟩ : F2p) * F2p.inv (⟨dF z0, dF z1⟩ : F2p)) * F2p.inv (⟨dF z0, dF z1⟩ : F2p)), false⟩ : A2 F2p) := if_neg hZZ
    rw [hlo]
    obtain ⟨t1, ht1⟩ : ∃ q_ : F2p, q_ = F2p.inv (⟨dF z0, dF z1⟩ : F2p) := ⟨_, rfl⟩
    obtain ⟨t2, ht2⟩ : ∃ q_ : F2p, q_ = t1 * t1 := ⟨_, rfl⟩
    obtain ⟨t3, ht3⟩ : ∃ q_ : F2p, q_ = (⟨dF x0, dF x1⟩ : F2p) * t2 := ⟨_, rfl⟩
    obtain ⟨t4, ht4⟩ : ∃ q_ : F2p, q_ = t2 * t1 := ⟨_, rfl⟩
    obtain ⟨t5, ht5⟩ : ∃ q_ : F2p, q_ = (⟨dF y0, dF y1⟩ : F2p) * t4 := ⟨_, rfl⟩
    refine evS_q mixed tt_ok GCQ_ok 100 [⟨2,3,.lit (.bo false)⟩,⟨4,4,.as [.ws .u64 6 (eF t1.x), .ws .u64 6 (eF t1.y)]⟩,⟨5,4,.as [.ws .u64 6 (eF t2.x), .ws .u64 6 (eF t2.y)]⟩,⟨6,5,.as [.ws .u64 6 (eF t3.x), .ws .u64 6 (eF t3.y)]⟩,⟨6,14,.as [.ws .u64 6 (eF t4.x), .ws .u64 6 (eF t4.y)]⟩,⟨6,15,.as [.ws .u64 6 (eF t5.x), .ws .u64 6 (eF t5.y)]⟩] ?_
    refine same (p := (eqN W 6 z0 (fun _ => 0) && (eqN W 6 z1 (fun _ => 0) && true)) = false ∧ asP [.ws .u64 6 (eF (inv2x (dF z0) (dF z1))), .ws .u64 6 (eF (inv2y (dF z0) (dF z1)))] [.ws .u64 6 (eF t1.x), .ws .u64 6 (eF t1.y)] ∧ nv z0 < pN ∧ nv z1 < pN ∧ asP [.ws .u64 6 (eF (mul2x (dF (eF t1.x)) (dF (eF t1.y)) (dF (eF t1.x)) (dF (eF t1.y)))), .ws .u64 6 (eF (mul2y (dF (eF t1.x)) (dF (eF t1.y)) (dF (eF t1.x)) (dF (eF t1.y))))] [.ws .u64 6 (eF t2.x), .ws .u64 6 (eF t2.y)] ∧ nv (eF t1.x) < pN ∧ nv (eF t1.y) < pN ∧ nv (eF t1.x) < pN ∧ nv (eF t1.y) < pN ∧ asP [.ws .u64 6 (eF (mul2x (dF x0) (dF x1) (dF (eF t2.x)) (dF (eF t2.y)))), .ws .u64 6 (eF (mul2y (dF x0) (dF x1) (dF (eF t2.x)) (dF (eF t2.y))))] [.ws .u64 6 (eF t3.x), .ws .u64 6 (eF t3.y)] ∧ nv x0 < pN ∧ nv x1 < pN ∧ nv (eF t2.x) < pN ∧ nv (eF t2.y) < pN ∧ asP [.ws .u64 6 (eF (mul2x (dF (eF t2.x)) (dF (eF t2.y)) (dF (eF t1.x)) (dF (eF t1.y)))), .ws .u64 6 (eF (mul2y (dF (eF t2.x)) (dF (eF t2.y)) (dF (eF t1.x)) (dF (eF t1.y))))] [.ws .u64 6 (eF t4.x), .ws .u64 6 (eF t4.y)] ∧ nv (eF t2.x) < pN ∧ nv (eF t2.y) < pN ∧ nv (eF t1.x) < pN ∧ nv (eF t1.y) < pN ∧ asP [.ws .u64 6 (eF (mul2x (dF y0) (dF y1) (dF (eF t4.x)) (dF (eF t4.y)))), .ws .u64 6 (eF (mul2y (dF y0) (dF y1) (dF (eF t4.x)) (dF (eF t4.y))))] [.ws .u64 6 (eF t5.x), .ws .u64 6 (eF t5.y)] ∧ nv y0 < pN ∧ nv y1 < pN ∧ nv (eF t4.x) < pN ∧ nv (eF t4.y) < pN ∧ endN (.v1 (.agg [.ws .u64 6 (eF t3.x), .ws .u64 6 (eF t3.y), .ws .u64 6 (eF t5.x), .ws .u64 6 (eF t5.y), .one (.bo false)])) (.v1 (.agg [.ws .u64 6 (eF ((⟨dF x0, dF x1⟩ : F2p) * (F2p.inv (⟨dF z0, dF z1⟩ : F2p) * F2p.inv (⟨dF z0, dF z1⟩ : F2p))).x), .ws .u64 6 (eF ((⟨dF x0, dF x1⟩ : F2p) * (F2p.inv (⟨dF z0, dF z1⟩ : F2p) * F2p.inv (⟨dF z0, dF z1⟩ : F2p))).y), .ws .u64 6 (eF ((⟨dF y0, dF y1⟩ : F2p) * ((F2p.inv (⟨dF z0, dF z1⟩ : F2p) * F2p.inv (⟨dF z0, dF z1⟩ : F2p)) * F2p.inv (⟨dF z0, dF z1⟩ : F2p))).x), .ws .u64 6 (eF ((⟨dF y0, dF y1⟩ : F2p) * ((F2p.inv (⟨dF z0, dF z1⟩ : F2p) * F2p.inv (⟨dF z0, dF z1⟩ : F2p)) * F2p.inv (⟨dF z0, dF z1⟩ : F2p))).y), .one (.bo false)]))) ?_ (by kernel_rfl)
    exact ⟨zQ_f hz0 hz1 hZZ, as_invQ rfl rfl ht1, hz0, hz1, as_mulQ (dF_eF _) (dF_eF _) (dF_eF _) (dF_eF _) ht2, lt_eF _, lt_eF _, lt_eF _, lt_eF _, as_mulQ rfl rfl (dF_eF _) (dF_eF _) ht3, hx0, hx1, lt_eF _, lt_eF _, as_mulQ (dF_eF _) (dF_eF _) (dF_eF _) (dF_eF _) ht4, lt_eF _, lt_eF _, lt_eF _, lt_eF _, as_mulQ rfl rfl (dF_eF _) (dF_eF _) ht5, hy0, hy1, lt_eF _, lt_eF _, endC (cv_cons (nv_tx (by rw [ht3, ht2, ht1])) (cv_cons (nv_ty (by rw [ht3, ht2, ht1])) (cv_cons (nv_tx (by rw [ht5, ht4, ht2, ht1])) (cv_cons (nv_ty (by rw [ht5, ht4, ht2, ht1])) (cv_one cv_nil)))))⟩
def GtiQ : Ctx := ctxL [(90, .pure (jQ1 J3.dbl)), (91, .pure (jQ2 J3.add)), (43, .pure cLen), (45, .pure cBit)]
theorem GtiQ_ok : CtxOk Try.prog GtiQ := ctxL_cons okTwQ <| ctxL_cons okSmQ <| ctxL_cons okLen <| ctxL_cons okBit ctxL_nil
abbrev VtiQ (k : Nat) : List AV := [pt 0 0, pt 1 0, pt 2 0, pt 3 0, pt 4 0, iv (predI k)]
abbrev HtiQ (x0 x1 y0 y1 z0 z1 n : Nat → Nat) (g : Nat → Nat → Nat) : Heap := [some ⟨83, fdQ, 0, 0⟩, some ⟨108, [.ws .u64 6 x0, .ws .u64 6 x1, .ws .u64 6 y0, .ws .u64 6 y1, .ws .u64 6 z0, .ws .u64 6 z1], 0, 0⟩, nb n, some ⟨108, csQ (fun _ _ => 0), 0, 0⟩, some ⟨108, csQ g, 0, 0⟩, none]
def IntiQ (P : J3 F2p) (n : Nat) (x : Nat × (Nat → Nat → Nat)) : Prop := x.1 ≤ blen n ∧ LtQ x.2 ∧ JvQ x.2 = J3.times P (blen n - x.1) (n / 2 ^ x.1)
theorem nilvQ : JvQ (of6 oneF (fun _ => 0) oneF (fun _ => 0) (fun _ => 0) (fun _ => 0)) = J3.nil := by
  rw [JvQ_of, one_Q, zero_Q]; exact nilQ.symm
theorem okTiQ : (CallC.pure tiCQ).Ok Try.prog 70 := by
  intro args pre v e hp
  unfold tiCQ at e
  split at e
  rotate_left
  · cases e
  rename_i cs x0 x1 y0 y1 z0 z1 n
  cases e
  have hcs : cs = fdQ := hp _ (by simp)
  subst hcs
  have hx0 : nv x0 < pN := hp (nv x0 < pN) (by simp)
  have hx1 : nv x1 < pN := hp (nv x1 < pN) (by simp)
  have hy0 : nv y0 < pN := hp (nv y0 < pN) (by simp)
  have hy1 : nv y1 < pN := hp (nv y1 < pN) (by simp)
  have hz0 : nv z0 < pN := hp (nv z0 < pN) (by simp)
  have hz1 : nv z1 < pN := hp (nv z1 < pN) (by simp)
  refine pure_walk' tt_ok Try.func70 (by kernel_rfl) (by kernel_rfl) (by rfl) (by rfl) ?_
  have hbl := blen_le' n
  refine loopF mixed tt_ok GtiQ_ok (by kernel_rfl) (ι := {x_ // IntiQ (⟨(⟨dF x0, dF x1⟩ : F2p), (⟨dF y0, dF y1⟩ : F2p), (⟨dF z0, dF z1⟩ : F2p)⟩ : J3 F2p) (nv n) x_}) [3,4,5,6,7,8] 33 6 (fun x_ => VtiQ x_.1.1) (fun x_ => HtiQ x0 x1 y0 y1 z0 z1 n x_.1.2) (fun x_ => x_.1.1) (fun x_ => x_.1.1 = 0)
    (fun _ => rfl) (fun _ => by kernel_rfl) (fun _ _ h => h.elim) 60 [⟨2,2,.lit (.it (predI (blen (nv n))))⟩] ?_ ?_ ?_
  · refine same (p := wrapI (Int.ofNat (blen (nv n)) - 1) = predI (blen (nv n)) ∧ true = true ∧ ∃ j : {x_ // IntiQ (⟨(⟨dF x0, dF x1⟩ : F2p), (⟨dF y0, dF y1⟩ : F2p), (⟨dF z0, dF z1⟩ : F2p)⟩ : J3 F2p) (nv n) x_}, VtiQ (blen (nv n)) = VtiQ j.1.1 ∧ HtiQ x0 x1 y0 y1 z0 z1 n (of6 oneF (fun _ => 0) oneF (fun _ => 0) (fun _ => 0) (fun _ => 0)) = HtiQ x0 x1 y0 y1 z0 z1 n j.1.2) ?_ (by kernel_rfl)
    refine ⟨predI_eq (by omega), rfl, ⟨(blen (nv n), (of6 oneF (fun _ => 0) oneF (fun _ => 0) (fun _ => 0) (fun _ => 0))), Nat.le_refl _, LtQ_of lt_one lt_zero lt_one lt_zero lt_zero lt_zero, ?_⟩, rfl, rfl⟩
    simp only
    rw [nilvQ, Nat.sub_self]; rfl
  · intro ⟨⟨k, g⟩, hk, hg, hv⟩ junk
    simp only at hk hv
    have hg : LtQ g := hg
    cases k with
    | zero =>
      refine roundF mixed tt_ok GtiQ_ok 60 [] ?_
      refine same (p := true = true ∧ ∃ j : {x_ // IntiQ (⟨(⟨dF x0, dF x1⟩ : F2p), (⟨dF y0, dF y1⟩ : F2p), (⟨dF z0, dF z1⟩ : F2p)⟩ : J3 F2p) (nv n) x_}, j.1.1 = 0 ∧ VtiQ 0 = VtiQ j.1.1 ∧ HtiQ x0 x1 y0 y1 z0 z1 n g = HtiQ x0 x1 y0 y1 z0 z1 n j.1.2) ?_ (by kernel_rfl)
      exact ⟨rfl, ⟨(0, g), hk, hg, hv⟩, rfl, rfl, rfl⟩
    | succ k =>
      have hs : wrapI (Int.ofNat k - 1) = predI k := predI_eq (by omega)
      have hhalf : nv n / 2 ^ k / 2 = nv n / 2 ^ (k + 1) := by rw [Nat.div_div_eq_div_mul, Nat.pow_succ]
      have hnext : blen (nv n) - k = (blen (nv n) - (k + 1)) + 1 := by omega
      have next : ∀ J : J3 F2p, J = J3.times (⟨(⟨dF x0, dF x1⟩ : F2p), (⟨dF y0, dF y1⟩ : F2p), (⟨dF z0, dF z1⟩ : F2p)⟩ : J3 F2p) (blen (nv n) - k) (nv n / 2 ^ k) → ∃ j : {x_ // IntiQ (⟨(⟨dF x0, dF x1⟩ : F2p), (⟨dF y0, dF y1⟩ : F2p), (⟨dF z0, dF z1⟩ : F2p)⟩ : J3 F2p) (nv n) x_}, j.1.1 < k + 1 ∧ VtiQ k = VtiQ j.1.1 ∧ HtiQ x0 x1 y0 y1 z0 z1 n (selQ J) = HtiQ x0 x1 y0 y1 z0 z1 n j.1.2 :=
        fun J h' => ⟨⟨(k, selQ J), by simp only; omega, LtQ_sel J, by simp only; rw [JvQ_sel, h']⟩, by simp only; omega, rfl, rfl⟩
      have hbit : nv n / 2 ^ k % 2 = 0 ∨ nv n / 2 ^ k % 2 = 1 := by omega
      rcases hbit with h0 | h0
      · refine roundF mixed tt_ok GtiQ_ok 60 [⟨3,1,.lit (.bo true)⟩,⟨6,3,.lit (.bo false)⟩,⟨4,1,.lit (.it (predI k))⟩] ?_
        refine same (p := (!ilt (Int.ofNat k) 0) = true ∧ fdQ = fdQ ∧ nv (g 0) < pN ∧ nv (g 1) < pN ∧ nv (g 2) < pN ∧ nv (g 3) < pN ∧ nv (g 4) < pN ∧ nv (g 5) < pN ∧ ieq (Int.ofNat (nv n / 2 ^ k % 2)) 1 = false ∧ wrapI (Int.ofNat k - 1) = predI k ∧ true = true ∧
          ∃ j : {x_ // IntiQ (⟨(⟨dF x0, dF x1⟩ : F2p), (⟨dF y0, dF y1⟩ : F2p), (⟨dF z0, dF z1⟩ : F2p)⟩ : J3 F2p) (nv n) x_}, j.1.1 < k + 1 ∧ VtiQ k = VtiQ j.1.1 ∧ HtiQ x0 x1 y0 y1 z0 z1 n (selQ (J3.dbl (JvQ g))) = HtiQ x0 x1 y0 y1 z0 z1 n j.1.2) ?_ (by kernel_rfl)
        refine ⟨ilt_nn2 k, rfl, hg.1, hg.2.1, hg.2.2.1, hg.2.2.2.1, hg.2.2.2.2.1, hg.2.2.2.2.2, by rw [h0]; rfl, hs, rfl, next _ ?_⟩
        rw [hnext, J3.times, if_neg (by omega), hhalf, hv]
      · refine roundF mixed tt_ok GtiQ_ok 60 [⟨3,1,.lit (.bo true)⟩,⟨6,3,.lit (.bo true)⟩,⟨4,1,.lit (.it (predI k))⟩] ?_
        refine same (p := (!ilt (Int.ofNat k) 0) = true ∧ fdQ = fdQ ∧ nv (g 0) < pN ∧ nv (g 1) < pN ∧ nv (g 2) < pN ∧ nv (g 3) < pN ∧ nv (g 4) < pN ∧ nv (g 5) < pN ∧ ieq (Int.ofNat (nv n / 2 ^ k % 2)) 1 = true ∧ fdQ = fdQ ∧ nv ((selQ (J3.dbl (JvQ g))) 0) < pN ∧ nv ((selQ (J3.dbl (JvQ g))) 1) < pN ∧ nv ((selQ (J3.dbl (JvQ g))) 2) < pN ∧ nv ((selQ (J3.dbl (JvQ g))) 3) < pN ∧ nv ((selQ (J3.dbl (JvQ g))) 4) < pN ∧ nv ((selQ (J3.dbl (JvQ g))) 5) < pN ∧ nv x0 < pN ∧ nv x1 < pN ∧ nv y0 < pN ∧ nv y1 < pN ∧ nv z0 < pN ∧ nv z1 < pN ∧ wrapI (Int.ofNat k - 1) = predI k ∧ true = true ∧
          ∃ j : {x_ // IntiQ (⟨(⟨dF x0, dF x1⟩ : F2p), (⟨dF y0, dF y1⟩ : F2p), (⟨dF z0, dF z1⟩ : F2p)⟩ : J3 F2p) (nv n) x_}, j.1.1 < k + 1 ∧ VtiQ k = VtiQ j.1.1 ∧ HtiQ x0 x1 y0 y1 z0 z1 n (selQ (J3.add (JvQ (selQ (J3.dbl (JvQ g)))) (⟨(⟨dF x0, dF x1⟩ : F2p), (⟨dF y0, dF y1⟩ : F2p), (⟨dF z0, dF z1⟩ : F2p)⟩ : J3 F2p))) = HtiQ x0 x1 y0 y1 z0 z1 n j.1.2) ?_ (by kernel_rfl)
        refine ⟨ilt_nn2 k, rfl, hg.1, hg.2.1, hg.2.2.1, hg.2.2.2.1, hg.2.2.2.2.1, hg.2.2.2.2.2, by rw [h0]; rfl, rfl, lt_eF _, lt_eF _, lt_eF _, lt_eF _, lt_eF _, lt_eF _, hx0, hx1, hy0, hy1, hz0, hz1, hs, rfl, next _ ?_⟩
        rw [JvQ_sel, hnext, J3.times, if_pos h0, hhalf, hv]
  · intro ⟨⟨k, g⟩, hk, hg, hv⟩ junk h0
    simp only at hk hv h0
    have hg : LtQ g := hg
    subst h0
    rw [Nat.sub_zero, Nat.pow_zero, Nat.div_one] at hv
    refine same (p := endN (.v1 (.agg (csQ g))) (.v1 (.agg [.ws .u64 6 (eF (J3.times (⟨(⟨dF x0, dF x1⟩ : F2p), (⟨dF y0, dF y1⟩ : F2p), (⟨dF z0, dF z1⟩ : F2p)⟩ : J3 F2p) (blen (nv n)) (nv n)).x.x), .ws .u64 6 (eF (J3.times (⟨(⟨dF x0, dF x1⟩ : F2p), (⟨dF y0, dF y1⟩ : F2p), (⟨dF z0, dF z1⟩ : F2p)⟩ : J3 F2p) (blen (nv n)) (nv n)).x.y), .ws .u64 6 (eF (J3.times (⟨(⟨dF x0, dF x1⟩ : F2p), (⟨dF y0, dF y1⟩ : F2p), (⟨dF z0, dF z1⟩ : F2p)⟩ : J3 F2p) (blen (nv n)) (nv n)).y.x), .ws .u64 6 (eF (J3.times (⟨(⟨dF x0, dF x1⟩ : F2p), (⟨dF y0, dF y1⟩ : F2p), (⟨dF z0, dF z1⟩ : F2p)⟩ : J3 F2p) (blen (nv n)) (nv n)).y.y), .ws .u64 6 (eF (J3.times (⟨(⟨dF x0, dF x1⟩ : F2p), (⟨dF y0, dF y1⟩ : F2p), (⟨dF z0, dF z1⟩ : F2p)⟩ : J3 F2p) (blen (nv n)) (nv n)).z.x), .ws .u64 6 (eF (J3.times (⟨(⟨dF x0, dF x1⟩ : F2p), (⟨dF y0, dF y1⟩ : F2p), (⟨dF z0, dF z1⟩ : F2p)⟩ : J3 F2p) (blen (nv n)) (nv n)).z.y)]))) ?_ (by kernel_rfl)
    rw [← hv]
    exact endC (cv_cons (nv_d hg.1) (cv_cons (nv_d hg.2.1) (cv_cons (nv_d hg.2.2.1) (cv_cons (nv_d hg.2.2.2.1) (cv_cons (nv_d hg.2.2.2.2.1) (cv_cons (nv_d hg.2.2.2.2.2) cv_nil))))))
def GinQ : List (Nat × CallC) := [(68, .pure onCQ), (71, .pure raCQ), (70, .pure tiCQ), (69, .pure loCQ), (66, .pure (cK orderF))]
theorem GinQ_ok : CtxOk Try.prog (ctxL GinQ) := ctxL_cons okOnQ <| ctxL_cons okRaQ <| ctxL_cons okTiQ <| ctxL_cons okLoQ <| ctxL_cons okOrderF ctxL_nil
theorem okInQ : (CallC.pure (inCQ rNm)).Ok Try.prog 39 := by
  intro args pre v e hp
  unfold inCQ at e
  split at e
  rotate_left
  · cases e
  rename_i cs x0 x1 y0 y1 z
  cases e
  have hcs : cs = fdQ := hp _ (by simp)
  subst hcs
  have hx0 : nv x0 < pN := hp (nv x0 < pN) (by simp)
  have hx1 : nv x1 < pN := hp (nv x1 < pN) (by simp)
  have hy0 : nv y0 < pN := hp (nv y0 < pN) (by simp)
  have hy1 : nv y1 < pN := hp (nv y1 < pN) (by simp)
  refine pure_walk' tt_ok Try.func39 (by kernel_rfl) (by kernel_rfl) (by rfl) (by rfl) ?_
  cases ho : A2.on fourQ (⟨(⟨dF x0, dF x1⟩ : F2p), (⟨dF y0, dF y1⟩ : F2p), z⟩ : A2 F2p)
  · refine evS_q mixed tt_ok GinQ_ok 60 [⟨1,2,.lit (.bo false)⟩] (same (p := A2.on fourQ (⟨(⟨dF x0, dF x1⟩ : F2p), (⟨dF y0, dF y1⟩ : F2p), z⟩ : A2 F2p) = false ∧ fdQ = fdQ ∧ nv x0 < pN ∧ nv x1 < pN ∧ nv y0 < pN ∧ nv y1 < pN ∧ endN (.v1 (.sc (.bo false))) (.v1 (.sc (.bo (A2.isIn fourQ rNm (⟨(⟨dF x0, dF x1⟩ : F2p), (⟨dF y0, dF y1⟩ : F2p), z⟩ : A2 F2p)))))) ?_ (by kernel_rfl))
    exact ⟨ho, rfl, hx0, hx1, hy0, hy1, endB (by unfold A2.isIn; rw [ho]; rfl)⟩
  · refine evS_q mixed tt_ok GinQ_ok 60 [⟨1,2,.lit (.bo true)⟩] (same (p := A2.on fourQ (⟨(⟨dF x0, dF x1⟩ : F2p), (⟨dF y0, dF y1⟩ : F2p), z⟩ : A2 F2p) = true ∧ fdQ = fdQ ∧ nv x0 < pN ∧ nv x1 < pN ∧ nv y0 < pN ∧ nv y1 < pN ∧ fdQ = fdQ ∧ nv x0 < pN ∧ nv x1 < pN ∧ nv y0 < pN ∧ nv y1 < pN ∧ fdQ = fdQ ∧ nv ((selQ (A2.raise (⟨(⟨dF x0, dF x1⟩ : F2p), (⟨dF y0, dF y1⟩ : F2p), z⟩ : A2 F2p))) 0) < pN ∧ nv ((selQ (A2.raise (⟨(⟨dF x0, dF x1⟩ : F2p), (⟨dF y0, dF y1⟩ : F2p), z⟩ : A2 F2p))) 1) < pN ∧ nv ((selQ (A2.raise (⟨(⟨dF x0, dF x1⟩ : F2p), (⟨dF y0, dF y1⟩ : F2p), z⟩ : A2 F2p))) 2) < pN ∧ nv ((selQ (A2.raise (⟨(⟨dF x0, dF x1⟩ : F2p), (⟨dF y0, dF y1⟩ : F2p), z⟩ : A2 F2p))) 3) < pN ∧ nv ((selQ (A2.raise (⟨(⟨dF x0, dF x1⟩ : F2p), (⟨dF y0, dF y1⟩ : F2p), z⟩ : A2 F2p))) 4) < pN ∧ nv ((selQ (A2.raise (⟨(⟨dF x0, dF x1⟩ : F2p), (⟨dF y0, dF y1⟩ : F2p), z⟩ : A2 F2p))) 5) < pN ∧ fdQ = fdQ ∧ nv ((selQ (J3.times (JvQ (selQ (A2.raise (⟨(⟨dF x0, dF x1⟩ : F2p), (⟨dF y0, dF y1⟩ : F2p), z⟩ : A2 F2p)))) (blen (nv orderF)) (nv orderF))) 0) < pN ∧ nv ((selQ (J3.times (JvQ (selQ (A2.raise (⟨(⟨dF x0, dF x1⟩ : F2p), (⟨dF y0, dF y1⟩ : F2p), z⟩ : A2 F2p)))) (blen (nv orderF)) (nv orderF))) 1) < pN ∧ nv ((selQ (J3.times (JvQ (selQ (A2.raise (⟨(⟨dF x0, dF x1⟩ : F2p), (⟨dF y0, dF y1⟩ : F2p), z⟩ : A2 F2p)))) (blen (nv orderF)) (nv orderF))) 2) < pN ∧ nv ((selQ (J3.times (JvQ (selQ (A2.raise (⟨(⟨dF x0, dF x1⟩ : F2p), (⟨dF y0, dF y1⟩ : F2p), z⟩ : A2 F2p)))) (blen (nv orderF)) (nv orderF))) 3) < pN ∧ nv ((selQ (J3.times (JvQ (selQ (A2.raise (⟨(⟨dF x0, dF x1⟩ : F2p), (⟨dF y0, dF y1⟩ : F2p), z⟩ : A2 F2p)))) (blen (nv orderF)) (nv orderF))) 4) < pN ∧ nv ((selQ (J3.times (JvQ (selQ (A2.raise (⟨(⟨dF x0, dF x1⟩ : F2p), (⟨dF y0, dF y1⟩ : F2p), z⟩ : A2 F2p)))) (blen (nv orderF)) (nv orderF))) 5) < pN ∧ endN (.v1 (.sc (.bo (A2.lower F2p.inv (JvQ (selQ (J3.times (JvQ (selQ (A2.raise (⟨(⟨dF x0, dF x1⟩ : F2p), (⟨dF y0, dF y1⟩ : F2p), z⟩ : A2 F2p)))) (blen (nv orderF)) (nv orderF))))).z))) (.v1 (.sc (.bo (A2.isIn fourQ rNm (⟨(⟨dF x0, dF x1⟩ : F2p), (⟨dF y0, dF y1⟩ : F2p), z⟩ : A2 F2p)))))) ?_ (by kernel_rfl))
    refine ⟨ho, rfl, hx0, hx1, hy0, hy1, rfl, hx0, hx1, hy0, hy1, rfl, lt_eF _, lt_eF _, lt_eF _, lt_eF _, lt_eF _, lt_eF _, rfl, lt_eF _, lt_eF _, lt_eF _, lt_eF _, lt_eF _, lt_eF _, endB ?_⟩
    have e0 : JvQ (selQ (A2.raise (⟨(⟨dF x0, dF x1⟩ : F2p), (⟨dF y0, dF y1⟩ : F2p), z⟩ : A2 F2p))) = A2.raise (⟨(⟨dF x0, dF x1⟩ : F2p), (⟨dF y0, dF y1⟩ : F2p), z⟩ : A2 F2p) := JvQ_sel _
    have e1 : J3.times (JvQ (selQ (A2.raise (⟨(⟨dF x0, dF x1⟩ : F2p), (⟨dF y0, dF y1⟩ : F2p), z⟩ : A2 F2p)))) (blen (nv orderF)) (nv orderF) = J3.times (A2.raise (⟨(⟨dF x0, dF x1⟩ : F2p), (⟨dF y0, dF y1⟩ : F2p), z⟩ : A2 F2p)) (blen (nv orderF)) (nv orderF) := congrArg (fun q => J3.times q (blen (nv orderF)) (nv orderF)) e0
    have e2 : JvQ (selQ (J3.times (JvQ (selQ (A2.raise (⟨(⟨dF x0, dF x1⟩ : F2p), (⟨dF y0, dF y1⟩ : F2p), z⟩ : A2 F2p)))) (blen (nv orderF)) (nv orderF))) = J3.times (JvQ (selQ (A2.raise (⟨(⟨dF x0, dF x1⟩ : F2p), (⟨dF y0, dF y1⟩ : F2p), z⟩ : A2 F2p)))) (blen (nv orderF)) (nv orderF) := JvQ_sel _
    have e4 : J3.times (A2.raise (⟨(⟨dF x0, dF x1⟩ : F2p), (⟨dF y0, dF y1⟩ : F2p), z⟩ : A2 F2p)) (blen (nv orderF)) (nv orderF) = J3.times (A2.raise (⟨(⟨dF x0, dF x1⟩ : F2p), (⟨dF y0, dF y1⟩ : F2p), z⟩ : A2 F2p)) (blen rNm) rNm := by rw [nv_order]
    have e3 : (A2.lower F2p.inv (JvQ (selQ (J3.times (JvQ (selQ (A2.raise (⟨(⟨dF x0, dF x1⟩ : F2p), (⟨dF y0, dF y1⟩ : F2p), z⟩ : A2 F2p)))) (blen (nv orderF)) (nv orderF))))).z = decide ((J3.times (A2.raise (⟨(⟨dF x0, dF x1⟩ : F2p), (⟨dF y0, dF y1⟩ : F2p), z⟩ : A2 F2p)) (blen rNm) rNm).z = 0) := (lower_z F2p.inv _).trans (congrArg (fun q : J3 F2p => decide (q.z = 0)) (e2.trans (e1.trans e4)))
    refine e3.trans ?_
    unfold A2.isIn A2.mulJ
    rw [ho, Bool.true_and]
end Go.Proofs.Ytnjocbcjejpklaa

/- Points as they are told: below p, of the groups. -/
namespace Go.Proofs.Ytnjocbcjejpklaa
open Go.Rq Go
set_option maxRecDepth 100000
set_option linter.unusedVariables false
set_option linter.unusedSimpArgs false
set_option maxHeartbeats 4000000

def blB (a : Nat → Nat) : Bool := Nat.blt (nv a) pN
def cBl : List AV → Option (List Prop × AV)
  | [.v1 (.agg [.ws .u64 6 a])] => some ([], .v1 (.sc (.bo (blB a))))
  | _ => none
def GBl : Ctx := ctxL [(79, .pure (cK primeF)), (78, .pure cCmp)]
theorem GBl_ok : CtxOk Try.prog GBl := ctxL_cons okBase <| ctxL_cons okCmp ctxL_nil
theorem cmp_bl (a : Nat → Nat) : ilt (cmpI (nv a) (nv primeF)) 0 = blB a := by
  unfold blB cmpI
  rw [nv_prime]
  cases Nat.blt (nv a) pN
  · cases Nat.blt pN (nv a) <;> rfl
  · rfl
theorem okBl : (CallC.pure cBl).Ok Try.prog 56 := by
  intro args pre v e hp
  unfold cBl at e
  split at e
  rotate_left
  · cases e
  rename_i a
  cases e
  refine pure_walk' tt_ok Try.func56 (by kernel_rfl) (by kernel_rfl) (by rfl) (by rfl) ?_
  refine evS_q mixed tt_ok GBl_ok 60 [] (same (p := endN (.v1 (.sc (.bo (ilt (cmpI (nv a) (nv primeF)) 0)))) (.v1 (.sc (.bo (blB a))))) ?_ (by kernel_rfl))
  exact endB (cmp_bl a)
abbrev p1V (x y : Nat → Nat) (z : Bool) : AV := .v1 (.agg [.ws .u64 6 x, .ws .u64 6 y, .one (.bo z)])
abbrev p2V (x0 x1 y0 y1 : Nat → Nat) (z : Bool) : AV := .v1 (.agg [.ws .u64 6 x0, .ws .u64 6 x1, .ws .u64 6 y0, .ws .u64 6 y1, .one (.bo z)])
def GB1 : Ctx := ctxL [(56, .pure cBl)]
theorem GB1_ok : CtxOk Try.prog GB1 := ctxL_cons okBl ctxL_nil
def cB1 : List AV → Option (List Prop × AV)
  | [.v1 (.agg [.ws .u64 6 x, .ws .u64 6 y, .one (.bo z)])] => some ([], .v1 (.sc (.bo (blB x && blB y))))
  | _ => none
theorem okB1 : (CallC.pure cB1).Ok Try.prog 33 := by
  intro args pre v e hp
  unfold cB1 at e
  split at e
  rotate_left
  · cases e
  rename_i x y z
  cases e
  refine pure_walk' tt_ok Try.func33 (by kernel_rfl) (by kernel_rfl) (by rfl) (by rfl) ?_
  cases h : blB x
  · refine evS_q mixed tt_ok GB1_ok 60 [⟨1,2,.lit (.bo false)⟩] (same (p := blB x = false ∧ endN (.v1 (.sc (.bo false))) (.v1 (.sc (.bo (false && blB y))))) ?_ (by kernel_rfl))
    exact ⟨h, endB rfl⟩
  · refine evS_q mixed tt_ok GB1_ok 60 [⟨1,2,.lit (.bo true)⟩] (same (p := blB x = true ∧ endN (.v1 (.sc (.bo (blB y)))) (.v1 (.sc (.bo (true && blB y))))) ?_ (by kernel_rfl))
    exact ⟨h, endB rfl⟩
def cB2 : List AV → Option (List Prop × AV)
  | [.v1 (.agg [.ws .u64 6 x0, .ws .u64 6 x1, .ws .u64 6 y0, .ws .u64 6 y1, .one (.bo z)])] => some ([], .v1 (.sc (.bo (blB x0 && (blB x1 && (blB y0 && blB y1))))))
  | _ => none
theorem okB2 : (CallC.pure cB2).Ok Try.prog 37 := by
  intro args pre v e hp
  unfold cB2 at e
  split at e
  rotate_left
  · cases e
  rename_i x0 x1 y0 y1 z
  cases e
  refine pure_walk' tt_ok Try.func37 (by kernel_rfl) (by kernel_rfl) (by rfl) (by rfl) ?_
  cases h : blB x0
  · refine evS_q mixed tt_ok GB1_ok 60 [⟨1,3,.lit (.bo false)⟩] (same (p := blB x0 = false ∧ endN (.v1 (.sc (.bo false))) (.v1 (.sc (.bo (false && (blB x1 && (blB y0 && blB y1))))))) ?_ (by kernel_rfl))
    exact ⟨h, endB rfl⟩
  · cases h2 : blB x1
    · refine evS_q mixed tt_ok GB1_ok 60 [⟨1,3,.lit (.bo true)⟩,⟨1,8,.lit (.bo false)⟩] (same (p := blB x0 = true ∧ blB x1 = false ∧ endN (.v1 (.sc (.bo false))) (.v1 (.sc (.bo (true && (false && (blB y0 && blB y1))))))) ?_ (by kernel_rfl))
      exact ⟨h, h2, endB rfl⟩
    · cases h3 : blB y0
      · refine evS_q mixed tt_ok GB1_ok 60 [⟨1,3,.lit (.bo true)⟩,⟨1,8,.lit (.bo true)⟩,⟨1,14,.lit (.bo false)⟩] (same (p := blB x0 = true ∧ blB x1 = true ∧ blB y0 = false ∧ endN (.v1 (.sc (.bo false))) (.v1 (.sc (.bo (true && (true && (false && blB y1))))))) ?_ (by kernel_rfl))
        exact ⟨h, h2, h3, endB rfl⟩
      · refine evS_q mixed tt_ok GB1_ok 60 [⟨1,3,.lit (.bo true)⟩,⟨1,8,.lit (.bo true)⟩,⟨1,14,.lit (.bo true)⟩] (same (p := blB x0 = true ∧ blB x1 = true ∧ blB y0 = true ∧ endN (.v1 (.sc (.bo (blB y1)))) (.v1 (.sc (.bo (true && (true && (true && blB y1))))))) ?_ (by kernel_rfl))
        exact ⟨h, h2, h3, endB rfl⟩
/-! the fields -/
def cFld (cs : List Cell) : List AV → Option (List Prop × AV)
  | [] => some ([], .v1 (.agg cs))
  | _ => none
def GF1 : Ctx := ctxL [(61, .pure (cK oneF)), (15, .pure cOf), (42, .pure cTo), (41, .pure (c2 oneF (fun _ => 0)))]
theorem GF1_ok : CtxOk Try.prog GF1 := ctxL_cons okOne0 <| ctxL_cons okOf <| ctxL_cons okTo <| ctxL_cons okOne2 ctxL_nil
theorem okFirst : (CallC.pure (cFld fdE)).Ok Try.prog 34 := by
  intro args pre v e hp
  unfold cFld at e
  split at e
  rotate_left
  · cases e
  cases e
  have hno : ∀ h, CallOk Try.prog 34 [] h (.v1 (.agg fdE)) h := by
    refine pure_walk' tt_ok Try.func34 (by kernel_rfl) (by kernel_rfl) (by rfl) (by kernel_rfl) ?_
    refine evS_q mixed tt_ok GF1_ok 60 [] (same (p := endN (.v1 (.agg fdE)) (.v1 (.agg fdE))) ⟨_, rfl, fun _ => rfl⟩ (by kernel_rfl))
  exact hno
end Go.Proofs.Ytnjocbcjejpklaa

/- Points as they are told: of the groups. -/
namespace Go.Proofs.Ytnjocbcjejpklaa
open Go.Rq Go
set_option maxRecDepth 100000
set_option linter.unusedVariables false
set_option linter.unusedSimpArgs false
set_option maxHeartbeats 4000000

theorem okSecond : (CallC.pure (cFld fdQ)).Ok Try.prog 38 := by
  intro args pre v e hp
  unfold cFld at e
  split at e
  rotate_left
  · cases e
  cases e
  have hno : ∀ h, CallOk Try.prog 38 [] h (.v1 (.agg fdQ)) h := by
    refine pure_walk' tt_ok Try.func38 (by kernel_rfl) (by kernel_rfl) (by rfl) (by kernel_rfl) ?_
    refine evS_q mixed tt_ok GF1_ok 60 [] (same (p := endN (.v1 (.agg fdQ)) (.v1 (.agg fdQ))) ⟨_, rfl, fun _ => rfl⟩ (by kernel_rfl))
  exact hno
def cI1 : List AV → Option (List Prop × AV)
  | [.v1 (.agg [.ws .u64 6 x, .ws .u64 6 y, .one (.bo z)])] => some ([], .v1 (.agg [.ws .u64 6 (eF (gN x)), .ws .u64 6 (eF (gN y)), .one (.bo z)]))
  | _ => none
def cI2 : List AV → Option (List Prop × AV)
  | [.v1 (.agg [.ws .u64 6 x0, .ws .u64 6 x1, .ws .u64 6 y0, .ws .u64 6 y1, .one (.bo z)])] => some ([], .v1 (.agg [.ws .u64 6 (eF (gN x0)), .ws .u64 6 (eF (gN x1)), .ws .u64 6 (eF (gN y0)), .ws .u64 6 (eF (gN y1)), .one (.bo z)]))
  | _ => none
def GI1 : Ctx := ctxL [(42, .pure cTo), (20, .pure cTo2)]
theorem GI1_ok : CtxOk Try.prog GI1 := ctxL_cons okTo <| ctxL_cons okTo2 ctxL_nil
theorem okI1 : (CallC.pure cI1).Ok Try.prog 36 := by
  intro args pre v e hp
  unfold cI1 at e
  split at e
  rotate_left
  · cases e
  rename_i x y z
  cases e
  refine pure_walk' tt_ok Try.func36 (by kernel_rfl) (by kernel_rfl) (by rfl) (by rfl) ?_
  refine evS_q mixed tt_ok GI1_ok 60 [] (same (p := endN (.v1 (.agg [.ws .u64 6 (eF (gN x)), .ws .u64 6 (eF (gN y)), .one (.bo z)])) (.v1 (.agg [.ws .u64 6 (eF (gN x)), .ws .u64 6 (eF (gN y)), .one (.bo z)]))) ⟨_, rfl, fun _ => rfl⟩ (by kernel_rfl))
theorem okI2 : (CallC.pure cI2).Ok Try.prog 40 := by
  intro args pre v e hp
  unfold cI2 at e
  split at e
  rotate_left
  · cases e
  rename_i x0 x1 y0 y1 z
  cases e
  refine pure_walk' tt_ok Try.func40 (by kernel_rfl) (by kernel_rfl) (by rfl) (by rfl) ?_
  refine evS_q mixed tt_ok GI1_ok 60 [] (same (p := endN (.v1 (.agg [.ws .u64 6 (eF (gN x0)), .ws .u64 6 (eF (gN x1)), .ws .u64 6 (eF (gN y0)), .ws .u64 6 (eF (gN y1)), .one (.bo z)])) (.v1 (.agg [.ws .u64 6 (eF (gN x0)), .ws .u64 6 (eF (gN x1)), .ws .u64 6 (eF (gN y0)), .ws .u64 6 (eF (gN y1)), .one (.bo z)]))) ⟨_, rfl, fun _ => rfl⟩ (by kernel_rfl))
/-! In1, In2 -/
def isE (x y : Nat → Nat) (z : Bool) : Bool := A2.isIn fourE rNm ⟨gN x, gN y, z⟩
def isQ (x0 x1 y0 y1 : Nat → Nat) (z : Bool) : Bool := A2.isIn fourQ rNm ⟨⟨gN x0, gN x1⟩, ⟨gN y0, gN y1⟩, z⟩
def lo1 (x y : Nat → Nat) : Bool := blB x && blB y
def lo2 (x0 x1 y0 y1 : Nat → Nat) : Bool := blB x0 && (blB x1 && (blB y0 && blB y1))
def cLo1 : List AV → Option (List Prop × AV)
  | [.v1 (.agg [.ws .u64 6 x, .ws .u64 6 y, .one (.bo z)])] => some ([], .v1 (.sc (.bo (lo1 x y))))
  | _ => none
def cLo2 : List AV → Option (List Prop × AV)
  | [.v1 (.agg [.ws .u64 6 x0, .ws .u64 6 x1, .ws .u64 6 y0, .ws .u64 6 y1, .one (.bo z)])] => some ([], .v1 (.sc (.bo (lo2 x0 x1 y0 y1))))
  | _ => none
theorem okLo1 : (CallC.pure cLo1).Ok Try.prog 33 := okB1
theorem okLo2 : (CallC.pure cLo2).Ok Try.prog 37 := okB2
def cIn1 : List AV → Option (List Prop × AV)
  | [.v1 (.agg [.ws .u64 6 x, .ws .u64 6 y, .one (.bo z)])] => some ([], .v1 (.sc (.bo (lo1 x y && isE x y z))))
  | _ => none
def cIn2 : List AV → Option (List Prop × AV)
  | [.v1 (.agg [.ws .u64 6 x0, .ws .u64 6 x1, .ws .u64 6 y0, .ws .u64 6 y1, .one (.bo z)])] => some ([], .v1 (.sc (.bo (lo2 x0 x1 y0 y1 && isQ x0 x1 y0 y1 z))))
  | _ => none
def GIn1 : Ctx := ctxL [(33, .pure cLo1), (34, .pure (cFld fdE)), (36, .pure cI1), (35, .pure (inCE rNm))]
theorem GIn1_ok : CtxOk Try.prog GIn1 := ctxL_cons okLo1 <| ctxL_cons okFirst <| ctxL_cons okI1 <| ctxL_cons okInE ctxL_nil
def GIn2 : Ctx := ctxL [(37, .pure cLo2), (38, .pure (cFld fdQ)), (40, .pure cI2), (39, .pure (inCQ rNm))]
theorem GIn2_ok : CtxOk Try.prog GIn2 := ctxL_cons okLo2 <| ctxL_cons okSecond <| ctxL_cons okI2 <| ctxL_cons okInQ ctxL_nil
theorem isE_eq (x y : Nat → Nat) (z : Bool) : A2.isIn fourE rNm ⟨dF (eF (gN x)), dF (eF (gN y)), z⟩ = isE x y z := by rw [dF_eF, dF_eF]; rfl
theorem isQ_eq (x0 x1 y0 y1 : Nat → Nat) (z : Bool) : A2.isIn fourQ rNm ⟨⟨dF (eF (gN x0)), dF (eF (gN x1))⟩, ⟨dF (eF (gN y0)), dF (eF (gN y1))⟩, z⟩ = isQ x0 x1 y0 y1 z := by rw [dF_eF, dF_eF, dF_eF, dF_eF]; rfl
theorem okIn1 : (CallC.pure cIn1).Ok Try.prog 16 := by
  intro args pre v e hp
  unfold cIn1 at e
  split at e
  rotate_left
  · cases e
  rename_i x y z
  cases e
  refine pure_walk' tt_ok Try.func16 (by kernel_rfl) (by kernel_rfl) (by rfl) (by rfl) ?_
  cases h : lo1 x y
  · refine evS_q mixed tt_ok GIn1_ok 60 [⟨1,2,.lit (.bo false)⟩] (same (p := lo1 x y = false ∧ endN (.v1 (.sc (.bo false))) (.v1 (.sc (.bo (false && isE x y z))))) ?_ (by kernel_rfl))
    exact ⟨h, endB rfl⟩
  · refine evS_q mixed tt_ok GIn1_ok 60 [⟨1,2,.lit (.bo true)⟩] (same (p := lo1 x y = true ∧ fdE = fdE ∧ nv (eF (gN x)) < pN ∧ nv (eF (gN y)) < pN ∧ endN (.v1 (.sc (.bo (A2.isIn fourE rNm ⟨dF (eF (gN x)), dF (eF (gN y)), z⟩)))) (.v1 (.sc (.bo (true && isE x y z))))) ?_ (by kernel_rfl))
    exact ⟨h, rfl, lt_eF _, lt_eF _, endB (by rw [isE_eq, Bool.true_and])⟩
theorem okIn2 : (CallC.pure cIn2).Ok Try.prog 17 := by
  intro args pre v e hp
  unfold cIn2 at e
  split at e
  rotate_left
  · cases e
  rename_i x0 x1 y0 y1 z
  cases e
  refine pure_walk' tt_ok Try.func17 (by kernel_rfl) (by kernel_rfl) (by rfl) (by rfl) ?_
  cases h : lo2 x0 x1 y0 y1
  · refine evS_q mixed tt_ok GIn2_ok 60 [⟨1,2,.lit (.bo false)⟩] (same (p := lo2 x0 x1 y0 y1 = false ∧ endN (.v1 (.sc (.bo false))) (.v1 (.sc (.bo (false && isQ x0 x1 y0 y1 z))))) ?_ (by kernel_rfl))
    exact ⟨h, endB rfl⟩
  · refine evS_q mixed tt_ok GIn2_ok 60 [⟨1,2,.lit (.bo true)⟩] (same (p := lo2 x0 x1 y0 y1 = true ∧ fdQ = fdQ ∧ nv (eF (gN x0)) < pN ∧ nv (eF (gN x1)) < pN ∧ nv (eF (gN y0)) < pN ∧ nv (eF (gN y1)) < pN ∧ endN (.v1 (.sc (.bo (A2.isIn fourQ rNm ⟨⟨dF (eF (gN x0)), dF (eF (gN x1))⟩, ⟨dF (eF (gN y0)), dF (eF (gN y1))⟩, z⟩)))) (.v1 (.sc (.bo (true && isQ x0 x1 y0 y1 z))))) ?_ (by kernel_rfl))
    exact ⟨h, rfl, lt_eF _, lt_eF _, lt_eF _, lt_eF _, endB (by rw [isQ_eq, Bool.true_and])⟩
end Go.Proofs.Ytnjocbcjejpklaa
