/- reliquarylaw01.WordsTell answers true at every input, and leaves it as it was. Conditions: none. -/
import Derived.Test.YtiaongfgkmbaaaaRows
import Derived.Test.YtiaongfgkmbaaaaW6
import Derived.Test.YtiaongfgkmbaaaaFwO
import Derived.ProofKit
namespace Go.Proofs.Ytiaongfgkmbaaaa
open Go.Rq Go Go.ChangeShapes Go.WideShapes Go.ChangeAt Go.RowKit

theorem Try.own : ownKnob Try.prog.godebug = none := by kernel_rfl
theorem Try.cells24 : Try.prog.cellsOf 24 = 6 := by kernel_rfl
theorem Try.cells22 : Try.prog.cellsOf 22 = 1 := by kernel_rfl

theorem list6 {α : Type} (l : List α) (h : l.length = 6) : ∃ a b c d e f, l = [a, b, c, d, e, f] := by
  match l, h with
  | [a, b, c, d, e, f], _ => exact ⟨a, b, c, d, e, f, rfl⟩
theorem u64_lit {z : Int} (h : (Lit.int .u64 z).wf = true) : Int.ofNat (z.toNat % W) = z := by
  simp only [Lit.wf, IntKind.min, IntKind.max, IntKind.signed, IntKind.bits, Bool.and_eq_true] at h
  simp only [W, Int.ofNat_eq_natCast]
  simp at h
  omega

/-- A number of six words, opened. -/
theorem num_open {H : Type} {enc : TypeId × Value → H} {Wd : World} {base b0 : Nat} {sp : Nat → Bool} {hd : Bool} {v : Value} {d : DataW H} {p : List MemPlace}
    (h : DataW.Trod enc Try.prog Wd base sp hd 24 v d p) (hv : Value.okWide Try.prog Wd .any b0 24 v) :
    ∃ a : Nat → Nat, v = (AV.v1 (.agg [.ws .u64 6 a])).val (fun _ => 0) ∧ p = [] ∧ ∀ (W' : World) (b : Nat) (sp : Nat → Bool) (hd : Bool), DataW.Trod enc Try.prog W' b sp hd 24 v d [] := by
  obtain ⟨cs, rfl, hsz⟩ : ∃ cs, v = .agg cs ∧ cs.size = Try.prog.cellsOf 24 := by
    have := hv
    simp [Value.okWide, Try.underlying24] at this
    obtain ⟨cs, h1, h2, _⟩ := this
    exact ⟨cs, h1, h2⟩
  rw [Try.cells24] at hsz
  obtain ⟨l⟩ := cs
  obtain ⟨c0, c1, c2, c3, c4, c5, rfl⟩ := list6 l hsz
  obtain ⟨fuel, hf⟩ := h
  obtain ⟨xs, m, _, hx, _, hl, hi⟩ := DataW.trod_array Try.underlying24 hf
  obtain ⟨y0, y1, y2, y3, y4, y5, rfl⟩ := list6 xs hl
  rw [Try.cells22] at hi
  have i0 := hi 0 (by omega)
  have i1 := hi 1 (by omega)
  have i2 := hi 2 (by omega)
  have i3 := hi 3 (by omega)
  have i4 := hi 4 (by omega)
  have i5 := hi 5 (by omega)
  obtain ⟨x0, e0, rfl, w0⟩ := DataW.trod_int Try.underlying22 i0
  obtain ⟨x1, e1, rfl, w1⟩ := DataW.trod_int Try.underlying22 i1
  obtain ⟨x2, e2, rfl, w2⟩ := DataW.trod_int Try.underlying22 i2
  obtain ⟨x3, e3, rfl, w3⟩ := DataW.trod_int Try.underlying22 i3
  obtain ⟨x4, e4, rfl, w4⟩ := DataW.trod_int Try.underlying22 i4
  obtain ⟨x5, e5, rfl, w5⟩ := DataW.trod_int Try.underlying22 i5
  simp [Value.cells] at e0 e1 e2 e3 e4 e5
  subst e0 e1 e2 e3 e4 e5
  simp at hx
  obtain ⟨rfl, rfl⟩ := hx
  refine ⟨fun i => ([x0, x1, x2, x3, x4, x5].getD i 0).toNat, ?_, rfl, fun W' b sp hd => ⟨2, ?_⟩⟩
  · simp only [AV.val, V1.val, cvals, Cell.vals, List.append_nil, M]
    rw [show List.range 6 = [0, 1, 2, 3, 4, 5] from rfl]
    have f0 := u64_lit w0
    have f1 := u64_lit w1
    have f2 := u64_lit w2
    have f3 := u64_lit w3
    have f4 := u64_lit w4
    have f5 := u64_lit w5
    simp only [W] at f0 f1 f2 f3 f4 f5
    simp only [List.map_cons, List.map_nil, List.getD_cons_zero, List.getD_cons_succ, f0, f1, f2, f3, f4, f5]
  · simp [DataW.trod, Value.cells, Try.underlying24, Try.underlying22, Try.cells24, Try.cells22, w0, w1, w2, w3, w4, w5, show List.range 6 = [0, 1, 2, 3, 4, 5] from rfl]

/-! what the law calls -/
def dQ (x y : Nat) : Nat := bif Nat.beq y 0 then 0 else x / y
def dR (x y : Nat) : Nat := bif Nat.beq y 0 then 0 else x % y
def dE (y : Nat) : Int := bif Nat.beq y 0 then 2 else 0
def cDiv2 : List AV → Option (List Prop × AV)
  | [.v1 (.agg [.ws .u64 6 a]), .v1 (.agg [.ws .u64 6 b])] => some ([], .tup [numV (dQ (nv a) (nv b)), numV (dR (nv a) (nv b)), .sc (.it (dE (nv b)))])
  | _ => none
theorem divV_eq (x y : Nat) : divV x y = .tup [numV (dQ x y), numV (dR x y), .sc (.it (dE y))] := by
  unfold divV dQ dR dE; cases Nat.beq y 0 <;> rfl
theorem okDiv2_of {n : Nat} (h : (CallC.pure cDiv).Ok Try.prog n) : (CallC.pure cDiv2).Ok Try.prog n := by
  intro args pre v e _
  unfold cDiv2 at e
  split at e
  · rename_i a b
    cases e
    have := h [.v1 (.agg [.ws .u64 6 a]), .v1 (.agg [.ws .u64 6 b])] [] (divV (nv a) (nv b)) rfl (fun _ h => by cases h)
    rw [divV_eq] at this
    exact this
  · cases e
def GT : Ctx := ctxL [(22, .pure cAdd), (23, .pure cAdd), (24, .pure cSub), (25, .pure cSub), (26, .pure cCmp), (27, .pure cCmp), (28, .pure cMul), (29, .pure cMul), (30, .pure cDiv2), (31, .pure cDiv2), (32, .pure cShift), (33, .pure cShift), (34, .pure cBit), (35, .pure cBit), (36, .pure cLen), (37, .pure cLen), (38, .pure cOf), (39, .pure cOf)]
theorem GT_ok : CtxOk Try.prog GT := ctxL_cons okAdd <| ctxL_cons okAdd' <| ctxL_cons okSub <| ctxL_cons okSub' <| ctxL_cons okCmp <| ctxL_cons okCmp' <| ctxL_cons okMul <| ctxL_cons okMul' <| ctxL_cons (okDiv2_of okDiv) <| ctxL_cons (okDiv2_of okDiv') <| ctxL_cons okShift <| ctxL_cons okShift' <| ctxL_cons okBit <| ctxL_cons okBit' <| ctxL_cons okLen <| ctxL_cons okLen' <| ctxL_cons okOf <| ctxL_cons okOf' ctxL_nil

theorem eqW_self (f : Nat → Nat) : (eqN W 6 f f && true) = true := by
  rw [Bool.and_true, eqN_iff]; intro i _; rfl
theorem neW_self (f : Nat → Nat) : (!(eqN W 6 f f && true)) = false := by rw [eqW_self]; rfl
theorem ieq_self (z : Int) : ieq z z = true := by rw [ieq_iff]

theorem tell_calls (a b : Nat → Nat) (n : Int) (w : World) :
    Calls Try.prog 4 ([.v1 (.agg [.ws .u64 6 a]), .v1 (.agg [.ws .u64 6 b]), .v1 (.sc (.it n))].map (AV.val fun _ => 0)).toArray w (fun e w' => e = .returned (.bool true) ∧ StepW w w') := by
  refine pure_calls tt_ok Try.func4 (by kernel_rfl) (by kernel_rfl) (v := .v1 (.sc (.bo true))) (by kernel_rfl) ?_ w
  refine evS_q mixed tt_ok GT_ok 100 [⟨5,2,.lit (.bo false)⟩,⟨5,6,.lit (.bo false)⟩,⟨5,11,.lit (.bo false)⟩,⟨5,16,.lit (.bo false)⟩,⟨5,25,.lit (.bo false)⟩,⟨11,2,.lit (.bo true)⟩,⟨11,6,.lit (.bo true)⟩,⟨11,11,.lit (.bo true)⟩,⟨11,16,.lit (.bo true)⟩,⟨11,21,.lit (.bo true)⟩,⟨11,30,.lit (.bo true)⟩,⟨11,39,.lit (.bo true)⟩,⟨11,46,.lit (.bo true)⟩,⟨11,55,.lit (.bo true)⟩] ?_
  refine same (p :=
    (!(eqN W 6 (wd ((nv a + nv b) % R)) (wd ((nv a + nv b) % R)) && true)) = false ∧
    (!decide (Nat.ble R (nv a + nv b) = Nat.ble R (nv a + nv b))) = false ∧
    (!(eqN W 6 (wd ((nv a + R - nv b) % R)) (wd ((nv a + R - nv b) % R)) && true)) = false ∧
    (!decide (Nat.blt (nv a) (nv b) = Nat.blt (nv a) (nv b))) = false ∧
    (!ieq (cmpI (nv a) (nv b)) (cmpI (nv a) (nv b))) = false ∧
    (eqN W 6 (wd (nv a * nv b % R)) (wd (nv a * nv b % R)) && true) = true ∧
    (eqN W 6 (wd (nv a * nv b / R)) (wd (nv a * nv b / R)) && true) = true ∧
    (eqN W 6 (wd (dQ (nv a) (nv b))) (wd (dQ (nv a) (nv b))) && true) = true ∧
    (eqN W 6 (wd (dR (nv a) (nv b))) (wd (dR (nv a) (nv b))) && true) = true ∧
    ieq (dE (nv b)) (dE (nv b)) = true ∧
    (eqN W 6 (wd (shiftN (nv a) n % R)) (wd (shiftN (nv a) n % R)) && true) = true ∧
    ieq (bitI (nv a) n) (bitI (nv a) n) = true ∧
    ieq (Int.ofNat (blen (nv a))) (Int.ofNat (blen (nv a))) = true ∧
    (eqN W 6 (wd (a 0 % W)) (wd (a 0 % W)) && true) = true ∧
    ∃ v', some (AV.v1 (.sc (.bo true))) = some v' ∧ ∀ ρ, v'.val ρ = (AV.v1 (.sc (.bo true))).val ρ) ?_ (by kernel_rfl)
  exact ⟨neW_self _, by simp, neW_self _, by simp, by rw [ieq_self]; rfl, eqW_self _, eqW_self _, eqW_self _, eqW_self _, ieq_self _, eqW_self _, ieq_self _, ieq_self _, eqW_self _, _, rfl, fun _ => rfl⟩

theorem tell_lifted (os : Os) (started : os.Started) (H : Type) (enc : TypeId × Value → H) :
    ReturnsInHanded {} Try.checked os 4 .any (Rows.wordsTellSpec.pre6 enc Try.prog Try.f4 Rows.wordsTellRow.domain false) (Rows.wordsTellSpec.post enc Try.prog Try.f4 false true false false) := by
  refine returnsInHanded_of_change (C := Try.checked) Try.own started (by kernel_rfl) Try.func4
    (ChangeSpec.witness6 (enc := enc) (C := Try.checked) false ⟨#[], #[.agg #[.int .u64 0, .int .u64 0, .int .u64 0, .int .u64 0, .int .u64 0, .int .u64 0], .agg #[.int .u64 0, .int .u64 0, .int .u64 0, .int .u64 0, .int .u64 0, .int .u64 0], .int .i64 0], []⟩ 8 (by kernel_rfl) (by kernel_rfl) (by kernel_rfl) (by kernel_rfl)) ?_
  intro Wd base args ds gs before hval0 hW _ _
  have hval : ∀ (j : Nat) t v, Try.f4.params[j]? = some t → args[j]? = some v → Value.okWide Try.prog Wd .any base t v := hval0
  have hW' := hW
  obtain ⟨p, q, hA0, hV, rfl, _, _⟩ := hW
  have hA : DataW.TrodAll enc Try.prog Wd 0 (fun _ => true) true Try.f4.params.toList args.toList ds p := hA0
  rw [Try.params4] at hA hval
  obtain ⟨v0, v1, v2, d0, d1, d2, p0, p1, p2, rfl, rfl, rfl, h0, h1, h2⟩ := trodAll_three hA
  obtain ⟨rfl, rfl⟩ := trodVars_none hV
  obtain ⟨a, rfl, rfl, t0⟩ := num_open h0 (hval 0 24 v0 rfl rfl)
  obtain ⟨b, rfl, rfl, t1⟩ := num_open h1 (hval 1 24 v1 rfl rfl)
  obtain ⟨n, rfl, rfl, rfl, wn⟩ := open_int Try.underlying3 (hval 2 3 v2 rfl rfl) h2
  clear hA0 hval0
  simp only [List.append_nil] at hW'
  refine (tell_calls a b n Wd).mono fun e W' ⟨he, hw⟩ => ?_
  subst he
  have hg := hw.grown
  exact ⟨_, rfl, post_of_same (pa := []) (pv := []) hW' (fun _ _ _ => trodAll_mk1 (shut_bool Try.underlying4 true)) (fun sp _ => trodAll_mk3 (t0 _ _ _ _) (t1 _ _ _ _) (shut_int Try.underlying3 wn)) (fun _ _ => rfl) rfl (hg.frame _) hg.2.1 (ok_one (by kernel_rfl) rfl (okWide_bool_mk Try.underlying4 true))⟩

theorem tell_holds : Rows.WordsTellSaid :=
  OpenClaim.holds_of_wide 4 Try.f4 rfl rfl rfl rfl rfl rfl rfl ⟨rfl, rfl, rfl, rfl, rfl⟩ rfl rfl rfl rfl rfl (by kernel_rfl) Try.func4 (by kernel_rfl)
    (of_decide_eq_true (by kernel_rfl)) (by unfold Func.isWrapper; rw [if_neg (of_decide_eq_false (by kernel_rfl))]; exact ⟨rfl, rfl⟩)
    (fun os started H enc _ => tell_lifted os started H enc)
end Go.Proofs.Ytiaongfgkmbaaaa
