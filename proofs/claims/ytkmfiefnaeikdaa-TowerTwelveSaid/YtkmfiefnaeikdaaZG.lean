/- Joined: D9 D10 D11 D12 D13. -/
import Derived.Test.YtkmfiefnaeikdaaZF
import Derived.Test.YtkmfiefnaeikdaaZD
/- The document's numbers of twelve parts: sums, conjugates. Printed by gend9.py. -/
namespace Go.Proofs.Ytkmfiefnaeikdaa
open Go.Rq Go
set_option maxRecDepth 100000
set_option linter.unusedVariables false

def dd1 (F : S12 → S12) : List AV → Option (List Prop × AV)
  | [.v1 (.agg [.ws .u64 6 a0, .ws .u64 6 a1, .ws .u64 6 a2, .ws .u64 6 a3, .ws .u64 6 a4, .ws .u64 6 a5, .ws .u64 6 a6, .ws .u64 6 a7, .ws .u64 6 a8, .ws .u64 6 a9, .ws .u64 6 a10, .ws .u64 6 a11])] => some ([nv a0 < pN, nv a1 < pN, nv a2 < pN, nv a3 < pN, nv a4 < pN, nv a5 < pN, nv a6 < pN, nv a7 < pN, nv a8 < pN, nv a9 < pN, nv a10 < pN, nv a11 < pN], .v1 (n12 (F (g12 a0 a1 a2 a3 a4 a5 a6 a7 a8 a9 a10 a11))))
  | _ => none
def dd2 (F : S12 → S12 → S12) : List AV → Option (List Prop × AV)
  | [.v1 (.agg [.ws .u64 6 a0, .ws .u64 6 a1, .ws .u64 6 a2, .ws .u64 6 a3, .ws .u64 6 a4, .ws .u64 6 a5, .ws .u64 6 a6, .ws .u64 6 a7, .ws .u64 6 a8, .ws .u64 6 a9, .ws .u64 6 a10, .ws .u64 6 a11]), .v1 (.agg [.ws .u64 6 b0, .ws .u64 6 b1, .ws .u64 6 b2, .ws .u64 6 b3, .ws .u64 6 b4, .ws .u64 6 b5, .ws .u64 6 b6, .ws .u64 6 b7, .ws .u64 6 b8, .ws .u64 6 b9, .ws .u64 6 b10, .ws .u64 6 b11])] => some ([nv a0 < pN, nv a1 < pN, nv a2 < pN, nv a3 < pN, nv a4 < pN, nv a5 < pN, nv a6 < pN, nv a7 < pN, nv a8 < pN, nv a9 < pN, nv a10 < pN, nv a11 < pN, nv b0 < pN, nv b1 < pN, nv b2 < pN, nv b3 < pN, nv b4 < pN, nv b5 < pN, nv b6 < pN, nv b7 < pN, nv b8 < pN, nv b9 < pN, nv b10 < pN, nv b11 < pN], .v1 (n12 (F (g12 a0 a1 a2 a3 a4 a5 a6 a7 a8 a9 a10 a11) (g12 b0 b1 b2 b3 b4 b5 b6 b7 b8 b9 b10 b11))))
  | _ => none
theorem dd1_ok {F : S12 → S12} {f : FuncId} {fn : Func} (hf : Try.prog.funcs[f]? = some fn) (hb : fn.body = some (bodyOf fn)) (hn : (fn.name == "runtime.NumGoroutine") = false)
    (h : ∀ a0 a1 a2 a3 a4 a5 a6 a7 a8 a9 a10 a11 : Nat → Nat, nv a0 < pN → nv a1 < pN → nv a2 < pN → nv a3 < pN → nv a4 < pN → nv a5 < pN → nv a6 < pN → nv a7 < pN → nv a8 < pN → nv a9 < pN → nv a10 < pN → nv a11 < pN → AWqS Try.prog (fun _ => False) (flatC (bodyOf fn)) (FEnd' tt fn (.v1 (n12 (F (g12 a0 a1 a2 a3 a4 a5 a6 a7 a8 a9 a10 a11))))) ⟨frame0 [.v1 (v12 a0 a1 a2 a3 a4 a5 a6 a7 a8 a9 a10 a11)] fn.ntmps, []⟩) : (CallC.pure (dd1 F)).Ok Try.prog f := by
  intro args pre v e hp
  unfold dd1 at e
  split at e
  · rename_i a0 a1 a2 a3 a4 a5 a6 a7 a8 a9 a10 a11
    cases e
    exact pure_walk' tt_ok hf hb hn (by rfl) (by rfl) (h a0 a1 a2 a3 a4 a5 a6 a7 a8 a9 a10 a11 (hp _ (by simp)) (hp _ (by simp)) (hp _ (by simp)) (hp _ (by simp)) (hp _ (by simp)) (hp _ (by simp)) (hp _ (by simp)) (hp _ (by simp)) (hp _ (by simp)) (hp _ (by simp)) (hp _ (by simp)) (hp _ (by simp)))
  · cases e
theorem dd2_ok {F : S12 → S12 → S12} {f : FuncId} {fn : Func} (hf : Try.prog.funcs[f]? = some fn) (hb : fn.body = some (bodyOf fn)) (hn : (fn.name == "runtime.NumGoroutine") = false)
    (h : ∀ a0 a1 a2 a3 a4 a5 a6 a7 a8 a9 a10 a11 b0 b1 b2 b3 b4 b5 b6 b7 b8 b9 b10 b11 : Nat → Nat, nv a0 < pN → nv a1 < pN → nv a2 < pN → nv a3 < pN → nv a4 < pN → nv a5 < pN → nv a6 < pN → nv a7 < pN → nv a8 < pN → nv a9 < pN → nv a10 < pN → nv a11 < pN → nv b0 < pN → nv b1 < pN → nv b2 < pN → nv b3 < pN → nv b4 < pN → nv b5 < pN → nv b6 < pN → nv b7 < pN → nv b8 < pN → nv b9 < pN → nv b10 < pN → nv b11 < pN → AWqS Try.prog (fun _ => False) (flatC (bodyOf fn)) (FEnd' tt fn (.v1 (n12 (F (g12 a0 a1 a2 a3 a4 a5 a6 a7 a8 a9 a10 a11) (g12 b0 b1 b2 b3 b4 b5 b6 b7 b8 b9 b10 b11))))) ⟨frame0 [.v1 (v12 a0 a1 a2 a3 a4 a5 a6 a7 a8 a9 a10 a11), .v1 (v12 b0 b1 b2 b3 b4 b5 b6 b7 b8 b9 b10 b11)] fn.ntmps, []⟩) : (CallC.pure (dd2 F)).Ok Try.prog f := by
  intro args pre v e hp
  unfold dd2 at e
  split at e
  · rename_i a0 a1 a2 a3 a4 a5 a6 a7 a8 a9 a10 a11 b0 b1 b2 b3 b4 b5 b6 b7 b8 b9 b10 b11
    cases e
    exact pure_walk' tt_ok hf hb hn (by rfl) (by rfl) (h a0 a1 a2 a3 a4 a5 a6 a7 a8 a9 a10 a11 b0 b1 b2 b3 b4 b5 b6 b7 b8 b9 b10 b11 (hp _ (by simp)) (hp _ (by simp)) (hp _ (by simp)) (hp _ (by simp)) (hp _ (by simp)) (hp _ (by simp)) (hp _ (by simp)) (hp _ (by simp)) (hp _ (by simp)) (hp _ (by simp)) (hp _ (by simp)) (hp _ (by simp)) (hp _ (by simp)) (hp _ (by simp)) (hp _ (by simp)) (hp _ (by simp)) (hp _ (by simp)) (hp _ (by simp)) (hp _ (by simp)) (hp _ (by simp)) (hp _ (by simp)) (hp _ (by simp)) (hp _ (by simp)) (hp _ (by simp)))
  · cases e
theorem end12 {s t : S12} (e : s = t) : endN (.v1 (n12 s)) (.v1 (n12 t)) := by subst e; exact ⟨_, rfl, fun _ => rfl⟩
def S12.ng (z : S12) : S12 := ⟨⟨F2p.ng z.p.u, F2p.ng z.p.v, F2p.ng z.p.w⟩, ⟨F2p.ng z.q.u, F2p.ng z.q.v, F2p.ng z.q.w⟩⟩
def S12.cjd (z : S12) : S12 := ⟨z.p, ⟨F2p.ng z.q.u, F2p.ng z.q.v, F2p.ng z.q.w⟩⟩
theorem S12.ng_eq (x y : S12) : S12.add' x (S12.ng y) = S12.sub' x y := S12.ext (S6.ext (F2p.ng_eq _ _) (F2p.ng_eq _ _) (F2p.ng_eq _ _)) (S6.ext (F2p.ng_eq _ _) (F2p.ng_eq _ _) (F2p.ng_eq _ _))
theorem F2p.ng_zero (x : F2p) : F2p.ng x = 0 - x := rfl
theorem S12.cjd_eq (z : S12) : S12.cjd z = S12.conj z := rfl

def cD12Of : List AV → Option (List Prop × AV)
  | [.v1 (.agg [.ws .u64 6 a0, .ws .u64 6 a1, .ws .u64 6 a2, .ws .u64 6 a3, .ws .u64 6 a4, .ws .u64 6 a5, .ws .u64 6 a6, .ws .u64 6 a7, .ws .u64 6 a8, .ws .u64 6 a9, .ws .u64 6 a10, .ws .u64 6 a11])] => some ([], .v1 (n12 (g12 a0 a1 a2 a3 a4 a5 a6 a7 a8 a9 a10 a11)))
  | _ => none
def GDa : Ctx := ctxL [(11, .pure cD2Of), (13, .pure (d2 (· + ·))), (17, .pure (d1 F2p.ng))]
theorem GDa_ok : CtxOk Try.prog GDa := ctxL_cons okD2Of <| ctxL_cons okD2Add <| ctxL_cons okD2Neg ctxL_nil
theorem okD12Of : (CallC.pure cD12Of).Ok Try.prog 28 := by
  intro args pre v e _
  unfold cD12Of at e
  split at e
  · rename_i a0 a1 a2 a3 a4 a5 a6 a7 a8 a9 a10 a11
    cases e
    refine pure_walk' tt_ok Try.func28 (by kernel_rfl) (by kernel_rfl) (by rfl) (by rfl) ?_
    refine evS_q mixed tt_ok GDa_ok 200 [] ?_
    exact same (p := endN (.v1 (n12 (g12 a0 a1 a2 a3 a4 a5 a6 a7 a8 a9 a10 a11))) (.v1 (n12 (g12 a0 a1 a2 a3 a4 a5 a6 a7 a8 a9 a10 a11)))) ⟨_, rfl, fun _ => rfl⟩ (by kernel_rfl)
  · cases e
theorem v12K {x : Nat → Nat} (h : nv x < pN) : nv x = nv (vF (gN x)) := (vF_gN h).symm
theorem okD12One : (CallC.pure (c12 (n12 1))).Ok Try.prog 30 := by
  intro args pre v e _
  unfold c12 at e
  split at e
  · cases e
    refine pure_walk' tt_ok Try.func30 (by kernel_rfl) (by kernel_rfl) (by rfl) (by rfl) ?_
    refine evS_q mixed tt_ok GDa_ok 60 [] ?_
    refine same (p := endN (.v1 (v12 (upd (fun _ => 0) 0 1) (fun _ => 0) (fun _ => 0) (fun _ => 0) (fun _ => 0) (fun _ => 0) (fun _ => 0) (fun _ => 0) (fun _ => 0) (fun _ => 0) (fun _ => 0) (fun _ => 0))) (.v1 (n12 1))) ?_ (by kernel_rfl)
    have h1 : nv (upd (fun _ => 0) 0 1) = nv (vF 1) := by rw [nv_u1', nv_vF]; rfl
    exact ⟨_, rfl, v12_val h1 zero_vF zero_vF zero_vF zero_vF zero_vF zero_vF zero_vF zero_vF zero_vF zero_vF zero_vF⟩
  · cases e
def c2D (s : F2p) : List AV → Option (List Prop × AV)
  | [] => some ([], .v1 (n2 s))
  | _ => none
theorem okXi : (CallC.pure (c2D kx)).Ok Try.prog 81 := by
  intro args pre v e _
  unfold c2D at e
  split at e
  · cases e
    refine pure_walk' tt_ok Try.func81 (by kernel_rfl) (by kernel_rfl) (by rfl) (by rfl) ?_
    refine evS_q mixed tt_ok GDa_ok 60 [] ?_
    refine same (p := endN (f2 (upd (fun _ => 0) 0 1) (upd (fun _ => 0) 0 1)) (.v1 (n2 kx))) ?_ (by kernel_rfl)
    have h1 : nv (upd (fun _ => 0) 0 1) = nv (vF 1) := by rw [nv_u1', nv_vF]; rfl
    exact ⟨_, rfl, f2_val h1 h1⟩
  · cases e
theorem okD12Add : (CallC.pure (dd2 S12.add')).Ok Try.prog 32 := by
  refine dd2_ok Try.func32 (by kernel_rfl) (by kernel_rfl) fun a0 a1 a2 a3 a4 a5 a6 a7 a8 a9 a10 a11 b0 b1 b2 b3 b4 b5 b6 b7 b8 b9 b10 b11 ha0 ha1 ha2 ha3 ha4 ha5 ha6 ha7 ha8 ha9 ha10 ha11 hb0 hb1 hb2 hb3 hb4 hb5 hb6 hb7 hb8 hb9 hb10 hb11 => ?_
  refine evS_q mixed tt_ok GDa_ok 200 [] ?_
  exact same (p := nv a0 < pN ∧ nv a1 < pN ∧ nv b0 < pN ∧ nv b1 < pN ∧ nv a2 < pN ∧ nv a3 < pN ∧ nv b2 < pN ∧ nv b3 < pN ∧ nv a4 < pN ∧ nv a5 < pN ∧ nv b4 < pN ∧ nv b5 < pN ∧ nv a6 < pN ∧ nv a7 < pN ∧ nv b6 < pN ∧ nv b7 < pN ∧ nv a8 < pN ∧ nv a9 < pN ∧ nv b8 < pN ∧ nv b9 < pN ∧ nv a10 < pN ∧ nv a11 < pN ∧ nv b10 < pN ∧ nv b11 < pN ∧ endN (.v1 (n12 (S12.add' (g12 a0 a1 a2 a3 a4 a5 a6 a7 a8 a9 a10 a11) (g12 b0 b1 b2 b3 b4 b5 b6 b7 b8 b9 b10 b11)))) (.v1 (n12 (S12.add' (g12 a0 a1 a2 a3 a4 a5 a6 a7 a8 a9 a10 a11) (g12 b0 b1 b2 b3 b4 b5 b6 b7 b8 b9 b10 b11))))) ⟨ha0, ha1, hb0, hb1, ha2, ha3, hb2, hb3, ha4, ha5, hb4, hb5, ha6, ha7, hb6, hb7, ha8, ha9, hb8, hb9, ha10, ha11, hb10, hb11, _, rfl, fun _ => rfl⟩ (by kernel_rfl)
theorem okD12Neg : (CallC.pure (dd1 S12.ng)).Ok Try.prog 77 := by
  refine dd1_ok Try.func77 (by kernel_rfl) (by kernel_rfl) fun a0 a1 a2 a3 a4 a5 a6 a7 a8 a9 a10 a11 ha0 ha1 ha2 ha3 ha4 ha5 ha6 ha7 ha8 ha9 ha10 ha11 => ?_
  refine evS_q mixed tt_ok GDa_ok 200 [] ?_
  exact same (p := nv a0 < pN ∧ nv a1 < pN ∧ nv a2 < pN ∧ nv a3 < pN ∧ nv a4 < pN ∧ nv a5 < pN ∧ nv a6 < pN ∧ nv a7 < pN ∧ nv a8 < pN ∧ nv a9 < pN ∧ nv a10 < pN ∧ nv a11 < pN ∧ endN (.v1 (n12 (S12.ng (g12 a0 a1 a2 a3 a4 a5 a6 a7 a8 a9 a10 a11)))) (.v1 (n12 (S12.ng (g12 a0 a1 a2 a3 a4 a5 a6 a7 a8 a9 a10 a11))))) ⟨ha0, ha1, ha2, ha3, ha4, ha5, ha6, ha7, ha8, ha9, ha10, ha11, _, rfl, fun _ => rfl⟩ (by kernel_rfl)
theorem okD12Conj : (CallC.pure (dd1 S12.conj)).Ok Try.prog 38 := by
  refine dd1_ok Try.func38 (by kernel_rfl) (by kernel_rfl) fun a0 a1 a2 a3 a4 a5 a6 a7 a8 a9 a10 a11 ha0 ha1 ha2 ha3 ha4 ha5 ha6 ha7 ha8 ha9 ha10 ha11 => ?_
  refine evS_q mixed tt_ok GDa_ok 200 [] ?_
  refine same (p := nv a2 < pN ∧ nv a3 < pN ∧ nv a6 < pN ∧ nv a7 < pN ∧ nv a10 < pN ∧ nv a11 < pN ∧ endN (.v1 (v12 a0 a1 (vF (S12.cjd (g12 a0 a1 a2 a3 a4 a5 a6 a7 a8 a9 a10 a11)).q.u.x) (vF (S12.cjd (g12 a0 a1 a2 a3 a4 a5 a6 a7 a8 a9 a10 a11)).q.u.y) a4 a5 (vF (S12.cjd (g12 a0 a1 a2 a3 a4 a5 a6 a7 a8 a9 a10 a11)).q.v.x) (vF (S12.cjd (g12 a0 a1 a2 a3 a4 a5 a6 a7 a8 a9 a10 a11)).q.v.y) a8 a9 (vF (S12.cjd (g12 a0 a1 a2 a3 a4 a5 a6 a7 a8 a9 a10 a11)).q.w.x) (vF (S12.cjd (g12 a0 a1 a2 a3 a4 a5 a6 a7 a8 a9 a10 a11)).q.w.y))) (.v1 (n12 (S12.conj (g12 a0 a1 a2 a3 a4 a5 a6 a7 a8 a9 a10 a11))))) ?_ (by kernel_rfl)
  rw [← S12.cjd_eq]
  exact ⟨ha2, ha3, ha6, ha7, ha10, ha11, _, rfl, v12_val (v12K ha0) (v12K ha1) rfl rfl (v12K ha4) (v12K ha5) rfl rfl (v12K ha8) (v12K ha9) rfl rfl⟩
def GDb : Ctx := ctxL [(32, .pure (dd2 S12.add')), (77, .pure (dd1 S12.ng))]
theorem GDb_ok : CtxOk Try.prog GDb := ctxL_cons okD12Add <| ctxL_cons okD12Neg ctxL_nil
theorem okD12Sub : (CallC.pure (dd2 S12.sub')).Ok Try.prog 34 := by
  refine dd2_ok Try.func34 (by kernel_rfl) (by kernel_rfl) fun a0 a1 a2 a3 a4 a5 a6 a7 a8 a9 a10 a11 b0 b1 b2 b3 b4 b5 b6 b7 b8 b9 b10 b11 ha0 ha1 ha2 ha3 ha4 ha5 ha6 ha7 ha8 ha9 ha10 ha11 hb0 hb1 hb2 hb3 hb4 hb5 hb6 hb7 hb8 hb9 hb10 hb11 => ?_
  refine evS_q mixed tt_ok GDb_ok 200 [] ?_
  refine same (p := nv b0 < pN ∧ nv b1 < pN ∧ nv b2 < pN ∧ nv b3 < pN ∧ nv b4 < pN ∧ nv b5 < pN ∧ nv b6 < pN ∧ nv b7 < pN ∧ nv b8 < pN ∧ nv b9 < pN ∧ nv b10 < pN ∧ nv b11 < pN ∧ nv a0 < pN ∧ nv a1 < pN ∧ nv a2 < pN ∧ nv a3 < pN ∧ nv a4 < pN ∧ nv a5 < pN ∧ nv a6 < pN ∧ nv a7 < pN ∧ nv a8 < pN ∧ nv a9 < pN ∧ nv a10 < pN ∧ nv a11 < pN ∧ nv (vF (S12.ng (g12 b0 b1 b2 b3 b4 b5 b6 b7 b8 b9 b10 b11)).p.u.x) < pN ∧ nv (vF (S12.ng (g12 b0 b1 b2 b3 b4 b5 b6 b7 b8 b9 b10 b11)).p.u.y) < pN ∧ nv (vF (S12.ng (g12 b0 b1 b2 b3 b4 b5 b6 b7 b8 b9 b10 b11)).q.u.x) < pN ∧ nv (vF (S12.ng (g12 b0 b1 b2 b3 b4 b5 b6 b7 b8 b9 b10 b11)).q.u.y) < pN ∧ nv (vF (S12.ng (g12 b0 b1 b2 b3 b4 b5 b6 b7 b8 b9 b10 b11)).p.v.x) < pN ∧ nv (vF (S12.ng (g12 b0 b1 b2 b3 b4 b5 b6 b7 b8 b9 b10 b11)).p.v.y) < pN ∧ nv (vF (S12.ng (g12 b0 b1 b2 b3 b4 b5 b6 b7 b8 b9 b10 b11)).q.v.x) < pN ∧ nv (vF (S12.ng (g12 b0 b1 b2 b3 b4 b5 b6 b7 b8 b9 b10 b11)).q.v.y) < pN ∧ nv (vF (S12.ng (g12 b0 b1 b2 b3 b4 b5 b6 b7 b8 b9 b10 b11)).p.w.x) < pN ∧ nv (vF (S12.ng (g12 b0 b1 b2 b3 b4 b5 b6 b7 b8 b9 b10 b11)).p.w.y) < pN ∧ nv (vF (S12.ng (g12 b0 b1 b2 b3 b4 b5 b6 b7 b8 b9 b10 b11)).q.w.x) < pN ∧ nv (vF (S12.ng (g12 b0 b1 b2 b3 b4 b5 b6 b7 b8 b9 b10 b11)).q.w.y) < pN ∧ endN (.v1 (n12 (S12.add' (g12 a0 a1 a2 a3 a4 a5 a6 a7 a8 a9 a10 a11) (G12 (S12.ng (g12 b0 b1 b2 b3 b4 b5 b6 b7 b8 b9 b10 b11)))))) (.v1 (n12 (S12.sub' (g12 a0 a1 a2 a3 a4 a5 a6 a7 a8 a9 a10 a11) (g12 b0 b1 b2 b3 b4 b5 b6 b7 b8 b9 b10 b11))))) ?_ (by kernel_rfl)
  exact ⟨hb0, hb1, hb2, hb3, hb4, hb5, hb6, hb7, hb8, hb9, hb10, hb11, ha0, ha1, ha2, ha3, ha4, ha5, ha6, ha7, ha8, ha9, ha10, ha11, lt_vF _, lt_vF _, lt_vF _, lt_vF _, lt_vF _, lt_vF _, lt_vF _, lt_vF _, lt_vF _, lt_vF _, lt_vF _, lt_vF _, end12 (by rw [G12_eq, S12.ng_eq])⟩
end Go.Proofs.Ytkmfiefnaeikdaa

/- The document's product of numbers of twelve parts. Printed by gend10.py. -/
namespace Go.Proofs.Ytkmfiefnaeikdaa
open Go.Rq Go
set_option maxRecDepth 100000
set_option linter.unusedVariables false

def tv (g : Nat → Nat → Nat) (j : Nat) : F2p := g2 (g (2 * j)) (g (2 * j + 1))
def up2 (g : Nat → Nat → Nat) (m : Nat) (x y : Nat → Nat) : Nat → Nat → Nat := fun n => bif Nat.beq n (2 * m) then x else bif Nat.beq n (2 * m + 1) then y else g n
theorem tv_same (g : Nat → Nat → Nat) (m : Nat) (x y : Nat → Nat) : tv (up2 g m x y) m = g2 x y := by
  unfold tv up2
  have h1 : Nat.beq (2 * m) (2 * m) = true := by rw [Nat.beq_eq]
  have h2 : Nat.beq (2 * m + 1) (2 * m) = false := by rw [← Bool.not_eq_true, Nat.beq_eq]; omega
  have h3 : Nat.beq (2 * m + 1) (2 * m + 1) = true := by rw [Nat.beq_eq]
  rw [h1, h2, h3]; rfl
theorem tv_ne (g : Nat → Nat → Nat) {m j : Nat} (h : j ≠ m) (x y : Nat → Nat) : tv (up2 g m x y) j = tv g j := by
  unfold tv up2
  have h1 : Nat.beq (2 * j) (2 * m) = false := by rw [← Bool.not_eq_true, Nat.beq_eq]; omega
  have h2 : Nat.beq (2 * j) (2 * m + 1) = false := by rw [← Bool.not_eq_true, Nat.beq_eq]; omega
  have h3 : Nat.beq (2 * j + 1) (2 * m) = false := by rw [← Bool.not_eq_true, Nat.beq_eq]; omega
  have h4 : Nat.beq (2 * j + 1) (2 * m + 1) = false := by rw [← Bool.not_eq_true, Nat.beq_eq]; omega
  rw [h1, h2, h3, h4]; rfl
def LtN (n : Nat) (g : Nat → Nat → Nat) : Prop := ∀ i, i < n → nv (g i) < pN
theorem LtN.up {n m : Nat} {g : Nat → Nat → Nat} {x y : Nat → Nat} (h : LtN n g) (hx : nv x < pN) (hy : nv y < pN) : LtN n (up2 g m x y) := by
  intro i hi
  unfold up2
  cases Nat.beq i (2 * m)
  · cases Nat.beq i (2 * m + 1)
    · exact h i hi
    · exact hy
  · exact hx
def cst (A B : Nat → F2p) (i k : Nat) (t : Nat → F2p) : Nat → F2p := fun j => bif Nat.beq j (i + k) then t j + A i * B k else t j
def cin (A B : Nat → F2p) (i : Nat) (t : Nat → F2p) : Nat → Nat → F2p
  | 0 => t
  | k + 1 => cst A B i k (cin A B i t k)
def cout (A B : Nat → F2p) : Nat → Nat → F2p
  | 0 => fun _ => 0
  | i + 1 => cin A B i (cout A B i) 6
theorem st_yes {A B t : Nat → F2p} {i k : Nat} {g : Nat → Nat → Nat} {x y : Nat → Nat} (h : ∀ j, j < 11 → tv g j = cin A B i t k j) (hk : i + k < 11) (hx : g2 x y = tv g (i + k) + A i * B k) :
    ∀ j, j < 11 → tv (up2 g (i + k) x y) j = cin A B i t (k + 1) j := by
  intro j hj
  show _ = bif Nat.beq j (i + k) then cin A B i t k j + A i * B k else cin A B i t k j
  by_cases e : j = i + k
  · subst e
    have h1 : Nat.beq (i + k) (i + k) = true := by rw [Nat.beq_eq]
    rw [tv_same, hx, h _ hj, h1, cond_true]
  · have h1 : Nat.beq j (i + k) = false := by rw [← Bool.not_eq_true, Nat.beq_eq]; exact e
    rw [tv_ne g e, h _ hj, h1, cond_false]
theorem st_no {A B t : Nat → F2p} {i k : Nat} {g : Nat → Nat → Nat} (h : ∀ j, j < 11 → tv g j = cin A B i t k j) (hx : A i * B k = 0) :
    ∀ j, j < 11 → tv g j = cin A B i t (k + 1) j := by
  intro j hj
  show _ = bif Nat.beq j (i + k) then cin A B i t k j + A i * B k else cin A B i t k j
  rw [hx, Rg.add_zero, h _ hj]
  cases Nat.beq j (i + k) <;> rfl
def res (c : Nat → F2p) (j : Nat) : F2p := bif Nat.blt j 5 then c j + c (j + 6) * kx else c j
abbrev cs22 (g : Nat → Nat → Nat) : List Cell := [.ws .u64 6 (g 0), .ws .u64 6 (g 1), .ws .u64 6 (g 2), .ws .u64 6 (g 3), .ws .u64 6 (g 4), .ws .u64 6 (g 5), .ws .u64 6 (g 6), .ws .u64 6 (g 7), .ws .u64 6 (g 8), .ws .u64 6 (g 9), .ws .u64 6 (g 10), .ws .u64 6 (g 11), .ws .u64 6 (g 12), .ws .u64 6 (g 13), .ws .u64 6 (g 14), .ws .u64 6 (g 15), .ws .u64 6 (g 16), .ws .u64 6 (g 17), .ws .u64 6 (g 18), .ws .u64 6 (g 19), .ws .u64 6 (g 20), .ws .u64 6 (g 21)]
abbrev b22 (g : Nat → Nat → Nat) : Option Blk := some ⟨80, cs22 g, 0, 0⟩
abbrev bE12 (g : Nat → Nat → Nat) : Option Blk := some ⟨39, cs12 g, 0, 0⟩
def VDo (i : Nat) : List AV := [pt 0 0, pt 1 0, pt 2 0, pt 3 0, iv (Int.ofNat i)]
def VDi (i k : Nat) : List AV := [pt 0 0, pt 1 0, pt 2 0, pt 3 0, iv (Int.ofNat i), iv (Int.ofNat k)]
def HDo (a b g : Nat → Nat → Nat) : Heap := [bE12 a, bE12 b, bE12 zz12, b22 g]
def VDr (i : Nat) : List AV := [pt 2 0, pt 3 0, pt 4 0, iv (Int.ofNat i)]
def HDr (a b g o : Nat → Nat → Nat) : Heap := [bE12 a, bE12 b, bE12 zz12, b22 g, bE12 o]
def InvDo (A B : Nat → F2p) (x : Nat × (Nat → Nat → Nat)) : Prop := x.1 ≤ 6 ∧ LtN 22 x.2 ∧ ∀ j, j < 11 → tv x.2 j = cout A B x.1 j
def InvDi (A B : Nat → F2p) (i : Nat) (x : Nat × (Nat → Nat → Nat)) : Prop := x.1 ≤ 6 ∧ LtN 22 x.2 ∧ ∀ j, j < 11 → tv x.2 j = cin A B i (cout A B i) x.1 j
def InvDr (c : Nat → F2p) (x : Nat × (Nat → Nat → Nat)) : Prop := x.1 ≤ 6 ∧ LtN 12 x.2 ∧ ∀ j, j < x.1 → tv x.2 j = res c j
theorem qz {x y : Nat → Nat} (hx : nv x < pN) (hy : nv y < pN) : qL [x, y] zL2 = z2 (gN x) (gN y) := by
  have e : ∀ f : Nat → Nat, nv f < pN → eqN W 6 f (fun _ => 0) = Nat.beq (gN f).val 0 := fun f hf => by
    have h1 := eqW_beq f (fun _ => 0)
    rw [Bool.and_true, zero_nv] at h1
    rw [h1, ← vF_gN hf, nv_vF]
  show (eqN W 6 x (fun _ => 0) && (eqN W 6 y (fun _ => 0) && true)) = _
  rw [e x hx, e y hy, Bool.and_true]; rfl
theorem z2_eq {s : F2p} (h : z2 s.x s.y = true) : s = 0 := by
  obtain ⟨h1, h2⟩ := (z2_iff s.x s.y).1 h
  exact F2p.ext h1 h2
def AA (a : Nat → Nat → Nat) (i : Nat) : F2p := tv a i
theorem D12g (a : Nat → Nat → Nat) : g12 (a 0) (a 1) (a 2) (a 3) (a 4) (a 5) (a 6) (a 7) (a 8) (a 9) (a 10) (a 11) = ⟨⟨tv a 0, tv a 2, tv a 4⟩, ⟨tv a 1, tv a 3, tv a 5⟩⟩ := rfl
theorem res_mul {a b o : Nat → Nat → Nat} (h : ∀ j, j < 6 → tv o j = res (cout (tv a) (tv b) 6) j) :
    g12 (o 0) (o 1) (o 2) (o 3) (o 4) (o 5) (o 6) (o 7) (o 8) (o 9) (o 10) (o 11) = S12.mul (g12 (a 0) (a 1) (a 2) (a 3) (a 4) (a 5) (a 6) (a 7) (a 8) (a 9) (a 10) (a 11)) (g12 (b 0) (b 1) (b 2) (b 3) (b 4) (b 5) (b 6) (b 7) (b 8) (b 9) (b 10) (b 11)) := by
  rw [D12g o, D12g a, D12g b, h 0 (by omega), h 1 (by omega), h 2 (by omega), h 3 (by omega), h 4 (by omega), h 5 (by omega)]
  generalize tv a = A
  generalize tv b = B
  have r0 : res (cout A B 6) 0 = (0 + A 0 * B 0) + (((((0 + A 1 * B 5) + A 2 * B 4) + A 3 * B 3) + A 4 * B 2) + A 5 * B 1) * kx := rfl
  have r1 : res (cout A B 6) 1 = ((0 + A 0 * B 1) + A 1 * B 0) + ((((0 + A 2 * B 5) + A 3 * B 4) + A 4 * B 3) + A 5 * B 2) * kx := rfl
  have r2 : res (cout A B 6) 2 = (((0 + A 0 * B 2) + A 1 * B 1) + A 2 * B 0) + (((0 + A 3 * B 5) + A 4 * B 4) + A 5 * B 3) * kx := rfl
  have r3 : res (cout A B 6) 3 = ((((0 + A 0 * B 3) + A 1 * B 2) + A 2 * B 1) + A 3 * B 0) + ((0 + A 4 * B 5) + A 5 * B 4) * kx := rfl
  have r4 : res (cout A B 6) 4 = (((((0 + A 0 * B 4) + A 1 * B 3) + A 2 * B 2) + A 3 * B 1) + A 4 * B 0) + (0 + A 5 * B 5) * kx := rfl
  have r5 : res (cout A B 6) 5 = ((((((0 + A 0 * B 5) + A 1 * B 4) + A 2 * B 3) + A 3 * B 2) + A 4 * B 1) + A 5 * B 0) := rfl
  refine S12.ext (S6.ext ?_ ?_ ?_) (S6.ext ?_ ?_ ?_)
  · show res (cout A B 6) 0 = (A 0 * B 0 + xi (A 2 * B 4 + A 4 * B 2)) + xi (A 1 * B 5 + A 5 * B 1 + A 3 * B 3)
    rw [r0]
    try simp only [xi_mul]
    generalize kx = k
    grind
  · show res (cout A B 6) 2 = (A 0 * B 2 + A 2 * B 0 + xi (A 4 * B 4)) + (A 1 * B 1 + xi (A 3 * B 5 + A 5 * B 3))
    rw [r2]
    try simp only [xi_mul]
    generalize kx = k
    grind
  · show res (cout A B 6) 4 = (A 0 * B 4 + A 4 * B 0 + A 2 * B 2) + (A 1 * B 3 + A 3 * B 1 + xi (A 5 * B 5))
    rw [r4]
    try simp only [xi_mul]
    generalize kx = k
    grind
  · show res (cout A B 6) 1 = (A 0 * B 1 + xi (A 2 * B 5 + A 4 * B 3)) + (A 1 * B 0 + xi (A 3 * B 4 + A 5 * B 2))
    rw [r1]
    try simp only [xi_mul]
    generalize kx = k
    grind
  · show res (cout A B 6) 3 = (A 0 * B 3 + A 2 * B 1 + xi (A 4 * B 5)) + (A 1 * B 2 + A 3 * B 0 + xi (A 5 * B 4))
    rw [r3]
    try simp only [xi_mul]
    generalize kx = k
    grind
  · show res (cout A B 6) 5 = (A 0 * B 5 + A 4 * B 1 + A 2 * B 3) + (A 1 * B 4 + A 5 * B 0 + A 3 * B 2)
    rw [r5]
    try simp only [xi_mul]
    generalize kx = k
    grind
def GDm : Ctx := ctxL [(19, .pure (d2 (· * ·))), (13, .pure (d2 (· + ·))), (81, .pure (c2D kx))]
theorem GDm_ok : CtxOk Try.prog GDm := ctxL_cons okD2Mul <| ctxL_cons okD2Add <| ctxL_cons okXi ctxL_nil
theorem cr_zl {α : Type} [CR α] (x : α) : 0 * x = 0 := by grind
theorem mulI0 {a b : Nat → Nat → Nat} (ha : LtN 12 a) (hb : LtN 12 b) {g : Nat → Nat → Nat} (hg : LtN 22 g) (ht : ∀ j, j < 11 → tv g j = cout (tv a) (tv b) 0 j) {Q : Exit → AS → Prop} (junk : Nat → Value) :
    AWq Try.prog (fun _ => False) (loopOf (atK 0 (flatC (bodyOf Try.f36)))) (RoundE (loopId (atK 0 (flatC (bodyOf Try.f36)))) [2,3,4,5,6] 79 4 (fun x : {x // InvDo (tv a) (tv b) x} => VDo x.1.1) (fun x => HDo a b x.1.2) (fun x => 6 - x.1.1) ⟨(0, g), by simp, hg, ht⟩ (fun x => x.1.1 = 6) Q) ⟨mkT [2,3,4,5,6] (VDo 0) 79 junk, HDo a b g⟩ := by
  refine nestF mixed tt_ok GDm_ok (l := flatC (loopOf (atL (flatC (bodyOf Try.f36))))) (lB := flatC (blkOf (atB (flatC (loopOf (atL (flatC (bodyOf Try.f36)))))))) (by kernel_rfl) rfl (by kernel_rfl) rfl
    (ι := {x // InvDi (tv a) (tv b) 0 x}) [2,3,4,5,6,7] 79 4 (fun x => VDi 0 x.1.1) (fun x => HDo a b x.1.2) (fun x => 6 - x.1.1) (fun x => x.1.1 = 6)
    (fun _ => rfl) (fun _ => by kernel_rfl) (fun _ _ h => h.elim) 200 [] [] [] ?_ ?_ ?_
  · refine same (p := true = true ∧ ∃ j : {x // InvDi (tv a) (tv b) 0 x}, VDi 0 0 = VDi 0 j.1.1 ∧ HDo a b g = HDo a b j.1.2) ?_ (by kernel_rfl)
    exact ⟨rfl, ⟨(0, g), by simp, hg, ht⟩, rfl, rfl⟩
  · intro ⟨⟨k, g⟩, hk, hg, ht⟩ junk
    simp only at hk hg ht
    have hA := qz (ha 0 (by decide)) (ha 1 (by decide))
    rcases (show k = 0 ∨ k = 1 ∨ k = 2 ∨ k = 3 ∨ k = 4 ∨ k = 5 ∨ k = 6 by omega) with rfl | rfl | rfl | rfl | rfl | rfl | rfl
    · have hB := qz (hb 0 (by decide)) (hb 1 (by decide))
      cases h1 : z2 (gN (a 0)) (gN (a 1))
      · cases h2 : z2 (gN (b 0)) (gN (b 1))
        · refine roundF mixed tt_ok GDm_ok 200 [⟨8,4,.lit (.bo true)⟩,⟨8,10,.lit (.bo true)⟩] ?_
          refine same (p := (!qL [a 0, a 1] zL2) = true ∧ (!qL [b 0, b 1] zL2) = true ∧ nv (a 0) < pN ∧ nv (a 1) < pN ∧ nv (b 0) < pN ∧ nv (b 1) < pN ∧ nv (g 0) < pN ∧ nv (g 1) < pN ∧ nv (vF (tv a 0 * tv b 0).x) < pN ∧ nv (vF (tv a 0 * tv b 0).y) < pN ∧ true = true ∧
            ∃ j : {x // InvDi (tv a) (tv b) 0 x}, 6 - j.1.1 < 6 - 0 ∧ VDi 0 (0 + 1) = VDi 0 j.1.1 ∧ HDo a b (up2 g (0 + 0) (vF (tv g 0 + G2 (tv a 0 * tv b 0)).x) (vF (tv g 0 + G2 (tv a 0 * tv b 0)).y)) = HDo a b j.1.2) ?_ (by kernel_rfl)
          exact ⟨by rw [hA, h1]; rfl, by rw [hB, h2]; rfl, ha _ (by decide), ha _ (by decide), hb _ (by decide), hb _ (by decide), hg _ (by decide), hg _ (by decide), lt_vF _, lt_vF _, rfl, ⟨(_, _), by simp only; omega, hg.up (lt_vF _) (lt_vF _), st_yes ht (by decide) ((G2_eq _).trans (by rw [G2_eq]))⟩, by simp only; omega, rfl, rfl⟩
        · refine roundF mixed tt_ok GDm_ok 200 [⟨8,4,.lit (.bo true)⟩,⟨8,10,.lit (.bo false)⟩] ?_
          refine same (p := (!qL [a 0, a 1] zL2) = true ∧ (!qL [b 0, b 1] zL2) = false ∧ true = true ∧ ∃ j : {x // InvDi (tv a) (tv b) 0 x}, 6 - j.1.1 < 6 - 0 ∧ VDi 0 (0 + 1) = VDi 0 j.1.1 ∧ HDo a b g = HDo a b j.1.2) ?_ (by kernel_rfl)
          exact ⟨by rw [hA, h1]; rfl, by rw [hB, h2]; rfl, rfl, ⟨(0 + 1, g), by simp only; omega, hg, st_no ht (by rw [show tv b 0 = 0 from z2_eq h2]; exact cr_z _)⟩, by simp only; omega, rfl, rfl⟩
      · refine roundF mixed tt_ok GDm_ok 200 [⟨8,4,.lit (.bo false)⟩] ?_
        refine same (p := (!qL [a 0, a 1] zL2) = false ∧ true = true ∧ ∃ j : {x // InvDi (tv a) (tv b) 0 x}, 6 - j.1.1 < 6 - 0 ∧ VDi 0 (0 + 1) = VDi 0 j.1.1 ∧ HDo a b g = HDo a b j.1.2) ?_ (by kernel_rfl)
        exact ⟨by rw [hA, h1]; rfl, rfl, ⟨(0 + 1, g), by simp only; omega, hg, st_no ht (by rw [show tv a 0 = 0 from z2_eq h1]; exact cr_zl _)⟩, by simp only; omega, rfl, rfl⟩
    · have hB := qz (hb 2 (by decide)) (hb 3 (by decide))
      cases h1 : z2 (gN (a 0)) (gN (a 1))
      · cases h2 : z2 (gN (b 2)) (gN (b 3))
        · refine roundF mixed tt_ok GDm_ok 200 [⟨8,4,.lit (.bo true)⟩,⟨8,10,.lit (.bo true)⟩] ?_
          refine same (p := (!qL [a 0, a 1] zL2) = true ∧ (!qL [b 2, b 3] zL2) = true ∧ nv (a 0) < pN ∧ nv (a 1) < pN ∧ nv (b 2) < pN ∧ nv (b 3) < pN ∧ nv (g 2) < pN ∧ nv (g 3) < pN ∧ nv (vF (tv a 0 * tv b 1).x) < pN ∧ nv (vF (tv a 0 * tv b 1).y) < pN ∧ true = true ∧
            ∃ j : {x // InvDi (tv a) (tv b) 0 x}, 6 - j.1.1 < 6 - 1 ∧ VDi 0 (1 + 1) = VDi 0 j.1.1 ∧ HDo a b (up2 g (0 + 1) (vF (tv g 1 + G2 (tv a 0 * tv b 1)).x) (vF (tv g 1 + G2 (tv a 0 * tv b 1)).y)) = HDo a b j.1.2) ?_ (by kernel_rfl)
          exact ⟨by rw [hA, h1]; rfl, by rw [hB, h2]; rfl, ha _ (by decide), ha _ (by decide), hb _ (by decide), hb _ (by decide), hg _ (by decide), hg _ (by decide), lt_vF _, lt_vF _, rfl, ⟨(_, _), by simp only; omega, hg.up (lt_vF _) (lt_vF _), st_yes ht (by decide) ((G2_eq _).trans (by rw [G2_eq]))⟩, by simp only; omega, rfl, rfl⟩
        · refine roundF mixed tt_ok GDm_ok 200 [⟨8,4,.lit (.bo true)⟩,⟨8,10,.lit (.bo false)⟩] ?_
          refine same (p := (!qL [a 0, a 1] zL2) = true ∧ (!qL [b 2, b 3] zL2) = false ∧ true = true ∧ ∃ j : {x // InvDi (tv a) (tv b) 0 x}, 6 - j.1.1 < 6 - 1 ∧ VDi 0 (1 + 1) = VDi 0 j.1.1 ∧ HDo a b g = HDo a b j.1.2) ?_ (by kernel_rfl)
          exact ⟨by rw [hA, h1]; rfl, by rw [hB, h2]; rfl, rfl, ⟨(1 + 1, g), by simp only; omega, hg, st_no ht (by rw [show tv b 1 = 0 from z2_eq h2]; exact cr_z _)⟩, by simp only; omega, rfl, rfl⟩
      · refine roundF mixed tt_ok GDm_ok 200 [⟨8,4,.lit (.bo false)⟩] ?_
        refine same (p := (!qL [a 0, a 1] zL2) = false ∧ true = true ∧ ∃ j : {x // InvDi (tv a) (tv b) 0 x}, 6 - j.1.1 < 6 - 1 ∧ VDi 0 (1 + 1) = VDi 0 j.1.1 ∧ HDo a b g = HDo a b j.1.2) ?_ (by kernel_rfl)
        exact ⟨by rw [hA, h1]; rfl, rfl, ⟨(1 + 1, g), by simp only; omega, hg, st_no ht (by rw [show tv a 0 = 0 from z2_eq h1]; exact cr_zl _)⟩, by simp only; omega, rfl, rfl⟩
    · have hB := qz (hb 4 (by decide)) (hb 5 (by decide))
      cases h1 : z2 (gN (a 0)) (gN (a 1))
      · cases h2 : z2 (gN (b 4)) (gN (b 5))
        · refine roundF mixed tt_ok GDm_ok 200 [⟨8,4,.lit (.bo true)⟩,⟨8,10,.lit (.bo true)⟩] ?_
          refine same (p := (!qL [a 0, a 1] zL2) = true ∧ (!qL [b 4, b 5] zL2) = true ∧ nv (a 0) < pN ∧ nv (a 1) < pN ∧ nv (b 4) < pN ∧ nv (b 5) < pN ∧ nv (g 4) < pN ∧ nv (g 5) < pN ∧ nv (vF (tv a 0 * tv b 2).x) < pN ∧ nv (vF (tv a 0 * tv b 2).y) < pN ∧ true = true ∧
            ∃ j : {x // InvDi (tv a) (tv b) 0 x}, 6 - j.1.1 < 6 - 2 ∧ VDi 0 (2 + 1) = VDi 0 j.1.1 ∧ HDo a b (up2 g (0 + 2) (vF (tv g 2 + G2 (tv a 0 * tv b 2)).x) (vF (tv g 2 + G2 (tv a 0 * tv b 2)).y)) = HDo a b j.1.2) ?_ (by kernel_rfl)
          exact ⟨by rw [hA, h1]; rfl, by rw [hB, h2]; rfl, ha _ (by decide), ha _ (by decide), hb _ (by decide), hb _ (by decide), hg _ (by decide), hg _ (by decide), lt_vF _, lt_vF _, rfl, ⟨(_, _), by simp only; omega, hg.up (lt_vF _) (lt_vF _), st_yes ht (by decide) ((G2_eq _).trans (by rw [G2_eq]))⟩, by simp only; omega, rfl, rfl⟩
        · refine roundF mixed tt_ok GDm_ok 200 [⟨8,4,.lit (.bo true)⟩,⟨8,10,.lit (.bo false)⟩] ?_
          refine same (p := (!qL [a 0, a 1] zL2) = true ∧ (!qL [b 4, b 5] zL2) = false ∧ true = true ∧ ∃ j : {x // InvDi (tv a) (tv b) 0 x}, 6 - j.1.1 < 6 - 2 ∧ VDi 0 (2 + 1) = VDi 0 j.1.1 ∧ HDo a b g = HDo a b j.1.2) ?_ (by kernel_rfl)
          exact ⟨by rw [hA, h1]; rfl, by rw [hB, h2]; rfl, rfl, ⟨(2 + 1, g), by simp only; omega, hg, st_no ht (by rw [show tv b 2 = 0 from z2_eq h2]; exact cr_z _)⟩, by simp only; omega, rfl, rfl⟩
      · refine roundF mixed tt_ok GDm_ok 200 [⟨8,4,.lit (.bo false)⟩] ?_
        refine same (p := (!qL [a 0, a 1] zL2) = false ∧ true = true ∧ ∃ j : {x // InvDi (tv a) (tv b) 0 x}, 6 - j.1.1 < 6 - 2 ∧ VDi 0 (2 + 1) = VDi 0 j.1.1 ∧ HDo a b g = HDo a b j.1.2) ?_ (by kernel_rfl)
        exact ⟨by rw [hA, h1]; rfl, rfl, ⟨(2 + 1, g), by simp only; omega, hg, st_no ht (by rw [show tv a 0 = 0 from z2_eq h1]; exact cr_zl _)⟩, by simp only; omega, rfl, rfl⟩
    · have hB := qz (hb 6 (by decide)) (hb 7 (by decide))
      cases h1 : z2 (gN (a 0)) (gN (a 1))
      · cases h2 : z2 (gN (b 6)) (gN (b 7))
        · refine roundF mixed tt_ok GDm_ok 200 [⟨8,4,.lit (.bo true)⟩,⟨8,10,.lit (.bo true)⟩] ?_
          refine same (p := (!qL [a 0, a 1] zL2) = true ∧ (!qL [b 6, b 7] zL2) = true ∧ nv (a 0) < pN ∧ nv (a 1) < pN ∧ nv (b 6) < pN ∧ nv (b 7) < pN ∧ nv (g 6) < pN ∧ nv (g 7) < pN ∧ nv (vF (tv a 0 * tv b 3).x) < pN ∧ nv (vF (tv a 0 * tv b 3).y) < pN ∧ true = true ∧
            ∃ j : {x // InvDi (tv a) (tv b) 0 x}, 6 - j.1.1 < 6 - 3 ∧ VDi 0 (3 + 1) = VDi 0 j.1.1 ∧ HDo a b (up2 g (0 + 3) (vF (tv g 3 + G2 (tv a 0 * tv b 3)).x) (vF (tv g 3 + G2 (tv a 0 * tv b 3)).y)) = HDo a b j.1.2) ?_ (by kernel_rfl)
          exact ⟨by rw [hA, h1]; rfl, by rw [hB, h2]; rfl, ha _ (by decide), ha _ (by decide), hb _ (by decide), hb _ (by decide), hg _ (by decide), hg _ (by decide), lt_vF _, lt_vF _, rfl, ⟨(_, _), by simp only; omega, hg.up (lt_vF _) (lt_vF _), st_yes ht (by decide) ((G2_eq _).trans (by rw [G2_eq]))⟩, by simp only; omega, rfl, rfl⟩
        · refine roundF mixed tt_ok GDm_ok 200 [⟨8,4,.lit (.bo true)⟩,⟨8,10,.lit (.bo false)⟩] ?_
          refine same (p := (!qL [a 0, a 1] zL2) = true ∧ (!qL [b 6, b 7] zL2) = false ∧ true = true ∧ ∃ j : {x // InvDi (tv a) (tv b) 0 x}, 6 - j.1.1 < 6 - 3 ∧ VDi 0 (3 + 1) = VDi 0 j.1.1 ∧ HDo a b g = HDo a b j.1.2) ?_ (by kernel_rfl)
          exact ⟨by rw [hA, h1]; rfl, by rw [hB, h2]; rfl, rfl, ⟨(3 + 1, g), by simp only; omega, hg, st_no ht (by rw [show tv b 3 = 0 from z2_eq h2]; exact cr_z _)⟩, by simp only; omega, rfl, rfl⟩
      · refine roundF mixed tt_ok GDm_ok 200 [⟨8,4,.lit (.bo false)⟩] ?_
        refine same (p := (!qL [a 0, a 1] zL2) = false ∧ true = true ∧ ∃ j : {x // InvDi (tv a) (tv b) 0 x}, 6 - j.1.1 < 6 - 3 ∧ VDi 0 (3 + 1) = VDi 0 j.1.1 ∧ HDo a b g = HDo a b j.1.2) ?_ (by kernel_rfl)
        exact ⟨by rw [hA, h1]; rfl, rfl, ⟨(3 + 1, g), by simp only; omega, hg, st_no ht (by rw [show tv a 0 = 0 from z2_eq h1]; exact cr_zl _)⟩, by simp only; omega, rfl, rfl⟩
    · have hB := qz (hb 8 (by decide)) (hb 9 (by decide))
      cases h1 : z2 (gN (a 0)) (gN (a 1))
      · cases h2 : z2 (gN (b 8)) (gN (b 9))
        · refine roundF mixed tt_ok GDm_ok 200 [⟨8,4,.lit (.bo true)⟩,⟨8,10,.lit (.bo true)⟩] ?_
          refine same (p := (!qL [a 0, a 1] zL2) = true ∧ (!qL [b 8, b 9] zL2) = true ∧ nv (a 0) < pN ∧ nv (a 1) < pN ∧ nv (b 8) < pN ∧ nv (b 9) < pN ∧ nv (g 8) < pN ∧ nv (g 9) < pN ∧ nv (vF (tv a 0 * tv b 4).x) < pN ∧ nv (vF (tv a 0 * tv b 4).y) < pN ∧ true = true ∧
            ∃ j : {x // InvDi (tv a) (tv b) 0 x}, 6 - j.1.1 < 6 - 4 ∧ VDi 0 (4 + 1) = VDi 0 j.1.1 ∧ HDo a b (up2 g (0 + 4) (vF (tv g 4 + G2 (tv a 0 * tv b 4)).x) (vF (tv g 4 + G2 (tv a 0 * tv b 4)).y)) = HDo a b j.1.2) ?_ (by kernel_rfl)
          exact ⟨by rw [hA, h1]; rfl, by rw [hB, h2]; rfl, ha _ (by decide), ha _ (by decide), hb _ (by decide), hb _ (by decide), hg _ (by decide), hg _ (by decide), lt_vF _, lt_vF _, rfl, ⟨(_, _), by simp only; omega, hg.up (lt_vF _) (lt_vF _), st_yes ht (by decide) ((G2_eq _).trans (by rw [G2_eq]))⟩, by simp only; omega, rfl, rfl⟩
        · refine roundF mixed tt_ok GDm_ok 200 [⟨8,4,.lit (.bo true)⟩,⟨8,10,.lit (.bo false)⟩] ?_
          refine same (p := (!qL [a 0, a 1] zL2) = true ∧ (!qL [b 8, b 9] zL2) = false ∧ true = true ∧ ∃ j : {x // InvDi (tv a) (tv b) 0 x}, 6 - j.1.1 < 6 - 4 ∧ VDi 0 (4 + 1) = VDi 0 j.1.1 ∧ HDo a b g = HDo a b j.1.2) ?_ (by kernel_rfl)
          exact ⟨by rw [hA, h1]; rfl, by rw [hB, h2]; rfl, rfl, ⟨(4 + 1, g), by simp only; omega, hg, st_no ht (by rw [show tv b 4 = 0 from z2_eq h2]; exact cr_z _)⟩, by simp only; omega, rfl, rfl⟩
      · refine roundF mixed tt_ok GDm_ok 200 [⟨8,4,.lit (.bo false)⟩] ?_
        refine same (p := (!qL [a 0, a 1] zL2) = false ∧ true = true ∧ ∃ j : {x // InvDi (tv a) (tv b) 0 x}, 6 - j.1.1 < 6 - 4 ∧ VDi 0 (4 + 1) = VDi 0 j.1.1 ∧ HDo a b g = HDo a b j.1.2) ?_ (by kernel_rfl)
        exact ⟨by rw [hA, h1]; rfl, rfl, ⟨(4 + 1, g), by simp only; omega, hg, st_no ht (by rw [show tv a 0 = 0 from z2_eq h1]; exact cr_zl _)⟩, by simp only; omega, rfl, rfl⟩
    · have hB := qz (hb 10 (by decide)) (hb 11 (by decide))
      cases h1 : z2 (gN (a 0)) (gN (a 1))
      · cases h2 : z2 (gN (b 10)) (gN (b 11))
        · refine roundF mixed tt_ok GDm_ok 200 [⟨8,4,.lit (.bo true)⟩,⟨8,10,.lit (.bo true)⟩] ?_
          refine same (p := (!qL [a 0, a 1] zL2) = true ∧ (!qL [b 10, b 11] zL2) = true ∧ nv (a 0) < pN ∧ nv (a 1) < pN ∧ nv (b 10) < pN ∧ nv (b 11) < pN ∧ nv (g 10) < pN ∧ nv (g 11) < pN ∧ nv (vF (tv a 0 * tv b 5).x) < pN ∧ nv (vF (tv a 0 * tv b 5).y) < pN ∧ true = true ∧
            ∃ j : {x // InvDi (tv a) (tv b) 0 x}, 6 - j.1.1 < 6 - 5 ∧ VDi 0 (5 + 1) = VDi 0 j.1.1 ∧ HDo a b (up2 g (0 + 5) (vF (tv g 5 + G2 (tv a 0 * tv b 5)).x) (vF (tv g 5 + G2 (tv a 0 * tv b 5)).y)) = HDo a b j.1.2) ?_ (by kernel_rfl)
          exact ⟨by rw [hA, h1]; rfl, by rw [hB, h2]; rfl, ha _ (by decide), ha _ (by decide), hb _ (by decide), hb _ (by decide), hg _ (by decide), hg _ (by decide), lt_vF _, lt_vF _, rfl, ⟨(_, _), by simp only; omega, hg.up (lt_vF _) (lt_vF _), st_yes ht (by decide) ((G2_eq _).trans (by rw [G2_eq]))⟩, by simp only; omega, rfl, rfl⟩
        · refine roundF mixed tt_ok GDm_ok 200 [⟨8,4,.lit (.bo true)⟩,⟨8,10,.lit (.bo false)⟩] ?_
          refine same (p := (!qL [a 0, a 1] zL2) = true ∧ (!qL [b 10, b 11] zL2) = false ∧ true = true ∧ ∃ j : {x // InvDi (tv a) (tv b) 0 x}, 6 - j.1.1 < 6 - 5 ∧ VDi 0 (5 + 1) = VDi 0 j.1.1 ∧ HDo a b g = HDo a b j.1.2) ?_ (by kernel_rfl)
          exact ⟨by rw [hA, h1]; rfl, by rw [hB, h2]; rfl, rfl, ⟨(5 + 1, g), by simp only; omega, hg, st_no ht (by rw [show tv b 5 = 0 from z2_eq h2]; exact cr_z _)⟩, by simp only; omega, rfl, rfl⟩
      · refine roundF mixed tt_ok GDm_ok 200 [⟨8,4,.lit (.bo false)⟩] ?_
        refine same (p := (!qL [a 0, a 1] zL2) = false ∧ true = true ∧ ∃ j : {x // InvDi (tv a) (tv b) 0 x}, 6 - j.1.1 < 6 - 5 ∧ VDi 0 (5 + 1) = VDi 0 j.1.1 ∧ HDo a b g = HDo a b j.1.2) ?_ (by kernel_rfl)
        exact ⟨by rw [hA, h1]; rfl, rfl, ⟨(5 + 1, g), by simp only; omega, hg, st_no ht (by rw [show tv a 0 = 0 from z2_eq h1]; exact cr_zl _)⟩, by simp only; omega, rfl, rfl⟩
    · refine roundF mixed tt_ok GDm_ok 100 [] ?_
      refine same (p := true = true ∧ ∃ j : {x // InvDi (tv a) (tv b) 0 x}, j.1.1 = 6 ∧ VDi 0 6 = VDi 0 j.1.1 ∧ HDo a b g = HDo a b j.1.2) ?_ (by kernel_rfl)
      exact ⟨rfl, ⟨(6, g), hk, hg, ht⟩, rfl, rfl, rfl⟩
  · intro ⟨⟨k, g⟩, hk, hg, ht⟩ junk h66
    simp only at hk hg ht h66
    subst h66
    refine same (p := true = true ∧ ∃ j : {x // InvDo (tv a) (tv b) x}, 6 - j.1.1 < 6 - 0 ∧ VDo (0 + 1) = VDo j.1.1 ∧ HDo a b g = HDo a b j.1.2) ?_ (by kernel_rfl)
    exact ⟨rfl, ⟨(0 + 1, g), by simp only; omega, hg, ht⟩, by simp only; omega, rfl, rfl⟩
theorem mulI1 {a b : Nat → Nat → Nat} (ha : LtN 12 a) (hb : LtN 12 b) {g : Nat → Nat → Nat} (hg : LtN 22 g) (ht : ∀ j, j < 11 → tv g j = cout (tv a) (tv b) 1 j) {Q : Exit → AS → Prop} (junk : Nat → Value) :
    AWq Try.prog (fun _ => False) (loopOf (atK 0 (flatC (bodyOf Try.f36)))) (RoundE (loopId (atK 0 (flatC (bodyOf Try.f36)))) [2,3,4,5,6] 79 4 (fun x : {x // InvDo (tv a) (tv b) x} => VDo x.1.1) (fun x => HDo a b x.1.2) (fun x => 6 - x.1.1) ⟨(1, g), by simp, hg, ht⟩ (fun x => x.1.1 = 6) Q) ⟨mkT [2,3,4,5,6] (VDo 1) 79 junk, HDo a b g⟩ := by
  refine nestF mixed tt_ok GDm_ok (l := flatC (loopOf (atL (flatC (bodyOf Try.f36))))) (lB := flatC (blkOf (atB (flatC (loopOf (atL (flatC (bodyOf Try.f36)))))))) (by kernel_rfl) rfl (by kernel_rfl) rfl
    (ι := {x // InvDi (tv a) (tv b) 1 x}) [2,3,4,5,6,7] 79 4 (fun x => VDi 1 x.1.1) (fun x => HDo a b x.1.2) (fun x => 6 - x.1.1) (fun x => x.1.1 = 6)
    (fun _ => rfl) (fun _ => by kernel_rfl) (fun _ _ h => h.elim) 200 [] [] [] ?_ ?_ ?_
  · refine same (p := true = true ∧ ∃ j : {x // InvDi (tv a) (tv b) 1 x}, VDi 1 0 = VDi 1 j.1.1 ∧ HDo a b g = HDo a b j.1.2) ?_ (by kernel_rfl)
    exact ⟨rfl, ⟨(0, g), by simp, hg, ht⟩, rfl, rfl⟩
  · intro ⟨⟨k, g⟩, hk, hg, ht⟩ junk
    simp only at hk hg ht
    have hA := qz (ha 2 (by decide)) (ha 3 (by decide))
    rcases (show k = 0 ∨ k = 1 ∨ k = 2 ∨ k = 3 ∨ k = 4 ∨ k = 5 ∨ k = 6 by omega) with rfl | rfl | rfl | rfl | rfl | rfl | rfl
    · have hB := qz (hb 0 (by decide)) (hb 1 (by decide))
      cases h1 : z2 (gN (a 2)) (gN (a 3))
      · cases h2 : z2 (gN (b 0)) (gN (b 1))
        · refine roundF mixed tt_ok GDm_ok 200 [⟨8,4,.lit (.bo true)⟩,⟨8,10,.lit (.bo true)⟩] ?_
          refine same (p := (!qL [a 2, a 3] zL2) = true ∧ (!qL [b 0, b 1] zL2) = true ∧ nv (a 2) < pN ∧ nv (a 3) < pN ∧ nv (b 0) < pN ∧ nv (b 1) < pN ∧ nv (g 2) < pN ∧ nv (g 3) < pN ∧ nv (vF (tv a 1 * tv b 0).x) < pN ∧ nv (vF (tv a 1 * tv b 0).y) < pN ∧ true = true ∧
            ∃ j : {x // InvDi (tv a) (tv b) 1 x}, 6 - j.1.1 < 6 - 0 ∧ VDi 1 (0 + 1) = VDi 1 j.1.1 ∧ HDo a b (up2 g (1 + 0) (vF (tv g 1 + G2 (tv a 1 * tv b 0)).x) (vF (tv g 1 + G2 (tv a 1 * tv b 0)).y)) = HDo a b j.1.2) ?_ (by kernel_rfl)
          exact ⟨by rw [hA, h1]; rfl, by rw [hB, h2]; rfl, ha _ (by decide), ha _ (by decide), hb _ (by decide), hb _ (by decide), hg _ (by decide), hg _ (by decide), lt_vF _, lt_vF _, rfl, ⟨(_, _), by simp only; omega, hg.up (lt_vF _) (lt_vF _), st_yes ht (by decide) ((G2_eq _).trans (by rw [G2_eq]))⟩, by simp only; omega, rfl, rfl⟩
        · refine roundF mixed tt_ok GDm_ok 200 [⟨8,4,.lit (.bo true)⟩,⟨8,10,.lit (.bo false)⟩] ?_
          refine same (p := (!qL [a 2, a 3] zL2) = true ∧ (!qL [b 0, b 1] zL2) = false ∧ true = true ∧ ∃ j : {x // InvDi (tv a) (tv b) 1 x}, 6 - j.1.1 < 6 - 0 ∧ VDi 1 (0 + 1) = VDi 1 j.1.1 ∧ HDo a b g = HDo a b j.1.2) ?_ (by kernel_rfl)
          exact ⟨by rw [hA, h1]; rfl, by rw [hB, h2]; rfl, rfl, ⟨(0 + 1, g), by simp only; omega, hg, st_no ht (by rw [show tv b 0 = 0 from z2_eq h2]; exact cr_z _)⟩, by simp only; omega, rfl, rfl⟩
      · refine roundF mixed tt_ok GDm_ok 200 [⟨8,4,.lit (.bo false)⟩] ?_
        refine same (p := (!qL [a 2, a 3] zL2) = false ∧ true = true ∧ ∃ j : {x // InvDi (tv a) (tv b) 1 x}, 6 - j.1.1 < 6 - 0 ∧ VDi 1 (0 + 1) = VDi 1 j.1.1 ∧ HDo a b g = HDo a b j.1.2) ?_ (by kernel_rfl)
        exact ⟨by rw [hA, h1]; rfl, rfl, ⟨(0 + 1, g), by simp only; omega, hg, st_no ht (by rw [show tv a 1 = 0 from z2_eq h1]; exact cr_zl _)⟩, by simp only; omega, rfl, rfl⟩
    · have hB := qz (hb 2 (by decide)) (hb 3 (by decide))
      cases h1 : z2 (gN (a 2)) (gN (a 3))
      · cases h2 : z2 (gN (b 2)) (gN (b 3))
        · refine roundF mixed tt_ok GDm_ok 200 [⟨8,4,.lit (.bo true)⟩,⟨8,10,.lit (.bo true)⟩] ?_
          refine same (p := (!qL [a 2, a 3] zL2) = true ∧ (!qL [b 2, b 3] zL2) = true ∧ nv (a 2) < pN ∧ nv (a 3) < pN ∧ nv (b 2) < pN ∧ nv (b 3) < pN ∧ nv (g 4) < pN ∧ nv (g 5) < pN ∧ nv (vF (tv a 1 * tv b 1).x) < pN ∧ nv (vF (tv a 1 * tv b 1).y) < pN ∧ true = true ∧
            ∃ j : {x // InvDi (tv a) (tv b) 1 x}, 6 - j.1.1 < 6 - 1 ∧ VDi 1 (1 + 1) = VDi 1 j.1.1 ∧ HDo a b (up2 g (1 + 1) (vF (tv g 2 + G2 (tv a 1 * tv b 1)).x) (vF (tv g 2 + G2 (tv a 1 * tv b 1)).y)) = HDo a b j.1.2) ?_ (by kernel_rfl)
          exact ⟨by rw [hA, h1]; rfl, by rw [hB, h2]; rfl, ha _ (by decide), ha _ (by decide), hb _ (by decide), hb _ (by decide), hg _ (by decide), hg _ (by decide), lt_vF _, lt_vF _, rfl, ⟨(_, _), by simp only; omega, hg.up (lt_vF _) (lt_vF _), st_yes ht (by decide) ((G2_eq _).trans (by rw [G2_eq]))⟩, by simp only; omega, rfl, rfl⟩
        · refine roundF mixed tt_ok GDm_ok 200 [⟨8,4,.lit (.bo true)⟩,⟨8,10,.lit (.bo false)⟩] ?_
          refine same (p := (!qL [a 2, a 3] zL2) = true ∧ (!qL [b 2, b 3] zL2) = false ∧ true = true ∧ ∃ j : {x // InvDi (tv a) (tv b) 1 x}, 6 - j.1.1 < 6 - 1 ∧ VDi 1 (1 + 1) = VDi 1 j.1.1 ∧ HDo a b g = HDo a b j.1.2) ?_ (by kernel_rfl)
          exact ⟨by rw [hA, h1]; rfl, by rw [hB, h2]; rfl, rfl, ⟨(1 + 1, g), by simp only; omega, hg, st_no ht (by rw [show tv b 1 = 0 from z2_eq h2]; exact cr_z _)⟩, by simp only; omega, rfl, rfl⟩
      · refine roundF mixed tt_ok GDm_ok 200 [⟨8,4,.lit (.bo false)⟩] ?_
        refine same (p := (!qL [a 2, a 3] zL2) = false ∧ true = true ∧ ∃ j : {x // InvDi (tv a) (tv b) 1 x}, 6 - j.1.1 < 6 - 1 ∧ VDi 1 (1 + 1) = VDi 1 j.1.1 ∧ HDo a b g = HDo a b j.1.2) ?_ (by kernel_rfl)
        exact ⟨by rw [hA, h1]; rfl, rfl, ⟨(1 + 1, g), by simp only; omega, hg, st_no ht (by rw [show tv a 1 = 0 from z2_eq h1]; exact cr_zl _)⟩, by simp only; omega, rfl, rfl⟩
    · have hB := qz (hb 4 (by decide)) (hb 5 (by decide))
      cases h1 : z2 (gN (a 2)) (gN (a 3))
      · cases h2 : z2 (gN (b 4)) (gN (b 5))
        · refine roundF mixed tt_ok GDm_ok 200 [⟨8,4,.lit (.bo true)⟩,⟨8,10,.lit (.bo true)⟩] ?_
          refine same (p := (!qL [a 2, a 3] zL2) = true ∧ (!qL [b 4, b 5] zL2) = true ∧ nv (a 2) < pN ∧ nv (a 3) < pN ∧ nv (b 4) < pN ∧ nv (b 5) < pN ∧ nv (g 6) < pN ∧ nv (g 7) < pN ∧ nv (vF (tv a 1 * tv b 2).x) < pN ∧ nv (vF (tv a 1 * tv b 2).y) < pN ∧ true = true ∧
            ∃ j : {x // InvDi (tv a) (tv b) 1 x}, 6 - j.1.1 < 6 - 2 ∧ VDi 1 (2 + 1) = VDi 1 j.1.1 ∧ HDo a b (up2 g (1 + 2) (vF (tv g 3 + G2 (tv a 1 * tv b 2)).x) (vF (tv g 3 + G2 (tv a 1 * tv b 2)).y)) = HDo a b j.1.2) ?_ (by kernel_rfl)
          exact ⟨by rw [hA, h1]; rfl, by rw [hB, h2]; rfl, ha _ (by decide), ha _ (by decide), hb _ (by decide), hb _ (by decide), hg _ (by decide), hg _ (by decide), lt_vF _, lt_vF _, rfl, ⟨(_, _), by simp only; omega, hg.up (lt_vF _) (lt_vF _), st_yes ht (by decide) ((G2_eq _).trans (by rw [G2_eq]))⟩, by simp only; omega, rfl, rfl⟩
        · refine roundF mixed tt_ok GDm_ok 200 [⟨8,4,.lit (.bo true)⟩,⟨8,10,.lit (.bo false)⟩] ?_
          refine same (p := (!qL [a 2, a 3] zL2) = true ∧ (!qL [b 4, b 5] zL2) = false ∧ true = true ∧ ∃ j : {x // InvDi (tv a) (tv b) 1 x}, 6 - j.1.1 < 6 - 2 ∧ VDi 1 (2 + 1) = VDi 1 j.1.1 ∧ HDo a b g = HDo a b j.1.2) ?_ (by kernel_rfl)
          exact ⟨by rw [hA, h1]; rfl, by rw [hB, h2]; rfl, rfl, ⟨(2 + 1, g), by simp only; omega, hg, st_no ht (by rw [show tv b 2 = 0 from z2_eq h2]; exact cr_z _)⟩, by simp only; omega, rfl, rfl⟩
      · refine roundF mixed tt_ok GDm_ok 200 [⟨8,4,.lit (.bo false)⟩] ?_
        refine same (p := (!qL [a 2, a 3] zL2) = false ∧ true = true ∧ ∃ j : {x // InvDi (tv a) (tv b) 1 x}, 6 - j.1.1 < 6 - 2 ∧ VDi 1 (2 + 1) = VDi 1 j.1.1 ∧ HDo a b g = HDo a b j.1.2) ?_ (by kernel_rfl)
        exact ⟨by rw [hA, h1]; rfl, rfl, ⟨(2 + 1, g), by simp only; omega, hg, st_no ht (by rw [show tv a 1 = 0 from z2_eq h1]; exact cr_zl _)⟩, by simp only; omega, rfl, rfl⟩
    · have hB := qz (hb 6 (by decide)) (hb 7 (by decide))
      cases h1 : z2 (gN (a 2)) (gN (a 3))
      · cases h2 : z2 (gN (b 6)) (gN (b 7))
        · refine roundF mixed tt_ok GDm_ok 200 [⟨8,4,.lit (.bo true)⟩,⟨8,10,.lit (.bo true)⟩] ?_
          refine same (p := (!qL [a 2, a 3] zL2) = true ∧ (!qL [b 6, b 7] zL2) = true ∧ nv (a 2) < pN ∧ nv (a 3) < pN ∧ nv (b 6) < pN ∧ nv (b 7) < pN ∧ nv (g 8) < pN ∧ nv (g 9) < pN ∧ nv (vF (tv a 1 * tv b 3).x) < pN ∧ nv (vF (tv a 1 * tv b 3).y) < pN ∧ true = true ∧
            ∃ j : {x // InvDi (tv a) (tv b) 1 x}, 6 - j.1.1 < 6 - 3 ∧ VDi 1 (3 + 1) = VDi 1 j.1.1 ∧ HDo a b (up2 g (1 + 3) (vF (tv g 4 + G2 (tv a 1 * tv b 3)).x) (vF (tv g 4 + G2 (tv a 1 * tv b 3)).y)) = HDo a b j.1.2) ?_ (by kernel_rfl)
          exact ⟨by rw [hA, h1]; rfl, by rw [hB, h2]; rfl, ha _ (by decide), ha _ (by decide), hb _ (by decide), hb _ (by decide), hg _ (by decide), hg _ (by decide), lt_vF _, lt_vF _, rfl, ⟨(_, _), by simp only; omega, hg.up (lt_vF _) (lt_vF _), st_yes ht (by decide) ((G2_eq _).trans (by rw [G2_eq]))⟩, by simp only; omega, rfl, rfl⟩
        · refine roundF mixed tt_ok GDm_ok 200 [⟨8,4,.lit (.bo true)⟩,⟨8,10,.lit (.bo false)⟩] ?_
          refine same (p := (!qL [a 2, a 3] zL2) = true ∧ (!qL [b 6, b 7] zL2) = false ∧ true = true ∧ ∃ j : {x // InvDi (tv a) (tv b) 1 x}, 6 - j.1.1 < 6 - 3 ∧ VDi 1 (3 + 1) = VDi 1 j.1.1 ∧ HDo a b g = HDo a b j.1.2) ?_ (by kernel_rfl)
          exact ⟨by rw [hA, h1]; rfl, by rw [hB, h2]; rfl, rfl, ⟨(3 + 1, g), by simp only; omega, hg, st_no ht (by rw [show tv b 3 = 0 from z2_eq h2]; exact cr_z _)⟩, by simp only; omega, rfl, rfl⟩
      · refine roundF mixed tt_ok GDm_ok 200 [⟨8,4,.lit (.bo false)⟩] ?_
        refine same (p := (!qL [a 2, a 3] zL2) = false ∧ true = true ∧ ∃ j : {x // InvDi (tv a) (tv b) 1 x}, 6 - j.1.1 < 6 - 3 ∧ VDi 1 (3 + 1) = VDi 1 j.1.1 ∧ HDo a b g = HDo a b j.1.2) ?_ (by kernel_rfl)
        exact ⟨by rw [hA, h1]; rfl, rfl, ⟨(3 + 1, g), by simp only; omega, hg, st_no ht (by rw [show tv a 1 = 0 from z2_eq h1]; exact cr_zl _)⟩, by simp only; omega, rfl, rfl⟩
    · have hB := qz (hb 8 (by decide)) (hb 9 (by decide))
      cases h1 : z2 (gN (a 2)) (gN (a 3))
      · cases h2 : z2 (gN (b 8)) (gN (b 9))
        · refine roundF mixed tt_ok GDm_ok 200 [⟨8,4,.lit (.bo true)⟩,⟨8,10,.lit (.bo true)⟩] ?_
          refine same (p := (!qL [a 2, a 3] zL2) = true ∧ (!qL [b 8, b 9] zL2) = true ∧ nv (a 2) < pN ∧ nv (a 3) < pN ∧ nv (b 8) < pN ∧ nv (b 9) < pN ∧ nv (g 10) < pN ∧ nv (g 11) < pN ∧ nv (vF (tv a 1 * tv b 4).x) < pN ∧ nv (vF (tv a 1 * tv b 4).y) < pN ∧ true = true ∧
            ∃ j : {x // InvDi (tv a) (tv b) 1 x}, 6 - j.1.1 < 6 - 4 ∧ VDi 1 (4 + 1) = VDi 1 j.1.1 ∧ HDo a b (up2 g (1 + 4) (vF (tv g 5 + G2 (tv a 1 * tv b 4)).x) (vF (tv g 5 + G2 (tv a 1 * tv b 4)).y)) = HDo a b j.1.2) ?_ (by kernel_rfl)
          exact ⟨by rw [hA, h1]; rfl, by rw [hB, h2]; rfl, ha _ (by decide), ha _ (by decide), hb _ (by decide), hb _ (by decide), hg _ (by decide), hg _ (by decide), lt_vF _, lt_vF _, rfl, ⟨(_, _), by simp only; omega, hg.up (lt_vF _) (lt_vF _), st_yes ht (by decide) ((G2_eq _).trans (by rw [G2_eq]))⟩, by simp only; omega, rfl, rfl⟩
        · refine roundF mixed tt_ok GDm_ok 200 [⟨8,4,.lit (.bo true)⟩,⟨8,10,.lit (.bo false)⟩] ?_
          refine same (p := (!qL [a 2, a 3] zL2) = true ∧ (!qL [b 8, b 9] zL2) = false ∧ true = true ∧ ∃ j : {x // InvDi (tv a) (tv b) 1 x}, 6 - j.1.1 < 6 - 4 ∧ VDi 1 (4 + 1) = VDi 1 j.1.1 ∧ HDo a b g = HDo a b j.1.2) ?_ (by kernel_rfl)
          exact ⟨by rw [hA, h1]; rfl, by rw [hB, h2]; rfl, rfl, ⟨(4 + 1, g), by simp only; omega, hg, st_no ht (by rw [show tv b 4 = 0 from z2_eq h2]; exact cr_z _)⟩, by simp only; omega, rfl, rfl⟩
      · refine roundF mixed tt_ok GDm_ok 200 [⟨8,4,.lit (.bo false)⟩] ?_
        refine same (p := (!qL [a 2, a 3] zL2) = false ∧ true = true ∧ ∃ j : {x // InvDi (tv a) (tv b) 1 x}, 6 - j.1.1 < 6 - 4 ∧ VDi 1 (4 + 1) = VDi 1 j.1.1 ∧ HDo a b g = HDo a b j.1.2) ?_ (by kernel_rfl)
        exact ⟨by rw [hA, h1]; rfl, rfl, ⟨(4 + 1, g), by simp only; omega, hg, st_no ht (by rw [show tv a 1 = 0 from z2_eq h1]; exact cr_zl _)⟩, by simp only; omega, rfl, rfl⟩
    · have hB := qz (hb 10 (by decide)) (hb 11 (by decide))
      cases h1 : z2 (gN (a 2)) (gN (a 3))
      · cases h2 : z2 (gN (b 10)) (gN (b 11))
        · refine roundF mixed tt_ok GDm_ok 200 [⟨8,4,.lit (.bo true)⟩,⟨8,10,.lit (.bo true)⟩] ?_
          refine same (p := (!qL [a 2, a 3] zL2) = true ∧ (!qL [b 10, b 11] zL2) = true ∧ nv (a 2) < pN ∧ nv (a 3) < pN ∧ nv (b 10) < pN ∧ nv (b 11) < pN ∧ nv (g 12) < pN ∧ nv (g 13) < pN ∧ nv (vF (tv a 1 * tv b 5).x) < pN ∧ nv (vF (tv a 1 * tv b 5).y) < pN ∧ true = true ∧
            ∃ j : {x // InvDi (tv a) (tv b) 1 x}, 6 - j.1.1 < 6 - 5 ∧ VDi 1 (5 + 1) = VDi 1 j.1.1 ∧ HDo a b (up2 g (1 + 5) (vF (tv g 6 + G2 (tv a 1 * tv b 5)).x) (vF (tv g 6 + G2 (tv a 1 * tv b 5)).y)) = HDo a b j.1.2) ?_ (by kernel_rfl)
          exact ⟨by rw [hA, h1]; rfl, by rw [hB, h2]; rfl, ha _ (by decide), ha _ (by decide), hb _ (by decide), hb _ (by decide), hg _ (by decide), hg _ (by decide), lt_vF _, lt_vF _, rfl, ⟨(_, _), by simp only; omega, hg.up (lt_vF _) (lt_vF _), st_yes ht (by decide) ((G2_eq _).trans (by rw [G2_eq]))⟩, by simp only; omega, rfl, rfl⟩
        · refine roundF mixed tt_ok GDm_ok 200 [⟨8,4,.lit (.bo true)⟩,⟨8,10,.lit (.bo false)⟩] ?_
          refine same (p := (!qL [a 2, a 3] zL2) = true ∧ (!qL [b 10, b 11] zL2) = false ∧ true = true ∧ ∃ j : {x // InvDi (tv a) (tv b) 1 x}, 6 - j.1.1 < 6 - 5 ∧ VDi 1 (5 + 1) = VDi 1 j.1.1 ∧ HDo a b g = HDo a b j.1.2) ?_ (by kernel_rfl)
          exact ⟨by rw [hA, h1]; rfl, by rw [hB, h2]; rfl, rfl, ⟨(5 + 1, g), by simp only; omega, hg, st_no ht (by rw [show tv b 5 = 0 from z2_eq h2]; exact cr_z _)⟩, by simp only; omega, rfl, rfl⟩
      · refine roundF mixed tt_ok GDm_ok 200 [⟨8,4,.lit (.bo false)⟩] ?_
        refine same (p := (!qL [a 2, a 3] zL2) = false ∧ true = true ∧ ∃ j : {x // InvDi (tv a) (tv b) 1 x}, 6 - j.1.1 < 6 - 5 ∧ VDi 1 (5 + 1) = VDi 1 j.1.1 ∧ HDo a b g = HDo a b j.1.2) ?_ (by kernel_rfl)
        exact ⟨by rw [hA, h1]; rfl, rfl, ⟨(5 + 1, g), by simp only; omega, hg, st_no ht (by rw [show tv a 1 = 0 from z2_eq h1]; exact cr_zl _)⟩, by simp only; omega, rfl, rfl⟩
    · refine roundF mixed tt_ok GDm_ok 100 [] ?_
      refine same (p := true = true ∧ ∃ j : {x // InvDi (tv a) (tv b) 1 x}, j.1.1 = 6 ∧ VDi 1 6 = VDi 1 j.1.1 ∧ HDo a b g = HDo a b j.1.2) ?_ (by kernel_rfl)
      exact ⟨rfl, ⟨(6, g), hk, hg, ht⟩, rfl, rfl, rfl⟩
  · intro ⟨⟨k, g⟩, hk, hg, ht⟩ junk h66
    simp only at hk hg ht h66
    subst h66
    refine same (p := true = true ∧ ∃ j : {x // InvDo (tv a) (tv b) x}, 6 - j.1.1 < 6 - 1 ∧ VDo (1 + 1) = VDo j.1.1 ∧ HDo a b g = HDo a b j.1.2) ?_ (by kernel_rfl)
    exact ⟨rfl, ⟨(1 + 1, g), by simp only; omega, hg, ht⟩, by simp only; omega, rfl, rfl⟩
theorem mulI2 {a b : Nat → Nat → Nat} (ha : LtN 12 a) (hb : LtN 12 b) {g : Nat → Nat → Nat} (hg : LtN 22 g) (ht : ∀ j, j < 11 → tv g j = cout (tv a) (tv b) 2 j) {Q : Exit → AS → Prop} (junk : Nat → Value) :
    AWq Try.prog (fun _ => False) (loopOf (atK 0 (flatC (bodyOf Try.f36)))) (RoundE (loopId (atK 0 (flatC (bodyOf Try.f36)))) [2,3,4,5,6] 79 4 (fun x : {x // InvDo (tv a) (tv b) x} => VDo x.1.1) (fun x => HDo a b x.1.2) (fun x => 6 - x.1.1) ⟨(2, g), by simp, hg, ht⟩ (fun x => x.1.1 = 6) Q) ⟨mkT [2,3,4,5,6] (VDo 2) 79 junk, HDo a b g⟩ := by
  refine nestF mixed tt_ok GDm_ok (l := flatC (loopOf (atL (flatC (bodyOf Try.f36))))) (lB := flatC (blkOf (atB (flatC (loopOf (atL (flatC (bodyOf Try.f36)))))))) (by kernel_rfl) rfl (by kernel_rfl) rfl
    (ι := {x // InvDi (tv a) (tv b) 2 x}) [2,3,4,5,6,7] 79 4 (fun x => VDi 2 x.1.1) (fun x => HDo a b x.1.2) (fun x => 6 - x.1.1) (fun x => x.1.1 = 6)
    (fun _ => rfl) (fun _ => by kernel_rfl) (fun _ _ h => h.elim) 200 [] [] [] ?_ ?_ ?_
  · refine same (p := true = true ∧ ∃ j : {x // InvDi (tv a) (tv b) 2 x}, VDi 2 0 = VDi 2 j.1.1 ∧ HDo a b g = HDo a b j.1.2) ?_ (by kernel_rfl)
    exact ⟨rfl, ⟨(0, g), by simp, hg, ht⟩, rfl, rfl⟩
  · intro ⟨⟨k, g⟩, hk, hg, ht⟩ junk
    simp only at hk hg ht
    have hA := qz (ha 4 (by decide)) (ha 5 (by decide))
    rcases (show k = 0 ∨ k = 1 ∨ k = 2 ∨ k = 3 ∨ k = 4 ∨ k = 5 ∨ k = 6 by omega) with rfl | rfl | rfl | rfl | rfl | rfl | rfl
    · have hB := qz (hb 0 (by decide)) (hb 1 (by decide))
      cases h1 : z2 (gN (a 4)) (gN (a 5))
      · cases h2 : z2 (gN (b 0)) (gN (b 1))
        · refine roundF mixed tt_ok GDm_ok 200 [⟨8,4,.lit (.bo true)⟩,⟨8,10,.lit (.bo true)⟩] ?_
          refine same (p := (!qL [a 4, a 5] zL2) = true ∧ (!qL [b 0, b 1] zL2) = true ∧ nv (a 4) < pN ∧ nv (a 5) < pN ∧ nv (b 0) < pN ∧ nv (b 1) < pN ∧ nv (g 4) < pN ∧ nv (g 5) < pN ∧ nv (vF (tv a 2 * tv b 0).x) < pN ∧ nv (vF (tv a 2 * tv b 0).y) < pN ∧ true = true ∧
            ∃ j : {x // InvDi (tv a) (tv b) 2 x}, 6 - j.1.1 < 6 - 0 ∧ VDi 2 (0 + 1) = VDi 2 j.1.1 ∧ HDo a b (up2 g (2 + 0) (vF (tv g 2 + G2 (tv a 2 * tv b 0)).x) (vF (tv g 2 + G2 (tv a 2 * tv b 0)).y)) = HDo a b j.1.2) ?_ (by kernel_rfl)
          exact ⟨by rw [hA, h1]; rfl, by rw [hB, h2]; rfl, ha _ (by decide), ha _ (by decide), hb _ (by decide), hb _ (by decide), hg _ (by decide), hg _ (by decide), lt_vF _, lt_vF _, rfl, ⟨(_, _), by simp only; omega, hg.up (lt_vF _) (lt_vF _), st_yes ht (by decide) ((G2_eq _).trans (by rw [G2_eq]))⟩, by simp only; omega, rfl, rfl⟩
        · refine roundF mixed tt_ok GDm_ok 200 [⟨8,4,.lit (.bo true)⟩,⟨8,10,.lit (.bo false)⟩] ?_
          refine same (p := (!qL [a 4, a 5] zL2) = true ∧ (!qL [b 0, b 1] zL2) = false ∧ true = true ∧ ∃ j : {x // InvDi (tv a) (tv b) 2 x}, 6 - j.1.1 < 6 - 0 ∧ VDi 2 (0 + 1) = VDi 2 j.1.1 ∧ HDo a b g = HDo a b j.1.2) ?_ (by kernel_rfl)
          exact ⟨by rw [hA, h1]; rfl, by rw [hB, h2]; rfl, rfl, ⟨(0 + 1, g), by simp only; omega, hg, st_no ht (by rw [show tv b 0 = 0 from z2_eq h2]; exact cr_z _)⟩, by simp only; omega, rfl, rfl⟩
      · refine roundF mixed tt_ok GDm_ok 200 [⟨8,4,.lit (.bo false)⟩] ?_
        refine same (p := (!qL [a 4, a 5] zL2) = false ∧ true = true ∧ ∃ j : {x // InvDi (tv a) (tv b) 2 x}, 6 - j.1.1 < 6 - 0 ∧ VDi 2 (0 + 1) = VDi 2 j.1.1 ∧ HDo a b g = HDo a b j.1.2) ?_ (by kernel_rfl)
        exact ⟨by rw [hA, h1]; rfl, rfl, ⟨(0 + 1, g), by simp only; omega, hg, st_no ht (by rw [show tv a 2 = 0 from z2_eq h1]; exact cr_zl _)⟩, by simp only; omega, rfl, rfl⟩
    · have hB := qz (hb 2 (by decide)) (hb 3 (by decide))
      cases h1 : z2 (gN (a 4)) (gN (a 5))
      · cases h2 : z2 (gN (b 2)) (gN (b 3))
        · refine roundF mixed tt_ok GDm_ok 200 [⟨8,4,.lit (.bo true)⟩,⟨8,10,.lit (.bo true)⟩] ?_
          refine same (p := (!qL [a 4, a 5] zL2) = true ∧ (!qL [b 2, b 3] zL2) = true ∧ nv (a 4) < pN ∧ nv (a 5) < pN ∧ nv (b 2) < pN ∧ nv (b 3) < pN ∧ nv (g 6) < pN ∧ nv (g 7) < pN ∧ nv (vF (tv a 2 * tv b 1).x) < pN ∧ nv (vF (tv a 2 * tv b 1).y) < pN ∧ true = true ∧
            ∃ j : {x // InvDi (tv a) (tv b) 2 x}, 6 - j.1.1 < 6 - 1 ∧ VDi 2 (1 + 1) = VDi 2 j.1.1 ∧ HDo a b (up2 g (2 + 1) (vF (tv g 3 + G2 (tv a 2 * tv b 1)).x) (vF (tv g 3 + G2 (tv a 2 * tv b 1)).y)) = HDo a b j.1.2) ?_ (by kernel_rfl)
          exact ⟨by rw [hA, h1]; rfl, by rw [hB, h2]; rfl, ha _ (by decide), ha _ (by decide), hb _ (by decide), hb _ (by decide), hg _ (by decide), hg _ (by decide), lt_vF _, lt_vF _, rfl, ⟨(_, _), by simp only; omega, hg.up (lt_vF _) (lt_vF _), st_yes ht (by decide) ((G2_eq _).trans (by rw [G2_eq]))⟩, by simp only; omega, rfl, rfl⟩
        · refine roundF mixed tt_ok GDm_ok 200 [⟨8,4,.lit (.bo true)⟩,⟨8,10,.lit (.bo false)⟩] ?_
          refine same (p := (!qL [a 4, a 5] zL2) = true ∧ (!qL [b 2, b 3] zL2) = false ∧ true = true ∧ ∃ j : {x // InvDi (tv a) (tv b) 2 x}, 6 - j.1.1 < 6 - 1 ∧ VDi 2 (1 + 1) = VDi 2 j.1.1 ∧ HDo a b g = HDo a b j.1.2) ?_ (by kernel_rfl)
          exact ⟨by rw [hA, h1]; rfl, by rw [hB, h2]; rfl, rfl, ⟨(1 + 1, g), by simp only; omega, hg, st_no ht (by rw [show tv b 1 = 0 from z2_eq h2]; exact cr_z _)⟩, by simp only; omega, rfl, rfl⟩
      · refine roundF mixed tt_ok GDm_ok 200 [⟨8,4,.lit (.bo false)⟩] ?_
        refine same (p := (!qL [a 4, a 5] zL2) = false ∧ true = true ∧ ∃ j : {x // InvDi (tv a) (tv b) 2 x}, 6 - j.1.1 < 6 - 1 ∧ VDi 2 (1 + 1) = VDi 2 j.1.1 ∧ HDo a b g = HDo a b j.1.2) ?_ (by kernel_rfl)
        exact ⟨by rw [hA, h1]; rfl, rfl, ⟨(1 + 1, g), by simp only; omega, hg, st_no ht (by rw [show tv a 2 = 0 from z2_eq h1]; exact cr_zl _)⟩, by simp only; omega, rfl, rfl⟩
    · have hB := qz (hb 4 (by decide)) (hb 5 (by decide))
      cases h1 : z2 (gN (a 4)) (gN (a 5))
      · cases h2 : z2 (gN (b 4)) (gN (b 5))
        · refine roundF mixed tt_ok GDm_ok 200 [⟨8,4,.lit (.bo true)⟩,⟨8,10,.lit (.bo true)⟩] ?_
          refine same (p := (!qL [a 4, a 5] zL2) = true ∧ (!qL [b 4, b 5] zL2) = true ∧ nv (a 4) < pN ∧ nv (a 5) < pN ∧ nv (b 4) < pN ∧ nv (b 5) < pN ∧ nv (g 8) < pN ∧ nv (g 9) < pN ∧ nv (vF (tv a 2 * tv b 2).x) < pN ∧ nv (vF (tv a 2 * tv b 2).y) < pN ∧ true = true ∧
            ∃ j : {x // InvDi (tv a) (tv b) 2 x}, 6 - j.1.1 < 6 - 2 ∧ VDi 2 (2 + 1) = VDi 2 j.1.1 ∧ HDo a b (up2 g (2 + 2) (vF (tv g 4 + G2 (tv a 2 * tv b 2)).x) (vF (tv g 4 + G2 (tv a 2 * tv b 2)).y)) = HDo a b j.1.2) ?_ (by kernel_rfl)
          exact ⟨by rw [hA, h1]; rfl, by rw [hB, h2]; rfl, ha _ (by decide), ha _ (by decide), hb _ (by decide), hb _ (by decide), hg _ (by decide), hg _ (by decide), lt_vF _, lt_vF _, rfl, ⟨(_, _), by simp only; omega, hg.up (lt_vF _) (lt_vF _), st_yes ht (by decide) ((G2_eq _).trans (by rw [G2_eq]))⟩, by simp only; omega, rfl, rfl⟩
        · refine roundF mixed tt_ok GDm_ok 200 [⟨8,4,.lit (.bo true)⟩,⟨8,10,.lit (.bo false)⟩] ?_
          refine same (p := (!qL [a 4, a 5] zL2) = true ∧ (!qL [b 4, b 5] zL2) = false ∧ true = true ∧ ∃ j : {x // InvDi (tv a) (tv b) 2 x}, 6 - j.1.1 < 6 - 2 ∧ VDi 2 (2 + 1) = VDi 2 j.1.1 ∧ HDo a b g = HDo a b j.1.2) ?_ (by kernel_rfl)
          exact ⟨by rw [hA, h1]; rfl, by rw [hB, h2]; rfl, rfl, ⟨(2 + 1, g), by simp only; omega, hg, st_no ht (by rw [show tv b 2 = 0 from z2_eq h2]; exact cr_z _)⟩, by simp only; omega, rfl, rfl⟩
      · refine roundF mixed tt_ok GDm_ok 200 [⟨8,4,.lit (.bo false)⟩] ?_
        refine same (p := (!qL [a 4, a 5] zL2) = false ∧ true = true ∧ ∃ j : {x // InvDi (tv a) (tv b) 2 x}, 6 - j.1.1 < 6 - 2 ∧ VDi 2 (2 + 1) = VDi 2 j.1.1 ∧ HDo a b g = HDo a b j.1.2) ?_ (by kernel_rfl)
        exact ⟨by rw [hA, h1]; rfl, rfl, ⟨(2 + 1, g), by simp only; omega, hg, st_no ht (by rw [show tv a 2 = 0 from z2_eq h1]; exact cr_zl _)⟩, by simp only; omega, rfl, rfl⟩
    · have hB := qz (hb 6 (by decide)) (hb 7 (by decide))
      cases h1 : z2 (gN (a 4)) (gN (a 5))
      · cases h2 : z2 (gN (b 6)) (gN (b 7))
        · refine roundF mixed tt_ok GDm_ok 200 [⟨8,4,.lit (.bo true)⟩,⟨8,10,.lit (.bo true)⟩] ?_
          refine same (p := (!qL [a 4, a 5] zL2) = true ∧ (!qL [b 6, b 7] zL2) = true ∧ nv (a 4) < pN ∧ nv (a 5) < pN ∧ nv (b 6) < pN ∧ nv (b 7) < pN ∧ nv (g 10) < pN ∧ nv (g 11) < pN ∧ nv (vF (tv a 2 * tv b 3).x) < pN ∧ nv (vF (tv a 2 * tv b 3).y) < pN ∧ true = true ∧
            ∃ j : {x // InvDi (tv a) (tv b) 2 x}, 6 - j.1.1 < 6 - 3 ∧ VDi 2 (3 + 1) = VDi 2 j.1.1 ∧ HDo a b (up2 g (2 + 3) (vF (tv g 5 + G2 (tv a 2 * tv b 3)).x) (vF (tv g 5 + G2 (tv a 2 * tv b 3)).y)) = HDo a b j.1.2) ?_ (by kernel_rfl)
          exact ⟨by rw [hA, h1]; rfl, by rw [hB, h2]; rfl, ha _ (by decide), ha _ (by decide), hb _ (by decide), hb _ (by decide), hg _ (by decide), hg _ (by decide), lt_vF _, lt_vF _, rfl, ⟨(_, _), by simp only; omega, hg.up (lt_vF _) (lt_vF _), st_yes ht (by decide) ((G2_eq _).trans (by rw [G2_eq]))⟩, by simp only; omega, rfl, rfl⟩
        · refine roundF mixed tt_ok GDm_ok 200 [⟨8,4,.lit (.bo true)⟩,⟨8,10,.lit (.bo false)⟩] ?_
          refine same (p := (!qL [a 4, a 5] zL2) = true ∧ (!qL [b 6, b 7] zL2) = false ∧ true = true ∧ ∃ j : {x // InvDi (tv a) (tv b) 2 x}, 6 - j.1.1 < 6 - 3 ∧ VDi 2 (3 + 1) = VDi 2 j.1.1 ∧ HDo a b g = HDo a b j.1.2) ?_ (by kernel_rfl)
          exact ⟨by rw [hA, h1]; rfl, by rw [hB, h2]; rfl, rfl, ⟨(3 + 1, g), by simp only; omega, hg, st_no ht (by rw [show tv b 3 = 0 from z2_eq h2]; exact cr_z _)⟩, by simp only; omega, rfl, rfl⟩
      · refine roundF mixed tt_ok GDm_ok 200 [⟨8,4,.lit (.bo false)⟩] ?_
        refine same (p := (!qL [a 4, a 5] zL2) = false ∧ true = true ∧ ∃ j : {x // InvDi (tv a) (tv b) 2 x}, 6 - j.1.1 < 6 - 3 ∧ VDi 2 (3 + 1) = VDi 2 j.1.1 ∧ HDo a b g = HDo a b j.1.2) ?_ (by kernel_rfl)
        exact ⟨by rw [hA, h1]; rfl, rfl, ⟨(3 + 1, g), by simp only; omega, hg, st_no ht (by rw [show tv a 2 = 0 from z2_eq h1]; exact cr_zl _)⟩, by simp only; omega, rfl, rfl⟩
    · have hB := qz (hb 8 (by decide)) (hb 9 (by decide))
      cases h1 : z2 (gN (a 4)) (gN (a 5))
      · cases h2 : z2 (gN (b 8)) (gN (b 9))
        · refine roundF mixed tt_ok GDm_ok 200 [⟨8,4,.lit (.bo true)⟩,⟨8,10,.lit (.bo true)⟩] ?_
          refine same (p := (!qL [a 4, a 5] zL2) = true ∧ (!qL [b 8, b 9] zL2) = true ∧ nv (a 4) < pN ∧ nv (a 5) < pN ∧ nv (b 8) < pN ∧ nv (b 9) < pN ∧ nv (g 12) < pN ∧ nv (g 13) < pN ∧ nv (vF (tv a 2 * tv b 4).x) < pN ∧ nv (vF (tv a 2 * tv b 4).y) < pN ∧ true = true ∧
            ∃ j : {x // InvDi (tv a) (tv b) 2 x}, 6 - j.1.1 < 6 - 4 ∧ VDi 2 (4 + 1) = VDi 2 j.1.1 ∧ HDo a b (up2 g (2 + 4) (vF (tv g 6 + G2 (tv a 2 * tv b 4)).x) (vF (tv g 6 + G2 (tv a 2 * tv b 4)).y)) = HDo a b j.1.2) ?_ (by kernel_rfl)
          exact ⟨by rw [hA, h1]; rfl, by rw [hB, h2]; rfl, ha _ (by decide), ha _ (by decide), hb _ (by decide), hb _ (by decide), hg _ (by decide), hg _ (by decide), lt_vF _, lt_vF _, rfl, ⟨(_, _), by simp only; omega, hg.up (lt_vF _) (lt_vF _), st_yes ht (by decide) ((G2_eq _).trans (by rw [G2_eq]))⟩, by simp only; omega, rfl, rfl⟩
        · refine roundF mixed tt_ok GDm_ok 200 [⟨8,4,.lit (.bo true)⟩,⟨8,10,.lit (.bo false)⟩] ?_
          refine same (p := (!qL [a 4, a 5] zL2) = true ∧ (!qL [b 8, b 9] zL2) = false ∧ true = true ∧ ∃ j : {x // InvDi (tv a) (tv b) 2 x}, 6 - j.1.1 < 6 - 4 ∧ VDi 2 (4 + 1) = VDi 2 j.1.1 ∧ HDo a b g = HDo a b j.1.2) ?_ (by kernel_rfl)
          exact ⟨by rw [hA, h1]; rfl, by rw [hB, h2]; rfl, rfl, ⟨(4 + 1, g), by simp only; omega, hg, st_no ht (by rw [show tv b 4 = 0 from z2_eq h2]; exact cr_z _)⟩, by simp only; omega, rfl, rfl⟩
      · refine roundF mixed tt_ok GDm_ok 200 [⟨8,4,.lit (.bo false)⟩] ?_
        refine same (p := (!qL [a 4, a 5] zL2) = false ∧ true = true ∧ ∃ j : {x // InvDi (tv a) (tv b) 2 x}, 6 - j.1.1 < 6 - 4 ∧ VDi 2 (4 + 1) = VDi 2 j.1.1 ∧ HDo a b g = HDo a b j.1.2) ?_ (by kernel_rfl)
        exact ⟨by rw [hA, h1]; rfl, rfl, ⟨(4 + 1, g), by simp only; omega, hg, st_no ht (by rw [show tv a 2 = 0 from z2_eq h1]; exact cr_zl _)⟩, by simp only; omega, rfl, rfl⟩
    · have hB := qz (hb 10 (by decide)) (hb 11 (by decide))
      cases h1 : z2 (gN (a 4)) (gN (a 5))
      · cases h2 : z2 (gN (b 10)) (gN (b 11))
        · refine roundF mixed tt_ok GDm_ok 200 [⟨8,4,.lit (.bo true)⟩,⟨8,10,.lit (.bo true)⟩] ?_
          refine same (p := (!qL [a 4, a 5] zL2) = true ∧ (!qL [b 10, b 11] zL2) = true ∧ nv (a 4) < pN ∧ nv (a 5) < pN ∧ nv (b 10) < pN ∧ nv (b 11) < pN ∧ nv (g 14) < pN ∧ nv (g 15) < pN ∧ nv (vF (tv a 2 * tv b 5).x) < pN ∧ nv (vF (tv a 2 * tv b 5).y) < pN ∧ true = true ∧
            ∃ j : {x // InvDi (tv a) (tv b) 2 x}, 6 - j.1.1 < 6 - 5 ∧ VDi 2 (5 + 1) = VDi 2 j.1.1 ∧ HDo a b (up2 g (2 + 5) (vF (tv g 7 + G2 (tv a 2 * tv b 5)).x) (vF (tv g 7 + G2 (tv a 2 * tv b 5)).y)) = HDo a b j.1.2) ?_ (by kernel_rfl)
          exact ⟨by rw [hA, h1]; rfl, by rw [hB, h2]; rfl, ha _ (by decide), ha _ (by decide), hb _ (by decide), hb _ (by decide), hg _ (by decide), hg _ (by decide), lt_vF _, lt_vF _, rfl, ⟨(_, _), by simp only; omega, hg.up (lt_vF _) (lt_vF _), st_yes ht (by decide) ((G2_eq _).trans (by rw [G2_eq]))⟩, by simp only; omega, rfl, rfl⟩
        · refine roundF mixed tt_ok GDm_ok 200 [⟨8,4,.lit (.bo true)⟩,⟨8,10,.lit (.bo false)⟩] ?_
          refine same (p := (!qL [a 4, a 5] zL2) = true ∧ (!qL [b 10, b 11] zL2) = false ∧ true = true ∧ ∃ j : {x // InvDi (tv a) (tv b) 2 x}, 6 - j.1.1 < 6 - 5 ∧ VDi 2 (5 + 1) = VDi 2 j.1.1 ∧ HDo a b g = HDo a b j.1.2) ?_ (by kernel_rfl)
          exact ⟨by rw [hA, h1]; rfl, by rw [hB, h2]; rfl, rfl, ⟨(5 + 1, g), by simp only; omega, hg, st_no ht (by rw [show tv b 5 = 0 from z2_eq h2]; exact cr_z _)⟩, by simp only; omega, rfl, rfl⟩
      · refine roundF mixed tt_ok GDm_ok 200 [⟨8,4,.lit (.bo false)⟩] ?_
        refine same (p := (!qL [a 4, a 5] zL2) = false ∧ true = true ∧ ∃ j : {x // InvDi (tv a) (tv b) 2 x}, 6 - j.1.1 < 6 - 5 ∧ VDi 2 (5 + 1) = VDi 2 j.1.1 ∧ HDo a b g = HDo a b j.1.2) ?_ (by kernel_rfl)
        exact ⟨by rw [hA, h1]; rfl, rfl, ⟨(5 + 1, g), by simp only; omega, hg, st_no ht (by rw [show tv a 2 = 0 from z2_eq h1]; exact cr_zl _)⟩, by simp only; omega, rfl, rfl⟩
    · refine roundF mixed tt_ok GDm_ok 100 [] ?_
      refine same (p := true = true ∧ ∃ j : {x // InvDi (tv a) (tv b) 2 x}, j.1.1 = 6 ∧ VDi 2 6 = VDi 2 j.1.1 ∧ HDo a b g = HDo a b j.1.2) ?_ (by kernel_rfl)
      exact ⟨rfl, ⟨(6, g), hk, hg, ht⟩, rfl, rfl, rfl⟩
  · intro ⟨⟨k, g⟩, hk, hg, ht⟩ junk h66
    simp only at hk hg ht h66
    subst h66
    refine same (p := true = true ∧ ∃ j : {x // InvDo (tv a) (tv b) x}, 6 - j.1.1 < 6 - 2 ∧ VDo (2 + 1) = VDo j.1.1 ∧ HDo a b g = HDo a b j.1.2) ?_ (by kernel_rfl)
    exact ⟨rfl, ⟨(2 + 1, g), by simp only; omega, hg, ht⟩, by simp only; omega, rfl, rfl⟩
theorem mulI3 {a b : Nat → Nat → Nat} (ha : LtN 12 a) (hb : LtN 12 b) {g : Nat → Nat → Nat} (hg : LtN 22 g) (ht : ∀ j, j < 11 → tv g j = cout (tv a) (tv b) 3 j) {Q : Exit → AS → Prop} (junk : Nat → Value) :
    AWq Try.prog (fun _ => False) (loopOf (atK 0 (flatC (bodyOf Try.f36)))) (RoundE (loopId (atK 0 (flatC (bodyOf Try.f36)))) [2,3,4,5,6] 79 4 (fun x : {x // InvDo (tv a) (tv b) x} => VDo x.1.1) (fun x => HDo a b x.1.2) (fun x => 6 - x.1.1) ⟨(3, g), by simp, hg, ht⟩ (fun x => x.1.1 = 6) Q) ⟨mkT [2,3,4,5,6] (VDo 3) 79 junk, HDo a b g⟩ := by
  refine nestF mixed tt_ok GDm_ok (l := flatC (loopOf (atL (flatC (bodyOf Try.f36))))) (lB := flatC (blkOf (atB (flatC (loopOf (atL (flatC (bodyOf Try.f36)))))))) (by kernel_rfl) rfl (by kernel_rfl) rfl
    (ι := {x // InvDi (tv a) (tv b) 3 x}) [2,3,4,5,6,7] 79 4 (fun x => VDi 3 x.1.1) (fun x => HDo a b x.1.2) (fun x => 6 - x.1.1) (fun x => x.1.1 = 6)
    (fun _ => rfl) (fun _ => by kernel_rfl) (fun _ _ h => h.elim) 200 [] [] [] ?_ ?_ ?_
  · refine same (p := true = true ∧ ∃ j : {x // InvDi (tv a) (tv b) 3 x}, VDi 3 0 = VDi 3 j.1.1 ∧ HDo a b g = HDo a b j.1.2) ?_ (by kernel_rfl)
    exact ⟨rfl, ⟨(0, g), by simp, hg, ht⟩, rfl, rfl⟩
  · intro ⟨⟨k, g⟩, hk, hg, ht⟩ junk
    simp only at hk hg ht
    have hA := qz (ha 6 (by decide)) (ha 7 (by decide))
    rcases (show k = 0 ∨ k = 1 ∨ k = 2 ∨ k = 3 ∨ k = 4 ∨ k = 5 ∨ k = 6 by omega) with rfl | rfl | rfl | rfl | rfl | rfl | rfl
    · have hB := qz (hb 0 (by decide)) (hb 1 (by decide))
      cases h1 : z2 (gN (a 6)) (gN (a 7))
      · cases h2 : z2 (gN (b 0)) (gN (b 1))
        · refine roundF mixed tt_ok GDm_ok 200 [⟨8,4,.lit (.bo true)⟩,⟨8,10,.lit (.bo true)⟩] ?_
          refine same (p := (!qL [a 6, a 7] zL2) = true ∧ (!qL [b 0, b 1] zL2) = true ∧ nv (a 6) < pN ∧ nv (a 7) < pN ∧ nv (b 0) < pN ∧ nv (b 1) < pN ∧ nv (g 6) < pN ∧ nv (g 7) < pN ∧ nv (vF (tv a 3 * tv b 0).x) < pN ∧ nv (vF (tv a 3 * tv b 0).y) < pN ∧ true = true ∧
            ∃ j : {x // InvDi (tv a) (tv b) 3 x}, 6 - j.1.1 < 6 - 0 ∧ VDi 3 (0 + 1) = VDi 3 j.1.1 ∧ HDo a b (up2 g (3 + 0) (vF (tv g 3 + G2 (tv a 3 * tv b 0)).x) (vF (tv g 3 + G2 (tv a 3 * tv b 0)).y)) = HDo a b j.1.2) ?_ (by kernel_rfl)
          exact ⟨by rw [hA, h1]; rfl, by rw [hB, h2]; rfl, ha _ (by decide), ha _ (by decide), hb _ (by decide), hb _ (by decide), hg _ (by decide), hg _ (by decide), lt_vF _, lt_vF _, rfl, ⟨(_, _), by simp only; omega, hg.up (lt_vF _) (lt_vF _), st_yes ht (by decide) ((G2_eq _).trans (by rw [G2_eq]))⟩, by simp only; omega, rfl, rfl⟩
        · refine roundF mixed tt_ok GDm_ok 200 [⟨8,4,.lit (.bo true)⟩,⟨8,10,.lit (.bo false)⟩] ?_
          refine same (p := (!qL [a 6, a 7] zL2) = true ∧ (!qL [b 0, b 1] zL2) = false ∧ true = true ∧ ∃ j : {x // InvDi (tv a) (tv b) 3 x}, 6 - j.1.1 < 6 - 0 ∧ VDi 3 (0 + 1) = VDi 3 j.1.1 ∧ HDo a b g = HDo a b j.1.2) ?_ (by kernel_rfl)
          exact ⟨by rw [hA, h1]; rfl, by rw [hB, h2]; rfl, rfl, ⟨(0 + 1, g), by simp only; omega, hg, st_no ht (by rw [show tv b 0 = 0 from z2_eq h2]; exact cr_z _)⟩, by simp only; omega, rfl, rfl⟩
      · refine roundF mixed tt_ok GDm_ok 200 [⟨8,4,.lit (.bo false)⟩] ?_
        refine same (p := (!qL [a 6, a 7] zL2) = false ∧ true = true ∧ ∃ j : {x // InvDi (tv a) (tv b) 3 x}, 6 - j.1.1 < 6 - 0 ∧ VDi 3 (0 + 1) = VDi 3 j.1.1 ∧ HDo a b g = HDo a b j.1.2) ?_ (by kernel_rfl)
        exact ⟨by rw [hA, h1]; rfl, rfl, ⟨(0 + 1, g), by simp only; omega, hg, st_no ht (by rw [show tv a 3 = 0 from z2_eq h1]; exact cr_zl _)⟩, by simp only; omega, rfl, rfl⟩
    · have hB := qz (hb 2 (by decide)) (hb 3 (by decide))
      cases h1 : z2 (gN (a 6)) (gN (a 7))
      · cases h2 : z2 (gN (b 2)) (gN (b 3))
        · refine roundF mixed tt_ok GDm_ok 200 [⟨8,4,.lit (.bo true)⟩,⟨8,10,.lit (.bo true)⟩] ?_
          refine same (p := (!qL [a 6, a 7] zL2) = true ∧ (!qL [b 2, b 3] zL2) = true ∧ nv (a 6) < pN ∧ nv (a 7) < pN ∧ nv (b 2) < pN ∧ nv (b 3) < pN ∧ nv (g 8) < pN ∧ nv (g 9) < pN ∧ nv (vF (tv a 3 * tv b 1).x) < pN ∧ nv (vF (tv a 3 * tv b 1).y) < pN ∧ true = true ∧
            ∃ j : {x // InvDi (tv a) (tv b) 3 x}, 6 - j.1.1 < 6 - 1 ∧ VDi 3 (1 + 1) = VDi 3 j.1.1 ∧ HDo a b (up2 g (3 + 1) (vF (tv g 4 + G2 (tv a 3 * tv b 1)).x) (vF (tv g 4 + G2 (tv a 3 * tv b 1)).y)) = HDo a b j.1.2) ?_ (by kernel_rfl)
          exact ⟨by rw [hA, h1]; rfl, by rw [hB, h2]; rfl, ha _ (by decide), ha _ (by decide), hb _ (by decide), hb _ (by decide), hg _ (by decide), hg _ (by decide), lt_vF _, lt_vF _, rfl, ⟨(_, _), by simp only; omega, hg.up (lt_vF _) (lt_vF _), st_yes ht (by decide) ((G2_eq _).trans (by rw [G2_eq]))⟩, by simp only; omega, rfl, rfl⟩
        · refine roundF mixed tt_ok GDm_ok 200 [⟨8,4,.lit (.bo true)⟩,⟨8,10,.lit (.bo false)⟩] ?_
          refine same (p := (!qL [a 6, a 7] zL2) = true ∧ (!qL [b 2, b 3] zL2) = false ∧ true = true ∧ ∃ j : {x // InvDi (tv a) (tv b) 3 x}, 6 - j.1.1 < 6 - 1 ∧ VDi 3 (1 + 1) = VDi 3 j.1.1 ∧ HDo a b g = HDo a b j.1.2) ?_ (by kernel_rfl)
          exact ⟨by rw [hA, h1]; rfl, by rw [hB, h2]; rfl, rfl, ⟨(1 + 1, g), by simp only; omega, hg, st_no ht (by rw [show tv b 1 = 0 from z2_eq h2]; exact cr_z _)⟩, by simp only; omega, rfl, rfl⟩
      · refine roundF mixed tt_ok GDm_ok 200 [⟨8,4,.lit (.bo false)⟩] ?_
        refine same (p := (!qL [a 6, a 7] zL2) = false ∧ true = true ∧ ∃ j : {x // InvDi (tv a) (tv b) 3 x}, 6 - j.1.1 < 6 - 1 ∧ VDi 3 (1 + 1) = VDi 3 j.1.1 ∧ HDo a b g = HDo a b j.1.2) ?_ (by kernel_rfl)
        exact ⟨by rw [hA, h1]; rfl, rfl, ⟨(1 + 1, g), by simp only; omega, hg, st_no ht (by rw [show tv a 3 = 0 from z2_eq h1]; exact cr_zl _)⟩, by simp only; omega, rfl, rfl⟩
    · have hB := qz (hb 4 (by decide)) (hb 5 (by decide))
      cases h1 : z2 (gN (a 6)) (gN (a 7))
      · cases h2 : z2 (gN (b 4)) (gN (b 5))
        · refine roundF mixed tt_ok GDm_ok 200 [⟨8,4,.lit (.bo true)⟩,⟨8,10,.lit (.bo true)⟩] ?_
          refine same (p := (!qL [a 6, a 7] zL2) = true ∧ (!qL [b 4, b 5] zL2) = true ∧ nv (a 6) < pN ∧ nv (a 7) < pN ∧ nv (b 4) < pN ∧ nv (b 5) < pN ∧ nv (g 10) < pN ∧ nv (g 11) < pN ∧ nv (vF (tv a 3 * tv b 2).x) < pN ∧ nv (vF (tv a 3 * tv b 2).y) < pN ∧ true = true ∧
            ∃ j : {x // InvDi (tv a) (tv b) 3 x}, 6 - j.1.1 < 6 - 2 ∧ VDi 3 (2 + 1) = VDi 3 j.1.1 ∧ HDo a b (up2 g (3 + 2) (vF (tv g 5 + G2 (tv a 3 * tv b 2)).x) (vF (tv g 5 + G2 (tv a 3 * tv b 2)).y)) = HDo a b j.1.2) ?_ (by kernel_rfl)
          exact ⟨by rw [hA, h1]; rfl, by rw [hB, h2]; rfl, ha _ (by decide), ha _ (by decide), hb _ (by decide), hb _ (by decide), hg _ (by decide), hg _ (by decide), lt_vF _, lt_vF _, rfl, ⟨(_, _), by simp only; omega, hg.up (lt_vF _) (lt_vF _), st_yes ht (by decide) ((G2_eq _).trans (by rw [G2_eq]))⟩, by simp only; omega, rfl, rfl⟩
        · refine roundF mixed tt_ok GDm_ok 200 [⟨8,4,.lit (.bo true)⟩,⟨8,10,.lit (.bo false)⟩] ?_
          refine same (p := (!qL [a 6, a 7] zL2) = true ∧ (!qL [b 4, b 5] zL2) = false ∧ true = true ∧ ∃ j : {x // InvDi (tv a) (tv b) 3 x}, 6 - j.1.1 < 6 - 2 ∧ VDi 3 (2 + 1) = VDi 3 j.1.1 ∧ HDo a b g = HDo a b j.1.2) ?_ (by kernel_rfl)
          exact ⟨by rw [hA, h1]; rfl, by rw [hB, h2]; rfl, rfl, ⟨(2 + 1, g), by simp only; omega, hg, st_no ht (by rw [show tv b 2 = 0 from z2_eq h2]; exact cr_z _)⟩, by simp only; omega, rfl, rfl⟩
      · refine roundF mixed tt_ok GDm_ok 200 [⟨8,4,.lit (.bo false)⟩] ?_
        refine same (p := (!qL [a 6, a 7] zL2) = false ∧ true = true ∧ ∃ j : {x // InvDi (tv a) (tv b) 3 x}, 6 - j.1.1 < 6 - 2 ∧ VDi 3 (2 + 1) = VDi 3 j.1.1 ∧ HDo a b g = HDo a b j.1.2) ?_ (by kernel_rfl)
        exact ⟨by rw [hA, h1]; rfl, rfl, ⟨(2 + 1, g), by simp only; omega, hg, st_no ht (by rw [show tv a 3 = 0 from z2_eq h1]; exact cr_zl _)⟩, by simp only; omega, rfl, rfl⟩
    · have hB := qz (hb 6 (by decide)) (hb 7 (by decide))
      cases h1 : z2 (gN (a 6)) (gN (a 7))
      · cases h2 : z2 (gN (b 6)) (gN (b 7))
        · refine roundF mixed tt_ok GDm_ok 200 [⟨8,4,.lit (.bo true)⟩,⟨8,10,.lit (.bo true)⟩] ?_
          refine same (p := (!qL [a 6, a 7] zL2) = true ∧ (!qL [b 6, b 7] zL2) = true ∧ nv (a 6) < pN ∧ nv (a 7) < pN ∧ nv (b 6) < pN ∧ nv (b 7) < pN ∧ nv (g 12) < pN ∧ nv (g 13) < pN ∧ nv (vF (tv a 3 * tv b 3).x) < pN ∧ nv (vF (tv a 3 * tv b 3).y) < pN ∧ true = true ∧
            ∃ j : {x // InvDi (tv a) (tv b) 3 x}, 6 - j.1.1 < 6 - 3 ∧ VDi 3 (3 + 1) = VDi 3 j.1.1 ∧ HDo a b (up2 g (3 + 3) (vF (tv g 6 + G2 (tv a 3 * tv b 3)).x) (vF (tv g 6 + G2 (tv a 3 * tv b 3)).y)) = HDo a b j.1.2) ?_ (by kernel_rfl)
          exact ⟨by rw [hA, h1]; rfl, by rw [hB, h2]; rfl, ha _ (by decide), ha _ (by decide), hb _ (by decide), hb _ (by decide), hg _ (by decide), hg _ (by decide), lt_vF _, lt_vF _, rfl, ⟨(_, _), by simp only; omega, hg.up (lt_vF _) (lt_vF _), st_yes ht (by decide) ((G2_eq _).trans (by rw [G2_eq]))⟩, by simp only; omega, rfl, rfl⟩
        · refine roundF mixed tt_ok GDm_ok 200 [⟨8,4,.lit (.bo true)⟩,⟨8,10,.lit (.bo false)⟩] ?_
          refine same (p := (!qL [a 6, a 7] zL2) = true ∧ (!qL [b 6, b 7] zL2) = false ∧ true = true ∧ ∃ j : {x // InvDi (tv a) (tv b) 3 x}, 6 - j.1.1 < 6 - 3 ∧ VDi 3 (3 + 1) = VDi 3 j.1.1 ∧ HDo a b g = HDo a b j.1.2) ?_ (by kernel_rfl)
          exact ⟨by rw [hA, h1]; rfl, by rw [hB, h2]; rfl, rfl, ⟨(3 + 1, g), by simp only; omega, hg, st_no ht (by rw [show tv b 3 = 0 from z2_eq h2]; exact cr_z _)⟩, by simp only; omega, rfl, rfl⟩
      · refine roundF mixed tt_ok GDm_ok 200 [⟨8,4,.lit (.bo false)⟩] ?_
        refine same (p := (!qL [a 6, a 7] zL2) = false ∧ true = true ∧ ∃ j : {x // InvDi (tv a) (tv b) 3 x}, 6 - j.1.1 < 6 - 3 ∧ VDi 3 (3 + 1) = VDi 3 j.1.1 ∧ HDo a b g = HDo a b j.1.2) ?_ (by kernel_rfl)
        exact ⟨by rw [hA, h1]; rfl, rfl, ⟨(3 + 1, g), by simp only; omega, hg, st_no ht (by rw [show tv a 3 = 0 from z2_eq h1]; exact cr_zl _)⟩, by simp only; omega, rfl, rfl⟩
    · have hB := qz (hb 8 (by decide)) (hb 9 (by decide))
      cases h1 : z2 (gN (a 6)) (gN (a 7))
      · cases h2 : z2 (gN (b 8)) (gN (b 9))
        · refine roundF mixed tt_ok GDm_ok 200 [⟨8,4,.lit (.bo true)⟩,⟨8,10,.lit (.bo true)⟩] ?_
          refine same (p := (!qL [a 6, a 7] zL2) = true ∧ (!qL [b 8, b 9] zL2) = true ∧ nv (a 6) < pN ∧ nv (a 7) < pN ∧ nv (b 8) < pN ∧ nv (b 9) < pN ∧ nv (g 14) < pN ∧ nv (g 15) < pN ∧ nv (vF (tv a 3 * tv b 4).x) < pN ∧ nv (vF (tv a 3 * tv b 4).y) < pN ∧ true = true ∧
            ∃ j : {x // InvDi (tv a) (tv b) 3 x}, 6 - j.1.1 < 6 - 4 ∧ VDi 3 (4 + 1) = VDi 3 j.1.1 ∧ HDo a b (up2 g (3 + 4) (vF (tv g 7 + G2 (tv a 3 * tv b 4)).x) (vF (tv g 7 + G2 (tv a 3 * tv b 4)).y)) = HDo a b j.1.2) ?_ (by kernel_rfl)
          exact ⟨by rw [hA, h1]; rfl, by rw [hB, h2]; rfl, ha _ (by decide), ha _ (by decide), hb _ (by decide), hb _ (by decide), hg _ (by decide), hg _ (by decide), lt_vF _, lt_vF _, rfl, ⟨(_, _), by simp only; omega, hg.up (lt_vF _) (lt_vF _), st_yes ht (by decide) ((G2_eq _).trans (by rw [G2_eq]))⟩, by simp only; omega, rfl, rfl⟩
        · refine roundF mixed tt_ok GDm_ok 200 [⟨8,4,.lit (.bo true)⟩,⟨8,10,.lit (.bo false)⟩] ?_
          refine same (p := (!qL [a 6, a 7] zL2) = true ∧ (!qL [b 8, b 9] zL2) = false ∧ true = true ∧ ∃ j : {x // InvDi (tv a) (tv b) 3 x}, 6 - j.1.1 < 6 - 4 ∧ VDi 3 (4 + 1) = VDi 3 j.1.1 ∧ HDo a b g = HDo a b j.1.2) ?_ (by kernel_rfl)
          exact ⟨by rw [hA, h1]; rfl, by rw [hB, h2]; rfl, rfl, ⟨(4 + 1, g), by simp only; omega, hg, st_no ht (by rw [show tv b 4 = 0 from z2_eq h2]; exact cr_z _)⟩, by simp only; omega, rfl, rfl⟩
      · refine roundF mixed tt_ok GDm_ok 200 [⟨8,4,.lit (.bo false)⟩] ?_
        refine same (p := (!qL [a 6, a 7] zL2) = false ∧ true = true ∧ ∃ j : {x // InvDi (tv a) (tv b) 3 x}, 6 - j.1.1 < 6 - 4 ∧ VDi 3 (4 + 1) = VDi 3 j.1.1 ∧ HDo a b g = HDo a b j.1.2) ?_ (by kernel_rfl)
        exact ⟨by rw [hA, h1]; rfl, rfl, ⟨(4 + 1, g), by simp only; omega, hg, st_no ht (by rw [show tv a 3 = 0 from z2_eq h1]; exact cr_zl _)⟩, by simp only; omega, rfl, rfl⟩
    · have hB := qz (hb 10 (by decide)) (hb 11 (by decide))
      cases h1 : z2 (gN (a 6)) (gN (a 7))
      · cases h2 : z2 (gN (b 10)) (gN (b 11))
        · refine roundF mixed tt_ok GDm_ok 200 [⟨8,4,.lit (.bo true)⟩,⟨8,10,.lit (.bo true)⟩] ?_
          refine same (p := (!qL [a 6, a 7] zL2) = true ∧ (!qL [b 10, b 11] zL2) = true ∧ nv (a 6) < pN ∧ nv (a 7) < pN ∧ nv (b 10) < pN ∧ nv (b 11) < pN ∧ nv (g 16) < pN ∧ nv (g 17) < pN ∧ nv (vF (tv a 3 * tv b 5).x) < pN ∧ nv (vF (tv a 3 * tv b 5).y) < pN ∧ true = true ∧
            ∃ j : {x // InvDi (tv a) (tv b) 3 x}, 6 - j.1.1 < 6 - 5 ∧ VDi 3 (5 + 1) = VDi 3 j.1.1 ∧ HDo a b (up2 g (3 + 5) (vF (tv g 8 + G2 (tv a 3 * tv b 5)).x) (vF (tv g 8 + G2 (tv a 3 * tv b 5)).y)) = HDo a b j.1.2) ?_ (by kernel_rfl)
          exact ⟨by rw [hA, h1]; rfl, by rw [hB, h2]; rfl, ha _ (by decide), ha _ (by decide), hb _ (by decide), hb _ (by decide), hg _ (by decide), hg _ (by decide), lt_vF _, lt_vF _, rfl, ⟨(_, _), by simp only; omega, hg.up (lt_vF _) (lt_vF _), st_yes ht (by decide) ((G2_eq _).trans (by rw [G2_eq]))⟩, by simp only; omega, rfl, rfl⟩
        · refine roundF mixed tt_ok GDm_ok 200 [⟨8,4,.lit (.bo true)⟩,⟨8,10,.lit (.bo false)⟩] ?_
          refine same (p := (!qL [a 6, a 7] zL2) = true ∧ (!qL [b 10, b 11] zL2) = false ∧ true = true ∧ ∃ j : {x // InvDi (tv a) (tv b) 3 x}, 6 - j.1.1 < 6 - 5 ∧ VDi 3 (5 + 1) = VDi 3 j.1.1 ∧ HDo a b g = HDo a b j.1.2) ?_ (by kernel_rfl)
          exact ⟨by rw [hA, h1]; rfl, by rw [hB, h2]; rfl, rfl, ⟨(5 + 1, g), by simp only; omega, hg, st_no ht (by rw [show tv b 5 = 0 from z2_eq h2]; exact cr_z _)⟩, by simp only; omega, rfl, rfl⟩
      · refine roundF mixed tt_ok GDm_ok 200 [⟨8,4,.lit (.bo false)⟩] ?_
        refine same (p := (!qL [a 6, a 7] zL2) = false ∧ true = true ∧ ∃ j : {x // InvDi (tv a) (tv b) 3 x}, 6 - j.1.1 < 6 - 5 ∧ VDi 3 (5 + 1) = VDi 3 j.1.1 ∧ HDo a b g = HDo a b j.1.2) ?_ (by kernel_rfl)
        exact ⟨by rw [hA, h1]; rfl, rfl, ⟨(5 + 1, g), by simp only; omega, hg, st_no ht (by rw [show tv a 3 = 0 from z2_eq h1]; exact cr_zl _)⟩, by simp only; omega, rfl, rfl⟩
    · refine roundF mixed tt_ok GDm_ok 100 [] ?_
      refine same (p := true = true ∧ ∃ j : {x // InvDi (tv a) (tv b) 3 x}, j.1.1 = 6 ∧ VDi 3 6 = VDi 3 j.1.1 ∧ HDo a b g = HDo a b j.1.2) ?_ (by kernel_rfl)
      exact ⟨rfl, ⟨(6, g), hk, hg, ht⟩, rfl, rfl, rfl⟩
  · intro ⟨⟨k, g⟩, hk, hg, ht⟩ junk h66
    simp only at hk hg ht h66
    subst h66
    refine same (p := true = true ∧ ∃ j : {x // InvDo (tv a) (tv b) x}, 6 - j.1.1 < 6 - 3 ∧ VDo (3 + 1) = VDo j.1.1 ∧ HDo a b g = HDo a b j.1.2) ?_ (by kernel_rfl)
    exact ⟨rfl, ⟨(3 + 1, g), by simp only; omega, hg, ht⟩, by simp only; omega, rfl, rfl⟩
theorem mulI4 {a b : Nat → Nat → Nat} (ha : LtN 12 a) (hb : LtN 12 b) {g : Nat → Nat → Nat} (hg : LtN 22 g) (ht : ∀ j, j < 11 → tv g j = cout (tv a) (tv b) 4 j) {Q : Exit → AS → Prop} (junk : Nat → Value) :
    AWq Try.prog (fun _ => False) (loopOf (atK 0 (flatC (bodyOf Try.f36)))) (RoundE (loopId (atK 0 (flatC (bodyOf Try.f36)))) [2,3,4,5,6] 79 4 (fun x : {x // InvDo (tv a) (tv b) x} => VDo x.1.1) (fun x => HDo a b x.1.2) (fun x => 6 - x.1.1) ⟨(4, g), by simp, hg, ht⟩ (fun x => x.1.1 = 6) Q) ⟨mkT [2,3,4,5,6] (VDo 4) 79 junk, HDo a b g⟩ := by
  refine nestF mixed tt_ok GDm_ok (l := flatC (loopOf (atL (flatC (bodyOf Try.f36))))) (lB := flatC (blkOf (atB (flatC (loopOf (atL (flatC (bodyOf Try.f36)))))))) (by kernel_rfl) rfl (by kernel_rfl) rfl
    (ι := {x // InvDi (tv a) (tv b) 4 x}) [2,3,4,5,6,7] 79 4 (fun x => VDi 4 x.1.1) (fun x => HDo a b x.1.2) (fun x => 6 - x.1.1) (fun x => x.1.1 = 6)
    (fun _ => rfl) (fun _ => by kernel_rfl) (fun _ _ h => h.elim) 200 [] [] [] ?_ ?_ ?_
  · refine same (p := true = true ∧ ∃ j : {x // InvDi (tv a) (tv b) 4 x}, VDi 4 0 = VDi 4 j.1.1 ∧ HDo a b g = HDo a b j.1.2) ?_ (by kernel_rfl)
    exact ⟨rfl, ⟨(0, g), by simp, hg, ht⟩, rfl, rfl⟩
  · intro ⟨⟨k, g⟩, hk, hg, ht⟩ junk
    simp only at hk hg ht
    have hA := qz (ha 8 (by decide)) (ha 9 (by decide))
    rcases (show k = 0 ∨ k = 1 ∨ k = 2 ∨ k = 3 ∨ k = 4 ∨ k = 5 ∨ k = 6 by omega) with rfl | rfl | rfl | rfl | rfl | rfl | rfl
    · have hB := qz (hb 0 (by decide)) (hb 1 (by decide))
      cases h1 : z2 (gN (a 8)) (gN (a 9))
      · cases h2 : z2 (gN (b 0)) (gN (b 1))
        · refine roundF mixed tt_ok GDm_ok 200 [⟨8,4,.lit (.bo true)⟩,⟨8,10,.lit (.bo true)⟩] ?_
          refine same (p := (!qL [a 8, a 9] zL2) = true ∧ (!qL [b 0, b 1] zL2) = true ∧ nv (a 8) < pN ∧ nv (a 9) < pN ∧ nv (b 0) < pN ∧ nv (b 1) < pN ∧ nv (g 8) < pN ∧ nv (g 9) < pN ∧ nv (vF (tv a 4 * tv b 0).x) < pN ∧ nv (vF (tv a 4 * tv b 0).y) < pN ∧ true = true ∧
            ∃ j : {x // InvDi (tv a) (tv b) 4 x}, 6 - j.1.1 < 6 - 0 ∧ VDi 4 (0 + 1) = VDi 4 j.1.1 ∧ HDo a b (up2 g (4 + 0) (vF (tv g 4 + G2 (tv a 4 * tv b 0)).x) (vF (tv g 4 + G2 (tv a 4 * tv b 0)).y)) = HDo a b j.1.2) ?_ (by kernel_rfl)
          exact ⟨by rw [hA, h1]; rfl, by rw [hB, h2]; rfl, ha _ (by decide), ha _ (by decide), hb _ (by decide), hb _ (by decide), hg _ (by decide), hg _ (by decide), lt_vF _, lt_vF _, rfl, ⟨(_, _), by simp only; omega, hg.up (lt_vF _) (lt_vF _), st_yes ht (by decide) ((G2_eq _).trans (by rw [G2_eq]))⟩, by simp only; omega, rfl, rfl⟩
        · refine roundF mixed tt_ok GDm_ok 200 [⟨8,4,.lit (.bo true)⟩,⟨8,10,.lit (.bo false)⟩] ?_
          refine same (p := (!qL [a 8, a 9] zL2) = true ∧ (!qL [b 0, b 1] zL2) = false ∧ true = true ∧ ∃ j : {x // InvDi (tv a) (tv b) 4 x}, 6 - j.1.1 < 6 - 0 ∧ VDi 4 (0 + 1) = VDi 4 j.1.1 ∧ HDo a b g = HDo a b j.1.2) ?_ (by kernel_rfl)
          exact ⟨by rw [hA, h1]; rfl, by rw [hB, h2]; rfl, rfl, ⟨(0 + 1, g), by simp only; omega, hg, st_no ht (by rw [show tv b 0 = 0 from z2_eq h2]; exact cr_z _)⟩, by simp only; omega, rfl, rfl⟩
      · refine roundF mixed tt_ok GDm_ok 200 [⟨8,4,.lit (.bo false)⟩] ?_
        refine same (p := (!qL [a 8, a 9] zL2) = false ∧ true = true ∧ ∃ j : {x // InvDi (tv a) (tv b) 4 x}, 6 - j.1.1 < 6 - 0 ∧ VDi 4 (0 + 1) = VDi 4 j.1.1 ∧ HDo a b g = HDo a b j.1.2) ?_ (by kernel_rfl)
        exact ⟨by rw [hA, h1]; rfl, rfl, ⟨(0 + 1, g), by simp only; omega, hg, st_no ht (by rw [show tv a 4 = 0 from z2_eq h1]; exact cr_zl _)⟩, by simp only; omega, rfl, rfl⟩
    · have hB := qz (hb 2 (by decide)) (hb 3 (by decide))
      cases h1 : z2 (gN (a 8)) (gN (a 9))
      · cases h2 : z2 (gN (b 2)) (gN (b 3))
        · refine roundF mixed tt_ok GDm_ok 200 [⟨8,4,.lit (.bo true)⟩,⟨8,10,.lit (.bo true)⟩] ?_
          refine same (p := (!qL [a 8, a 9] zL2) = true ∧ (!qL [b 2, b 3] zL2) = true ∧ nv (a 8) < pN ∧ nv (a 9) < pN ∧ nv (b 2) < pN ∧ nv (b 3) < pN ∧ nv (g 10) < pN ∧ nv (g 11) < pN ∧ nv (vF (tv a 4 * tv b 1).x) < pN ∧ nv (vF (tv a 4 * tv b 1).y) < pN ∧ true = true ∧
            ∃ j : {x // InvDi (tv a) (tv b) 4 x}, 6 - j.1.1 < 6 - 1 ∧ VDi 4 (1 + 1) = VDi 4 j.1.1 ∧ HDo a b (up2 g (4 + 1) (vF (tv g 5 + G2 (tv a 4 * tv b 1)).x) (vF (tv g 5 + G2 (tv a 4 * tv b 1)).y)) = HDo a b j.1.2) ?_ (by kernel_rfl)
          exact ⟨by rw [hA, h1]; rfl, by rw [hB, h2]; rfl, ha _ (by decide), ha _ (by decide), hb _ (by decide), hb _ (by decide), hg _ (by decide), hg _ (by decide), lt_vF _, lt_vF _, rfl, ⟨(_, _), by simp only; omega, hg.up (lt_vF _) (lt_vF _), st_yes ht (by decide) ((G2_eq _).trans (by rw [G2_eq]))⟩, by simp only; omega, rfl, rfl⟩
        · refine roundF mixed tt_ok GDm_ok 200 [⟨8,4,.lit (.bo true)⟩,⟨8,10,.lit (.bo false)⟩] ?_
          refine same (p := (!qL [a 8, a 9] zL2) = true ∧ (!qL [b 2, b 3] zL2) = false ∧ true = true ∧ ∃ j : {x // InvDi (tv a) (tv b) 4 x}, 6 - j.1.1 < 6 - 1 ∧ VDi 4 (1 + 1) = VDi 4 j.1.1 ∧ HDo a b g = HDo a b j.1.2) ?_ (by kernel_rfl)
          exact ⟨by rw [hA, h1]; rfl, by rw [hB, h2]; rfl, rfl, ⟨(1 + 1, g), by simp only; omega, hg, st_no ht (by rw [show tv b 1 = 0 from z2_eq h2]; exact cr_z _)⟩, by simp only; omega, rfl, rfl⟩
      · refine roundF mixed tt_ok GDm_ok 200 [⟨8,4,.lit (.bo false)⟩] ?_
        refine same (p := (!qL [a 8, a 9] zL2) = false ∧ true = true ∧ ∃ j : {x // InvDi (tv a) (tv b) 4 x}, 6 - j.1.1 < 6 - 1 ∧ VDi 4 (1 + 1) = VDi 4 j.1.1 ∧ HDo a b g = HDo a b j.1.2) ?_ (by kernel_rfl)
        exact ⟨by rw [hA, h1]; rfl, rfl, ⟨(1 + 1, g), by simp only; omega, hg, st_no ht (by rw [show tv a 4 = 0 from z2_eq h1]; exact cr_zl _)⟩, by simp only; omega, rfl, rfl⟩
    · have hB := qz (hb 4 (by decide)) (hb 5 (by decide))
      cases h1 : z2 (gN (a 8)) (gN (a 9))
      · cases h2 : z2 (gN (b 4)) (gN (b 5))
        · refine roundF mixed tt_ok GDm_ok 200 [⟨8,4,.lit (.bo true)⟩,⟨8,10,.lit (.bo true)⟩] ?_
          refine same (p := (!qL [a 8, a 9] zL2) = true ∧ (!qL [b 4, b 5] zL2) = true ∧ nv (a 8) < pN ∧ nv (a 9) < pN ∧ nv (b 4) < pN ∧ nv (b 5) < pN ∧ nv (g 12) < pN ∧ nv (g 13) < pN ∧ nv (vF (tv a 4 * tv b 2).x) < pN ∧ nv (vF (tv a 4 * tv b 2).y) < pN ∧ true = true ∧
            ∃ j : {x // InvDi (tv a) (tv b) 4 x}, 6 - j.1.1 < 6 - 2 ∧ VDi 4 (2 + 1) = VDi 4 j.1.1 ∧ HDo a b (up2 g (4 + 2) (vF (tv g 6 + G2 (tv a 4 * tv b 2)).x) (vF (tv g 6 + G2 (tv a 4 * tv b 2)).y)) = HDo a b j.1.2) ?_ (by kernel_rfl)
          exact ⟨by rw [hA, h1]; rfl, by rw [hB, h2]; rfl, ha _ (by decide), ha _ (by decide), hb _ (by decide), hb _ (by decide), hg _ (by decide), hg _ (by decide), lt_vF _, lt_vF _, rfl, ⟨(_, _), by simp only; omega, hg.up (lt_vF _) (lt_vF _), st_yes ht (by decide) ((G2_eq _).trans (by rw [G2_eq]))⟩, by simp only; omega, rfl, rfl⟩
        · refine roundF mixed tt_ok GDm_ok 200 [⟨8,4,.lit (.bo true)⟩,⟨8,10,.lit (.bo false)⟩] ?_
          refine same (p := (!qL [a 8, a 9] zL2) = true ∧ (!qL [b 4, b 5] zL2) = false ∧ true = true ∧ ∃ j : {x // InvDi (tv a) (tv b) 4 x}, 6 - j.1.1 < 6 - 2 ∧ VDi 4 (2 + 1) = VDi 4 j.1.1 ∧ HDo a b g = HDo a b j.1.2) ?_ (by kernel_rfl)
          exact ⟨by rw [hA, h1]; rfl, by rw [hB, h2]; rfl, rfl, ⟨(2 + 1, g), by simp only; omega, hg, st_no ht (by rw [show tv b 2 = 0 from z2_eq h2]; exact cr_z _)⟩, by simp only; omega, rfl, rfl⟩
      · refine roundF mixed tt_ok GDm_ok 200 [⟨8,4,.lit (.bo false)⟩] ?_
        refine same (p := (!qL [a 8, a 9] zL2) = false ∧ true = true ∧ ∃ j : {x // InvDi (tv a) (tv b) 4 x}, 6 - j.1.1 < 6 - 2 ∧ VDi 4 (2 + 1) = VDi 4 j.1.1 ∧ HDo a b g = HDo a b j.1.2) ?_ (by kernel_rfl)
        exact ⟨by rw [hA, h1]; rfl, rfl, ⟨(2 + 1, g), by simp only; omega, hg, st_no ht (by rw [show tv a 4 = 0 from z2_eq h1]; exact cr_zl _)⟩, by simp only; omega, rfl, rfl⟩
    · have hB := qz (hb 6 (by decide)) (hb 7 (by decide))
      cases h1 : z2 (gN (a 8)) (gN (a 9))
      · cases h2 : z2 (gN (b 6)) (gN (b 7))
        · refine roundF mixed tt_ok GDm_ok 200 [⟨8,4,.lit (.bo true)⟩,⟨8,10,.lit (.bo true)⟩] ?_
          refine same (p := (!qL [a 8, a 9] zL2) = true ∧ (!qL [b 6, b 7] zL2) = true ∧ nv (a 8) < pN ∧ nv (a 9) < pN ∧ nv (b 6) < pN ∧ nv (b 7) < pN ∧ nv (g 14) < pN ∧ nv (g 15) < pN ∧ nv (vF (tv a 4 * tv b 3).x) < pN ∧ nv (vF (tv a 4 * tv b 3).y) < pN ∧ true = true ∧
            ∃ j : {x // InvDi (tv a) (tv b) 4 x}, 6 - j.1.1 < 6 - 3 ∧ VDi 4 (3 + 1) = VDi 4 j.1.1 ∧ HDo a b (up2 g (4 + 3) (vF (tv g 7 + G2 (tv a 4 * tv b 3)).x) (vF (tv g 7 + G2 (tv a 4 * tv b 3)).y)) = HDo a b j.1.2) ?_ (by kernel_rfl)
          exact ⟨by rw [hA, h1]; rfl, by rw [hB, h2]; rfl, ha _ (by decide), ha _ (by decide), hb _ (by decide), hb _ (by decide), hg _ (by decide), hg _ (by decide), lt_vF _, lt_vF _, rfl, ⟨(_, _), by simp only; omega, hg.up (lt_vF _) (lt_vF _), st_yes ht (by decide) ((G2_eq _).trans (by rw [G2_eq]))⟩, by simp only; omega, rfl, rfl⟩
        · refine roundF mixed tt_ok GDm_ok 200 [⟨8,4,.lit (.bo true)⟩,⟨8,10,.lit (.bo false)⟩] ?_
          refine same (p := (!qL [a 8, a 9] zL2) = true ∧ (!qL [b 6, b 7] zL2) = false ∧ true = true ∧ ∃ j : {x // InvDi (tv a) (tv b) 4 x}, 6 - j.1.1 < 6 - 3 ∧ VDi 4 (3 + 1) = VDi 4 j.1.1 ∧ HDo a b g = HDo a b j.1.2) ?_ (by kernel_rfl)
          exact ⟨by rw [hA, h1]; rfl, by rw [hB, h2]; rfl, rfl, ⟨(3 + 1, g), by simp only; omega, hg, st_no ht (by rw [show tv b 3 = 0 from z2_eq h2]; exact cr_z _)⟩, by simp only; omega, rfl, rfl⟩
      · refine roundF mixed tt_ok GDm_ok 200 [⟨8,4,.lit (.bo false)⟩] ?_
        refine same (p := (!qL [a 8, a 9] zL2) = false ∧ true = true ∧ ∃ j : {x // InvDi (tv a) (tv b) 4 x}, 6 - j.1.1 < 6 - 3 ∧ VDi 4 (3 + 1) = VDi 4 j.1.1 ∧ HDo a b g = HDo a b j.1.2) ?_ (by kernel_rfl)
        exact ⟨by rw [hA, h1]; rfl, rfl, ⟨(3 + 1, g), by simp only; omega, hg, st_no ht (by rw [show tv a 4 = 0 from z2_eq h1]; exact cr_zl _)⟩, by simp only; omega, rfl, rfl⟩
    · have hB := qz (hb 8 (by decide)) (hb 9 (by decide))
      cases h1 : z2 (gN (a 8)) (gN (a 9))
      · cases h2 : z2 (gN (b 8)) (gN (b 9))
        · refine roundF mixed tt_ok GDm_ok 200 [⟨8,4,.lit (.bo true)⟩,⟨8,10,.lit (.bo true)⟩] ?_
          refine same (p := (!qL [a 8, a 9] zL2) = true ∧ (!qL [b 8, b 9] zL2) = true ∧ nv (a 8) < pN ∧ nv (a 9) < pN ∧ nv (b 8) < pN ∧ nv (b 9) < pN ∧ nv (g 16) < pN ∧ nv (g 17) < pN ∧ nv (vF (tv a 4 * tv b 4).x) < pN ∧ nv (vF (tv a 4 * tv b 4).y) < pN ∧ true = true ∧
            ∃ j : {x // InvDi (tv a) (tv b) 4 x}, 6 - j.1.1 < 6 - 4 ∧ VDi 4 (4 + 1) = VDi 4 j.1.1 ∧ HDo a b (up2 g (4 + 4) (vF (tv g 8 + G2 (tv a 4 * tv b 4)).x) (vF (tv g 8 + G2 (tv a 4 * tv b 4)).y)) = HDo a b j.1.2) ?_ (by kernel_rfl)
          exact ⟨by rw [hA, h1]; rfl, by rw [hB, h2]; rfl, ha _ (by decide), ha _ (by decide), hb _ (by decide), hb _ (by decide), hg _ (by decide), hg _ (by decide), lt_vF _, lt_vF _, rfl, ⟨(_, _), by simp only; omega, hg.up (lt_vF _) (lt_vF _), st_yes ht (by decide) ((G2_eq _).trans (by rw [G2_eq]))⟩, by simp only; omega, rfl, rfl⟩
        · refine roundF mixed tt_ok GDm_ok 200 [⟨8,4,.lit (.bo true)⟩,⟨8,10,.lit (.bo false)⟩] ?_
          refine same (p := (!qL [a 8, a 9] zL2) = true ∧ (!qL [b 8, b 9] zL2) = false ∧ true = true ∧ ∃ j : {x // InvDi (tv a) (tv b) 4 x}, 6 - j.1.1 < 6 - 4 ∧ VDi 4 (4 + 1) = VDi 4 j.1.1 ∧ HDo a b g = HDo a b j.1.2) ?_ (by kernel_rfl)
          exact ⟨by rw [hA, h1]; rfl, by rw [hB, h2]; rfl, rfl, ⟨(4 + 1, g), by simp only; omega, hg, st_no ht (by rw [show tv b 4 = 0 from z2_eq h2]; exact cr_z _)⟩, by simp only; omega, rfl, rfl⟩
      · refine roundF mixed tt_ok GDm_ok 200 [⟨8,4,.lit (.bo false)⟩] ?_
        refine same (p := (!qL [a 8, a 9] zL2) = false ∧ true = true ∧ ∃ j : {x // InvDi (tv a) (tv b) 4 x}, 6 - j.1.1 < 6 - 4 ∧ VDi 4 (4 + 1) = VDi 4 j.1.1 ∧ HDo a b g = HDo a b j.1.2) ?_ (by kernel_rfl)
        exact ⟨by rw [hA, h1]; rfl, rfl, ⟨(4 + 1, g), by simp only; omega, hg, st_no ht (by rw [show tv a 4 = 0 from z2_eq h1]; exact cr_zl _)⟩, by simp only; omega, rfl, rfl⟩
    · have hB := qz (hb 10 (by decide)) (hb 11 (by decide))
      cases h1 : z2 (gN (a 8)) (gN (a 9))
      · cases h2 : z2 (gN (b 10)) (gN (b 11))
        · refine roundF mixed tt_ok GDm_ok 200 [⟨8,4,.lit (.bo true)⟩,⟨8,10,.lit (.bo true)⟩] ?_
          refine same (p := (!qL [a 8, a 9] zL2) = true ∧ (!qL [b 10, b 11] zL2) = true ∧ nv (a 8) < pN ∧ nv (a 9) < pN ∧ nv (b 10) < pN ∧ nv (b 11) < pN ∧ nv (g 18) < pN ∧ nv (g 19) < pN ∧ nv (vF (tv a 4 * tv b 5).x) < pN ∧ nv (vF (tv a 4 * tv b 5).y) < pN ∧ true = true ∧
            ∃ j : {x // InvDi (tv a) (tv b) 4 x}, 6 - j.1.1 < 6 - 5 ∧ VDi 4 (5 + 1) = VDi 4 j.1.1 ∧ HDo a b (up2 g (4 + 5) (vF (tv g 9 + G2 (tv a 4 * tv b 5)).x) (vF (tv g 9 + G2 (tv a 4 * tv b 5)).y)) = HDo a b j.1.2) ?_ (by kernel_rfl)
          exact ⟨by rw [hA, h1]; rfl, by rw [hB, h2]; rfl, ha _ (by decide), ha _ (by decide), hb _ (by decide), hb _ (by decide), hg _ (by decide), hg _ (by decide), lt_vF _, lt_vF _, rfl, ⟨(_, _), by simp only; omega, hg.up (lt_vF _) (lt_vF _), st_yes ht (by decide) ((G2_eq _).trans (by rw [G2_eq]))⟩, by simp only; omega, rfl, rfl⟩
        · refine roundF mixed tt_ok GDm_ok 200 [⟨8,4,.lit (.bo true)⟩,⟨8,10,.lit (.bo false)⟩] ?_
          refine same (p := (!qL [a 8, a 9] zL2) = true ∧ (!qL [b 10, b 11] zL2) = false ∧ true = true ∧ ∃ j : {x // InvDi (tv a) (tv b) 4 x}, 6 - j.1.1 < 6 - 5 ∧ VDi 4 (5 + 1) = VDi 4 j.1.1 ∧ HDo a b g = HDo a b j.1.2) ?_ (by kernel_rfl)
          exact ⟨by rw [hA, h1]; rfl, by rw [hB, h2]; rfl, rfl, ⟨(5 + 1, g), by simp only; omega, hg, st_no ht (by rw [show tv b 5 = 0 from z2_eq h2]; exact cr_z _)⟩, by simp only; omega, rfl, rfl⟩
      · refine roundF mixed tt_ok GDm_ok 200 [⟨8,4,.lit (.bo false)⟩] ?_
        refine same (p := (!qL [a 8, a 9] zL2) = false ∧ true = true ∧ ∃ j : {x // InvDi (tv a) (tv b) 4 x}, 6 - j.1.1 < 6 - 5 ∧ VDi 4 (5 + 1) = VDi 4 j.1.1 ∧ HDo a b g = HDo a b j.1.2) ?_ (by kernel_rfl)
        exact ⟨by rw [hA, h1]; rfl, rfl, ⟨(5 + 1, g), by simp only; omega, hg, st_no ht (by rw [show tv a 4 = 0 from z2_eq h1]; exact cr_zl _)⟩, by simp only; omega, rfl, rfl⟩
    · refine roundF mixed tt_ok GDm_ok 100 [] ?_
      refine same (p := true = true ∧ ∃ j : {x // InvDi (tv a) (tv b) 4 x}, j.1.1 = 6 ∧ VDi 4 6 = VDi 4 j.1.1 ∧ HDo a b g = HDo a b j.1.2) ?_ (by kernel_rfl)
      exact ⟨rfl, ⟨(6, g), hk, hg, ht⟩, rfl, rfl, rfl⟩
  · intro ⟨⟨k, g⟩, hk, hg, ht⟩ junk h66
    simp only at hk hg ht h66
    subst h66
    refine same (p := true = true ∧ ∃ j : {x // InvDo (tv a) (tv b) x}, 6 - j.1.1 < 6 - 4 ∧ VDo (4 + 1) = VDo j.1.1 ∧ HDo a b g = HDo a b j.1.2) ?_ (by kernel_rfl)
    exact ⟨rfl, ⟨(4 + 1, g), by simp only; omega, hg, ht⟩, by simp only; omega, rfl, rfl⟩
theorem mulI5 {a b : Nat → Nat → Nat} (ha : LtN 12 a) (hb : LtN 12 b) {g : Nat → Nat → Nat} (hg : LtN 22 g) (ht : ∀ j, j < 11 → tv g j = cout (tv a) (tv b) 5 j) {Q : Exit → AS → Prop} (junk : Nat → Value) :
    AWq Try.prog (fun _ => False) (loopOf (atK 0 (flatC (bodyOf Try.f36)))) (RoundE (loopId (atK 0 (flatC (bodyOf Try.f36)))) [2,3,4,5,6] 79 4 (fun x : {x // InvDo (tv a) (tv b) x} => VDo x.1.1) (fun x => HDo a b x.1.2) (fun x => 6 - x.1.1) ⟨(5, g), by simp, hg, ht⟩ (fun x => x.1.1 = 6) Q) ⟨mkT [2,3,4,5,6] (VDo 5) 79 junk, HDo a b g⟩ := by
  refine nestF mixed tt_ok GDm_ok (l := flatC (loopOf (atL (flatC (bodyOf Try.f36))))) (lB := flatC (blkOf (atB (flatC (loopOf (atL (flatC (bodyOf Try.f36)))))))) (by kernel_rfl) rfl (by kernel_rfl) rfl
    (ι := {x // InvDi (tv a) (tv b) 5 x}) [2,3,4,5,6,7] 79 4 (fun x => VDi 5 x.1.1) (fun x => HDo a b x.1.2) (fun x => 6 - x.1.1) (fun x => x.1.1 = 6)
    (fun _ => rfl) (fun _ => by kernel_rfl) (fun _ _ h => h.elim) 200 [] [] [] ?_ ?_ ?_
  · refine same (p := true = true ∧ ∃ j : {x // InvDi (tv a) (tv b) 5 x}, VDi 5 0 = VDi 5 j.1.1 ∧ HDo a b g = HDo a b j.1.2) ?_ (by kernel_rfl)
    exact ⟨rfl, ⟨(0, g), by simp, hg, ht⟩, rfl, rfl⟩
  · intro ⟨⟨k, g⟩, hk, hg, ht⟩ junk
    simp only at hk hg ht
    have hA := qz (ha 10 (by decide)) (ha 11 (by decide))
    rcases (show k = 0 ∨ k = 1 ∨ k = 2 ∨ k = 3 ∨ k = 4 ∨ k = 5 ∨ k = 6 by omega) with rfl | rfl | rfl | rfl | rfl | rfl | rfl
    · have hB := qz (hb 0 (by decide)) (hb 1 (by decide))
      cases h1 : z2 (gN (a 10)) (gN (a 11))
      · cases h2 : z2 (gN (b 0)) (gN (b 1))
        · refine roundF mixed tt_ok GDm_ok 200 [⟨8,4,.lit (.bo true)⟩,⟨8,10,.lit (.bo true)⟩] ?_
          refine same (p := (!qL [a 10, a 11] zL2) = true ∧ (!qL [b 0, b 1] zL2) = true ∧ nv (a 10) < pN ∧ nv (a 11) < pN ∧ nv (b 0) < pN ∧ nv (b 1) < pN ∧ nv (g 10) < pN ∧ nv (g 11) < pN ∧ nv (vF (tv a 5 * tv b 0).x) < pN ∧ nv (vF (tv a 5 * tv b 0).y) < pN ∧ true = true ∧
            ∃ j : {x // InvDi (tv a) (tv b) 5 x}, 6 - j.1.1 < 6 - 0 ∧ VDi 5 (0 + 1) = VDi 5 j.1.1 ∧ HDo a b (up2 g (5 + 0) (vF (tv g 5 + G2 (tv a 5 * tv b 0)).x) (vF (tv g 5 + G2 (tv a 5 * tv b 0)).y)) = HDo a b j.1.2) ?_ (by kernel_rfl)
          exact ⟨by rw [hA, h1]; rfl, by rw [hB, h2]; rfl, ha _ (by decide), ha _ (by decide), hb _ (by decide), hb _ (by decide), hg _ (by decide), hg _ (by decide), lt_vF _, lt_vF _, rfl, ⟨(_, _), by simp only; omega, hg.up (lt_vF _) (lt_vF _), st_yes ht (by decide) ((G2_eq _).trans (by rw [G2_eq]))⟩, by simp only; omega, rfl, rfl⟩
        · refine roundF mixed tt_ok GDm_ok 200 [⟨8,4,.lit (.bo true)⟩,⟨8,10,.lit (.bo false)⟩] ?_
          refine same (p := (!qL [a 10, a 11] zL2) = true ∧ (!qL [b 0, b 1] zL2) = false ∧ true = true ∧ ∃ j : {x // InvDi (tv a) (tv b) 5 x}, 6 - j.1.1 < 6 - 0 ∧ VDi 5 (0 + 1) = VDi 5 j.1.1 ∧ HDo a b g = HDo a b j.1.2) ?_ (by kernel_rfl)
          exact ⟨by rw [hA, h1]; rfl, by rw [hB, h2]; rfl, rfl, ⟨(0 + 1, g), by simp only; omega, hg, st_no ht (by rw [show tv b 0 = 0 from z2_eq h2]; exact cr_z _)⟩, by simp only; omega, rfl, rfl⟩
      · refine roundF mixed tt_ok GDm_ok 200 [⟨8,4,.lit (.bo false)⟩] ?_
        refine same (p := (!qL [a 10, a 11] zL2) = false ∧ true = true ∧ ∃ j : {x // InvDi (tv a) (tv b) 5 x}, 6 - j.1.1 < 6 - 0 ∧ VDi 5 (0 + 1) = VDi 5 j.1.1 ∧ HDo a b g = HDo a b j.1.2) ?_ (by kernel_rfl)
        exact ⟨by rw [hA, h1]; rfl, rfl, ⟨(0 + 1, g), by simp only; omega, hg, st_no ht (by rw [show tv a 5 = 0 from z2_eq h1]; exact cr_zl _)⟩, by simp only; omega, rfl, rfl⟩
    · have hB := qz (hb 2 (by decide)) (hb 3 (by decide))
      cases h1 : z2 (gN (a 10)) (gN (a 11))
      · cases h2 : z2 (gN (b 2)) (gN (b 3))
        · refine roundF mixed tt_ok GDm_ok 200 [⟨8,4,.lit (.bo true)⟩,⟨8,10,.lit (.bo true)⟩] ?_
          refine same (p := (!qL [a 10, a 11] zL2) = true ∧ (!qL [b 2, b 3] zL2) = true ∧ nv (a 10) < pN ∧ nv (a 11) < pN ∧ nv (b 2) < pN ∧ nv (b 3) < pN ∧ nv (g 12) < pN ∧ nv (g 13) < pN ∧ nv (vF (tv a 5 * tv b 1).x) < pN ∧ nv (vF (tv a 5 * tv b 1).y) < pN ∧ true = true ∧
            ∃ j : {x // InvDi (tv a) (tv b) 5 x}, 6 - j.1.1 < 6 - 1 ∧ VDi 5 (1 + 1) = VDi 5 j.1.1 ∧ HDo a b (up2 g (5 + 1) (vF (tv g 6 + G2 (tv a 5 * tv b 1)).x) (vF (tv g 6 + G2 (tv a 5 * tv b 1)).y)) = HDo a b j.1.2) ?_ (by kernel_rfl)
          exact ⟨by rw [hA, h1]; rfl, by rw [hB, h2]; rfl, ha _ (by decide), ha _ (by decide), hb _ (by decide), hb _ (by decide), hg _ (by decide), hg _ (by decide), lt_vF _, lt_vF _, rfl, ⟨(_, _), by simp only; omega, hg.up (lt_vF _) (lt_vF _), st_yes ht (by decide) ((G2_eq _).trans (by rw [G2_eq]))⟩, by simp only; omega, rfl, rfl⟩
        · refine roundF mixed tt_ok GDm_ok 200 [⟨8,4,.lit (.bo true)⟩,⟨8,10,.lit (.bo false)⟩] ?_
          refine same (p := (!qL [a 10, a 11] zL2) = true ∧ (!qL [b 2, b 3] zL2) = false ∧ true = true ∧ ∃ j : {x // InvDi (tv a) (tv b) 5 x}, 6 - j.1.1 < 6 - 1 ∧ VDi 5 (1 + 1) = VDi 5 j.1.1 ∧ HDo a b g = HDo a b j.1.2) ?_ (by kernel_rfl)
          exact ⟨by rw [hA, h1]; rfl, by rw [hB, h2]; rfl, rfl, ⟨(1 + 1, g), by simp only; omega, hg, st_no ht (by rw [show tv b 1 = 0 from z2_eq h2]; exact cr_z _)⟩, by simp only; omega, rfl, rfl⟩
      · refine roundF mixed tt_ok GDm_ok 200 [⟨8,4,.lit (.bo false)⟩] ?_
        refine same (p := (!qL [a 10, a 11] zL2) = false ∧ true = true ∧ ∃ j : {x // InvDi (tv a) (tv b) 5 x}, 6 - j.1.1 < 6 - 1 ∧ VDi 5 (1 + 1) = VDi 5 j.1.1 ∧ HDo a b g = HDo a b j.1.2) ?_ (by kernel_rfl)
        exact ⟨by rw [hA, h1]; rfl, rfl, ⟨(1 + 1, g), by simp only; omega, hg, st_no ht (by rw [show tv a 5 = 0 from z2_eq h1]; exact cr_zl _)⟩, by simp only; omega, rfl, rfl⟩
    · have hB := qz (hb 4 (by decide)) (hb 5 (by decide))
      cases h1 : z2 (gN (a 10)) (gN (a 11))
      · cases h2 : z2 (gN (b 4)) (gN (b 5))
        · refine roundF mixed tt_ok GDm_ok 200 [⟨8,4,.lit (.bo true)⟩,⟨8,10,.lit (.bo true)⟩] ?_
          refine same (p := (!qL [a 10, a 11] zL2) = true ∧ (!qL [b 4, b 5] zL2) = true ∧ nv (a 10) < pN ∧ nv (a 11) < pN ∧ nv (b 4) < pN ∧ nv (b 5) < pN ∧ nv (g 14) < pN ∧ nv (g 15) < pN ∧ nv (vF (tv a 5 * tv b 2).x) < pN ∧ nv (vF (tv a 5 * tv b 2).y) < pN ∧ true = true ∧
            ∃ j : {x // InvDi (tv a) (tv b) 5 x}, 6 - j.1.1 < 6 - 2 ∧ VDi 5 (2 + 1) = VDi 5 j.1.1 ∧ HDo a b (up2 g (5 + 2) (vF (tv g 7 + G2 (tv a 5 * tv b 2)).x) (vF (tv g 7 + G2 (tv a 5 * tv b 2)).y)) = HDo a b j.1.2) ?_ (by kernel_rfl)
          exact ⟨by rw [hA, h1]; rfl, by rw [hB, h2]; rfl, ha _ (by decide), ha _ (by decide), hb _ (by decide), hb _ (by decide), hg _ (by decide), hg _ (by decide), lt_vF _, lt_vF _, rfl, ⟨(_, _), by simp only; omega, hg.up (lt_vF _) (lt_vF _), st_yes ht (by decide) ((G2_eq _).trans (by rw [G2_eq]))⟩, by simp only; omega, rfl, rfl⟩
        · refine roundF mixed tt_ok GDm_ok 200 [⟨8,4,.lit (.bo true)⟩,⟨8,10,.lit (.bo false)⟩] ?_
          refine same (p := (!qL [a 10, a 11] zL2) = true ∧ (!qL [b 4, b 5] zL2) = false ∧ true = true ∧ ∃ j : {x // InvDi (tv a) (tv b) 5 x}, 6 - j.1.1 < 6 - 2 ∧ VDi 5 (2 + 1) = VDi 5 j.1.1 ∧ HDo a b g = HDo a b j.1.2) ?_ (by kernel_rfl)
          exact ⟨by rw [hA, h1]; rfl, by rw [hB, h2]; rfl, rfl, ⟨(2 + 1, g), by simp only; omega, hg, st_no ht (by rw [show tv b 2 = 0 from z2_eq h2]; exact cr_z _)⟩, by simp only; omega, rfl, rfl⟩
      · refine roundF mixed tt_ok GDm_ok 200 [⟨8,4,.lit (.bo false)⟩] ?_
        refine same (p := (!qL [a 10, a 11] zL2) = false ∧ true = true ∧ ∃ j : {x // InvDi (tv a) (tv b) 5 x}, 6 - j.1.1 < 6 - 2 ∧ VDi 5 (2 + 1) = VDi 5 j.1.1 ∧ HDo a b g = HDo a b j.1.2) ?_ (by kernel_rfl)
        exact ⟨by rw [hA, h1]; rfl, rfl, ⟨(2 + 1, g), by simp only; omega, hg, st_no ht (by rw [show tv a 5 = 0 from z2_eq h1]; exact cr_zl _)⟩, by simp only; omega, rfl, rfl⟩
    · have hB := qz (hb 6 (by decide)) (hb 7 (by decide))
      cases h1 : z2 (gN (a 10)) (gN (a 11))
      · cases h2 : z2 (gN (b 6)) (gN (b 7))
        · refine roundF mixed tt_ok GDm_ok 200 [⟨8,4,.lit (.bo true)⟩,⟨8,10,.lit (.bo true)⟩] ?_
          refine same (p := (!qL [a 10, a 11] zL2) = true ∧ (!qL [b 6, b 7] zL2) = true ∧ nv (a 10) < pN ∧ nv (a 11) < pN ∧ nv (b 6) < pN ∧ nv (b 7) < pN ∧ nv (g 16) < pN ∧ nv (g 17) < pN ∧ nv (vF (tv a 5 * tv b 3).x) < pN ∧ nv (vF (tv a 5 * tv b 3).y) < pN ∧ true = true ∧
            ∃ j : {x // InvDi (tv a) (tv b) 5 x}, 6 - j.1.1 < 6 - 3 ∧ VDi 5 (3 + 1) = VDi 5 j.1.1 ∧ HDo a b (up2 g (5 + 3) (vF (tv g 8 + G2 (tv a 5 * tv b 3)).x) (vF (tv g 8 + G2 (tv a 5 * tv b 3)).y)) = HDo a b j.1.2) ?_ (by kernel_rfl)
          exact ⟨by rw [hA, h1]; rfl, by rw [hB, h2]; rfl, ha _ (by decide), ha _ (by decide), hb _ (by decide), hb _ (by decide), hg _ (by decide), hg _ (by decide), lt_vF _, lt_vF _, rfl, ⟨(_, _), by simp only; omega, hg.up (lt_vF _) (lt_vF _), st_yes ht (by decide) ((G2_eq _).trans (by rw [G2_eq]))⟩, by simp only; omega, rfl, rfl⟩
        · refine roundF mixed tt_ok GDm_ok 200 [⟨8,4,.lit (.bo true)⟩,⟨8,10,.lit (.bo false)⟩] ?_
          refine same (p := (!qL [a 10, a 11] zL2) = true ∧ (!qL [b 6, b 7] zL2) = false ∧ true = true ∧ ∃ j : {x // InvDi (tv a) (tv b) 5 x}, 6 - j.1.1 < 6 - 3 ∧ VDi 5 (3 + 1) = VDi 5 j.1.1 ∧ HDo a b g = HDo a b j.1.2) ?_ (by kernel_rfl)
          exact ⟨by rw [hA, h1]; rfl, by rw [hB, h2]; rfl, rfl, ⟨(3 + 1, g), by simp only; omega, hg, st_no ht (by rw [show tv b 3 = 0 from z2_eq h2]; exact cr_z _)⟩, by simp only; omega, rfl, rfl⟩
      · refine roundF mixed tt_ok GDm_ok 200 [⟨8,4,.lit (.bo false)⟩] ?_
        refine same (p := (!qL [a 10, a 11] zL2) = false ∧ true = true ∧ ∃ j : {x // InvDi (tv a) (tv b) 5 x}, 6 - j.1.1 < 6 - 3 ∧ VDi 5 (3 + 1) = VDi 5 j.1.1 ∧ HDo a b g = HDo a b j.1.2) ?_ (by kernel_rfl)
        exact ⟨by rw [hA, h1]; rfl, rfl, ⟨(3 + 1, g), by simp only; omega, hg, st_no ht (by rw [show tv a 5 = 0 from z2_eq h1]; exact cr_zl _)⟩, by simp only; omega, rfl, rfl⟩
    · have hB := qz (hb 8 (by decide)) (hb 9 (by decide))
      cases h1 : z2 (gN (a 10)) (gN (a 11))
      · cases h2 : z2 (gN (b 8)) (gN (b 9))
        · refine roundF mixed tt_ok GDm_ok 200 [⟨8,4,.lit (.bo true)⟩,⟨8,10,.lit (.bo true)⟩] ?_
          refine same (p := (!qL [a 10, a 11] zL2) = true ∧ (!qL [b 8, b 9] zL2) = true ∧ nv (a 10) < pN ∧ nv (a 11) < pN ∧ nv (b 8) < pN ∧ nv (b 9) < pN ∧ nv (g 18) < pN ∧ nv (g 19) < pN ∧ nv (vF (tv a 5 * tv b 4).x) < pN ∧ nv (vF (tv a 5 * tv b 4).y) < pN ∧ true = true ∧
            ∃ j : {x // InvDi (tv a) (tv b) 5 x}, 6 - j.1.1 < 6 - 4 ∧ VDi 5 (4 + 1) = VDi 5 j.1.1 ∧ HDo a b (up2 g (5 + 4) (vF (tv g 9 + G2 (tv a 5 * tv b 4)).x) (vF (tv g 9 + G2 (tv a 5 * tv b 4)).y)) = HDo a b j.1.2) ?_ (by kernel_rfl)
          exact ⟨by rw [hA, h1]; rfl, by rw [hB, h2]; rfl, ha _ (by decide), ha _ (by decide), hb _ (by decide), hb _ (by decide), hg _ (by decide), hg _ (by decide), lt_vF _, lt_vF _, rfl, ⟨(_, _), by simp only; omega, hg.up (lt_vF _) (lt_vF _), st_yes ht (by decide) ((G2_eq _).trans (by rw [G2_eq]))⟩, by simp only; omega, rfl, rfl⟩
        · refine roundF mixed tt_ok GDm_ok 200 [⟨8,4,.lit (.bo true)⟩,⟨8,10,.lit (.bo false)⟩] ?_
          refine same (p := (!qL [a 10, a 11] zL2) = true ∧ (!qL [b 8, b 9] zL2) = false ∧ true = true ∧ ∃ j : {x // InvDi (tv a) (tv b) 5 x}, 6 - j.1.1 < 6 - 4 ∧ VDi 5 (4 + 1) = VDi 5 j.1.1 ∧ HDo a b g = HDo a b j.1.2) ?_ (by kernel_rfl)
          exact ⟨by rw [hA, h1]; rfl, by rw [hB, h2]; rfl, rfl, ⟨(4 + 1, g), by simp only; omega, hg, st_no ht (by rw [show tv b 4 = 0 from z2_eq h2]; exact cr_z _)⟩, by simp only; omega, rfl, rfl⟩
      · refine roundF mixed tt_ok GDm_ok 200 [⟨8,4,.lit (.bo false)⟩] ?_
        refine same (p := (!qL [a 10, a 11] zL2) = false ∧ true = true ∧ ∃ j : {x // InvDi (tv a) (tv b) 5 x}, 6 - j.1.1 < 6 - 4 ∧ VDi 5 (4 + 1) = VDi 5 j.1.1 ∧ HDo a b g = HDo a b j.1.2) ?_ (by kernel_rfl)
        exact ⟨by rw [hA, h1]; rfl, rfl, ⟨(4 + 1, g), by simp only; omega, hg, st_no ht (by rw [show tv a 5 = 0 from z2_eq h1]; exact cr_zl _)⟩, by simp only; omega, rfl, rfl⟩
    · have hB := qz (hb 10 (by decide)) (hb 11 (by decide))
      cases h1 : z2 (gN (a 10)) (gN (a 11))
      · cases h2 : z2 (gN (b 10)) (gN (b 11))
        · refine roundF mixed tt_ok GDm_ok 200 [⟨8,4,.lit (.bo true)⟩,⟨8,10,.lit (.bo true)⟩] ?_
          refine same (p := (!qL [a 10, a 11] zL2) = true ∧ (!qL [b 10, b 11] zL2) = true ∧ nv (a 10) < pN ∧ nv (a 11) < pN ∧ nv (b 10) < pN ∧ nv (b 11) < pN ∧ nv (g 20) < pN ∧ nv (g 21) < pN ∧ nv (vF (tv a 5 * tv b 5).x) < pN ∧ nv (vF (tv a 5 * tv b 5).y) < pN ∧ true = true ∧
            ∃ j : {x // InvDi (tv a) (tv b) 5 x}, 6 - j.1.1 < 6 - 5 ∧ VDi 5 (5 + 1) = VDi 5 j.1.1 ∧ HDo a b (up2 g (5 + 5) (vF (tv g 10 + G2 (tv a 5 * tv b 5)).x) (vF (tv g 10 + G2 (tv a 5 * tv b 5)).y)) = HDo a b j.1.2) ?_ (by kernel_rfl)
          exact ⟨by rw [hA, h1]; rfl, by rw [hB, h2]; rfl, ha _ (by decide), ha _ (by decide), hb _ (by decide), hb _ (by decide), hg _ (by decide), hg _ (by decide), lt_vF _, lt_vF _, rfl, ⟨(_, _), by simp only; omega, hg.up (lt_vF _) (lt_vF _), st_yes ht (by decide) ((G2_eq _).trans (by rw [G2_eq]))⟩, by simp only; omega, rfl, rfl⟩
        · refine roundF mixed tt_ok GDm_ok 200 [⟨8,4,.lit (.bo true)⟩,⟨8,10,.lit (.bo false)⟩] ?_
          refine same (p := (!qL [a 10, a 11] zL2) = true ∧ (!qL [b 10, b 11] zL2) = false ∧ true = true ∧ ∃ j : {x // InvDi (tv a) (tv b) 5 x}, 6 - j.1.1 < 6 - 5 ∧ VDi 5 (5 + 1) = VDi 5 j.1.1 ∧ HDo a b g = HDo a b j.1.2) ?_ (by kernel_rfl)
          exact ⟨by rw [hA, h1]; rfl, by rw [hB, h2]; rfl, rfl, ⟨(5 + 1, g), by simp only; omega, hg, st_no ht (by rw [show tv b 5 = 0 from z2_eq h2]; exact cr_z _)⟩, by simp only; omega, rfl, rfl⟩
      · refine roundF mixed tt_ok GDm_ok 200 [⟨8,4,.lit (.bo false)⟩] ?_
        refine same (p := (!qL [a 10, a 11] zL2) = false ∧ true = true ∧ ∃ j : {x // InvDi (tv a) (tv b) 5 x}, 6 - j.1.1 < 6 - 5 ∧ VDi 5 (5 + 1) = VDi 5 j.1.1 ∧ HDo a b g = HDo a b j.1.2) ?_ (by kernel_rfl)
        exact ⟨by rw [hA, h1]; rfl, rfl, ⟨(5 + 1, g), by simp only; omega, hg, st_no ht (by rw [show tv a 5 = 0 from z2_eq h1]; exact cr_zl _)⟩, by simp only; omega, rfl, rfl⟩
    · refine roundF mixed tt_ok GDm_ok 100 [] ?_
      refine same (p := true = true ∧ ∃ j : {x // InvDi (tv a) (tv b) 5 x}, j.1.1 = 6 ∧ VDi 5 6 = VDi 5 j.1.1 ∧ HDo a b g = HDo a b j.1.2) ?_ (by kernel_rfl)
      exact ⟨rfl, ⟨(6, g), hk, hg, ht⟩, rfl, rfl, rfl⟩
  · intro ⟨⟨k, g⟩, hk, hg, ht⟩ junk h66
    simp only at hk hg ht h66
    subst h66
    refine same (p := true = true ∧ ∃ j : {x // InvDo (tv a) (tv b) x}, 6 - j.1.1 < 6 - 5 ∧ VDo (5 + 1) = VDo j.1.1 ∧ HDo a b g = HDo a b j.1.2) ?_ (by kernel_rfl)
    exact ⟨rfl, ⟨(5 + 1, g), by simp only; omega, hg, ht⟩, by simp only; omega, rfl, rfl⟩
theorem mulR {a b g : Nat → Nat → Nat} (hg : LtN 22 g) (c : Nat → F2p) (hc : ∀ j, j < 11 → tv g j = c j) {Q : Exit → AS → Prop} (junk : Nat → Value) {i : Nat} {o : Nat → Nat → Nat} (hi : InvDr c (i, o)) :
    AWq Try.prog (fun _ => False) (loopOf (atK 0 (postK 0 (flatC (bodyOf Try.f36))))) (RoundE (loopId (atK 0 (postK 0 (flatC (bodyOf Try.f36))))) [4,5,8,9] 79 5 (fun x : {x // InvDr c x} => VDr x.1.1) (fun x => HDr a b g x.1.2) (fun x => 6 - x.1.1) ⟨(i, o), hi⟩ (fun x => x.1.1 = 6) Q) ⟨mkT [4,5,8,9] (VDr i) 79 junk, HDr a b g o⟩ := by
  obtain ⟨h6, ho, ht⟩ := hi
  simp only at h6 ho ht
  have lk : nv (vF kx.x) < pN ∧ nv (vF kx.y) < pN := ⟨lt_vF _, lt_vF _⟩
  have nxt : ∀ {i : Nat} {o' : Nat → Nat → Nat}, i < 6 → (∀ j, j < i → tv o j = res c j) → (∀ j, j ≠ i → tv o' j = tv o j) → tv o' i = res c i → ∀ j, j < i + 1 → tv o' j = res c j := by
    intro i o' _ h1 h2 h3 j hj
    by_cases e : j = i
    · subst e; exact h3
    · rw [h2 j e]; exact h1 j (by omega)
  rcases (show i = 0 ∨ i = 1 ∨ i = 2 ∨ i = 3 ∨ i = 4 ∨ i = 5 ∨ i = 6 by omega) with rfl | rfl | rfl | rfl | rfl | rfl | rfl
  · have hB := qz (hg 12 (by decide)) (hg 13 (by decide))
    cases h2 : z2 (gN (g 12)) (gN (g 13))
    · refine roundF mixed tt_ok GDm_ok 200 [⟨15,8,.lit (.bo true)⟩] ?_
      refine same (p := (!qL [g 12, g 13] zL2) = true ∧ nv (g 12) < pN ∧ nv (g 13) < pN ∧ nv (vF kx.x) < pN ∧ nv (vF kx.y) < pN ∧ nv (g 0) < pN ∧ nv (g 1) < pN ∧ nv (vF (tv g 6 * G2 kx).x) < pN ∧ nv (vF (tv g 6 * G2 kx).y) < pN ∧ true = true ∧
        ∃ j : {x // InvDr c x}, 6 - j.1.1 < 6 - 0 ∧ VDr (0 + 1) = VDr j.1.1 ∧ HDr a b g (up2 (up2 o 0 (g 0) (g 1)) 0 (vF (tv g 0 + G2 (tv g 6 * G2 kx)).x) (vF (tv g 0 + G2 (tv g 6 * G2 kx)).y)) = HDr a b g j.1.2) ?_ (by kernel_rfl)
      refine ⟨by rw [hB, h2]; rfl, hg _ (by decide), hg _ (by decide), lk.1, lk.2, hg _ (by decide), hg _ (by decide), lt_vF _, lt_vF _, rfl, ⟨(0 + 1, (up2 (up2 o 0 (g 0) (g 1)) 0 (vF (tv g 0 + G2 (tv g 6 * G2 kx)).x) (vF (tv g 0 + G2 (tv g 6 * G2 kx)).y))), by simp only; omega, (ho.up (hg _ (by decide)) (hg _ (by decide))).up (lt_vF _) (lt_vF _), nxt (by decide) ht (fun j e => by rw [tv_ne _ e, tv_ne _ e]) ?_⟩, by simp only; omega, rfl, rfl⟩
      rw [tv_same]
      refine (G2_eq _).trans ?_
      rw [G2_eq, G2_eq, hc 0 (by decide), hc 6 (by decide)]
      rfl
    · refine roundF mixed tt_ok GDm_ok 200 [⟨15,8,.lit (.bo false)⟩] ?_
      refine same (p := (!qL [g 12, g 13] zL2) = false ∧ true = true ∧ ∃ j : {x // InvDr c x}, 6 - j.1.1 < 6 - 0 ∧ VDr (0 + 1) = VDr j.1.1 ∧ HDr a b g (up2 o 0 (g 0) (g 1)) = HDr a b g j.1.2) ?_ (by kernel_rfl)
      refine ⟨by rw [hB, h2]; rfl, rfl, ⟨(0 + 1, (up2 o 0 (g 0) (g 1))), by simp only; omega, ho.up (hg _ (by decide)) (hg _ (by decide)), nxt (by decide) ht (fun j e => by rw [tv_ne _ e]) ?_⟩, by simp only; omega, rfl, rfl⟩
      rw [tv_same]
      show tv g 0 = c 0 + c 6 * kx
      rw [← hc 6 (by decide), show tv g 6 = 0 from z2_eq h2, cr_zl, Rg.add_zero, hc 0 (by decide)]
  · have hB := qz (hg 14 (by decide)) (hg 15 (by decide))
    cases h2 : z2 (gN (g 14)) (gN (g 15))
    · refine roundF mixed tt_ok GDm_ok 200 [⟨15,8,.lit (.bo true)⟩] ?_
      refine same (p := (!qL [g 14, g 15] zL2) = true ∧ nv (g 14) < pN ∧ nv (g 15) < pN ∧ nv (vF kx.x) < pN ∧ nv (vF kx.y) < pN ∧ nv (g 2) < pN ∧ nv (g 3) < pN ∧ nv (vF (tv g 7 * G2 kx).x) < pN ∧ nv (vF (tv g 7 * G2 kx).y) < pN ∧ true = true ∧
        ∃ j : {x // InvDr c x}, 6 - j.1.1 < 6 - 1 ∧ VDr (1 + 1) = VDr j.1.1 ∧ HDr a b g (up2 (up2 o 1 (g 2) (g 3)) 1 (vF (tv g 1 + G2 (tv g 7 * G2 kx)).x) (vF (tv g 1 + G2 (tv g 7 * G2 kx)).y)) = HDr a b g j.1.2) ?_ (by kernel_rfl)
      refine ⟨by rw [hB, h2]; rfl, hg _ (by decide), hg _ (by decide), lk.1, lk.2, hg _ (by decide), hg _ (by decide), lt_vF _, lt_vF _, rfl, ⟨(1 + 1, (up2 (up2 o 1 (g 2) (g 3)) 1 (vF (tv g 1 + G2 (tv g 7 * G2 kx)).x) (vF (tv g 1 + G2 (tv g 7 * G2 kx)).y))), by simp only; omega, (ho.up (hg _ (by decide)) (hg _ (by decide))).up (lt_vF _) (lt_vF _), nxt (by decide) ht (fun j e => by rw [tv_ne _ e, tv_ne _ e]) ?_⟩, by simp only; omega, rfl, rfl⟩
      rw [tv_same]
      refine (G2_eq _).trans ?_
      rw [G2_eq, G2_eq, hc 1 (by decide), hc 7 (by decide)]
      rfl
    · refine roundF mixed tt_ok GDm_ok 200 [⟨15,8,.lit (.bo false)⟩] ?_
      refine same (p := (!qL [g 14, g 15] zL2) = false ∧ true = true ∧ ∃ j : {x // InvDr c x}, 6 - j.1.1 < 6 - 1 ∧ VDr (1 + 1) = VDr j.1.1 ∧ HDr a b g (up2 o 1 (g 2) (g 3)) = HDr a b g j.1.2) ?_ (by kernel_rfl)
      refine ⟨by rw [hB, h2]; rfl, rfl, ⟨(1 + 1, (up2 o 1 (g 2) (g 3))), by simp only; omega, ho.up (hg _ (by decide)) (hg _ (by decide)), nxt (by decide) ht (fun j e => by rw [tv_ne _ e]) ?_⟩, by simp only; omega, rfl, rfl⟩
      rw [tv_same]
      show tv g 1 = c 1 + c 7 * kx
      rw [← hc 7 (by decide), show tv g 7 = 0 from z2_eq h2, cr_zl, Rg.add_zero, hc 1 (by decide)]
  · have hB := qz (hg 16 (by decide)) (hg 17 (by decide))
    cases h2 : z2 (gN (g 16)) (gN (g 17))
    · refine roundF mixed tt_ok GDm_ok 200 [⟨15,8,.lit (.bo true)⟩] ?_
      refine same (p := (!qL [g 16, g 17] zL2) = true ∧ nv (g 16) < pN ∧ nv (g 17) < pN ∧ nv (vF kx.x) < pN ∧ nv (vF kx.y) < pN ∧ nv (g 4) < pN ∧ nv (g 5) < pN ∧ nv (vF (tv g 8 * G2 kx).x) < pN ∧ nv (vF (tv g 8 * G2 kx).y) < pN ∧ true = true ∧
        ∃ j : {x // InvDr c x}, 6 - j.1.1 < 6 - 2 ∧ VDr (2 + 1) = VDr j.1.1 ∧ HDr a b g (up2 (up2 o 2 (g 4) (g 5)) 2 (vF (tv g 2 + G2 (tv g 8 * G2 kx)).x) (vF (tv g 2 + G2 (tv g 8 * G2 kx)).y)) = HDr a b g j.1.2) ?_ (by kernel_rfl)
      refine ⟨by rw [hB, h2]; rfl, hg _ (by decide), hg _ (by decide), lk.1, lk.2, hg _ (by decide), hg _ (by decide), lt_vF _, lt_vF _, rfl, ⟨(2 + 1, (up2 (up2 o 2 (g 4) (g 5)) 2 (vF (tv g 2 + G2 (tv g 8 * G2 kx)).x) (vF (tv g 2 + G2 (tv g 8 * G2 kx)).y))), by simp only; omega, (ho.up (hg _ (by decide)) (hg _ (by decide))).up (lt_vF _) (lt_vF _), nxt (by decide) ht (fun j e => by rw [tv_ne _ e, tv_ne _ e]) ?_⟩, by simp only; omega, rfl, rfl⟩
      rw [tv_same]
      refine (G2_eq _).trans ?_
      rw [G2_eq, G2_eq, hc 2 (by decide), hc 8 (by decide)]
      rfl
    · refine roundF mixed tt_ok GDm_ok 200 [⟨15,8,.lit (.bo false)⟩] ?_
      refine same (p := (!qL [g 16, g 17] zL2) = false ∧ true = true ∧ ∃ j : {x // InvDr c x}, 6 - j.1.1 < 6 - 2 ∧ VDr (2 + 1) = VDr j.1.1 ∧ HDr a b g (up2 o 2 (g 4) (g 5)) = HDr a b g j.1.2) ?_ (by kernel_rfl)
      refine ⟨by rw [hB, h2]; rfl, rfl, ⟨(2 + 1, (up2 o 2 (g 4) (g 5))), by simp only; omega, ho.up (hg _ (by decide)) (hg _ (by decide)), nxt (by decide) ht (fun j e => by rw [tv_ne _ e]) ?_⟩, by simp only; omega, rfl, rfl⟩
      rw [tv_same]
      show tv g 2 = c 2 + c 8 * kx
      rw [← hc 8 (by decide), show tv g 8 = 0 from z2_eq h2, cr_zl, Rg.add_zero, hc 2 (by decide)]
  · have hB := qz (hg 18 (by decide)) (hg 19 (by decide))
    cases h2 : z2 (gN (g 18)) (gN (g 19))
    · refine roundF mixed tt_ok GDm_ok 200 [⟨15,8,.lit (.bo true)⟩] ?_
      refine same (p := (!qL [g 18, g 19] zL2) = true ∧ nv (g 18) < pN ∧ nv (g 19) < pN ∧ nv (vF kx.x) < pN ∧ nv (vF kx.y) < pN ∧ nv (g 6) < pN ∧ nv (g 7) < pN ∧ nv (vF (tv g 9 * G2 kx).x) < pN ∧ nv (vF (tv g 9 * G2 kx).y) < pN ∧ true = true ∧
        ∃ j : {x // InvDr c x}, 6 - j.1.1 < 6 - 3 ∧ VDr (3 + 1) = VDr j.1.1 ∧ HDr a b g (up2 (up2 o 3 (g 6) (g 7)) 3 (vF (tv g 3 + G2 (tv g 9 * G2 kx)).x) (vF (tv g 3 + G2 (tv g 9 * G2 kx)).y)) = HDr a b g j.1.2) ?_ (by kernel_rfl)
      refine ⟨by rw [hB, h2]; rfl, hg _ (by decide), hg _ (by decide), lk.1, lk.2, hg _ (by decide), hg _ (by decide), lt_vF _, lt_vF _, rfl, ⟨(3 + 1, (up2 (up2 o 3 (g 6) (g 7)) 3 (vF (tv g 3 + G2 (tv g 9 * G2 kx)).x) (vF (tv g 3 + G2 (tv g 9 * G2 kx)).y))), by simp only; omega, (ho.up (hg _ (by decide)) (hg _ (by decide))).up (lt_vF _) (lt_vF _), nxt (by decide) ht (fun j e => by rw [tv_ne _ e, tv_ne _ e]) ?_⟩, by simp only; omega, rfl, rfl⟩
      rw [tv_same]
      refine (G2_eq _).trans ?_
      rw [G2_eq, G2_eq, hc 3 (by decide), hc 9 (by decide)]
      rfl
    · refine roundF mixed tt_ok GDm_ok 200 [⟨15,8,.lit (.bo false)⟩] ?_
      refine same (p := (!qL [g 18, g 19] zL2) = false ∧ true = true ∧ ∃ j : {x // InvDr c x}, 6 - j.1.1 < 6 - 3 ∧ VDr (3 + 1) = VDr j.1.1 ∧ HDr a b g (up2 o 3 (g 6) (g 7)) = HDr a b g j.1.2) ?_ (by kernel_rfl)
      refine ⟨by rw [hB, h2]; rfl, rfl, ⟨(3 + 1, (up2 o 3 (g 6) (g 7))), by simp only; omega, ho.up (hg _ (by decide)) (hg _ (by decide)), nxt (by decide) ht (fun j e => by rw [tv_ne _ e]) ?_⟩, by simp only; omega, rfl, rfl⟩
      rw [tv_same]
      show tv g 3 = c 3 + c 9 * kx
      rw [← hc 9 (by decide), show tv g 9 = 0 from z2_eq h2, cr_zl, Rg.add_zero, hc 3 (by decide)]
  · have hB := qz (hg 20 (by decide)) (hg 21 (by decide))
    cases h2 : z2 (gN (g 20)) (gN (g 21))
    · refine roundF mixed tt_ok GDm_ok 200 [⟨15,8,.lit (.bo true)⟩] ?_
      refine same (p := (!qL [g 20, g 21] zL2) = true ∧ nv (g 20) < pN ∧ nv (g 21) < pN ∧ nv (vF kx.x) < pN ∧ nv (vF kx.y) < pN ∧ nv (g 8) < pN ∧ nv (g 9) < pN ∧ nv (vF (tv g 10 * G2 kx).x) < pN ∧ nv (vF (tv g 10 * G2 kx).y) < pN ∧ true = true ∧
        ∃ j : {x // InvDr c x}, 6 - j.1.1 < 6 - 4 ∧ VDr (4 + 1) = VDr j.1.1 ∧ HDr a b g (up2 (up2 o 4 (g 8) (g 9)) 4 (vF (tv g 4 + G2 (tv g 10 * G2 kx)).x) (vF (tv g 4 + G2 (tv g 10 * G2 kx)).y)) = HDr a b g j.1.2) ?_ (by kernel_rfl)
      refine ⟨by rw [hB, h2]; rfl, hg _ (by decide), hg _ (by decide), lk.1, lk.2, hg _ (by decide), hg _ (by decide), lt_vF _, lt_vF _, rfl, ⟨(4 + 1, (up2 (up2 o 4 (g 8) (g 9)) 4 (vF (tv g 4 + G2 (tv g 10 * G2 kx)).x) (vF (tv g 4 + G2 (tv g 10 * G2 kx)).y))), by simp only; omega, (ho.up (hg _ (by decide)) (hg _ (by decide))).up (lt_vF _) (lt_vF _), nxt (by decide) ht (fun j e => by rw [tv_ne _ e, tv_ne _ e]) ?_⟩, by simp only; omega, rfl, rfl⟩
      rw [tv_same]
      refine (G2_eq _).trans ?_
      rw [G2_eq, G2_eq, hc 4 (by decide), hc 10 (by decide)]
      rfl
    · refine roundF mixed tt_ok GDm_ok 200 [⟨15,8,.lit (.bo false)⟩] ?_
      refine same (p := (!qL [g 20, g 21] zL2) = false ∧ true = true ∧ ∃ j : {x // InvDr c x}, 6 - j.1.1 < 6 - 4 ∧ VDr (4 + 1) = VDr j.1.1 ∧ HDr a b g (up2 o 4 (g 8) (g 9)) = HDr a b g j.1.2) ?_ (by kernel_rfl)
      refine ⟨by rw [hB, h2]; rfl, rfl, ⟨(4 + 1, (up2 o 4 (g 8) (g 9))), by simp only; omega, ho.up (hg _ (by decide)) (hg _ (by decide)), nxt (by decide) ht (fun j e => by rw [tv_ne _ e]) ?_⟩, by simp only; omega, rfl, rfl⟩
      rw [tv_same]
      show tv g 4 = c 4 + c 10 * kx
      rw [← hc 10 (by decide), show tv g 10 = 0 from z2_eq h2, cr_zl, Rg.add_zero, hc 4 (by decide)]
  · refine roundF mixed tt_ok GDm_ok 200 [] ?_
    refine same (p := true = true ∧ ∃ j : {x // InvDr c x}, 6 - j.1.1 < 6 - 5 ∧ VDr (5 + 1) = VDr j.1.1 ∧ HDr a b g (up2 o 5 (g 10) (g 11)) = HDr a b g j.1.2) ?_ (by kernel_rfl)
    refine ⟨rfl, ⟨(5 + 1, (up2 o 5 (g 10) (g 11))), by simp only; omega, ho.up (hg _ (by decide)) (hg _ (by decide)), nxt (by decide) ht (fun j e => by rw [tv_ne _ e]) ?_⟩, by simp only; omega, rfl, rfl⟩
    rw [tv_same]
    show tv g 5 = c 5
    rw [hc 5 (by decide)]
  · refine roundF mixed tt_ok GDm_ok 100 [] ?_
    refine same (p := true = true ∧ ∃ j : {x // InvDr c x}, j.1.1 = 6 ∧ VDr 6 = VDr j.1.1 ∧ HDr a b g o = HDr a b g j.1.2) ?_ (by kernel_rfl)
    exact ⟨rfl, ⟨(6, o), h6, ho, ht⟩, rfl, rfl, rfl⟩
theorem okD12Mul : (CallC.pure (dd2 S12.mul)).Ok Try.prog 36 := by
  refine dd2_ok Try.func36 (by kernel_rfl) (by kernel_rfl) fun a0 a1 a2 a3 a4 a5 a6 a7 a8 a9 a10 a11 b0 b1 b2 b3 b4 b5 b6 b7 b8 b9 b10 b11 ha0 ha1 ha2 ha3 ha4 ha5 ha6 ha7 ha8 ha9 ha10 ha11 hb0 hb1 hb2 hb3 hb4 hb5 hb6 hb7 hb8 hb9 hb10 hb11 => ?_
  obtain ⟨a, ea⟩ : ∃ a, a = of12 a0 a1 a2 a3 a4 a5 a6 a7 a8 a9 a10 a11 := ⟨_, rfl⟩
  obtain ⟨b, eb⟩ : ∃ b, b = of12 b0 b1 b2 b3 b4 b5 b6 b7 b8 b9 b10 b11 := ⟨_, rfl⟩
  have la : LtN 12 a := by rw [ea]; exact lt_of12 ha0 ha1 ha2 ha3 ha4 ha5 ha6 ha7 ha8 ha9 ha10 ha11
  have lb : LtN 12 b := by rw [eb]; exact lt_of12 hb0 hb1 hb2 hb3 hb4 hb5 hb6 hb7 hb8 hb9 hb10 hb11
  have da : g12 a0 a1 a2 a3 a4 a5 a6 a7 a8 a9 a10 a11 = g12 (a 0) (a 1) (a 2) (a 3) (a 4) (a 5) (a 6) (a 7) (a 8) (a 9) (a 10) (a 11) := by rw [ea]; rfl
  have db : g12 b0 b1 b2 b3 b4 b5 b6 b7 b8 b9 b10 b11 = g12 (b 0) (b 1) (b 2) (b 3) (b 4) (b 5) (b 6) (b 7) (b 8) (b 9) (b 10) (b 11) := by rw [eb]; rfl
  have ca : (AV.v1 (v12 a0 a1 a2 a3 a4 a5 a6 a7 a8 a9 a10 a11)) = .v1 (.agg (cs12 a)) := by rw [ea]; rfl
  have cb : (AV.v1 (v12 b0 b1 b2 b3 b4 b5 b6 b7 b8 b9 b10 b11)) = .v1 (.agg (cs12 b)) := by rw [eb]; rfl
  rw [da, db, ca, cb]
  refine loopK mixed tt_ok GDm_ok 0 (by kernel_rfl) (ι := {x // InvDo (tv a) (tv b) x}) [2,3,4,5,6] 79 4 (fun x => VDo x.1.1) (fun x => HDo a b x.1.2) (fun x => 6 - x.1.1) (fun x => x.1.1 = 6)
    (fun _ => rfl) (fun _ => by kernel_rfl) (fun _ _ h => h.elim) 100 [] ?_ ?_ ?_
  · refine same (p := true = true ∧ ∃ j : {x // InvDo (tv a) (tv b) x}, VDo 0 = VDo j.1.1 ∧ HDo a b zz12 = HDo a b j.1.2) ?_ (by kernel_rfl)
    refine ⟨rfl, ⟨(0, zz12), by simp, fun i hi => zlt, fun j hj => ?_⟩, rfl, rfl⟩
    exact F2p.ext gN_z gN_z
  · intro ⟨⟨i, g⟩, hi, hg, ht⟩ junk
    simp only at hi hg ht
    rcases (show i = 0 ∨ i = 1 ∨ i = 2 ∨ i = 3 ∨ i = 4 ∨ i = 5 ∨ i = 6 by omega) with rfl | rfl | rfl | rfl | rfl | rfl | rfl
    · exact mulI0 la lb hg ht junk
    · exact mulI1 la lb hg ht junk
    · exact mulI2 la lb hg ht junk
    · exact mulI3 la lb hg ht junk
    · exact mulI4 la lb hg ht junk
    · exact mulI5 la lb hg ht junk
    · refine roundF mixed tt_ok GDm_ok 100 [] ?_
      refine same (p := true = true ∧ ∃ j : {x // InvDo (tv a) (tv b) x}, j.1.1 = 6 ∧ VDo 6 = VDo j.1.1 ∧ HDo a b g = HDo a b j.1.2) ?_ (by kernel_rfl)
      exact ⟨rfl, ⟨(6, g), hi, hg, ht⟩, rfl, rfl, rfl⟩
  · intro ⟨⟨i, g⟩, hi, hg, ht⟩ junk h6
    simp only at hi hg ht h6
    subst h6
    refine loopK mixed tt_ok GDm_ok 0 (by kernel_rfl) (ι := {x // InvDr (cout (tv a) (tv b) 6) x}) [4,5,8,9] 79 5 (fun x => VDr x.1.1) (fun x => HDr a b g x.1.2) (fun x => 6 - x.1.1) (fun x => x.1.1 = 6)
      (fun _ => rfl) (fun _ => by kernel_rfl) (fun _ _ h => h.elim) 100 [] ?_ ?_ ?_
    · refine same (p := true = true ∧ ∃ j : {x // InvDr (cout (tv a) (tv b) 6) x}, VDr 0 = VDr j.1.1 ∧ HDr a b g zz12 = HDr a b g j.1.2) ?_ (by kernel_rfl)
      exact ⟨rfl, ⟨(0, zz12), by simp, fun i hi => zlt, fun j hj => by simp at hj⟩, rfl, rfl⟩
    · intro ⟨⟨i, o⟩, hio⟩ junk
      exact mulR hg _ ht junk hio
    · intro ⟨⟨i, o⟩, hi, ho, hr⟩ junk h6
      simp only at hi ho hr h6
      subst h6
      refine evS_q mixed tt_ok GDm_ok 100 [] ?_
      refine same (p := endN (.v1 (.agg (cs12 o))) (.v1 (n12 (S12.mul (g12 (a 0) (a 1) (a 2) (a 3) (a 4) (a 5) (a 6) (a 7) (a 8) (a 9) (a 10) (a 11)) (g12 (b 0) (b 1) (b 2) (b 3) (b 4) (b 5) (b 6) (b 7) (b 8) (b 9) (b 10) (b 11)))))) ?_ (by kernel_rfl)
      rw [← res_mul hr]
      exact ⟨_, rfl, v12_val (v12K (ho 0 (by decide))) (v12K (ho 1 (by decide))) (v12K (ho 2 (by decide))) (v12K (ho 3 (by decide))) (v12K (ho 4 (by decide))) (v12K (ho 5 (by decide))) (v12K (ho 6 (by decide))) (v12K (ho 7 (by decide))) (v12K (ho 8 (by decide))) (v12K (ho 9 (by decide))) (v12K (ho 10 (by decide))) (v12K (ho 11 (by decide)))⟩
end Go.Proofs.Ytkmfiefnaeikdaa

/- The document's powers and turned numbers. Printed by gend11.py. -/
namespace Go.Proofs.Ytkmfiefnaeikdaa
open Go.Rq Go
set_option maxRecDepth 100000
set_option linter.unusedVariables false

/-! powers of two parts -/
def cPw2 (F : F2p → Nat → F2p) : List AV → Option (List Prop × AV)
  | [.v1 (.agg [.ws .u64 6 a, .ws .u64 6 b]), .v1 (.agg [.ws .u64 6 e])] => some ([nv a < pN, nv b < pN], .v1 (n2 (F (g2 a b) (nv e))))
  | _ => none
def GPa : Ctx := ctxL [(19, .pure (d2 (· * ·))), (90, .pure cLen), (91, .pure cBit)]
theorem GPa_ok : CtxOk Try.prog GPa := ctxL_cons okD2Mul <| ctxL_cons okLen' <| ctxL_cons okBit' ctxL_nil
def VPa (k : Nat) : List AV := [pt 0 0, pt 1 0, pt 2 0, pt 3 0, iv (predI k)]
def HPa (a b e x y : Nat → Nat) : Heap := [b2 a b, nb e, b2 (fun _ => 0) (fun _ => 0), b2 x y]
structure PaD where
  k : Nat
  x : Nat → Nat
  y : Nat → Nat
structure InvPa (z : F2p) (e : Nat) (d : PaD) : Prop where
  hk : d.k ≤ 384
  hx : nv d.x < pN
  hy : nv d.y < pN
  hd : g2 d.x d.y = z ^ (e / 2 ^ d.k)
theorem g2_one : g2 (upd (fun _ => 0) 0 1) (fun _ => 0) = 1 := F2p.ext gN_u1 gN_z
theorem okPower2 : (CallC.pure (cPw2 fun x n => x ^ n)).Ok Try.prog 117 := by
  intro args pre v hh hp
  unfold cPw2 at hh
  split at hh
  · rename_i a b e
    cases hh
    have ha : nv a < pN := hp _ (by simp)
    have hb : nv b < pN := hp _ (by simp)
    have hbl := blen_le e
    refine pure_walk' tt_ok Try.func117 (by kernel_rfl) (by kernel_rfl) (by rfl) (by rfl) ?_
    refine loopF mixed tt_ok GPa_ok (by kernel_rfl) (ι := {x // InvPa (g2 a b) (nv e) x}) [2,3,4,5,6] 28 4 (fun x => VPa x.1.k) (fun x => HPa a b e x.1.x x.1.y) (fun x => x.1.k) (fun x => x.1.k = 0)
      (fun _ => rfl) (fun _ => by kernel_rfl) (fun _ _ h => h.elim) 60 [⟨2,2,.lit (.it (predI (blen (nv e))))⟩] ?_ ?_ ?_
    · refine same (p := wrapI (Int.ofNat (blen (nv e)) - 1) = predI (blen (nv e)) ∧ true = true ∧
        ∃ j : {x // InvPa (g2 a b) (nv e) x}, VPa (blen (nv e)) = VPa j.1.k ∧ HPa a b e (upd (fun _ => 0) 0 1) (fun _ => 0) = HPa a b e j.1.x j.1.y) ?_ (by kernel_rfl)
      exact ⟨predI_eq (by omega), rfl, ⟨⟨blen (nv e), (upd (fun _ => 0) 0 1), (fun _ => 0)⟩, hbl, by rw [nv_u1']; exact pN_pr.1, zlt, by rw [g2_one]; exact pwS0⟩, rfl, rfl⟩
    · intro ⟨⟨k, x, y⟩, ⟨hk, hx, hy, ho⟩⟩ junk
      simp only at hk hx hy ho
      cases k with
      | zero =>
        refine roundF mixed tt_ok GPa_ok 60 [] ?_
        refine same (p := true = true ∧ ∃ j : {x // InvPa (g2 a b) (nv e) x}, j.1.k = 0 ∧ VPa 0 = VPa j.1.k ∧ HPa a b e x y = HPa a b e j.1.x j.1.y) ?_ (by kernel_rfl)
        exact ⟨rfl, ⟨⟨0, x, y⟩, hk, hx, hy, ho⟩, rfl, rfl, rfl⟩
      | succ k =>
        have hge : (!ilt (Int.ofNat k) 0) = true := by rw [ilt_nn']; rfl
        have hs : wrapI (Int.ofNat k - 1) = predI k := predI_eq (by omega)
        have next : ∀ z : F2p, z = g2 a b ^ (nv e / 2 ^ k) → ∃ j : {x // InvPa (g2 a b) (nv e) x}, j.1.k < k + 1 ∧ VPa k = VPa j.1.k ∧ HPa a b e (vF z.x) (vF z.y) = HPa a b e j.1.x j.1.y :=
          fun z h' => ⟨⟨⟨k, vF z.x, vF z.y⟩, by simp only; omega, lt_vF _, lt_vF _, (G2_eq z).trans h'⟩, by simp only; omega, rfl, rfl⟩
        have hbit : nv e / 2 ^ k % 2 = 0 ∨ nv e / 2 ^ k % 2 = 1 := by omega
        rcases hbit with h0 | h0
        · refine roundF mixed tt_ok GPa_ok 60 [⟨3,1,.lit (.bo true)⟩,⟨6,3,.lit (.bo false)⟩,⟨4,1,.lit (.it (predI k))⟩] ?_
          refine same (p := (!ilt (Int.ofNat k) 0) = true ∧ nv x < pN ∧ nv y < pN ∧ nv x < pN ∧ nv y < pN ∧ ieq (Int.ofNat (nv e / 2 ^ k % 2)) 1 = false ∧ wrapI (Int.ofNat k - 1) = predI k ∧ true = true ∧
            ∃ j : {x // InvPa (g2 a b) (nv e) x}, j.1.k < k + 1 ∧ VPa k = VPa j.1.k ∧ HPa a b e (vF (g2 x y * g2 x y).x) (vF (g2 x y * g2 x y).y) = HPa a b e j.1.x j.1.y) ?_ (by kernel_rfl)
          exact ⟨hge, hx, hy, hx, hy, by rw [h0]; rfl, hs, rfl, next _ (pw0 ho h0)⟩
        · refine roundF mixed tt_ok GPa_ok 60 [⟨3,1,.lit (.bo true)⟩,⟨6,3,.lit (.bo true)⟩,⟨4,1,.lit (.it (predI k))⟩] ?_
          refine same (p := (!ilt (Int.ofNat k) 0) = true ∧ nv x < pN ∧ nv y < pN ∧ nv x < pN ∧ nv y < pN ∧ ieq (Int.ofNat (nv e / 2 ^ k % 2)) 1 = true ∧ nv (vF (g2 x y * g2 x y).x) < pN ∧ nv (vF (g2 x y * g2 x y).y) < pN ∧ nv a < pN ∧ nv b < pN ∧ wrapI (Int.ofNat k - 1) = predI k ∧ true = true ∧
            ∃ j : {x // InvPa (g2 a b) (nv e) x}, j.1.k < k + 1 ∧ VPa k = VPa j.1.k ∧ HPa a b e (vF (G2 (g2 x y * g2 x y) * g2 a b).x) (vF (G2 (g2 x y * g2 x y) * g2 a b).y) = HPa a b e j.1.x j.1.y) ?_ (by kernel_rfl)
          exact ⟨hge, hx, hy, hx, hy, by rw [h0]; rfl, lt_vF _, lt_vF _, ha, hb, hs, rfl, next _ (by rw [G2_eq]; exact pw1 ho h0)⟩
    · intro ⟨⟨k, x, y⟩, ⟨hk, hx, hy, ho⟩⟩ junk h0
      simp only at hk hx hy ho h0
      subst h0
      refine same (p := endN (f2 x y) (.v1 (n2 (g2 a b ^ nv e)))) ?_ (by kernel_rfl)
      rw [Nat.pow_zero, Nat.div_one] at ho
      exact end2 hx hy ho
  · cases hh

theorem S12.mul_eq (x y : S12) : S12.mul x y = x * y := rfl

/-! powers of twelve parts -/
def nG12 (s : S12) : Nat → Nat → Nat := of12 (vF s.p.u.x) (vF s.p.u.y) (vF s.q.u.x) (vF s.q.u.y) (vF s.p.v.x) (vF s.p.v.y) (vF s.q.v.x) (vF s.q.v.y) (vF s.p.w.x) (vF s.p.w.y) (vF s.q.w.x) (vF s.q.w.y)
theorem nG12_lt (s : S12) : LtN 12 (nG12 s) := lt_of12 (lt_vF _) (lt_vF _) (lt_vF _) (lt_vF _) (lt_vF _) (lt_vF _) (lt_vF _) (lt_vF _) (lt_vF _) (lt_vF _) (lt_vF _) (lt_vF _)
abbrev gv (g : Nat → Nat → Nat) : S12 := g12 (g 0) (g 1) (g 2) (g 3) (g 4) (g 5) (g 6) (g 7) (g 8) (g 9) (g 10) (g 11)
theorem gv_n (s : S12) : gv (nG12 s) = s := G12_eq s
def cDPow : List AV → Option (List Prop × AV)
  | [.v1 (.agg [.ws .u64 6 a0, .ws .u64 6 a1, .ws .u64 6 a2, .ws .u64 6 a3, .ws .u64 6 a4, .ws .u64 6 a5, .ws .u64 6 a6, .ws .u64 6 a7, .ws .u64 6 a8, .ws .u64 6 a9, .ws .u64 6 a10, .ws .u64 6 a11]), .v1 (.agg [.ws .u64 6 e])] => some ([nv a0 < pN, nv a1 < pN, nv a2 < pN, nv a3 < pN, nv a4 < pN, nv a5 < pN, nv a6 < pN, nv a7 < pN, nv a8 < pN, nv a9 < pN, nv a10 < pN, nv a11 < pN], .v1 (n12 (g12 a0 a1 a2 a3 a4 a5 a6 a7 a8 a9 a10 a11 ^ nv e)))
  | _ => none
def GPb : Ctx := ctxL [(36, .pure (dd2 S12.mul)), (30, .pure (c12 (n12 1))), (90, .pure cLen), (91, .pure cBit)]
theorem GPb_ok : CtxOk Try.prog GPb := ctxL_cons okD12Mul <| ctxL_cons okD12One <| ctxL_cons okLen' <| ctxL_cons okBit' ctxL_nil
def VPb (k : Nat) : List AV := [pt 0 0, pt 1 0, pt 2 0, pt 4 0, iv (predI k)]
def HPb (a : Nat → Nat → Nat) (e : Nat → Nat) (g : Nat → Nat → Nat) : Heap := [bE12 a, nb e, bE12 zz12, none, bE12 g]
structure InvPb (z : S12) (e : Nat) (d : Nat × (Nat → Nat → Nat)) : Prop where
  hk : d.1 ≤ 384
  hg : LtN 12 d.2
  hd : gv d.2 = z ^ (e / 2 ^ d.1)
theorem okDPow : (CallC.pure cDPow).Ok Try.prog 45 := by
  intro args pre v hh hp
  unfold cDPow at hh
  split at hh
  · rename_i a0 a1 a2 a3 a4 a5 a6 a7 a8 a9 a10 a11 e
    cases hh
    have ha0 : nv a0 < pN := hp _ (by simp)
    have ha1 : nv a1 < pN := hp _ (by simp)
    have ha2 : nv a2 < pN := hp _ (by simp)
    have ha3 : nv a3 < pN := hp _ (by simp)
    have ha4 : nv a4 < pN := hp _ (by simp)
    have ha5 : nv a5 < pN := hp _ (by simp)
    have ha6 : nv a6 < pN := hp _ (by simp)
    have ha7 : nv a7 < pN := hp _ (by simp)
    have ha8 : nv a8 < pN := hp _ (by simp)
    have ha9 : nv a9 < pN := hp _ (by simp)
    have ha10 : nv a10 < pN := hp _ (by simp)
    have ha11 : nv a11 < pN := hp _ (by simp)
    have hbl := blen_le e
    refine pure_walk' tt_ok Try.func45 (by kernel_rfl) (by kernel_rfl) (by rfl) (by rfl) ?_
    obtain ⟨a, ea⟩ : ∃ a, a = of12 a0 a1 a2 a3 a4 a5 a6 a7 a8 a9 a10 a11 := ⟨_, rfl⟩
    have la : LtN 12 a := by rw [ea]; exact lt_of12 ha0 ha1 ha2 ha3 ha4 ha5 ha6 ha7 ha8 ha9 ha10 ha11
    have da : g12 a0 a1 a2 a3 a4 a5 a6 a7 a8 a9 a10 a11 = gv a := by rw [ea]; rfl
    have ca : (AV.v1 (.agg [.ws .u64 6 a0, .ws .u64 6 a1, .ws .u64 6 a2, .ws .u64 6 a3, .ws .u64 6 a4, .ws .u64 6 a5, .ws .u64 6 a6, .ws .u64 6 a7, .ws .u64 6 a8, .ws .u64 6 a9, .ws .u64 6 a10, .ws .u64 6 a11])) = .v1 (.agg (cs12 a)) := by rw [ea]; rfl
    rw [da, ca]
    refine loopF mixed tt_ok GPb_ok (by kernel_rfl) (ι := {x // InvPb (gv a) (nv e) x}) [2,3,4,5,6] 26 5 (fun x => VPb x.1.1) (fun x => HPb a e x.1.2) (fun x => x.1.1) (fun x => x.1.1 = 0)
      (fun _ => rfl) (fun _ => by kernel_rfl) (fun _ _ h => h.elim) 60 [⟨2,2,.lit (.it (predI (blen (nv e))))⟩] ?_ ?_ ?_
    · refine same (p := wrapI (Int.ofNat (blen (nv e)) - 1) = predI (blen (nv e)) ∧ true = true ∧
        ∃ j : {x // InvPb (gv a) (nv e) x}, VPb (blen (nv e)) = VPb j.1.1 ∧ HPb a e (nG12 1) = HPb a e j.1.2) ?_ (by kernel_rfl)
      exact ⟨predI_eq (by omega), rfl, ⟨(blen (nv e), nG12 1), hbl, nG12_lt 1, (gv_n 1).trans pwS0⟩, rfl, rfl⟩
    · intro ⟨⟨k, g⟩, ⟨hk, hg, ho⟩⟩ junk
      simp only at hk hg ho
      cases k with
      | zero =>
        refine roundF mixed tt_ok GPb_ok 60 [] ?_
        refine same (p := true = true ∧ ∃ j : {x // InvPb (gv a) (nv e) x}, j.1.1 = 0 ∧ VPb 0 = VPb j.1.1 ∧ HPb a e g = HPb a e j.1.2) ?_ (by kernel_rfl)
        exact ⟨rfl, ⟨(0, g), hk, hg, ho⟩, rfl, rfl, rfl⟩
      | succ k =>
        have hge : (!ilt (Int.ofNat k) 0) = true := by rw [ilt_nn']; rfl
        have hs : wrapI (Int.ofNat k - 1) = predI k := predI_eq (by omega)
        have next : ∀ z : S12, z = gv a ^ (nv e / 2 ^ k) → ∃ j : {x // InvPb (gv a) (nv e) x}, j.1.1 < k + 1 ∧ VPb k = VPb j.1.1 ∧ HPb a e (nG12 z) = HPb a e j.1.2 :=
          fun z h' => ⟨⟨(k, nG12 z), by simp only; omega, nG12_lt z, (gv_n z).trans h'⟩, by simp only; omega, rfl, rfl⟩
        have hbit : nv e / 2 ^ k % 2 = 0 ∨ nv e / 2 ^ k % 2 = 1 := by omega
        rcases hbit with h0 | h0
        · refine roundF mixed tt_ok GPb_ok 100 [⟨3,1,.lit (.bo true)⟩,⟨6,3,.lit (.bo false)⟩,⟨4,1,.lit (.it (predI k))⟩] ?_
          refine same (p := (!ilt (Int.ofNat k) 0) = true ∧ nv (g 0) < pN ∧ nv (g 1) < pN ∧ nv (g 2) < pN ∧ nv (g 3) < pN ∧ nv (g 4) < pN ∧ nv (g 5) < pN ∧ nv (g 6) < pN ∧ nv (g 7) < pN ∧ nv (g 8) < pN ∧ nv (g 9) < pN ∧ nv (g 10) < pN ∧ nv (g 11) < pN ∧ nv (g 0) < pN ∧ nv (g 1) < pN ∧ nv (g 2) < pN ∧ nv (g 3) < pN ∧ nv (g 4) < pN ∧ nv (g 5) < pN ∧ nv (g 6) < pN ∧ nv (g 7) < pN ∧ nv (g 8) < pN ∧ nv (g 9) < pN ∧ nv (g 10) < pN ∧ nv (g 11) < pN ∧ ieq (Int.ofNat (nv e / 2 ^ k % 2)) 1 = false ∧ wrapI (Int.ofNat k - 1) = predI k ∧ true = true ∧
            ∃ j : {x // InvPb (gv a) (nv e) x}, j.1.1 < k + 1 ∧ VPb k = VPb j.1.1 ∧ HPb a e (nG12 (S12.mul (gv g) (gv g))) = HPb a e j.1.2) ?_ (by kernel_rfl)
          exact ⟨hge, hg 0 (by decide), hg 1 (by decide), hg 2 (by decide), hg 3 (by decide), hg 4 (by decide), hg 5 (by decide), hg 6 (by decide), hg 7 (by decide), hg 8 (by decide), hg 9 (by decide), hg 10 (by decide), hg 11 (by decide), hg 0 (by decide), hg 1 (by decide), hg 2 (by decide), hg 3 (by decide), hg 4 (by decide), hg 5 (by decide), hg 6 (by decide), hg 7 (by decide), hg 8 (by decide), hg 9 (by decide), hg 10 (by decide), hg 11 (by decide), by rw [h0]; rfl, hs, rfl, next _ (by rw [S12.mul_eq]; exact pw0 ho h0)⟩
        · refine roundF mixed tt_ok GPb_ok 100 [⟨3,1,.lit (.bo true)⟩,⟨6,3,.lit (.bo true)⟩,⟨4,1,.lit (.it (predI k))⟩] ?_
          refine same (p := (!ilt (Int.ofNat k) 0) = true ∧ nv (g 0) < pN ∧ nv (g 1) < pN ∧ nv (g 2) < pN ∧ nv (g 3) < pN ∧ nv (g 4) < pN ∧ nv (g 5) < pN ∧ nv (g 6) < pN ∧ nv (g 7) < pN ∧ nv (g 8) < pN ∧ nv (g 9) < pN ∧ nv (g 10) < pN ∧ nv (g 11) < pN ∧ nv (g 0) < pN ∧ nv (g 1) < pN ∧ nv (g 2) < pN ∧ nv (g 3) < pN ∧ nv (g 4) < pN ∧ nv (g 5) < pN ∧ nv (g 6) < pN ∧ nv (g 7) < pN ∧ nv (g 8) < pN ∧ nv (g 9) < pN ∧ nv (g 10) < pN ∧ nv (g 11) < pN ∧ ieq (Int.ofNat (nv e / 2 ^ k % 2)) 1 = true ∧ nv (vF (S12.mul (gv g) (gv g)).p.u.x) < pN ∧ nv (vF (S12.mul (gv g) (gv g)).p.u.y) < pN ∧ nv (vF (S12.mul (gv g) (gv g)).q.u.x) < pN ∧ nv (vF (S12.mul (gv g) (gv g)).q.u.y) < pN ∧ nv (vF (S12.mul (gv g) (gv g)).p.v.x) < pN ∧ nv (vF (S12.mul (gv g) (gv g)).p.v.y) < pN ∧ nv (vF (S12.mul (gv g) (gv g)).q.v.x) < pN ∧ nv (vF (S12.mul (gv g) (gv g)).q.v.y) < pN ∧ nv (vF (S12.mul (gv g) (gv g)).p.w.x) < pN ∧ nv (vF (S12.mul (gv g) (gv g)).p.w.y) < pN ∧ nv (vF (S12.mul (gv g) (gv g)).q.w.x) < pN ∧ nv (vF (S12.mul (gv g) (gv g)).q.w.y) < pN ∧ nv (a 0) < pN ∧ nv (a 1) < pN ∧ nv (a 2) < pN ∧ nv (a 3) < pN ∧ nv (a 4) < pN ∧ nv (a 5) < pN ∧ nv (a 6) < pN ∧ nv (a 7) < pN ∧ nv (a 8) < pN ∧ nv (a 9) < pN ∧ nv (a 10) < pN ∧ nv (a 11) < pN ∧ wrapI (Int.ofNat k - 1) = predI k ∧ true = true ∧
            ∃ j : {x // InvPb (gv a) (nv e) x}, j.1.1 < k + 1 ∧ VPb k = VPb j.1.1 ∧ HPb a e (nG12 (S12.mul (G12 (S12.mul (gv g) (gv g))) (gv a))) = HPb a e j.1.2) ?_ (by kernel_rfl)
          exact ⟨hge, hg 0 (by decide), hg 1 (by decide), hg 2 (by decide), hg 3 (by decide), hg 4 (by decide), hg 5 (by decide), hg 6 (by decide), hg 7 (by decide), hg 8 (by decide), hg 9 (by decide), hg 10 (by decide), hg 11 (by decide), hg 0 (by decide), hg 1 (by decide), hg 2 (by decide), hg 3 (by decide), hg 4 (by decide), hg 5 (by decide), hg 6 (by decide), hg 7 (by decide), hg 8 (by decide), hg 9 (by decide), hg 10 (by decide), hg 11 (by decide), by rw [h0]; rfl, lt_vF _, lt_vF _, lt_vF _, lt_vF _, lt_vF _, lt_vF _, lt_vF _, lt_vF _, lt_vF _, lt_vF _, lt_vF _, lt_vF _, la 0 (by decide), la 1 (by decide), la 2 (by decide), la 3 (by decide), la 4 (by decide), la 5 (by decide), la 6 (by decide), la 7 (by decide), la 8 (by decide), la 9 (by decide), la 10 (by decide), la 11 (by decide), hs, rfl, next _ (by rw [G12_eq, S12.mul_eq, S12.mul_eq]; exact pw1 ho h0)⟩
    · intro ⟨⟨k, g⟩, ⟨hk, hg, ho⟩⟩ junk h0
      simp only at hk hg ho h0
      subst h0
      refine same (p := endN (.v1 (.agg (cs12 g))) (.v1 (n12 (gv a ^ nv e)))) ?_ (by kernel_rfl)
      rw [Nat.pow_zero, Nat.div_one] at ho
      rw [← ho]
      exact ⟨_, rfl, v12_val (v12K (hg 0 (by decide))) (v12K (hg 1 (by decide))) (v12K (hg 2 (by decide))) (v12K (hg 3 (by decide))) (v12K (hg 4 (by decide))) (v12K (hg 5 (by decide))) (v12K (hg 6 (by decide))) (v12K (hg 7 (by decide))) (v12K (hg 8 (by decide))) (v12K (hg 9 (by decide))) (v12K (hg 10 (by decide))) (v12K (hg 11 (by decide)))⟩
  · cases hh

/-! turned -/
abbrev tE : Nat → Nat := wd (dQ (nv (wd ((nv primeF + R - nv (upd (fun _ => 0) 0 1)) % R))) (nv (upd (fun _ => 0) 0 6)))
theorem nv_tE : nv tE = (pN - 1) / 6 := by
  have hs := pN_small
  have h1 := pN_pr.1
  have h6 : nv (upd (fun _ => 0) 0 6) = 6 := by kernel_rfl
  have hd : ∀ x, dQ x 6 = x / 6 := fun x => rfl
  unfold tE
  rw [h6, hd, nv_u1', nv_prime, ← less_gen (N := 1) (a := pN) (by omega) pN_lt, nv_wd, nv_wd, Nat.mod_eq_of_lt (show pN - 1 < R by omega), Nat.mod_eq_of_lt (show (pN - 1) / 6 < R by omega)]
def tgG (c : F2p) : Nat → F2p
  | 0 => g2 (upd (fun _ => 0) 0 1) (fun _ => 0) * G2 c
  | k + 1 => G2 (tgG c k) * G2 c
theorem okDTurn_of {F : F2p → Nat → F2p} (hF : (CallC.pure (cPw2 F)).Ok Try.prog 117) (hc : F (G2 kx) (nv tE) = tuK1) : (CallC.pure (dd1 S12.turn)).Ok Try.prog 84 := by
  have GTn_ok : CtxOk Try.prog (ctxL [(87, .pure (cK primeF)), (96, .pure cSub), (116, .pure cDiv2), (81, .pure (c2D kx)), (117, .pure (cPw2 F)), (21, .pure (d1 F2p.cj)), (19, .pure (d2 (· * ·)))]) :=
    ctxL_cons okBaseD <| ctxL_cons okSub' <| ctxL_cons (okDiv2_of okDiv') <| ctxL_cons okXi <| ctxL_cons hF <| ctxL_cons okD2Conj <| ctxL_cons okD2Mul ctxL_nil
  refine dd1_ok Try.func84 (by kernel_rfl) (by kernel_rfl) fun a0 a1 a2 a3 a4 a5 a6 a7 a8 a9 a10 a11 ha0 ha1 ha2 ha3 ha4 ha5 ha6 ha7 ha8 ha9 ha10 ha11 => ?_
  have t0 : g2 (upd (fun _ => 0) 0 1) (fun _ => 0) = tuK0 := g2_one.trans S12.tu_0.symm
  have hl : nv (upd (fun _ => 0) 0 1) < pN := by rw [nv_u1']; exact pN_pr.1
  refine evS_q mixed tt_ok GTn_ok 400 [] ?_
  refine same (p := nv (vF kx.x) < pN ∧ nv (vF kx.y) < pN ∧ nv a0 < pN ∧ nv a1 < pN ∧ nv (vF (F2p.cj (g2 a0 a1)).x) < pN ∧ nv (vF (F2p.cj (g2 a0 a1)).y) < pN ∧ nv (upd (fun _ => 0) 0 1) < pN ∧ nv (fun _ => 0) < pN ∧ nv (upd (fun _ => 0) 0 1) < pN ∧ nv (fun _ => 0) < pN ∧ nv (vF (F (G2 kx) (nv tE)).x) < pN ∧ nv (vF (F (G2 kx) (nv tE)).y) < pN ∧ nv a2 < pN ∧ nv a3 < pN ∧ nv (vF (F2p.cj (g2 a2 a3)).x) < pN ∧ nv (vF (F2p.cj (g2 a2 a3)).y) < pN ∧ nv (vF (tgG (F (G2 kx) (nv tE)) 0).x) < pN ∧ nv (vF (tgG (F (G2 kx) (nv tE)) 0).y) < pN ∧ nv (vF (tgG (F (G2 kx) (nv tE)) 0).x) < pN ∧ nv (vF (tgG (F (G2 kx) (nv tE)) 0).y) < pN ∧ nv (vF (F (G2 kx) (nv tE)).x) < pN ∧ nv (vF (F (G2 kx) (nv tE)).y) < pN ∧ nv a4 < pN ∧ nv a5 < pN ∧ nv (vF (F2p.cj (g2 a4 a5)).x) < pN ∧ nv (vF (F2p.cj (g2 a4 a5)).y) < pN ∧ nv (vF (tgG (F (G2 kx) (nv tE)) 1).x) < pN ∧ nv (vF (tgG (F (G2 kx) (nv tE)) 1).y) < pN ∧ nv (vF (tgG (F (G2 kx) (nv tE)) 1).x) < pN ∧ nv (vF (tgG (F (G2 kx) (nv tE)) 1).y) < pN ∧ nv (vF (F (G2 kx) (nv tE)).x) < pN ∧ nv (vF (F (G2 kx) (nv tE)).y) < pN ∧ nv a6 < pN ∧ nv a7 < pN ∧ nv (vF (F2p.cj (g2 a6 a7)).x) < pN ∧ nv (vF (F2p.cj (g2 a6 a7)).y) < pN ∧ nv (vF (tgG (F (G2 kx) (nv tE)) 2).x) < pN ∧ nv (vF (tgG (F (G2 kx) (nv tE)) 2).y) < pN ∧ nv (vF (tgG (F (G2 kx) (nv tE)) 2).x) < pN ∧ nv (vF (tgG (F (G2 kx) (nv tE)) 2).y) < pN ∧ nv (vF (F (G2 kx) (nv tE)).x) < pN ∧ nv (vF (F (G2 kx) (nv tE)).y) < pN ∧ nv a8 < pN ∧ nv a9 < pN ∧ nv (vF (F2p.cj (g2 a8 a9)).x) < pN ∧ nv (vF (F2p.cj (g2 a8 a9)).y) < pN ∧ nv (vF (tgG (F (G2 kx) (nv tE)) 3).x) < pN ∧ nv (vF (tgG (F (G2 kx) (nv tE)) 3).y) < pN ∧ nv (vF (tgG (F (G2 kx) (nv tE)) 3).x) < pN ∧ nv (vF (tgG (F (G2 kx) (nv tE)) 3).y) < pN ∧ nv (vF (F (G2 kx) (nv tE)).x) < pN ∧ nv (vF (F (G2 kx) (nv tE)).y) < pN ∧ nv a10 < pN ∧ nv a11 < pN ∧ nv (vF (F2p.cj (g2 a10 a11)).x) < pN ∧ nv (vF (F2p.cj (g2 a10 a11)).y) < pN ∧ nv (vF (tgG (F (G2 kx) (nv tE)) 4).x) < pN ∧ nv (vF (tgG (F (G2 kx) (nv tE)) 4).y) < pN ∧ nv (vF (tgG (F (G2 kx) (nv tE)) 4).x) < pN ∧ nv (vF (tgG (F (G2 kx) (nv tE)) 4).y) < pN ∧ nv (vF (F (G2 kx) (nv tE)).x) < pN ∧ nv (vF (F (G2 kx) (nv tE)).y) < pN ∧ endN (.v1 (v12 (vF (G2 (F2p.cj (g2 a0 a1)) * (g2 (upd (fun _ => 0) 0 1) (fun _ => 0))).x) (vF (G2 (F2p.cj (g2 a0 a1)) * (g2 (upd (fun _ => 0) 0 1) (fun _ => 0))).y) (vF (G2 (F2p.cj (g2 a2 a3)) * (G2 (tgG (F (G2 kx) (nv tE)) 0))).x) (vF (G2 (F2p.cj (g2 a2 a3)) * (G2 (tgG (F (G2 kx) (nv tE)) 0))).y) (vF (G2 (F2p.cj (g2 a4 a5)) * (G2 (tgG (F (G2 kx) (nv tE)) 1))).x) (vF (G2 (F2p.cj (g2 a4 a5)) * (G2 (tgG (F (G2 kx) (nv tE)) 1))).y) (vF (G2 (F2p.cj (g2 a6 a7)) * (G2 (tgG (F (G2 kx) (nv tE)) 2))).x) (vF (G2 (F2p.cj (g2 a6 a7)) * (G2 (tgG (F (G2 kx) (nv tE)) 2))).y) (vF (G2 (F2p.cj (g2 a8 a9)) * (G2 (tgG (F (G2 kx) (nv tE)) 3))).x) (vF (G2 (F2p.cj (g2 a8 a9)) * (G2 (tgG (F (G2 kx) (nv tE)) 3))).y) (vF (G2 (F2p.cj (g2 a10 a11)) * (G2 (tgG (F (G2 kx) (nv tE)) 4))).x) (vF (G2 (F2p.cj (g2 a10 a11)) * (G2 (tgG (F (G2 kx) (nv tE)) 4))).y))) (.v1 (n12 (S12.turn (g12 a0 a1 a2 a3 a4 a5 a6 a7 a8 a9 a10 a11))))) ?_ (by kernel_rfl)
  rw [hc]
  have g0 : tgG tuK1 0 = tuK1 := by show g2 (upd (fun _ => 0) 0 1) (fun _ => 0) * G2 tuK1 = tuK1; rw [G2_eq, g2_one]; exact Rg.one_mul _
  have g1 : tgG tuK1 1 = tuK2 := by show G2 (tgG tuK1 0) * G2 tuK1 = tuK2; rw [G2_eq, G2_eq, g0]; exact S12.tu_2
  have g2' : tgG tuK1 2 = tuK3 := by show G2 (tgG tuK1 1) * G2 tuK1 = tuK3; rw [G2_eq, G2_eq, g1, Rg.mul_comm]; exact S12.tu_3
  have g3 : tgG tuK1 3 = tuK4 := by show G2 (tgG tuK1 2) * G2 tuK1 = tuK4; rw [G2_eq, G2_eq, g2', Rg.mul_comm]; exact S12.tu_4
  have g4 : tgG tuK1 4 = tuK5 := by show G2 (tgG tuK1 3) * G2 tuK1 = tuK5; rw [G2_eq, G2_eq, g3, Rg.mul_comm]; exact S12.tu_5
  rw [t0]
  simp only [G2_eq, g0, g1, g2', g3, g4]
  exact ⟨lt_vF _, lt_vF _, ha0, ha1, lt_vF _, lt_vF _, hl, zlt, hl, zlt, lt_vF _, lt_vF _, ha2, ha3, lt_vF _, lt_vF _, lt_vF _, lt_vF _, lt_vF _, lt_vF _, lt_vF _, lt_vF _, ha4, ha5, lt_vF _, lt_vF _, lt_vF _, lt_vF _, lt_vF _, lt_vF _, lt_vF _, lt_vF _, ha6, ha7, lt_vF _, lt_vF _, lt_vF _, lt_vF _, lt_vF _, lt_vF _, lt_vF _, lt_vF _, ha8, ha9, lt_vF _, lt_vF _, lt_vF _, lt_vF _, lt_vF _, lt_vF _, lt_vF _, lt_vF _, ha10, ha11, lt_vF _, lt_vF _, lt_vF _, lt_vF _, lt_vF _, lt_vF _, lt_vF _, lt_vF _, _, rfl, fun _ => rfl⟩
theorem okDTurn : (CallC.pure (dd1 S12.turn)).Ok Try.prog 84 := okDTurn_of okPower2 (by rw [G2_eq, nv_tE]; exact kx_pow)
end Go.Proofs.Ytkmfiefnaeikdaa

/- The document's turns and inverses; what is whole. Printed by gend12.py. -/
namespace Go.Proofs.Ytkmfiefnaeikdaa
open Go.Rq Go
set_option maxRecDepth 100000
set_option linter.unusedVariables false

theorem cr_fx {α : Type} [CR α] {a t : α} (e : a * t = a) : a * (t - 1) = 0 := by grind
theorem cr_fy {α : Type} [CR α] {y : α} (e : 0 - y = y) : y + y = 0 := by grind
theorem cr_pt {α : Type} [CR α] (a b c : α) : a * b * c = a * c * b := by grind
theorem cr_uq2 {α : Type} [CR α] {a b s : α} (h : a * s = 1) (k : s * b = 1) : a = b := by
  have : a = a * (s * b) := by rw [k, Rg.mul_one]
  rw [this, ← Rg.mul_assoc, h, Rg.one_mul]

/-! Frob -/
def cDFrob : List AV → Option (List Prop × AV)
  | [.v1 (.agg [.ws .u64 6 a0, .ws .u64 6 a1, .ws .u64 6 a2, .ws .u64 6 a3, .ws .u64 6 a4, .ws .u64 6 a5, .ws .u64 6 a6, .ws .u64 6 a7, .ws .u64 6 a8, .ws .u64 6 a9, .ws .u64 6 a10, .ws .u64 6 a11]), .v1 (.sc (.it n))] => some ([nv a0 < pN, nv a1 < pN, nv a2 < pN, nv a3 < pN, nv a4 < pN, nv a5 < pN, nv a6 < pN, nv a7 < pN, nv a8 < pN, nv a9 < pN, nv a10 < pN, nv a11 < pN], .v1 (n12 (S12.turns (mq n) (g12 a0 a1 a2 a3 a4 a5 a6 a7 a8 a9 a10 a11))))
  | _ => none
def GFd : Ctx := ctxL [(84, .pure (dd1 S12.turn))]
theorem GFd_ok : CtxOk Try.prog GFd := ctxL_cons okDTurn ctxL_nil
def VFd (k : Nat) : List AV := [iv (Int.ofNat k), pt 0 0, pt 1 0]
def HFd (g : Nat → Nat → Nat) : Heap := [bE12 g, bE12 zz12]
structure InvFd (z : S12) (m : Nat) (d : Nat × (Nat → Nat → Nat)) : Prop where
  hk : d.1 ≤ m
  hg : LtN 12 d.2
  hd : gv d.2 = S12.turns (m - d.1) z
theorem frob_walk {z : S12} {a : Nat → Nat → Nat} {n : Int} (la : LtN 12 a) (hz : gv a = z) {hs : List Hint} {pre : List Prop}
    (hm : mq n < 12)
    (st : evS Try.prog tt GFd 100 (preL (flatC (bodyOf Try.f40))) (fun e s _ => StartE [1,2,4] 18 2 (fun x : {x // InvFd z (mq n) x} => VFd x.1.1) (fun x => HFd x.1.2) (FEnd' tt Try.f40 (.v1 (n12 (S12.turns (mq n) z)))) e s) ⟨frame0 [.v1 (.agg (cs12 a)), .v1 (.sc (.it n))] Try.f40.ntmps, []⟩ hs) :
    AWqS Try.prog (fun _ => False) (flatC (bodyOf Try.f40)) (FEnd' tt Try.f40 (.v1 (n12 (S12.turns (mq n) z)))) ⟨frame0 [.v1 (.agg (cs12 a)), .v1 (.sc (.it n))] Try.f40.ntmps, []⟩ := by
  refine loopF mixed tt_ok GFd_ok (by kernel_rfl) (ι := {x // InvFd z (mq n) x}) [1,2,4] 18 2 (fun x => VFd x.1.1) (fun x => HFd x.1.2) (fun x => x.1.1) (fun x => x.1.1 = 0)
    (fun _ => rfl) (fun _ => by kernel_rfl) (fun _ _ h => h.elim) 100 hs st ?_ ?_
  · intro ⟨⟨k, g⟩, ⟨hk, hg, hd⟩⟩ junk
    simp only at hk hg hd
    cases k with
    | zero =>
      refine roundF mixed tt_ok GFd_ok 60 [] ?_
      refine same (p := true = true ∧ ∃ j : {x // InvFd z (mq n) x}, j.1.1 = 0 ∧ VFd 0 = VFd j.1.1 ∧ HFd g = HFd j.1.2) ?_ (by kernel_rfl)
      exact ⟨rfl, ⟨(0, g), hk, hg, hd⟩, rfl, rfl, rfl⟩
    | succ k =>
      have hgt : ilt 0 (Int.ofNat (k + 1)) = true := by rw [ilt_iff]; simp only [Int.ofNat_eq_natCast]; omega
      have hs : wrapI (Int.ofNat (k + 1) - 1) = Int.ofNat k := by
        have : Int.ofNat (k + 1) - 1 = Int.ofNat k := by simp only [Int.ofNat_eq_natCast]; omega
        rw [this]; exact wrapI_small (by omega)
      refine roundF mixed tt_ok GFd_ok 100 [⟨4,1,.lit (.bo true)⟩,⟨5,1,.lit (.it (Int.ofNat k))⟩] ?_
      refine same (p := ilt 0 (Int.ofNat (k + 1)) = true ∧ nv (g 0) < pN ∧ nv (g 1) < pN ∧ nv (g 2) < pN ∧ nv (g 3) < pN ∧ nv (g 4) < pN ∧ nv (g 5) < pN ∧ nv (g 6) < pN ∧ nv (g 7) < pN ∧ nv (g 8) < pN ∧ nv (g 9) < pN ∧ nv (g 10) < pN ∧ nv (g 11) < pN ∧ wrapI (Int.ofNat (k + 1) - 1) = Int.ofNat k ∧ true = true ∧
        ∃ j : {x // InvFd z (mq n) x}, j.1.1 < k + 1 ∧ VFd k = VFd j.1.1 ∧ HFd (nG12 (S12.turn (gv g))) = HFd j.1.2) ?_ (by kernel_rfl)
      refine ⟨hgt, hg 0 (by decide), hg 1 (by decide), hg 2 (by decide), hg 3 (by decide), hg 4 (by decide), hg 5 (by decide), hg 6 (by decide), hg 7 (by decide), hg 8 (by decide), hg 9 (by decide), hg 10 (by decide), hg 11 (by decide), hs, rfl, ⟨(k, nG12 (S12.turn (gv g))), by simp only; omega, nG12_lt _, ?_⟩, by simp only; omega, rfl, rfl⟩
      rw [gv_n, hd, show mq n - k = (mq n - (k + 1)) + 1 by omega]
      rfl
  · intro ⟨⟨k, g⟩, ⟨hk, hg, hd⟩⟩ junk h0
    simp only at hk hg hd h0
    subst h0
    refine same (p := endN (.v1 (.agg (cs12 g))) (.v1 (n12 (S12.turns (mq n) z)))) ?_ (by kernel_rfl)
    rw [Nat.sub_zero] at hd
    rw [← hd]
    exact ⟨_, rfl, v12_val (v12K (hg 0 (by decide))) (v12K (hg 1 (by decide))) (v12K (hg 2 (by decide))) (v12K (hg 3 (by decide))) (v12K (hg 4 (by decide))) (v12K (hg 5 (by decide))) (v12K (hg 6 (by decide))) (v12K (hg 7 (by decide))) (v12K (hg 8 (by decide))) (v12K (hg 9 (by decide))) (v12K (hg 10 (by decide))) (v12K (hg 11 (by decide)))⟩
theorem mq_neg {n : Int} (h : n.tmod 12 < 0) : wrapI (n.tmod 12 + 12) = Int.ofNat (mq n) := by
  have h2 := tmod_low n
  unfold mq
  rw [wrapI_id (by omega) (by omega), Int.tmod_eq_emod_of_nonneg (a := n.tmod 12 + 12) (by omega)]
  simp only [Int.ofNat_eq_natCast]
  omega
theorem mq_pos {n : Int} (h : ¬ n.tmod 12 < 0) : n.tmod 12 = Int.ofNat (mq n) := by
  have h1 := Int.tmod_lt_of_pos n (show (0 : Int) < 12 by omega)
  unfold mq
  rw [Int.tmod_eq_emod_of_nonneg (a := n.tmod 12 + 12) (by omega)]
  simp only [Int.ofNat_eq_natCast]
  omega
theorem okDFrob : (CallC.pure cDFrob).Ok Try.prog 40 := by
  intro args pre v e hp
  unfold cDFrob at e
  split at e
  · rename_i a0 a1 a2 a3 a4 a5 a6 a7 a8 a9 a10 a11 n
    cases e
    have ha0 : nv a0 < pN := hp _ (by simp)
    have ha1 : nv a1 < pN := hp _ (by simp)
    have ha2 : nv a2 < pN := hp _ (by simp)
    have ha3 : nv a3 < pN := hp _ (by simp)
    have ha4 : nv a4 < pN := hp _ (by simp)
    have ha5 : nv a5 < pN := hp _ (by simp)
    have ha6 : nv a6 < pN := hp _ (by simp)
    have ha7 : nv a7 < pN := hp _ (by simp)
    have ha8 : nv a8 < pN := hp _ (by simp)
    have ha9 : nv a9 < pN := hp _ (by simp)
    have ha10 : nv a10 < pN := hp _ (by simp)
    have ha11 : nv a11 < pN := hp _ (by simp)
    refine pure_walk' tt_ok Try.func40 (by kernel_rfl) (by kernel_rfl) (by rfl) (by rfl) ?_
    obtain ⟨a, ea⟩ : ∃ a, a = of12 a0 a1 a2 a3 a4 a5 a6 a7 a8 a9 a10 a11 := ⟨_, rfl⟩
    have la : LtN 12 a := by rw [ea]; exact lt_of12 ha0 ha1 ha2 ha3 ha4 ha5 ha6 ha7 ha8 ha9 ha10 ha11
    have da : g12 a0 a1 a2 a3 a4 a5 a6 a7 a8 a9 a10 a11 = gv a := by rw [ea]; rfl
    have ca : (AV.v1 (.agg [.ws .u64 6 a0, .ws .u64 6 a1, .ws .u64 6 a2, .ws .u64 6 a3, .ws .u64 6 a4, .ws .u64 6 a5, .ws .u64 6 a6, .ws .u64 6 a7, .ws .u64 6 a8, .ws .u64 6 a9, .ws .u64 6 a10, .ws .u64 6 a11])) = .v1 (.agg (cs12 a)) := by rw [ea]; rfl
    rw [da, ca]
    have inv : InvFd (gv a) (mq n) (mq n, a) := ⟨Nat.le_refl _, la, by simp only; rw [Nat.sub_self]; rfl⟩
    by_cases hneg : n.tmod 12 < 0
    · refine frob_walk (hs := [⟨2,1,.lit (.bo true)⟩,⟨3,1,.lit (.it (Int.ofNat (mq n)))⟩]) (pre := []) la rfl (mq_lt n) ?_
      refine same (p := ilt (n.tmod 12) 0 = true ∧ wrapI (n.tmod 12 + 12) = Int.ofNat (mq n) ∧ true = true ∧ ∃ j : {x // InvFd (gv a) (mq n) x}, VFd (mq n) = VFd j.1.1 ∧ HFd a = HFd j.1.2) ?_ (by kernel_rfl)
      exact ⟨by rw [ilt_iff]; exact hneg, mq_neg hneg, rfl, ⟨_, inv⟩, rfl, rfl⟩
    · refine frob_walk (hs := [⟨1,1,.lit (.it (Int.ofNat (mq n)))⟩,⟨2,1,.lit (.bo false)⟩]) (pre := []) la rfl (mq_lt n) ?_
      refine same (p := n.tmod 12 = Int.ofNat (mq n) ∧ ilt (Int.ofNat (mq n)) 0 = false ∧ true = true ∧ ∃ j : {x // InvFd (gv a) (mq n) x}, VFd (mq n) = VFd j.1.1 ∧ HFd a = HFd j.1.2) ?_ (by kernel_rfl)
      exact ⟨mq_pos hneg, ilt_nn' _, rfl, ⟨_, inv⟩, rfl, rfl⟩
  · cases e

/-! Inv -/
def prT (s : S12) : Nat → S12
  | 0 => 1
  | j + 1 => prT s j * S12.turns (j + 1) s
def S12.c1 (x : Fp) : S12 := S12.c (F2p.c x)
theorem fixed {z : S12} (h : S12.turn z = z) : ∃ x, z = S12.c1 x := by
  have h2 : S12.tw2 z = z := by rw [← S12.two_turn, h, h]
  have k : ∀ a t : F2p, a * S12.sk t = a → S12.sk t - 1 ≠ 0 → a = 0 := fun a t e n => (F2p.dom (cr_fx e)).resolve_right n
  have n1 : S12.sk tuK1 - 1 ≠ 0 := fun e => absurd (congrArg (fun q : F2p => q.x.val) e) (by decide)
  have n2 : S12.sk tuK2 - 1 ≠ 0 := fun e => absurd (congrArg (fun q : F2p => q.x.val) e) (by decide)
  have n3 : S12.sk tuK3 - 1 ≠ 0 := fun e => absurd (congrArg (fun q : F2p => q.x.val) e) (by decide)
  have n4 : S12.sk tuK4 - 1 ≠ 0 := fun e => absurd (congrArg (fun q : F2p => q.x.val) e) (by decide)
  have n5 : S12.sk tuK5 - 1 ≠ 0 := fun e => absurd (congrArg (fun q : F2p => q.x.val) e) (by decide)
  have q1 := k _ _ (congrArg (fun s : S12 => s.q.u) h2) n1
  have q2 := k _ _ (congrArg (fun s : S12 => s.p.v) h2) n2
  have q3 := k _ _ (congrArg (fun s : S12 => s.q.v) h2) n3
  have q4 := k _ _ (congrArg (fun s : S12 => s.p.w) h2) n4
  have q5 := k _ _ (congrArg (fun s : S12 => s.q.w) h2) n5
  have h0 : z.p.u.cj * tuK0 = z.p.u := congrArg (fun s : S12 => s.p.u) h
  rw [S12.tu_0, Rg.mul_one] at h0
  have hy : 0 - z.p.u.y = z.p.u.y := congrArg F2p.y h0
  have y0 : z.p.u.y = 0 := Classical.byContradiction fun hne => two_ne hne (cr_fy hy)
  exact ⟨z.p.u.x, S12.ext (S6.ext (F2p.ext rfl y0) q2 q4) (S6.ext q1 q3 q5)⟩
theorem prT_turn (s : S12) : ∀ j, S12.turn (prT s j * s) = prT s j * S12.turns (j + 1) s
  | 0 => by
    show S12.turn (1 * s) = 1 * S12.turn s
    rw [Rg.one_mul, Rg.one_mul]
  | j + 1 => by
    show S12.turn (prT s j * S12.turns (j + 1) s * s) = prT s j * S12.turns (j + 1) s * S12.turn (S12.turns (j + 1) s)
    have e : prT s j * S12.turns (j + 1) s * s = prT s j * s * S12.turns (j + 1) s := cr_pt _ _ _
    rw [e, S12.turn_mul, prT_turn s j]
theorem norm_fixed (s : S12) : S12.turn (prT s 11 * s) = prT s 11 * s := by
  rw [prT_turn s 11, S12.turns_twelve]
theorem pow_ne {s : S12} (h : s ≠ 0) : ∀ n : Nat, s ^ n ≠ 0 := fun n => by
  induction n with
  | zero => rw [Rg.pow_zero]; exact fun e => one_ne_0 (congrArg (fun q : S12 => q.p.u.x) e)
  | succ n ih => rw [Rg.pow_succ]; exact fun e => by rcases S12.dom e with e | e <;> contradiction
theorem turn_ne {s : S12} (h : s ≠ 0) : S12.turn s ≠ 0 := by
  have hp := pow_ne h pN
  rw [S12.frob] at hp
  exact hp
theorem turns_ne {s : S12} (h : s ≠ 0) : ∀ n, S12.turns n s ≠ 0
  | 0 => h
  | n + 1 => turn_ne (turns_ne h n)
theorem prT_ne {s : S12} (h : s ≠ 0) : ∀ j, prT s j ≠ 0
  | 0 => fun e => one_ne_0 (congrArg (fun q : S12 => q.p.u.x) e)
  | j + 1 => fun e => by rcases S12.dom e with e | e; exact prT_ne h j e; exact turns_ne h _ e
theorem c1_mul (x y : Fp) : S12.c1 x * S12.c1 y = S12.c1 (x * y) := by unfold S12.c1; rw [← S12.c_mul, ← F2p.c_mul]
/-- The document's inverse is the inverse. -/
theorem inv_doc {s : S12} (h : s ≠ 0) : S12.scal (F2p.c ((prT s 11 * s).p.u.x ^ (pN - 2))) (prT s 11) = S12.inv' s := by
  obtain ⟨x, hx⟩ := fixed (norm_fixed s)
  have hx0 : x ≠ 0 := fun e => by
    have : prT s 11 * s = 0 := by rw [hx, e]; rfl
    rcases S12.dom this with e | e
    · exact prT_ne h 11 e
    · exact h e
  have hn : (prT s 11 * s).p.u.x = x := by rw [hx]; rfl
  rw [hn, ← S12.c_scal]
  have h1 : S12.c (F2p.c (x ^ (pN - 2))) * prT s 11 * s = 1 := by
    rw [Rg.mul_assoc, hx]
    show S12.c1 _ * S12.c1 x = 1
    rw [c1_mul, Rg.mul_comm (x ^ (pN - 2)), fp_inv hx0]; rfl
  have h2 := S12.mul_inv h
  exact cr_uq2 h1 h2
def cDInv (D : Nat) : List AV → Option (List Prop × AV)
  | [.v1 (.agg [.ws .u64 6 a0, .ws .u64 6 a1, .ws .u64 6 a2, .ws .u64 6 a3, .ws .u64 6 a4, .ws .u64 6 a5, .ws .u64 6 a6, .ws .u64 6 a7, .ws .u64 6 a8, .ws .u64 6 a9, .ws .u64 6 a10, .ws .u64 6 a11])] => some ([nv a0 < pN, nv a1 < pN, nv a2 < pN, nv a3 < pN, nv a4 < pN, nv a5 < pN, nv a6 < pN, nv a7 < pN, nv a8 < pN, nv a9 < pN, nv a10 < pN, nv a11 < pN], .v1 (n12 (S12.scal (F2p.c ((prT (g12 a0 a1 a2 a3 a4 a5 a6 a7 a8 a9 a10 a11) 11 * g12 a0 a1 a2 a3 a4 a5 a6 a7 a8 a9 a10 a11).p.u.x ^ (pN - 2))) (prT (g12 a0 a1 a2 a3 a4 a5 a6 a7 a8 a9 a10 a11) 11))))
  | _ => none
def VDv (k : Nat) : List AV := [pt 0 0, pt 1 0, pt 3 0, pt 4 0, iv (Int.ofNat k)]
def HDv (a o x : Nat → Nat → Nat) : Heap := [bE12 a, bE12 zz12, none, bE12 o, bE12 x]
structure DvD where
  k : Nat
  o : Nat → Nat → Nat
  x : Nat → Nat → Nat
structure InvDv (s : S12) (d : DvD) : Prop where
  hk : d.k ≤ 11
  lo : LtN 12 d.o
  lx : LtN 12 d.x
  ho : gv d.o = prT s d.k
  hx : gv d.x = S12.turns d.k s
def GDv : Ctx := ctxL [(84, .pure (dd1 S12.turn)), (36, .pure (dd2 S12.mul)), (30, .pure (c12 (n12 1))), (50, .pure cP), (75, .pure (f1 fun x => x ^ (pN - 2))), (19, .pure (d2 (· * ·)))]
theorem GDv_ok : CtxOk Try.prog GDv := ctxL_cons okDTurn <| ctxL_cons okD12Mul <| ctxL_cons okD12One <| ctxL_cons okP <| ctxL_cons okFInv <| ctxL_cons okD2Mul ctxL_nil
theorem okDInv : (CallC.pure (cDInv 0)).Ok Try.prog 46 := by
  intro args pre v e hp
  unfold cDInv at e
  split at e
  · rename_i a0 a1 a2 a3 a4 a5 a6 a7 a8 a9 a10 a11
    cases e
    have ha0 : nv a0 < pN := hp _ (by simp)
    have ha1 : nv a1 < pN := hp _ (by simp)
    have ha2 : nv a2 < pN := hp _ (by simp)
    have ha3 : nv a3 < pN := hp _ (by simp)
    have ha4 : nv a4 < pN := hp _ (by simp)
    have ha5 : nv a5 < pN := hp _ (by simp)
    have ha6 : nv a6 < pN := hp _ (by simp)
    have ha7 : nv a7 < pN := hp _ (by simp)
    have ha8 : nv a8 < pN := hp _ (by simp)
    have ha9 : nv a9 < pN := hp _ (by simp)
    have ha10 : nv a10 < pN := hp _ (by simp)
    have ha11 : nv a11 < pN := hp _ (by simp)
    refine pure_walk' tt_ok Try.func46 (by kernel_rfl) (by kernel_rfl) (by rfl) (by rfl) ?_
    obtain ⟨a, ea⟩ : ∃ a, a = of12 a0 a1 a2 a3 a4 a5 a6 a7 a8 a9 a10 a11 := ⟨_, rfl⟩
    have la : LtN 12 a := by rw [ea]; exact lt_of12 ha0 ha1 ha2 ha3 ha4 ha5 ha6 ha7 ha8 ha9 ha10 ha11
    have da : g12 a0 a1 a2 a3 a4 a5 a6 a7 a8 a9 a10 a11 = gv a := by rw [ea]; rfl
    have ca : (AV.v1 (.agg [.ws .u64 6 a0, .ws .u64 6 a1, .ws .u64 6 a2, .ws .u64 6 a3, .ws .u64 6 a4, .ws .u64 6 a5, .ws .u64 6 a6, .ws .u64 6 a7, .ws .u64 6 a8, .ws .u64 6 a9, .ws .u64 6 a10, .ws .u64 6 a11])) = .v1 (.agg (cs12 a)) := by rw [ea]; rfl
    rw [da, ca]
    refine loopK mixed tt_ok GDv_ok 0 (by kernel_rfl) (ι := {x // InvDv (gv a) x}) [1,2,3,4,5] 42 5 (fun x => VDv x.1.k) (fun x => HDv a x.1.o x.1.x) (fun x => 11 - x.1.k) (fun x => x.1.k = 11)
      (fun _ => rfl) (fun _ => by kernel_rfl) (fun _ _ h => h.elim) 100 [] ?_ ?_ ?_
    · refine same (p := true = true ∧ ∃ j : {x // InvDv (gv a) x}, VDv 0 = VDv j.1.k ∧ HDv a (nG12 1) a = HDv a j.1.o j.1.x) ?_ (by kernel_rfl)
      exact ⟨rfl, ⟨⟨0, nG12 1, a⟩, by simp, nG12_lt 1, la, gv_n 1, rfl⟩, rfl, rfl⟩
    · intro ⟨⟨k, o, x⟩, ⟨hk, lo, lx, ho, hx⟩⟩ junk
      simp only at hk lo lx ho hx
      by_cases hlt : k < 11
      · have hge : ilt (Int.ofNat k) 11 = true := by rw [ilt_iff]; simp only [Int.ofNat_eq_natCast]; omega
        have hs : wrapI (Int.ofNat k + 1) = Int.ofNat (k + 1) := wrapI_succ (by omega)
        refine roundF mixed tt_ok GDv_ok 200 [⟨4,1,.lit (.bo true)⟩,⟨5,1,.lit (.it (Int.ofNat (k + 1)))⟩] ?_
        refine same (p := ilt (Int.ofNat k) 11 = true ∧ nv (x 0) < pN ∧ nv (x 1) < pN ∧ nv (x 2) < pN ∧ nv (x 3) < pN ∧ nv (x 4) < pN ∧ nv (x 5) < pN ∧ nv (x 6) < pN ∧ nv (x 7) < pN ∧ nv (x 8) < pN ∧ nv (x 9) < pN ∧ nv (x 10) < pN ∧ nv (x 11) < pN ∧ nv (o 0) < pN ∧ nv (o 1) < pN ∧ nv (o 2) < pN ∧ nv (o 3) < pN ∧ nv (o 4) < pN ∧ nv (o 5) < pN ∧ nv (o 6) < pN ∧ nv (o 7) < pN ∧ nv (o 8) < pN ∧ nv (o 9) < pN ∧ nv (o 10) < pN ∧ nv (o 11) < pN ∧ nv (vF (S12.turn (gv x)).p.u.x) < pN ∧ nv (vF (S12.turn (gv x)).p.u.y) < pN ∧ nv (vF (S12.turn (gv x)).q.u.x) < pN ∧ nv (vF (S12.turn (gv x)).q.u.y) < pN ∧ nv (vF (S12.turn (gv x)).p.v.x) < pN ∧ nv (vF (S12.turn (gv x)).p.v.y) < pN ∧ nv (vF (S12.turn (gv x)).q.v.x) < pN ∧ nv (vF (S12.turn (gv x)).q.v.y) < pN ∧ nv (vF (S12.turn (gv x)).p.w.x) < pN ∧ nv (vF (S12.turn (gv x)).p.w.y) < pN ∧ nv (vF (S12.turn (gv x)).q.w.x) < pN ∧ nv (vF (S12.turn (gv x)).q.w.y) < pN ∧ wrapI (Int.ofNat k + 1) = Int.ofNat (k + 1) ∧ true = true ∧
          ∃ j : {x // InvDv (gv a) x}, 11 - j.1.k < 11 - k ∧ VDv (k + 1) = VDv j.1.k ∧ HDv a (nG12 (S12.mul (gv o) (G12 (S12.turn (gv x))))) (nG12 (S12.turn (gv x))) = HDv a j.1.o j.1.x) ?_ (by kernel_rfl)
        refine ⟨hge, lx 0 (by decide), lx 1 (by decide), lx 2 (by decide), lx 3 (by decide), lx 4 (by decide), lx 5 (by decide), lx 6 (by decide), lx 7 (by decide), lx 8 (by decide), lx 9 (by decide), lx 10 (by decide), lx 11 (by decide), lo 0 (by decide), lo 1 (by decide), lo 2 (by decide), lo 3 (by decide), lo 4 (by decide), lo 5 (by decide), lo 6 (by decide), lo 7 (by decide), lo 8 (by decide), lo 9 (by decide), lo 10 (by decide), lo 11 (by decide), lt_vF _, lt_vF _, lt_vF _, lt_vF _, lt_vF _, lt_vF _, lt_vF _, lt_vF _, lt_vF _, lt_vF _, lt_vF _, lt_vF _, hs, rfl, ⟨⟨k + 1, nG12 (S12.mul (gv o) (G12 (S12.turn (gv x)))), nG12 (S12.turn (gv x))⟩, by simp only; omega, nG12_lt _, nG12_lt _, ?_, ?_⟩, by simp only; omega, rfl, rfl⟩
        · simp only; rw [gv_n, G12_eq, S12.mul_eq, ho, hx]; rfl
        · simp only; rw [gv_n, hx]; rfl
      · have hge : ilt (Int.ofNat k) 11 = false := by rw [← Bool.not_eq_true, ilt_iff]; simp only [Int.ofNat_eq_natCast]; omega
        refine roundF mixed tt_ok GDv_ok 100 [⟨4,1,.lit (.bo false)⟩] ?_
        refine same (p := ilt (Int.ofNat k) 11 = false ∧ true = true ∧ ∃ j : {x // InvDv (gv a) x}, j.1.k = 11 ∧ VDv k = VDv j.1.k ∧ HDv a o x = HDv a j.1.o j.1.x) ?_ (by kernel_rfl)
        exact ⟨hge, rfl, ⟨⟨k, o, x⟩, hk, lo, lx, ho, hx⟩, by simp only; omega, rfl, rfl⟩
    · intro ⟨⟨k, o, x⟩, ⟨hk, lo, lx, ho, hx⟩⟩ junk h11
      simp only at hk lo lx ho hx h11
      subst h11
      refine evS_q mixed tt_ok GDv_ok 300 [] ?_
      refine same (p := nv (o 0) < pN ∧ nv (o 1) < pN ∧ nv (o 2) < pN ∧ nv (o 3) < pN ∧ nv (o 4) < pN ∧ nv (o 5) < pN ∧ nv (o 6) < pN ∧ nv (o 7) < pN ∧ nv (o 8) < pN ∧ nv (o 9) < pN ∧ nv (o 10) < pN ∧ nv (o 11) < pN ∧ nv (a 0) < pN ∧ nv (a 1) < pN ∧ nv (a 2) < pN ∧ nv (a 3) < pN ∧ nv (a 4) < pN ∧ nv (a 5) < pN ∧ nv (a 6) < pN ∧ nv (a 7) < pN ∧ nv (a 8) < pN ∧ nv (a 9) < pN ∧ nv (a 10) < pN ∧ nv (a 11) < pN ∧ FOk primeF 9940570264628428797 wideF ∧ nv (vF (S12.mul (gv o) (gv a)).p.u.x) < pN ∧ nv (o 0) < pN ∧ nv (o 1) < pN ∧ nv (vF (gN (vF (S12.mul (gv o) (gv a)).p.u.x) ^ (pN - 2))) < pN ∧ nv (fun _ => 0) < pN ∧ nv (o 2) < pN ∧ nv (o 3) < pN ∧ nv (vF (gN (vF (S12.mul (gv o) (gv a)).p.u.x) ^ (pN - 2))) < pN ∧ nv (fun _ => 0) < pN ∧ nv (o 4) < pN ∧ nv (o 5) < pN ∧ nv (vF (gN (vF (S12.mul (gv o) (gv a)).p.u.x) ^ (pN - 2))) < pN ∧ nv (fun _ => 0) < pN ∧ nv (o 6) < pN ∧ nv (o 7) < pN ∧ nv (vF (gN (vF (S12.mul (gv o) (gv a)).p.u.x) ^ (pN - 2))) < pN ∧ nv (fun _ => 0) < pN ∧ nv (o 8) < pN ∧ nv (o 9) < pN ∧ nv (vF (gN (vF (S12.mul (gv o) (gv a)).p.u.x) ^ (pN - 2))) < pN ∧ nv (fun _ => 0) < pN ∧ nv (o 10) < pN ∧ nv (o 11) < pN ∧ nv (vF (gN (vF (S12.mul (gv o) (gv a)).p.u.x) ^ (pN - 2))) < pN ∧ nv (fun _ => 0) < pN ∧ endN (.v1 (v12 (vF (tv o 0 * g2 (vF (gN (vF (S12.mul (gv o) (gv a)).p.u.x) ^ (pN - 2))) (fun _ => 0)).x) (vF (tv o 0 * g2 (vF (gN (vF (S12.mul (gv o) (gv a)).p.u.x) ^ (pN - 2))) (fun _ => 0)).y) (vF (tv o 1 * g2 (vF (gN (vF (S12.mul (gv o) (gv a)).p.u.x) ^ (pN - 2))) (fun _ => 0)).x) (vF (tv o 1 * g2 (vF (gN (vF (S12.mul (gv o) (gv a)).p.u.x) ^ (pN - 2))) (fun _ => 0)).y) (vF (tv o 2 * g2 (vF (gN (vF (S12.mul (gv o) (gv a)).p.u.x) ^ (pN - 2))) (fun _ => 0)).x) (vF (tv o 2 * g2 (vF (gN (vF (S12.mul (gv o) (gv a)).p.u.x) ^ (pN - 2))) (fun _ => 0)).y) (vF (tv o 3 * g2 (vF (gN (vF (S12.mul (gv o) (gv a)).p.u.x) ^ (pN - 2))) (fun _ => 0)).x) (vF (tv o 3 * g2 (vF (gN (vF (S12.mul (gv o) (gv a)).p.u.x) ^ (pN - 2))) (fun _ => 0)).y) (vF (tv o 4 * g2 (vF (gN (vF (S12.mul (gv o) (gv a)).p.u.x) ^ (pN - 2))) (fun _ => 0)).x) (vF (tv o 4 * g2 (vF (gN (vF (S12.mul (gv o) (gv a)).p.u.x) ^ (pN - 2))) (fun _ => 0)).y) (vF (tv o 5 * g2 (vF (gN (vF (S12.mul (gv o) (gv a)).p.u.x) ^ (pN - 2))) (fun _ => 0)).x) (vF (tv o 5 * g2 (vF (gN (vF (S12.mul (gv o) (gv a)).p.u.x) ^ (pN - 2))) (fun _ => 0)).y))) (.v1 (n12 (S12.scal (F2p.c ((prT (gv a) 11 * gv a).p.u.x ^ (pN - 2))) (prT (gv a) 11))))) ?_ (by kernel_rfl)
      have hI : g2 (vF (gN (vF (S12.mul (gv o) (gv a)).p.u.x) ^ (pN - 2))) (fun _ => 0) = F2p.c ((prT (gv a) 11 * gv a).p.u.x ^ (pN - 2)) := by
        refine F2p.ext ?_ gN_z
        show gN (vF (gN (vF (S12.mul (gv o) (gv a)).p.u.x) ^ (pN - 2))) = (prT (gv a) 11 * gv a).p.u.x ^ (pN - 2)
        rw [gN_vF, gN_vF, S12.mul_eq, ho]
      rw [hI, ← ho]
      generalize (F2p.c (((gv o) * gv a).p.u.x ^ (pN - 2))) = d
      have hm : ∀ j, tv o j * d = d * tv o j := fun j => Rg.mul_comm _ _
      simp only [hm]
      exact ⟨lo 0 (by decide), lo 1 (by decide), lo 2 (by decide), lo 3 (by decide), lo 4 (by decide), lo 5 (by decide), lo 6 (by decide), lo 7 (by decide), lo 8 (by decide), lo 9 (by decide), lo 10 (by decide), lo 11 (by decide), la 0 (by decide), la 1 (by decide), la 2 (by decide), la 3 (by decide), la 4 (by decide), la 5 (by decide), la 6 (by decide), la 7 (by decide), la 8 (by decide), la 9 (by decide), la 10 (by decide), la 11 (by decide), pOk, lt_vF _, lo 0 (by decide), lo 1 (by decide), lt_vF _, zlt, lo 2 (by decide), lo 3 (by decide), lt_vF _, zlt, lo 4 (by decide), lo 5 (by decide), lt_vF _, zlt, lo 6 (by decide), lo 7 (by decide), lt_vF _, zlt, lo 8 (by decide), lo 9 (by decide), lt_vF _, zlt, lo 10 (by decide), lo 11 (by decide), lt_vF _, zlt, _, rfl, fun _ => rfl⟩
  · cases e
end Go.Proofs.Ytkmfiefnaeikdaa

/- What is whole, by the document's numbers. Printed by gend13.py. -/
namespace Go.Proofs.Ytkmfiefnaeikdaa
open Go.Rq Go
set_option maxRecDepth 100000
set_option linter.unusedVariables false
set_option linter.unusedSimpArgs false

def GDw : Ctx := ctxL [(87, .pure (cK primeF)), (86, .pure cCmp)]
theorem GDw_ok : CtxOk Try.prog GDw := ctxL_cons okBaseD <| ctxL_cons okCmp' ctxL_nil
theorem okDWhole : (CallC.pure cTWhole).Ok Try.prog 42 := by
  intro args pre v e _
  unfold cTWhole at e
  split at e
  · rename_i a0 a1 a2 a3 a4 a5 a6 a7 a8 a9 a10 a11
    cases e
    refine pure_walk' tt_ok Try.func42 (by kernel_rfl) (by kernel_rfl) (by rfl) (by rfl) ?_
    by_cases h0 : nv a0 < pN
    · skip
      by_cases h1 : nv a1 < pN
      · skip
        by_cases h2 : nv a2 < pN
        · skip
          by_cases h3 : nv a3 < pN
          · skip
            by_cases h4 : nv a4 < pN
            · skip
              by_cases h5 : nv a5 < pN
              · skip
                by_cases h6 : nv a6 < pN
                · skip
                  by_cases h7 : nv a7 < pN
                  · skip
                    by_cases h8 : nv a8 < pN
                    · skip
                      by_cases h9 : nv a9 < pN
                      · skip
                        by_cases h10 : nv a10 < pN
                        · skip
                          by_cases h11 : nv a11 < pN
                          · skip
                            have hw : whL [a0, a1, a2, a3, a4, a5, a6, a7, a8, a9, a10, a11] = true := by rw [whL_t h0, whL_t h1, whL_t h2, whL_t h3, whL_t h4, whL_t h5, whL_t h6, whL_t h7, whL_t h8, whL_t h9, whL_t h10, whL_t h11]; rfl
                            rw [hw]
                            refine evS_q mixed tt_ok GDw_ok 200 [⟨7,7,.lit (.bo false)⟩, ⟨7,7,.lit (.bo false)⟩, ⟨7,7,.lit (.bo false)⟩, ⟨7,7,.lit (.bo false)⟩, ⟨7,7,.lit (.bo false)⟩, ⟨7,7,.lit (.bo false)⟩, ⟨7,7,.lit (.bo false)⟩, ⟨7,7,.lit (.bo false)⟩, ⟨7,7,.lit (.bo false)⟩, ⟨7,7,.lit (.bo false)⟩, ⟨7,7,.lit (.bo false)⟩, ⟨7,7,.lit (.bo false)⟩] ?_
                            exact same (p := (!ilt (cmpI (nv a0) (nv primeF)) 0) = false ∧ (!ilt (cmpI (nv a1) (nv primeF)) 0) = false ∧ (!ilt (cmpI (nv a2) (nv primeF)) 0) = false ∧ (!ilt (cmpI (nv a3) (nv primeF)) 0) = false ∧ (!ilt (cmpI (nv a4) (nv primeF)) 0) = false ∧ (!ilt (cmpI (nv a5) (nv primeF)) 0) = false ∧ (!ilt (cmpI (nv a6) (nv primeF)) 0) = false ∧ (!ilt (cmpI (nv a7) (nv primeF)) 0) = false ∧ (!ilt (cmpI (nv a8) (nv primeF)) 0) = false ∧ (!ilt (cmpI (nv a9) (nv primeF)) 0) = false ∧ (!ilt (cmpI (nv a10) (nv primeF)) 0) = false ∧ (!ilt (cmpI (nv a11) (nv primeF)) 0) = false ∧ endN (.v1 (.sc (.bo true))) (.v1 (.sc (.bo true)))) ⟨blt_ff h0, blt_ff h1, blt_ff h2, blt_ff h3, blt_ff h4, blt_ff h5, blt_ff h6, blt_ff h7, blt_ff h8, blt_ff h9, blt_ff h10, blt_ff h11, _, rfl, fun _ => rfl⟩ (by kernel_rfl)
                          · skip
                            have hw : whL [a0, a1, a2, a3, a4, a5, a6, a7, a8, a9, a10, a11] = false := by rw [whL_t h0, whL_t h1, whL_t h2, whL_t h3, whL_t h4, whL_t h5, whL_t h6, whL_t h7, whL_t h8, whL_t h9, whL_t h10, whL_f h11]
                            rw [hw]
                            refine evS_q mixed tt_ok GDw_ok 200 [⟨7,7,.lit (.bo false)⟩, ⟨7,7,.lit (.bo false)⟩, ⟨7,7,.lit (.bo false)⟩, ⟨7,7,.lit (.bo false)⟩, ⟨7,7,.lit (.bo false)⟩, ⟨7,7,.lit (.bo false)⟩, ⟨7,7,.lit (.bo false)⟩, ⟨7,7,.lit (.bo false)⟩, ⟨7,7,.lit (.bo false)⟩, ⟨7,7,.lit (.bo false)⟩, ⟨7,7,.lit (.bo false)⟩, ⟨7,7,.lit (.bo true)⟩] ?_
                            exact same (p := (!ilt (cmpI (nv a0) (nv primeF)) 0) = false ∧ (!ilt (cmpI (nv a1) (nv primeF)) 0) = false ∧ (!ilt (cmpI (nv a2) (nv primeF)) 0) = false ∧ (!ilt (cmpI (nv a3) (nv primeF)) 0) = false ∧ (!ilt (cmpI (nv a4) (nv primeF)) 0) = false ∧ (!ilt (cmpI (nv a5) (nv primeF)) 0) = false ∧ (!ilt (cmpI (nv a6) (nv primeF)) 0) = false ∧ (!ilt (cmpI (nv a7) (nv primeF)) 0) = false ∧ (!ilt (cmpI (nv a8) (nv primeF)) 0) = false ∧ (!ilt (cmpI (nv a9) (nv primeF)) 0) = false ∧ (!ilt (cmpI (nv a10) (nv primeF)) 0) = false ∧ (!ilt (cmpI (nv a11) (nv primeF)) 0) = true ∧ endN (.v1 (.sc (.bo false))) (.v1 (.sc (.bo false)))) ⟨blt_ff h0, blt_ff h1, blt_ff h2, blt_ff h3, blt_ff h4, blt_ff h5, blt_ff h6, blt_ff h7, blt_ff h8, blt_ff h9, blt_ff h10, blt_tt h11, _, rfl, fun _ => rfl⟩ (by kernel_rfl)
                        · skip
                          have hw : whL [a0, a1, a2, a3, a4, a5, a6, a7, a8, a9, a10, a11] = false := by rw [whL_t h0, whL_t h1, whL_t h2, whL_t h3, whL_t h4, whL_t h5, whL_t h6, whL_t h7, whL_t h8, whL_t h9, whL_f h10]
                          rw [hw]
                          refine evS_q mixed tt_ok GDw_ok 200 [⟨7,7,.lit (.bo false)⟩, ⟨7,7,.lit (.bo false)⟩, ⟨7,7,.lit (.bo false)⟩, ⟨7,7,.lit (.bo false)⟩, ⟨7,7,.lit (.bo false)⟩, ⟨7,7,.lit (.bo false)⟩, ⟨7,7,.lit (.bo false)⟩, ⟨7,7,.lit (.bo false)⟩, ⟨7,7,.lit (.bo false)⟩, ⟨7,7,.lit (.bo false)⟩, ⟨7,7,.lit (.bo true)⟩] ?_
                          exact same (p := (!ilt (cmpI (nv a0) (nv primeF)) 0) = false ∧ (!ilt (cmpI (nv a1) (nv primeF)) 0) = false ∧ (!ilt (cmpI (nv a2) (nv primeF)) 0) = false ∧ (!ilt (cmpI (nv a3) (nv primeF)) 0) = false ∧ (!ilt (cmpI (nv a4) (nv primeF)) 0) = false ∧ (!ilt (cmpI (nv a5) (nv primeF)) 0) = false ∧ (!ilt (cmpI (nv a6) (nv primeF)) 0) = false ∧ (!ilt (cmpI (nv a7) (nv primeF)) 0) = false ∧ (!ilt (cmpI (nv a8) (nv primeF)) 0) = false ∧ (!ilt (cmpI (nv a9) (nv primeF)) 0) = false ∧ (!ilt (cmpI (nv a10) (nv primeF)) 0) = true ∧ endN (.v1 (.sc (.bo false))) (.v1 (.sc (.bo false)))) ⟨blt_ff h0, blt_ff h1, blt_ff h2, blt_ff h3, blt_ff h4, blt_ff h5, blt_ff h6, blt_ff h7, blt_ff h8, blt_ff h9, blt_tt h10, _, rfl, fun _ => rfl⟩ (by kernel_rfl)
                      · skip
                        have hw : whL [a0, a1, a2, a3, a4, a5, a6, a7, a8, a9, a10, a11] = false := by rw [whL_t h0, whL_t h1, whL_t h2, whL_t h3, whL_t h4, whL_t h5, whL_t h6, whL_t h7, whL_t h8, whL_f h9]
                        rw [hw]
                        refine evS_q mixed tt_ok GDw_ok 200 [⟨7,7,.lit (.bo false)⟩, ⟨7,7,.lit (.bo false)⟩, ⟨7,7,.lit (.bo false)⟩, ⟨7,7,.lit (.bo false)⟩, ⟨7,7,.lit (.bo false)⟩, ⟨7,7,.lit (.bo false)⟩, ⟨7,7,.lit (.bo false)⟩, ⟨7,7,.lit (.bo false)⟩, ⟨7,7,.lit (.bo false)⟩, ⟨7,7,.lit (.bo true)⟩] ?_
                        exact same (p := (!ilt (cmpI (nv a0) (nv primeF)) 0) = false ∧ (!ilt (cmpI (nv a1) (nv primeF)) 0) = false ∧ (!ilt (cmpI (nv a2) (nv primeF)) 0) = false ∧ (!ilt (cmpI (nv a3) (nv primeF)) 0) = false ∧ (!ilt (cmpI (nv a4) (nv primeF)) 0) = false ∧ (!ilt (cmpI (nv a5) (nv primeF)) 0) = false ∧ (!ilt (cmpI (nv a6) (nv primeF)) 0) = false ∧ (!ilt (cmpI (nv a7) (nv primeF)) 0) = false ∧ (!ilt (cmpI (nv a8) (nv primeF)) 0) = false ∧ (!ilt (cmpI (nv a9) (nv primeF)) 0) = true ∧ endN (.v1 (.sc (.bo false))) (.v1 (.sc (.bo false)))) ⟨blt_ff h0, blt_ff h1, blt_ff h2, blt_ff h3, blt_ff h4, blt_ff h5, blt_ff h6, blt_ff h7, blt_ff h8, blt_tt h9, _, rfl, fun _ => rfl⟩ (by kernel_rfl)
                    · skip
                      have hw : whL [a0, a1, a2, a3, a4, a5, a6, a7, a8, a9, a10, a11] = false := by rw [whL_t h0, whL_t h1, whL_t h2, whL_t h3, whL_t h4, whL_t h5, whL_t h6, whL_t h7, whL_f h8]
                      rw [hw]
                      refine evS_q mixed tt_ok GDw_ok 200 [⟨7,7,.lit (.bo false)⟩, ⟨7,7,.lit (.bo false)⟩, ⟨7,7,.lit (.bo false)⟩, ⟨7,7,.lit (.bo false)⟩, ⟨7,7,.lit (.bo false)⟩, ⟨7,7,.lit (.bo false)⟩, ⟨7,7,.lit (.bo false)⟩, ⟨7,7,.lit (.bo false)⟩, ⟨7,7,.lit (.bo true)⟩] ?_
                      exact same (p := (!ilt (cmpI (nv a0) (nv primeF)) 0) = false ∧ (!ilt (cmpI (nv a1) (nv primeF)) 0) = false ∧ (!ilt (cmpI (nv a2) (nv primeF)) 0) = false ∧ (!ilt (cmpI (nv a3) (nv primeF)) 0) = false ∧ (!ilt (cmpI (nv a4) (nv primeF)) 0) = false ∧ (!ilt (cmpI (nv a5) (nv primeF)) 0) = false ∧ (!ilt (cmpI (nv a6) (nv primeF)) 0) = false ∧ (!ilt (cmpI (nv a7) (nv primeF)) 0) = false ∧ (!ilt (cmpI (nv a8) (nv primeF)) 0) = true ∧ endN (.v1 (.sc (.bo false))) (.v1 (.sc (.bo false)))) ⟨blt_ff h0, blt_ff h1, blt_ff h2, blt_ff h3, blt_ff h4, blt_ff h5, blt_ff h6, blt_ff h7, blt_tt h8, _, rfl, fun _ => rfl⟩ (by kernel_rfl)
                  · skip
                    have hw : whL [a0, a1, a2, a3, a4, a5, a6, a7, a8, a9, a10, a11] = false := by rw [whL_t h0, whL_t h1, whL_t h2, whL_t h3, whL_t h4, whL_t h5, whL_t h6, whL_f h7]
                    rw [hw]
                    refine evS_q mixed tt_ok GDw_ok 200 [⟨7,7,.lit (.bo false)⟩, ⟨7,7,.lit (.bo false)⟩, ⟨7,7,.lit (.bo false)⟩, ⟨7,7,.lit (.bo false)⟩, ⟨7,7,.lit (.bo false)⟩, ⟨7,7,.lit (.bo false)⟩, ⟨7,7,.lit (.bo false)⟩, ⟨7,7,.lit (.bo true)⟩] ?_
                    exact same (p := (!ilt (cmpI (nv a0) (nv primeF)) 0) = false ∧ (!ilt (cmpI (nv a1) (nv primeF)) 0) = false ∧ (!ilt (cmpI (nv a2) (nv primeF)) 0) = false ∧ (!ilt (cmpI (nv a3) (nv primeF)) 0) = false ∧ (!ilt (cmpI (nv a4) (nv primeF)) 0) = false ∧ (!ilt (cmpI (nv a5) (nv primeF)) 0) = false ∧ (!ilt (cmpI (nv a6) (nv primeF)) 0) = false ∧ (!ilt (cmpI (nv a7) (nv primeF)) 0) = true ∧ endN (.v1 (.sc (.bo false))) (.v1 (.sc (.bo false)))) ⟨blt_ff h0, blt_ff h1, blt_ff h2, blt_ff h3, blt_ff h4, blt_ff h5, blt_ff h6, blt_tt h7, _, rfl, fun _ => rfl⟩ (by kernel_rfl)
                · skip
                  have hw : whL [a0, a1, a2, a3, a4, a5, a6, a7, a8, a9, a10, a11] = false := by rw [whL_t h0, whL_t h1, whL_t h2, whL_t h3, whL_t h4, whL_t h5, whL_f h6]
                  rw [hw]
                  refine evS_q mixed tt_ok GDw_ok 200 [⟨7,7,.lit (.bo false)⟩, ⟨7,7,.lit (.bo false)⟩, ⟨7,7,.lit (.bo false)⟩, ⟨7,7,.lit (.bo false)⟩, ⟨7,7,.lit (.bo false)⟩, ⟨7,7,.lit (.bo false)⟩, ⟨7,7,.lit (.bo true)⟩] ?_
                  exact same (p := (!ilt (cmpI (nv a0) (nv primeF)) 0) = false ∧ (!ilt (cmpI (nv a1) (nv primeF)) 0) = false ∧ (!ilt (cmpI (nv a2) (nv primeF)) 0) = false ∧ (!ilt (cmpI (nv a3) (nv primeF)) 0) = false ∧ (!ilt (cmpI (nv a4) (nv primeF)) 0) = false ∧ (!ilt (cmpI (nv a5) (nv primeF)) 0) = false ∧ (!ilt (cmpI (nv a6) (nv primeF)) 0) = true ∧ endN (.v1 (.sc (.bo false))) (.v1 (.sc (.bo false)))) ⟨blt_ff h0, blt_ff h1, blt_ff h2, blt_ff h3, blt_ff h4, blt_ff h5, blt_tt h6, _, rfl, fun _ => rfl⟩ (by kernel_rfl)
              · skip
                have hw : whL [a0, a1, a2, a3, a4, a5, a6, a7, a8, a9, a10, a11] = false := by rw [whL_t h0, whL_t h1, whL_t h2, whL_t h3, whL_t h4, whL_f h5]
                rw [hw]
                refine evS_q mixed tt_ok GDw_ok 200 [⟨7,7,.lit (.bo false)⟩, ⟨7,7,.lit (.bo false)⟩, ⟨7,7,.lit (.bo false)⟩, ⟨7,7,.lit (.bo false)⟩, ⟨7,7,.lit (.bo false)⟩, ⟨7,7,.lit (.bo true)⟩] ?_
                exact same (p := (!ilt (cmpI (nv a0) (nv primeF)) 0) = false ∧ (!ilt (cmpI (nv a1) (nv primeF)) 0) = false ∧ (!ilt (cmpI (nv a2) (nv primeF)) 0) = false ∧ (!ilt (cmpI (nv a3) (nv primeF)) 0) = false ∧ (!ilt (cmpI (nv a4) (nv primeF)) 0) = false ∧ (!ilt (cmpI (nv a5) (nv primeF)) 0) = true ∧ endN (.v1 (.sc (.bo false))) (.v1 (.sc (.bo false)))) ⟨blt_ff h0, blt_ff h1, blt_ff h2, blt_ff h3, blt_ff h4, blt_tt h5, _, rfl, fun _ => rfl⟩ (by kernel_rfl)
            · skip
              have hw : whL [a0, a1, a2, a3, a4, a5, a6, a7, a8, a9, a10, a11] = false := by rw [whL_t h0, whL_t h1, whL_t h2, whL_t h3, whL_f h4]
              rw [hw]
              refine evS_q mixed tt_ok GDw_ok 200 [⟨7,7,.lit (.bo false)⟩, ⟨7,7,.lit (.bo false)⟩, ⟨7,7,.lit (.bo false)⟩, ⟨7,7,.lit (.bo false)⟩, ⟨7,7,.lit (.bo true)⟩] ?_
              exact same (p := (!ilt (cmpI (nv a0) (nv primeF)) 0) = false ∧ (!ilt (cmpI (nv a1) (nv primeF)) 0) = false ∧ (!ilt (cmpI (nv a2) (nv primeF)) 0) = false ∧ (!ilt (cmpI (nv a3) (nv primeF)) 0) = false ∧ (!ilt (cmpI (nv a4) (nv primeF)) 0) = true ∧ endN (.v1 (.sc (.bo false))) (.v1 (.sc (.bo false)))) ⟨blt_ff h0, blt_ff h1, blt_ff h2, blt_ff h3, blt_tt h4, _, rfl, fun _ => rfl⟩ (by kernel_rfl)
          · skip
            have hw : whL [a0, a1, a2, a3, a4, a5, a6, a7, a8, a9, a10, a11] = false := by rw [whL_t h0, whL_t h1, whL_t h2, whL_f h3]
            rw [hw]
            refine evS_q mixed tt_ok GDw_ok 200 [⟨7,7,.lit (.bo false)⟩, ⟨7,7,.lit (.bo false)⟩, ⟨7,7,.lit (.bo false)⟩, ⟨7,7,.lit (.bo true)⟩] ?_
            exact same (p := (!ilt (cmpI (nv a0) (nv primeF)) 0) = false ∧ (!ilt (cmpI (nv a1) (nv primeF)) 0) = false ∧ (!ilt (cmpI (nv a2) (nv primeF)) 0) = false ∧ (!ilt (cmpI (nv a3) (nv primeF)) 0) = true ∧ endN (.v1 (.sc (.bo false))) (.v1 (.sc (.bo false)))) ⟨blt_ff h0, blt_ff h1, blt_ff h2, blt_tt h3, _, rfl, fun _ => rfl⟩ (by kernel_rfl)
        · skip
          have hw : whL [a0, a1, a2, a3, a4, a5, a6, a7, a8, a9, a10, a11] = false := by rw [whL_t h0, whL_t h1, whL_f h2]
          rw [hw]
          refine evS_q mixed tt_ok GDw_ok 200 [⟨7,7,.lit (.bo false)⟩, ⟨7,7,.lit (.bo false)⟩, ⟨7,7,.lit (.bo true)⟩] ?_
          exact same (p := (!ilt (cmpI (nv a0) (nv primeF)) 0) = false ∧ (!ilt (cmpI (nv a1) (nv primeF)) 0) = false ∧ (!ilt (cmpI (nv a2) (nv primeF)) 0) = true ∧ endN (.v1 (.sc (.bo false))) (.v1 (.sc (.bo false)))) ⟨blt_ff h0, blt_ff h1, blt_tt h2, _, rfl, fun _ => rfl⟩ (by kernel_rfl)
      · skip
        have hw : whL [a0, a1, a2, a3, a4, a5, a6, a7, a8, a9, a10, a11] = false := by rw [whL_t h0, whL_f h1]
        rw [hw]
        refine evS_q mixed tt_ok GDw_ok 200 [⟨7,7,.lit (.bo false)⟩, ⟨7,7,.lit (.bo true)⟩] ?_
        exact same (p := (!ilt (cmpI (nv a0) (nv primeF)) 0) = false ∧ (!ilt (cmpI (nv a1) (nv primeF)) 0) = true ∧ endN (.v1 (.sc (.bo false))) (.v1 (.sc (.bo false)))) ⟨blt_ff h0, blt_tt h1, _, rfl, fun _ => rfl⟩ (by kernel_rfl)
    · skip
      have hw : whL [a0, a1, a2, a3, a4, a5, a6, a7, a8, a9, a10, a11] = false := by rw [whL_f h0]
      rw [hw]
      refine evS_q mixed tt_ok GDw_ok 200 [⟨7,7,.lit (.bo true)⟩] ?_
      exact same (p := (!ilt (cmpI (nv a0) (nv primeF)) 0) = true ∧ endN (.v1 (.sc (.bo false))) (.v1 (.sc (.bo false)))) ⟨blt_tt h0, _, rfl, fun _ => rfl⟩ (by kernel_rfl)
  · cases e
end Go.Proofs.Ytkmfiefnaeikdaa
