/- reliquarylaw02.ModulusKnown answers true. Conditions: none. -/
import Derived.Test.YtcmaecfpggmcoaaRows
import Derived.Test.YtcmaecfpggmcoaaM6
import Derived.Test.YtcmaecfpggmcoaaM7
import Derived.Test.YtcmaecfpggmcoaaW9
import Derived.Test.YtcmaecfpggmcoaaWL
import Derived.ProofKit
import Derived.Carry
namespace Go.Proofs.Ytcmaecfpggmcoaa
open Go.Rq Go Go.ChangeShapes Go.WideShapes Go.ChangeAt Go.RowKit

def baseF : Nat → Nat := upd (upd (upd (upd (upd (upd (fun _ => 0) 0 13402431016077863595) 1 2210141511517208575) 2 7435674573564081700) 3 7239337960414712511) 4 5412103778470702295) 5 1873798617647539866
def orderF : Nat → Nat := upd (upd (upd (upd (fun _ => 0) 0 18446744069414584321) 1 6034159408538082302) 2 3691218898639771653) 3 8353516859464449352
def cK (f : Nat → Nat) : List AV → Option (List Prop × AV)
  | [] => some ([], nm f)
  | _ => none
theorem okBase : (CallC.pure (cK baseF)).Ok Try.prog 38 := by
  intro args pre v h _
  unfold cK at h
  split at h
  · cases h
    refine pure_fn mixed tt_ok G0_ok Try.func38 (by kernel_rfl) (by kernel_rfl) (by kernel_rfl) (by kernel_rfl) 60 [] ?_
    exact same (p := some (nm baseF) = some (nm baseF)) rfl (by kernel_rfl)
  · cases h
theorem okOrder : (CallC.pure (cK orderF)).Ok Try.prog 39 := by
  intro args pre v h _
  unfold cK at h
  split at h
  · cases h
    refine pure_fn mixed tt_ok G0_ok Try.func39 (by kernel_rfl) (by kernel_rfl) (by kernel_rfl) (by kernel_rfl) 60 [] ?_
    exact same (p := some (nm orderF) = some (nm orderF)) rfl (by kernel_rfl)
  · cases h
def gKnL : List (Nat × CallC) := [(34, .pure cOf), (13, .pure cNewNo), (41, .mem cBy), (33, .pure cAwakeM), (29, .rd (CM fInv)), (14, .rd (CM fRoot)),
  (19, .rd (CM fWide)), (25, .rd (CM fNeg)), (38, .pure (cK baseF)), (39, .pure (cK orderF)), (42, .pure cText)]
theorem gKn_ok : CtxOk Try.prog (ctxL gKnL) := ctxL_cons okOf <| ctxL_cons okNewNo <| ctxL_cons okBy <| ctxL_cons okAwakeM <| ctxL_cons okInv <| ctxL_cons okRoot <|
  ctxL_cons okWide <| ctxL_cons okMNeg <| ctxL_cons okBase <| ctxL_cons okOrder <| ctxL_cons okText ctxL_nil
abbrev endT : Prop := ∃ v', some (AV.v1 (.sc (.bo true))) = some v' ∧ ∀ ρ, v'.val ρ = (AV.v1 (.sc (.bo true))).val ρ
theorem endT_ok : endT := ⟨_, rfl, fun _ => rfl⟩
abbrev bigF : Nat → Nat := upd (upd (upd (upd (upd (upd (fun _ => 0) 0 1) 1 0) 2 0) 3 0) 4 0) 5 4611686018427387904
abbrev MIk (k : Nat) : Prop := ModI (wd (k % W)) (newL (wd (k % W))) (wd (R * R % nv (wd (k % W))))
theorem mayk {k : Nat} (hk : k < W) (h : k % 2 = 1) (h1 : blen k ≤ 382) (h3 : 3 ≤ k) : MayM (nv (wd (k % W))) ∧ MIk k := by
  have hM : MayM (nv (wd (k % W))) := by rw [nv_small hk]; exact ⟨h, h1, h3⟩
  exact ⟨hM, may_ok hM (by rw [nv_wd, Nat.mod_eq_of_lt (Nat.lt_trans (Nat.mod_lt _ (by rw [nv_small hk]; omega)) (nv_lt _))])⟩

theorem modulusKnown_calls (w : World) :
    Calls Try.prog 10 (([] : List AV).map (AV.val fun _ => 0)).toArray w (fun e w' => e = .returned (.bool true) ∧ StepW w w') := by
  refine pure_calls tt_ok Try.func10 (by kernel_rfl) (by kernel_rfl) (v := .v1 (.sc (.bo true))) (by kernel_rfl) ?_ w
  obtain ⟨m7, i7⟩ := mayk (k := 7) (by decide) (by decide) (by decide) (by decide)
  obtain ⟨m9, i9⟩ := mayk (k := 9) (by decide) (by decide) (by decide) (by decide)
  obtain ⟨m13, i13⟩ := mayk (k := 13) (by decide) (by decide) (by decide) (by decide)
  refine evS_q mixed tt_ok gKn_ok 200 [] ?_
  refine same (p := ¬ MayM (nv (wd (8 % W))) ∧ ¬ MayM (nv (wd (1 % W))) ∧ ¬ MayM (nv bigF) ∧ MayM (nv (wd (7 % W))) ∧ MayM (nv (wd (9 % W))) ∧ MayM (nv (wd (13 % W))) ∧
    MIk 7 ∧ MIk 7 ∧ MIk 7 ∧ MIk 9 ∧ MIk 9 ∧ MIk 13 ∧ MIk 7 ∧ MIk 7 ∧ endT) ?_ (by kernel_rfl)
  refine ⟨?_, ?_, ?_, m7, m9, m13, i7, i7, i7, i9, i9, i13, i7, i7, endT_ok⟩
  · rw [nv_small (by decide)]
    intro h; have := h.1; omega
  · rw [nv_small (by decide)]
    intro h; have := h.2.2; omega
  · intro h
    have h2 := h.2.1
    have : Nat.ble (blen (nv bigF)) 382 = false := by kernel_rfl
    rw [← Nat.ble_eq, this] at h2
    cases h2

theorem modulusKnown_lifted (os : Os) (started : os.Started) (H : Type) (enc : TypeId × Value → H) :
    ReturnsInHanded {} Try.checked os 10 .any (Rows.modulusKnownSpec.pre6 enc Try.prog Try.f10 Rows.modulusKnownRow.domain false) (Rows.modulusKnownSpec.post enc Try.prog Try.f10 false true false false) := by
  refine returnsInHanded_of_change (C := Try.checked) Try.own started (by kernel_rfl) Try.func10
    (ChangeSpec.witness6 (enc := enc) (C := Try.checked) false ⟨#[], #[], []⟩ 8 (by kernel_rfl) (by kernel_rfl) (by kernel_rfl) (by kernel_rfl)) ?_
  intro Wd base args ds gs before hval0 hW _ _
  have hval : ∀ (j : Nat) t v, Try.f10.params[j]? = some t → args[j]? = some v → Value.okWide Try.prog Wd .any base t v := hval0
  have hW' := hW
  obtain ⟨p, q, hA0, hV, rfl, _, _⟩ := hW
  have hA : DataW.TrodAll enc Try.prog Wd 0 (fun _ => true) true Try.f10.params.toList args.toList ds p := hA0
  rw [Try.params10] at hA hval
  obtain ⟨rfl, rfl, rfl⟩ := trodAll_none hA
  obtain ⟨rfl, rfl⟩ := trodVars_none hV
  clear hA0 hval0
  refine (modulusKnown_calls  Wd).mono fun e W' ⟨he, hw⟩ => ?_
  subst he
  have hg := hw.grown
  exact ⟨_, rfl, post_of_same (pa := []) (pv := []) hW' (fun _ _ _ => trodAll_mk1 (shut_bool Try.underlying4 true)) (fun sp _ => trodAll_mk0) (fun _ _ => rfl) rfl (hg.frame _) hg.2.1 (ok_one (by kernel_rfl) rfl (okWide_bool_mk Try.underlying4 true))⟩

theorem modulusKnown_holds : Rows.ModulusKnownSaid :=
  OpenClaim.holds_of_wide 10 Try.f10 rfl rfl rfl rfl rfl rfl rfl ⟨rfl, rfl, rfl, rfl, rfl⟩ rfl rfl rfl rfl rfl (by kernel_rfl) Try.func10 (by kernel_rfl)
    (of_decide_eq_true (by kernel_rfl)) (by unfold Func.isWrapper; rw [if_neg (of_decide_eq_false (by kernel_rfl))]; exact ⟨rfl, rfl⟩)
    (fun os started H enc _ => modulusKnown_lifted os started H enc)
end Go.Proofs.Ytcmaecfpggmcoaa
