/- reliquarylaw07.LittleKnown answers true. Conditions: none. -/
import Derived.Test.YtafiafkeigdjhaaRows
import Derived.Test.YtafiafkeigdjhaaL19
import Derived.ProofKit
import Derived.Carry
namespace Go.Proofs.Ytafiafkeigdjhaa
open Go.Rq Go Go.ChangeShapes Go.WideShapes Go.ChangeAt Go.RowKit
theorem pair_eq : (eqN 18446744073709551616 2 (pairN p2 r2 16 hL hL) (upd (upd (fun _ => 0) 0 1031928651028551423) 1 152963554084142207) && true) = true := by
  rw [Bool.and_true, eqN_iff]
  intro i hi
  have : i = 0 ∨ i = 1 := by omega
  rcases this with rfl | rfl
  · rw [hL_p0]; rfl
  · rw [hL_p1]; rfl
theorem littleKnown_calls (Wd : World) : Calls Try.prog 9 (([] : List AV).map (AV.val fun _ => 0)).toArray Wd (fun e w' => e = .returned (.bool true) ∧ StepW Wd w') := by
  refine pure_calls tt_ok Try.func9 (by kernel_rfl) (by kernel_rfl) (v := .v1 (.sc (.bo true))) (by kernel_rfl) ?_ Wd
  refine evS_q mixed tt_ok gKn_ok 100 [⟨11,2,.lit (.bo true)⟩,⟨11,6,.lit (.bo true)⟩,⟨11,10,.lit (.bo true)⟩,⟨13,16,.lit (.bo true)⟩,⟨13,25,.lit (.bo true)⟩,⟨13,33,.lit (.bo true)⟩,⟨13,37,.lit (.bo false)⟩,⟨13,57,.lit (.bo true)⟩] (same (p := (1 : Int) = 1 ∧ (2 : Int) = 2 ∧ (2 : Int) = 2 ∧ inN p2 r2 hL = true ∧ inN p2 r2 hL = true ∧ (1 : Int) = 1 ∧ (1 : Int) = 1 ∧ OnP p1 gL ∧ (1 : Int) = 1 ∧ OnP p1 gL ∧ (1 : Int) = 1 ∧ OnP p1 gL ∧ OnP p1 (negL p1 gL) ∧ (0 : Int) ≠ 1 ∧ (0 : Int) ≠ 2 ∧ (1 : Int) = 1 ∧ LwP p1 gL ∧ LwP p1 ⟨1, 1, false⟩ ∧ (onB p1 gL && onB p1 ⟨1, 1, false⟩) = false ∧ (1 : Int) = 1 ∧ OnP p1 zeroL ∧ (eqN 18446744073709551616 2 (pairN p2 r2 16 hL hL) (upd (upd (fun _ => 0) 0 1031928651028551423) 1 152963554084142207) && true) = true ∧ eqLP (nearP p1 1) ⟨4, 204503, false⟩ = true ∧ ieq (Int.ofNat (nearK p1 1)) 3 = true ∧ (2 : Int) = 2 ∧ eqLP (mulP p1 gL 65521) zeroL = true ∧ eqLP (sumN p1 gL (negL p1 gL)) zeroL = true ∧ onB p1 ⟨0, 0, false⟩ = true ∧ (1 : Int) = 1 ∧ LwP p1 ⟨0, 0, false⟩ ∧ inN p1 65521 ⟨0, 0, false⟩ = false ∧ (1 : Int) = 1 ∧ LwP p1 ⟨0, 0, false⟩ ∧ Nat.beq (byP zeroL 0 % 256) 1 = true ∧ endT) ?_ (by kernel_rfl))
  exact ⟨rfl, rfl, rfl, hL_in, hL_in, rfl, rfl, gL_on, rfl, gL_on, rfl, gL_on, gN_on, by decide, by decide, rfl, OnP.lw cu1.gp gL_on, ⟨by decide, by decide⟩, by rw [bad_on, Bool.and_false], rfl, rfl, pair_eq, by rw [nr_P]; rfl, by rw [nr_K]; rfl, rfl, by rw [gL_r]; rfl, by rw [gL_neg]; rfl, on_00 cu1.gp, rfl, ⟨by decide, by decide⟩, z_in, rfl, ⟨by decide, by decide⟩, rfl, endT_ok⟩
theorem littleKnown_lifted (os : Os) (started : os.Started) (H : Type) (enc : TypeId × Value → H) :
    ReturnsInHanded {} Try.checked os 9 .any (Rows.littleKnownSpec.pre6 enc Try.prog Try.f9 Rows.littleKnownRow.domain false) (Rows.littleKnownSpec.post enc Try.prog Try.f9 false true false false) := by
  refine returnsInHanded_of_change (C := Try.checked) Try.own started (by kernel_rfl) Try.func9
    (ChangeSpec.witness6 (enc := enc) (C := Try.checked) false ⟨#[], #[], []⟩ 8 (by kernel_rfl) (by kernel_rfl) (by kernel_rfl) (by kernel_rfl)) ?_
  intro Wd base args ds gs before hval0 hW _ _
  have hval : ∀ (j : Nat) t v, Try.f9.params[j]? = some t → args[j]? = some v → Value.okWide Try.prog Wd .any base t v := hval0
  have hW' := hW
  obtain ⟨p, q, hA0, hV, rfl, _, _⟩ := hW
  have hA : DataW.TrodAll enc Try.prog Wd 0 (fun _ => true) true Try.f9.params.toList args.toList ds p := hA0
  rw [Try.params9] at hA hval
  obtain ⟨rfl, rfl, rfl⟩ := trodAll_none hA
  obtain ⟨rfl, rfl⟩ := trodVars_none hV
  clear hA0 hval0
  refine (littleKnown_calls  Wd).mono fun e W' ⟨he, hw⟩ => ?_
  subst he
  have hg := hw.grown
  exact ⟨_, rfl, post_of_same (pa := []) (pv := []) hW' (fun _ _ _ => trodAll_mk1 (shut_bool Try.underlying4 true)) (fun sp hsp => trodAll_mk0) (fun _ _ => rfl) rfl (hg.frame _) hg.2.1 (ok_one (by kernel_rfl) rfl (okWide_bool_mk Try.underlying4 true))⟩

theorem littleKnown_holds : Rows.LittleKnownSaid :=
  OpenClaim.holds_of_wide 9 Try.f9 rfl rfl rfl rfl rfl rfl rfl ⟨rfl, rfl, rfl, rfl, rfl⟩ rfl rfl rfl rfl rfl (by kernel_rfl) Try.func9 (by kernel_rfl)
    (of_decide_eq_true (by kernel_rfl)) (by unfold Func.isWrapper; rw [if_neg (of_decide_eq_false (by kernel_rfl))]; exact ⟨rfl, rfl⟩)
    (fun os started H enc _ => littleKnown_lifted os started H enc)
end Go.Proofs.Ytafiafkeigdjhaa
