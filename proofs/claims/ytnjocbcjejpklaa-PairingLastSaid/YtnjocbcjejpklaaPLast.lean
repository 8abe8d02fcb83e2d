/- reliquarylaw06.PairingLast answers true at every input, and leaves it as it was. Conditions: none. Printed by genpl.py. -/
import Derived.Test.YtnjocbcjejpklaaRows
import Derived.Test.YtnjocbcjejpklaaZQ
import Derived.Test.YtnjocbcjejpklaaZD
import Derived.Carry
namespace Go.Proofs.Ytnjocbcjejpklaa
open Go.Rq Go Go.ChangeShapes Go.WideShapes Go.ChangeAt Go.RowKit
set_option maxRecDepth 100000
set_option linter.unusedVariables false
set_option linter.unusedSimpArgs false
def GPl : Ctx := ctxL [(5, .pure cAwake6), (6, .pure cLast), (7, .pure (t122 S12.mul)), (8, .pure (c12 (n12 1)))]
theorem GPl_ok : CtxOk Try.prog GPl := ctxL_cons okAwake6 <| ctxL_cons okLastP <| ctxL_cons okTMul <| ctxL_cons okTOne ctxL_nil
theorem invE_t {s : S12} (h : s = 0) : invE s = 6 := by unfold invE; rw [(z12_iff s).2 h, cond_true]
theorem z12_f {s : S12} (h : s ≠ 0) : z12 s = false := by
  cases e : z12 s
  · rfl
  · exact absurd ((z12_iff s).1 e) h
theorem invE_f {s : S12} (h : s ≠ 0) : invE s = 0 := by unfold invE; rw [z12_f h, cond_false]
theorem lastz_t {s : S12} (h : s = 0) : lastz s = 0 := by unfold lastz; rw [(z12_iff s).2 h, cond_true]
theorem lastz_f {s : S12} (h : s ≠ 0) : lastz s = lastS s := by unfold lastz; rw [z12_f h, cond_false]
theorem pr0 {s t : S12} (h : s = 0 ∨ t = 0) : G12 (S12.mul s t) = 0 := by
  rw [G12_eq]
  rcases h with rfl | rfl
  · exact Rg.zero_mul (R := S12) t
  · exact Rg.mul_zero (R := S12) s
theorem prn {s t : S12} (h : s ≠ 0) (k : t ≠ 0) : G12 (S12.mul s t) ≠ 0 := by rw [G12_eq]; exact ne_mul h k
theorem prl {s t : S12} (h : s ≠ 0) (k : t ≠ 0) : lastz (G12 (S12.mul s t)) = S12.mul (G12 (lastz s)) (G12 (lastz t)) := by
  rw [lastz_f (prn h k), lastz_f h, lastz_f k, G12_eq, G12_eq, G12_eq]
  exact last_mul h k
theorem two_conj (c0 c1 : Nat → Nat) : S12.conj (g12 c0 c1 (fun _ => 0) (fun _ => 0) (fun _ => 0) (fun _ => 0) (fun _ => 0) (fun _ => 0) (fun _ => 0) (fun _ => 0) (fun _ => 0) (fun _ => 0)) = (g12 c0 c1 (fun _ => 0) (fun _ => 0) (fun _ => 0) (fun _ => 0) (fun _ => 0) (fun _ => 0) (fun _ => 0) (fun _ => 0) (fun _ => 0) (fun _ => 0)) := by
  have h : ∀ x : F2p, S12.conj (⟨⟨x, ⟨gN (fun _ => 0), gN (fun _ => 0)⟩, ⟨gN (fun _ => 0), gN (fun _ => 0)⟩⟩, ⟨⟨gN (fun _ => 0), gN (fun _ => 0)⟩, ⟨gN (fun _ => 0), gN (fun _ => 0)⟩, ⟨gN (fun _ => 0), gN (fun _ => 0)⟩⟩⟩ : S12) = ⟨⟨x, ⟨gN (fun _ => 0), gN (fun _ => 0)⟩, ⟨gN (fun _ => 0), gN (fun _ => 0)⟩⟩, ⟨⟨gN (fun _ => 0), gN (fun _ => 0)⟩, ⟨gN (fun _ => 0), gN (fun _ => 0)⟩, ⟨gN (fun _ => 0), gN (fun _ => 0)⟩⟩⟩ := fun x => by
    rw [gN_z]
    have : S12.conj (⟨⟨x, 0, 0⟩, 0⟩ : S12) = ⟨⟨x, 0, 0⟩, 0⟩ := S12.ext rfl (Rg.sub_self (R := S6) 0)
    exact this
  exact h _
theorem ieq_six : ieq 6 6 = true := rfl
theorem pairingLast_calls (a0 a1 a2 a3 a4 a5 a6 a7 a8 a9 a10 a11 b0 b1 b2 b3 b4 b5 b6 b7 b8 b9 b10 b11 c0 c1 : Nat → Nat) (w : World) :
    Calls Try.prog 3 (([.v1 (v12 a0 a1 a2 a3 a4 a5 a6 a7 a8 a9 a10 a11), .v1 (v12 b0 b1 b2 b3 b4 b5 b6 b7 b8 b9 b10 b11), f2 c0 c1] : List AV).map (AV.val fun _ => 0)).toArray w (fun e w' => e = .returned (.bool true) ∧ StepW w w') := by
  refine pure_calls tt_ok Try.func3 (by kernel_rfl) (by kernel_rfl) (v := .v1 (.sc (.bo true))) (by kernel_rfl) ?_ w
  by_cases ha : (g12 a0 a1 a2 a3 a4 a5 a6 a7 a8 a9 a10 a11) = 0
  · refine evS_q mixed tt_ok GPl_ok 200 [⟨5,1,.lit (.bo true)⟩,⟨6,3,.lit (.bo true)⟩,⟨6,8,.lit (.bo true)⟩] ?_
    refine same (p := (!ieq (invE (g12 a0 a1 a2 a3 a4 a5 a6 a7 a8 a9 a10 a11)) 0) = true ∧ ieq (invE (G12 (S12.mul (g12 a0 a1 a2 a3 a4 a5 a6 a7 a8 a9 a10 a11) (g12 b0 b1 b2 b3 b4 b5 b6 b7 b8 b9 b10 b11)))) 6 = true ∧ qL (nL (lastz (G12 (S12.mul (g12 a0 a1 a2 a3 a4 a5 a6 a7 a8 a9 a10 a11) (g12 b0 b1 b2 b3 b4 b5 b6 b7 b8 b9 b10 b11))))) zL12 = true ∧ endT) ?_ (by kernel_rfl)
    exact ⟨by rw [invE_t ha]; rfl, by rw [invE_t (pr0 (.inl ha))]; rfl, by rw [qn_z, lastz_t (pr0 (.inl ha))]; exact (z12_iff 0).2 rfl, endT_ok⟩
  · by_cases hb : (g12 b0 b1 b2 b3 b4 b5 b6 b7 b8 b9 b10 b11) = 0
    · refine evS_q mixed tt_ok GPl_ok 200 [⟨5,1,.lit (.bo false)⟩,⟨5,4,.lit (.bo true)⟩,⟨6,3,.lit (.bo true)⟩,⟨6,8,.lit (.bo true)⟩] ?_
      refine same (p := (!ieq (invE (g12 a0 a1 a2 a3 a4 a5 a6 a7 a8 a9 a10 a11)) 0) = false ∧ (!ieq (invE (g12 b0 b1 b2 b3 b4 b5 b6 b7 b8 b9 b10 b11)) 0) = true ∧ ieq (invE (G12 (S12.mul (g12 a0 a1 a2 a3 a4 a5 a6 a7 a8 a9 a10 a11) (g12 b0 b1 b2 b3 b4 b5 b6 b7 b8 b9 b10 b11)))) 6 = true ∧ qL (nL (lastz (G12 (S12.mul (g12 a0 a1 a2 a3 a4 a5 a6 a7 a8 a9 a10 a11) (g12 b0 b1 b2 b3 b4 b5 b6 b7 b8 b9 b10 b11))))) zL12 = true ∧ endT) ?_ (by kernel_rfl)
      exact ⟨by rw [invE_f ha]; rfl, by rw [invE_t hb]; rfl, by rw [invE_t (pr0 (.inr hb))]; rfl, by rw [qn_z, lastz_t (pr0 (.inr hb))]; exact (z12_iff 0).2 rfl, endT_ok⟩
    · have h1 : (!ieq (invE (g12 a0 a1 a2 a3 a4 a5 a6 a7 a8 a9 a10 a11)) 0) = false := by rw [invE_f ha]; rfl
      have h2 : (!ieq (invE (g12 b0 b1 b2 b3 b4 b5 b6 b7 b8 b9 b10 b11)) 0) = false := by rw [invE_f hb]; rfl
      have h3 : (!ieq (invE (G12 (S12.mul (g12 a0 a1 a2 a3 a4 a5 a6 a7 a8 a9 a10 a11) (g12 b0 b1 b2 b3 b4 b5 b6 b7 b8 b9 b10 b11)))) 0) = false := by rw [invE_f (prn ha hb)]; rfl
      have h4 : (!qL (nL (lastz (G12 (S12.mul (g12 a0 a1 a2 a3 a4 a5 a6 a7 a8 a9 a10 a11) (g12 b0 b1 b2 b3 b4 b5 b6 b7 b8 b9 b10 b11))))) (nL (S12.mul (G12 (lastz (g12 a0 a1 a2 a3 a4 a5 a6 a7 a8 a9 a10 a11))) (G12 (lastz (g12 b0 b1 b2 b3 b4 b5 b6 b7 b8 b9 b10 b11)))))) = false := qn_not (prl ha hb)
      by_cases hc : (g12 c0 c1 (fun _ => 0) (fun _ => 0) (fun _ => 0) (fun _ => 0) (fun _ => 0) (fun _ => 0) (fun _ => 0) (fun _ => 0) (fun _ => 0) (fun _ => 0)) = 0
      · refine evS_q mixed tt_ok GPl_ok 200 [⟨5,1,.lit (.bo false)⟩,⟨5,4,.lit (.bo false)⟩,⟨7,1,.lit (.bo false)⟩,⟨7,7,.lit (.bo false)⟩,⟨10,3,.lit (.bo true)⟩] ?_
        refine same (p := (!ieq (invE (g12 a0 a1 a2 a3 a4 a5 a6 a7 a8 a9 a10 a11)) 0) = false ∧ (!ieq (invE (g12 b0 b1 b2 b3 b4 b5 b6 b7 b8 b9 b10 b11)) 0) = false ∧ (!ieq (invE (G12 (S12.mul (g12 a0 a1 a2 a3 a4 a5 a6 a7 a8 a9 a10 a11) (g12 b0 b1 b2 b3 b4 b5 b6 b7 b8 b9 b10 b11)))) 0) = false ∧ (!qL (nL (lastz (G12 (S12.mul (g12 a0 a1 a2 a3 a4 a5 a6 a7 a8 a9 a10 a11) (g12 b0 b1 b2 b3 b4 b5 b6 b7 b8 b9 b10 b11))))) (nL (S12.mul (G12 (lastz (g12 a0 a1 a2 a3 a4 a5 a6 a7 a8 a9 a10 a11))) (G12 (lastz (g12 b0 b1 b2 b3 b4 b5 b6 b7 b8 b9 b10 b11)))))) = false ∧ ieq (invE (g12 c0 c1 (fun _ => 0) (fun _ => 0) (fun _ => 0) (fun _ => 0) (fun _ => 0) (fun _ => 0) (fun _ => 0) (fun _ => 0) (fun _ => 0) (fun _ => 0))) 6 = true ∧ endT) ?_ (by kernel_rfl)
        exact ⟨h1, h2, h3, h4, by rw [invE_t hc]; rfl, endT_ok⟩
      · refine evS_q mixed tt_ok GPl_ok 200 [⟨5,1,.lit (.bo false)⟩,⟨5,4,.lit (.bo false)⟩,⟨7,1,.lit (.bo false)⟩,⟨7,7,.lit (.bo false)⟩,⟨10,3,.lit (.bo false)⟩,⟨10,7,.lit (.bo true)⟩] ?_
        refine same (p := (!ieq (invE (g12 a0 a1 a2 a3 a4 a5 a6 a7 a8 a9 a10 a11)) 0) = false ∧ (!ieq (invE (g12 b0 b1 b2 b3 b4 b5 b6 b7 b8 b9 b10 b11)) 0) = false ∧ (!ieq (invE (G12 (S12.mul (g12 a0 a1 a2 a3 a4 a5 a6 a7 a8 a9 a10 a11) (g12 b0 b1 b2 b3 b4 b5 b6 b7 b8 b9 b10 b11)))) 0) = false ∧ (!qL (nL (lastz (G12 (S12.mul (g12 a0 a1 a2 a3 a4 a5 a6 a7 a8 a9 a10 a11) (g12 b0 b1 b2 b3 b4 b5 b6 b7 b8 b9 b10 b11))))) (nL (S12.mul (G12 (lastz (g12 a0 a1 a2 a3 a4 a5 a6 a7 a8 a9 a10 a11))) (G12 (lastz (g12 b0 b1 b2 b3 b4 b5 b6 b7 b8 b9 b10 b11)))))) = false ∧ ieq (invE (g12 c0 c1 (fun _ => 0) (fun _ => 0) (fun _ => 0) (fun _ => 0) (fun _ => 0) (fun _ => 0) (fun _ => 0) (fun _ => 0) (fun _ => 0) (fun _ => 0))) 6 = false ∧ qL (nL (lastz (g12 c0 c1 (fun _ => 0) (fun _ => 0) (fun _ => 0) (fun _ => 0) (fun _ => 0) (fun _ => 0) (fun _ => 0) (fun _ => 0) (fun _ => 0) (fun _ => 0)))) (nL 1) = true ∧ endT) ?_ (by kernel_rfl)
        exact ⟨h1, h2, h3, h4, by rw [invE_f hc]; rfl, qn_of (by rw [lastz_f hc]; exact last_conj hc (two_conj c0 c1)), endT_ok⟩

theorem pairingLast_lifted (os : Os) (started : os.Started) (H : Type) (enc : TypeId × Value → H) :
    ReturnsInHanded {} Try.checked os 3 .any (Rows.pairingLastSpec.pre6 enc Try.prog Try.f3 Rows.pairingLastRow.domain false) (Rows.pairingLastSpec.post enc Try.prog Try.f3 false true false false) := by
  refine returnsInHanded_of_change (C := Try.checked) Try.own started (by kernel_rfl) Try.func3
    (ChangeSpec.witness6 (enc := enc) (C := Try.checked) false ⟨#[], #[.agg #[.int .u64 0, .int .u64 0, .int .u64 0, .int .u64 0, .int .u64 0, .int .u64 0, .int .u64 0, .int .u64 0, .int .u64 0, .int .u64 0, .int .u64 0, .int .u64 0, .int .u64 0, .int .u64 0, .int .u64 0, .int .u64 0, .int .u64 0, .int .u64 0, .int .u64 0, .int .u64 0, .int .u64 0, .int .u64 0, .int .u64 0, .int .u64 0, .int .u64 0, .int .u64 0, .int .u64 0, .int .u64 0, .int .u64 0, .int .u64 0, .int .u64 0, .int .u64 0, .int .u64 0, .int .u64 0, .int .u64 0, .int .u64 0, .int .u64 0, .int .u64 0, .int .u64 0, .int .u64 0, .int .u64 0, .int .u64 0, .int .u64 0, .int .u64 0, .int .u64 0, .int .u64 0, .int .u64 0, .int .u64 0, .int .u64 0, .int .u64 0, .int .u64 0, .int .u64 0, .int .u64 0, .int .u64 0, .int .u64 0, .int .u64 0, .int .u64 0, .int .u64 0, .int .u64 0, .int .u64 0, .int .u64 0, .int .u64 0, .int .u64 0, .int .u64 0, .int .u64 0, .int .u64 0, .int .u64 0, .int .u64 0, .int .u64 0, .int .u64 0, .int .u64 0, .int .u64 0], .agg #[.int .u64 0, .int .u64 0, .int .u64 0, .int .u64 0, .int .u64 0, .int .u64 0, .int .u64 0, .int .u64 0, .int .u64 0, .int .u64 0, .int .u64 0, .int .u64 0, .int .u64 0, .int .u64 0, .int .u64 0, .int .u64 0, .int .u64 0, .int .u64 0, .int .u64 0, .int .u64 0, .int .u64 0, .int .u64 0, .int .u64 0, .int .u64 0, .int .u64 0, .int .u64 0, .int .u64 0, .int .u64 0, .int .u64 0, .int .u64 0, .int .u64 0, .int .u64 0, .int .u64 0, .int .u64 0, .int .u64 0, .int .u64 0, .int .u64 0, .int .u64 0, .int .u64 0, .int .u64 0, .int .u64 0, .int .u64 0, .int .u64 0, .int .u64 0, .int .u64 0, .int .u64 0, .int .u64 0, .int .u64 0, .int .u64 0, .int .u64 0, .int .u64 0, .int .u64 0, .int .u64 0, .int .u64 0, .int .u64 0, .int .u64 0, .int .u64 0, .int .u64 0, .int .u64 0, .int .u64 0, .int .u64 0, .int .u64 0, .int .u64 0, .int .u64 0, .int .u64 0, .int .u64 0, .int .u64 0, .int .u64 0, .int .u64 0, .int .u64 0, .int .u64 0, .int .u64 0], .agg #[.int .u64 0, .int .u64 0, .int .u64 0, .int .u64 0, .int .u64 0, .int .u64 0, .int .u64 0, .int .u64 0, .int .u64 0, .int .u64 0, .int .u64 0, .int .u64 0]], []⟩ 8 (by kernel_rfl) (by kernel_rfl) (by kernel_rfl) (by kernel_rfl)) ?_
  intro Wd base args ds gs before hval0 hW _ _
  have hval : ∀ (j : Nat) t v, Try.f3.params[j]? = some t → args[j]? = some v → Value.okWide Try.prog Wd .any base t v := hval0
  have hW' := hW
  obtain ⟨p, q, hA0, hV, rfl, _, _⟩ := hW
  have hA : DataW.TrodAll enc Try.prog Wd 0 (fun _ => true) true Try.f3.params.toList args.toList ds p := hA0
  rw [Try.params3] at hA hval
  obtain ⟨v0, v1, v2, d0, d1, d2, p0, p1, p2, rfl, rfl, rfl, h0, h1, h2⟩ := trodAll_three hA
  obtain ⟨rfl, rfl⟩ := trodVars_none hV
  obtain ⟨x0a, x0b, x0c, x0d, x0e, x0f, x0g, x0h, x0i, x0j, x0k, x0l, rfl, rfl, t0⟩ := e12_open h0 (hval 0 28 v0 rfl rfl)
  obtain ⟨x1a, x1b, x1c, x1d, x1e, x1f, x1g, x1h, x1i, x1j, x1k, x1l, rfl, rfl, t1⟩ := e12_open h1 (hval 1 28 v1 rfl rfl)
  obtain ⟨x2, y2, rfl, rfl, t2⟩ := e2_open h2 (hval 2 26 v2 rfl rfl)
  clear hA0 hval0
  simp only [List.append_nil] at hW'
  refine (pairingLast_calls x0a x0b x0c x0d x0e x0f x0g x0h x0i x0j x0k x0l x1a x1b x1c x1d x1e x1f x1g x1h x1i x1j x1k x1l x2 y2 Wd).mono fun e W' ⟨he, hw⟩ => ?_
  subst he
  have hg := hw.grown
  exact ⟨_, rfl, post_of_same (pa := []) (pv := []) hW' (fun _ _ _ => trodAll_mk1 (shut_bool Try.underlying4 true)) (fun sp _ => trodAll_mk3 (t0 _ _ _ _) (t1 _ _ _ _) (t2 _ _ _ _)) (fun _ _ => rfl) rfl (hg.frame _) hg.2.1 (ok_one (by kernel_rfl) rfl (okWide_bool_mk Try.underlying4 true))⟩

theorem pairingLast_holds : Rows.PairingLastSaid :=
  OpenClaim.holds_of_wide 3 Try.f3 rfl rfl rfl rfl rfl rfl rfl ⟨rfl, rfl, rfl, rfl, rfl⟩ rfl rfl rfl rfl rfl (by kernel_rfl) Try.func3 (by kernel_rfl)
    (of_decide_eq_true (by kernel_rfl)) (by unfold Func.isWrapper; rw [if_neg (of_decide_eq_false (by kernel_rfl))]; exact ⟨rfl, rfl⟩)
    (fun os started H enc _ => pairingLast_lifted os started H enc)
end Go.Proofs.Ytnjocbcjejpklaa

