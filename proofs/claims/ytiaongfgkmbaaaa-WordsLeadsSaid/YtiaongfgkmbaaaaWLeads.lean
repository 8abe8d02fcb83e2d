/- reliquarylaw01.WordsLeads answers true at every input, and leaves it as it was. Conditions: none. -/
import Derived.Test.YtiaongfgkmbaaaaRows
import Derived.Test.YtiaongfgkmbaaaaW11
import Derived.Test.YtiaongfgkmbaaaaWL
import Derived.Test.YtiaongfgkmbaaaaWM8
import Derived.ProofKit
import Derived.ChangeMaps5
namespace Go.Proofs.Ytiaongfgkmbaaaa
open Go.Rq Go Go.ChangeShapes Go.WideShapes Go.ChangeAt Go.RowKit Go.ChangeMaps

def GR : Ctx := ctxL [(40, .pure cAwake), (11, .mem cBytes), (12, .rd cRead), (20, .pure cText), (14, .pure cParse)]
theorem GR_ok : CtxOk Try.prog GR := ctxL_cons okAwake <| ctxL_cons okBytes <| ctxL_cons okRead <| ctxL_cons okText <| ctxL_cons okParse ctxL_nil
theorem eqW_nv {f g : Nat → Nat} (h : nv f = nv g) : (eqN W 6 f g && true) = true := by
  rw [Bool.and_true, eqN_iff]
  intro i hi
  rw [← wd_nv f i hi, ← wd_nv g i hi, h]
theorem ilt_200 (n : Nat) : ilt 200 (Int.ofNat n) = Nat.blt 200 n := by
  rw [Bool.eq_iff_iff, ilt_iff, Nat.blt_eq]; simp; omega

theorem wordsLeads_calls (a : Nat → Nat) (s : ByteArray) (w : World) :
    Calls Try.prog 5 #[(AV.v1 (.agg [.ws .u64 6 a])).val (fun _ => 0), .string s] w (fun e w' => e = .returned (.bool true) ∧ StepW w w') := by
  have hargs : #[(AV.v1 (.agg [.ws .u64 6 a])).val (fun _ => 0), .string s] = ([.v1 (.agg [.ws .u64 6 a]), strV s.size (byteAt s)].map (AV.val fun _ => 0)).toArray := by
    simp only [List.map_cons, List.map_nil, AV.val, V1.val, Sc.val, bytesF_byteAt]
  rw [hargs]
  generalize s.size = n
  generalize byteAt s = f
  refine pure_calls tt_ok Try.func5 (by kernel_rfl) (by kernel_rfl) (v := .v1 (.sc (.bo true))) (by kernel_rfl) ?_ w
  have hA := nv_lt a
  obtain ⟨p1, p2⟩ := parse_text hA
  have c1 : (!(eqN W 6 (wd (rdV 48 (byF (nv a)))) a && true)) = false := by
    rw [eqW_nv (by rw [nv_wd, read_bytes hA, Nat.mod_eq_of_lt hA])]; rfl
  have c2 : (!(eqN W 6 (wd (parV (tLen (nv a)) (txF (nv a) (tLen (nv a))))) a && true)) = false := by
    rw [eqW_nv (by rw [nv_wd, p2, Nat.mod_eq_of_lt hA])]; rfl
  have c3 : (!ieq (parE (tLen (nv a)) (txF (nv a) (tLen (nv a)))) 0) = false := by rw [p1]; rfl
  cases hl : Nat.blt 200 n
  · by_cases hg : parE n f = 0
    · obtain ⟨h96, _, _, hall, hV⟩ := parE_zero hg
      obtain ⟨t1, t2⟩ := text_parse hg
      have hlt := horN_ltR h96 hall
      have hx : nv (wd (parV n f)) = horN f n := by rw [nv_wd, hV, Nat.mod_eq_of_lt hlt]
      refine evS_q mixed tt_ok GR_ok 100 [⟨4,2,.lit (.bo false)⟩,⟨4,10,.lit (.bo false)⟩,⟨4,14,.lit (.bo false)⟩,⟨6,2,.lit (.bo false)⟩,⟨9,3,.lit (.bo false)⟩,⟨9,11,.lit (.bo true)⟩,⟨9,16,.lit (.bo true)⟩] ?_
      refine same (p :=
        48 ≤ 48 ∧ (!(eqN W 6 (wd (rdV 48 (byF (nv a)))) a && true)) = false ∧
        (!(eqN W 6 (wd (parV (tLen (nv a)) (txF (nv a) (tLen (nv a))))) a && true)) = false ∧
        (!ieq (parE (tLen (nv a)) (txF (nv a) (tLen (nv a)))) 0) = false ∧
        ilt 200 (Int.ofNat n) = false ∧ (!ieq (parE n f) 0) = false ∧ ieq (parE n f) 0 = true ∧
        eqStr (tLen (nv (wd (parV n f)))) (txF (nv (wd (parV n f))) (tLen (nv (wd (parV n f))))) n f = true ∧
        ∃ v', some (AV.v1 (.sc (.bo true))) = some v' ∧ ∀ ρ, v'.val ρ = (AV.v1 (.sc (.bo true))).val ρ) ?_ (by kernel_rfl)
      refine ⟨Nat.le_refl _, c1, c2, c3, by rw [ilt_200, hl], by rw [hg]; rfl, by rw [hg]; rfl, ?_, _, rfl, fun _ => rfl⟩
      rw [hx, t1]
      unfold eqStr
      have : Nat.beq n n = true := by rw [Nat.beq_eq]
      rw [this]
      exact eqN_iff.2 t2
    · have hV := parE_other hg
      have hi : ieq (parE n f) 0 = false := by rw [← Bool.not_eq_true, ieq_iff]; exact hg
      refine evS_q mixed tt_ok GR_ok 100 [⟨4,2,.lit (.bo false)⟩,⟨4,10,.lit (.bo false)⟩,⟨4,14,.lit (.bo false)⟩,⟨6,2,.lit (.bo false)⟩,⟨9,3,.lit (.bo true)⟩,⟨9,7,.lit (.bo true)⟩] ?_
      refine same (p :=
        48 ≤ 48 ∧ (!(eqN W 6 (wd (rdV 48 (byF (nv a)))) a && true)) = false ∧
        (!(eqN W 6 (wd (parV (tLen (nv a)) (txF (nv a) (tLen (nv a))))) a && true)) = false ∧
        (!ieq (parE (tLen (nv a)) (txF (nv a) (tLen (nv a)))) 0) = false ∧
        ilt 200 (Int.ofNat n) = false ∧ (!ieq (parE n f) 0) = true ∧
        (eqN W 6 (wd (parV n f)) (fun _ => 0) && true) = true ∧
        ∃ v', some (AV.v1 (.sc (.bo true))) = some v' ∧ ∀ ρ, v'.val ρ = (AV.v1 (.sc (.bo true))).val ρ) ?_ (by kernel_rfl)
      exact ⟨Nat.le_refl _, c1, c2, c3, by rw [ilt_200, hl], by rw [hi]; rfl, eqW_nv (by rw [hV, nv_wd, zero_nv]; rfl), _, rfl, fun _ => rfl⟩
  · refine evS_q mixed tt_ok GR_ok 100 [⟨4,2,.lit (.bo false)⟩,⟨4,10,.lit (.bo false)⟩,⟨4,14,.lit (.bo false)⟩,⟨6,2,.lit (.bo true)⟩] ?_
    refine same (p :=
      48 ≤ 48 ∧ (!(eqN W 6 (wd (rdV 48 (byF (nv a)))) a && true)) = false ∧
      (!(eqN W 6 (wd (parV (tLen (nv a)) (txF (nv a) (tLen (nv a))))) a && true)) = false ∧
      (!ieq (parE (tLen (nv a)) (txF (nv a) (tLen (nv a)))) 0) = false ∧
      ilt 200 (Int.ofNat n) = true ∧
      ∃ v', some (AV.v1 (.sc (.bo true))) = some v' ∧ ∀ ρ, v'.val ρ = (AV.v1 (.sc (.bo true))).val ρ) ?_ (by kernel_rfl)
    exact ⟨Nat.le_refl _, c1, c2, c3, by rw [ilt_200, hl], _, rfl, fun _ => rfl⟩

theorem wordsLeads_lifted (os : Os) (started : os.Started) (H : Type) (enc : TypeId × Value → H) :
    ReturnsInHanded {} Try.checked os 5 .any (Rows.wordsLeadsSpec.pre6 enc Try.prog Try.f5 Rows.wordsLeadsRow.domain false) (Rows.wordsLeadsSpec.post enc Try.prog Try.f5 false true false false) := by
  refine returnsInHanded_of_change (C := Try.checked) Try.own started (by kernel_rfl) Try.func5
    (ChangeSpec.witness6 (enc := enc) (C := Try.checked) false ⟨#[], #[.agg #[.int .u64 0, .int .u64 0, .int .u64 0, .int .u64 0, .int .u64 0, .int .u64 0], .string ⟨#[]⟩], []⟩ 8 (by kernel_rfl) (by kernel_rfl) (by kernel_rfl) (by kernel_rfl)) ?_
  intro Wd base args ds gs before hval0 hW _ _
  have hval : ∀ (j : Nat) t v, Try.f5.params[j]? = some t → args[j]? = some v → Value.okWide Try.prog Wd .any base t v := hval0
  have hW' := hW
  obtain ⟨p, q, hA0, hV, rfl, _, _⟩ := hW
  have hA : DataW.TrodAll enc Try.prog Wd 0 (fun _ => true) true Try.f5.params.toList args.toList ds p := hA0
  rw [Try.params5] at hA hval
  obtain ⟨v0, v1, d0, d1, p0, p1, rfl, rfl, rfl, h0, h1⟩ := trodAll_two hA
  obtain ⟨rfl, rfl⟩ := trodVars_none hV
  obtain ⟨x0, rfl, rfl, t0⟩ := num_open h0 (hval 0 24 v0 rfl rfl)
  obtain ⟨x1, rfl, rfl, rfl, w1⟩ := open_string Try.underlying9 (hval 1 9 v1 rfl rfl) h1
  clear hA0 hval0
  simp only [List.append_nil] at hW'
  refine (wordsLeads_calls x0 x1 Wd).mono fun e W' ⟨he, hw⟩ => ?_
  subst he
  have hg := hw.grown
  exact ⟨_, rfl, post_of_same (pa := []) (pv := []) hW' (fun _ _ _ => trodAll_mk1 (shut_bool Try.underlying4 true)) (fun sp _ => trodAll_mk2 (t0 _ _ _ _) (shut_string Try.underlying9 w1)) (fun _ _ => rfl) rfl (hg.frame _) hg.2.1 (ok_one (by kernel_rfl) rfl (okWide_bool_mk Try.underlying4 true))⟩

theorem wordsLeads_holds : Rows.WordsLeadsSaid :=
  OpenClaim.holds_of_wide 5 Try.f5 rfl rfl rfl rfl rfl rfl rfl ⟨rfl, rfl, rfl, rfl, rfl⟩ rfl rfl rfl rfl rfl (by kernel_rfl) Try.func5 (by kernel_rfl)
    (of_decide_eq_true (by kernel_rfl)) (by unfold Func.isWrapper; rw [if_neg (of_decide_eq_false (by kernel_rfl))]; exact ⟨rfl, rfl⟩)
    (fun os started H enc _ => wordsLeads_lifted os started H enc)
end Go.Proofs.Ytiaongfgkmbaaaa
