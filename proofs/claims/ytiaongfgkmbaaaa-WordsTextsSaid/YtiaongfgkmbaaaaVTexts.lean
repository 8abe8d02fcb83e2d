/- reliquarylaw01.WordsTexts answers true at every input, and leaves it as it was. Conditions: none. -/
import Derived.Test.YtiaongfgkmbaaaaRows
import Derived.Test.YtiaongfgkmbaaaaV20
import Derived.ProofKit
import Derived.Carry
import Derived.ChangeMaps5
namespace Go.Proofs.Ytiaongfgkmbaaaa
open Go.Rq Go Go.ChangeShapes Go.WideShapes Go.ChangeAt Go.RowKit Go.ChangeMaps
set_option linter.unusedVariables false
set_option linter.unusedSimpArgs false
def gTx : List (Nat × CallC) := [(10, .mem cLent), (11, .new cBytes), (12, .rd cRead), (13, .rd cRead'), (14, .pure cParse), (15, .pure cParse), (16, .rd cSame), (17, .new cBytes'), (18, .mem cApart), (19, .rd cKept), (20, .pure cText), (21, .pure cText)]
theorem gTx_ok : CtxOk Try.prog (ctxL gTx) := ctxL_cons okLent <| ctxL_cons okBytesN <| ctxL_cons okRead <| ctxL_cons okRead' <| ctxL_cons okParse <| ctxL_cons okParse' <| ctxL_cons okSame <| ctxL_cons okBytesN' <| ctxL_cons okApart <| ctxL_cons okKept <| ctxL_cons okText <| ctxL_cons okText' ctxL_nil
theorem rd_lent {n : Nat} {f : Nat → Nat} : rdV n (lentF n f) = rdV n f := by
  unfold rdV
  rw [byN_congr (f := lentF n f) (g := f) fun j hj => by rw [lentF_lt hj]]
theorem eqW_of {f g : Nat → Nat} (h : f = g) : (eqN W 6 f g && true) = true := by rw [h]; exact eqW_self g
theorem lim200 {n : Nat} (h : n ≤ 200) : n + 3 ≤ limN := by unfold limN; omega
theorem addS {n : Nat} {f : Nat → Nat} : eqStr n (fun j => f (addN 0 j)) n f = true := eqStr_of fun j _ => by rw [addN_eq, Nat.zero_add]
theorem wt_win {a g f : Nat → Nat} {m t1 o1 n c1 : Nat} {v1 : WrapV} (hn : n ≤ 200) (hl : ilt 200 (Int.ofNat n) = false) (hm : ilt 200 (Int.ofNat m) = false) : AWqS Try.prog (Dm [wB t1 o1 n f v1]) (flatC (bodyOf Try.f3)) (fun e s => FEndM tt Try.f3 (upto 0 ([wB t1 o1 n f v1] : Heap).length) (.v1 (.sc (.bo true))) [wB t1 o1 n f v1] e s) ⟨frame0 [.v1 (.agg [.ws .u64 6 a]), .v1 (.sc (.sl 0 o1 n c1)), strV m g] Try.f3.ntmps, [wB t1 o1 n f v1]⟩ := by
  refine evS_q mixed tt_ok gTx_ok 100 [⟨1,2,.lit (.bo false)⟩,⟨1,6,.lit (.bo false)⟩,⟨9,3,.lit (.bo true)⟩,⟨9,7,.lit (.bo true)⟩,⟨9,19,.lit (.bo true)⟩,⟨9,24,.lit (.bo true)⟩,⟨9,29,.lit (.bo true)⟩,⟨9,36,.lit (.bo true)⟩,⟨9,41,.lit (.bo true)⟩,⟨9,46,.lit (.bo true)⟩] (same (p := ilt 200 (Int.ofNat n) = false ∧ ilt 200 (Int.ofNat m) = false ∧ o1 ≤ o1 ∧ o1 - o1 + n ≤ n ∧ n + 3 ≤ limN ∧ n ≤ n + 3 ∧ o1 ≤ o1 ∧ o1 - o1 + n ≤ n ∧ n < 9223372036854775807 ∧ eqStr 48 (fun j => byF (nv a) (addN 0 j)) 48 (byF (nv a)) = true ∧ 0 + 48 ≤ 48 ∧ 48 ≤ 48 ∧ eqStr 48 (fun j => byF (nv a) (addN 0 j)) 48 (fun j => byF (nv a) (addN 0 j)) = true ∧ 0 + 48 ≤ 48 ∧ 0 + 48 ≤ 48 ∧ 48 = 48 ∧ 0 < 48 ∧ 48 ≤ limN ∧ 48 = 48 ∧ 0 < 48 ∧ 48 ≤ limN ∧ n + 3 = n + 3 ∧ 0 < n + 3 ∧ n + 3 ≤ limN ∧ (eqN W 6 (wd (rdV n (lentF n (fun j => f (o1 - o1 + j))))) (wd (rdV n (fun j => f (o1 - o1 + j)))) && true) = true ∧ ieq (rdE n) (rdE n) = true ∧ eqStr (n + 3) (fun j => lentF n (fun j => f (o1 - o1 + j)) (addN 0 j)) (n + 3) (lentF n (fun j => f (o1 - o1 + j))) = true ∧ 0 + (n + 3) ≤ n + 3 ∧ o1 ≤ o1 ∧ o1 - o1 + n ≤ n ∧ n = n ∧ n + 3 = n + 3 ∧ n + 3 ≤ limN ∧ eqStr (tLen (nv a)) (txF (nv a) (tLen (nv a))) (tLen (nv a)) (txF (nv a) (tLen (nv a))) = true ∧ (eqN W 6 (wd (parV m g)) (wd (parV m g)) && true) = true ∧ ieq (parE m g) (parE m g) = true ∧ endM [0] [wB t1 o1 n f v1] [wB t1 o1 n f v1] (.v1 (.sc (.bo true))) (.v1 (.sc (.bo true)))) ?_ (by kernel_rfl))
  exact ⟨hl, hm, Nat.le_refl _, win_le, lim200 hn, by omega, Nat.le_refl _, win_le, by omega, addS, by decide, by decide, eqStr_self, by decide, by decide, rfl, by decide, by decide, rfl, by decide, by decide, rfl, by omega, lim200 hn, eqW_of (by rw [rd_lent]), ieq_self _, kept_self, by omega, Nat.le_refl _, win_le, rfl, rfl, lim200 hn, eqStr_self, eqW_self _, ieq_self _, endM_same rfl rfl⟩
theorem wt_nil {a g : Nat → Nat} {m : Nat} {w1 : Option Addr} (hm : ilt 200 (Int.ofNat m) = false) : AWqS Try.prog (Dm []) (flatC (bodyOf Try.f3)) (fun e s => FEndM tt Try.f3 (upto 0 ([] : Heap).length) (.v1 (.sc (.bo true))) [] e s) ⟨frame0 [.v1 (.agg [.ws .u64 6 a]), emS w1, strV m g] Try.f3.ntmps, []⟩ := by
  refine evS_q mixed tt_ok gTx_ok 100 [⟨1,6,.lit (.bo false)⟩,⟨9,3,.lit (.bo true)⟩,⟨9,7,.lit (.bo true)⟩,⟨9,19,.lit (.bo true)⟩,⟨9,24,.lit (.bo true)⟩,⟨9,29,.lit (.bo true)⟩,⟨9,36,.lit (.bo true)⟩,⟨9,41,.lit (.bo true)⟩,⟨9,46,.lit (.bo true)⟩] (same (p := ilt 200 (Int.ofNat m) = false ∧ 0 + 3 ≤ limN ∧ 0 ≤ 0 + 3 ∧ 0 < 9223372036854775807 ∧ eqStr 48 (fun j => byF (nv a) (addN 0 j)) 48 (byF (nv a)) = true ∧ 0 + 48 ≤ 48 ∧ 48 ≤ 48 ∧ eqStr 48 (fun j => byF (nv a) (addN 0 j)) 48 (fun j => byF (nv a) (addN 0 j)) = true ∧ 0 + 48 ≤ 48 ∧ 0 + 48 ≤ 48 ∧ 48 = 48 ∧ 0 < 48 ∧ 48 ≤ limN ∧ 48 = 48 ∧ 0 < 48 ∧ 48 ≤ limN ∧ 0 + 3 = 0 + 3 ∧ 0 < 0 + 3 ∧ 0 + 3 ≤ limN ∧ (eqN W 6 (wd (rdV 0 (lentF 0 (fun _ => 0)))) (wd (rdV 0 (fun _ => 0))) && true) = true ∧ ieq (rdE 0) (rdE 0) = true ∧ eqStr (0 + 3) (fun j => lentF 0 (fun _ => 0) (addN 0 j)) (0 + 3) (lentF 0 (fun _ => 0)) = true ∧ 0 + (0 + 3) ≤ 0 + 3 ∧ 0 = 0 ∧ 0 + 3 = 0 + 3 ∧ 0 + 3 ≤ limN ∧ eqStr (tLen (nv a)) (txF (nv a) (tLen (nv a))) (tLen (nv a)) (txF (nv a) (tLen (nv a))) = true ∧ (eqN W 6 (wd (parV m g)) (wd (parV m g)) && true) = true ∧ ieq (parE m g) (parE m g) = true ∧ endM [] [] [] (.v1 (.sc (.bo true))) (.v1 (.sc (.bo true)))) ?_ (by kernel_rfl))
  exact ⟨hm, lim200 (by omega), by omega, by omega, addS, by decide, by decide, eqStr_self, by decide, by decide, rfl, by decide, by decide, rfl, by decide, by decide, rfl, by omega, lim200 (by omega), eqW_of (by rw [rd_lent]), ieq_self _, kept_self, by omega, rfl, rfl, lim200 (by omega), eqStr_self, eqW_self _, ieq_self _, endM_same rfl rfl⟩
theorem wt_long {a g f : Nat → Nat} {m t1 o1 n c1 : Nat} {v1 : WrapV} (hl : ilt 200 (Int.ofNat n) = true) : AWqS Try.prog (Dm [wB t1 o1 n f v1]) (flatC (bodyOf Try.f3)) (fun e s => FEndM tt Try.f3 (upto 0 ([wB t1 o1 n f v1] : Heap).length) (.v1 (.sc (.bo true))) [wB t1 o1 n f v1] e s) ⟨frame0 [.v1 (.agg [.ws .u64 6 a]), .v1 (.sc (.sl 0 o1 n c1)), strV m g] Try.f3.ntmps, [wB t1 o1 n f v1]⟩ := by
  refine evS_q mixed tt_ok gTx_ok 100 [⟨1,2,.lit (.bo true)⟩] (same (p := ilt 200 (Int.ofNat n) = true ∧ endM [0] [wB t1 o1 n f v1] [wB t1 o1 n f v1] (.v1 (.sc (.bo true))) (.v1 (.sc (.bo true)))) ?_ (by kernel_rfl))
  exact ⟨hl, endM_same rfl rfl⟩
theorem wt_str {a g f : Nat → Nat} {m t1 o1 n c1 : Nat} {v1 : WrapV} (hl : ilt 200 (Int.ofNat n) = false) (hm : ilt 200 (Int.ofNat m) = true) : AWqS Try.prog (Dm [wB t1 o1 n f v1]) (flatC (bodyOf Try.f3)) (fun e s => FEndM tt Try.f3 (upto 0 ([wB t1 o1 n f v1] : Heap).length) (.v1 (.sc (.bo true))) [wB t1 o1 n f v1] e s) ⟨frame0 [.v1 (.agg [.ws .u64 6 a]), .v1 (.sc (.sl 0 o1 n c1)), strV m g] Try.f3.ntmps, [wB t1 o1 n f v1]⟩ := by
  refine evS_q mixed tt_ok gTx_ok 100 [⟨1,2,.lit (.bo false)⟩,⟨1,6,.lit (.bo true)⟩] (same (p := ilt 200 (Int.ofNat n) = false ∧ ilt 200 (Int.ofNat m) = true ∧ endM [0] [wB t1 o1 n f v1] [wB t1 o1 n f v1] (.v1 (.sc (.bo true))) (.v1 (.sc (.bo true)))) ?_ (by kernel_rfl))
  exact ⟨hl, hm, endM_same rfl rfl⟩
theorem wt_str0 {a g : Nat → Nat} {m : Nat} {w1 : Option Addr} (hm : ilt 200 (Int.ofNat m) = true) : AWqS Try.prog (Dm []) (flatC (bodyOf Try.f3)) (fun e s => FEndM tt Try.f3 (upto 0 ([] : Heap).length) (.v1 (.sc (.bo true))) [] e s) ⟨frame0 [.v1 (.agg [.ws .u64 6 a]), emS w1, strV m g] Try.f3.ntmps, []⟩ := by
  refine evS_q mixed tt_ok gTx_ok 100 [⟨1,6,.lit (.bo true)⟩] (same (p := ilt 200 (Int.ofNat m) = true ∧ endM [] [] [] (.v1 (.sc (.bo true))) (.v1 (.sc (.bo true)))) ?_ (by kernel_rfl))
  exact ⟨hm, endM_same rfl rfl⟩
theorem wordsTexts_calls (a : Nat → Nat) (s : ByteArray) (Wd : World) {n : Nat} {f : Nat → Nat} {v : Value} (hv : (Sh.vs n f).Sem Wd (fun _ => True) v) :
    Calls Try.prog 3 #[(AV.v1 (.agg [.ws .u64 6 a])).val fun _ => 0, v, .string s] Wd (fun e w' => e = .returned (.bool true) ∧ StepW Wd w') := by
  have hs : Value.string s = (strV s.size (byteAt s)).val fun _ => 0 := by simp only [AV.val, V1.val, Sc.val, bytesF_byteAt]
  rw [hs]
  generalize s.size = m
  generalize byteAt s = g
  refine views_calls tt_ok Try.func3 (by kernel_rfl) [.pl (.v1 (.agg [.ws .u64 6 a])), .vs n f, .pl (strV m g)] (xs := [(AV.v1 (.agg [.ws .u64 6 a])).val fun _ => 0, v, (strV m g).val fun _ => 0]) ⟨⟨rfl, rfl⟩, hv, ⟨rfl, rfl⟩, trivial⟩ (v := .v1 (.sc (.bo true))) rfl fun b Wn hi => ?_
  rcases hi with _ | ⟨hi⟩ | _ | _ | _
  rcases hi with _ | _ | ⟨w1, hn, hi⟩ | ⟨t1, o1, c1, v1, hi⟩ | _
  · rcases hi with _ | ⟨hi⟩ | _ | _ | _
    cases hi
    cases hm : ilt 200 (Int.ofNat m)
    · exact wt_nil hm
    · exact wt_str0 hm
  · rcases hi with _ | ⟨hi⟩ | _ | _ | _
    cases hi
    cases hl : ilt 200 (Int.ofNat n)
    · have hn : n ≤ 200 := by
        have : ¬ (200 : Int) < Int.ofNat n := fun e => by rw [← ilt_iff, hl] at e; cases e
        simp only [Int.ofNat_eq_natCast] at this; omega
      cases hm : ilt 200 (Int.ofNat m)
      · exact wt_win hn hl hm
      · exact wt_str hl hm
    · exact wt_long hl
theorem wordsTexts_lifted (os : Os) (started : os.Started) (H : Type) (enc : TypeId × Value → H) :
    ReturnsInHanded {} Try.checked os 3 .any (Rows.wordsTextsSpec.pre6 enc Try.prog Try.f3 Rows.wordsTextsRow.domain false) (Rows.wordsTextsSpec.post enc Try.prog Try.f3 false true false false) := by
  refine returnsInHanded_of_change (C := Try.checked) Try.own started (by kernel_rfl) Try.func3
    (ChangeSpec.witness6 (enc := enc) (C := Try.checked) false ⟨#[], #[.agg #[.int .u64 0, .int .u64 0, .int .u64 0, .int .u64 0, .int .u64 0, .int .u64 0], .slice none 0 0, .string ⟨#[]⟩], []⟩ 8 (by kernel_rfl) (by kernel_rfl) (by kernel_rfl) (by kernel_rfl)) ?_
  intro Wd base args ds gs before hval0 hW _ _
  have hval : ∀ (j : Nat) t v, Try.f3.params[j]? = some t → args[j]? = some v → Value.okWide Try.prog Wd .any base t v := hval0
  have hW' := hW
  obtain ⟨p, q, hA0, hV, rfl, _, _⟩ := hW
  have hA : DataW.TrodAll enc Try.prog Wd 0 (fun _ => true) true Try.f3.params.toList args.toList ds p := hA0
  rw [Try.params3] at hA hval
  obtain ⟨v0, v1, v2, d0, d1, d2, p0, p1, p2, rfl, rfl, rfl, h0, h1, h2⟩ := trodAll_three hA
  obtain ⟨rfl, rfl⟩ := trodVars_none hV
  obtain ⟨x0, rfl, rfl, t0⟩ := num_open h0 (hval 0 24 v0 rfl rfl)
  obtain ⟨n1, f1, s1, t1⟩ := bytes_open h1 (hval 1 25 v1 rfl rfl)
  obtain ⟨x2, rfl, rfl, rfl, w2⟩ := open_string Try.underlying9 (hval 2 9 v2 rfl rfl) h2
  clear hA0 hval0
  simp only [List.append_nil, List.nil_append] at hW'
  refine (wordsTexts_calls x0 x2 Wd s1).mono fun e W' ⟨he, hw⟩ => ?_
  subst he
  have hg := hw.grown
  exact ⟨_, rfl, post_of_same (pa := p1) (pv := []) hW' (fun _ _ _ => trodAll_mk1 (shut_bool Try.underlying4 true)) (fun sp hsp => by have hq := trodAll_mk3 (t0 _ _ _ _) (t1 _ hw sp (fun q hq => hsp q (by simp [hq]))) (shut_string Try.underlying9 w2); simp only [List.append_nil, List.nil_append] at hq; exact hq) (fun _ _ => rfl) (by simp) (hg.frame _) hg.2.1 (ok_one (by kernel_rfl) rfl (okWide_bool_mk Try.underlying4 true))⟩

theorem wordsTexts_holds : Rows.WordsTextsSaid :=
  OpenClaim.holds_of_wide 3 Try.f3 rfl rfl rfl rfl rfl rfl rfl ⟨rfl, rfl, rfl, rfl, rfl⟩ rfl rfl rfl rfl rfl (by kernel_rfl) Try.func3 (by kernel_rfl)
    (of_decide_eq_true (by kernel_rfl)) (by unfold Func.isWrapper; rw [if_neg (of_decide_eq_false (by kernel_rfl))]; exact ⟨rfl, rfl⟩)
    (fun os started H enc _ => wordsTexts_lifted os started H enc)
end Go.Proofs.Ytiaongfgkmbaaaa
