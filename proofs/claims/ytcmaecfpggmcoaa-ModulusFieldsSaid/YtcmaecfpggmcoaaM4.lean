/- A modulus: inverses. -/
import Derived.Test.YtcmaecfpggmcoaaM3
namespace Go.Proofs.Ytcmaecfpggmcoaa
open Go.Rq Go

def GIv : Ctx := ctxL [(48, .rd (CM fNone)), (17, .rd (CM fRed)), (34, .pure cOf), (47, .pure cShift), (57, .rd (CM fHalf)), (35, .pure cCmp), (40, .pure cSub), (23, .rd (CM fSub))]
theorem GIv_ok : CtxOk Try.prog GIv := ctxL_cons okNone <| ctxL_cons okRed <| ctxL_cons okOf <| ctxL_cons okShift <| ctxL_cons okHalf <| ctxL_cons okCmp <| ctxL_cons okSub <| ctxL_cons okMSub ctxL_nil
def fInv (n : Nat → Nat) (l : Nat) (w : Nat → Nat) : List AV → Option (List Prop × AV)
  | [.v1 (.agg [.ws .u64 6 a])] => some ([ModI n l w], .tup [numV (invV (nv n) (nv a)), .sc (.it (invE (nv n) (nv a)))])
  | _ => none
structure I4 where
  u : Nat → Nat
  v : Nat → Nat
  x : Nat → Nat
  y : Nat → Nat
def I4.s (i : I4) : IS := ⟨nv i.u, nv i.v, nv i.x, nv i.y⟩
def VIv : List AV := [pt 0 0, pt 2 0, pt 5 0, pt 6 0, pt 8 0, pt 9 0]
def HIv (t : TypeId) (n : Nat → Nat) (l : Nat) (w a : Nat → Nat) (i : I4) : Heap := [some (mB t n l w), nb a, nb (fun _ => 0), none, none, nb i.u, nb i.v, none, nb i.x, nb i.y]
theorem eqW_nv {f g : Nat → Nat} (h : nv f = nv g) : (eqN W 6 f g && true) = true := by
  rw [Bool.and_true, eqN_iff]
  intro i hi
  rw [← wd_nv f i hi, ← wd_nv g i hi, h]
theorem neW_nv {f g : Nat → Nat} (h : nv f ≠ nv g) : (eqN W 6 f g && true) = false := by
  rw [Bool.and_true, ← Bool.not_eq_true, eqN_iff]
  intro e
  exact h (nv_congr e)
theorem zN_val (ρ : Ren) : (V1.agg [.ws .u64 6 (fun _ => 0)]).val ρ = (numV 0).val ρ := numV_val (by rw [zero_nv]; rfl) ρ

theorem okInv : (CallC.rd (CM fInv)).Ok Try.prog 29 := by
  refine CM_ok Try.func29 (by kernel_rfl) (by kernel_rfl) fun n l w rest pre v e hp => ?_
  unfold fInv at e
  split at e
  · rename_i a
    cases e
    have hM : ModI n l w := hp _ (List.mem_cons_self ..)
    have hN1 : 1 < nv n := by have := hM.three; omega
    have hs := hM.small
    have hnR := nv_lt n
    refine ⟨rfl, rfl, fun t => ?_⟩
    refine loopF mixed tt_ok GIv_ok (by kernel_rfl) (ι := {i : I4 // ISTo (nv n) (nv a) i.s}) [0,4,6,7,8,9] 75 10 (fun _ => VIv) (fun i => HIv t n l w a i.1) (fun i => i.1.s.u + i.1.s.v) (fun i => i.1.s.u = 0)
      (fun _ => rfl) (fun _ => by kernel_rfl) (fun _ => Dm_one) 80 [] ?_ ?_ ?_
    · refine same (p := ModI n l w ∧ ModI n l w ∧ true = true ∧ ∃ j : {i : I4 // ISTo (nv n) (nv a) i.s}, VIv = VIv ∧ HIv t n l w a ⟨wd (nv a % nv n), n, wd (1 % W), fun _ => 0⟩ = HIv t n l w a j.1) ?_ (by kernel_rfl)
      refine ⟨hM, hM, rfl, ⟨⟨wd (nv a % nv n), n, wd (1 % W), fun _ => 0⟩, ?_⟩, rfl, rfl⟩
      have : (I4.mk (wd (nv a % nv n)) n (wd (1 % W)) (fun _ => 0)).s = ⟨nv a % nv n, nv n, 1, 0⟩ := by
        unfold I4.s
        simp only [nv_modN hM, nv_one, zero_nv]
      rw [this]
      exact ISTo.start hM.odd hN1
    · intro ⟨⟨u, v, x, y⟩, hI⟩ junk
      have hI0 : ISTo (nv n) (nv a) ⟨nv u, nv v, nv x, nv y⟩ := hI
      have uN : nv u < nv n := hI0.1.uN
      have vN : nv v ≤ nv n := hI0.1.vN
      have v0 : 0 < nv v := hI0.1.v0
      have xN : nv x < nv n := hI0.1.xN
      have yN : nv y < nv n := hI0.1.yN
      by_cases hu : nv u = 0
      · refine roundF mixed tt_ok GIv_ok 80 [⟨5,2,.lit (.bo false)⟩] ?_
        refine same (p := (!(eqN W 6 u (fun _ => 0) && true)) = false ∧ true = true ∧ ∃ j : {i : I4 // ISTo (nv n) (nv a) i.s}, j.1.s.u = 0 ∧ VIv = VIv ∧ HIv t n l w a ⟨u, v, x, y⟩ = HIv t n l w a j.1) ?_ (by kernel_rfl)
        exact ⟨by rw [eqW_nv (by rw [hu, zero_nv])]; rfl, rfl, ⟨⟨u, v, x, y⟩, hI⟩, hu, rfl, rfl⟩
      · have hz : (!(eqN W 6 u (fun _ => 0) && true)) = true := by rw [neW_nv (by rw [zero_nv]; exact hu)]; rfl
        obtain ⟨st, lt⟩ := hI0.step hM.odd hu
        have next : ∀ u' v' x' y', invS (nv n) ⟨nv u, nv v, nv x, nv y⟩ = ⟨nv u', nv v', nv x', nv y'⟩ → ∃ j : {i : I4 // ISTo (nv n) (nv a) i.s}, j.1.s.u + j.1.s.v < nv u + nv v ∧ VIv = VIv ∧ HIv t n l w a ⟨u', v', x', y'⟩ = HIv t n l w a j.1 := by
          intro u' v' x' y' e
          rw [e] at st lt
          exact ⟨⟨⟨u', v', x', y'⟩, st⟩, lt, rfl, rfl⟩
        have hh : ∀ z, z ≤ nv n → nv (wd (shiftN z (-1) % R)) = z / 2 := fun z hz => by
          rw [shift_one, nv_wd, Nat.mod_mod, Nat.mod_eq_of_lt (by omega)]
        have hsub : ∀ p q, q ≤ p → p ≤ nv n → nv (wd ((p + R - q) % R)) = p - q := fun p q h1 h2 => by
          rw [nv_wd, Nat.mod_mod, ← less_gen h1 (by omega)]
        have hhalf : ∀ z, z < nv n → nv (wd (halfV (nv n) z)) = halfV (nv n) z := fun z hz => by
          rw [nv_wd, Nat.mod_eq_of_lt (Nat.lt_trans (halfV_two hM.odd hz).1 hnR)]
        have hsm : ∀ p q, nv (wd (subM (nv n) p q)) = subM (nv n) p q := fun p q => by
          rw [nv_wd, Nat.mod_eq_of_lt (Nat.lt_trans (subM_lt hM.pos) hnR)]
        have hb0 : ∀ f : Nat → Nat, Nat.beq ((f 0 &&& 1) % W) (0 % W) = Nat.beq (nv f % 2) 0 := fun f => low_bit f 0 (by omega)
        cases h1 : Nat.beq (nv u % 2) 0
        · cases h2 : Nat.beq (nv v % 2) 0
          · cases h3 : Nat.ble (nv v) (nv u)
            · have h3' : ¬ nv v ≤ nv u := by rw [← Nat.ble_eq, h3]; simp
              refine roundF mixed tt_ok GIv_ok 80 [⟨5,2,.lit (.bo true)⟩,⟨8,3,.lit (.bo false)⟩,⟨10,3,.lit (.bo false)⟩,⟨12,3,.lit (.bo false)⟩] ?_
              refine same (p := (!(eqN W 6 u (fun _ => 0) && true)) = true ∧ Nat.beq ((u 0 &&& 1) % W) (0 % W) = false ∧ Nat.beq ((v 0 &&& 1) % W) (0 % W) = false ∧ (!ilt (cmpI (nv u) (nv v)) 0) = false ∧ ModI n l w ∧ true = true ∧
                ∃ j : {i : I4 // ISTo (nv n) (nv a) i.s}, j.1.s.u + j.1.s.v < nv u + nv v ∧ VIv = VIv ∧ HIv t n l w a ⟨u, wd ((nv v + R - nv u) % R), x, wd (subM (nv n) (nv y) (nv x))⟩ = HIv t n l w a j.1) ?_ (by kernel_rfl)
              refine ⟨hz, by rw [hb0, h1], by rw [hb0, h2], by rw [cmp_ge, h3], hM, rfl, next _ _ _ _ ?_⟩
              unfold invS
              rw [h1, h2, h3, hsub _ _ (by omega) vN, hsm]
              rfl
            · have h3' : nv v ≤ nv u := by rw [← Nat.ble_eq, h3]
              refine roundF mixed tt_ok GIv_ok 80 [⟨5,2,.lit (.bo true)⟩,⟨8,3,.lit (.bo false)⟩,⟨10,3,.lit (.bo false)⟩,⟨12,3,.lit (.bo true)⟩] ?_
              refine same (p := (!(eqN W 6 u (fun _ => 0) && true)) = true ∧ Nat.beq ((u 0 &&& 1) % W) (0 % W) = false ∧ Nat.beq ((v 0 &&& 1) % W) (0 % W) = false ∧ (!ilt (cmpI (nv u) (nv v)) 0) = true ∧ ModI n l w ∧ true = true ∧
                ∃ j : {i : I4 // ISTo (nv n) (nv a) i.s}, j.1.s.u + j.1.s.v < nv u + nv v ∧ VIv = VIv ∧ HIv t n l w a ⟨wd ((nv u + R - nv v) % R), v, wd (subM (nv n) (nv x) (nv y)), y⟩ = HIv t n l w a j.1) ?_ (by kernel_rfl)
              refine ⟨hz, by rw [hb0, h1], by rw [hb0, h2], by rw [cmp_ge, h3], hM, rfl, next _ _ _ _ ?_⟩
              unfold invS
              rw [h1, h2, h3, hsub _ _ h3' (by omega), hsm]
              rfl
          · refine roundF mixed tt_ok GIv_ok 80 [⟨5,2,.lit (.bo true)⟩,⟨8,3,.lit (.bo false)⟩,⟨10,3,.lit (.bo true)⟩] ?_
            refine same (p := (!(eqN W 6 u (fun _ => 0) && true)) = true ∧ Nat.beq ((u 0 &&& 1) % W) (0 % W) = false ∧ Nat.beq ((v 0 &&& 1) % W) (0 % W) = true ∧ ModI n l w ∧ nv y < nv n ∧ true = true ∧
              ∃ j : {i : I4 // ISTo (nv n) (nv a) i.s}, j.1.s.u + j.1.s.v < nv u + nv v ∧ VIv = VIv ∧ HIv t n l w a ⟨u, wd (shiftN (nv v) (-1) % R), x, wd (halfV (nv n) (nv y))⟩ = HIv t n l w a j.1) ?_ (by kernel_rfl)
            refine ⟨hz, by rw [hb0, h1], by rw [hb0, h2], hM, yN, rfl, next _ _ _ _ ?_⟩
            unfold invS
            rw [h1, h2, hh _ vN, hhalf _ yN]
            rfl
        · refine roundF mixed tt_ok GIv_ok 80 [⟨5,2,.lit (.bo true)⟩,⟨8,3,.lit (.bo true)⟩] ?_
          refine same (p := (!(eqN W 6 u (fun _ => 0) && true)) = true ∧ Nat.beq ((u 0 &&& 1) % W) (0 % W) = true ∧ ModI n l w ∧ nv x < nv n ∧ true = true ∧
            ∃ j : {i : I4 // ISTo (nv n) (nv a) i.s}, j.1.s.u + j.1.s.v < nv u + nv v ∧ VIv = VIv ∧ HIv t n l w a ⟨wd (shiftN (nv u) (-1) % R), v, wd (halfV (nv n) (nv x)), y⟩ = HIv t n l w a j.1) ?_ (by kernel_rfl)
          refine ⟨hz, by rw [hb0, h1], hM, xN, rfl, next _ _ _ _ ?_⟩
          unfold invS
          rw [h1, hh _ (by omega), hhalf _ xN]
          rfl
    · intro ⟨⟨u, v, x, y⟩, hI⟩ junk h0
      have hI0 : ISTo (nv n) (nv a) ⟨nv u, nv v, nv x, nv y⟩ := hI
      have hF := hI0.fin h0
      refine same (p := match (!(eqN W 6 v (wd (1 % W)) && true)) with
        | true => endV t n l w (.tup [.agg [.ws .u64 6 (fun _ => 0)], .sc (.it 6)]) (.tup [numV (invV (nv n) (nv a)), .sc (.it (invE (nv n) (nv a)))])
        | false => endV t n l w (.tup [.agg [.ws .u64 6 y], .sc (.it 0)]) (.tup [numV (invV (nv n) (nv a)), .sc (.it (invE (nv n) (nv a)))])) ?_ (by kernel_rfl)
      cases hv : Nat.beq (nv v) 1
      · have hv' : nv v ≠ 1 := fun e => by rw [← Nat.beq_eq, hv] at e; cases e
        have hE : invE (nv n) (nv a) = 6 := by unfold invE; rw [hF, hv]; rfl
        have hV : invV (nv n) (nv a) = 0 := by unfold invV; rw [hF, hv]; rfl
        have hc : (!(eqN W 6 v (wd (1 % W)) && true)) = true := by rw [neW_nv (by rw [nv_one]; exact hv')]; rfl
        rw [hc]
        refine endV_of rfl fun ρ => ?_
        rw [hE, hV]
        simp only [AV.val, List.map_cons, List.map_nil, zN_val]
      · rw [Nat.beq_eq] at hv
        have hE : invE (nv n) (nv a) = 0 := by unfold invE; rw [hF, hv]; rfl
        have hV : invV (nv n) (nv a) = nv y := by unfold invV; rw [hF, hv]; rfl
        have hc : (!(eqN W 6 v (wd (1 % W)) && true)) = false := by rw [eqW_nv (by rw [nv_one]; exact hv)]; rfl
        rw [hc]
        refine endV_of rfl fun ρ => ?_
        rw [hE, hV]
        simp only [AV.val, List.map_cons, List.map_nil]
        rw [numV_val (n := nv y) (by rw [Nat.mod_eq_of_lt (nv_lt y)]) ρ]
  · cases e
end Go.Proofs.Ytcmaecfpggmcoaa
