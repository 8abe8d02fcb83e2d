/- The document's powers, inverses and roots. -/
import Derived.Test.YtcmaecfpggmcoaaM9
namespace Go.Proofs.Ytcmaecfpggmcoaa
open Go.Rq Go

def two2e (F : Nat → Nat → Nat) (X : Nat → Nat → Int) : List AV → Option (List Prop × AV)
  | [.v1 (.agg [.ws .u64 6 n]), .v1 (.agg [.ws .u64 6 a])] => some ([MayM (nv n)], .tup [numV (F (nv n) (nv a)), .sc (.it (X (nv n) (nv a)))])
  | _ => none
theorem two2e_ok {F : Nat → Nat → Nat} {X : Nat → Nat → Int} {f : FuncId} {fn : Func} (hf : Try.prog.funcs[f]? = some fn) (hb : fn.body = some (bodyOf fn)) (hn : (fn.name == "runtime.NumGoroutine") = false)
    (h : ∀ n a : Nat → Nat, MayM (nv n) → AWqS Try.prog (fun _ => False) (flatC (bodyOf fn)) (FEnd' tt fn (.tup [numV (F (nv n) (nv a)), .sc (.it (X (nv n) (nv a)))])) ⟨frame0 [nm n, nm a] fn.ntmps, []⟩) : (CallC.pure (two2e F X)).Ok Try.prog f := by
  intro args pre v e hp
  unfold two2e at e
  split at e
  · rename_i n a
    cases e
    exact pure_walk' tt_ok hf hb hn (by rfl) (by rfl) (h n a (hp _ (List.mem_cons_self ..)))
  · cases e

/-! Pow -/
def GP2 : Ctx := ctxL [(18, .pure (two2 remN)), (11, .pure cLen), (43, .pure cBit), (28, .pure (two3 mulN'))]
theorem GP2_ok : CtxOk Try.prog GP2 := ctxL_cons okRed' <| ctxL_cons okLen' <| ctxL_cons okBit' <| ctxL_cons okMMul' ctxL_nil
def VP2 (k : Nat) : List AV := [pt 0 0, pt 1 0, pt 2 0, pt 3 0, pt 5 0, iv (predI k)]
def HP2 (n a e o : Nat → Nat) : Heap := [nb n, nb a, nb e, nb (fun _ => 0), none, nb o]
def InvP2 (n a e : Nat → Nat) (x : Nat × (Nat → Nat)) : Prop := x.1 ≤ 384 ∧ PwI (nv n) (nv a) (nv e) x.1 (nv x.2)
theorem nv_u1 : nv (upd (fun _ => 0) 0 1) = 1 := by kernel_rfl
theorem okPow' : (CallC.pure (two3 powM)).Ok Try.prog 32 := by
  refine two3_ok Try.func32 (by kernel_rfl) (by kernel_rfl) fun n a e hM => ?_
  have hbl : blen (nv e) ≤ 384 := by
    have := nv_lt e; rw [R_pow] at this
    have := blen_lt this; rw [E_eq] at this; exact this
  refine loopF mixed tt_ok GP2_ok (by kernel_rfl) (ι := {x // InvP2 n a e x}) [3,4,5,6,7,8] 32 6 (fun x => VP2 x.1.1) (fun x => HP2 n a e x.1.2) (fun x => x.1.1) (fun x => x.1.1 = 0)
    (fun _ => rfl) (fun _ => by kernel_rfl) (fun _ _ h => h.elim) 60 [⟨2,2,.lit (.it (predI (blen (nv e))))⟩] ?_ ?_ ?_
  · refine same (p := MayM (nv n) ∧ wrapI (Int.ofNat (blen (nv e)) - 1) = predI (blen (nv e)) ∧ true = true ∧
      ∃ j : {x // InvP2 n a e x}, VP2 (blen (nv e)) = VP2 j.1.1 ∧ HP2 n a e (wd (remN (nv n) (nv (upd (fun _ => 0) 0 1)))) = HP2 n a e j.1.2) ?_ (by kernel_rfl)
    refine ⟨hM, predI_eq (by omega), rfl, ⟨(blen (nv e), wd (remN (nv n) (nv (upd (fun _ => 0) 0 1)))), hbl, ?_⟩, rfl, rfl⟩
    simp only
    unfold remN
    rw [nv_rem hM, nv_u1]
    exact PwI.start (lt_blen _)
  · intro ⟨⟨k, o⟩, hk, ho⟩ junk
    simp only at hk ho
    cases k with
    | zero =>
      refine roundF mixed tt_ok GP2_ok 60 [] ?_
      refine same (p := true = true ∧ ∃ j : {x // InvP2 n a e x}, j.1.1 = 0 ∧ VP2 0 = VP2 j.1.1 ∧ HP2 n a e o = HP2 n a e j.1.2) ?_ (by kernel_rfl)
      exact ⟨rfl, ⟨(0, o), hk, ho⟩, rfl, rfl, rfl⟩
    | succ k =>
      have st := ho.step
      have hge : (!ilt (Int.ofNat k) 0) = true := by rw [ilt_nn]; rfl
      have hs : wrapI (Int.ofNat k - 1) = predI k := predI_eq (by omega)
      have next : ∀ o', PwI (nv n) (nv a) (nv e) k (nv o') → ∃ j : {x // InvP2 n a e x}, j.1.1 < k + 1 ∧ VP2 k = VP2 j.1.1 ∧ HP2 n a e o' = HP2 n a e j.1.2 :=
        fun o' h' => ⟨⟨(k, o'), by simp only; omega, h'⟩, by simp only; omega, rfl, rfl⟩
      have hbit : nv e / 2 ^ k % 2 = 0 ∨ nv e / 2 ^ k % 2 = 1 := by omega
      rcases hbit with h0 | h0
      · refine roundF mixed tt_ok GP2_ok 60 [⟨3,1,.lit (.bo true)⟩,⟨6,3,.lit (.bo false)⟩,⟨4,1,.lit (.it (predI k))⟩] ?_
        refine same (p := (!ilt (Int.ofNat k) 0) = true ∧ MayM (nv n) ∧ ieq (Int.ofNat (nv e / 2 ^ k % 2)) 1 = false ∧ wrapI (Int.ofNat k - 1) = predI k ∧ true = true ∧
          ∃ j : {x // InvP2 n a e x}, j.1.1 < k + 1 ∧ VP2 k = VP2 j.1.1 ∧ HP2 n a e (wd (mulN' (nv n) (nv o) (nv o))) = HP2 n a e j.1.2) ?_ (by kernel_rfl)
        exact ⟨hge, hM, by rw [h0]; rfl, hs, rfl, next _ (by unfold mulN'; rw [nv_rem hM]; exact st.1 h0)⟩
      · refine roundF mixed tt_ok GP2_ok 60 [⟨3,1,.lit (.bo true)⟩,⟨6,3,.lit (.bo true)⟩,⟨4,1,.lit (.it (predI k))⟩] ?_
        refine same (p := (!ilt (Int.ofNat k) 0) = true ∧ MayM (nv n) ∧ ieq (Int.ofNat (nv e / 2 ^ k % 2)) 1 = true ∧ MayM (nv n) ∧ wrapI (Int.ofNat k - 1) = predI k ∧ true = true ∧
          ∃ j : {x // InvP2 n a e x}, j.1.1 < k + 1 ∧ VP2 k = VP2 j.1.1 ∧ HP2 n a e (wd (mulN' (nv n) (nv (wd (mulN' (nv n) (nv o) (nv o)))) (nv a))) = HP2 n a e j.1.2) ?_ (by kernel_rfl)
        exact ⟨hge, hM, by rw [h0]; rfl, hM, hs, rfl, next _ (by unfold mulN'; rw [nv_rem hM, nv_rem hM]; exact st.2 h0)⟩
  · intro ⟨⟨k, o⟩, hk, ho⟩ junk h0
    simp only at hk ho h0
    subst h0
    exact same (p := endN (nm o) (numA (powM (nv n) (nv a) (nv e)))) (endN_nm ho.fin) (by kernel_rfl)

/-! Inv -/
def GI2 : Ctx := ctxL [(18, .pure (two2 remN)), (53, .pure cDiv2), (28, .pure (two3 mulN')), (24, .pure (two3 subM))]
theorem GI2_ok : CtxOk Try.prog GI2 := ctxL_cons okRed' <| ctxL_cons (okDiv2_of okDiv') <| ctxL_cons okMMul' <| ctxL_cons okMSub' ctxL_nil
structure E4 where
  r : Nat → Nat
  s : Nat → Nat
  x : Nat → Nat
  y : Nat → Nat
abbrev E4.ok (i : E4) (N A : Nat) : Prop := EiI N A (nv i.r) (nv i.s) (nv i.x) (nv i.y)
def VI2 : List AV := [pt 0 0, pt 2 0, pt 4 0, pt 5 0, pt 6 0, pt 7 0]
def HI2 (n a : Nat → Nat) (i : E4) : Heap := [nb n, nb a, nb (fun _ => 0), none, nb i.r, nb i.s, nb i.x, nb i.y]
theorem dQ_eq {x y : Nat} (h : y ≠ 0) : dQ x y = x / y := by
  unfold dQ
  have : Nat.beq y 0 = false := by rw [← Bool.not_eq_true, Nat.beq_eq]; exact h
  rw [this]; rfl
theorem dR_eq {x y : Nat} (h : y ≠ 0) : dR x y = x % y := by
  unfold dR
  have : Nat.beq y 0 = false := by rw [← Bool.not_eq_true, Nat.beq_eq]; exact h
  rw [this]; rfl
theorem okInv' : (CallC.pure (two2e invV invE)).Ok Try.prog 30 := by
  refine two2e_ok Try.func30 (by kernel_rfl) (by kernel_rfl) fun n a hM => ?_
  refine loopK mixed tt_ok GI2_ok 0 (by kernel_rfl) (ι := {i : E4 // i.ok (nv n) (nv a)}) [2,4,6,7,8,9] 43 8 (fun _ => VI2) (fun i => HI2 n a i.1) (fun i => nv i.1.s) (fun i => nv i.1.s = 0)
    (fun _ => rfl) (fun _ => by kernel_rfl) (fun _ _ h => h.elim) 60 [] ?_ ?_ ?_
  · refine same (p := MayM (nv n) ∧ true = true ∧ ∃ j : {i : E4 // i.ok (nv n) (nv a)}, VI2 = VI2 ∧ HI2 n a ⟨n, wd (remN (nv n) (nv a)), fun _ => 0, upd (fun _ => 0) 0 1⟩ = HI2 n a j.1) ?_ (by kernel_rfl)
    refine ⟨hM, rfl, ⟨⟨n, wd (remN (nv n) (nv a)), fun _ => 0, upd (fun _ => 0) 0 1⟩, ?_⟩, rfl, rfl⟩
    unfold E4.ok remN
    simp only
    rw [nv_rem hM, nv_u1, zero_nv]
    exact EiI.start hM.one
  · intro ⟨⟨r, s, x, y⟩, hI⟩ junk
    have hI0 : EiI (nv n) (nv a) (nv r) (nv s) (nv x) (nv y) := hI
    by_cases hs : nv s = 0
    · refine roundF mixed tt_ok GI2_ok 60 [⟨4,2,.lit (.bo false)⟩] ?_
      refine same (p := (!(eqN W 6 s (fun _ => 0) && true)) = false ∧ true = true ∧ ∃ j : {i : E4 // i.ok (nv n) (nv a)}, nv j.1.s = 0 ∧ VI2 = VI2 ∧ HI2 n a ⟨r, s, x, y⟩ = HI2 n a j.1) ?_ (by kernel_rfl)
      exact ⟨by rw [eqW_nv (by rw [hs, zero_nv])]; rfl, rfl, ⟨⟨r, s, x, y⟩, hI⟩, hs, rfl, rfl⟩
    · refine roundF mixed tt_ok GI2_ok 60 [⟨4,2,.lit (.bo true)⟩] ?_
      refine same (p := (!(eqN W 6 s (fun _ => 0) && true)) = true ∧ MayM (nv n) ∧ MayM (nv n) ∧ true = true ∧ ∃ j : {i : E4 // i.ok (nv n) (nv a)}, nv j.1.s < nv s ∧ VI2 = VI2 ∧
        HI2 n a ⟨s, wd (dR (nv r) (nv s)), y, wd (subM (nv n) (nv x) (nv (wd (mulN' (nv n) (nv (wd (dQ (nv r) (nv s)))) (nv y)))))⟩ = HI2 n a j.1) ?_ (by kernel_rfl)
      have hs0 : 0 < nv s := by omega
      have hrR := nv_lt r
      have hlt : nv r % nv s < nv s := Nat.mod_lt _ hs0
      have e1 : nv (wd (dR (nv r) (nv s))) = nv r % nv s := by
        rw [dR_eq hs, nv_wd, Nat.mod_eq_of_lt (Nat.lt_of_le_of_lt (Nat.mod_le _ _) hrR)]
      have e2 : nv (wd (subM (nv n) (nv x) (nv (wd (mulN' (nv n) (nv (wd (dQ (nv r) (nv s)))) (nv y)))))) = subM (nv n) (nv x) (nv r / nv s * nv y % nv n) := by
        rw [nv_low hM (subM_lt hM.pos)]
        unfold mulN'
        rw [nv_rem hM, dQ_eq hs, nv_wd, Nat.mod_eq_of_lt (Nat.lt_of_le_of_lt (Nat.div_le_self _ _) hrR)]
      refine ⟨by rw [neW_nv (by rw [zero_nv]; exact hs)]; rfl, hM, hM, rfl, ⟨⟨s, wd (dR (nv r) (nv s)), y, wd (subM (nv n) (nv x) (nv (wd (mulN' (nv n) (nv (wd (dQ (nv r) (nv s)))) (nv y)))))⟩, ?_⟩, ?_, rfl, rfl⟩
      · unfold E4.ok
        simp only
        rw [e1, e2]
        exact hI0.step hs0
      · simp only
        rw [e1]; exact hlt
  · intro ⟨⟨r, s, x, y⟩, hI⟩ junk hs
    have hI0 : EiI (nv n) (nv a) (nv r) (nv s) (nv x) (nv y) := hI
    have hs' : nv s = 0 := hs
    rw [hs'] at hI0
    obtain ⟨f1, f2⟩ := hI0.fin hM.1 hM.one
    by_cases hr : nv r = 1
    · obtain ⟨g1, g2⟩ := f1 hr
      refine evS_q mixed tt_ok GI2_ok 60 [⟨8,2,.lit (.bo false)⟩] ?_
      refine same (p := (!(eqN W 6 r (upd (fun _ => 0) 0 1) && true)) = false ∧ endN (.tup [.agg [.ws .u64 6 x], .sc (.it 0)]) (.tup [numV (invV (nv n) (nv a)), .sc (.it (invE (nv n) (nv a)))])) ?_ (by kernel_rfl)
      exact ⟨by rw [eqW_nv (by rw [hr, nv_u1])]; rfl, endN_pair g1 g2.symm⟩
    · obtain ⟨g1, g2⟩ := f2 hr
      refine evS_q mixed tt_ok GI2_ok 60 [⟨8,2,.lit (.bo true)⟩] ?_
      refine same (p := (!(eqN W 6 r (upd (fun _ => 0) 0 1) && true)) = true ∧ endN (.tup [.agg [.ws .u64 6 (fun _ => 0)], .sc (.it 6)]) (.tup [numV (invV (nv n) (nv a)), .sc (.it (invE (nv n) (nv a)))])) ?_ (by kernel_rfl)
      exact ⟨by rw [neW_nv (by rw [nv_u1]; exact hr)]; rfl, endN_pair (by rw [zero_nv, g1]) g2.symm⟩

/-! Root -/
def GR2 : Ctx := ctxL [(50, .pure cAdd), (51, .pure cShift), (44, .pure cCmp), (32, .pure (two3 powM)), (28, .pure (two3 mulN')), (18, .pure (two2 remN)), (26, .pure (two2 negN))]
theorem GR2_ok : CtxOk Try.prog GR2 := ctxL_cons okAdd' <| ctxL_cons okShift' <| ctxL_cons okCmp' <| ctxL_cons okPow' <| ctxL_cons okMMul' <| ctxL_cons okRed' <| ctxL_cons okMNeg' ctxL_nil
abbrev rt4 (n : Nat → Nat) : Nat → Nat := wd (shiftN (nv (wd ((nv n + nv (upd (fun _ => 0) 0 1)) % R))) (-2) % R)
theorem okRoot' : (CallC.pure (two2e rootV rootE)).Ok Try.prog 15 := by
  refine two2e_ok Try.func15 (by kernel_rfl) (by kernel_rfl) fun n a hM => ?_
  have hs := hM.small
  have h3 := hM.2.2
  have hnR := nv_lt n
  cases h4 : Nat.beq (nv n % 4) 1
  · have he : nv (rt4 n) = (nv n + 1) / 4 := by
      unfold rt4
      rw [nv_u1, shift_two, nv_wd, nv_wd, Nat.mod_mod, Nat.mod_mod, Nat.mod_eq_of_lt (show nv n + 1 < R by omega), Nat.mod_eq_of_lt (show (nv n + 1) / 4 < R by omega)]
    obtain ⟨C, hC⟩ : ∃ C, C = wd (powM (nv n) (nv a) (nv (rt4 n))) := ⟨_, rfl⟩
    have hCv : nv C = rootC (nv n) (nv a) := by
      rw [hC, he, nv_low hM (powM_lt hM.pos _)]; rfl
    have hD : nv (wd (negN (nv n) (nv C))) = subM (nv n) 0 (nv C) := by
      unfold negN
      rw [nv_low hM (subM_lt hM.pos)]
    cases hok : rootOk (nv n) (nv a)
    · refine evS_q mixed tt_ok GR2_ok 60 [⟨1,3,.lit (.bo false)⟩,⟨5,7,.lit (.bo true)⟩] ?_
      refine same (p := Nat.beq ((n 0 &&& 3) % W) (1 % W) = false ∧ MayM (nv n) ∧ MayM (nv n) ∧ MayM (nv n) ∧
        (!(eqN W 6 (wd (mulN' (nv n) (nv (wd (powM (nv n) (nv a) (nv (rt4 n))))) (nv (wd (powM (nv n) (nv a) (nv (rt4 n))))))) (wd (remN (nv n) (nv a))) && true)) = true ∧
        endN (.tup [.agg [.ws .u64 6 (fun _ => 0)], .sc (.it 6)]) (.tup [numV (rootV (nv n) (nv a)), .sc (.it (rootE (nv n) (nv a)))])) ?_ (by kernel_rfl)
      rw [← hC]
      refine ⟨by rw [low_two n 1 (by omega), h4], hM, hM, hM, ?_, endN_pair ?_ ?_⟩
      · unfold mulN' remN
        rw [neW_nv]; rfl
        rw [nv_rem hM, nv_rem hM, hCv]
        intro e
        unfold rootOk at hok
        rw [e, ← Bool.not_eq_true, Nat.beq_eq] at hok
        exact hok rfl
      · rw [zero_nv]; unfold rootV; rw [h4, hok]; rfl
      · unfold rootE; rw [h4, hok]; rfl
    · have hsq : (!(eqN W 6 (wd (mulN' (nv n) (nv C) (nv C))) (wd (remN (nv n) (nv a))) && true)) = false := by
        unfold mulN' remN
        rw [eqW_nv]; rfl
        rw [nv_rem hM, nv_rem hM, hCv]
        unfold rootOk at hok
        rwa [Nat.beq_eq] at hok
      cases hlt : Nat.blt (subM (nv n) 0 (nv C)) (nv C)
      · refine evS_q mixed tt_ok GR2_ok 60 [⟨1,3,.lit (.bo false)⟩,⟨5,7,.lit (.bo false)⟩,⟨8,3,.lit (.bo false)⟩] ?_
        refine same (p := Nat.beq ((n 0 &&& 3) % W) (1 % W) = false ∧ MayM (nv n) ∧ MayM (nv n) ∧ MayM (nv n) ∧
          (!(eqN W 6 (wd (mulN' (nv n) (nv (wd (powM (nv n) (nv a) (nv (rt4 n))))) (nv (wd (powM (nv n) (nv a) (nv (rt4 n))))))) (wd (remN (nv n) (nv a))) && true)) = false ∧
          MayM (nv n) ∧ ilt (cmpI (nv (wd (negN (nv n) (nv (wd (powM (nv n) (nv a) (nv (rt4 n)))))))) (nv (wd (powM (nv n) (nv a) (nv (rt4 n)))))) 0 = false ∧
          endN (.tup [.agg [.ws .u64 6 (wd (powM (nv n) (nv a) (nv (rt4 n))))], .sc (.it 0)]) (.tup [numV (rootV (nv n) (nv a)), .sc (.it (rootE (nv n) (nv a)))])) ?_ (by kernel_rfl)
        rw [← hC]
        refine ⟨by rw [low_two n 1 (by omega), h4], hM, hM, hM, hsq, hM, by rw [cmp_lt', hD, hlt], endN_pair ?_ ?_⟩
        · unfold rootV rootX; rw [h4, hok, ← hCv, hlt]; rfl
        · unfold rootE; rw [h4, hok]; rfl
      · refine evS_q mixed tt_ok GR2_ok 60 [⟨1,3,.lit (.bo false)⟩,⟨5,7,.lit (.bo false)⟩,⟨8,3,.lit (.bo true)⟩] ?_
        refine same (p := Nat.beq ((n 0 &&& 3) % W) (1 % W) = false ∧ MayM (nv n) ∧ MayM (nv n) ∧ MayM (nv n) ∧
          (!(eqN W 6 (wd (mulN' (nv n) (nv (wd (powM (nv n) (nv a) (nv (rt4 n))))) (nv (wd (powM (nv n) (nv a) (nv (rt4 n))))))) (wd (remN (nv n) (nv a))) && true)) = false ∧
          MayM (nv n) ∧ ilt (cmpI (nv (wd (negN (nv n) (nv (wd (powM (nv n) (nv a) (nv (rt4 n)))))))) (nv (wd (powM (nv n) (nv a) (nv (rt4 n)))))) 0 = true ∧
          endN (.tup [.agg [.ws .u64 6 (wd (negN (nv n) (nv (wd (powM (nv n) (nv a) (nv (rt4 n)))))))], .sc (.it 0)]) (.tup [numV (rootV (nv n) (nv a)), .sc (.it (rootE (nv n) (nv a)))])) ?_ (by kernel_rfl)
        rw [← hC]
        refine ⟨by rw [low_two n 1 (by omega), h4], hM, hM, hM, hsq, hM, by rw [cmp_lt', hD, hlt], endN_pair ?_ ?_⟩
        · rw [hD]; unfold rootV rootX; rw [h4, hok, ← hCv, hlt]; rfl
        · unfold rootE; rw [h4, hok]; rfl
  · refine evS_q mixed tt_ok GR2_ok 60 [⟨1,3,.lit (.bo true)⟩] ?_
    refine same (p := Nat.beq ((n 0 &&& 3) % W) (1 % W) = true ∧ endN (.tup [.agg [.ws .u64 6 (fun _ => 0)], .sc (.it 2)]) (.tup [numV (rootV (nv n) (nv a)), .sc (.it (rootE (nv n) (nv a)))])) ?_ (by kernel_rfl)
    refine ⟨by rw [low_two n 1 (by omega), h4], endN_pair ?_ ?_⟩
    · rw [zero_nv]; unfold rootV; rw [h4]; rfl
    · unfold rootE; rw [h4]; rfl
end Go.Proofs.Ytcmaecfpggmcoaa
