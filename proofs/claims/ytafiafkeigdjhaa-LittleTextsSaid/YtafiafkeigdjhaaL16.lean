/- A point of bytes: Read of the code and of the document. Printed by genl16.py. -/
import Derived.Test.YtafiafkeigdjhaaL15
namespace Go.Proofs.Ytafiafkeigdjhaa
open Go.Rq Go
set_option linter.unusedVariables false
set_option linter.unusedSimpArgs false

/-- A window's byte: what an address asks. -/
def wx (o n i : Nat) (q : Prop) : Prop := 0 ≤ Int.ofNat i ∧ Int.ofNat i < (n : Int) ∧ o ≤ addN o i ∧ addN o i < o + n ∧ q
theorem wx_of {o n i : Nat} {q : Prop} (h : i < n) (k : q) : wx o n i q := ⟨Int.natCast_nonneg _, by simp; exact h, by rw [addN_eq]; omega, by rw [addN_eq]; omega, k⟩
abbrev wbv (o i : Nat) (f : Nat → Nat) : Nat := f (addN o i - o)
theorem wbv_eq {o i : Nat} {f : Nat → Nat} : wbv o i f = f i := by
  unfold wbv; rw [addN_eq]; congr 1; omega
def wx0 (o n : Nat) (q : Prop) : Prop := o ≤ addN o 0 ∧ addN o 0 < o + n ∧ q
theorem wx0_of {o n : Nat} {q : Prop} (h : 0 < n) (k : q) : wx0 o n q := ⟨by rw [addN_eq]; omega, by rw [addN_eq]; omega, k⟩
theorem beP_or (f : Nat → Nat) (a k : Nat) : (beP f a k * 256 ||| f (a + k) % 256) = beP f a (k + 1) := beP_step (Nat.mod_lt _ (by omega))
theorem ine17 {n : Nat} (h : n ≠ 17) : (!ieq (Int.ofNat n) 17) = true := by
  have : ieq (Int.ofNat n) 17 = false := by
    rw [← Bool.not_eq_true, ieq_iff]; simp only [Int.ofNat_eq_natCast]; omega
  rw [this]; rfl
theorem rdE_n {p n : Nat} {I : LP → Bool} {f : Nat → Nat} (h : n ≠ 17) : rdE p I n f = 4 := by
  have : Nat.beq n 17 = false := by rw [← Bool.not_eq_true, Nat.beq_eq]; exact h
  unfold rdE; rw [this, cond_false]
theorem rdE_b {p : Nat} {I : LP → Bool} {f : Nat → Nat} (h : Nat.blt 1 (f 0 % 256) = true) : rdE p I 17 f = 4 := by
  unfold rdE; rw [h]; rfl
theorem rdE_o {p : Nat} {I : LP → Bool} {f : Nat → Nat} (h : Nat.blt 1 (f 0 % 256) = false) (h1 : onB p (rdP f) = false) : rdE p I 17 f = 4 := by
  unfold rdE; rw [h, h1]; rfl
theorem rdE_i {p : Nat} {I : LP → Bool} {f : Nat → Nat} (h : Nat.blt 1 (f 0 % 256) = false) (h1 : onB p (rdP f) = true) (h2 : I (rdP f) = false) : rdE p I 17 f = 5 := by
  unfold rdE; rw [h, h1, h2]; rfl
theorem rdE_k {p : Nat} {I : LP → Bool} {f : Nat → Nat} (h : Nat.blt 1 (f 0 % 256) = false) (h1 : onB p (rdP f) = true) (h2 : I (rdP f) = true) : rdE p I 17 f = 0 := by
  unfold rdE; rw [h, h1, h2]; rfl
abbrev rdV (p r n : Nat) (f : Nat → Nat) : AV := .tup [.agg (pC (rdQ p (inN p r) n f).x (rdQ p (inN p r) n f).y (rdQ p (inN p r) n f).z), .sc (.it (Int.ofNat (rdE p (inN p r) n f)))]
theorem rdV_err {p r n e : Nat} {f : Nat → Nat} (h : rdE p (inN p r) n f = e + 1) : (.tup [.agg (pC 0 0 false), .sc (.it (Int.ofNat (e + 1)))] : AV) = rdV p r n f := by
  unfold rdV rdQ
  rw [h]; rfl
theorem rdV_ok {p r n : Nat} {f : Nat → Nat} (h : rdE p (inN p r) n f = 0) : (.tup [.agg (pC (rdP f).x (rdP f).y (rdP f).z), .sc (.it (Int.ofNat 0))] : AV) = rdV p r n f := by
  unfold rdV rdQ
  rw [h]; rfl

def kRead (s : Int) (p r c gx gy : Nat) (args : List AV) (h : Heap) : Option (List Prop × AV) :=
  match args with
  | [.v1 (.sc (.it t)), x] => match vw h x with
    | some (n, f, q) => some (q ++ [t = s], rdV p r n f)
    | none => none
  | _ => none
def kReadB (args : List AV) (h : Heap) : Option (List Prop × AV) :=
  match args with
  | [.v1 (.sc (.it t)), x] => match vw h x with
    | some (n, f, q) => some (q ++ [t ≠ 1, t ≠ 2], .tup [.agg (pC 0 0 false), .sc (.it 2)])
    | none => none
  | _ => none
def GRd (s : Int) (p r c gx gy : Nat) : List (Nat × CallC) := [(42, .pure (kChk0 (fun t => t = s) (chV p r c gx gy 0))), (44, .pure (y1 LwP fun p _ P => .v1 (.sc (.bo (onB p P))))), (45, .pure (y1 LwP fun p r P => .v1 (.sc (.bo (inN p r P)))))]
theorem GRd_ok {s : Int} {p r c gx gy : Nat} (hC : CuOk s p r c gx gy) : CtxOk Try.prog (ctxL (GRd s p r c gx gy)) := ctxL_cons (okChk0 hC) <| ctxL_cons okOn <| ctxL_cons okIn ctxL_nil
theorem read_walk {s : Int} {p r c gx gy : Nat} (hC : CuOk s p r c gx gy) {t : Int} (hs : t = s) {t1 o1 c1 : Nat} {f : Nat → Nat} {v1 : WrapV} : AWqS Try.prog (Dm [wB t1 o1 17 f v1]) (flatC (bodyOf Try.f13)) (FEndM tt Try.f13 [0] (rdV p r 17 f) [wB t1 o1 17 f v1]) ⟨frame0 [.v1 (.sc (.it t)), .v1 (.sc (.sl 0 o1 17 c1))] Try.f13.ntmps, [wB t1 o1 17 f v1]⟩ := by
  have hl := rdP_lw f
  have hPw : LwP p (rdP f) := ⟨hl.1, hl.2⟩
  refine loopK mixed tt_ok (GRd_ok hC) 0 (by kernel_rfl) (ι := {k : Nat // k ≤ 8}) [1,4,6,8,28] 71 5 (fun k => [.v1 (.sc (.sl 0 o1 17 c1)), pt 1 0, pt 3 0, pt 4 0, iv (Int.ofNat k.1)]) (fun k => [wB t1 o1 17 f v1, pB ⟨0, 0, false⟩, none, some ⟨72, cvC p r c gx gy false, 0, 0⟩, pB ⟨beP f 1 k.1, beP f 9 k.1, Nat.beq (f 0 % 256) 1⟩]) (fun k => 8 - k.1) (fun k => k.1 = 8)
    (fun _ => rfl) (fun _ => by kernel_rfl) (fun k j h => by have := Dm_lt h; simp at this; subst this; exact ⟨_, rfl⟩) 60 [⟨6,2,.sym⟩,⟨6,3,.lit (.bo (Nat.beq (f 0 % 256) 1))⟩] ?_ ?_ ?_
  · refine same (p := t = s ∧ wx0 o1 17 (Nat.beq (wbv o1 0 f % 256) 1 = Nat.beq (f 0 % 256) 1 ∧ true = true ∧ ∃ j : {k : Nat // k ≤ 8}, [.v1 (.sc (.sl 0 o1 17 c1)), pt 1 0, pt 3 0, pt 4 0, iv (Int.ofNat 0)] = [.v1 (.sc (.sl 0 o1 17 c1)), pt 1 0, pt 3 0, pt 4 0, iv (Int.ofNat j.1)] ∧ [wB t1 o1 17 f v1, pB ⟨0, 0, false⟩, none, some ⟨72, cvC p r c gx gy false, 0, 0⟩, pB ⟨beP f 1 0, beP f 9 0, Nat.beq (f 0 % 256) 1⟩] = [wB t1 o1 17 f v1, pB ⟨0, 0, false⟩, none, some ⟨72, cvC p r c gx gy false, 0, 0⟩, pB ⟨beP f 1 j.1, beP f 9 j.1, Nat.beq (f 0 % 256) 1⟩])) ?_ (by kernel_rfl)
    exact ⟨hs, wx0_of (by omega) ⟨by rw [wbv_eq], rfl, ⟨0, by omega⟩, rfl, rfl⟩⟩
  · intro ⟨k, hk⟩ junk
    by_cases h8 : k < 8
    · refine roundF mixed tt_ok (GRd_ok hC) 60 [⟨8,0,.lit (.bo true)⟩,⟨10,5,.lit (.it (Int.ofNat (1+k)))⟩,⟨10,6,.sym⟩,⟨10,7,.sym⟩,⟨10,15,.lit (.it (Int.ofNat (9+k)))⟩,⟨10,16,.sym⟩,⟨10,17,.sym⟩,⟨11,0,.lit (.it (Int.ofNat (k+1)))⟩] ?_
      refine same (p := ilt (Int.ofNat k) 8 = true ∧ wrapI (1 + Int.ofNat k) = Int.ofNat (1 + k) ∧ wx o1 17 (1 + k) (wrapI (9 + Int.ofNat k) = Int.ofNat (9 + k) ∧ wx o1 17 (9 + k) (wrapI (Int.ofNat k + 1) = Int.ofNat (k + 1) ∧ true = true ∧
        ∃ j : {k : Nat // k ≤ 8}, 8 - j.1 < 8 - k ∧ [.v1 (.sc (.sl 0 o1 17 c1)), pt 1 0, pt 3 0, pt 4 0, iv (Int.ofNat (k + 1))] = [.v1 (.sc (.sl 0 o1 17 c1)), pt 1 0, pt 3 0, pt 4 0, iv (Int.ofNat j.1)] ∧ [wB t1 o1 17 f v1, pB ⟨0, 0, false⟩, none, some ⟨72, cvC p r c gx gy false, 0, 0⟩, pB ⟨beP f 1 k * 256 ||| wbv o1 (1 + k) f % 256, beP f 9 k * 256 ||| wbv o1 (9 + k) f % 256, Nat.beq (f 0 % 256) 1⟩] = [wB t1 o1 17 f v1, pB ⟨0, 0, false⟩, none, some ⟨72, cvC p r c gx gy false, 0, 0⟩, pB ⟨beP f 1 j.1, beP f 9 j.1, Nat.beq (f 0 % 256) 1⟩]))) ?_ (by kernel_rfl)
      refine ⟨ilt_t (n := 8) h8, wrapI_add (a := 1) (b := k) (by omega), wx_of (by omega) ⟨wrapI_add (a := 9) (b := k) (by omega), wx_of (by omega) ⟨wrapI_succ (by omega), rfl, ⟨k + 1, by omega⟩, by simp only; omega, rfl, ?_⟩⟩⟩
      rw [wbv_eq, wbv_eq, beP_or, beP_or]
    · have : k = 8 := by omega
      subst this
      refine roundF mixed tt_ok (GRd_ok hC) 60 [] ?_
      refine same (p := true = true ∧ ∃ j : {k : Nat // k ≤ 8}, j.1 = 8 ∧ [.v1 (.sc (.sl 0 o1 17 c1)), pt 1 0, pt 3 0, pt 4 0, iv (Int.ofNat 8)] = [.v1 (.sc (.sl 0 o1 17 c1)), pt 1 0, pt 3 0, pt 4 0, iv (Int.ofNat j.1)] ∧ [wB t1 o1 17 f v1, pB ⟨0, 0, false⟩, none, some ⟨72, cvC p r c gx gy false, 0, 0⟩, pB ⟨beP f 1 8, beP f 9 8, Nat.beq (f 0 % 256) 1⟩] = [wB t1 o1 17 f v1, pB ⟨0, 0, false⟩, none, some ⟨72, cvC p r c gx gy false, 0, 0⟩, pB ⟨beP f 1 j.1, beP f 9 j.1, Nat.beq (f 0 % 256) 1⟩]) ?_ (by kernel_rfl)
      exact ⟨rfl, ⟨8, by omega⟩, rfl, rfl, rfl⟩
  · intro ⟨k, hk⟩ junk h8
    simp only at h8
    subst h8
    cases hb : Nat.blt 1 (f 0 % 256)
    · cases ho : onB p (rdP f)
      · refine evS_q mixed tt_ok (GRd_ok hC) 60 [⟨12,2,.sym⟩,⟨12,3,.lit (.bo false)⟩,⟨12,7,.lit (.bo false)⟩] (same (p := wx0 o1 17 (Nat.blt 1 (wbv o1 0 f % 256) = false ∧ onB p (rdP f) = false ∧ Gp p ∧ LwP p (rdP f) ∧ endM [0] [wB t1 o1 17 f v1] [wB t1 o1 17 f v1] (.tup [.agg (pC 0 0 false), .sc (.it (Int.ofNat 4))]) (rdV p r 17 f))) ?_ (by kernel_rfl))
        exact wx0_of (by omega) ⟨by rw [wbv_eq]; exact hb, ho, hC.gp, hPw, endM_same rfl (rdV_err (rdE_o hb ho))⟩
      · cases hi : inN p r (rdP f)
        · refine evS_q mixed tt_ok (GRd_ok hC) 60 [⟨12,2,.sym⟩,⟨12,3,.lit (.bo false)⟩,⟨12,7,.lit (.bo true)⟩,⟨14,2,.lit (.bo false)⟩] (same (p := wx0 o1 17 (Nat.blt 1 (wbv o1 0 f % 256) = false ∧ onB p (rdP f) = true ∧ Gp p ∧ LwP p (rdP f) ∧ inN p r (rdP f) = false ∧ Gp p ∧ LwP p (rdP f) ∧ endM [0] [wB t1 o1 17 f v1] [wB t1 o1 17 f v1] (.tup [.agg (pC 0 0 false), .sc (.it (Int.ofNat 5))]) (rdV p r 17 f))) ?_ (by kernel_rfl))
          exact wx0_of (by omega) ⟨by rw [wbv_eq]; exact hb, ho, hC.gp, hPw, hi, hC.gp, hPw, endM_same rfl (rdV_err (rdE_i hb ho hi))⟩
        · refine evS_q mixed tt_ok (GRd_ok hC) 60 [⟨12,2,.sym⟩,⟨12,3,.lit (.bo false)⟩,⟨12,7,.lit (.bo true)⟩,⟨14,2,.lit (.bo true)⟩] (same (p := wx0 o1 17 (Nat.blt 1 (wbv o1 0 f % 256) = false ∧ onB p (rdP f) = true ∧ Gp p ∧ LwP p (rdP f) ∧ inN p r (rdP f) = true ∧ Gp p ∧ LwP p (rdP f) ∧ endM [0] [wB t1 o1 17 f v1] [wB t1 o1 17 f v1] (.tup [.agg (pC (rdP f).x (rdP f).y (rdP f).z), .sc (.it (Int.ofNat 0))]) (rdV p r 17 f))) ?_ (by kernel_rfl))
          exact wx0_of (by omega) ⟨by rw [wbv_eq]; exact hb, ho, hC.gp, hPw, hi, hC.gp, hPw, endM_same rfl (rdV_ok (rdE_k hb ho hi))⟩
    · refine evS_q mixed tt_ok (GRd_ok hC) 60 [⟨12,2,.sym⟩,⟨12,3,.lit (.bo true)⟩] (same (p := wx0 o1 17 (Nat.blt 1 (wbv o1 0 f % 256) = true ∧ endM [0] [wB t1 o1 17 f v1] [wB t1 o1 17 f v1] (.tup [.agg (pC 0 0 false), .sc (.it (Int.ofNat 4))]) (rdV p r 17 f))) ?_ (by kernel_rfl))
      exact wx0_of (by omega) ⟨by rw [wbv_eq]; exact hb, endM_same rfl (rdV_err (rdE_b hb))⟩
theorem okERead {s : Int} {p r c gx gy : Nat} (hC : CuOk s p r c gx gy) : (CallC.rd (kRead s p r c gx gy)).Ok Try.prog 13 := by
  refine ⟨fun args h pre v e hp => ?_, fun args h slot blk hs ha => ?_⟩
  · unfold kRead at e
    split at e
    rotate_left
    · cases e
    rename_i t x
    split at e
    rotate_left
    · cases e
    rename_i n f q hx
    cases e
    have hs : t = s := hp _ (by simp)
    refine views_call tt_ok Try.func13 (by kernel_rfl) (by kernel_rfl) [.pl (.v1 (.sc (.it t))), .vs n f] (args := [.v1 (.sc (.it t)), x])
      ⟨⟨rfl, rfl⟩, ⟨q, hx, fun p hq => hp p (List.mem_append_left _ hq)⟩, trivial⟩ 0 [] (rdV p r n f) rfl rfl rfl (fun t ht => by simp at ht) fun a W hi => ⟨[], rfl, ?_⟩
    rcases hi with _ | ⟨hi⟩ | _ | _ | _
    rcases hi with _ | _ | ⟨w1, hn, hi⟩ | ⟨t1, o1, c1, v1, hi⟩ | _
    · cases hi
      subst hn
      refine evS_q mixed tt_ok (GRd_ok hC) 60 [] (same (p := t = s ∧ endM [] [] [] (.tup [.agg (pC 0 0 false), .sc (.it (Int.ofNat 4))]) (rdV p r 0 f)) ?_ (by kernel_rfl))
      exact ⟨hs, endM_same rfl (rdV_err (rdE_n (by omega)))⟩
    · cases hi
      by_cases hn : n = 17
      · subst hn
        exact read_walk hC hs
      · refine evS_q mixed tt_ok (GRd_ok hC) 60 [⟨4,2,.lit (.bo true)⟩] (same (p := t = s ∧ (!ieq (Int.ofNat n) 17) = true ∧ endM [0] [wB t1 o1 n f v1] [wB t1 o1 n f v1] (.tup [.agg (pC 0 0 false), .sc (.it (Int.ofNat 4))]) (rdV p r n f)) ?_ (by kernel_rfl))
        exact ⟨hs, ine17 hn, endM_same rfl (rdV_err (rdE_n hn))⟩
  · unfold kRead
    split
    · rename_i t x
      rw [vw_local hs (ha x (by simp))]
    · rfl
def GRdB : List (Nat × CallC) := [(42, .pure (kChk0 qBad0 (zCh 2)))]
theorem GRdB_ok : CtxOk Try.prog (ctxL GRdB) := ctxL_cons okChk0B ctxL_nil
theorem okEReadB : (CallC.rd kReadB).Ok Try.prog 13 := by
  refine ⟨fun args h pre v e hp => ?_, fun args h slot blk hs ha => ?_⟩
  · unfold kReadB at e
    split at e
    rotate_left
    · cases e
    rename_i t x
    split at e
    rotate_left
    · cases e
    rename_i n f q hx
    cases e
    have b1 : t ≠ 1 := hp _ (by simp)
    have b2 : t ≠ 2 := hp _ (by simp)
    refine views_call tt_ok Try.func13 (by kernel_rfl) (by kernel_rfl) [.pl (.v1 (.sc (.it t))), .vs n f] (args := [.v1 (.sc (.it t)), x])
      ⟨⟨rfl, rfl⟩, ⟨q, hx, fun p hq => hp p (List.mem_append_left _ hq)⟩, trivial⟩ 0 [] (.tup [.agg (pC 0 0 false), .sc (.it 2)]) rfl rfl rfl (fun t ht => by simp at ht) fun a W hi => ⟨[], rfl, ?_⟩
    rcases hi with _ | ⟨hi⟩ | _ | _ | _
    rcases hi with _ | _ | ⟨w1, hn, hi⟩ | ⟨t1, o1, c1, v1, hi⟩ | _
    · cases hi
      exact evS_q mixed tt_ok GRdB_ok 60 [] (same (p := qBad0 t ∧ endM [] [] [] (.tup [.agg (pC 0 0 false), .sc (.it 2)]) (.tup [.agg (pC 0 0 false), .sc (.it 2)])) ⟨⟨b1, b2⟩, endM_same rfl rfl⟩ (by kernel_rfl))
    · cases hi
      exact evS_q mixed tt_ok GRdB_ok 60 [] (same (p := qBad0 t ∧ endM [0] [wB t1 o1 n f v1] [wB t1 o1 n f v1] (.tup [.agg (pC 0 0 false), .sc (.it 2)]) (.tup [.agg (pC 0 0 false), .sc (.it 2)])) ⟨⟨b1, b2⟩, endM_same rfl rfl⟩ (by kernel_rfl))
  · unfold kReadB
    split
    · rename_i t x
      rw [vw_local hs (ha x (by simp))]
    · rfl
def cRead' (args : List AV) (h : Heap) : Option (List Prop × AV) :=
  match args with
  | [.v1 (.agg [.one (.w .u64 p), .one (.w .u64 r), .one (.w .u64 c), .one (.w .u64 gx), .one (.w .u64 gy), .one (.bo gz)]), x] => match vw h x with
    | some (n, f, q) => some (q ++ [Gp p], rdV p r n f)
    | none => none
  | _ => none
def GRd' : List (Nat × CallC) := [(16, .pure (y1 LwP fun p _ P => .v1 (.sc (.bo (onB p P))))), (25, .pure (y1 LwP fun p r P => .v1 (.sc (.bo (inN p r P)))))]
theorem GRd'_ok : CtxOk Try.prog (ctxL GRd') := ctxL_cons okOn' <| ctxL_cons okIn' ctxL_nil
theorem read_walk' {p r c gx gy : Nat} {gz : Bool} (hP : Gp p) {t1 o1 c1 : Nat} {f : Nat → Nat} {v1 : WrapV} : AWqS Try.prog (Dm [wB t1 o1 17 f v1]) (flatC (bodyOf Try.f15)) (FEndM tt Try.f15 [0] (rdV p r 17 f) [wB t1 o1 17 f v1]) ⟨frame0 [.v1 (.agg (cvC p r c gx gy gz)), .v1 (.sc (.sl 0 o1 17 c1))] Try.f15.ntmps, [wB t1 o1 17 f v1]⟩ := by
  have hl := rdP_lw f
  have hPw : LwP p (rdP f) := ⟨hl.1, hl.2⟩
  refine loopK mixed tt_ok GRd'_ok 0 (by kernel_rfl) (ι := {k : Nat // k ≤ 8}) [1,2,4,6,7] 60 4 (fun k => [.v1 (.sc (.sl 0 o1 17 c1)), pt 1 0, pt 2 0, pt 3 0, iv (Int.ofNat k.1)]) (fun k => [wB t1 o1 17 f v1, some ⟨29, cvC p r c gx gy gz, 0, 0⟩, pB ⟨0, 0, false⟩, pB ⟨beP f 1 k.1, beP f 9 k.1, Nat.beq (f 0 % 256) 1⟩]) (fun k => 8 - k.1) (fun k => k.1 = 8)
    (fun _ => rfl) (fun _ => by kernel_rfl) (fun k j h => by have := Dm_lt h; simp at this; subst this; exact ⟨_, rfl⟩) 60 [⟨4,2,.sym⟩,⟨4,3,.lit (.bo (Nat.beq (f 0 % 256) 1))⟩] ?_ ?_ ?_
  · refine same (p := wx0 o1 17 (Nat.beq (wbv o1 0 f % 256) 1 = Nat.beq (f 0 % 256) 1 ∧ true = true ∧ ∃ j : {k : Nat // k ≤ 8}, [.v1 (.sc (.sl 0 o1 17 c1)), pt 1 0, pt 2 0, pt 3 0, iv (Int.ofNat 0)] = [.v1 (.sc (.sl 0 o1 17 c1)), pt 1 0, pt 2 0, pt 3 0, iv (Int.ofNat j.1)] ∧ [wB t1 o1 17 f v1, some ⟨29, cvC p r c gx gy gz, 0, 0⟩, pB ⟨0, 0, false⟩, pB ⟨beP f 1 0, beP f 9 0, Nat.beq (f 0 % 256) 1⟩] = [wB t1 o1 17 f v1, some ⟨29, cvC p r c gx gy gz, 0, 0⟩, pB ⟨0, 0, false⟩, pB ⟨beP f 1 j.1, beP f 9 j.1, Nat.beq (f 0 % 256) 1⟩])) ?_ (by kernel_rfl)
    exact wx0_of (by omega) ⟨by rw [wbv_eq], rfl, ⟨0, by omega⟩, rfl, rfl⟩
  · intro ⟨k, hk⟩ junk
    by_cases h8 : k < 8
    · refine roundF mixed tt_ok GRd'_ok 60 [⟨6,1,.lit (.bo true)⟩,⟨8,5,.lit (.it (Int.ofNat (1+k)))⟩,⟨8,6,.sym⟩,⟨8,7,.sym⟩,⟨9,5,.lit (.it (Int.ofNat (9+k)))⟩,⟨9,6,.sym⟩,⟨9,7,.sym⟩,⟨7,1,.lit (.it (Int.ofNat (k+1)))⟩] ?_
      refine same (p := ilt (Int.ofNat k) 8 = true ∧ wrapI (1 + Int.ofNat k) = Int.ofNat (1 + k) ∧ wx o1 17 (1 + k) (wrapI (9 + Int.ofNat k) = Int.ofNat (9 + k) ∧ wx o1 17 (9 + k) (wrapI (Int.ofNat k + 1) = Int.ofNat (k + 1) ∧ true = true ∧
        ∃ j : {k : Nat // k ≤ 8}, 8 - j.1 < 8 - k ∧ [.v1 (.sc (.sl 0 o1 17 c1)), pt 1 0, pt 2 0, pt 3 0, iv (Int.ofNat (k + 1))] = [.v1 (.sc (.sl 0 o1 17 c1)), pt 1 0, pt 2 0, pt 3 0, iv (Int.ofNat j.1)] ∧ [wB t1 o1 17 f v1, some ⟨29, cvC p r c gx gy gz, 0, 0⟩, pB ⟨0, 0, false⟩, pB ⟨beP f 1 k * 256 ||| wbv o1 (1 + k) f % 256, beP f 9 k * 256 ||| wbv o1 (9 + k) f % 256, Nat.beq (f 0 % 256) 1⟩] = [wB t1 o1 17 f v1, some ⟨29, cvC p r c gx gy gz, 0, 0⟩, pB ⟨0, 0, false⟩, pB ⟨beP f 1 j.1, beP f 9 j.1, Nat.beq (f 0 % 256) 1⟩]))) ?_ (by kernel_rfl)
      refine ⟨ilt_t (n := 8) h8, wrapI_add (a := 1) (b := k) (by omega), wx_of (by omega) ⟨wrapI_add (a := 9) (b := k) (by omega), wx_of (by omega) ⟨wrapI_succ (by omega), rfl, ⟨k + 1, by omega⟩, by simp only; omega, rfl, ?_⟩⟩⟩
      rw [wbv_eq, wbv_eq, beP_or, beP_or]
    · have : k = 8 := by omega
      subst this
      refine roundF mixed tt_ok GRd'_ok 60 [] ?_
      refine same (p := true = true ∧ ∃ j : {k : Nat // k ≤ 8}, j.1 = 8 ∧ [.v1 (.sc (.sl 0 o1 17 c1)), pt 1 0, pt 2 0, pt 3 0, iv (Int.ofNat 8)] = [.v1 (.sc (.sl 0 o1 17 c1)), pt 1 0, pt 2 0, pt 3 0, iv (Int.ofNat j.1)] ∧ [wB t1 o1 17 f v1, some ⟨29, cvC p r c gx gy gz, 0, 0⟩, pB ⟨0, 0, false⟩, pB ⟨beP f 1 8, beP f 9 8, Nat.beq (f 0 % 256) 1⟩] = [wB t1 o1 17 f v1, some ⟨29, cvC p r c gx gy gz, 0, 0⟩, pB ⟨0, 0, false⟩, pB ⟨beP f 1 j.1, beP f 9 j.1, Nat.beq (f 0 % 256) 1⟩]) ?_ (by kernel_rfl)
      exact ⟨rfl, ⟨8, by omega⟩, rfl, rfl, rfl⟩
  · intro ⟨k, hk⟩ junk h8
    simp only at h8
    subst h8
    cases hb : Nat.blt 1 (f 0 % 256)
    · cases ho : onB p (rdP f)
      · refine evS_q mixed tt_ok GRd'_ok 60 [⟨10,2,.sym⟩,⟨10,3,.lit (.bo false)⟩,⟨10,7,.lit (.bo false)⟩] (same (p := wx0 o1 17 (Nat.blt 1 (wbv o1 0 f % 256) = false ∧ onB p (rdP f) = false ∧ Gp p ∧ LwP p (rdP f) ∧ endM [0] [wB t1 o1 17 f v1] [wB t1 o1 17 f v1] (.tup [.agg (pC 0 0 false), .sc (.it (Int.ofNat 4))]) (rdV p r 17 f))) ?_ (by kernel_rfl))
        exact wx0_of (by omega) ⟨by rw [wbv_eq]; exact hb, ho, hP, hPw, endM_same rfl (rdV_err (rdE_o hb ho))⟩
      · cases hi : inN p r (rdP f)
        · refine evS_q mixed tt_ok GRd'_ok 60 [⟨10,2,.sym⟩,⟨10,3,.lit (.bo false)⟩,⟨10,7,.lit (.bo true)⟩,⟨12,2,.lit (.bo false)⟩] (same (p := wx0 o1 17 (Nat.blt 1 (wbv o1 0 f % 256) = false ∧ onB p (rdP f) = true ∧ Gp p ∧ LwP p (rdP f) ∧ inN p r (rdP f) = false ∧ Gp p ∧ LwP p (rdP f) ∧ endM [0] [wB t1 o1 17 f v1] [wB t1 o1 17 f v1] (.tup [.agg (pC 0 0 false), .sc (.it (Int.ofNat 5))]) (rdV p r 17 f))) ?_ (by kernel_rfl))
          exact wx0_of (by omega) ⟨by rw [wbv_eq]; exact hb, ho, hP, hPw, hi, hP, hPw, endM_same rfl (rdV_err (rdE_i hb ho hi))⟩
        · refine evS_q mixed tt_ok GRd'_ok 60 [⟨10,2,.sym⟩,⟨10,3,.lit (.bo false)⟩,⟨10,7,.lit (.bo true)⟩,⟨12,2,.lit (.bo true)⟩] (same (p := wx0 o1 17 (Nat.blt 1 (wbv o1 0 f % 256) = false ∧ onB p (rdP f) = true ∧ Gp p ∧ LwP p (rdP f) ∧ inN p r (rdP f) = true ∧ Gp p ∧ LwP p (rdP f) ∧ endM [0] [wB t1 o1 17 f v1] [wB t1 o1 17 f v1] (.tup [.agg (pC (rdP f).x (rdP f).y (rdP f).z), .sc (.it (Int.ofNat 0))]) (rdV p r 17 f))) ?_ (by kernel_rfl))
          exact wx0_of (by omega) ⟨by rw [wbv_eq]; exact hb, ho, hP, hPw, hi, hP, hPw, endM_same rfl (rdV_ok (rdE_k hb ho hi))⟩
    · refine evS_q mixed tt_ok GRd'_ok 60 [⟨10,2,.sym⟩,⟨10,3,.lit (.bo true)⟩] (same (p := wx0 o1 17 (Nat.blt 1 (wbv o1 0 f % 256) = true ∧ endM [0] [wB t1 o1 17 f v1] [wB t1 o1 17 f v1] (.tup [.agg (pC 0 0 false), .sc (.it (Int.ofNat 4))]) (rdV p r 17 f))) ?_ (by kernel_rfl))
      exact wx0_of (by omega) ⟨by rw [wbv_eq]; exact hb, endM_same rfl (rdV_err (rdE_b hb))⟩
theorem okRead' : (CallC.rd cRead').Ok Try.prog 15 := by
  refine ⟨fun args h pre v e hp => ?_, fun args h slot blk hs ha => ?_⟩
  · unfold cRead' at e
    split at e
    rotate_left
    · cases e
    rename_i p r c gx gy gz x
    split at e
    rotate_left
    · cases e
    rename_i n f q hx
    cases e
    have hP : Gp p := hp _ (by simp)
    refine views_call tt_ok Try.func15 (by kernel_rfl) (by kernel_rfl) [.pl (.v1 (.agg (cvC p r c gx gy gz))), .vs n f] (args := [.v1 (.agg (cvC p r c gx gy gz)), x])
      ⟨⟨rfl, rfl⟩, ⟨q, hx, fun p hq => hp p (List.mem_append_left _ hq)⟩, trivial⟩ 0 [] (rdV p r n f) rfl rfl rfl (fun t ht => by simp at ht) fun a W hi => ⟨[], rfl, ?_⟩
    rcases hi with _ | ⟨hi⟩ | _ | _ | _
    rcases hi with _ | _ | ⟨w1, hn, hi⟩ | ⟨t1, o1, c1, v1, hi⟩ | _
    · cases hi
      subst hn
      refine evS_q mixed tt_ok GRd'_ok 60 [] (same (p := endM [] [] [] (.tup [.agg (pC 0 0 false), .sc (.it (Int.ofNat 4))]) (rdV p r 0 f)) ?_ (by kernel_rfl))
      exact endM_same rfl (rdV_err (rdE_n (by omega)))
    · cases hi
      by_cases hn : n = 17
      · subst hn
        exact read_walk' hP
      · refine evS_q mixed tt_ok GRd'_ok 60 [⟨1,2,.lit (.bo true)⟩] (same (p := (!ieq (Int.ofNat n) 17) = true ∧ endM [0] [wB t1 o1 n f v1] [wB t1 o1 n f v1] (.tup [.agg (pC 0 0 false), .sc (.it (Int.ofNat 4))]) (rdV p r n f)) ?_ (by kernel_rfl))
        exact ⟨ine17 hn, endM_same rfl (rdV_err (rdE_n hn))⟩
  · unfold cRead'
    split
    · rename_i p r c gx gy gz x
      rw [vw_local hs (ha x (by simp))]
    · rfl
end Go.Proofs.Ytafiafkeigdjhaa
