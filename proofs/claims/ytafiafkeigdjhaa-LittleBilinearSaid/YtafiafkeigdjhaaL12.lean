/- The suites, and the functions that are told of them. Printed by genl12.py. -/
import Derived.Test.YtafiafkeigdjhaaL11
import Derived.Test.YtafiafkeigdjhaaFwX
namespace Go.Proofs.Ytafiafkeigdjhaa
open Go.Rq Go
set_option linter.unusedVariables false
set_option linter.unusedSimpArgs false

/-- A suite's numbers. -/
def CuOk (s : Int) (p r c gx gy : Nat) : Prop := (s = 1 ∧ p = 786251 ∧ r = 65521 ∧ c = 12 ∧ gx = 9723 ∧ gy = 164643) ∨ (s = 2 ∧ p = 1152921504606846223 ∧ r = 72057594037927889 ∧ c = 16 ∧ gx = 613740293506734924 ∧ gy = 666621259561003659)
section
variable {s : Int} {p r c gx gy : Nat}
theorem CuOk.gp (h : CuOk s p r c gx gy) : Gp p := by
  rcases h with ⟨_, h, _⟩ | ⟨_, h, _⟩
  · exact .inl h
  · exact .inr h
theorem CuOk.r0 (h : CuOk s p r c gx gy) : r % W ≠ 0 := by
  rcases h with ⟨_, _, rfl, _⟩ | ⟨_, _, rfl, _⟩ <;> decide
theorem CuOk.cw (h : CuOk s p r c gx gy) : c % W = c := by
  rcases h with ⟨_, _, _, rfl, _⟩ | ⟨_, _, _, rfl, _⟩ <;> decide
theorem CuOk.cp (h : CuOk s p r c gx gy) : c * (p - 1) < W := by
  rcases h with ⟨_, rfl, _, rfl, _⟩ | ⟨_, rfl, _, rfl, _⟩ <;> decide
theorem ieq_f {a b : Int} (h : a ≠ b) : ieq a b = false := by rw [← Bool.not_eq_true, ieq_iff]; exact h
theorem OnP.lw (hP : Gp p) {P : LP} (h : OnP p P) : LwP p P := by
  have := h.lt hP
  have := hP.lt
  exact ⟨by simp only [W]; omega, by simp only [W]; omega⟩
theorem in_on {P : LP} (h : inN p r P = true) : OnP p P := by
  unfold inN at h
  rw [Bool.and_eq_true] at h
  exact h.1
abbrev cuV (p r c gx gy : Nat) : V1 := .agg (cvC p r c gx gy false)
def cSu (s : Int) (p r c gx gy : Nat) : List AV → Option (List Prop × AV)
  | [.v1 (.sc (.it t))] => some ([t = s], .tup [cuV p r c gx gy, .sc (.bo true)])
  | _ => none
def cSuB : List AV → Option (List Prop × AV)
  | [.v1 (.sc (.it t))] => some ([t ≠ 1, t ≠ 2], .tup [cuV 0 0 0 0 0, .sc (.bo false)])
  | _ => none
theorem okOf (hC : CuOk s p r c gx gy) : (CallC.pure (cSu s p r c gx gy)).Ok Try.prog 57 := by
  intro args pre v e hp
  unfold cSu at e
  split at e
  rotate_left
  · cases e
  rename_i t
  cases e
  have ht : t = s := hp _ (by simp)
  subst ht
  rcases hC with ⟨rfl, rfl, rfl, rfl, rfl, rfl⟩ | ⟨rfl, rfl, rfl, rfl, rfl, rfl⟩
  · refine pure_walk' tt_ok Try.func57 (by kernel_rfl) (by kernel_rfl) (by rfl) (by rfl) (evS_q mixed tt_ok G0_ok 60 [] ?_)
    exact same (p := endV (.tup [cuV 786251 65521 12 9723 164643, .sc (.bo true)]) (.tup [cuV 786251 65521 12 9723 164643, .sc (.bo true)])) (endV_eq rfl) (by kernel_rfl)
  · refine pure_walk' tt_ok Try.func57 (by kernel_rfl) (by kernel_rfl) (by rfl) (by rfl) (evS_q mixed tt_ok G0_ok 60 [] ?_)
    exact same (p := endV (.tup [cuV 1152921504606846223 72057594037927889 16 613740293506734924 666621259561003659, .sc (.bo true)]) (.tup [cuV 1152921504606846223 72057594037927889 16 613740293506734924 666621259561003659, .sc (.bo true)])) (endV_eq rfl) (by kernel_rfl)
theorem okOfB : (CallC.pure cSuB).Ok Try.prog 57 := by
  intro args pre v e hp
  unfold cSuB at e
  split at e
  rotate_left
  · cases e
  rename_i t
  cases e
  have h1 : t ≠ 1 := hp _ (by simp)
  have h2 : t ≠ 2 := hp _ (by simp)
  refine pure_walk' tt_ok Try.func57 (by kernel_rfl) (by kernel_rfl) (by rfl) (by rfl) (evS_q mixed tt_ok G0_ok 60 [⟨2,0,.lit (.bo false)⟩,⟨4,0,.lit (.bo false)⟩] ?_)
  exact same (p := ieq t 1 = false ∧ ieq t 2 = false ∧ endV (.tup [cuV 0 0 0 0 0, .sc (.bo false)]) (.tup [cuV 0 0 0 0 0, .sc (.bo false)])) ⟨ieq_f h1, ieq_f h2, endV_eq rfl⟩ (by kernel_rfl)
theorem okOf' (hC : CuOk s p r c gx gy) : (CallC.pure (cSu s p r c gx gy)).Ok Try.prog 11 := by
  intro args pre v e hp
  unfold cSu at e
  split at e
  rotate_left
  · cases e
  rename_i t
  cases e
  have ht : t = s := hp _ (by simp)
  subst ht
  rcases hC with ⟨rfl, rfl, rfl, rfl, rfl, rfl⟩ | ⟨rfl, rfl, rfl, rfl, rfl, rfl⟩
  · refine pure_walk' tt_ok Try.func11 (by kernel_rfl) (by kernel_rfl) (by rfl) (by rfl) (evS_q mixed tt_ok G0_ok 60 [] ?_)
    exact same (p := endV (.tup [cuV 786251 65521 12 9723 164643, .sc (.bo true)]) (.tup [cuV 786251 65521 12 9723 164643, .sc (.bo true)])) (endV_eq rfl) (by kernel_rfl)
  · refine pure_walk' tt_ok Try.func11 (by kernel_rfl) (by kernel_rfl) (by rfl) (by rfl) (evS_q mixed tt_ok G0_ok 60 [] ?_)
    exact same (p := endV (.tup [cuV 1152921504606846223 72057594037927889 16 613740293506734924 666621259561003659, .sc (.bo true)]) (.tup [cuV 1152921504606846223 72057594037927889 16 613740293506734924 666621259561003659, .sc (.bo true)])) (endV_eq rfl) (by kernel_rfl)
theorem okOfB' : (CallC.pure cSuB).Ok Try.prog 11 := by
  intro args pre v e hp
  unfold cSuB at e
  split at e
  rotate_left
  · cases e
  rename_i t
  cases e
  have h1 : t ≠ 1 := hp _ (by simp)
  have h2 : t ≠ 2 := hp _ (by simp)
  refine pure_walk' tt_ok Try.func11 (by kernel_rfl) (by kernel_rfl) (by rfl) (by rfl) (evS_q mixed tt_ok G0_ok 60 [⟨2,0,.lit (.bo false)⟩,⟨4,0,.lit (.bo false)⟩] ?_)
  exact same (p := ieq t 1 = false ∧ ieq t 2 = false ∧ endV (.tup [cuV 0 0 0 0 0, .sc (.bo false)]) (.tup [cuV 0 0 0 0 0, .sc (.bo false)])) ⟨ieq_f h1, ieq_f h2, endV_eq rfl⟩ (by kernel_rfl)

/-! checked -/
abbrev chV (p r c gx gy : Nat) (e : Int) : AV := .tup [cuV p r c gx gy, .sc (.it e)]
abbrev endR (B : Blk) (u v : AV) : Prop := some B = some B ∧ ∃ v', some u = some v' ∧ vokB v' = true ∧ ∀ ρ, v'.val ρ = v.val ρ
theorem endR_eq {B : Blk} {u v : AV} (hu : vokB u = true) (h : u = v) : endR B u v := ⟨rfl, _, rfl, hu, fun _ => by rw [h]⟩
abbrev sB (cs : List Cell) : Blk := ⟨25, cs, 0, 0⟩
def kChk0 (q : Int → Prop) (R : AV) : List AV → Option (List Prop × AV)
  | [.v1 (.sc (.it t)), .v1 (.sc (.rw (.slice none 0 0)))] => some ([q t], R)
  | _ => none
def kChk1 (q : Int → LP → Prop) (R : AV) (args : List AV) (h : Heap) : Option (List Prop × AV) :=
  match args with
  | [.v1 (.sc (.it t)), .v1 (.sc (.sl b 0 1 1))] => match hget h b with
    | some ⟨y, [.one (.w .u64 x1), .one (.w .u64 y1), .one (.bo z1)], 0, 0⟩ => match Nat.beq y 25 with
      | true => some ([q t ⟨x1, y1, z1⟩], R)
      | false => none
    | _ => none
  | _ => none
def kChk2 (q : Int → LP → LP → Prop) (R : AV) (args : List AV) (h : Heap) : Option (List Prop × AV) :=
  match args with
  | [.v1 (.sc (.it t)), .v1 (.sc (.sl b 0 2 2))] => match hget h b with
    | some ⟨y, [.one (.w .u64 x1), .one (.w .u64 y1), .one (.bo z1), .one (.w .u64 x2), .one (.w .u64 y2), .one (.bo z2)], 0, 0⟩ => match Nat.beq y 25 with
      | true => some ([q t ⟨x1, y1, z1⟩ ⟨x2, y2, z2⟩], R)
      | false => none
    | _ => none
  | _ => none
theorem chk0_ok {q : Int → Prop} {R : AV} (hR : vokB R = true) (h : ∀ t, q t → AWqS Try.prog (fun _ => False) (flatC (bodyOf Try.f42)) (FEnd' tt Try.f42 R) ⟨frame0 [.v1 (.sc (.it t)), .v1 (.sc (.rw (.slice none 0 0)))] Try.f42.ntmps, []⟩) : (CallC.pure (kChk0 q R)).Ok Try.prog 42 := by
  intro args pre v e hp
  unfold kChk0 at e
  split at e
  · cases e
    exact pure_walk' tt_ok Try.func42 (by kernel_rfl) (by kernel_rfl) (by rfl) hR (h _ (hp _ (by simp)))
  · cases e
theorem chk1_ok {q : Int → LP → Prop} {R : AV} (hR : vokB R = true) (h : ∀ t x1 y1 z1, q t ⟨x1, y1, z1⟩ → AWqS Try.prog (Dm [some (sB [.one (.w .u64 x1), .one (.w .u64 y1), .one (.bo z1)])]) (flatC (bodyOf Try.f42)) (FEndR tt Try.f42 R (sB [.one (.w .u64 x1), .one (.w .u64 y1), .one (.bo z1)])) ⟨frame0 [.v1 (.sc (.it t)), .v1 (.sc (.sl 0 0 1 1))] Try.f42.ntmps, [some (sB [.one (.w .u64 x1), .one (.w .u64 y1), .one (.bo z1)])]⟩) : (CallC.rd (kChk1 q R)).Ok Try.prog 42 := by
  refine ⟨fun args h' pre v e hp => ?_, fun args h' slot blk hs ha => ?_⟩
  · unfold kChk1 at e
    split at e
    rotate_left
    · cases e
    rename_i t b
    split at e
    rotate_left
    · cases e
    rename_i y x1 y1 z1 hb
    split at e
    rotate_left
    · cases e
    rename_i hy
    rw [Nat.beq_eq] at hy
    subst hy
    cases e
    exact rd_slot tt_ok Try.func42 (by kernel_rfl) (by kernel_rfl) (A := fun b => [.v1 (.sc (.it t)), .v1 (.sc (.sl b 0 1 1))]) (blk := sB [.one (.w .u64 x1), .one (.w .u64 y1), .one (.bo z1)]) rfl rfl
      (fun b => by show [AV.v1 (.sc (.it t)), .v1 (.sc (.sl (bk [b] b) 0 1 1))] = _; rw [bk_self]) rfl hR hb (h _ _ _ _ (hp _ (by simp)))
  · unfold kChk1
    split
    · rename_i t b
      have hb : Dm h' b := ha (.v1 (.sc (.sl b 0 1 1))) (by simp)
      have hne : b ≠ slot := fun e => by
        obtain ⟨x, hx⟩ := hb
        rw [e, (isHole_lt hs).2] at hx; cases hx
      rw [hget_hset_ne hne]
    · rfl
theorem chk2_ok {q : Int → LP → LP → Prop} {R : AV} (hR : vokB R = true) (h : ∀ t x1 y1 z1 x2 y2 z2, q t ⟨x1, y1, z1⟩ ⟨x2, y2, z2⟩ → AWqS Try.prog (Dm [some (sB [.one (.w .u64 x1), .one (.w .u64 y1), .one (.bo z1), .one (.w .u64 x2), .one (.w .u64 y2), .one (.bo z2)])]) (flatC (bodyOf Try.f42)) (FEndR tt Try.f42 R (sB [.one (.w .u64 x1), .one (.w .u64 y1), .one (.bo z1), .one (.w .u64 x2), .one (.w .u64 y2), .one (.bo z2)])) ⟨frame0 [.v1 (.sc (.it t)), .v1 (.sc (.sl 0 0 2 2))] Try.f42.ntmps, [some (sB [.one (.w .u64 x1), .one (.w .u64 y1), .one (.bo z1), .one (.w .u64 x2), .one (.w .u64 y2), .one (.bo z2)])]⟩) : (CallC.rd (kChk2 q R)).Ok Try.prog 42 := by
  refine ⟨fun args h' pre v e hp => ?_, fun args h' slot blk hs ha => ?_⟩
  · unfold kChk2 at e
    split at e
    rotate_left
    · cases e
    rename_i t b
    split at e
    rotate_left
    · cases e
    rename_i y x1 y1 z1 x2 y2 z2 hb
    split at e
    rotate_left
    · cases e
    rename_i hy
    rw [Nat.beq_eq] at hy
    subst hy
    cases e
    exact rd_slot tt_ok Try.func42 (by kernel_rfl) (by kernel_rfl) (A := fun b => [.v1 (.sc (.it t)), .v1 (.sc (.sl b 0 2 2))]) (blk := sB [.one (.w .u64 x1), .one (.w .u64 y1), .one (.bo z1), .one (.w .u64 x2), .one (.w .u64 y2), .one (.bo z2)]) rfl rfl
      (fun b => by show [AV.v1 (.sc (.it t)), .v1 (.sc (.sl (bk [b] b) 0 2 2))] = _; rw [bk_self]) rfl hR hb (h _ _ _ _ _ _ _ (hp _ (by simp)))
  · unfold kChk2
    split
    · rename_i t b
      have hb : Dm h' b := ha (.v1 (.sc (.sl b 0 2 2))) (by simp)
      have hne : b ≠ slot := fun e => by
        obtain ⟨x, hx⟩ := hb
        rw [e, (isHole_lt hs).2] at hx; cases hx
      rw [hget_hset_ne hne]
    · rfl
abbrev qBad0 (t : Int) : Prop := t ≠ 1 ∧ t ≠ 2
def GBad : Ctx := ctxL [(57, .pure cSuB)]
theorem GBad_ok : CtxOk Try.prog GBad := ctxL_cons okOfB ctxL_nil
def GChk (s : Int) (p r c gx gy : Nat) : Ctx := ctxL [(57, .pure (cSu s p r c gx gy)), (44, .pure (y1 LwP fun p _ P => .v1 (.sc (.bo (onB p P)))))]
theorem GChk_ok (hC : CuOk s p r c gx gy) : CtxOk Try.prog (GChk s p r c gx gy) := ctxL_cons (okOf hC) <| ctxL_cons okOn ctxL_nil
abbrev qOn1 (s : Int) (p : Nat) (t : Int) (P : LP) : Prop := t = s ∧ OnP p P
abbrev qOff1 (s : Int) (p : Nat) (t : Int) (P : LP) : Prop := t = s ∧ LwP p P ∧ onB p P = false
abbrev qOn2 (s : Int) (p : Nat) (t : Int) (P Q : LP) : Prop := t = s ∧ OnP p P ∧ OnP p Q
abbrev qOff2 (s : Int) (p : Nat) (t : Int) (P Q : LP) : Prop := t = s ∧ LwP p P ∧ LwP p Q ∧ (onB p P && onB p Q) = false
abbrev zCh (e : Int) : AV := chV 0 0 0 0 0 e
theorem okChk0 (hC : CuOk s p r c gx gy) : (CallC.pure (kChk0 (fun t => t = s) (chV p r c gx gy 0))).Ok Try.prog 42 :=
  chk0_ok rfl fun t h => evS_q mixed tt_ok (GChk_ok hC) 60 [] (same (p := t = s ∧ endV (chV p r c gx gy 0) (chV p r c gx gy 0)) ⟨h, endV_eq rfl⟩ (by kernel_rfl))
theorem okChk0B : (CallC.pure (kChk0 qBad0 (zCh 2))).Ok Try.prog 42 :=
  chk0_ok rfl fun t h => evS_q mixed tt_ok GBad_ok 60 [] (same (p := t ≠ 1 ∧ t ≠ 2 ∧ endV (zCh 2) (zCh 2)) ⟨h.1, h.2, endV_eq rfl⟩ (by kernel_rfl))
theorem okChk1 (hC : CuOk s p r c gx gy) : (CallC.rd (kChk1 (qOn1 s p) (chV p r c gx gy 0))).Ok Try.prog 42 :=
  chk1_ok rfl fun t x1 y1 z1 h => evS_q mixed tt_ok (GChk_ok hC) 60 [⟨7,2,.lit (.bo true)⟩] (same (p := t = s ∧ onB p ⟨x1, y1, z1⟩ = true ∧ Gp p ∧ LwP p ⟨x1, y1, z1⟩ ∧ endR (sB [.one (.w .u64 x1), .one (.w .u64 y1), .one (.bo z1)]) (chV p r c gx gy 0) (chV p r c gx gy 0)) ⟨h.1, h.2, hC.gp, OnP.lw hC.gp h.2, endR_eq rfl rfl⟩ (by kernel_rfl))
theorem okChk1B : (CallC.rd (kChk1 (fun t _ => qBad0 t) (zCh 2))).Ok Try.prog 42 :=
  chk1_ok rfl fun t x1 y1 z1 h => evS_q mixed tt_ok GBad_ok 60 [] (same (p := t ≠ 1 ∧ t ≠ 2 ∧ endR (sB [.one (.w .u64 x1), .one (.w .u64 y1), .one (.bo z1)]) (zCh 2) (zCh 2)) ⟨h.1, h.2, endR_eq rfl rfl⟩ (by kernel_rfl))
theorem okChk1F (hC : CuOk s p r c gx gy) : (CallC.rd (kChk1 (qOff1 s p) (zCh 5))).Ok Try.prog 42 :=
  chk1_ok rfl fun t x1 y1 z1 h => evS_q mixed tt_ok (GChk_ok hC) 60 [⟨7,2,.lit (.bo false)⟩] (same (p := t = s ∧ onB p ⟨x1, y1, z1⟩ = false ∧ Gp p ∧ LwP p ⟨x1, y1, z1⟩ ∧ endR (sB [.one (.w .u64 x1), .one (.w .u64 y1), .one (.bo z1)]) (zCh 5) (zCh 5)) ⟨h.1, h.2.2, hC.gp, h.2.1, endR_eq rfl rfl⟩ (by kernel_rfl))
theorem okChk2 (hC : CuOk s p r c gx gy) : (CallC.rd (kChk2 (qOn2 s p) (chV p r c gx gy 0))).Ok Try.prog 42 :=
  chk2_ok rfl fun t x1 y1 z1 x2 y2 z2 h => evS_q mixed tt_ok (GChk_ok hC) 60 [⟨7,2,.lit (.bo true)⟩,⟨7,2,.lit (.bo true)⟩] (same (p := t = s ∧ onB p ⟨x1, y1, z1⟩ = true ∧ Gp p ∧ LwP p ⟨x1, y1, z1⟩ ∧ onB p ⟨x2, y2, z2⟩ = true ∧ Gp p ∧ LwP p ⟨x2, y2, z2⟩ ∧ endR (sB [.one (.w .u64 x1), .one (.w .u64 y1), .one (.bo z1), .one (.w .u64 x2), .one (.w .u64 y2), .one (.bo z2)]) (chV p r c gx gy 0) (chV p r c gx gy 0)) ⟨h.1, h.2.1, hC.gp, OnP.lw hC.gp h.2.1, h.2.2, hC.gp, OnP.lw hC.gp h.2.2, endR_eq rfl rfl⟩ (by kernel_rfl))
theorem okChk2B : (CallC.rd (kChk2 (fun t _ _ => qBad0 t) (zCh 2))).Ok Try.prog 42 :=
  chk2_ok rfl fun t x1 y1 z1 x2 y2 z2 h => evS_q mixed tt_ok GBad_ok 60 [] (same (p := t ≠ 1 ∧ t ≠ 2 ∧ endR (sB [.one (.w .u64 x1), .one (.w .u64 y1), .one (.bo z1), .one (.w .u64 x2), .one (.w .u64 y2), .one (.bo z2)]) (zCh 2) (zCh 2)) ⟨h.1, h.2, endR_eq rfl rfl⟩ (by kernel_rfl))
theorem okChk2F (hC : CuOk s p r c gx gy) : (CallC.rd (kChk2 (qOff2 s p) (zCh 5))).Ok Try.prog 42 :=
  chk2_ok rfl fun t x1 y1 z1 x2 y2 z2 h => by
    obtain ⟨h1, h2, h3, h4⟩ := h
    cases hb : onB p ⟨x1, y1, z1⟩
    · exact evS_q mixed tt_ok (GChk_ok hC) 60 [⟨7,2,.lit (.bo false)⟩] (same (p := t = s ∧ onB p ⟨x1, y1, z1⟩ = false ∧ Gp p ∧ LwP p ⟨x1, y1, z1⟩ ∧ endR (sB [.one (.w .u64 x1), .one (.w .u64 y1), .one (.bo z1), .one (.w .u64 x2), .one (.w .u64 y2), .one (.bo z2)]) (zCh 5) (zCh 5)) ⟨h1, hb, hC.gp, h2, endR_eq rfl rfl⟩ (by kernel_rfl))
    · rw [hb, Bool.true_and] at h4
      exact evS_q mixed tt_ok (GChk_ok hC) 60 [⟨7,2,.lit (.bo true)⟩,⟨7,2,.lit (.bo false)⟩] (same (p := t = s ∧ onB p ⟨x1, y1, z1⟩ = true ∧ Gp p ∧ LwP p ⟨x1, y1, z1⟩ ∧ onB p ⟨x2, y2, z2⟩ = false ∧ Gp p ∧ LwP p ⟨x2, y2, z2⟩ ∧ endR (sB [.one (.w .u64 x1), .one (.w .u64 y1), .one (.bo z1), .one (.w .u64 x2), .one (.w .u64 y2), .one (.bo z2)]) (zCh 5) (zCh 5)) ⟨h1, hb, hC.gp, h2, h4, hC.gp, h3, endR_eq rfl rfl⟩ (by kernel_rfl))
def kPrime (s : Int) (p r c gx gy : Nat) : List AV → Option (List Prop × AV)
  | [.v1 (.sc (.it t))] => some ([t = s], .tup [.sc (.w .u64 p), .sc (.it 0)])
  | _ => none
def GEPrime (s : Int) (p r c gx gy : Nat) : Ctx := ctxL [(57, .pure (cSu s p r c gx gy))]
theorem okEPrime (hC : CuOk s p r c gx gy) : (CallC.pure (kPrime s p r c gx gy)).Ok Try.prog 27 := by
  have hG : CtxOk Try.prog (GEPrime s p r c gx gy) := ctxL_cons (okOf hC) ctxL_nil
  intro args pre v e hp
  unfold kPrime at e
  split at e
  rotate_left
  · cases e
  rename_i t
  cases e
  have hP := hC.gp
  have hs : t = s := hp _ (by simp)
  refine pure_walk' tt_ok Try.func27 (by kernel_rfl) (by kernel_rfl) (by rfl) (by rfl) ?_
  exact evS_q mixed tt_ok hG 60 [] (same (p := t = s ∧ endV (.tup [.sc (.w .u64 p), .sc (.it 0)]) (.tup [.sc (.w .u64 p), .sc (.it 0)])) ⟨hs, endV_eq rfl⟩ (by kernel_rfl))
def kPrimeB : List AV → Option (List Prop × AV)
  | [.v1 (.sc (.it t))] => some ([t ≠ 1, t ≠ 2], .tup [.sc (.w .u64 0), .sc (.it 2)])
  | _ => none
def GEPrimeB : Ctx := ctxL [(57, .pure cSuB)]
theorem okEPrimeB : (CallC.pure (kPrimeB )).Ok Try.prog 27 := by
  have hG : CtxOk Try.prog (GEPrimeB ) := ctxL_cons (okOfB) ctxL_nil
  intro args pre v e hp
  unfold kPrimeB at e
  split at e
  rotate_left
  · cases e
  rename_i t
  cases e
  have b1 : t ≠ 1 := hp _ (by simp)
  have b2 : t ≠ 2 := hp _ (by simp)
  refine pure_walk' tt_ok Try.func27 (by kernel_rfl) (by kernel_rfl) (by rfl) (by rfl) ?_
  exact evS_q mixed tt_ok hG 60 [] (same (p := t ≠ 1 ∧ t ≠ 2 ∧ endV (.tup [.sc (.w .u64 0), .sc (.it 2)]) (.tup [.sc (.w .u64 0), .sc (.it 2)])) ⟨b1, b2, endV_eq rfl⟩ (by kernel_rfl))
def kOrder (s : Int) (p r c gx gy : Nat) : List AV → Option (List Prop × AV)
  | [.v1 (.sc (.it t))] => some ([t = s], .tup [.sc (.w .u64 r), .sc (.it 0)])
  | _ => none
def GEOrder (s : Int) (p r c gx gy : Nat) : Ctx := ctxL [(57, .pure (cSu s p r c gx gy))]
theorem okEOrder (hC : CuOk s p r c gx gy) : (CallC.pure (kOrder s p r c gx gy)).Ok Try.prog 28 := by
  have hG : CtxOk Try.prog (GEOrder s p r c gx gy) := ctxL_cons (okOf hC) ctxL_nil
  intro args pre v e hp
  unfold kOrder at e
  split at e
  rotate_left
  · cases e
  rename_i t
  cases e
  have hP := hC.gp
  have hs : t = s := hp _ (by simp)
  refine pure_walk' tt_ok Try.func28 (by kernel_rfl) (by kernel_rfl) (by rfl) (by rfl) ?_
  exact evS_q mixed tt_ok hG 60 [] (same (p := t = s ∧ endV (.tup [.sc (.w .u64 r), .sc (.it 0)]) (.tup [.sc (.w .u64 r), .sc (.it 0)])) ⟨hs, endV_eq rfl⟩ (by kernel_rfl))
def kOrderB : List AV → Option (List Prop × AV)
  | [.v1 (.sc (.it t))] => some ([t ≠ 1, t ≠ 2], .tup [.sc (.w .u64 0), .sc (.it 2)])
  | _ => none
def GEOrderB : Ctx := ctxL [(57, .pure cSuB)]
theorem okEOrderB : (CallC.pure (kOrderB )).Ok Try.prog 28 := by
  have hG : CtxOk Try.prog (GEOrderB ) := ctxL_cons (okOfB) ctxL_nil
  intro args pre v e hp
  unfold kOrderB at e
  split at e
  rotate_left
  · cases e
  rename_i t
  cases e
  have b1 : t ≠ 1 := hp _ (by simp)
  have b2 : t ≠ 2 := hp _ (by simp)
  refine pure_walk' tt_ok Try.func28 (by kernel_rfl) (by kernel_rfl) (by rfl) (by rfl) ?_
  exact evS_q mixed tt_ok hG 60 [] (same (p := t ≠ 1 ∧ t ≠ 2 ∧ endV (.tup [.sc (.w .u64 0), .sc (.it 2)]) (.tup [.sc (.w .u64 0), .sc (.it 2)])) ⟨b1, b2, endV_eq rfl⟩ (by kernel_rfl))
def kGen (s : Int) (p r c gx gy : Nat) : List AV → Option (List Prop × AV)
  | [.v1 (.sc (.it t))] => some ([t = s], .tup [.agg (pC gx gy false), .sc (.it 0)])
  | _ => none
def GEGen (s : Int) (p r c gx gy : Nat) : Ctx := ctxL [(57, .pure (cSu s p r c gx gy))]
theorem okEGen (hC : CuOk s p r c gx gy) : (CallC.pure (kGen s p r c gx gy)).Ok Try.prog 29 := by
  have hG : CtxOk Try.prog (GEGen s p r c gx gy) := ctxL_cons (okOf hC) ctxL_nil
  intro args pre v e hp
  unfold kGen at e
  split at e
  rotate_left
  · cases e
  rename_i t
  cases e
  have hP := hC.gp
  have hs : t = s := hp _ (by simp)
  refine pure_walk' tt_ok Try.func29 (by kernel_rfl) (by kernel_rfl) (by rfl) (by rfl) ?_
  exact evS_q mixed tt_ok hG 60 [] (same (p := t = s ∧ endV (.tup [.agg (pC gx gy false), .sc (.it 0)]) (.tup [.agg (pC gx gy false), .sc (.it 0)])) ⟨hs, endV_eq rfl⟩ (by kernel_rfl))
def kGenB : List AV → Option (List Prop × AV)
  | [.v1 (.sc (.it t))] => some ([t ≠ 1, t ≠ 2], .tup [.agg (pC 0 0 false), .sc (.it 2)])
  | _ => none
def GEGenB : Ctx := ctxL [(57, .pure cSuB)]
theorem okEGenB : (CallC.pure (kGenB )).Ok Try.prog 29 := by
  have hG : CtxOk Try.prog (GEGenB ) := ctxL_cons (okOfB) ctxL_nil
  intro args pre v e hp
  unfold kGenB at e
  split at e
  rotate_left
  · cases e
  rename_i t
  cases e
  have b1 : t ≠ 1 := hp _ (by simp)
  have b2 : t ≠ 2 := hp _ (by simp)
  refine pure_walk' tt_ok Try.func29 (by kernel_rfl) (by kernel_rfl) (by rfl) (by rfl) ?_
  exact evS_q mixed tt_ok hG 60 [] (same (p := t ≠ 1 ∧ t ≠ 2 ∧ endV (.tup [.agg (pC 0 0 false), .sc (.it 2)]) (.tup [.agg (pC 0 0 false), .sc (.it 2)])) ⟨b1, b2, endV_eq rfl⟩ (by kernel_rfl))
def kCheck (s : Int) (p r c gx gy : Nat) : List AV → Option (List Prop × AV)
  | [.v1 (.sc (.it t)), .v1 (.agg [.one (.w .u64 x), .one (.w .u64 y), .one (.bo z)])] => some ([t = s, LwP p ⟨x, y, z⟩], .v1 (.sc (.bo (onB p ⟨x, y, z⟩))))
  | _ => none
def GECheck (s : Int) (p r c gx gy : Nat) : Ctx := ctxL [(57, .pure (cSu s p r c gx gy)), (44, .pure (y1 LwP fun p _ P => .v1 (.sc (.bo (onB p P)))))]
theorem okECheck (hC : CuOk s p r c gx gy) : (CallC.pure (kCheck s p r c gx gy)).Ok Try.prog 35 := by
  have hG : CtxOk Try.prog (GECheck s p r c gx gy) := ctxL_cons (okOf hC) <| ctxL_cons (okOn) ctxL_nil
  intro args pre v e hp
  unfold kCheck at e
  split at e
  rotate_left
  · cases e
  rename_i t x y z
  cases e
  have hP := hC.gp
  have hs : t = s := hp _ (by simp)
  have hl : LwP p ⟨x, y, z⟩ := hp _ (by simp)
  refine pure_walk' tt_ok Try.func35 (by kernel_rfl) (by kernel_rfl) (by rfl) (by rfl) ?_
  exact evS_q mixed tt_ok hG 60 [] (same (p := t = s ∧ Gp p ∧ LwP p ⟨x, y, z⟩ ∧ endV (.v1 (.sc (.bo (onB p ⟨x, y, z⟩)))) (.v1 (.sc (.bo (onB p ⟨x, y, z⟩))))) ⟨hs, hP, hl, endV_eq rfl⟩ (by kernel_rfl))
def kCheckB : List AV → Option (List Prop × AV)
  | [.v1 (.sc (.it t)), .v1 (.agg [.one (.w .u64 x), .one (.w .u64 y), .one (.bo z)])] => some ([t ≠ 1, t ≠ 2], .v1 (.sc (.bo false)))
  | _ => none
def GECheckB : Ctx := ctxL [(57, .pure cSuB)]
theorem okECheckB : (CallC.pure (kCheckB )).Ok Try.prog 35 := by
  have hG : CtxOk Try.prog (GECheckB ) := ctxL_cons (okOfB) ctxL_nil
  intro args pre v e hp
  unfold kCheckB at e
  split at e
  rotate_left
  · cases e
  rename_i t x y z
  cases e
  have b1 : t ≠ 1 := hp _ (by simp)
  have b2 : t ≠ 2 := hp _ (by simp)
  refine pure_walk' tt_ok Try.func35 (by kernel_rfl) (by kernel_rfl) (by rfl) (by rfl) ?_
  exact evS_q mixed tt_ok hG 60 [] (same (p := t ≠ 1 ∧ t ≠ 2 ∧ endV (.v1 (.sc (.bo false))) (.v1 (.sc (.bo false)))) ⟨b1, b2, endV_eq rfl⟩ (by kernel_rfl))
def kIn (s : Int) (p r c gx gy : Nat) : List AV → Option (List Prop × AV)
  | [.v1 (.sc (.it t)), .v1 (.agg [.one (.w .u64 x), .one (.w .u64 y), .one (.bo z)])] => some ([t = s, LwP p ⟨x, y, z⟩], .v1 (.sc (.bo (inN p r ⟨x, y, z⟩))))
  | _ => none
def GEIn (s : Int) (p r c gx gy : Nat) : Ctx := ctxL [(57, .pure (cSu s p r c gx gy)), (45, .pure (y1 LwP fun p r P => .v1 (.sc (.bo (inN p r P)))))]
theorem okEIn (hC : CuOk s p r c gx gy) : (CallC.pure (kIn s p r c gx gy)).Ok Try.prog 36 := by
  have hG : CtxOk Try.prog (GEIn s p r c gx gy) := ctxL_cons (okOf hC) <| ctxL_cons (okIn) ctxL_nil
  intro args pre v e hp
  unfold kIn at e
  split at e
  rotate_left
  · cases e
  rename_i t x y z
  cases e
  have hP := hC.gp
  have hs : t = s := hp _ (by simp)
  have hl : LwP p ⟨x, y, z⟩ := hp _ (by simp)
  refine pure_walk' tt_ok Try.func36 (by kernel_rfl) (by kernel_rfl) (by rfl) (by rfl) ?_
  exact evS_q mixed tt_ok hG 60 [] (same (p := t = s ∧ Gp p ∧ LwP p ⟨x, y, z⟩ ∧ endV (.v1 (.sc (.bo (inN p r ⟨x, y, z⟩)))) (.v1 (.sc (.bo (inN p r ⟨x, y, z⟩))))) ⟨hs, hP, hl, endV_eq rfl⟩ (by kernel_rfl))
def kInB : List AV → Option (List Prop × AV)
  | [.v1 (.sc (.it t)), .v1 (.agg [.one (.w .u64 x), .one (.w .u64 y), .one (.bo z)])] => some ([t ≠ 1, t ≠ 2], .v1 (.sc (.bo false)))
  | _ => none
def GEInB : Ctx := ctxL [(57, .pure cSuB)]
theorem okEInB : (CallC.pure (kInB )).Ok Try.prog 36 := by
  have hG : CtxOk Try.prog (GEInB ) := ctxL_cons (okOfB) ctxL_nil
  intro args pre v e hp
  unfold kInB at e
  split at e
  rotate_left
  · cases e
  rename_i t x y z
  cases e
  have b1 : t ≠ 1 := hp _ (by simp)
  have b2 : t ≠ 2 := hp _ (by simp)
  refine pure_walk' tt_ok Try.func36 (by kernel_rfl) (by kernel_rfl) (by rfl) (by rfl) ?_
  exact evS_q mixed tt_ok hG 60 [] (same (p := t ≠ 1 ∧ t ≠ 2 ∧ endV (.v1 (.sc (.bo false))) (.v1 (.sc (.bo false)))) ⟨b1, b2, endV_eq rfl⟩ (by kernel_rfl))
def kAdd (s : Int) (p r c gx gy : Nat) : List AV → Option (List Prop × AV)
  | [.v1 (.sc (.it t)), .v1 (.agg [.one (.w .u64 x), .one (.w .u64 y), .one (.bo z)]), .v1 (.agg [.one (.w .u64 u), .one (.w .u64 v), .one (.bo w)])] => some ([t = s, OnP p ⟨x, y, z⟩, OnP p ⟨u, v, w⟩], .tup [.agg (pC (sumN p ⟨x, y, z⟩ ⟨u, v, w⟩).x (sumN p ⟨x, y, z⟩ ⟨u, v, w⟩).y (sumN p ⟨x, y, z⟩ ⟨u, v, w⟩).z), .sc (.it 0)])
  | _ => none
def GEAdd (s : Int) (p r c gx gy : Nat) : Ctx := ctxL [(42, .rd (kChk2 (qOn2 s p) (chV p r c gx gy 0))), (58, .pure (y2 LtP fun p P Q => pv (sumN p P Q)))]
theorem okEAdd (hC : CuOk s p r c gx gy) : (CallC.pure (kAdd s p r c gx gy)).Ok Try.prog 30 := by
  have hG : CtxOk Try.prog (GEAdd s p r c gx gy) := ctxL_cons (okChk2 hC) <| ctxL_cons (okSum) ctxL_nil
  intro args pre v e hp
  unfold kAdd at e
  split at e
  rotate_left
  · cases e
  rename_i t x y z u v w
  cases e
  have hP := hC.gp
  have hs : t = s := hp _ (by simp)
  have h1 : OnP p ⟨x, y, z⟩ := hp _ (by simp)
  have h2 : OnP p ⟨u, v, w⟩ := hp _ (by simp)
  refine pure_walk' tt_ok Try.func30 (by kernel_rfl) (by kernel_rfl) (by rfl) (by rfl) ?_
  exact evS_q mixed tt_ok hG 60 [] (same (p := qOn2 s p t ⟨x, y, z⟩ ⟨u, v, w⟩ ∧ Gp p ∧ LtP p ⟨x, y, z⟩ ∧ LtP p ⟨u, v, w⟩ ∧ endV (.tup [.agg (pC (sumN p ⟨x, y, z⟩ ⟨u, v, w⟩).x (sumN p ⟨x, y, z⟩ ⟨u, v, w⟩).y (sumN p ⟨x, y, z⟩ ⟨u, v, w⟩).z), .sc (.it 0)]) (.tup [.agg (pC (sumN p ⟨x, y, z⟩ ⟨u, v, w⟩).x (sumN p ⟨x, y, z⟩ ⟨u, v, w⟩).y (sumN p ⟨x, y, z⟩ ⟨u, v, w⟩).z), .sc (.it 0)])) ⟨⟨hs, h1, h2⟩, hP, h1.lt hP, h2.lt hP, endV_eq rfl⟩ (by kernel_rfl))
def kAddF (s : Int) (p r c gx gy : Nat) : List AV → Option (List Prop × AV)
  | [.v1 (.sc (.it t)), .v1 (.agg [.one (.w .u64 x), .one (.w .u64 y), .one (.bo z)]), .v1 (.agg [.one (.w .u64 u), .one (.w .u64 v), .one (.bo w)])] => some ([t = s, LwP p ⟨x, y, z⟩, LwP p ⟨u, v, w⟩, (onB p ⟨x, y, z⟩ && onB p ⟨u, v, w⟩) = false], .tup [.agg (pC 0 0 false), .sc (.it 5)])
  | _ => none
def GEAddF (s : Int) (p r c gx gy : Nat) : Ctx := ctxL [(42, .rd (kChk2 (qOff2 s p) (zCh 5)))]
theorem okEAddF (hC : CuOk s p r c gx gy) : (CallC.pure (kAddF s p r c gx gy)).Ok Try.prog 30 := by
  have hG : CtxOk Try.prog (GEAddF s p r c gx gy) := ctxL_cons (okChk2F hC) ctxL_nil
  intro args pre v e hp
  unfold kAddF at e
  split at e
  rotate_left
  · cases e
  rename_i t x y z u v w
  cases e
  have hP := hC.gp
  have hs : t = s := hp _ (by simp)
  have hl : LwP p ⟨x, y, z⟩ := hp _ (by simp)
  have hm : LwP p ⟨u, v, w⟩ := hp _ (by simp)
  have hb : (onB p ⟨x, y, z⟩ && onB p ⟨u, v, w⟩) = false := hp _ (by simp)
  refine pure_walk' tt_ok Try.func30 (by kernel_rfl) (by kernel_rfl) (by rfl) (by rfl) ?_
  exact evS_q mixed tt_ok hG 60 [] (same (p := qOff2 s p t ⟨x, y, z⟩ ⟨u, v, w⟩ ∧ endV (.tup [.agg (pC 0 0 false), .sc (.it 5)]) (.tup [.agg (pC 0 0 false), .sc (.it 5)])) ⟨⟨hs, hl, hm, hb⟩, endV_eq rfl⟩ (by kernel_rfl))
def kAddB : List AV → Option (List Prop × AV)
  | [.v1 (.sc (.it t)), .v1 (.agg [.one (.w .u64 x), .one (.w .u64 y), .one (.bo z)]), .v1 (.agg [.one (.w .u64 u), .one (.w .u64 v), .one (.bo w)])] => some ([t ≠ 1, t ≠ 2], .tup [.agg (pC 0 0 false), .sc (.it 2)])
  | _ => none
def GEAddB : Ctx := ctxL [(42, .rd (kChk2 (fun t _ _ => qBad0 t) (zCh 2)))]
theorem okEAddB : (CallC.pure (kAddB )).Ok Try.prog 30 := by
  have hG : CtxOk Try.prog (GEAddB ) := ctxL_cons (okChk2B) ctxL_nil
  intro args pre v e hp
  unfold kAddB at e
  split at e
  rotate_left
  · cases e
  rename_i t x y z u v w
  cases e
  have b1 : t ≠ 1 := hp _ (by simp)
  have b2 : t ≠ 2 := hp _ (by simp)
  refine pure_walk' tt_ok Try.func30 (by kernel_rfl) (by kernel_rfl) (by rfl) (by rfl) ?_
  exact evS_q mixed tt_ok hG 60 [] (same (p := qBad0 t ∧ endV (.tup [.agg (pC 0 0 false), .sc (.it 2)]) (.tup [.agg (pC 0 0 false), .sc (.it 2)])) ⟨⟨b1, b2⟩, endV_eq rfl⟩ (by kernel_rfl))
def kMul (s : Int) (p r c gx gy : Nat) : List AV → Option (List Prop × AV)
  | [.v1 (.sc (.it t)), .v1 (.agg [.one (.w .u64 x), .one (.w .u64 y), .one (.bo z)]), .v1 (.sc (.w .u64 n))] => some ([t = s, OnP p ⟨x, y, z⟩], .tup [.agg (pC (mulP p ⟨x, y, z⟩ (n % W)).x (mulP p ⟨x, y, z⟩ (n % W)).y (mulP p ⟨x, y, z⟩ (n % W)).z), .sc (.it 0)])
  | _ => none
def GEMul (s : Int) (p r c gx gy : Nat) : Ctx := ctxL [(42, .rd (kChk1 (qOn1 s p) (chV p r c gx gy 0))), (59, .pure (yn LtP fun p P n => pv (mulP p P n)))]
theorem okEMul (hC : CuOk s p r c gx gy) : (CallC.pure (kMul s p r c gx gy)).Ok Try.prog 31 := by
  have hG : CtxOk Try.prog (GEMul s p r c gx gy) := ctxL_cons (okChk1 hC) <| ctxL_cons (okTimes) ctxL_nil
  intro args pre v e hp
  unfold kMul at e
  split at e
  rotate_left
  · cases e
  rename_i t x y z n
  cases e
  have hP := hC.gp
  have hs : t = s := hp _ (by simp)
  have h1 : OnP p ⟨x, y, z⟩ := hp _ (by simp)
  refine pure_walk' tt_ok Try.func31 (by kernel_rfl) (by kernel_rfl) (by rfl) (by rfl) ?_
  exact evS_q mixed tt_ok hG 60 [] (same (p := qOn1 s p t ⟨x, y, z⟩ ∧ Gp p ∧ LtP p ⟨x, y, z⟩ ∧ endV (.tup [.agg (pC (mulP p ⟨x, y, z⟩ (n % W)).x (mulP p ⟨x, y, z⟩ (n % W)).y (mulP p ⟨x, y, z⟩ (n % W)).z), .sc (.it 0)]) (.tup [.agg (pC (mulP p ⟨x, y, z⟩ (n % W)).x (mulP p ⟨x, y, z⟩ (n % W)).y (mulP p ⟨x, y, z⟩ (n % W)).z), .sc (.it 0)])) ⟨⟨hs, h1⟩, hP, h1.lt hP, endV_eq rfl⟩ (by kernel_rfl))
def kMulF (s : Int) (p r c gx gy : Nat) : List AV → Option (List Prop × AV)
  | [.v1 (.sc (.it t)), .v1 (.agg [.one (.w .u64 x), .one (.w .u64 y), .one (.bo z)]), .v1 (.sc (.w .u64 n))] => some ([t = s, LwP p ⟨x, y, z⟩, onB p ⟨x, y, z⟩ = false], .tup [.agg (pC 0 0 false), .sc (.it 5)])
  | _ => none
def GEMulF (s : Int) (p r c gx gy : Nat) : Ctx := ctxL [(42, .rd (kChk1 (qOff1 s p) (zCh 5)))]
theorem okEMulF (hC : CuOk s p r c gx gy) : (CallC.pure (kMulF s p r c gx gy)).Ok Try.prog 31 := by
  have hG : CtxOk Try.prog (GEMulF s p r c gx gy) := ctxL_cons (okChk1F hC) ctxL_nil
  intro args pre v e hp
  unfold kMulF at e
  split at e
  rotate_left
  · cases e
  rename_i t x y z n
  cases e
  have hP := hC.gp
  have hs : t = s := hp _ (by simp)
  have hl : LwP p ⟨x, y, z⟩ := hp _ (by simp)
  have hb : onB p ⟨x, y, z⟩ = false := hp _ (by simp)
  refine pure_walk' tt_ok Try.func31 (by kernel_rfl) (by kernel_rfl) (by rfl) (by rfl) ?_
  exact evS_q mixed tt_ok hG 60 [] (same (p := qOff1 s p t ⟨x, y, z⟩ ∧ endV (.tup [.agg (pC 0 0 false), .sc (.it 5)]) (.tup [.agg (pC 0 0 false), .sc (.it 5)])) ⟨⟨hs, hl, hb⟩, endV_eq rfl⟩ (by kernel_rfl))
def kMulB : List AV → Option (List Prop × AV)
  | [.v1 (.sc (.it t)), .v1 (.agg [.one (.w .u64 x), .one (.w .u64 y), .one (.bo z)]), .v1 (.sc (.w .u64 n))] => some ([t ≠ 1, t ≠ 2], .tup [.agg (pC 0 0 false), .sc (.it 2)])
  | _ => none
def GEMulB : Ctx := ctxL [(42, .rd (kChk1 (fun t _ => qBad0 t) (zCh 2)))]
theorem okEMulB : (CallC.pure (kMulB )).Ok Try.prog 31 := by
  have hG : CtxOk Try.prog (GEMulB ) := ctxL_cons (okChk1B) ctxL_nil
  intro args pre v e hp
  unfold kMulB at e
  split at e
  rotate_left
  · cases e
  rename_i t x y z n
  cases e
  have b1 : t ≠ 1 := hp _ (by simp)
  have b2 : t ≠ 2 := hp _ (by simp)
  refine pure_walk' tt_ok Try.func31 (by kernel_rfl) (by kernel_rfl) (by rfl) (by rfl) ?_
  exact evS_q mixed tt_ok hG 60 [] (same (p := qBad0 t ∧ endV (.tup [.agg (pC 0 0 false), .sc (.it 2)]) (.tup [.agg (pC 0 0 false), .sc (.it 2)])) ⟨⟨b1, b2⟩, endV_eq rfl⟩ (by kernel_rfl))
def kClear (s : Int) (p r c gx gy : Nat) : List AV → Option (List Prop × AV)
  | [.v1 (.sc (.it t)), .v1 (.agg [.one (.w .u64 x), .one (.w .u64 y), .one (.bo z)])] => some ([t = s, OnP p ⟨x, y, z⟩], .tup [.agg (pC (mulP p ⟨x, y, z⟩ (c % W)).x (mulP p ⟨x, y, z⟩ (c % W)).y (mulP p ⟨x, y, z⟩ (c % W)).z), .sc (.it 0)])
  | _ => none
def GEClear (s : Int) (p r c gx gy : Nat) : Ctx := ctxL [(42, .rd (kChk1 (qOn1 s p) (chV p r c gx gy 0))), (59, .pure (yn LtP fun p P n => pv (mulP p P n)))]
theorem okEClear (hC : CuOk s p r c gx gy) : (CallC.pure (kClear s p r c gx gy)).Ok Try.prog 32 := by
  have hG : CtxOk Try.prog (GEClear s p r c gx gy) := ctxL_cons (okChk1 hC) <| ctxL_cons (okTimes) ctxL_nil
  intro args pre v e hp
  unfold kClear at e
  split at e
  rotate_left
  · cases e
  rename_i t x y z
  cases e
  have hP := hC.gp
  have hs : t = s := hp _ (by simp)
  have h1 : OnP p ⟨x, y, z⟩ := hp _ (by simp)
  refine pure_walk' tt_ok Try.func32 (by kernel_rfl) (by kernel_rfl) (by rfl) (by rfl) ?_
  exact evS_q mixed tt_ok hG 60 [] (same (p := qOn1 s p t ⟨x, y, z⟩ ∧ Gp p ∧ LtP p ⟨x, y, z⟩ ∧ endV (.tup [.agg (pC (mulP p ⟨x, y, z⟩ (c % W)).x (mulP p ⟨x, y, z⟩ (c % W)).y (mulP p ⟨x, y, z⟩ (c % W)).z), .sc (.it 0)]) (.tup [.agg (pC (mulP p ⟨x, y, z⟩ (c % W)).x (mulP p ⟨x, y, z⟩ (c % W)).y (mulP p ⟨x, y, z⟩ (c % W)).z), .sc (.it 0)])) ⟨⟨hs, h1⟩, hP, h1.lt hP, endV_eq rfl⟩ (by kernel_rfl))
def kClearF (s : Int) (p r c gx gy : Nat) : List AV → Option (List Prop × AV)
  | [.v1 (.sc (.it t)), .v1 (.agg [.one (.w .u64 x), .one (.w .u64 y), .one (.bo z)])] => some ([t = s, LwP p ⟨x, y, z⟩, onB p ⟨x, y, z⟩ = false], .tup [.agg (pC 0 0 false), .sc (.it 5)])
  | _ => none
def GEClearF (s : Int) (p r c gx gy : Nat) : Ctx := ctxL [(42, .rd (kChk1 (qOff1 s p) (zCh 5)))]
theorem okEClearF (hC : CuOk s p r c gx gy) : (CallC.pure (kClearF s p r c gx gy)).Ok Try.prog 32 := by
  have hG : CtxOk Try.prog (GEClearF s p r c gx gy) := ctxL_cons (okChk1F hC) ctxL_nil
  intro args pre v e hp
  unfold kClearF at e
  split at e
  rotate_left
  · cases e
  rename_i t x y z
  cases e
  have hP := hC.gp
  have hs : t = s := hp _ (by simp)
  have hl : LwP p ⟨x, y, z⟩ := hp _ (by simp)
  have hb : onB p ⟨x, y, z⟩ = false := hp _ (by simp)
  refine pure_walk' tt_ok Try.func32 (by kernel_rfl) (by kernel_rfl) (by rfl) (by rfl) ?_
  exact evS_q mixed tt_ok hG 60 [] (same (p := qOff1 s p t ⟨x, y, z⟩ ∧ endV (.tup [.agg (pC 0 0 false), .sc (.it 5)]) (.tup [.agg (pC 0 0 false), .sc (.it 5)])) ⟨⟨hs, hl, hb⟩, endV_eq rfl⟩ (by kernel_rfl))
def kClearB : List AV → Option (List Prop × AV)
  | [.v1 (.sc (.it t)), .v1 (.agg [.one (.w .u64 x), .one (.w .u64 y), .one (.bo z)])] => some ([t ≠ 1, t ≠ 2], .tup [.agg (pC 0 0 false), .sc (.it 2)])
  | _ => none
def GEClearB : Ctx := ctxL [(42, .rd (kChk1 (fun t _ => qBad0 t) (zCh 2)))]
theorem okEClearB : (CallC.pure (kClearB )).Ok Try.prog 32 := by
  have hG : CtxOk Try.prog (GEClearB ) := ctxL_cons (okChk1B) ctxL_nil
  intro args pre v e hp
  unfold kClearB at e
  split at e
  rotate_left
  · cases e
  rename_i t x y z
  cases e
  have b1 : t ≠ 1 := hp _ (by simp)
  have b2 : t ≠ 2 := hp _ (by simp)
  refine pure_walk' tt_ok Try.func32 (by kernel_rfl) (by kernel_rfl) (by rfl) (by rfl) ?_
  exact evS_q mixed tt_ok hG 60 [] (same (p := qBad0 t ∧ endV (.tup [.agg (pC 0 0 false), .sc (.it 2)]) (.tup [.agg (pC 0 0 false), .sc (.it 2)])) ⟨⟨b1, b2⟩, endV_eq rfl⟩ (by kernel_rfl))
def kNeg (s : Int) (p r c gx gy : Nat) : List AV → Option (List Prop × AV)
  | [.v1 (.sc (.it t)), .v1 (.agg [.one (.w .u64 x), .one (.w .u64 y), .one (.bo z)])] => some ([t = s, OnP p ⟨x, y, z⟩], .tup [.agg (pC (negL p ⟨x, y, z⟩).x (negL p ⟨x, y, z⟩).y (negL p ⟨x, y, z⟩).z), .sc (.it 0)])
  | _ => none
def GENeg (s : Int) (p r c gx gy : Nat) : Ctx := ctxL [(42, .rd (kChk1 (qOn1 s p) (chV p r c gx gy 0))), (60, .pure (z2 zSub))]
theorem okENeg (hC : CuOk s p r c gx gy) : (CallC.pure (kNeg s p r c gx gy)).Ok Try.prog 33 := by
  have hG : CtxOk Try.prog (GENeg s p r c gx gy) := ctxL_cons (okChk1 hC) <| ctxL_cons (okZSub) ctxL_nil
  intro args pre v e hp
  unfold kNeg at e
  split at e
  rotate_left
  · cases e
  rename_i t x y z
  cases e
  have hP := hC.gp
  have hs : t = s := hp _ (by simp)
  have h1 : OnP p ⟨x, y, z⟩ := hp _ (by simp)
  refine pure_walk' tt_ok Try.func33 (by kernel_rfl) (by kernel_rfl) (by rfl) (by rfl) ?_
  exact evS_q mixed tt_ok hG 60 [] (same (p := qOn1 s p t ⟨x, y, z⟩ ∧ Gp p ∧ 0 < p ∧ y < p ∧ endV (.tup [.agg (pC (negL p ⟨x, y, z⟩).x (negL p ⟨x, y, z⟩).y (negL p ⟨x, y, z⟩).z), .sc (.it 0)]) (.tup [.agg (pC (negL p ⟨x, y, z⟩).x (negL p ⟨x, y, z⟩).y (negL p ⟨x, y, z⟩).z), .sc (.it 0)])) ⟨⟨hs, h1⟩, hP, hP.pos, (h1.lt hP).2, endV_eq rfl⟩ (by kernel_rfl))
def kNegF (s : Int) (p r c gx gy : Nat) : List AV → Option (List Prop × AV)
  | [.v1 (.sc (.it t)), .v1 (.agg [.one (.w .u64 x), .one (.w .u64 y), .one (.bo z)])] => some ([t = s, LwP p ⟨x, y, z⟩, onB p ⟨x, y, z⟩ = false], .tup [.agg (pC 0 0 false), .sc (.it 5)])
  | _ => none
def GENegF (s : Int) (p r c gx gy : Nat) : Ctx := ctxL [(42, .rd (kChk1 (qOff1 s p) (zCh 5)))]
theorem okENegF (hC : CuOk s p r c gx gy) : (CallC.pure (kNegF s p r c gx gy)).Ok Try.prog 33 := by
  have hG : CtxOk Try.prog (GENegF s p r c gx gy) := ctxL_cons (okChk1F hC) ctxL_nil
  intro args pre v e hp
  unfold kNegF at e
  split at e
  rotate_left
  · cases e
  rename_i t x y z
  cases e
  have hP := hC.gp
  have hs : t = s := hp _ (by simp)
  have hl : LwP p ⟨x, y, z⟩ := hp _ (by simp)
  have hb : onB p ⟨x, y, z⟩ = false := hp _ (by simp)
  refine pure_walk' tt_ok Try.func33 (by kernel_rfl) (by kernel_rfl) (by rfl) (by rfl) ?_
  exact evS_q mixed tt_ok hG 60 [] (same (p := qOff1 s p t ⟨x, y, z⟩ ∧ endV (.tup [.agg (pC 0 0 false), .sc (.it 5)]) (.tup [.agg (pC 0 0 false), .sc (.it 5)])) ⟨⟨hs, hl, hb⟩, endV_eq rfl⟩ (by kernel_rfl))
def kNegB : List AV → Option (List Prop × AV)
  | [.v1 (.sc (.it t)), .v1 (.agg [.one (.w .u64 x), .one (.w .u64 y), .one (.bo z)])] => some ([t ≠ 1, t ≠ 2], .tup [.agg (pC 0 0 false), .sc (.it 2)])
  | _ => none
def GENegB : Ctx := ctxL [(42, .rd (kChk1 (fun t _ => qBad0 t) (zCh 2)))]
theorem okENegB : (CallC.pure (kNegB )).Ok Try.prog 33 := by
  have hG : CtxOk Try.prog (GENegB ) := ctxL_cons (okChk1B) ctxL_nil
  intro args pre v e hp
  unfold kNegB at e
  split at e
  rotate_left
  · cases e
  rename_i t x y z
  cases e
  have b1 : t ≠ 1 := hp _ (by simp)
  have b2 : t ≠ 2 := hp _ (by simp)
  refine pure_walk' tt_ok Try.func33 (by kernel_rfl) (by kernel_rfl) (by rfl) (by rfl) ?_
  exact evS_q mixed tt_ok hG 60 [] (same (p := qBad0 t ∧ endV (.tup [.agg (pC 0 0 false), .sc (.it 2)]) (.tup [.agg (pC 0 0 false), .sc (.it 2)])) ⟨⟨b1, b2⟩, endV_eq rfl⟩ (by kernel_rfl))
def kPair (s : Int) (p r c gx gy : Nat) : List AV → Option (List Prop × AV)
  | [.v1 (.sc (.it t)), .v1 (.agg [.one (.w .u64 x), .one (.w .u64 y), .one (.bo z)]), .v1 (.agg [.one (.w .u64 u), .one (.w .u64 v), .one (.bo w)])] => some ([t = s, inN p r ⟨x, y, z⟩ = true, inN p r ⟨u, v, w⟩ = true], .tup [.agg [.ws .u64 2 (pairN p r c ⟨x, y, z⟩ ⟨u, v, w⟩)], .sc (.it 0)])
  | _ => none
def GEPair (s : Int) (p r c gx gy : Nat) : Ctx := ctxL [(42, .pure (kChk0 (fun t => t = s) (chV p r c gx gy 0))), (45, .pure (y1 LwP fun p r P => .v1 (.sc (.bo (inN p r P))))), (48, .pure y2c)]
theorem okEPair (hC : CuOk s p r c gx gy) : (CallC.pure (kPair s p r c gx gy)).Ok Try.prog 19 := by
  have hG : CtxOk Try.prog (GEPair s p r c gx gy) := ctxL_cons (okChk0 hC) <| ctxL_cons (okIn) <| ctxL_cons (okPair) ctxL_nil
  intro args pre v e hp
  unfold kPair at e
  split at e
  rotate_left
  · cases e
  rename_i t x y z u v w
  cases e
  have hP := hC.gp
  have hs : t = s := hp _ (by simp)
  have h1 : inN p r ⟨x, y, z⟩ = true := hp _ (by simp)
  have h2 : inN p r ⟨u, v, w⟩ = true := hp _ (by simp)
  refine pure_walk' tt_ok Try.func19 (by kernel_rfl) (by kernel_rfl) (by rfl) (by rfl) ?_
  exact evS_q mixed tt_ok hG 60 [⟨4,2,.lit (.bo true)⟩,⟨4,7,.lit (.bo true)⟩] (same (p := t = s ∧ inN p r ⟨x, y, z⟩ = true ∧ Gp p ∧ LwP p ⟨x, y, z⟩ ∧ inN p r ⟨u, v, w⟩ = true ∧ Gp p ∧ LwP p ⟨u, v, w⟩ ∧ Gp p ∧ r % W ≠ 0 ∧ c * (p - 1) < W ∧ OnP p ⟨x, y, z⟩ ∧ OnP p ⟨u, v, w⟩ ∧ endV (.tup [.agg [.ws .u64 2 (pairN p r c ⟨x, y, z⟩ ⟨u, v, w⟩)], .sc (.it 0)]) (.tup [.agg [.ws .u64 2 (pairN p r c ⟨x, y, z⟩ ⟨u, v, w⟩)], .sc (.it 0)])) ⟨hs, h1, hP, OnP.lw hP (in_on h1), h2, hP, OnP.lw hP (in_on h2), hP, hC.r0, hC.cp, in_on h1, in_on h2, endV_eq rfl⟩ (by kernel_rfl))
def kPairF (s : Int) (p r c gx gy : Nat) : List AV → Option (List Prop × AV)
  | [.v1 (.sc (.it t)), .v1 (.agg [.one (.w .u64 x), .one (.w .u64 y), .one (.bo z)]), .v1 (.agg [.one (.w .u64 u), .one (.w .u64 v), .one (.bo w)])] => some ([t = s, LwP p ⟨x, y, z⟩, LwP p ⟨u, v, w⟩, (inN p r ⟨x, y, z⟩ && inN p r ⟨u, v, w⟩) = false], .tup [.agg [.ws .u64 2 (fun _ => 0)], .sc (.it 5)])
  | _ => none
def GEPairF (s : Int) (p r c gx gy : Nat) : Ctx := ctxL [(42, .pure (kChk0 (fun t => t = s) (chV p r c gx gy 0))), (45, .pure (y1 LwP fun p r P => .v1 (.sc (.bo (inN p r P)))))]
theorem okEPairF (hC : CuOk s p r c gx gy) : (CallC.pure (kPairF s p r c gx gy)).Ok Try.prog 19 := by
  have hG : CtxOk Try.prog (GEPairF s p r c gx gy) := ctxL_cons (okChk0 hC) <| ctxL_cons (okIn) ctxL_nil
  intro args pre v e hp
  unfold kPairF at e
  split at e
  rotate_left
  · cases e
  rename_i t x y z u v w
  cases e
  have hP := hC.gp
  have hs : t = s := hp _ (by simp)
  have hl : LwP p ⟨x, y, z⟩ := hp _ (by simp)
  have hm : LwP p ⟨u, v, w⟩ := hp _ (by simp)
  have hb : (inN p r ⟨x, y, z⟩ && inN p r ⟨u, v, w⟩) = false := hp _ (by simp)
  refine pure_walk' tt_ok Try.func19 (by kernel_rfl) (by kernel_rfl) (by rfl) (by rfl) ?_
  cases h1 : inN p r ⟨x, y, z⟩
  ·
    exact evS_q mixed tt_ok hG 60 [⟨4,2,.lit (.bo false)⟩] (same (p := t = s ∧ inN p r ⟨x, y, z⟩ = false ∧ Gp p ∧ LwP p ⟨x, y, z⟩ ∧ endV (.tup [.agg [.ws .u64 2 (fun _ => 0)], .sc (.it 5)]) (.tup [.agg [.ws .u64 2 (fun _ => 0)], .sc (.it 5)])) ⟨hs, h1, hP, hl, endV_eq rfl⟩ (by kernel_rfl))
  · rw [h1, Bool.true_and] at hb
    skip
    exact evS_q mixed tt_ok hG 60 [⟨4,2,.lit (.bo true)⟩,⟨4,7,.lit (.bo false)⟩] (same (p := t = s ∧ inN p r ⟨x, y, z⟩ = true ∧ Gp p ∧ LwP p ⟨x, y, z⟩ ∧ inN p r ⟨u, v, w⟩ = false ∧ Gp p ∧ LwP p ⟨u, v, w⟩ ∧ endV (.tup [.agg [.ws .u64 2 (fun _ => 0)], .sc (.it 5)]) (.tup [.agg [.ws .u64 2 (fun _ => 0)], .sc (.it 5)])) ⟨hs, h1, hP, hl, hb, hP, hm, endV_eq rfl⟩ (by kernel_rfl))
def kPairB : List AV → Option (List Prop × AV)
  | [.v1 (.sc (.it t)), .v1 (.agg [.one (.w .u64 x), .one (.w .u64 y), .one (.bo z)]), .v1 (.agg [.one (.w .u64 u), .one (.w .u64 v), .one (.bo w)])] => some ([t ≠ 1, t ≠ 2], .tup [.agg [.ws .u64 2 (fun _ => 0)], .sc (.it 2)])
  | _ => none
def GEPairB : Ctx := ctxL [(42, .pure (kChk0 qBad0 (zCh 2)))]
theorem okEPairB : (CallC.pure (kPairB )).Ok Try.prog 19 := by
  have hG : CtxOk Try.prog (GEPairB ) := ctxL_cons (okChk0B) ctxL_nil
  intro args pre v e hp
  unfold kPairB at e
  split at e
  rotate_left
  · cases e
  rename_i t x y z u v w
  cases e
  have b1 : t ≠ 1 := hp _ (by simp)
  have b2 : t ≠ 2 := hp _ (by simp)
  refine pure_walk' tt_ok Try.func19 (by kernel_rfl) (by kernel_rfl) (by rfl) (by rfl) ?_
  exact evS_q mixed tt_ok hG 60 [] (same (p := qBad0 t ∧ endV (.tup [.agg [.ws .u64 2 (fun _ => 0)], .sc (.it 2)]) (.tup [.agg [.ws .u64 2 (fun _ => 0)], .sc (.it 2)])) ⟨⟨b1, b2⟩, endV_eq rfl⟩ (by kernel_rfl))
def kTimes (s : Int) (p r c gx gy : Nat) : List AV → Option (List Prop × AV)
  | [.v1 (.sc (.it t)), .v1 (.agg [.ws .u64 2 a]), .v1 (.agg [.ws .u64 2 b])] => some ([t = s], .tup [.agg [.ws .u64 2 (k2 p (f2' (a 0 % W % p) (a 1 % W % p)) (f2' (b 0 % W % p) (b 1 % W % p)))], .sc (.it 0)])
  | _ => none
def GETimes (s : Int) (p r c gx gy : Nat) : Ctx := ctxL [(42, .pure (kChk0 (fun t => t = s) (chV p r c gx gy 0))), (50, .pure w1), (49, .pure w2)]
theorem okETimes (hC : CuOk s p r c gx gy) : (CallC.pure (kTimes s p r c gx gy)).Ok Try.prog 20 := by
  have hG : CtxOk Try.prog (GETimes s p r c gx gy) := ctxL_cons (okChk0 hC) <| ctxL_cons (okLeft) <| ctxL_cons (okTimes2) ctxL_nil
  intro args pre v e hp
  unfold kTimes at e
  split at e
  rotate_left
  · cases e
  rename_i t a b
  cases e
  have hP := hC.gp
  have hs : t = s := hp _ (by simp)
  refine pure_walk' tt_ok Try.func20 (by kernel_rfl) (by kernel_rfl) (by rfl) (by rfl) ?_
  exact evS_q mixed tt_ok hG 60 [] (same (p := t = s ∧ Gp p ∧ Gp p ∧ Gp p ∧ Lt2 p (f2' (a 0 % W % p) (a 1 % W % p)) ∧ Lt2 p (f2' (b 0 % W % p) (b 1 % W % p)) ∧ endV (.tup [.agg [.ws .u64 2 (k2 p (f2' (a 0 % W % p) (a 1 % W % p)) (f2' (b 0 % W % p) (b 1 % W % p)))], .sc (.it 0)]) (.tup [.agg [.ws .u64 2 (k2 p (f2' (a 0 % W % p) (a 1 % W % p)) (f2' (b 0 % W % p) (b 1 % W % p)))], .sc (.it 0)])) ⟨hs, hP, hP, hP, ⟨Nat.mod_lt _ hP.pos, Nat.mod_lt _ hP.pos⟩, ⟨Nat.mod_lt _ hP.pos, Nat.mod_lt _ hP.pos⟩, endV_eq rfl⟩ (by kernel_rfl))
def kTimesB : List AV → Option (List Prop × AV)
  | [.v1 (.sc (.it t)), .v1 (.agg [.ws .u64 2 a]), .v1 (.agg [.ws .u64 2 b])] => some ([t ≠ 1, t ≠ 2], .tup [.agg [.ws .u64 2 (fun _ => 0)], .sc (.it 2)])
  | _ => none
def GETimesB : Ctx := ctxL [(42, .pure (kChk0 qBad0 (zCh 2)))]
theorem okETimesB : (CallC.pure (kTimesB )).Ok Try.prog 20 := by
  have hG : CtxOk Try.prog (GETimesB ) := ctxL_cons (okChk0B) ctxL_nil
  intro args pre v e hp
  unfold kTimesB at e
  split at e
  rotate_left
  · cases e
  rename_i t a b
  cases e
  have b1 : t ≠ 1 := hp _ (by simp)
  have b2 : t ≠ 2 := hp _ (by simp)
  refine pure_walk' tt_ok Try.func20 (by kernel_rfl) (by kernel_rfl) (by rfl) (by rfl) ?_
  exact evS_q mixed tt_ok hG 60 [] (same (p := qBad0 t ∧ endV (.tup [.agg [.ws .u64 2 (fun _ => 0)], .sc (.it 2)]) (.tup [.agg [.ws .u64 2 (fun _ => 0)], .sc (.it 2)])) ⟨⟨b1, b2⟩, endV_eq rfl⟩ (by kernel_rfl))
def kPower (s : Int) (p r c gx gy : Nat) : List AV → Option (List Prop × AV)
  | [.v1 (.sc (.it t)), .v1 (.agg [.ws .u64 2 a]), .v1 (.sc (.w .u64 n))] => some ([t = s], .tup [.agg [.ws .u64 2 (pow2 p (f2' (a 0 % W % p) (a 1 % W % p)) (n % W))], .sc (.it 0)])
  | _ => none
def GEPower (s : Int) (p r c gx gy : Nat) : Ctx := ctxL [(42, .pure (kChk0 (fun t => t = s) (chV p r c gx gy 0))), (50, .pure w1), (51, .pure w2n)]
theorem okEPower (hC : CuOk s p r c gx gy) : (CallC.pure (kPower s p r c gx gy)).Ok Try.prog 21 := by
  have hG : CtxOk Try.prog (GEPower s p r c gx gy) := ctxL_cons (okChk0 hC) <| ctxL_cons (okLeft) <| ctxL_cons (okPower2) ctxL_nil
  intro args pre v e hp
  unfold kPower at e
  split at e
  rotate_left
  · cases e
  rename_i t a n
  cases e
  have hP := hC.gp
  have hs : t = s := hp _ (by simp)
  refine pure_walk' tt_ok Try.func21 (by kernel_rfl) (by kernel_rfl) (by rfl) (by rfl) ?_
  exact evS_q mixed tt_ok hG 60 [] (same (p := t = s ∧ Gp p ∧ Gp p ∧ Lt2 p (f2' (a 0 % W % p) (a 1 % W % p)) ∧ endV (.tup [.agg [.ws .u64 2 (pow2 p (f2' (a 0 % W % p) (a 1 % W % p)) (n % W))], .sc (.it 0)]) (.tup [.agg [.ws .u64 2 (pow2 p (f2' (a 0 % W % p) (a 1 % W % p)) (n % W))], .sc (.it 0)])) ⟨hs, hP, hP, ⟨Nat.mod_lt _ hP.pos, Nat.mod_lt _ hP.pos⟩, endV_eq rfl⟩ (by kernel_rfl))
def kPowerB : List AV → Option (List Prop × AV)
  | [.v1 (.sc (.it t)), .v1 (.agg [.ws .u64 2 a]), .v1 (.sc (.w .u64 n))] => some ([t ≠ 1, t ≠ 2], .tup [.agg [.ws .u64 2 (fun _ => 0)], .sc (.it 2)])
  | _ => none
def GEPowerB : Ctx := ctxL [(42, .pure (kChk0 qBad0 (zCh 2)))]
theorem okEPowerB : (CallC.pure (kPowerB )).Ok Try.prog 21 := by
  have hG : CtxOk Try.prog (GEPowerB ) := ctxL_cons (okChk0B) ctxL_nil
  intro args pre v e hp
  unfold kPowerB at e
  split at e
  rotate_left
  · cases e
  rename_i t a n
  cases e
  have b1 : t ≠ 1 := hp _ (by simp)
  have b2 : t ≠ 2 := hp _ (by simp)
  refine pure_walk' tt_ok Try.func21 (by kernel_rfl) (by kernel_rfl) (by rfl) (by rfl) ?_
  exact evS_q mixed tt_ok hG 60 [] (same (p := qBad0 t ∧ endV (.tup [.agg [.ws .u64 2 (fun _ => 0)], .sc (.it 2)]) (.tup [.agg [.ws .u64 2 (fun _ => 0)], .sc (.it 2)])) ⟨⟨b1, b2⟩, endV_eq rfl⟩ (by kernel_rfl))
def kNearB : List AV → Option (List Prop × AV)
  | [.v1 (.sc (.it t)), .v1 (.sc (.w .u64 n))] => some ([t ≠ 1, t ≠ 2], .tup [.agg (pC 0 0 false), .sc (.it 0), .sc (.it 2)])
  | _ => none
def GENearB : Ctx := ctxL [(42, .pure (kChk0 qBad0 (zCh 2)))]
theorem okENearB : (CallC.pure (kNearB )).Ok Try.prog 34 := by
  have hG : CtxOk Try.prog (GENearB ) := ctxL_cons (okChk0B) ctxL_nil
  intro args pre v e hp
  unfold kNearB at e
  split at e
  rotate_left
  · cases e
  rename_i t n
  cases e
  have b1 : t ≠ 1 := hp _ (by simp)
  have b2 : t ≠ 2 := hp _ (by simp)
  refine pure_walk' tt_ok Try.func34 (by kernel_rfl) (by kernel_rfl) (by rfl) (by rfl) ?_
  exact evS_q mixed tt_ok hG 60 [] (same (p := qBad0 t ∧ endV (.tup [.agg (pC 0 0 false), .sc (.it 0), .sc (.it 2)]) (.tup [.agg (pC 0 0 false), .sc (.it 0), .sc (.it 2)])) ⟨⟨b1, b2⟩, endV_eq rfl⟩ (by kernel_rfl))
end
end Go.Proofs.Ytafiafkeigdjhaa
