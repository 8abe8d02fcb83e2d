/- Tag of both sides. Printed by genc12.py. -/
import Derived.Test.YtndmoidenbfflaaC11
namespace Go.Proofs.Ytndmoidenbfflaa
open Go.Rq Go
set_option linter.unusedVariables false
set_option linter.unusedSimpArgs false
set_option maxRecDepth 100000
abbrev nlT (e : Int) : AV := .tup [.sc (.rw (.slice none 0 0)), .sc (.it e)]
theorem neq_t {n m : Nat} (h : n ≠ m) : (!ieq (Int.ofNat n) (Int.ofNat m)) = true := by
  have : ieq (Int.ofNat n) (Int.ofNat m) = false := by rw [← Bool.not_eq_true, ieq_iff]; simp only [Int.ofNat_eq_natCast]; omega
  rw [this]; rfl
def cTagA (args : List AV) (h : Heap) : Option (List Prop × AV) :=
  match args with
  | [x, y] => match vw h x, vw h y with
    | some (n, kf, p1), some (m, bf, p2) => some (p1 ++ p2 ++ [n ≠ 32], nlT 2)
    | _, _ => none
  | _ => none
def cTagL (args : List AV) (h : Heap) : Option (List Prop × AV) :=
  match args with
  | [x, y] => match vw h x, vw h y with
    | some (n, kf, p1), some (m, bf, p2) => some (p1 ++ p2 ++ [n = 32, 1048576 < m], nlT 3)
    | _, _ => none
  | _ => none
def cTagS (args : List AV) (h : Heap) (slot : Nat) : Option (List Prop × AV × Heap) :=
  match args with
  | [x, y] => match vw h x, vw h y, isHole h slot with
    | some (n, kf, p1), some (m, bf, p2), true => some (p1 ++ p2 ++ [n = 32, m ≤ 1048576], .tup [.sc (.sl slot 0 16 16), .sc (.it 0)], hset h slot (uB16 (dgN (tagN kf bf m))))
    | _, _, _ => none
  | _ => none
def cTagS' (args : List AV) (h : Heap) (slot : Nat) : Option (List Prop × AV × Heap) :=
  match args with
  | [x, y] => match vw h x, vw h y, isHole h slot && isHole h (slot + 1) with
    | some (n, kf, p1), some (m, bf, p2), true => some (p1 ++ p2 ++ [n = 32, m ≤ 1048576], .tup [.sc (.so slot 16), .sc (.it 0)], hset (hset h slot ⟨5, [.ws .u8 16 (dgN (tagN kf bf m))], 1, 1⟩) (slot + 1) ⟨0, [], 2, 0⟩)
    | _, _, _ => none
  | _ => none
def GTS : Ctx := ctxL [(33, .mem cTagOf)]
theorem GTS_ok : CtxOk Try.prog GTS := ctxL_cons okTagOf ctxL_nil
def GTS' : Ctx := ctxL [(34, .mem cTag')]
theorem GTS'_ok : CtxOk Try.prog GTS' := ctxL_cons okTag' ctxL_nil
theorem okTagA : (CallC.rd cTagA).Ok Try.prog 13 := by
  refine ⟨fun args h pre v e hp => ?_, fun args h slot blk hs ha => ?_⟩
  · unfold cTagA at e
    split at e
    rotate_left
    · cases e
    rename_i x y
    split at e
    rotate_left
    · cases e
    rename_i n kf p1 m bf p2 h1 h2
    cases e
    have hn : n ≠ 32 := hp (n ≠ 32) (by simp)
    refine views_call tt_ok Try.func13 (by kernel_rfl) (by kernel_rfl) [.vs n kf, .vs m bf] (args := [x, y])
      ⟨⟨p1, h1, fun p hq => hp p (by simp [hq])⟩, ⟨p2, h2, fun p hq => hp p (by simp [hq])⟩, trivial⟩ 0 [] (nlT 2) rfl rfl rfl (fun t ht => by simp at ht) fun a W hi => ⟨[], rfl, ?_⟩
    rcases hi with _ | _ | ⟨w1, h0, hi⟩ | ⟨t1, o1, c1, v1, kc1, hi⟩ | _
    · rcases hi with _ | _ | ⟨w2, h02, hi⟩ | ⟨t2, o2, c2, v2, kc2, hi⟩ | _
      · cases hi
        exact evS_q mixed tt_ok (G := ctxL []) ctxL_nil 60 [] (same (p := endM [] [] [] (nlT 2) (nlT 2)) (endM_same rfl rfl) (by kernel_rfl))
      · cases hi
        exact evS_q mixed tt_ok (G := ctxL []) ctxL_nil 60 [] (same (p := endM [0] [wB t2 o2 m bf v2] [wB t2 o2 m bf v2] (nlT 2) (nlT 2)) (endM_same rfl rfl) (by kernel_rfl))
    · rcases hi with _ | _ | ⟨w2, h02, hi⟩ | ⟨t2, o2, c2, v2, kc2, hi⟩ | _
      · cases hi
        exact evS_q mixed tt_ok (G := ctxL []) ctxL_nil 60 [⟨1,2,.lit (.bo true)⟩] (same (p := (!ieq (Int.ofNat n) 32) = true ∧ endM [0] [wB t1 o1 n kf v1] [wB t1 o1 n kf v1] (nlT 2) (nlT 2)) ⟨neq_t (m := 32) hn, endM_same rfl rfl⟩ (by kernel_rfl))
      · cases hi
        exact evS_q mixed tt_ok (G := ctxL []) ctxL_nil 60 [⟨1,2,.lit (.bo true)⟩] (same (p := (!ieq (Int.ofNat n) 32) = true ∧ endM [0, 1] [wB t1 o1 n kf v1, wB t2 o2 m bf v2] [wB t1 o1 n kf v1, wB t2 o2 m bf v2] (nlT 2) (nlT 2)) ⟨neq_t (m := 32) hn, endM_same rfl rfl⟩ (by kernel_rfl))
  · unfold cTagA
    split
    · rename_i x y
      rw [vw_local hs (ha x (by simp)), vw_local hs (ha y (by simp))]
    · rfl
theorem okTagL : (CallC.rd cTagL).Ok Try.prog 13 := by
  refine ⟨fun args h pre v e hp => ?_, fun args h slot blk hs ha => ?_⟩
  · unfold cTagL at e
    split at e
    rotate_left
    · cases e
    rename_i x y
    split at e
    rotate_left
    · cases e
    rename_i n kf p1 m bf p2 h1 h2
    cases e
    have hn : n = 32 := hp (n = 32) (by simp)
    have hm : 1048576 < m := hp (1048576 < m) (by simp)
    subst hn
    refine views_call tt_ok Try.func13 (by kernel_rfl) (by kernel_rfl) [.vs 32 kf, .vs m bf] (args := [x, y])
      ⟨⟨p1, h1, fun p hq => hp p (by simp [hq])⟩, ⟨p2, h2, fun p hq => hp p (by simp [hq])⟩, trivial⟩ 0 [] (nlT 3) rfl rfl rfl (fun t ht => by simp at ht) fun a W hi => ⟨[], rfl, ?_⟩
    rcases hi with _ | _ | ⟨w1, h0, hi⟩ | ⟨t1, o1, c1, v1, kc1, hi⟩ | _
    · exact absurd h0 (by decide)
    · rcases hi with _ | _ | ⟨w2, h02, hi⟩ | ⟨t2, o2, c2, v2, kc2, hi⟩ | _
      · omega
      · cases hi
        exact evS_q mixed tt_ok (G := ctxL []) ctxL_nil 60 [⟨3,2,.lit (.bo true)⟩] (same (p := ilt 1048576 (Int.ofNat m) = true ∧ endM [0, 1] [wB t1 o1 32 kf v1, wB t2 o2 m bf v2] [wB t1 o1 32 kf v1, wB t2 o2 m bf v2] (nlT 3) (nlT 3)) ⟨ilt_t (i := 1048576) hm, endM_same rfl rfl⟩ (by kernel_rfl))
  · unfold cTagL
    split
    · rename_i x y
      rw [vw_local hs (ha x (by simp)), vw_local hs (ha y (by simp))]
    · rfl
theorem okTagA' : (CallC.rd cTagA).Ok Try.prog 14 := by
  refine ⟨fun args h pre v e hp => ?_, fun args h slot blk hs ha => ?_⟩
  · unfold cTagA at e
    split at e
    rotate_left
    · cases e
    rename_i x y
    split at e
    rotate_left
    · cases e
    rename_i n kf p1 m bf p2 h1 h2
    cases e
    have hn : n ≠ 32 := hp (n ≠ 32) (by simp)
    refine views_call tt_ok Try.func14 (by kernel_rfl) (by kernel_rfl) [.vs n kf, .vs m bf] (args := [x, y])
      ⟨⟨p1, h1, fun p hq => hp p (by simp [hq])⟩, ⟨p2, h2, fun p hq => hp p (by simp [hq])⟩, trivial⟩ 0 [] (nlT 2) rfl rfl rfl (fun t ht => by simp at ht) fun a W hi => ⟨[], rfl, ?_⟩
    rcases hi with _ | _ | ⟨w1, h0, hi⟩ | ⟨t1, o1, c1, v1, kc1, hi⟩ | _
    · rcases hi with _ | _ | ⟨w2, h02, hi⟩ | ⟨t2, o2, c2, v2, kc2, hi⟩ | _
      · cases hi
        exact evS_q mixed tt_ok (G := ctxL []) ctxL_nil 60 [] (same (p := endM [] [] [] (nlT 2) (nlT 2)) (endM_same rfl rfl) (by kernel_rfl))
      · cases hi
        exact evS_q mixed tt_ok (G := ctxL []) ctxL_nil 60 [] (same (p := endM [0] [wB t2 o2 m bf v2] [wB t2 o2 m bf v2] (nlT 2) (nlT 2)) (endM_same rfl rfl) (by kernel_rfl))
    · rcases hi with _ | _ | ⟨w2, h02, hi⟩ | ⟨t2, o2, c2, v2, kc2, hi⟩ | _
      · cases hi
        exact evS_q mixed tt_ok (G := ctxL []) ctxL_nil 60 [⟨1,2,.lit (.bo true)⟩] (same (p := (!ieq (Int.ofNat n) 32) = true ∧ endM [0] [wB t1 o1 n kf v1] [wB t1 o1 n kf v1] (nlT 2) (nlT 2)) ⟨neq_t (m := 32) hn, endM_same rfl rfl⟩ (by kernel_rfl))
      · cases hi
        exact evS_q mixed tt_ok (G := ctxL []) ctxL_nil 60 [⟨1,2,.lit (.bo true)⟩] (same (p := (!ieq (Int.ofNat n) 32) = true ∧ endM [0, 1] [wB t1 o1 n kf v1, wB t2 o2 m bf v2] [wB t1 o1 n kf v1, wB t2 o2 m bf v2] (nlT 2) (nlT 2)) ⟨neq_t (m := 32) hn, endM_same rfl rfl⟩ (by kernel_rfl))
  · unfold cTagA
    split
    · rename_i x y
      rw [vw_local hs (ha x (by simp)), vw_local hs (ha y (by simp))]
    · rfl
theorem okTagL' : (CallC.rd cTagL).Ok Try.prog 14 := by
  refine ⟨fun args h pre v e hp => ?_, fun args h slot blk hs ha => ?_⟩
  · unfold cTagL at e
    split at e
    rotate_left
    · cases e
    rename_i x y
    split at e
    rotate_left
    · cases e
    rename_i n kf p1 m bf p2 h1 h2
    cases e
    have hn : n = 32 := hp (n = 32) (by simp)
    have hm : 1048576 < m := hp (1048576 < m) (by simp)
    subst hn
    refine views_call tt_ok Try.func14 (by kernel_rfl) (by kernel_rfl) [.vs 32 kf, .vs m bf] (args := [x, y])
      ⟨⟨p1, h1, fun p hq => hp p (by simp [hq])⟩, ⟨p2, h2, fun p hq => hp p (by simp [hq])⟩, trivial⟩ 0 [] (nlT 3) rfl rfl rfl (fun t ht => by simp at ht) fun a W hi => ⟨[], rfl, ?_⟩
    rcases hi with _ | _ | ⟨w1, h0, hi⟩ | ⟨t1, o1, c1, v1, kc1, hi⟩ | _
    · exact absurd h0 (by decide)
    · rcases hi with _ | _ | ⟨w2, h02, hi⟩ | ⟨t2, o2, c2, v2, kc2, hi⟩ | _
      · omega
      · cases hi
        exact evS_q mixed tt_ok (G := ctxL []) ctxL_nil 60 [⟨3,2,.lit (.bo true)⟩] (same (p := ilt 1048576 (Int.ofNat m) = true ∧ endM [0, 1] [wB t1 o1 32 kf v1, wB t2 o2 m bf v2] [wB t1 o1 32 kf v1, wB t2 o2 m bf v2] (nlT 3) (nlT 3)) ⟨ilt_t (i := 1048576) hm, endM_same rfl rfl⟩ (by kernel_rfl))
  · unfold cTagL
    split
    · rename_i x y
      rw [vw_local hs (ha x (by simp)), vw_local hs (ha y (by simp))]
    · rfl
theorem okTagS : (CallC.mem cTagS).Ok Try.prog 13 := by
  intro args h slot pre v h' e hp
  unfold cTagS at e
  split at e
  rotate_left
  · cases e
  rename_i x y
  split at e
  rotate_left
  · cases e
  rename_i n kf p1 m bf p2 h1 h2 hh
  cases e
  have hn : n = 32 := hp (n = 32) (by simp)
  have hm : m ≤ 1048576 := hp (m ≤ 1048576) (by simp)
  subst hn
  generalize hF : dgN (tagN kf bf m) = F
  refine views_call tt_ok Try.func13 (by kernel_rfl) (by kernel_rfl) [.vs 32 kf, .vs m bf] (args := [x, y])
    ⟨⟨p1, h1, fun p hq => hp p (by simp [hq])⟩, ⟨p2, h2, fun p hq => hp p (by simp [hq])⟩, trivial⟩ slot [uB16 F] (.tup [.sc (.sl 0 0 16 16), .sc (.it 0)]) rfl rfl rfl (fun t ht => by
      have : t = 0 := by simpa using ht
      subst this; exact hh) fun a W hi => ?_
  rcases hi with _ | _ | ⟨w1, h0, hi⟩ | ⟨t1, o1, c1, v1, kc1, hi⟩ | _
  · exact absurd h0 (by decide)
  rcases hi with _ | _ | ⟨w2, h02, hi⟩ | ⟨t2, o2, c2, v2, kc2, hi⟩ | _
  · cases hi
    subst h02
    refine ⟨[1], rfl, ?_⟩
    refine evS_q mixed tt_ok GTS_ok 60 [] (same (p := o1 ≤ o1 ∧ o1 - o1 + 32 ≤ 32 ∧ 32 ≤ c1 ∧ 32 = 32 ∧ 0 < 4000000000000000000 ∧ endM [0, 1] [wB t1 o1 32 kf v1, some (uB16 (dgN (tagN (fun j => kf (o1 - o1 + j)) (fun _ => 0) 0)))] [wB t1 o1 32 kf v1, some (uB16 F)] (.tup [.sc (.sl 1 0 16 16), .sc (.it 0)]) (.tup [.sc (.sl 1 0 16 16), .sc (.it 0)])) ?_ (by kernel_rfl))
    refine ⟨Nat.le_refl _, win_le, kc1, rfl, by decide, endM_ok ⟨simB_refl _, ⟨rfl, rfl, rfl, fun ρ => ?_⟩, trivial⟩ rfl fun _ => rfl⟩
    rw [win_fun, ← hF]; rfl
  · cases hi
    refine ⟨[2], rfl, ?_⟩
    refine evS_q mixed tt_ok GTS_ok 60 [⟨3,2,.lit (.bo false)⟩] (same (p := ilt 1048576 (Int.ofNat m) = false ∧ o1 ≤ o1 ∧ o1 - o1 + 32 ≤ 32 ∧ 32 ≤ c1 ∧ o2 ≤ o2 ∧ o2 - o2 + m ≤ m ∧ m ≤ c2 ∧ 32 = 32 ∧ m < 4000000000000000000 ∧ endM [0, 1, 2] [wB t1 o1 32 kf v1, wB t2 o2 m bf v2, some (uB16 (dgN (tagN (fun j => kf (o1 - o1 + j)) (fun j => bf (o2 - o2 + j)) m)))] [wB t1 o1 32 kf v1, wB t2 o2 m bf v2, some (uB16 F)] (.tup [.sc (.sl 2 0 16 16), .sc (.it 0)]) (.tup [.sc (.sl 2 0 16 16), .sc (.it 0)])) ?_ (by kernel_rfl))
    refine ⟨ilt_f (i := 1048576) (by omega), Nat.le_refl _, win_le, kc1, Nat.le_refl _, win_le, kc2, rfl, by omega, endM_ok ⟨simB_refl _, simB_refl _, ⟨rfl, rfl, rfl, fun ρ => ?_⟩, trivial⟩ rfl fun _ => rfl⟩
    rw [win_fun, win_fun, ← hF]
theorem okTagS' : (CallC.mem cTagS').Ok Try.prog 14 := by
  intro args h slot pre v h' e hp
  unfold cTagS' at e
  split at e
  rotate_left
  · cases e
  rename_i x y
  split at e
  rotate_left
  · cases e
  rename_i n kf p1 m bf p2 h1 h2 hh
  cases e
  simp only [Bool.and_eq_true] at hh
  have hn : n = 32 := hp (n = 32) (by simp)
  have hm : m ≤ 1048576 := hp (m ≤ 1048576) (by simp)
  subst hn
  generalize hF : dgN (tagN kf bf m) = F
  refine views_call tt_ok Try.func14 (by kernel_rfl) (by kernel_rfl) [.vs 32 kf, .vs m bf] (args := [x, y])
    ⟨⟨p1, h1, fun p hq => hp p (by simp [hq])⟩, ⟨p2, h2, fun p hq => hp p (by simp [hq])⟩, trivial⟩ slot [⟨5, [.ws .u8 16 F], 1, 1⟩, ⟨0, [], 2, 0⟩] (.tup [.sc (.so 0 16), .sc (.it 0)]) rfl rfl rfl (fun t ht => by
      have : t = 0 ∨ t = 1 := by simp at ht; omega
      rcases this with rfl | rfl
      · exact hh.1
      · exact hh.2) fun a W hi => ?_
  rcases hi with _ | _ | ⟨w1, h0, hi⟩ | ⟨t1, o1, c1, v1, kc1, hi⟩ | _
  · exact absurd h0 (by decide)
  rcases hi with _ | _ | ⟨w2, h02, hi⟩ | ⟨t2, o2, c2, v2, kc2, hi⟩ | _
  · cases hi
    subst h02
    refine ⟨[1, 2], rfl, ?_⟩
    refine evS_q mixed tt_ok GTS'_ok 60 [] (same (p := o1 ≤ o1 ∧ o1 - o1 + 32 ≤ 32 ∧ 32 ≤ c1 ∧ 32 = 32 ∧ 0 < 4000000000000000000 ∧ endM [0, 1, 2] [wB t1 o1 32 kf v1, soB (dgN (tagN (fun j => kf (o1 - o1 + j)) (fun _ => 0) 0)), deB] [wB t1 o1 32 kf v1, soB F, deB] (.tup [.sc (.so 1 16), .sc (.it 0)]) (.tup [.sc (.so 1 16), .sc (.it 0)])) ?_ (by kernel_rfl))
    refine ⟨Nat.le_refl _, win_le, kc1, rfl, by decide, endM_ok ⟨simB_refl _, ⟨rfl, rfl, rfl, fun ρ => ?_⟩, simB_refl _, trivial⟩ rfl fun _ => rfl⟩
    rw [win_fun, ← hF]; rfl
  · cases hi
    refine ⟨[2, 3], rfl, ?_⟩
    refine evS_q mixed tt_ok GTS'_ok 60 [⟨3,2,.lit (.bo false)⟩] (same (p := ilt 1048576 (Int.ofNat m) = false ∧ o1 ≤ o1 ∧ o1 - o1 + 32 ≤ 32 ∧ 32 ≤ c1 ∧ o2 ≤ o2 ∧ o2 - o2 + m ≤ m ∧ m ≤ c2 ∧ 32 = 32 ∧ m < 4000000000000000000 ∧ endM [0, 1, 2, 3] [wB t1 o1 32 kf v1, wB t2 o2 m bf v2, soB (dgN (tagN (fun j => kf (o1 - o1 + j)) (fun j => bf (o2 - o2 + j)) m)), deB] [wB t1 o1 32 kf v1, wB t2 o2 m bf v2, soB F, deB] (.tup [.sc (.so 2 16), .sc (.it 0)]) (.tup [.sc (.so 2 16), .sc (.it 0)])) ?_ (by kernel_rfl))
    refine ⟨ilt_f (i := 1048576) (by omega), Nat.le_refl _, win_le, kc1, Nat.le_refl _, win_le, kc2, rfl, by omega, endM_ok ⟨simB_refl _, simB_refl _, ⟨rfl, rfl, rfl, fun ρ => ?_⟩, simB_refl _, trivial⟩ rfl fun _ => rfl⟩
    rw [win_fun, win_fun, ← hF]
end Go.Proofs.Ytndmoidenbfflaa
