/- Stream of both sides. Printed by genc19.py. -/
import Derived.Test.YtndmoidenbfflaaC18
namespace Go.Proofs.Ytndmoidenbfflaa
open Go.Rq Go
set_option linter.unusedVariables false
set_option linter.unusedSimpArgs false
set_option maxRecDepth 100000
set_option maxHeartbeats 4000000
theorem le_single {l N : Nat} (h : l ∈ [N]) (k : N ≤ 1048576) : l ≤ 1048576 := by
  have : l = N := by simpa using h
  omega
def cSmA (args : List AV) (h : Heap) : Option (List Prop × AV) :=
  match args with
  | [x, y, .v1 (.sc (.w .u32 c)), z] => match vw h x, vw h y, vw h z with
    | some (n, f, p1), some (m, g, p2), some (N, b, p3) => some (p1 ++ p2 ++ p3 ++ [¬ (n = 32 ∧ m = 12)], nlT 2)
    | _, _, _ => none
  | _ => none
def cSmL (args : List AV) (h : Heap) : Option (List Prop × AV) :=
  match args with
  | [x, y, .v1 (.sc (.w .u32 c)), z] => match vw h x, vw h y, vw h z with
    | some (n, f, p1), some (m, g, p2), some (N, b, p3) => some (p1 ++ p2 ++ p3 ++ [n = 32, m = 12, 1048576 < N], nlT 3)
    | _, _, _ => none
  | _ => none
def cSm0' (args : List AV) (h : Heap) : Option (List Prop × AV) :=
  match args with
  | [x, y, .v1 (.sc (.w .u32 c)), z] => match vw h x, vw h y, vw h z with
    | some (n, f, p1), some (m, g, p2), some (N, b, p3) => some (p1 ++ p2 ++ p3 ++ [n = 32, m = 12, N = 0], nlT 0)
    | _, _, _ => none
  | _ => none
def cSmS (args : List AV) (h : Heap) (slot : Nat) : Option (List Prop × AV × Heap) :=
  match args with
  | [x, y, .v1 (.sc (.w .u32 c)), z] => match vw h x, vw h y, vw h z, isHole h slot with
    | some (n, f, p1), some (m, g, p2), some (N, b, p3), true => some (p1 ++ p2 ++ p3 ++ [n = 32, m = 12, N ≤ 1048576], .tup [.sc (.sl slot 0 N N), .sc (.it 0)], hset h slot ⟨5, [.ws .u8 N (stF f g c b)], 0, 0⟩)
    | _, _, _, _ => none
  | _ => none
def cSmS' (args : List AV) (h : Heap) (slot : Nat) : Option (List Prop × AV × Heap) :=
  match args with
  | [x, y, .v1 (.sc (.w .u32 c)), z] => match vw h x, vw h y, vw h z, isHole h slot && isHole h (slot + 1) with
    | some (n, f, p1), some (m, g, p2), some (N, b, p3), true => some (p1 ++ p2 ++ p3 ++ [n = 32, m = 12, 0 < N, N ≤ 1048576], .tup [.sc (.so slot N), .sc (.it 0)], hset (hset h slot ⟨5, [.ws .u8 N (stF f g c b)], 1, 1⟩) (slot + 1) ⟨0, [], 2, 0⟩)
    | _, _, _, _ => none
  | _ => none
def GSm : Ctx := ctxL [(27, .rd (cWr 0)), (31, .mem cStr)]
theorem GSm_ok : CtxOk Try.prog GSm := ctxL_cons okWr0 <| ctxL_cons okStr ctxL_nil
def GSm' : Ctx := ctxL [(29, .rd (cWr' 0)), (32, .mem cStr')]
theorem GSm'_ok : CtxOk Try.prog GSm' := ctxL_cons okWr0' <| ctxL_cons okStr' ctxL_nil
def GSm0' : Ctx := ctxL [(29, .rd (cWr' 0)), (32, .rd cStr0')]
theorem GSm0'_ok : CtxOk Try.prog GSm0' := ctxL_cons okWr0' <| ctxL_cons okStr0' ctxL_nil
theorem okSmA : (CallC.rd cSmA).Ok Try.prog 11 := by
  refine ⟨fun args h pre v e hp => ?_, fun args h slot blk hs ha => ?_⟩
  · unfold cSmA at e
    split at e
    rotate_left
    · cases e
    rename_i x y c z
    split at e
    rotate_left
    · cases e
    rename_i n f p1 m g p2 N b p3 h1 h2 h3
    cases e
    have hn : ¬ (n = 32 ∧ m = 12) := hp _ (by simp)
    refine views_call tt_ok Try.func11 (by kernel_rfl) (by kernel_rfl) [.vs n f, .vs m g, .pl (u32v c), .vs N b] (args := [x, y, u32v c, z])
      ⟨⟨p1, h1, fun p hq => hp p (by simp [hq])⟩, ⟨p2, h2, fun p hq => hp p (by simp [hq])⟩, ⟨rfl, rfl⟩, ⟨p3, h3, fun p hq => hp p (by simp [hq])⟩, trivial⟩ 0 [] (nlT 2) rfl rfl rfl (fun t ht => by simp at ht) fun a W hi => ⟨[], rfl, ?_⟩
    rcases hi with _ | _ | ⟨w1, h01, hi⟩ | ⟨t1, o1, c1, v1, kc1, hi⟩ | _
    · skip
      rcases hi with _ | _ | ⟨w2, h02, hi⟩ | ⟨t2, o2, c2, v2, kc2, hi⟩ | _
      · skip
        rcases hi with _ | hi | _ | _ | _
        rcases hi with _ | _ | ⟨w3, h03, hi⟩ | ⟨t3, o3, c3, v3, kc3, hi⟩ | _
        · skip
          cases hi
          subst h01
          subst h02
          subst h03
          exact evS_q mixed tt_ok GWA_ok 80 [] (same (p := wrP 1 0 0 [0] ∧ endM [] [] [] (nlT 2) (nlT 2)) ⟨hn, endM_same rfl rfl⟩ (by kernel_rfl))
        · skip
          cases hi
          subst h01
          subst h02
          exact evS_q mixed tt_ok GWA_ok 80 [] (same (p := wrP 1 0 0 [N] ∧ endM [0] [wB t3 o3 N b v3] [wB t3 o3 N b v3] (nlT 2) (nlT 2)) ⟨hn, endM_same rfl rfl⟩ (by kernel_rfl))
      · skip
        rcases hi with _ | hi | _ | _ | _
        rcases hi with _ | _ | ⟨w3, h03, hi⟩ | ⟨t3, o3, c3, v3, kc3, hi⟩ | _
        · skip
          cases hi
          subst h01
          subst h03
          exact evS_q mixed tt_ok GWA_ok 80 [] (same (p := wrP 1 0 m [0] ∧ endM [0] [wB t2 o2 m g v2] [wB t2 o2 m g v2] (nlT 2) (nlT 2)) ⟨hn, endM_same rfl rfl⟩ (by kernel_rfl))
        · skip
          cases hi
          subst h01
          exact evS_q mixed tt_ok GWA_ok 80 [] (same (p := wrP 1 0 m [N] ∧ endM [0, 1] [wB t2 o2 m g v2, wB t3 o3 N b v3] [wB t2 o2 m g v2, wB t3 o3 N b v3] (nlT 2) (nlT 2)) ⟨hn, endM_same rfl rfl⟩ (by kernel_rfl))
    · skip
      rcases hi with _ | _ | ⟨w2, h02, hi⟩ | ⟨t2, o2, c2, v2, kc2, hi⟩ | _
      · skip
        rcases hi with _ | hi | _ | _ | _
        rcases hi with _ | _ | ⟨w3, h03, hi⟩ | ⟨t3, o3, c3, v3, kc3, hi⟩ | _
        · skip
          cases hi
          subst h02
          subst h03
          exact evS_q mixed tt_ok GWA_ok 80 [] (same (p := wrP 1 n 0 [0] ∧ endM [0] [wB t1 o1 n f v1] [wB t1 o1 n f v1] (nlT 2) (nlT 2)) ⟨hn, endM_same rfl rfl⟩ (by kernel_rfl))
        · skip
          cases hi
          subst h02
          exact evS_q mixed tt_ok GWA_ok 80 [] (same (p := wrP 1 n 0 [N] ∧ endM [0, 1] [wB t1 o1 n f v1, wB t3 o3 N b v3] [wB t1 o1 n f v1, wB t3 o3 N b v3] (nlT 2) (nlT 2)) ⟨hn, endM_same rfl rfl⟩ (by kernel_rfl))
      · skip
        rcases hi with _ | hi | _ | _ | _
        rcases hi with _ | _ | ⟨w3, h03, hi⟩ | ⟨t3, o3, c3, v3, kc3, hi⟩ | _
        · skip
          cases hi
          subst h03
          exact evS_q mixed tt_ok GWA_ok 80 [] (same (p := wrP 1 n m [0] ∧ endM [0, 1] [wB t1 o1 n f v1, wB t2 o2 m g v2] [wB t1 o1 n f v1, wB t2 o2 m g v2] (nlT 2) (nlT 2)) ⟨hn, endM_same rfl rfl⟩ (by kernel_rfl))
        · skip
          cases hi
          exact evS_q mixed tt_ok GWA_ok 80 [] (same (p := wrP 1 n m [N] ∧ endM [0, 1, 2] [wB t1 o1 n f v1, wB t2 o2 m g v2, wB t3 o3 N b v3] [wB t1 o1 n f v1, wB t2 o2 m g v2, wB t3 o3 N b v3] (nlT 2) (nlT 2)) ⟨hn, endM_same rfl rfl⟩ (by kernel_rfl))
  · unfold cSmA
    split
    · rename_i x y c z
      rw [vw_local hs (ha x (by simp)), vw_local hs (ha y (by simp)), vw_local hs (ha z (by simp))]
    · rfl
theorem okSmL : (CallC.rd cSmL).Ok Try.prog 11 := by
  refine ⟨fun args h pre v e hp => ?_, fun args h slot blk hs ha => ?_⟩
  · unfold cSmL at e
    split at e
    rotate_left
    · cases e
    rename_i x y c z
    split at e
    rotate_left
    · cases e
    rename_i n f p1 m g p2 N b p3 h1 h2 h3
    cases e
    have hn : n = 32 := hp (n = 32) (by simp)
    have hm : m = 12 := hp (m = 12) (by simp)
    have hN : 1048576 < N := hp (1048576 < N) (by simp)
    subst hn; subst hm
    refine views_call tt_ok Try.func11 (by kernel_rfl) (by kernel_rfl) [.vs 32 f, .vs 12 g, .pl (u32v c), .vs N b] (args := [x, y, u32v c, z])
      ⟨⟨p1, h1, fun p hq => hp p (by simp [hq])⟩, ⟨p2, h2, fun p hq => hp p (by simp [hq])⟩, ⟨rfl, rfl⟩, ⟨p3, h3, fun p hq => hp p (by simp [hq])⟩, trivial⟩ 0 [] (nlT 3) rfl rfl rfl (fun t ht => by simp at ht) fun a W hi => ⟨[], rfl, ?_⟩
    rcases hi with _ | _ | ⟨w1, h01, hi⟩ | ⟨t1, o1, c1, v1, kc1, hi⟩ | _
    · exact absurd h01 (by decide)
    · skip
      rcases hi with _ | _ | ⟨w2, h02, hi⟩ | ⟨t2, o2, c2, v2, kc2, hi⟩ | _
      · exact absurd h02 (by decide)
      · skip
        rcases hi with _ | hi | _ | _ | _
        rcases hi with _ | _ | ⟨w3, h03, hi⟩ | ⟨t3, o3, c3, v3, kc3, hi⟩ | _
        · exact absurd h03 (by omega)
        · skip
          cases hi
          exact evS_q mixed tt_ok GWL_ok 80 [] (same (p := wrP 2 32 12 [N] ∧ endM [0, 1, 2] [wB t1 o1 32 f v1, wB t2 o2 12 g v2, wB t3 o3 N b v3] [wB t1 o1 32 f v1, wB t2 o2 12 g v2, wB t3 o3 N b v3] (nlT 3) (nlT 3)) ⟨⟨rfl, rfl, N, by simp, hN⟩, endM_same rfl rfl⟩ (by kernel_rfl))
  · unfold cSmL
    split
    · rename_i x y c z
      rw [vw_local hs (ha x (by simp)), vw_local hs (ha y (by simp)), vw_local hs (ha z (by simp))]
    · rfl
theorem okSmA' : (CallC.rd cSmA).Ok Try.prog 12 := by
  refine ⟨fun args h pre v e hp => ?_, fun args h slot blk hs ha => ?_⟩
  · unfold cSmA at e
    split at e
    rotate_left
    · cases e
    rename_i x y c z
    split at e
    rotate_left
    · cases e
    rename_i n f p1 m g p2 N b p3 h1 h2 h3
    cases e
    have hn : ¬ (n = 32 ∧ m = 12) := hp _ (by simp)
    refine views_call tt_ok Try.func12 (by kernel_rfl) (by kernel_rfl) [.vs n f, .vs m g, .pl (u32v c), .vs N b] (args := [x, y, u32v c, z])
      ⟨⟨p1, h1, fun p hq => hp p (by simp [hq])⟩, ⟨p2, h2, fun p hq => hp p (by simp [hq])⟩, ⟨rfl, rfl⟩, ⟨p3, h3, fun p hq => hp p (by simp [hq])⟩, trivial⟩ 0 [] (nlT 2) rfl rfl rfl (fun t ht => by simp at ht) fun a W hi => ⟨[], rfl, ?_⟩
    rcases hi with _ | _ | ⟨w1, h01, hi⟩ | ⟨t1, o1, c1, v1, kc1, hi⟩ | _
    · skip
      rcases hi with _ | _ | ⟨w2, h02, hi⟩ | ⟨t2, o2, c2, v2, kc2, hi⟩ | _
      · skip
        rcases hi with _ | hi | _ | _ | _
        rcases hi with _ | _ | ⟨w3, h03, hi⟩ | ⟨t3, o3, c3, v3, kc3, hi⟩ | _
        · skip
          cases hi
          subst h01
          subst h02
          subst h03
          exact evS_q mixed tt_ok GWA'_ok 80 [] (same (p := wrP' 1 0 0 (ilt 1048576 (Int.ofNat 0)) ∧ endM [] [] [] (nlT 2) (nlT 2)) ⟨hn, endM_same rfl rfl⟩ (by kernel_rfl))
        · skip
          cases hi
          subst h01
          subst h02
          exact evS_q mixed tt_ok GWA'_ok 80 [] (same (p := wrP' 1 0 0 (ilt 1048576 (Int.ofNat N)) ∧ endM [0] [wB t3 o3 N b v3] [wB t3 o3 N b v3] (nlT 2) (nlT 2)) ⟨hn, endM_same rfl rfl⟩ (by kernel_rfl))
      · skip
        rcases hi with _ | hi | _ | _ | _
        rcases hi with _ | _ | ⟨w3, h03, hi⟩ | ⟨t3, o3, c3, v3, kc3, hi⟩ | _
        · skip
          cases hi
          subst h01
          subst h03
          exact evS_q mixed tt_ok GWA'_ok 80 [] (same (p := wrP' 1 0 m (ilt 1048576 (Int.ofNat 0)) ∧ endM [0] [wB t2 o2 m g v2] [wB t2 o2 m g v2] (nlT 2) (nlT 2)) ⟨hn, endM_same rfl rfl⟩ (by kernel_rfl))
        · skip
          cases hi
          subst h01
          exact evS_q mixed tt_ok GWA'_ok 80 [] (same (p := wrP' 1 0 m (ilt 1048576 (Int.ofNat N)) ∧ endM [0, 1] [wB t2 o2 m g v2, wB t3 o3 N b v3] [wB t2 o2 m g v2, wB t3 o3 N b v3] (nlT 2) (nlT 2)) ⟨hn, endM_same rfl rfl⟩ (by kernel_rfl))
    · skip
      rcases hi with _ | _ | ⟨w2, h02, hi⟩ | ⟨t2, o2, c2, v2, kc2, hi⟩ | _
      · skip
        rcases hi with _ | hi | _ | _ | _
        rcases hi with _ | _ | ⟨w3, h03, hi⟩ | ⟨t3, o3, c3, v3, kc3, hi⟩ | _
        · skip
          cases hi
          subst h02
          subst h03
          exact evS_q mixed tt_ok GWA'_ok 80 [] (same (p := wrP' 1 n 0 (ilt 1048576 (Int.ofNat 0)) ∧ endM [0] [wB t1 o1 n f v1] [wB t1 o1 n f v1] (nlT 2) (nlT 2)) ⟨hn, endM_same rfl rfl⟩ (by kernel_rfl))
        · skip
          cases hi
          subst h02
          exact evS_q mixed tt_ok GWA'_ok 80 [] (same (p := wrP' 1 n 0 (ilt 1048576 (Int.ofNat N)) ∧ endM [0, 1] [wB t1 o1 n f v1, wB t3 o3 N b v3] [wB t1 o1 n f v1, wB t3 o3 N b v3] (nlT 2) (nlT 2)) ⟨hn, endM_same rfl rfl⟩ (by kernel_rfl))
      · skip
        rcases hi with _ | hi | _ | _ | _
        rcases hi with _ | _ | ⟨w3, h03, hi⟩ | ⟨t3, o3, c3, v3, kc3, hi⟩ | _
        · skip
          cases hi
          subst h03
          exact evS_q mixed tt_ok GWA'_ok 80 [] (same (p := wrP' 1 n m (ilt 1048576 (Int.ofNat 0)) ∧ endM [0, 1] [wB t1 o1 n f v1, wB t2 o2 m g v2] [wB t1 o1 n f v1, wB t2 o2 m g v2] (nlT 2) (nlT 2)) ⟨hn, endM_same rfl rfl⟩ (by kernel_rfl))
        · skip
          cases hi
          exact evS_q mixed tt_ok GWA'_ok 80 [] (same (p := wrP' 1 n m (ilt 1048576 (Int.ofNat N)) ∧ endM [0, 1, 2] [wB t1 o1 n f v1, wB t2 o2 m g v2, wB t3 o3 N b v3] [wB t1 o1 n f v1, wB t2 o2 m g v2, wB t3 o3 N b v3] (nlT 2) (nlT 2)) ⟨hn, endM_same rfl rfl⟩ (by kernel_rfl))
  · unfold cSmA
    split
    · rename_i x y c z
      rw [vw_local hs (ha x (by simp)), vw_local hs (ha y (by simp)), vw_local hs (ha z (by simp))]
    · rfl
theorem okSmL' : (CallC.rd cSmL).Ok Try.prog 12 := by
  refine ⟨fun args h pre v e hp => ?_, fun args h slot blk hs ha => ?_⟩
  · unfold cSmL at e
    split at e
    rotate_left
    · cases e
    rename_i x y c z
    split at e
    rotate_left
    · cases e
    rename_i n f p1 m g p2 N b p3 h1 h2 h3
    cases e
    have hn : n = 32 := hp (n = 32) (by simp)
    have hm : m = 12 := hp (m = 12) (by simp)
    have hN : 1048576 < N := hp (1048576 < N) (by simp)
    subst hn; subst hm
    refine views_call tt_ok Try.func12 (by kernel_rfl) (by kernel_rfl) [.vs 32 f, .vs 12 g, .pl (u32v c), .vs N b] (args := [x, y, u32v c, z])
      ⟨⟨p1, h1, fun p hq => hp p (by simp [hq])⟩, ⟨p2, h2, fun p hq => hp p (by simp [hq])⟩, ⟨rfl, rfl⟩, ⟨p3, h3, fun p hq => hp p (by simp [hq])⟩, trivial⟩ 0 [] (nlT 3) rfl rfl rfl (fun t ht => by simp at ht) fun a W hi => ⟨[], rfl, ?_⟩
    rcases hi with _ | _ | ⟨w1, h01, hi⟩ | ⟨t1, o1, c1, v1, kc1, hi⟩ | _
    · exact absurd h01 (by decide)
    · skip
      rcases hi with _ | _ | ⟨w2, h02, hi⟩ | ⟨t2, o2, c2, v2, kc2, hi⟩ | _
      · exact absurd h02 (by decide)
      · skip
        rcases hi with _ | hi | _ | _ | _
        rcases hi with _ | _ | ⟨w3, h03, hi⟩ | ⟨t3, o3, c3, v3, kc3, hi⟩ | _
        · exact absurd h03 (by omega)
        · skip
          cases hi
          exact evS_q mixed tt_ok GWL'_ok 80 [] (same (p := wrP' 2 32 12 (ilt 1048576 (Int.ofNat N)) ∧ endM [0, 1, 2] [wB t1 o1 32 f v1, wB t2 o2 12 g v2, wB t3 o3 N b v3] [wB t1 o1 32 f v1, wB t2 o2 12 g v2, wB t3 o3 N b v3] (nlT 3) (nlT 3)) ⟨⟨rfl, rfl, ilt_t (i := 1048576) hN⟩, endM_same rfl rfl⟩ (by kernel_rfl))
  · unfold cSmL
    split
    · rename_i x y c z
      rw [vw_local hs (ha x (by simp)), vw_local hs (ha y (by simp)), vw_local hs (ha z (by simp))]
    · rfl
theorem okSm0' : (CallC.rd cSm0').Ok Try.prog 12 := by
  refine ⟨fun args h pre v e hp => ?_, fun args h slot blk hs ha => ?_⟩
  · unfold cSm0' at e
    split at e
    rotate_left
    · cases e
    rename_i x y c z
    split at e
    rotate_left
    · cases e
    rename_i n f p1 m g p2 N b p3 h1 h2 h3
    cases e
    have hn : n = 32 := hp (n = 32) (by simp)
    have hm : m = 12 := hp (m = 12) (by simp)
    have hN : N = 0 := hp (N = 0) (by simp)
    subst hN
    subst hn; subst hm
    refine views_call tt_ok Try.func12 (by kernel_rfl) (by kernel_rfl) [.vs 32 f, .vs 12 g, .pl (u32v c), .vs 0 b] (args := [x, y, u32v c, z])
      ⟨⟨p1, h1, fun p hq => hp p (by simp [hq])⟩, ⟨p2, h2, fun p hq => hp p (by simp [hq])⟩, ⟨rfl, rfl⟩, ⟨p3, h3, fun p hq => hp p (by simp [hq])⟩, trivial⟩ 0 [] (nlT 0) rfl rfl rfl (fun t ht => by simp at ht) fun a W hi => ⟨[], rfl, ?_⟩
    rcases hi with _ | _ | ⟨w1, h01, hi⟩ | ⟨t1, o1, c1, v1, kc1, hi⟩ | _
    · exact absurd h01 (by decide)
    · skip
      rcases hi with _ | _ | ⟨w2, h02, hi⟩ | ⟨t2, o2, c2, v2, kc2, hi⟩ | _
      · exact absurd h02 (by decide)
      · skip
        rcases hi with _ | hi | _ | _ | _
        rcases hi with _ | _ | ⟨w3, h03, hi⟩ | ⟨t3, o3, c3, v3, kc3, hi⟩ | _
        · skip
          cases hi
          exact evS_q mixed tt_ok GSm0'_ok 80 [] (same (p := wrP' 0 32 12 (ilt 1048576 (Int.ofNat 0)) ∧ o1 ≤ o1 ∧ o1 - o1 + 32 ≤ 32 ∧ 32 ≤ c1 ∧ o2 ≤ o2 ∧ o2 - o2 + 12 ≤ 12 ∧ 12 ≤ c2 ∧ 32 = 32 ∧ 12 = 12 ∧ 0 = 0 ∧ endM [0, 1] [wB t1 o1 32 f v1, wB t2 o2 12 g v2] [wB t1 o1 32 f v1, wB t2 o2 12 g v2] (nlT 0) (nlT 0)) ⟨⟨rfl, rfl, rfl⟩, Nat.le_refl _, win_le, kc1, Nat.le_refl _, win_le, kc2, rfl, rfl, rfl, endM_same rfl rfl⟩ (by kernel_rfl))
        · skip
          cases hi
          exact evS_q mixed tt_ok GSm0'_ok 80 [] (same (p := wrP' 0 32 12 (ilt 1048576 (Int.ofNat 0)) ∧ o1 ≤ o1 ∧ o1 - o1 + 32 ≤ 32 ∧ 32 ≤ c1 ∧ o2 ≤ o2 ∧ o2 - o2 + 12 ≤ 12 ∧ 12 ≤ c2 ∧ o3 ≤ o3 ∧ o3 - o3 + 0 ≤ 0 ∧ 0 ≤ c3 ∧ 32 = 32 ∧ 12 = 12 ∧ 0 = 0 ∧ endM [0, 1, 2] [wB t1 o1 32 f v1, wB t2 o2 12 g v2, wB t3 o3 0 b v3] [wB t1 o1 32 f v1, wB t2 o2 12 g v2, wB t3 o3 0 b v3] (nlT 0) (nlT 0)) ⟨⟨rfl, rfl, rfl⟩, Nat.le_refl _, win_le, kc1, Nat.le_refl _, win_le, kc2, Nat.le_refl _, win_le, kc3, rfl, rfl, rfl, endM_same rfl rfl⟩ (by kernel_rfl))
  · unfold cSm0'
    split
    · rename_i x y c z
      rw [vw_local hs (ha x (by simp)), vw_local hs (ha y (by simp)), vw_local hs (ha z (by simp))]
    · rfl
theorem okSmS : (CallC.mem cSmS).Ok Try.prog 11 := by
  intro args h slot pre v h' e hp
  unfold cSmS at e
  split at e
  rotate_left
  · cases e
  rename_i x y c z
  split at e
  rotate_left
  · cases e
  rename_i n f p1 m g p2 N b p3 h1 h2 h3 hh
  cases e
  have hn : n = 32 := hp (n = 32) (by simp)
  have hm : m = 12 := hp (m = 12) (by simp)
  have hN : N ≤ 1048576 := hp (N ≤ 1048576) (by simp)
  have hlim : N ≤ limN := Nat.le_trans hN (by decide)
  subst hn; subst hm
  generalize hF : stF f g c b = F
  refine views_call tt_ok Try.func11 (by kernel_rfl) (by kernel_rfl) [.vs 32 f, .vs 12 g, .pl (u32v c), .vs N b] (args := [x, y, u32v c, z])
    ⟨⟨p1, h1, fun p hq => hp p (by simp [hq])⟩, ⟨p2, h2, fun p hq => hp p (by simp [hq])⟩, ⟨rfl, rfl⟩, ⟨p3, h3, fun p hq => hp p (by simp [hq])⟩, trivial⟩ slot [⟨5, [.ws .u8 N F], 0, 0⟩] (.tup [.sc (.sl 0 0 N N), .sc (.it 0)]) rfl rfl rfl (fun t ht => by
      have : t = 0 := by simpa using ht
      subst this; exact hh) fun a W hi => ?_
  rcases hi with _ | _ | ⟨w1, h01, hi⟩ | ⟨t1, o1, c1, v1, kc1, hi⟩ | _
  · exact absurd h01 (by decide)
  · skip
    rcases hi with _ | _ | ⟨w2, h02, hi⟩ | ⟨t2, o2, c2, v2, kc2, hi⟩ | _
    · exact absurd h02 (by decide)
    · skip
      rcases hi with _ | hi | _ | _ | _
      rcases hi with _ | _ | ⟨w3, h03, hi⟩ | ⟨t3, o3, c3, v3, kc3, hi⟩ | _
      · skip
        cases hi
        subst h03
        refine ⟨[4], rfl, ?_⟩
        refine evS_q mixed tt_ok GSm_ok 80 [] (same (p := wrP 0 32 12 [0] ∧ o1 ≤ o1 ∧ o1 - o1 + 32 ≤ 32 ∧ 32 ≤ c1 ∧ o2 ≤ o2 ∧ o2 - o2 + 12 ≤ 12 ∧ 12 ≤ c2 ∧ 32 = 32 ∧ 12 = 12 ∧ 0 ≤ limN ∧ endM [0, 1, 4] [wB t1 o1 32 f v1, wB t2 o2 12 g v2, u8B 0 (stF (fun j => f (o1 - o1 + j)) (fun j => g (o2 - o2 + j)) c (fun _ => 0))] [wB t1 o1 32 f v1, wB t2 o2 12 g v2, u8B 0 F] (.tup [.sc (.sl 4 0 0 0), .sc (.it 0)]) (.tup [.sc (.sl 2 0 0 0), .sc (.it 0)])) ?_ (by kernel_rfl))
        have hw : wrP 0 32 12 [0] := ⟨rfl, rfl, fun l hl => le_single hl (by decide)⟩
        refine ⟨hw, Nat.le_refl _, win_le, kc1, Nat.le_refl _, win_le, kc2, rfl, rfl, hlim, endM_ok ⟨simB_refl _, simB_refl _, ⟨rfl, rfl, rfl, fun ρ => ?_⟩, trivial⟩ rfl fun _ => rfl⟩
        rfl
      · skip
        cases hi
        refine ⟨[5], rfl, ?_⟩
        refine evS_q mixed tt_ok GSm_ok 80 [] (same (p := wrP 0 32 12 [N] ∧ o1 ≤ o1 ∧ o1 - o1 + 32 ≤ 32 ∧ 32 ≤ c1 ∧ o2 ≤ o2 ∧ o2 - o2 + 12 ≤ 12 ∧ 12 ≤ c2 ∧ o3 ≤ o3 ∧ o3 - o3 + N ≤ N ∧ N ≤ c3 ∧ 32 = 32 ∧ 12 = 12 ∧ N ≤ limN ∧ endM [0, 1, 2, 5] [wB t1 o1 32 f v1, wB t2 o2 12 g v2, wB t3 o3 N b v3, u8B N (stF (fun j => f (o1 - o1 + j)) (fun j => g (o2 - o2 + j)) c (fun j => b (o3 - o3 + j)))] [wB t1 o1 32 f v1, wB t2 o2 12 g v2, wB t3 o3 N b v3, u8B N F] (.tup [.sc (.sl 5 0 N N), .sc (.it 0)]) (.tup [.sc (.sl 3 0 N N), .sc (.it 0)])) ?_ (by kernel_rfl))
        have hw : wrP 0 32 12 [N] := ⟨rfl, rfl, fun l hl => le_single hl hN⟩
        refine ⟨hw, Nat.le_refl _, win_le, kc1, Nat.le_refl _, win_le, kc2, Nat.le_refl _, win_le, kc3, rfl, rfl, hlim, endM_ok ⟨simB_refl _, simB_refl _, simB_refl _, ⟨rfl, rfl, rfl, fun ρ => ?_⟩, trivial⟩ rfl fun _ => rfl⟩
        rw [win_fun, win_fun, win_fun, hF]
theorem okSmS' : (CallC.mem cSmS').Ok Try.prog 12 := by
  intro args h slot pre v h' e hp
  unfold cSmS' at e
  split at e
  rotate_left
  · cases e
  rename_i x y c z
  split at e
  rotate_left
  · cases e
  rename_i n f p1 m g p2 N b p3 h1 h2 h3 hh
  cases e
  simp only [Bool.and_eq_true] at hh
  have hN0 : 0 < N := hp (0 < N) (by simp)
  have hn : n = 32 := hp (n = 32) (by simp)
  have hm : m = 12 := hp (m = 12) (by simp)
  have hN : N ≤ 1048576 := hp (N ≤ 1048576) (by simp)
  have hlim : N ≤ limN := Nat.le_trans hN (by decide)
  subst hn; subst hm
  generalize hF : stF f g c b = F
  refine views_call tt_ok Try.func12 (by kernel_rfl) (by kernel_rfl) [.vs 32 f, .vs 12 g, .pl (u32v c), .vs N b] (args := [x, y, u32v c, z])
    ⟨⟨p1, h1, fun p hq => hp p (by simp [hq])⟩, ⟨p2, h2, fun p hq => hp p (by simp [hq])⟩, ⟨rfl, rfl⟩, ⟨p3, h3, fun p hq => hp p (by simp [hq])⟩, trivial⟩ slot [⟨5, [.ws .u8 N F], 1, 1⟩, ⟨0, [], 2, 0⟩] (.tup [.sc (.so 0 N), .sc (.it 0)]) rfl rfl rfl (fun t ht => by
      have : t = 0 ∨ t = 1 := by simp at ht; omega
      rcases this with rfl | rfl
      · exact hh.1
      · exact hh.2) fun a W hi => ?_
  rcases hi with _ | _ | ⟨w1, h01, hi⟩ | ⟨t1, o1, c1, v1, kc1, hi⟩ | _
  · exact absurd h01 (by decide)
  · skip
    rcases hi with _ | _ | ⟨w2, h02, hi⟩ | ⟨t2, o2, c2, v2, kc2, hi⟩ | _
    · exact absurd h02 (by decide)
    · skip
      rcases hi with _ | hi | _ | _ | _
      rcases hi with _ | _ | ⟨w3, h03, hi⟩ | ⟨t3, o3, c3, v3, kc3, hi⟩ | _
      · exact absurd h03 (by omega)
      · skip
        cases hi
        refine ⟨[4, 5], rfl, ?_⟩
        refine evS_q mixed tt_ok GSm'_ok 80 [] (same (p := wrP' 0 32 12 (ilt 1048576 (Int.ofNat N)) ∧ o1 ≤ o1 ∧ o1 - o1 + 32 ≤ 32 ∧ 32 ≤ c1 ∧ o2 ≤ o2 ∧ o2 - o2 + 12 ≤ 12 ∧ 12 ≤ c2 ∧ o3 ≤ o3 ∧ o3 - o3 + N ≤ N ∧ N ≤ c3 ∧ 32 = 32 ∧ 12 = 12 ∧ 0 < N ∧ N ≤ 4000000000 ∧ endM [0, 1, 2, 4, 5] [wB t1 o1 32 f v1, wB t2 o2 12 g v2, wB t3 o3 N b v3, soN N (stF (fun j => f (o1 - o1 + j)) (fun j => g (o2 - o2 + j)) c (fun j => b (o3 - o3 + j))), deB] [wB t1 o1 32 f v1, wB t2 o2 12 g v2, wB t3 o3 N b v3, soN N F, deB] (.tup [.sc (.so 4 N), .sc (.it 0)]) (.tup [.sc (.so 3 N), .sc (.it 0)])) ?_ (by kernel_rfl))
        have hw : wrP' 0 32 12 (ilt 1048576 (Int.ofNat N)) := ⟨rfl, rfl, ilt_f (i := 1048576) (by omega)⟩
        refine ⟨hw, Nat.le_refl _, win_le, kc1, Nat.le_refl _, win_le, kc2, Nat.le_refl _, win_le, kc3, rfl, rfl, hN0, by omega, endM_ok ⟨simB_refl _, simB_refl _, simB_refl _, ⟨rfl, rfl, rfl, fun ρ => ?_⟩, simB_refl _, trivial⟩ rfl fun _ => rfl⟩
        rw [win_fun, win_fun, win_fun, hF]
end Go.Proofs.Ytndmoidenbfflaa
