/- Block and Stream of both sides. Printed by genc18.py. -/
import Derived.Test.YtndmoidenbfflaaC15
namespace Go.Proofs.Ytndmoidenbfflaa
open Go.Rq Go
set_option linter.unusedVariables false
set_option linter.unusedSimpArgs false
set_option maxRecDepth 100000
set_option maxHeartbeats 4000000
/-! Block -/
abbrev uB64 (f : Nat → Nat) : Blk := ⟨49, [.ws .u8 64 f], 0, 0⟩
def cBlA (args : List AV) (h : Heap) : Option (List Prop × AV) :=
  match args with
  | [x, y, .v1 (.sc (.w .u32 c))] => match vw h x, vw h y with
    | some (n, f, p1), some (m, g, p2) => some (p1 ++ p2 ++ [¬ (n = 32 ∧ m = 12)], nlT 2)
    | _, _ => none
  | _ => none
def cBlS (args : List AV) (h : Heap) (slot : Nat) : Option (List Prop × AV × Heap) :=
  match args with
  | [x, y, .v1 (.sc (.w .u32 c))] => match vw h x, vw h y, isHole h slot with
    | some (n, f, p1), some (m, g, p2), true => some (p1 ++ p2 ++ [n = 32, m = 12], .tup [.sc (.sl slot 0 64 64), .sc (.it 0)], hset h slot (uB64 (blkF f g c)))
    | _, _, _ => none
  | _ => none
def cBlS' (args : List AV) (h : Heap) (slot : Nat) : Option (List Prop × AV × Heap) :=
  match args with
  | [x, y, .v1 (.sc (.w .u32 c))] => match vw h x, vw h y, isHole h slot && isHole h (slot + 1) with
    | some (n, f, p1), some (m, g, p2), true => some (p1 ++ p2 ++ [n = 32, m = 12], .tup [.sc (.so slot 64), .sc (.it 0)], hset (hset h slot ⟨5, [.ws .u8 64 (blkF f g c)], 1, 1⟩) (slot + 1) ⟨0, [], 2, 0⟩)
    | _, _, _ => none
  | _ => none
def GBl : Ctx := ctxL [(27, .rd (cWr 0)), (28, .rd cBlk)]
theorem GBl_ok : CtxOk Try.prog GBl := ctxL_cons okWr0 <| ctxL_cons okBlk ctxL_nil
def GWA : Ctx := ctxL [(27, .rd (cWr 1))]
theorem GWA_ok : CtxOk Try.prog GWA := ctxL_cons okWr1 ctxL_nil
def GWL : Ctx := ctxL [(27, .rd (cWr 2))]
theorem GWL_ok : CtxOk Try.prog GWL := ctxL_cons okWr2 ctxL_nil
theorem okBlA : (CallC.rd cBlA).Ok Try.prog 9 := by
  refine ⟨fun args h pre v e hp => ?_, fun args h slot blk hs ha => ?_⟩
  · unfold cBlA at e
    split at e
    rotate_left
    · cases e
    rename_i x y c
    split at e
    rotate_left
    · cases e
    rename_i n f p1 m g p2 h1 h2
    cases e
    have hn : ¬ (n = 32 ∧ m = 12) := hp _ (by simp)
    refine views_call tt_ok Try.func9 (by kernel_rfl) (by kernel_rfl) [.vs n f, .vs m g, .pl (u32v c)] (args := [x, y, u32v c])
      ⟨⟨p1, h1, fun p hq => hp p (by simp [hq])⟩, ⟨p2, h2, fun p hq => hp p (by simp [hq])⟩, ⟨rfl, rfl⟩, trivial⟩ 0 [] (nlT 2) rfl rfl rfl (fun t ht => by simp at ht) fun a W hi => ⟨[], rfl, ?_⟩
    rcases hi with _ | _ | ⟨w1, h0, hi⟩ | ⟨t1, o1, c1, v1, kc1, hi⟩ | _
    · rcases hi with _ | _ | ⟨w2, h02, hi⟩ | ⟨t2, o2, c2, v2, kc2, hi⟩ | _
      · rcases hi with _ | hi | _ | _ | _
        cases hi
        subst h0; subst h02
        exact evS_q mixed tt_ok GWA_ok 60 [] (same (p := wrP 1 0 0 [] ∧ endM [] [] [] (nlT 2) (nlT 2)) ⟨hn, endM_same rfl rfl⟩ (by kernel_rfl))
      · rcases hi with _ | hi | _ | _ | _
        cases hi
        subst h0
        exact evS_q mixed tt_ok GWA_ok 60 [] (same (p := wrP 1 0 m [] ∧ endM [0] [wB t2 o2 m g v2] [wB t2 o2 m g v2] (nlT 2) (nlT 2)) ⟨hn, endM_same rfl rfl⟩ (by kernel_rfl))
    · rcases hi with _ | _ | ⟨w2, h02, hi⟩ | ⟨t2, o2, c2, v2, kc2, hi⟩ | _
      · rcases hi with _ | hi | _ | _ | _
        cases hi
        subst h02
        exact evS_q mixed tt_ok GWA_ok 60 [] (same (p := wrP 1 n 0 [] ∧ endM [0] [wB t1 o1 n f v1] [wB t1 o1 n f v1] (nlT 2) (nlT 2)) ⟨hn, endM_same rfl rfl⟩ (by kernel_rfl))
      · rcases hi with _ | hi | _ | _ | _
        cases hi
        exact evS_q mixed tt_ok GWA_ok 60 [] (same (p := wrP 1 n m [] ∧ endM [0, 1] [wB t1 o1 n f v1, wB t2 o2 m g v2] [wB t1 o1 n f v1, wB t2 o2 m g v2] (nlT 2) (nlT 2)) ⟨hn, endM_same rfl rfl⟩ (by kernel_rfl))
  · unfold cBlA
    split
    · rename_i x y c
      rw [vw_local hs (ha x (by simp)), vw_local hs (ha y (by simp))]
    · rfl
theorem okBlS : (CallC.mem cBlS).Ok Try.prog 9 := by
  intro args h slot pre v h' e hp
  unfold cBlS at e
  split at e
  rotate_left
  · cases e
  rename_i x y c
  split at e
  rotate_left
  · cases e
  rename_i n f p1 m g p2 h1 h2 hh
  cases e
  have hn : n = 32 := hp (n = 32) (by simp)
  have hm : m = 12 := hp (m = 12) (by simp)
  subst hn; subst hm
  generalize hF : blkF f g c = F
  refine views_call tt_ok Try.func9 (by kernel_rfl) (by kernel_rfl) [.vs 32 f, .vs 12 g, .pl (u32v c)] (args := [x, y, u32v c])
    ⟨⟨p1, h1, fun p hq => hp p (by simp [hq])⟩, ⟨p2, h2, fun p hq => hp p (by simp [hq])⟩, ⟨rfl, rfl⟩, trivial⟩ slot [uB64 F] (.tup [.sc (.sl 0 0 64 64), .sc (.it 0)]) rfl rfl rfl (fun t ht => by
      have : t = 0 := by simpa using ht
      subst this; exact hh) fun a W hi => ⟨[4], rfl, ?_⟩
  rcases hi with _ | _ | ⟨w1, h0, hi⟩ | ⟨t1, o1, c1, v1, kc1, hi⟩ | _
  · exact absurd h0 (by decide)
  rcases hi with _ | _ | ⟨w2, h02, hi⟩ | ⟨t2, o2, c2, v2, kc2, hi⟩ | _
  · exact absurd h02 (by decide)
  rcases hi with _ | hi | _ | _ | _
  cases hi
  refine evS_q mixed tt_ok GBl_ok 60 [] (same (p := wrP 0 32 12 [] ∧ o1 ≤ o1 ∧ o1 - o1 + 32 ≤ 32 ∧ 32 ≤ c1 ∧ o2 ≤ o2 ∧ o2 - o2 + 12 ≤ 12 ∧ 12 ≤ c2 ∧ 32 = 32 ∧ 12 = 12 ∧ endM [0, 1, 4] [wB t1 o1 32 f v1, wB t2 o2 12 g v2, some (uB64 (blkF (fun j => f (o1 - o1 + j)) (fun j => g (o2 - o2 + j)) c))] [wB t1 o1 32 f v1, wB t2 o2 12 g v2, some (uB64 F)] (.tup [.sc (.sl 4 0 64 64), .sc (.it 0)]) (.tup [.sc (.sl 2 0 64 64), .sc (.it 0)])) ?_ (by kernel_rfl))
  refine ⟨⟨rfl, rfl, fun l hl => absurd hl (by simp)⟩, Nat.le_refl _, win_le, kc1, Nat.le_refl _, win_le, kc2, rfl, rfl, endM_ok ⟨simB_refl _, simB_refl _, ⟨rfl, rfl, rfl, fun ρ => ?_⟩, trivial⟩ rfl fun _ => rfl⟩
  rw [win_fun, win_fun, hF]
def GBl' : Ctx := ctxL [(29, .rd (cWr' 0)), (30, .mem cBlk')]
theorem GBl'_ok : CtxOk Try.prog GBl' := ctxL_cons okWr0' <| ctxL_cons okBlk' ctxL_nil
def GWA' : Ctx := ctxL [(29, .rd (cWr' 1))]
theorem GWA'_ok : CtxOk Try.prog GWA' := ctxL_cons okWr1' ctxL_nil
def GWL' : Ctx := ctxL [(29, .rd (cWr' 2))]
theorem GWL'_ok : CtxOk Try.prog GWL' := ctxL_cons okWr2' ctxL_nil
theorem okBlA' : (CallC.rd cBlA).Ok Try.prog 10 := by
  refine ⟨fun args h pre v e hp => ?_, fun args h slot blk hs ha => ?_⟩
  · unfold cBlA at e
    split at e
    rotate_left
    · cases e
    rename_i x y c
    split at e
    rotate_left
    · cases e
    rename_i n f p1 m g p2 h1 h2
    cases e
    have hn : ¬ (n = 32 ∧ m = 12) := hp _ (by simp)
    refine views_call tt_ok Try.func10 (by kernel_rfl) (by kernel_rfl) [.vs n f, .vs m g, .pl (u32v c)] (args := [x, y, u32v c])
      ⟨⟨p1, h1, fun p hq => hp p (by simp [hq])⟩, ⟨p2, h2, fun p hq => hp p (by simp [hq])⟩, ⟨rfl, rfl⟩, trivial⟩ 0 [] (nlT 2) rfl rfl rfl (fun t ht => by simp at ht) fun a W hi => ⟨[], rfl, ?_⟩
    rcases hi with _ | _ | ⟨w1, h0, hi⟩ | ⟨t1, o1, c1, v1, kc1, hi⟩ | _
    · rcases hi with _ | _ | ⟨w2, h02, hi⟩ | ⟨t2, o2, c2, v2, kc2, hi⟩ | _
      · rcases hi with _ | hi | _ | _ | _
        cases hi
        subst h0; subst h02
        exact evS_q mixed tt_ok GWA'_ok 60 [] (same (p := wrP' 1 0 0 false ∧ endM [] [] [] (nlT 2) (nlT 2)) ⟨hn, endM_same rfl rfl⟩ (by kernel_rfl))
      · rcases hi with _ | hi | _ | _ | _
        cases hi
        subst h0
        exact evS_q mixed tt_ok GWA'_ok 60 [] (same (p := wrP' 1 0 m false ∧ endM [0] [wB t2 o2 m g v2] [wB t2 o2 m g v2] (nlT 2) (nlT 2)) ⟨hn, endM_same rfl rfl⟩ (by kernel_rfl))
    · rcases hi with _ | _ | ⟨w2, h02, hi⟩ | ⟨t2, o2, c2, v2, kc2, hi⟩ | _
      · rcases hi with _ | hi | _ | _ | _
        cases hi
        subst h02
        exact evS_q mixed tt_ok GWA'_ok 60 [] (same (p := wrP' 1 n 0 false ∧ endM [0] [wB t1 o1 n f v1] [wB t1 o1 n f v1] (nlT 2) (nlT 2)) ⟨hn, endM_same rfl rfl⟩ (by kernel_rfl))
      · rcases hi with _ | hi | _ | _ | _
        cases hi
        exact evS_q mixed tt_ok GWA'_ok 60 [] (same (p := wrP' 1 n m false ∧ endM [0, 1] [wB t1 o1 n f v1, wB t2 o2 m g v2] [wB t1 o1 n f v1, wB t2 o2 m g v2] (nlT 2) (nlT 2)) ⟨hn, endM_same rfl rfl⟩ (by kernel_rfl))
  · unfold cBlA
    split
    · rename_i x y c
      rw [vw_local hs (ha x (by simp)), vw_local hs (ha y (by simp))]
    · rfl
theorem okBlS' : (CallC.mem cBlS').Ok Try.prog 10 := by
  intro args h slot pre v h' e hp
  unfold cBlS' at e
  split at e
  rotate_left
  · cases e
  rename_i x y c
  split at e
  rotate_left
  · cases e
  rename_i n f p1 m g p2 h1 h2 hh
  cases e
  simp only [Bool.and_eq_true] at hh
  have hn : n = 32 := hp (n = 32) (by simp)
  have hm : m = 12 := hp (m = 12) (by simp)
  subst hn; subst hm
  generalize hF : blkF f g c = F
  refine views_call tt_ok Try.func10 (by kernel_rfl) (by kernel_rfl) [.vs 32 f, .vs 12 g, .pl (u32v c)] (args := [x, y, u32v c])
    ⟨⟨p1, h1, fun p hq => hp p (by simp [hq])⟩, ⟨p2, h2, fun p hq => hp p (by simp [hq])⟩, ⟨rfl, rfl⟩, trivial⟩ slot [⟨5, [.ws .u8 64 F], 1, 1⟩, ⟨0, [], 2, 0⟩] (.tup [.sc (.so 0 64), .sc (.it 0)]) rfl rfl rfl (fun t ht => by
      have : t = 0 ∨ t = 1 := by simp at ht; omega
      rcases this with rfl | rfl
      · exact hh.1
      · exact hh.2) fun a W hi => ⟨[3, 4], rfl, ?_⟩
  rcases hi with _ | _ | ⟨w1, h0, hi⟩ | ⟨t1, o1, c1, v1, kc1, hi⟩ | _
  · exact absurd h0 (by decide)
  rcases hi with _ | _ | ⟨w2, h02, hi⟩ | ⟨t2, o2, c2, v2, kc2, hi⟩ | _
  · exact absurd h02 (by decide)
  rcases hi with _ | hi | _ | _ | _
  cases hi
  refine evS_q mixed tt_ok GBl'_ok 60 [] (same (p := wrP' 0 32 12 false ∧ o1 ≤ o1 ∧ o1 - o1 + 32 ≤ 32 ∧ 32 ≤ c1 ∧ o2 ≤ o2 ∧ o2 - o2 + 12 ≤ 12 ∧ 12 ≤ c2 ∧ 32 = 32 ∧ 12 = 12 ∧ endM [0, 1, 3, 4] [wB t1 o1 32 f v1, wB t2 o2 12 g v2, so64 (blkF (fun j => f (o1 - o1 + j)) (fun j => g (o2 - o2 + j)) c), deB] [wB t1 o1 32 f v1, wB t2 o2 12 g v2, so64 F, deB] (.tup [.sc (.so 3 64), .sc (.it 0)]) (.tup [.sc (.so 2 64), .sc (.it 0)])) ?_ (by kernel_rfl))
  refine ⟨⟨rfl, rfl, rfl⟩, Nat.le_refl _, win_le, kc1, Nat.le_refl _, win_le, kc2, rfl, rfl, endM_ok ⟨simB_refl _, simB_refl _, ⟨rfl, rfl, rfl, fun ρ => ?_⟩, simB_refl _, trivial⟩ rfl fun _ => rfl⟩
  rw [win_fun, win_fun, hF]
/-! stream -/
def stF (f g : Nat → Nat) (c : Nat) (b : Nat → Nat) : Nat → Nat := fun j => b j ^^^ blkF f g (c + j / 64) (j % 64)
def cStr (args : List AV) (h : Heap) (slot : Nat) : Option (List Prop × AV × Heap) :=
  match args with
  | [x, y, .v1 (.sc (.w .u32 c)), z] => match vw h x, vw h y, vw h z, isHole h slot with
    | some (n, f, p1), some (m, g, p2), some (N, b, p3), true => some (p1 ++ p2 ++ p3 ++ [n = 32, m = 12, N ≤ limN], .v1 (.sc (.sl slot 0 N N)), hset h slot ⟨5, [.ws .u8 N (stF f g c b)], 0, 0⟩)
    | _, _, _, _ => none
  | _ => none
def cStr0' (args : List AV) (h : Heap) : Option (List Prop × AV) :=
  match args with
  | [x, y, .v1 (.sc (.w .u32 c)), z] => match vw h x, vw h y, vw h z with
    | some (n, f, p1), some (m, g, p2), some (N, b, p3) => some (p1 ++ p2 ++ p3 ++ [n = 32, m = 12, N = 0], nilS)
    | _, _, _ => none
  | _ => none
def cStr' (args : List AV) (h : Heap) (slot : Nat) : Option (List Prop × AV × Heap) :=
  match args with
  | [x, y, .v1 (.sc (.w .u32 c)), z] => match vw h x, vw h y, vw h z, isHole h slot && isHole h (slot + 1) with
    | some (n, f, p1), some (m, g, p2), some (N, b, p3), true => some (p1 ++ p2 ++ p3 ++ [n = 32, m = 12, 0 < N, N ≤ 4000000000], .v1 (.sc (.so slot N)), hset (hset h slot ⟨5, [.ws .u8 N (stF f g c b)], 1, 1⟩) (slot + 1) ⟨0, [], 2, 0⟩)
    | _, _, _, _ => none
  | _ => none
def GSt : Ctx := ctxL [(28, .rd cBlk)]
theorem GSt_ok : CtxOk Try.prog GSt := ctxL_cons okBlk ctxL_nil
def GSt' : Ctx := ctxL [(30, .mem cBlk')]
theorem GSt'_ok : CtxOk Try.prog GSt' := ctxL_cons okBlk' ctxL_nil
def InvSt (f g : Nat → Nat) (c : Nat) (b : Nat → Nat) (N : Nat) (x : Nat × Nat × (Nat → Nat) × (Nat → Nat)) : Prop :=
  x.1 ≤ N ∧ x.2.1 = c + (x.1 + 63) / 64 ∧ (x.1 % 64 ≠ 0 → x.2.2.1 = blkF f g (c + x.1 / 64)) ∧ ∀ j, j < x.1 → x.2.2.2 j = stF f g c b j
theorem invS_step {f g b now o : Nat → Nat} {c N i cc : Nat} (hi : i < N) (hI : InvSt f g c b N (i, cc, now, o)) :
    (i % 64 ≠ 0 → InvSt f g c b N (i + 1, cc, now, upd o i (b i ^^^ now (i % 64)))) ∧ (i % 64 = 0 → InvSt f g c b N (i + 1, cc + 1, blkF f g cc, upd o i (b i ^^^ blkF f g cc (i % 64)))) := by
  obtain ⟨h1, h2, h3, h4⟩ := hI
  simp only at h1 h2 h3 h4
  have put : ∀ v, v = stF f g c b i → ∀ j, j < i + 1 → upd o i v j = stF f g c b j := fun v hv j hj => by
    by_cases e : j = i
    · subst e; rw [upd_same, hv]
    · rw [upd_ne _ _ e]; exact h4 j (by omega)
  constructor
  · intro h64
    refine ⟨by simp only; omega, by simp only; omega, fun h => ?_, put _ ?_⟩
    · simp only at h ⊢
      rw [h3 h64]; congr 1; omega
    · rw [h3 h64]; rfl
  · intro h64
    have hcc : cc = c + i / 64 := by omega
    refine ⟨by simp only; omega, by simp only; omega, fun h => ?_, put _ ?_⟩
    · simp only at h ⊢
      rw [hcc]; congr 1; omega
    · rw [hcc]; rfl
abbrev VSt (o1 c1 o2 c2 o3 c3 N : Nat) (x : Nat × Nat × (Nat → Nat) × (Nat → Nat)) : List AV := [.v1 (.sc (.sl 0 o1 32 c1)), .v1 (.sc (.sl 1 o2 12 c2)), u32v x.2.1, .v1 (.sc (.sl 3 0 N N)), ptA 4, .v1 (.sc (.sl 2 o3 N c3)), iv (Int.ofNat N), iv (Int.ofNat x.1)]
abbrev u8B (N : Nat) (f : Nat → Nat) : Option Blk := some ⟨5, [.ws .u8 N f], 0, 0⟩
theorem okStr : (CallC.mem cStr).Ok Try.prog 31 := by
  intro args h slot pre v h' e hp
  unfold cStr at e
  split at e
  rotate_left
  · cases e
  rename_i x y c z
  split at e
  rotate_left
  · cases e
  rename_i n f p1 m g p2 N b p3 h1 h2 h3 hh
  cases e
  have hn : n = 32 := hp (n = 32) (by simp)
  have hm : m = 12 := hp (m = 12) (by simp)
  have hN : N ≤ limN := hp (N ≤ limN) (by simp)
  have hN2 : N ≤ 17179869184 := hN
  subst hn; subst hm
  generalize hF : stF f g c b = F
  refine views_call tt_ok Try.func31 (by kernel_rfl) (by kernel_rfl) [.vs 32 f, .vs 12 g, .pl (u32v c), .vs N b] (args := [x, y, u32v c, z])
    ⟨⟨p1, h1, fun p hq => hp p (by simp [hq])⟩, ⟨p2, h2, fun p hq => hp p (by simp [hq])⟩, ⟨rfl, rfl⟩, ⟨p3, h3, fun p hq => hp p (by simp [hq])⟩, trivial⟩ slot [⟨5, [.ws .u8 N F], 0, 0⟩] (.v1 (.sc (.sl 0 0 N N))) rfl rfl rfl (fun t ht => by
      have : t = 0 := by simpa using ht
      subst this; exact hh) fun a W hi => ?_
  rcases hi with _ | _ | ⟨w1, h0, hi⟩ | ⟨t1, o1, c1, v1, kc1, hi⟩ | _
  · exact absurd h0 (by decide)
  rcases hi with _ | _ | ⟨w2, h02, hi⟩ | ⟨t2, o2, c2, v2, kc2, hi⟩ | _
  · exact absurd h02 (by decide)
  rcases hi with _ | hi | _ | _ | _
  rcases hi with _ | _ | ⟨w3, h03, hi⟩ | ⟨t3, o3, c3, v3, kc3, hi⟩ | _
  · cases hi
    subst h03
    refine ⟨[2], rfl, ?_⟩
    exact evS_q mixed tt_ok GSt_ok 60 [] (same (p := endM [0, 1, 2] [wB t1 o1 32 f v1, wB t2 o2 12 g v2, u8B 0 (fun _ => 0)] [wB t1 o1 32 f v1, wB t2 o2 12 g v2, u8B 0 F] (.v1 (.sc (.sl 2 0 0 0))) (.v1 (.sc (.sl 2 0 0 0)))) (endM_ok ⟨simB_refl _, simB_refl _, ⟨rfl, rfl, rfl, fun ρ => rfl⟩, trivial⟩ rfl fun _ => rfl) (by kernel_rfl))
  · cases hi
    refine ⟨[3], rfl, ?_⟩
    have e1 : (fun j => f (o1 - o1 + j)) = f := win_fun
    have e2 : (fun j => g (o2 - o2 + j)) = g := win_fun
    refine loopK mixed tt_ok GSt_ok 0 (by kernel_rfl) (ι := {x // InvSt f g c b N x}) [0,1,2,9,10,16,17,18] 43 5 (fun x => VSt o1 c1 o2 c2 o3 c3 N x.1) (fun x => [wB t1 o1 32 f v1, wB t2 o2 12 g v2, wB t3 o3 N b v3, u8B N x.1.2.2.2, some (uB64 x.1.2.2.1)]) (fun x => N - x.1.1) (fun x => x.1.1 = N)
      (fun _ => rfl) (fun _ => by kernel_rfl) (fun x j h => by have := Dm_lt h; simp at this; have : j = 0 ∨ j = 1 ∨ j = 2 := by omega
                                                               rcases this with rfl | rfl | rfl <;> exact ⟨_, rfl⟩) 100 [⟨1,2,.sym⟩] ?_ ?_ ?_
    · refine same (p := 0 ≤ Int.ofNat N ∧ Int.ofNat N ≤ Int.ofNat N ∧ Int.ofNat N ≤ Int.ofNat limN ∧ true = true ∧ ∃ j : {x // InvSt f g c b N x}, VSt o1 c1 o2 c2 o3 c3 N (0, c, fun _ => 0, fun _ => 0) = VSt o1 c1 o2 c2 o3 c3 N j.1 ∧ [wB t1 o1 32 f v1, wB t2 o2 12 g v2, wB t3 o3 N b v3, u8B N (fun _ => 0), some (uB64 fun _ => 0)] = [wB t1 o1 32 f v1, wB t2 o2 12 g v2, wB t3 o3 N b v3, u8B N j.1.2.2.2, some (uB64 j.1.2.2.1)]) ?_ (by kernel_rfl)
      exact ⟨Int.natCast_nonneg _, Int.le_refl _, Int.ofNat_le.2 hN, rfl, ⟨(0, c, fun _ => 0, fun _ => 0), Nat.zero_le _, show c = c + (0 + 63) / 64 by omega, fun h => absurd rfl h, fun j hj => absurd hj (by simp)⟩, rfl, rfl⟩
    · intro ⟨⟨i, cc, now, o⟩, hI⟩ junk
      have h1 := hI.1
      simp only at h1
      by_cases hi : i < N
      · obtain ⟨s1, s2⟩ := invS_step hi hI
        have ei := wrapI_nadd (a := i) (b := 1) (by omega)
        have hm64 := Nat.mod_lt i (show 0 < 64 by decide)
        have hbv : b (addN o3 i - o3) = b i := wbv_eq
        by_cases h64 : i % 64 = 0
        · refine roundF mixed tt_ok GSt_ok 200 [⟨4,0,.lit (.bo true)⟩,⟨5,1,.sym⟩,⟨5,2,.sym⟩,⟨6,1,.lit (.it (Int.ofNat (i%64)))⟩,⟨6,2,.lit (.bo true)⟩,⟨9,4,.lit (.it (Int.ofNat (i%64)))⟩,⟨9,5,.sym⟩,⟨9,6,.sym⟩,⟨9,8,.sym⟩,⟨9,9,.sym⟩,⟨10,0,.lit (.it (Int.ofNat (i+1)))⟩] ?_
          refine same (p := ilt (Int.ofNat i) (Int.ofNat N) = true ∧ wx o3 N i ((Int.ofNat i).tmod 64 = Int.ofNat (i % 64) ∧ ieq (Int.ofNat (i % 64)) 0 = true ∧ o1 ≤ o1 ∧ o1 - o1 + 32 ≤ 32 ∧ 32 ≤ c1 ∧ o2 ≤ o2 ∧ o2 - o2 + 12 ≤ 12 ∧ 12 ≤ c2 ∧ 32 = 32 ∧ 12 = 12 ∧ (Int.ofNat i).tmod 64 = Int.ofNat (i % 64) ∧ ix (i % 64) 64 (ix i N (wrapI (Int.ofNat i + 1) = Int.ofNat (i + 1) ∧ true = true ∧
            ∃ j : {x // InvSt f g c b N x}, N - j.1.1 < N - i ∧ VSt o1 c1 o2 c2 o3 c3 N (i + 1, cc + 1, fun _ => 0, fun _ => 0) = VSt o1 c1 o2 c2 o3 c3 N j.1 ∧
            [wB t1 o1 32 f v1, wB t2 o2 12 g v2, wB t3 o3 N b v3, u8B N (upd o i (b (addN o3 i - o3) ^^^ blkF (fun j => f (o1 - o1 + j)) (fun j => g (o2 - o2 + j)) cc (i % 64))), some (uB64 (blkF (fun j => f (o1 - o1 + j)) (fun j => g (o2 - o2 + j)) cc))] = [wB t1 o1 32 f v1, wB t2 o2 12 g v2, wB t3 o3 N b v3, u8B N j.1.2.2.2, some (uB64 j.1.2.2.1)])))) ?_ (by kernel_rfl)
          refine ⟨ilt_t hi, wx_of hi ⟨rfl, by rw [h64]; rfl, Nat.le_refl _, win_le, kc1, Nat.le_refl _, win_le, kc2, rfl, rfl, rfl, ix_of hm64 (ix_of hi ⟨ei, rfl, ⟨_, s2 h64⟩, by simp only; omega, rfl, ?_⟩)⟩⟩
          rw [e1, e2, hbv]
        · refine roundF mixed tt_ok GSt_ok 200 [⟨4,0,.lit (.bo true)⟩,⟨5,1,.sym⟩,⟨5,2,.sym⟩,⟨6,1,.lit (.it (Int.ofNat (i%64)))⟩,⟨6,2,.lit (.bo false)⟩,⟨9,4,.lit (.it (Int.ofNat (i%64)))⟩,⟨9,5,.sym⟩,⟨9,6,.sym⟩,⟨9,8,.sym⟩,⟨9,9,.sym⟩,⟨10,0,.lit (.it (Int.ofNat (i+1)))⟩] ?_
          refine same (p := ilt (Int.ofNat i) (Int.ofNat N) = true ∧ wx o3 N i ((Int.ofNat i).tmod 64 = Int.ofNat (i % 64) ∧ ieq (Int.ofNat (i % 64)) 0 = false ∧ (Int.ofNat i).tmod 64 = Int.ofNat (i % 64) ∧ ix (i % 64) 64 (ix i N (wrapI (Int.ofNat i + 1) = Int.ofNat (i + 1) ∧ true = true ∧
            ∃ j : {x // InvSt f g c b N x}, N - j.1.1 < N - i ∧ VSt o1 c1 o2 c2 o3 c3 N (i + 1, cc, fun _ => 0, fun _ => 0) = VSt o1 c1 o2 c2 o3 c3 N j.1 ∧
            [wB t1 o1 32 f v1, wB t2 o2 12 g v2, wB t3 o3 N b v3, u8B N (upd o i (b (addN o3 i - o3) ^^^ now (i % 64))), some (uB64 now)] = [wB t1 o1 32 f v1, wB t2 o2 12 g v2, wB t3 o3 N b v3, u8B N j.1.2.2.2, some (uB64 j.1.2.2.1)])))) ?_ (by kernel_rfl)
          refine ⟨ilt_t hi, wx_of hi ⟨rfl, by rw [← Bool.not_eq_true, ieq_iff]; simp only [Int.ofNat_eq_natCast]; omega, rfl, ix_of hm64 (ix_of hi ⟨ei, rfl, ⟨_, s1 h64⟩, by simp only; omega, rfl, ?_⟩)⟩⟩
          rw [hbv]
      · have hiN : i = N := by omega
        subst hiN
        refine roundF mixed tt_ok GSt_ok 200 [⟨4,0,.lit (.bo false)⟩] ?_
        refine same (p := ilt (Int.ofNat i) (Int.ofNat i) = false ∧ true = true ∧ ∃ j : {x // InvSt f g c b i x}, j.1.1 = i ∧ VSt o1 c1 o2 c2 o3 c3 i (i, cc, now, o) = VSt o1 c1 o2 c2 o3 c3 i j.1 ∧ [wB t1 o1 32 f v1, wB t2 o2 12 g v2, wB t3 o3 i b v3, u8B i o, some (uB64 now)] = [wB t1 o1 32 f v1, wB t2 o2 12 g v2, wB t3 o3 i b v3, u8B i j.1.2.2.2, some (uB64 j.1.2.2.1)]) ?_ (by kernel_rfl)
        exact ⟨ilt_f (by omega), rfl, ⟨_, hI⟩, rfl, rfl, rfl⟩
    · intro ⟨⟨i, cc, now, o⟩, hI⟩ junk hiN
      simp only at hiN
      subst hiN
      have h4 := hI.2.2.2
      simp only at h4
      refine evS_q mixed tt_ok GSt_ok 60 [] (same (p := endM [0, 1, 2, 3] [wB t1 o1 32 f v1, wB t2 o2 12 g v2, wB t3 o3 i b v3, u8B i o] [wB t1 o1 32 f v1, wB t2 o2 12 g v2, wB t3 o3 i b v3, u8B i F] (.v1 (.sc (.sl 3 0 i i))) (.v1 (.sc (.sl 3 0 i i)))) ?_ (by kernel_rfl))
      exact endM_ok ⟨simB_refl _, simB_refl _, simB_refl _, ⟨rfl, rfl, rfl, fun ρ => ws8_val (fun j hj => by rw [h4 j hj, hF]) ρ⟩, trivial⟩ rfl fun _ => rfl
/-! the document's stream -/
abbrev apF (n : Nat) (g : Nat → Nat) (v : Nat) : Nat → Nat := catF n g (upd (fun _ => 0) 0 v)
theorem apF_at {n v : Nat} {g s : Nat → Nat} (h : ∀ j, j < n → g j = s j) (hv : v = s n) : ∀ j, j < n + 1 → apF n g v j = s j := fun j hj => by
  unfold apF catF
  by_cases hjn : j < n
  · have : Nat.blt j n = true := by rw [Nat.blt_eq]; exact hjn
    rw [this, cond_true]; exact h j hjn
  · have h2 : Nat.blt j n = false := by rw [← Bool.not_eq_true, Nat.blt_eq]; exact hjn
    rw [h2, cond_false, show j = n by omega, Nat.sub_self, upd_same]; exact hv
theorem toU32_small {n : Nat} (h : n < 4294967296) : toU .u32 (Int.ofNat n) = n := by
  show (Int.ofNat n % 4294967296).toNat = n
  simp only [Int.ofNat_eq_natCast]; omega
def InvSd (f g : Nat → Nat) (c : Nat) (b : Nat → Nat) (N : Nat) (x : Nat × (Nat → Nat) × (Nat → Nat)) : Prop :=
  x.1 ≤ N ∧ (0 < x.1 → x.2.1 = blkF f g (c + (x.1 - 1) / 64)) ∧ ∀ j, j < x.1 → x.2.2 j = stF f g c b j
theorem invSd_step {f g b k o : Nat → Nat} {c N i : Nat} (hi : i < N) (h : ∀ j, j < i → o j = stF f g c b j) (hk : k = blkF f g (c + i / 64)) : InvSd f g c b N (i + 1, k, apF i o (b i ^^^ k (i % 64))) :=
  ⟨hi, fun _ => by show k = blkF f g (c + (i + 1 - 1) / 64); rw [Nat.add_sub_cancel]; exact hk, apF_at h (by rw [hk]; rfl)⟩
theorem invSd_first {f g b K : Nat → Nat} {c N : Nat} (hN0 : 0 < N) (hK : K = blkF f g c) : InvSd f g c b N (0 + 1, K, upd (fun _ => 0) 0 (b 0 ^^^ K (0 % 64))) := by
  refine ⟨hN0, fun _ => ?_, fun j hj => ?_⟩
  · show K = blkF f g (c + (0 + 1 - 1) / 64)
    rw [hK]
    exact congrArg (blkF f g) (by omega)
  · have : j = 0 := by simp only at hj; omega
    subst this
    show upd (fun _ => 0) 0 (b 0 ^^^ K (0 % 64)) 0 = b 0 ^^^ blkF f g (c + 0 / 64) (0 % 64)
    have e : c + 0 / 64 = c := by omega
    rw [upd_same, e, hK]
abbrev VSd (o1 c1 o2 c2 o3 c3 N c : Nat) : Nat → List AV
  | 0 => [.v1 (.sc (.sl 0 o1 32 c1)), .v1 (.sc (.sl 1 o2 12 c2)), u32v c, .v1 (.sc (.sl 2 o3 N c3)), nilS, nilS, iv (Int.ofNat 0)]
  | i + 1 => [.v1 (.sc (.sl 0 o1 32 c1)), .v1 (.sc (.sl 1 o2 12 c2)), u32v c, .v1 (.sc (.sl 2 o3 N c3)), .v1 (.sc (.so 3 (i + 1))), .v1 (.sc (.so 5 64)), iv (Int.ofNat (i + 1))]
abbrev soN (n : Nat) (f : Nat → Nat) : Option Blk := some ⟨5, [.ws .u8 n f], 1, 1⟩
abbrev HSd (w1 w2 w3 : Option Blk) (k o : Nat → Nat) : Nat → Heap
  | 0 => [w1, w2, w3]
  | i + 1 => [w1, w2, w3, soN (i + 1) o, deB, so64 k, deB]
def mSd : Nat → List Nat
  | 0 => [0,1,2,6,7,3,4]
  | i + 1 => match Nat.beq ((i + 1) % 64) 0 with
    | true => [0,1,2,10,11,7,8]
    | false => [0,1,2,8,9,5,6]
def eSd : Nat → List Nat
  | 0 => [0,1,2]
  | _ + 1 => [0,1,2,3,4,5,6]
theorem mSd_fix (i j : Nat) (hj : j < 3) : nthN (mSd i) j = j ∧ nthN (eSd i) j = j := by
  have : j = 0 ∨ j = 1 ∨ j = 2 := by omega
  cases i with
  | zero => rcases this with rfl | rfl | rfl <;> exact ⟨rfl, rfl⟩
  | succ i =>
    have hm : mSd (i + 1) = [0,1,2,10,11,7,8] ∨ mSd (i + 1) = [0,1,2,8,9,5,6] := by
      show (match Nat.beq ((i + 1) % 64) 0 with
        | true => [0,1,2,10,11,7,8]
        | false => [0,1,2,8,9,5,6]) = _ ∨ (match Nat.beq ((i + 1) % 64) 0 with
        | true => [0,1,2,10,11,7,8]
        | false => [0,1,2,8,9,5,6]) = _
      cases Nat.beq ((i + 1) % 64) 0
      · exact .inr rfl
      · exact .inl rfl
    rcases hm with hm | hm <;> rw [hm] <;> rcases this with rfl | rfl | rfl <;> exact ⟨rfl, rfl⟩
theorem okStr0' : (CallC.rd cStr0').Ok Try.prog 32 := by
  refine ⟨fun args h pre v e hp => ?_, fun args h slot blk hs ha => ?_⟩
  · unfold cStr0' at e
    split at e
    rotate_left
    · cases e
    rename_i x y c z
    split at e
    rotate_left
    · cases e
    rename_i n f p1 m g p2 N b p3 h1 h2 h3
    cases e
    have hn : n = 32 := hp (n = 32) (by simp)
    have hm : m = 12 := hp (m = 12) (by simp)
    have hN : N = 0 := hp (N = 0) (by simp)
    subst hn; subst hm; subst hN
    refine views_call tt_ok Try.func32 (by kernel_rfl) (by kernel_rfl) [.vs 32 f, .vs 12 g, .pl (u32v c), .vs 0 b] (args := [x, y, u32v c, z])
      ⟨⟨p1, h1, fun p hq => hp p (by simp [hq])⟩, ⟨p2, h2, fun p hq => hp p (by simp [hq])⟩, ⟨rfl, rfl⟩, ⟨p3, h3, fun p hq => hp p (by simp [hq])⟩, trivial⟩ 0 [] nilS rfl rfl rfl (fun t ht => by simp at ht) fun a W hi => ⟨[], rfl, ?_⟩
    rcases hi with _ | _ | ⟨w1, h0, hi⟩ | ⟨t1, o1, c1, v1, kc1, hi⟩ | _
    · exact absurd h0 (by decide)
    rcases hi with _ | _ | ⟨w2, h02, hi⟩ | ⟨t2, o2, c2, v2, kc2, hi⟩ | _
    · exact absurd h02 (by decide)
    rcases hi with _ | hi | _ | _ | _
    rcases hi with _ | _ | ⟨w3, h03, hi⟩ | ⟨t3, o3, c3, v3, kc3, hi⟩ | _
    · cases hi
      exact evS_q mixed tt_ok GSt'_ok 60 [] (same (p := endM [0, 1] [wB t1 o1 32 f v1, wB t2 o2 12 g v2] [wB t1 o1 32 f v1, wB t2 o2 12 g v2] nilS nilS) (endM_same rfl rfl) (by kernel_rfl))
    · cases hi
      exact evS_q mixed tt_ok GSt'_ok 60 [] (same (p := endM [0, 1, 2] [wB t1 o1 32 f v1, wB t2 o2 12 g v2, wB t3 o3 0 b v3] [wB t1 o1 32 f v1, wB t2 o2 12 g v2, wB t3 o3 0 b v3] nilS nilS) (endM_same rfl rfl) (by kernel_rfl))
  · unfold cStr0'
    split
    · rename_i x y c z
      rw [vw_local hs (ha x (by simp)), vw_local hs (ha y (by simp)), vw_local hs (ha z (by simp))]
    · rfl
theorem okStr' : (CallC.mem cStr').Ok Try.prog 32 := by
  intro args h slot pre v h' e hp
  unfold cStr' at e
  split at e
  rotate_left
  · cases e
  rename_i x y c z
  split at e
  rotate_left
  · cases e
  rename_i n f p1 m g p2 N b p3 h1 h2 h3 hh
  cases e
  simp only [Bool.and_eq_true] at hh
  have hn : n = 32 := hp (n = 32) (by simp)
  have hm : m = 12 := hp (m = 12) (by simp)
  have hN0 : 0 < N := hp (0 < N) (by simp)
  have hN : N ≤ 4000000000 := hp (N ≤ 4000000000) (by simp)
  subst hn; subst hm
  generalize hF : stF f g c b = F
  refine views_call tt_ok Try.func32 (by kernel_rfl) (by kernel_rfl) [.vs 32 f, .vs 12 g, .pl (u32v c), .vs N b] (args := [x, y, u32v c, z])
    ⟨⟨p1, h1, fun p hq => hp p (by simp [hq])⟩, ⟨p2, h2, fun p hq => hp p (by simp [hq])⟩, ⟨rfl, rfl⟩, ⟨p3, h3, fun p hq => hp p (by simp [hq])⟩, trivial⟩ slot [⟨5, [.ws .u8 N F], 1, 1⟩, ⟨0, [], 2, 0⟩] (.v1 (.sc (.so 0 N))) rfl rfl rfl (fun t ht => by
      have : t = 0 ∨ t = 1 := by simp at ht; omega
      rcases this with rfl | rfl
      · exact hh.1
      · exact hh.2) fun a W hi => ⟨[3, 4], rfl, ?_⟩
  rcases hi with _ | _ | ⟨w1, h0, hi⟩ | ⟨t1, o1, c1, v1, kc1, hi⟩ | _
  · exact absurd h0 (by decide)
  rcases hi with _ | _ | ⟨w2, h02, hi⟩ | ⟨t2, o2, c2, v2, kc2, hi⟩ | _
  · exact absurd h02 (by decide)
  rcases hi with _ | hi | _ | _ | _
  rcases hi with _ | _ | ⟨w3, h03, hi⟩ | ⟨t3, o3, c3, v3, kc3, hi⟩ | _
  · omega
  cases hi
  have e1 : (fun j => f (o1 - o1 + j)) = f := win_fun
  have e2 : (fun j => g (o2 - o2 + j)) = g := win_fun
  refine loopRm mixed tt_ok GSt'_ok 0 (by kernel_rfl) (ι := {x // InvSd f g c b N x}) [0,1,2] (fun x => mSd x.1.1) (fun x => eSd x.1.1) [0,1,2,3,9,10,11] 43 (fun x => VSd o1 c1 o2 c2 o3 c3 N c x.1.1) (fun x => HSd (wB t1 o1 32 f v1) (wB t2 o2 12 g v2) (wB t3 o3 N b v3) x.1.2.1 x.1.2.2 x.1.1) (fun x => N - x.1.1) (fun x => x.1.1 = N)
    (fun x => by
      obtain ⟨⟨i, k, o⟩, _⟩ := x
      cases i <;> kernel_rfl) (fun x j h => by
      have := Dm_lt h
      simp at this
      have : j = 0 ∨ j = 1 ∨ j = 2 := by omega
      obtain ⟨⟨i, k, o⟩, _⟩ := x
      cases i <;> rcases this with rfl | rfl | rfl <;> exact ⟨_, rfl⟩) (fun j h => by
      have hj := Dm_lt h
      simp at hj
      refine ⟨?_, fun x => mSd_fix _ j (by omega)⟩
      have : j = 0 ∨ j = 1 ∨ j = 2 := by omega
      rcases this with rfl | rfl | rfl <;> rfl) 100 [] ?_ ?_ ?_
  · refine same (p := true = true ∧ true = true ∧ ∃ j : {x // InvSd f g c b N x}, VSd o1 c1 o2 c2 o3 c3 N c 0 = VSd o1 c1 o2 c2 o3 c3 N c j.1.1 ∧ HSd (wB t1 o1 32 f v1) (wB t2 o2 12 g v2) (wB t3 o3 N b v3) (fun _ => 0) (fun _ => 0) 0 = HSd (wB t1 o1 32 f v1) (wB t2 o2 12 g v2) (wB t3 o3 N b v3) j.1.2.1 j.1.2.2 j.1.1) ?_ (by kernel_rfl)
    exact ⟨rfl, rfl, ⟨(0, fun _ => 0, fun _ => 0), Nat.zero_le _, fun h => absurd h (by simp), fun j hj => absurd hj (by simp)⟩, rfl, rfl⟩
  · intro ⟨⟨i, k, o⟩, hI⟩ junk
    have h1 := hI.1
    have h2 := hI.2.1
    have h3 := hI.2.2
    simp only at h1 h2 h3
    have hbv : b (addN o3 i - o3) = b i := wbv_eq
    have hlim : N + 1 ≤ limN := Nat.le_trans (show N + 1 ≤ 4000000001 by omega) (by decide)
    cases i with
    | zero =>
      refine roundF mixed tt_ok GSt'_ok 200 [⟨3,3,.lit (.bo true)⟩,⟨7,3,.sym⟩,⟨7,4,.sym⟩,⟨7,8,.sym⟩,⟨7,9,.sym⟩] ?_
      refine same (p := ilt (Int.ofNat 0) (Int.ofNat N) = true ∧ o1 ≤ o1 ∧ o1 - o1 + 32 ≤ 32 ∧ 32 ≤ c1 ∧ o2 ≤ o2 ∧ o2 - o2 + 12 ≤ 12 ∧ 12 ≤ c2 ∧ 32 = 32 ∧ 12 = 12 ∧ wx o3 N 0 (ix (0 % 64) 64 (true = true ∧ true = true ∧
        ∃ j : {x // InvSd f g c b N x}, N - j.1.1 < N - 0 ∧ VSd o1 c1 o2 c2 o3 c3 N c (0 + 1) = VSd o1 c1 o2 c2 o3 c3 N c j.1.1 ∧
        HSd (wB t1 o1 32 f v1) (wB t2 o2 12 g v2) (wB t3 o3 N b v3) (blkF (fun j => f (o1 - o1 + j)) (fun j => g (o2 - o2 + j)) (c + toU .u32 (Int.ofNat (0 / 64)))) (upd (fun _ => 0) 0 (b (addN o3 0 - o3) ^^^ blkF (fun j => f (o1 - o1 + j)) (fun j => g (o2 - o2 + j)) (c + toU .u32 (Int.ofNat (0 / 64))) (0 % 64))) (0 + 1) = HSd (wB t1 o1 32 f v1) (wB t2 o2 12 g v2) (wB t3 o3 N b v3) j.1.2.1 j.1.2.2 j.1.1))) ?_ (by kernel_rfl)
      rw [e1, e2, hbv]
      have hu0 : toU .u32 (Int.ofNat (0 / 64)) = 0 := toU32_small (n := 0 / 64) (by decide)
      rw [hu0]
      have hst := invSd_first (f := f) (g := g) (b := b) (K := blkF f g (c + 0)) hN0 (by rw [Nat.add_zero])
      exact ⟨ilt_t hN0, Nat.le_refl _, win_le, kc1, Nat.le_refl _, win_le, kc2, rfl, rfl, wx_of hN0 (ix_of (by decide) ⟨rfl, rfl, ⟨_, hst⟩, by simp only; omega, rfl, rfl⟩)⟩
    | succ i =>
      by_cases hi : i + 1 < N
      · have ei := wrapI_nadd (a := i + 1) (b := 1) (by omega)
        have hm64 := Nat.mod_lt (i + 1) (show 0 < 64 by decide)
        by_cases h64 : (i + 1) % 64 = 0
        · have hms : mSd (i + 1) = [0,1,2,10,11,7,8] := by
            have : Nat.beq ((i + 1) % 64) 0 = true := by rw [h64]; rfl
            show (match Nat.beq ((i + 1) % 64) 0 with
              | true => [0,1,2,10,11,7,8]
              | false => [0,1,2,8,9,5,6]) = _
            rw [this]
          have hu : toU .u32 (Int.ofNat ((i + 1) / 64)) = (i + 1) / 64 := toU32_small (by omega)
          show AWq _ _ _ (RoundR _ (mSd (i + 1)) _ _ _ _ _ _ _ _ _) _
          rw [hms]
          refine roundF mixed tt_ok GSt'_ok 200 [⟨3,3,.lit (.bo true)⟩,⟨5,1,.lit (.it (Int.ofNat ((i+1)%64)))⟩,⟨5,2,.lit (.bo true)⟩,⟨6,4,.lit (.it (Int.ofNat ((i+1)/64)))⟩,⟨7,3,.sym⟩,⟨7,4,.sym⟩,⟨7,7,.lit (.it (Int.ofNat ((i+1)%64)))⟩,⟨7,8,.sym⟩,⟨7,9,.sym⟩,⟨7,12,.sym⟩,⟨4,1,.lit (.it (Int.ofNat (i+1+1)))⟩] ?_
          refine same (p := ilt (Int.ofNat (i + 1)) (Int.ofNat N) = true ∧ (Int.ofNat (i + 1)).tmod 64 = Int.ofNat ((i + 1) % 64) ∧ ieq (Int.ofNat ((i + 1) % 64)) 0 = true ∧ wrapI ((Int.ofNat (i + 1)).tdiv 64) = Int.ofNat ((i + 1) / 64) ∧ o1 ≤ o1 ∧ o1 - o1 + 32 ≤ 32 ∧ 32 ≤ c1 ∧ o2 ≤ o2 ∧ o2 - o2 + 12 ≤ 12 ∧ 12 ≤ c2 ∧ 32 = 32 ∧ 12 = 12 ∧ wx o3 N (i + 1) ((Int.ofNat (i + 1)).tmod 64 = Int.ofNat ((i + 1) % 64) ∧ ix ((i + 1) % 64) 64 (i + 1 = i + 1 ∧ 1 ≤ 1 ∧ i + 1 + 1 ≤ limN ∧ (false = true → 0 < 1) ∧ wrapI (Int.ofNat (i + 1) + 1) = Int.ofNat (i + 1 + 1) ∧ true = true ∧ true = true ∧
            ∃ j : {x // InvSd f g c b N x}, N - j.1.1 < N - (i + 1) ∧ VSd o1 c1 o2 c2 o3 c3 N c (i + 1 + 1) = VSd o1 c1 o2 c2 o3 c3 N c j.1.1 ∧
            HSd (wB t1 o1 32 f v1) (wB t2 o2 12 g v2) (wB t3 o3 N b v3) (blkF (fun j => f (o1 - o1 + j)) (fun j => g (o2 - o2 + j)) (c + toU .u32 (Int.ofNat ((i + 1) / 64)))) (apF (i + 1) o (b (addN o3 (i + 1) - o3) ^^^ blkF (fun j => f (o1 - o1 + j)) (fun j => g (o2 - o2 + j)) (c + toU .u32 (Int.ofNat ((i + 1) / 64))) ((i + 1) % 64))) (i + 1 + 1) = HSd (wB t1 o1 32 f v1) (wB t2 o2 12 g v2) (wB t3 o3 N b v3) j.1.2.1 j.1.2.2 j.1.1))) ?_ (by kernel_rfl)
          rw [e1, e2, hbv, hu]
          have hst := invSd_step (c := c) hi h3 (k := blkF f g (c + (i + 1) / 64)) rfl
          exact ⟨ilt_t hi, rfl, by rw [h64]; rfl, wrapI_ndiv (b := 64) (by omega), Nat.le_refl _, win_le, kc1, Nat.le_refl _, win_le, kc2, rfl, rfl, wx_of hi ⟨rfl, ix_of hm64 ⟨rfl, Nat.le_refl _, by omega, fun h => (by cases h), ei, rfl, rfl,
            ⟨_, hst⟩, by simp only; omega, rfl, rfl⟩⟩⟩
        · have hms : mSd (i + 1) = [0,1,2,8,9,5,6] := by
            have : Nat.beq ((i + 1) % 64) 0 = false := by rw [← Bool.not_eq_true, Nat.beq_eq]; exact h64
            show (match Nat.beq ((i + 1) % 64) 0 with
              | true => [0,1,2,10,11,7,8]
              | false => [0,1,2,8,9,5,6]) = _
            rw [this]
          have hk := h2 (by omega)
          have hd : (i + 1 - 1) / 64 = (i + 1) / 64 := by omega
          rw [hd] at hk
          show AWq _ _ _ (RoundR _ (mSd (i + 1)) _ _ _ _ _ _ _ _ _) _
          rw [hms]
          refine roundF mixed tt_ok GSt'_ok 200 [⟨3,3,.lit (.bo true)⟩,⟨5,1,.lit (.it (Int.ofNat ((i+1)%64)))⟩,⟨5,2,.lit (.bo false)⟩,⟨7,3,.sym⟩,⟨7,4,.sym⟩,⟨7,7,.lit (.it (Int.ofNat ((i+1)%64)))⟩,⟨7,8,.sym⟩,⟨7,9,.sym⟩,⟨7,12,.sym⟩,⟨4,1,.lit (.it (Int.ofNat (i+1+1)))⟩] ?_
          refine same (p := ilt (Int.ofNat (i + 1)) (Int.ofNat N) = true ∧ (Int.ofNat (i + 1)).tmod 64 = Int.ofNat ((i + 1) % 64) ∧ ieq (Int.ofNat ((i + 1) % 64)) 0 = false ∧ wx o3 N (i + 1) ((Int.ofNat (i + 1)).tmod 64 = Int.ofNat ((i + 1) % 64) ∧ ix ((i + 1) % 64) 64 (i + 1 = i + 1 ∧ 1 ≤ 1 ∧ i + 1 + 1 ≤ limN ∧ (false = true → 0 < 1) ∧ wrapI (Int.ofNat (i + 1) + 1) = Int.ofNat (i + 1 + 1) ∧ true = true ∧ true = true ∧
            ∃ j : {x // InvSd f g c b N x}, N - j.1.1 < N - (i + 1) ∧ VSd o1 c1 o2 c2 o3 c3 N c (i + 1 + 1) = VSd o1 c1 o2 c2 o3 c3 N c j.1.1 ∧
            HSd (wB t1 o1 32 f v1) (wB t2 o2 12 g v2) (wB t3 o3 N b v3) k (apF (i + 1) o (b (addN o3 (i + 1) - o3) ^^^ k ((i + 1) % 64))) (i + 1 + 1) = HSd (wB t1 o1 32 f v1) (wB t2 o2 12 g v2) (wB t3 o3 N b v3) j.1.2.1 j.1.2.2 j.1.1))) ?_ (by kernel_rfl)
          rw [hbv]
          have hst := invSd_step (c := c) hi h3 hk
          exact ⟨ilt_t hi, rfl, by rw [← Bool.not_eq_true, ieq_iff]; simp only [Int.ofNat_eq_natCast]; omega, wx_of hi ⟨rfl, ix_of hm64 ⟨rfl, Nat.le_refl _, by omega, fun h => (by cases h), ei, rfl, rfl,
            ⟨_, hst⟩, by simp only; omega, rfl, rfl⟩⟩⟩
      · have hiN : i + 1 = N := by omega
        subst hiN
        refine roundF mixed tt_ok GSt'_ok 200 [⟨3,3,.lit (.bo false)⟩] ?_
        refine same (p := ilt (Int.ofNat (i + 1)) (Int.ofNat (i + 1)) = false ∧ true = true ∧ true = true ∧ ∃ j : {x // InvSd f g c b (i + 1) x}, j.1.1 = i + 1 ∧ VSd o1 c1 o2 c2 o3 c3 (i + 1) c (i + 1) = VSd o1 c1 o2 c2 o3 c3 (i + 1) c j.1.1 ∧ HSd (wB t1 o1 32 f v1) (wB t2 o2 12 g v2) (wB t3 o3 (i + 1) b v3) k o (i + 1) = HSd (wB t1 o1 32 f v1) (wB t2 o2 12 g v2) (wB t3 o3 (i + 1) b v3) j.1.2.1 j.1.2.2 j.1.1) ?_ (by kernel_rfl)
        exact ⟨ilt_f (by omega), rfl, rfl, ⟨(i + 1, k, o), hI⟩, rfl, rfl, rfl⟩
  · intro ⟨⟨i, k, o⟩, hI⟩ junk hiN
    simp only at hiN
    subst hiN
    have h3 := hI.2.2
    simp only at h3
    cases i with
    | zero => omega
    | succ i =>
      refine evS_q mixed tt_ok GSt'_ok 60 [] (same (p := endM [0, 1, 2, 3, 4] [wB t1 o1 32 f v1, wB t2 o2 12 g v2, wB t3 o3 (i + 1) b v3, soN (i + 1) o, deB] [wB t1 o1 32 f v1, wB t2 o2 12 g v2, wB t3 o3 (i + 1) b v3, soN (i + 1) F, deB] (.v1 (.sc (.so 3 (i + 1)))) (.v1 (.sc (.so 3 (i + 1))))) ?_ (by kernel_rfl))
      exact endM_ok ⟨simB_refl _, simB_refl _, simB_refl _, ⟨rfl, rfl, rfl, fun ρ => ws8_val (fun j hj => by rw [h3 j hj, hF]) ρ⟩, simB_refl _, trivial⟩ rfl fun _ => rfl
end Go.Proofs.Ytndmoidenbfflaa
