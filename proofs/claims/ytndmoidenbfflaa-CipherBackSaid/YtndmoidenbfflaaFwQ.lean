/- Functions that are handed blocks, and hand new ones back. -/
import Derived.Test.YtndmoidenbfflaaFwP
namespace Go.Rq
open Go

/-- The blocks m, named by their place in m. -/
theorem RelH.view {ρ : Ren} {h : Heap} {w : World} (r : RelH ρ h w) {m : List Nat} {K : Heap} (hp : pickH m h m = K) (hc : chkB m K = true) (hb : heapB K 0 K = true) :
    RelH (rnm m ρ) K w ∧ (∀ i, Dm K i → Dm h (nthN m i)) := by
  have hsub : ∀ i b, hget K i = some b → i < m.length ∧ ∃ b0, hget h (nthN m i) = some b0 ∧ b = bkBlk m b0 := fun i b hb => by
    rw [← hp] at hb; exact hget_pickH hb
  unfold chkB at hc
  simp only [Bool.and_eq_true] at hc
  have hDm : ∀ i, Dm K i → i < m.length ∧ m.length < 1000000 := fun i ⟨b, hb⟩ => ⟨(hsub i b hb).1, by rw [← Nat.blt_eq]; exact hc.2.2⟩
  have hcells : ∀ i b b0, hget K i = some b → b = bkBlk m b0 → cvals (rnm m ρ) b.cells = cvals ρ b0.cells := fun i b b0 h1 h2 => by
    have := (heapB_spec hb i b h1).1
    subst h2
    exact bkCells_vals hDm this
  refine ⟨⟨fun i b hg => (heapB_spec hb i b hg).1, fun i b hg h0 => ?_, fun i b hg h1 => ?_, fun i b hg => (heapB_spec hb i b hg).2.1, fun i j hi hj he => ?_, fun i b hg h3 => ?_, fun i j b hi hg h3 => ?_⟩, fun i ⟨b, hg⟩ => ?_⟩
  · obtain ⟨h1, b0, h2, h3⟩ := hsub i b hg
    have h4 := r.row _ b0 h2 (by subst h3; exact h0)
    rw [hcells i b b0 hg h3]
    subst h3
    exact h4
  · obtain ⟨h2, b0, h3, h4⟩ := hsub i b hg
    have hcv := hcells i b b0 hg h4
    obtain ⟨⟨cur, g1, g2, g3, g4, g5, g6⟩, g7⟩ := r.own _ b0 h3 (by subst h4; exact h1)
    have hn := nextB_spec hc.2.1 i b h2 hg h1
    have hdn := (heapB_spec hb i b hg).2.2 h1
    rw [Nat.zero_add] at hdn
    refine ⟨⟨cur, ?_, ?_, ?_, ?_, ?_, ?_⟩, hdn⟩
    · subst h4; exact g1
    · subst h4; simp only [rnm, hn]; exact g2
    · simp only [rnm, hn]; exact g3
    · simp only [rnm, hn]; exact g4
    · subst h4; simp only [bkBlk, bkCells_len]; exact g5
    · rw [hcv]; subst h4; simp only [bkBlk, bkCells_len]; exact g6
  · obtain ⟨b, hg, hl⟩ := hi
    obtain ⟨c, hcj, hl'⟩ := hj
    obtain ⟨h1, b0, h2, h3⟩ := hsub i b hg
    obtain ⟨k1, c0, k2, k3⟩ := hsub j c hcj
    refine nodupB_spec hc.1 i j h1 k1 (r.inj _ _ ⟨b0, h2, ?_⟩ ⟨c0, k2, ?_⟩ he)
    · subst h3; exact hl
    · subst k3; exact hl'
  · obtain ⟨h1, b0, h2, h4⟩ := hsub i b hg
    obtain ⟨arr, fr, w1, w2, w3⟩ := r.win _ b0 h2 (by subst h4; exact h3)
    have hc := hcells i b b0 hg h4
    exact ⟨arr, fr, by subst h4; exact w1, by rw [hc]; exact w2, by rw [hc]; subst h4; exact w3⟩
  · obtain ⟨c, hc, hl⟩ := hi
    obtain ⟨h1, b0, h2, h4⟩ := hsub j b hg
    obtain ⟨k1, c0, k2, k3⟩ := hsub i c hc
    exact r.sep _ _ b0 ⟨c0, k2, by subst k3; exact hl⟩ h2 (by subst h4; exact h3)
  · obtain ⟨_, b0, h2, _⟩ := hsub i b hg
    exact ⟨b0, h2⟩

section
variable {m : List Nat} {D D' : Nat → Prop} (hD : ∀ i, D i → i < m.length ∧ m.length < 1000000) (hD' : ∀ i, D i → D' (nthN m i))
include hD hD'
theorem bkSc_ok {s : Sc} (h : (bkSc m s).ok D) : s.ok D' := by
  have key : ∀ b, D (bk m b) → D' b := fun b hb => by have := hD' _ hb; rw [bk_spec (hD _ hb).1] at this; exact this
  cases s with
  | pt b o => exact key _ h
  | sl b o l c => exact key _ h
  | so b n =>
    simp only [bkSc] at h
    cases hb : Nat.beq (bk m (b + 1)) (bk m b + 1)
    · rw [hb] at h
      simp only [Sc.ok] at h
      have h1 := hD _ h.1
      omega
    · rw [hb] at h
      simp only [Sc.ok] at h
      rw [Nat.beq_eq] at hb
      rw [← hb] at h
      exact ⟨key _ h.1, key _ h.2⟩
  | sv b o n =>
    simp only [bkSc] at h
    cases hb : Nat.beq (bk m (b + 1)) (bk m b + 1)
    · rw [hb] at h
      simp only [Sc.ok] at h
      have h1 := hD _ h.1
      omega
    · rw [hb] at h
      simp only [Sc.ok] at h
      rw [Nat.beq_eq] at hb
      rw [← hb] at h
      exact ⟨key _ h.1, key _ h.2⟩
  | fn f caps => exact fun c hc => key _ (h _ (List.mem_map.2 ⟨c, hc, rfl⟩))
  | rw v => exact h
  | _ => trivial
theorem bkCells_ok : ∀ {cs : List Cell}, cok D (bkCells m cs) → cok D' cs
  | [], _ => fun c hc => by cases hc
  | c :: r, h => fun d hd => by
    rcases List.mem_cons.1 hd with rfl | hd
    · have := h _ (by simp only [bkCells]; exact List.mem_cons_self ..)
      cases d with
      | ws k n f => trivial
      | one s => exact bkSc_ok hD hD' this
    · exact bkCells_ok (cs := r) (fun e he => h e (by simp only [bkCells]; exact List.mem_cons_of_mem _ he)) d hd
theorem bkV1_ok {v : V1} (h : (bkV1 m v).ok D) : v.ok D' := by
  cases v with
  | sc s => exact bkSc_ok hD hD' h
  | agg cs => exact bkCells_ok hD hD' h
theorem bkAV_ok {v : AV} (h : (bkAV m v).ok D) : v.ok D' := by
  cases v with
  | v1 v => exact bkV1_ok hD hD' h
  | tup l =>
    have key : ∀ l : List V1, (∀ v ∈ bkV1s m l, v.ok D) → ∀ v ∈ l, v.ok D' := by
      intro l
      induction l with
      | nil => intro _ v hv; cases hv
      | cons v r ih =>
        intro h u hu
        rcases List.mem_cons.1 hu with rfl | hu
        · exact bkV1_ok hD hD' (h _ (by simp [bkV1s]))
        · exact ih (fun x hx => h x (by simp [bkV1s, hx])) u hu
    exact key l h
  | raw v => trivial
end

theorem nthN_app {a b : List Nat} {i : Nat} (h : i < a.length) : nthN (a ++ b) i = nthN a i := by
  induction a generalizing i with
  | nil => simp at h
  | cons x r ih =>
    cases i with
    | zero => rfl
    | succ i => exact ih (by simpa using h)
theorem nthN_app2 {a b : List Nat} {i : Nat} (h : a.length ≤ i) : nthN (a ++ b) i = nthN b (i - a.length) := by
  induction a generalizing i with
  | nil => rfl
  | cons x r ih =>
    cases i with
    | zero => simp at h
    | succ i =>
      simp only [List.cons_append, nthN, List.length_cons]
      rw [ih (by simpa using h)]
      congr 1; omega

/-- The places from k on, n of them. -/
def upto : Nat → Nat → List Nat
  | _, 0 => []
  | k, n + 1 => k :: upto (k + 1) n
theorem length_upto : ∀ k n, (upto k n).length = n
  | _, 0 => rfl
  | k, n + 1 => by simp [upto, length_upto (k + 1) n]
theorem nthN_upto : ∀ {k n i : Nat}, i < n → nthN (upto k n) i = k + i
  | k, n + 1, 0, _ => rfl
  | k, n + 1, i + 1, h => by
    simp only [upto, nthN]
    rw [nthN_upto (k := k + 1) (by omega)]; omega

/-- Memories that read the same. -/
def SimB : Option Blk → Option Blk → Prop
  | none, none => True
  | some b, some c => b.ty = c.ty ∧ b.lo = c.lo ∧ b.hi = c.hi ∧ ∀ ρ, cvals ρ b.cells = cvals ρ c.cells
  | _, _ => False
def SimH : Heap → Heap → Prop
  | [], [] => True
  | a :: r, b :: s => SimB a b ∧ SimH r s
  | _, _ => False
theorem SimH.get : ∀ {h k : Heap}, SimH h k → ∀ i, SimB (hget h i) (hget k i)
  | [], [], _, _ => trivial
  | [], _ :: _, s, _ => s.elim
  | _ :: _, [], s, _ => s.elim
  | _ :: _, _ :: _, hs, 0 => hs.1
  | _ :: r, _ :: s, hs, i + 1 => SimH.get (h := r) (k := s) hs.2 i
theorem SimH.at {h k : Heap} (s : SimH h k) {i : Nat} {c : Blk} (hk : hget k i = some c) : ∃ b, hget h i = some b ∧ b.ty = c.ty ∧ b.lo = c.lo ∧ b.hi = c.hi ∧ ∀ ρ, cvals ρ b.cells = cvals ρ c.cells := by
  have := s.get i
  rw [hk] at this
  cases hh : hget h i with
  | none => rw [hh] at this; exact this.elim
  | some b => rw [hh] at this; exact ⟨b, rfl, this⟩
theorem RelH.sim {ρ : Ren} {h k : Heap} {w : World} (r : RelH ρ h w) (s : SimH h k) (hb : heapB k 0 k = true) : RelH ρ k w := by
  have hL : ∀ i, Lv k i → Lv h i := fun i ⟨c, hc, hl⟩ => let ⟨b, h1, _, h3, _, _⟩ := s.at hc; ⟨b, h1, by omega⟩
  refine ⟨fun i c hc => (heapB_spec hb i c hc).1, fun i c hc h0 => ?_, fun i c hc h1 => ?_, fun i c hc => (heapB_spec hb i c hc).2.1, fun i j hi hj => r.inj i j (hL i hi) (hL j hj), fun i c hc h3 => ?_, fun i j c hi hc h3 => ?_⟩
  · obtain ⟨b, e1, e2, e3, e4, e5⟩ := s.at hc
    have := r.row i b e1 (by omega)
    rw [e2, e3, e4, e5] at this
    exact this
  · obtain ⟨b, e1, e2, e3, e4, e5⟩ := s.at hc
    obtain ⟨⟨cur, g1, g2, g3, g4, g5, g6⟩, g7⟩ := r.own i b e1 (by omega)
    have hl : clen b.cells = clen c.cells := by rw [← length_cvals fun _ => 0, ← length_cvals fun _ => 0, e5]
    have hd := (heapB_spec hb i c hc).2.2 h1
    rw [Nat.zero_add] at hd
    exact ⟨⟨cur, by rw [← e2]; exact g1, by rw [← e4]; exact g2, g3, g4, by rw [← hl]; exact g5, by rw [← hl, g6, e5]⟩, hd⟩
  · obtain ⟨b, e1, e2, e3, e4, e5⟩ := s.at hc
    obtain ⟨arr, fr, w1, w2, w3⟩ := r.win i b e1 (by omega)
    exact ⟨arr, fr, by rw [← e2]; exact w1, by rw [← e5]; exact w2, by rw [← e5, ← e4]; exact w3⟩
  · obtain ⟨b, e1, e2, e3, e4, e5⟩ := s.at hc
    exact r.sep i j b (hL i hi) e1 (by omega)
theorem SimH.dm {h k : Heap} (s : SimH h k) {i : Nat} (hi : Dm k i) : Dm h i := let ⟨_, hc⟩ := hi; let ⟨b, hb, _⟩ := s.at hc; ⟨b, hb⟩

/-- A function's end: its result and its memory, seen by the blocks mc: vK, K. -/
def FEndM (T : TT) (fn : Func) (mc : List Nat) (vK : AV) (K : Heap) : Exit → AS → Prop
  | .normal, s | .ret, s => chkB mc (pickH mc s.h mc) = true ∧ heapB (pickH mc s.h mc) 0 (pickH mc s.h mc) = true ∧ SimH (pickH mc s.h mc) K ∧
    ∃ v', resA T s fn.results.toList = some v' ∧ avB (pickH mc s.h mc) (bkAV mc v') = true ∧ ∀ ρ, (bkAV mc v').val ρ = vK.val ρ
  | _, _ => False

/-- **A function that is handed the blocks 'ins' and hands back 'no' more**: off its own walk. -/
theorem mem_walkW {P : Program} {T : TT} (hT : TTOk P T) {f : FuncId} {fn : Func} (hf : P.funcs[f]? = some fn) (hb : fn.body = some (bodyOf fn)) (hn : (fn.name == "runtime.NumGoroutine") = false)
    {args args' : List AV} {h h' : Heap} (ins outs : List Nat) (slot : Nat) (H0 K : Heap) {v vK : AV}
    (hc0 : chkB ins H0 = true) (hp0 : pickH ins h ins = H0) (hb0 : heapB H0 0 H0 = true) (ha : bkAVs ins args = args') (hab : args'.all (avB H0) = true) (hall : ∀ i, i < ins.length → Lv H0 i ∨ ∃ b, hget H0 i = some b ∧ b.lo = 3 ∧ hget K i = some b)
    (hKw : ∀ i b, hget K i = some b → b.lo = 3 → i < ins.length ∧ hget H0 i = some b)
    (hK : heapB K 0 K = true) (hvK : avB K vK = true) (hKall : ∀ i, i < ins.length + outs.length → Dm K i)
    (hm : chkB (ins ++ upto slot outs.length) K = true) (hp : pickH (ins ++ upto slot outs.length) h' (ins ++ upto slot outs.length) = K) (hv : bkAV (ins ++ upto slot outs.length) v = vK)
    (hho : ∀ t, t < outs.length → isHole h (slot + t) = true)
    (hrest : ∀ i, (∀ j, j < ins.length → nthN ins j ≠ i) → (∀ t, t < outs.length → slot + t ≠ i) → hget h' i = hget h i)
    (hwalk : AWqS P (Dm H0) (flatC (bodyOf fn)) (FEndM T fn (upto 0 ins.length ++ outs) vK K) ⟨frame0 args' fn.ntmps, H0⟩) : CallOk P f args h v h' := by
  intro ρ w hr hargs o a next Q hnext
  rw [enter_run hf hb hn, Oper.upon_enter]
  refine calls_of_wp hf hb ?_
  obtain ⟨r0, hsub0⟩ := hr.view hp0 hc0 hb0
  have hlen0 : ∀ i, Dm H0 i → i < ins.length ∧ ins.length < 1000000 := fun i ⟨b, hg⟩ => by
    rw [← hp0] at hg
    unfold chkB at hc0
    simp only [Bool.and_eq_true] at hc0
    exact ⟨(hget_pickH hg).1, by rw [← Nat.blt_eq]; exact hc0.2.2⟩
  have haok : ∀ x ∈ args', x.ok (Dm H0) := fun x hx => avB_spec (List.all_eq_true.1 hab x hx)
  have hav : args'.map (AV.val (rnm ins ρ)) = args.map (AV.val ρ) := by
    rw [← ha] at haok ⊢
    have key : ∀ l : List AV, (∀ x ∈ bkAVs ins l, x.ok (Dm H0)) → (bkAVs ins l).map (AV.val (rnm ins ρ)) = l.map (AV.val ρ) := by
      intro l
      induction l with
      | nil => intro _; rfl
      | cons x r ih =>
        intro hx
        simp only [bkAVs, List.map_cons]
        rw [bkAV_val hlen0 (hx _ (by simp [bkAVs])), ih fun y hy => hx y (by simp [bkAVs, hy])]
    exact key args haok
  have hrel : Rel (rnm ins ρ) ⟨frame0 args' fn.ntmps, H0⟩ { tmps := (args.map (AV.val ρ)).toArray ++ Array.replicate (fn.ntmps - (args.map (AV.val ρ)).toArray.size) undef, defers := [] } w := by
    refine ⟨?_, rfl, fun x hx => ?_, r0⟩
    · have hl : args'.length = args.length := by have := congrArg List.length hav; simpa using this
      apply Array.ext'
      simp [frame0, hav, hl, undefA, AV.val, undef]
    · unfold frame0 at hx
      rcases List.mem_append.1 hx with hx | hx
      · exact haok x hx
      · have := (List.mem_replicate.1 hx).2
        subst this
        intro v hv; cases hv
  refine wp_mono (AWq.of_flat _ hwalk (rnm ins ρ) w (rnm ins ρ) _ w hrel (StepR.refl _ _ _)) fun e a' w' ⟨s', ρ', q, r', st⟩ => ?_
  have fin : (chkB (upto 0 ins.length ++ outs) (pickH (upto 0 ins.length ++ outs) s'.h (upto 0 ins.length ++ outs)) = true ∧ heapB (pickH (upto 0 ins.length ++ outs) s'.h (upto 0 ins.length ++ outs)) 0 (pickH (upto 0 ins.length ++ outs) s'.h (upto 0 ins.length ++ outs)) = true ∧
      SimH (pickH (upto 0 ins.length ++ outs) s'.h (upto 0 ins.length ++ outs)) K ∧ ∃ v', resA T s' fn.results.toList = some v' ∧ avB (pickH (upto 0 ins.length ++ outs) s'.h (upto 0 ins.length ++ outs)) (bkAV (upto 0 ins.length ++ outs) v') = true ∧ ∀ ρ, (bkAV (upto 0 ins.length ++ outs) v').val ρ = vK.val ρ) →
      a'.defers = [] ∧ ∃ u, (results fn a'.tmps).run P w' = .ok u w' ∧ next (a.put o.dst u) w' := by
    intro ⟨q1, q1b, q2, v', q3, q3b, q4⟩
    have hres := resA_run hT r' (fn := fn) q3
    refine ⟨r'.defers, _, hres.1, ?_⟩
    obtain ⟨rK0, hsubK0⟩ := r'.mem.view rfl q1 q1b
    have rK := rK0.sim q2 hK
    have hsubK : ∀ i, Dm K i → Dm s'.h (nthN (upto 0 ins.length ++ outs) i) := fun i hi => hsubK0 i (q2.dm hi)
    have hmclen : (upto 0 ins.length ++ outs).length = ins.length + outs.length := by rw [List.length_append, length_upto]
    have hmlen : (ins ++ upto slot outs.length).length = ins.length + outs.length := by rw [List.length_append, length_upto]
    have hKlt0 : ∀ i, Dm (pickH (upto 0 ins.length ++ outs) s'.h (upto 0 ins.length ++ outs)) i → i < ins.length + outs.length := fun i ⟨b, hg⟩ => by
      rw [← hmclen]; exact (hget_pickH hg).1
    have hKlt : ∀ i, Dm K i → i < ins.length + outs.length := fun i hi => hKlt0 i (q2.dm hi)
    unfold chkB at q1 hm
    simp only [Bool.and_eq_true] at q1 hm
    have hD1 : ∀ i, Dm (pickH (upto 0 ins.length ++ outs) s'.h (upto 0 ins.length ++ outs)) i → i < (upto 0 ins.length ++ outs).length ∧ (upto 0 ins.length ++ outs).length < 1000000 := fun i hi => ⟨by rw [hmclen]; exact hKlt0 i hi, by rw [← Nat.blt_eq]; exact q1.2.2⟩
    have hD2 : ∀ i, Dm K i → i < (ins ++ upto slot outs.length).length ∧ (ins ++ upto slot outs.length).length < 1000000 := fun i hi => ⟨by rw [hmlen]; exact hKlt i hi, by rw [← Nat.blt_eq]; exact hm.2.2⟩
    -- the new names
    let ρ2 : Ren := fun i => if slot ≤ i ∧ i < slot + outs.length then ρ' (nthN outs (i - slot)) else ρ i
    have hnew : ∀ t, t < outs.length → ¬ Dm h (slot + t) := fun t ht hd => by
      obtain ⟨c, hcc⟩ := hd
      rw [(isHole_lt (hho t ht)).2] at hcc; cases hcc
    have hag : Agree (Dm h) ρ ρ2 := fun i hi => by
      refine if_neg fun hh => ?_
      exact hnew (i - slot) (by omega) (by rw [show slot + (i - slot) = i by omega]; exact hi)
    have hallD : ∀ j, j < ins.length → Dm H0 j := fun j hj => by
      rcases hall j hj with hl | ⟨b, hb, _⟩
      · exact hl.dm
      · exact ⟨b, hb⟩
    have hins : ∀ j, j < ins.length → Dm h (nthN ins j) := fun j hj => hsub0 j (hallD j hj)
    have hinL : ∀ j, Lv H0 j → Lv h (nthN ins j) := fun j ⟨b, hg, hbl⟩ => by
      rw [← hp0] at hg
      obtain ⟨_, b0, h2, h3⟩ := hget_pickH hg
      exact ⟨b0, h2, by subst h3; exact hbl⟩
    have hinW : ∀ j b, hget H0 j = some b → b.lo = 3 → ∃ b0, hget h (nthN ins j) = some b0 ∧ b0.lo = 3 := fun j b hg hbl => by
      rw [← hp0] at hg
      obtain ⟨_, b0, h2, h3⟩ := hget_pickH hg
      exact ⟨b0, h2, by subst h3; exact hbl⟩
    have hrn : ∀ i, i < ins.length + outs.length → rnm (ins ++ upto slot outs.length) ρ2 i = rnm (upto 0 ins.length ++ outs) ρ' i := by
      intro i hi
      simp only [rnm]
      by_cases hlt : i < ins.length
      · rw [nthN_app hlt, nthN_app (by rw [length_upto]; exact hlt), nthN_upto hlt, Nat.zero_add, hag _ (hins i hlt)]
        exact (st.agree i (hallD i hlt)).symm
      · rw [nthN_app2 (by omega), nthN_app2 (by rw [length_upto]; omega), length_upto, nthN_upto (by omega)]
        simp only [ρ2]
        rw [if_pos (by omega)]
        congr 2; omega
    have hvalK : ∀ {u : AV}, u.ok (Dm K) → u.val (rnm (ins ++ upto slot outs.length) ρ2) = u.val (rnm (upto 0 ins.length ++ outs) ρ') := fun {u} hu => AV.val_agree (D := Dm K) (fun i hi => hrn i (hKlt i hi)) hu
    have hvok : vK.ok (Dm K) := avB_spec hvK
    have hvv : v.val ρ2 = v'.val ρ' := by
      have e1 : (bkAV (ins ++ upto slot outs.length) v).val (rnm (ins ++ upto slot outs.length) ρ2) = v.val ρ2 := bkAV_val hD2 (by rw [hv]; exact hvok)
      have e2 : (bkAV (upto 0 ins.length ++ outs) v').val (rnm (upto 0 ins.length ++ outs) ρ') = v'.val ρ' := bkAV_val hD1 (avB_spec q3b)
      rw [← e1, ← e2, hv, q4, hvalK hvok]
    -- h'
    have hK' : ∀ p b, hget K p = some b → ∃ b', hget h' (nthN (ins ++ upto slot outs.length) p) = some b' ∧ b = bkBlk (ins ++ upto slot outs.length) b' := fun p b hg => by
      rw [← hp] at hg; exact (hget_pickH hg).2
    have hin : ∀ i, Dm h' i → (∃ p, p < ins.length + outs.length ∧ nthN (ins ++ upto slot outs.length) p = i) ∨ ((∀ j, j < ins.length → nthN ins j ≠ i) ∧ (∀ t, t < outs.length → slot + t ≠ i) ∧ hget h' i = hget h i) := by
      intro i hi
      by_cases h1 : ∃ j, j < ins.length ∧ nthN ins j = i
      · obtain ⟨j, hj, e⟩ := h1
        exact .inl ⟨j, by omega, by rw [nthN_app hj]; exact e⟩
      · by_cases h2 : ∃ t, t < outs.length ∧ slot + t = i
        · obtain ⟨t, ht, e⟩ := h2
          exact .inl ⟨ins.length + t, by omega, by rw [nthN_app2 (by omega), Nat.add_sub_cancel_left, nthN_upto ht]; exact e⟩
        · have g1 : ∀ j, j < ins.length → nthN ins j ≠ i := fun j hj e => h1 ⟨j, hj, e⟩
          have g2 : ∀ t, t < outs.length → slot + t ≠ i := fun t ht e => h2 ⟨t, ht, e⟩
          exact .inr ⟨g1, g2, hrest i g1 g2⟩
    have hmD : ∀ p, p < ins.length + outs.length → Dm h' (nthN (ins ++ upto slot outs.length) p) := fun p hpl => by
      obtain ⟨b, hg⟩ := hKall p hpl
      obtain ⟨b', h1, _⟩ := hK' p b hg
      exact ⟨b', h1⟩
    have hsubD : ∀ i, Dm h i → Dm h' i := fun i ⟨b, hg⟩ => by
      by_cases h1 : ∃ j, j < ins.length ∧ nthN ins j = i
      · obtain ⟨j, hj, e⟩ := h1
        have := hmD j (by omega)
        rw [nthN_app hj, e] at this
        exact this
      · have g1 : ∀ j, j < ins.length → nthN ins j ≠ i := fun j hj e => h1 ⟨j, hj, e⟩
        have g2 : ∀ t, t < outs.length → slot + t ≠ i := fun t ht e => hnew t ht ⟨b, by rw [e]; exact hg⟩
        exact ⟨b, by rw [hrest i g1 g2]; exact hg⟩
    have hDK : ∀ p, Dm K p → Dm h' (nthN (ins ++ upto slot outs.length) p) := fun p hpd => hmD p (hKlt p hpd)
    have hkeep : ∀ i, Lv h i → (∀ j, j < ins.length → nthN ins j ≠ i) → w'.heap[ρ i]? = w.heap[ρ i]? := fun i hi hni => st.keep _ (hr.lt hi) fun j hj e => by
      have hj' := (hlen0 j hj).1
      rcases hall j hj' with hl0 | ⟨b, hg, hb3, _⟩
      · exact hni j hj' (hr.inj _ _ (hinL j hl0) hi e)
      · obtain ⟨b0, h2, h3⟩ := hinW j b hg hb3
        exact hr.sep i _ b0 hi h2 h3 e.symm
    have hkeepW : ∀ i b, hget h i = some b → b.lo = 3 → w'.heap[ρ i]? = w.heap[ρ i]? := fun i b hi h3 => by
      by_cases hex : ∃ j, Dm H0 j ∧ rnm ins ρ j = ρ i
      · obtain ⟨j, hj, e⟩ := hex
        have hj' := (hlen0 j hj).1
        rcases hall j hj' with hl0 | ⟨c, hg, hc3, hgK⟩
        · exact absurd e (hr.sep _ i b (hinL j hl0) hi h3)
        · obtain ⟨arr, fr, a1, a2, _⟩ := r0.win j c hg hc3
          obtain ⟨arr', fr', b1, b2, _⟩ := rK.win j c hgK hc3
          have e1 : rnm (upto 0 ins.length ++ outs) ρ' j = ρ i := by
            simp only [rnm]
            rw [nthN_app (by rw [length_upto]; exact hj'), nthN_upto hj', Nat.zero_add, st.agree j hj, e]
          have e2 : cvals (rnm (upto 0 ins.length ++ outs) ρ') c.cells = cvals (rnm ins ρ) c.cells := cvals_agree (D := Dm H0) (fun t ht => by
            have ht' := (hlen0 t ht).1
            simp only [rnm]
            rw [nthN_app (by rw [length_upto]; exact ht'), nthN_upto ht', Nat.zero_add]
            exact st.agree t ht) ((heapB_spec hb0 j c hg).1)
          rw [e2, a2] at b2
          have e3 := wrapB_inj (Option.some.inj b2)
          rw [e1] at b1
          rw [e] at a1
          rw [a1, b1, e3.1, e3.2]
      · exact st.keep _ (hr.ltW hi h3) fun j hj e => hex ⟨j, hj, e⟩
    have hmemC : ∀ p b', hget h' (nthN (ins ++ upto slot outs.length) p) = some b' → p < ins.length + outs.length → hget K p = some (bkBlk (ins ++ upto slot outs.length) b') := by
      intro p b' hg hpl
      obtain ⟨b, hgk⟩ := hKall p hpl
      obtain ⟨b2, h1, h2⟩ := hK' p b hgk
      rw [hg] at h1
      cases h1
      rw [hgk, h2]
    have hcvK : ∀ p b', hget K p = some (bkBlk (ins ++ upto slot outs.length) b') → p < ins.length + outs.length → cvals ρ2 b'.cells = cvals (rnm (upto 0 ins.length ++ outs) ρ') (bkBlk (ins ++ upto slot outs.length) b').cells := by
      intro p b' hg hpl
      have hok := (heapB_spec hK p _ hg).1
      have e1 := bkCells_vals (ρ := ρ2) hD2 hok
      rw [← e1]
      exact cvals_agree (D := Dm K) (fun i hi => hrn i (hKlt i hi)) hok
    have hr2 : ∀ p, p < ins.length + outs.length → ρ2 (nthN (ins ++ upto slot outs.length) p) = rnm (upto 0 ins.length ++ outs) ρ' p := fun p hpl => hrn p hpl
    have hLvK : ∀ p, p < ins.length + outs.length → Lv h' (nthN (ins ++ upto slot outs.length) p) → Lv K p := fun p hpl ⟨b', hg, hl⟩ => ⟨_, hmemC p b' hg hpl, hl⟩
    have hrelH : RelH ρ2 h' w' := by
      refine ⟨fun i b' hg => ?_, fun i b' hg h0 => ?_, fun i b' hg h1 => ?_, fun i b' hg => ?_, fun i j hi hj he => ?_, fun i b' hg h3 => ?_, fun i j b' hi hg h3 => ?_⟩
      · rcases hin i ⟨b', hg⟩ with ⟨p, hpl, rfl⟩ | ⟨g1, g2, g3⟩
        · have hgk := hmemC p b' hg hpl
          exact bkCells_ok hD2 hDK (heapB_spec hK p _ hgk).1
        · rw [g3] at hg; exact cok_mono hsubD (hr.cok i b' hg)
      · rcases hin i ⟨b', hg⟩ with ⟨p, hpl, rfl⟩ | ⟨g1, g2, g3⟩
        · have hgk := hmemC p b' hg hpl
          have := rK.row p _ hgk h0
          rw [hr2 p hpl, hcvK p b' hgk hpl]
          exact this
        · rw [g3] at hg
          have hl : Lv h i := ⟨b', hg, by omega⟩
          rw [hag i hl.dm, hkeep i hl g1, hr.row i b' hg h0, cvals_agree hag (hr.cok i b' hg)]
      · rcases hin i ⟨b', hg⟩ with ⟨p, hpl, rfl⟩ | ⟨g1, g2, g3⟩
        · have hgk := hmemC p b' hg hpl
          obtain ⟨⟨cur, e1, e2, e3, e4, e5, e6⟩, e7⟩ := rK.own p _ hgk h1
          have hpl1 := hKlt _ e7
          have hnx := nextB_spec hm.2.1 p _ (by rw [hmlen]; exact hpl) hgk h1
          have e0 := hr2 p hpl
          have e00 := hr2 (p + 1) hpl1
          rw [hnx] at e00
          refine ⟨⟨cur, by rw [e0]; exact e1, by rw [e0, e00]; exact e2, by rw [e0, e00]; exact e3, by rw [e0, e00]; exact e4, ?_, ?_⟩, ?_⟩
          · simp only [bkBlk, bkCells_len] at e5; exact e5
          · rw [hcvK p b' hgk hpl, ← e6]; simp only [bkBlk, bkCells_len]
          · rw [← hnx]; exact hmD _ hpl1
        · rw [g3] at hg
          have hl : Lv h i := ⟨b', hg, by omega⟩
          obtain ⟨k1, k2⟩ := hr.own i b' hg h1
          exact ⟨k1.agree hag hl.dm k2 (hr.cok i b' hg) (hkeep i hl g1), hsubD _ k2⟩
      · rcases hin i ⟨b', hg⟩ with ⟨p, hpl, rfl⟩ | ⟨g1, g2, g3⟩
        · exact (heapB_spec hK p _ (hmemC p b' hg hpl)).2.1
        · rw [g3] at hg; exact hr.few i b' hg
      · have mix : ∀ p i, p < ins.length + outs.length → Lv h' (nthN (ins ++ upto slot outs.length) p) → Lv h' i → (∀ j, j < ins.length → nthN ins j ≠ i) → (∀ t, t < outs.length → slot + t ≠ i) → hget h' i = hget h i → ρ2 (nthN (ins ++ upto slot outs.length) p) ≠ ρ2 i := by
          intro p i hpl hp1 hi g1 g2 g3 e
          have hl : Lv h i := by obtain ⟨b, hg, hbl⟩ := hi; rw [g3] at hg; exact ⟨b, hg, hbl⟩
          rw [hag i hl.dm] at e
          have viaIn : ∀ j, j < ins.length → ρ (nthN ins j) = ρ i → False := fun j hj e => by
            rcases hall j hj with hl0 | ⟨b, hg, hb3, _⟩
            · exact g1 j hj (hr.inj _ _ (hinL j hl0) hl e)
            · obtain ⟨b0, h2, h3⟩ := hinW j b hg hb3
              exact hr.sep i _ b0 hl h2 h3 e.symm
          by_cases hlt : p < ins.length
          · rw [nthN_app hlt, hag _ (hins p hlt)] at e
            exact viaIn p hlt e
          · rw [hr2 p hpl] at e
            simp only [rnm] at e
            rw [nthN_app2 (by rw [length_upto]; omega), length_upto] at e
            by_cases hd : Dm H0 (nthN outs (p - ins.length))
            · have := st.agree _ hd
              rw [this] at e
              exact viaIn _ (hlen0 _ hd).1 e
            · have hdd : Dm s'.h (nthN outs (p - ins.length)) := by
                have := hsubK p (hLvK p hpl hp1).dm
                rw [nthN_app2 (by rw [length_upto]; omega), length_upto] at this
                exact this
              rcases st.fresh _ hdd hd with h3 | ⟨j, h3, h4⟩
              · have := hr.lt hl; omega
              · rw [h4] at e
                exact viaIn j (hlen0 j h3).1 e
        rcases hin i hi.dm with ⟨p, hpl, rfl⟩ | ⟨g1, g2, g3⟩ <;> rcases hin j hj.dm with ⟨q, hql, rfl⟩ | ⟨k1, k2, k3⟩
        · rw [hr2 p hpl, hr2 q hql] at he
          rw [rK.inj p q (hLvK p hpl hi) (hLvK q hql hj) he]
        · exact absurd he (mix p j hpl hi hj k1 k2 k3)
        · exact absurd he.symm (mix q i hql hj hi g1 g2 g3)
        · have l1 : Lv h i := by obtain ⟨b, hg, hbl⟩ := hi; rw [g3] at hg; exact ⟨b, hg, hbl⟩
          have l2 : Lv h j := by obtain ⟨b, hg, hbl⟩ := hj; rw [k3] at hg; exact ⟨b, hg, hbl⟩
          rw [hag i l1.dm, hag j l2.dm] at he
          exact hr.inj i j l1 l2 he
      · rcases hin i ⟨b', hg⟩ with ⟨p, hpl, rfl⟩ | ⟨g1, g2, g3⟩
        · have hgk := hmemC p b' hg hpl
          obtain ⟨arr, fr, e1, e2, e3⟩ := rK.win p _ hgk h3
          exact ⟨arr, fr, by rw [hr2 p hpl]; exact e1, by rw [hcvK p b' hgk hpl]; exact e2, by rw [hcvK p b' hgk hpl]; exact e3⟩
        · rw [g3] at hg
          exact (hr.win i b' hg h3).agree hag ⟨b', hg⟩ (hr.cok i b' hg) (hkeepW i b' hg h3)
      · intro he
        rcases hin i hi.dm with ⟨p, hpl, rfl⟩ | ⟨g1, g2, g3⟩ <;> rcases hin j ⟨b', hg⟩ with ⟨q, hql, rfl⟩ | ⟨k1, k2, k3⟩
        · rw [hr2 p hpl, hr2 q hql] at he
          exact rK.sep p q _ (hLvK p hpl hi) (hmemC q b' hg hql) h3 he
        · rw [k3] at hg
          rw [hag j ⟨b', hg⟩] at he
          have viaIn : ∀ t, Dm H0 t → ρ (nthN ins t) = ρ j → rnm (upto 0 ins.length ++ outs) ρ' p = ρ' t → False := fun t ht e e' => by
            have ht' := (hlen0 t ht).1
            rcases hall t ht' with hl0 | ⟨b, hgt, hb3, hbK⟩
            · exact hr.sep _ j b' (hinL t hl0) hg h3 e
            · refine rK.sep p t b (hLvK p hpl hi) hbK hb3 ?_
              rw [e']
              simp only [rnm]
              rw [nthN_app (by rw [length_upto]; exact ht'), nthN_upto ht', Nat.zero_add]
          rw [hr2 p hpl] at he
          by_cases hlt : p < ins.length
          · have hd := hallD p hlt
            have e' : rnm (upto 0 ins.length ++ outs) ρ' p = ρ' p := by
              simp only [rnm]
              rw [nthN_app (by rw [length_upto]; exact hlt), nthN_upto hlt, Nat.zero_add]
            refine viaIn p hd ?_ e'
            rw [← he, e', st.agree p hd]
            rfl
          · have e' : rnm (upto 0 ins.length ++ outs) ρ' p = ρ' (nthN outs (p - ins.length)) := by
              simp only [rnm]
              rw [nthN_app2 (by rw [length_upto]; omega), length_upto]
            by_cases hd : Dm H0 (nthN outs (p - ins.length))
            · refine viaIn _ hd ?_ e'
              rw [← he, e', st.agree _ hd]
              rfl
            · have hdd : Dm s'.h (nthN outs (p - ins.length)) := by
                have := hsubK p (hLvK p hpl hi).dm
                rw [nthN_app2 (by rw [length_upto]; omega), length_upto] at this
                exact this
              rcases st.fresh _ hdd hd with h4 | ⟨t, h4, h5⟩
              · have := hr.ltW hg h3; rw [e'] at he; omega
              · refine viaIn t h4 ?_ (by rw [e', h5, st.agree t h4])
                rw [← he, e', h5]
                rfl
        · have l1 : Lv h i := by obtain ⟨b, hg, hbl⟩ := hi; rw [g3] at hg; exact ⟨b, hg, hbl⟩
          obtain ⟨hq, hq0⟩ := hKw q _ (hmemC q b' hg hql) h3
          obtain ⟨b0, h2, h4⟩ := hinW q _ hq0 h3
          rw [hag i l1.dm, nthN_app hq, hag _ (hins q hq)] at he
          exact hr.sep i _ b0 l1 h2 h4 he
        · have l1 : Lv h i := by obtain ⟨b, hg, hbl⟩ := hi; rw [g3] at hg; exact ⟨b, hg, hbl⟩
          rw [k3] at hg
          rw [hag i l1.dm, hag j ⟨b', hg⟩] at he
          exact hr.sep i j b' l1 hg h3 he
    have hstep : StepR (Dm h) ρ w (Dm h') ρ2 w' := by
      refine ⟨hag, hsubD, st.size, st.os, st.tape, st.output, fun b hbl hne => st.keep b hbl fun i hi => hne _ (hsub0 i hi), fun i hi hni => ?_⟩
      rcases hin i hi with ⟨p, hpl, rfl⟩ | ⟨g1, g2, g3⟩
      · by_cases hlt : p < ins.length
        · rw [nthN_app hlt] at hni; exact absurd (hins p hlt) hni
        · rw [hr2 p hpl]
          simp only [rnm]
          rw [nthN_app2 (by rw [length_upto]; omega), length_upto]
          by_cases hd : Dm H0 (nthN outs (p - ins.length))
          · exact .inr ⟨_, hsub0 _ hd, st.agree _ hd⟩
          · have hdd : Dm s'.h (nthN outs (p - ins.length)) := by
              have := hsubK p (hKall p hpl)
              rw [nthN_app2 (by rw [length_upto]; omega), length_upto] at this
              exact this
            rcases st.fresh _ hdd hd with h3 | ⟨j, h3, h4⟩
            · exact .inl h3
            · exact .inr ⟨_, hsub0 j h3, h4⟩
      · obtain ⟨b, hg⟩ := hi
        rw [g3] at hg
        exact absurd ⟨b, hg⟩ hni
    have := hnext ρ2 w' hstep hrelH (bkAV_ok hD2 hDK (by rw [hv]; exact hvok))
    rw [hvv] at this
    exact this
  cases e with
  | normal => exact fin q
  | ret => exact fin q
  | exit j => exact q.elim
  | goto l => exact q.elim
  | panic ch => exact q.elim
  | outgrown => exact q.elim

/-- No window among the blocks. -/
def noWinB : Heap → Bool
  | [] => true
  | none :: r => noWinB r
  | some b :: r => Nat.blt b.lo 3 && noWinB r
theorem noWinB_spec : ∀ {h : Heap}, noWinB h = true → ∀ i b, hget h i = some b → b.lo < 3
  | [], _, i, b, hb => by simp [hget] at hb
  | none :: r, h, 0, b, hb => by simp [hget] at hb
  | none :: r, h, i + 1, b, hb => noWinB_spec (h := r) h i b (by simpa [hget] using hb)
  | some c :: r, h, 0, b, hb => by
    simp only [noWinB, Bool.and_eq_true, Nat.blt_eq] at h
    simp only [hget, Option.some.injEq] at hb
    subst hb; exact h.1
  | some c :: r, h, i + 1, b, hb => by
    simp only [noWinB, Bool.and_eq_true] at h
    exact noWinB_spec (h := r) h.2 i b (by simpa [hget] using hb)

theorem mem_walk {P : Program} {T : TT} (hT : TTOk P T) {f : FuncId} {fn : Func} (hf : P.funcs[f]? = some fn) (hb : fn.body = some (bodyOf fn)) (hn : (fn.name == "runtime.NumGoroutine") = false)
    {args args' : List AV} {h h' : Heap} (ins outs : List Nat) (slot : Nat) (H0 K : Heap) {v vK : AV}
    (hc0 : chkB ins H0 = true) (hp0 : pickH ins h ins = H0) (hb0 : heapB H0 0 H0 = true) (ha : bkAVs ins args = args') (hab : args'.all (avB H0) = true) (hall : ∀ i, i < ins.length → Lv H0 i)
    (hK : heapB K 0 K = true) (hvK : avB K vK = true) (hKall : ∀ i, i < ins.length + outs.length → Dm K i)
    (hm : chkB (ins ++ upto slot outs.length) K = true) (hp : pickH (ins ++ upto slot outs.length) h' (ins ++ upto slot outs.length) = K) (hv : bkAV (ins ++ upto slot outs.length) v = vK)
    (hho : ∀ t, t < outs.length → isHole h (slot + t) = true)
    (hrest : ∀ i, (∀ j, j < ins.length → nthN ins j ≠ i) → (∀ t, t < outs.length → slot + t ≠ i) → hget h' i = hget h i)
    (hwalk : AWqS P (Dm H0) (flatC (bodyOf fn)) (FEndM T fn (upto 0 ins.length ++ outs) vK K) ⟨frame0 args' fn.ntmps, H0⟩) (hnw : noWinB K = true := by kernel_rfl) : CallOk P f args h v h' :=
  mem_walkW hT hf hb hn ins outs slot H0 K hc0 hp0 hb0 ha hab (fun i hi => .inl (hall i hi)) (fun i b hb h3 => by have := noWinB_spec hnw i b hb; omega) hK hvK hKall hm hp hv hho hrest hwalk
end Go.Rq
