/- Loops at whose head the blocks are named anew; functions that are handed blocks, and hand blocks back. -/
import Derived.Test.YtndmoidenbfflaaFwO
namespace Go.Rq
open Go

def idxN (x : Nat) : List Nat → Nat → Nat
  | [], k => k + 1000000
  | y :: r, k => match Nat.beq x y with
    | true => k
    | false => idxN x r (k + 1)
def nthN : List Nat → Nat → Nat
  | [], _ => 0
  | a :: _, 0 => a
  | _ :: r, i + 1 => nthN r i
theorem idxN_spec {x : Nat} : ∀ {m : List Nat} {k : Nat}, idxN x m k < k + m.length → k ≤ idxN x m k ∧ nthN m (idxN x m k - k) = x
  | [], k, h => by exfalso; simp [idxN] at h; omega
  | y :: r, k, h => by
    simp only [idxN] at h ⊢
    cases hb : Nat.beq x y
    · rw [hb] at h
      simp only at h ⊢
      have := idxN_spec (x := x) (m := r) (k := k + 1) (by simp at h; omega)
      refine ⟨by omega, ?_⟩
      rw [show idxN x r (k + 1) - k = (idxN x r (k + 1) - (k + 1)) + 1 by omega]
      exact this.2
    · have : x = y := by rw [← Nat.beq_eq]; exact hb
      simp only [Nat.le_refl, Nat.sub_self, nthN, true_and]
      exact this.symm

/-- The slot's name among m. -/
def bk (m : List Nat) (b : Nat) : Nat := idxN b m 0
theorem bk_spec {m : List Nat} {b : Nat} (h : bk m b < m.length) : nthN m (bk m b) = b := by
  have := idxN_spec (x := b) (m := m) (k := 0) (by simpa [bk] using h)
  simpa [bk] using this.2

def bkSc (m : List Nat) : Sc → Sc
  | .pt b o => .pt (bk m b) o
  | .sl b o l c => .sl (bk m b) o l c
  | .so b n => match Nat.beq (bk m (b + 1)) (bk m b + 1) with
    | true => .so (bk m b) n
    | false => .so 1000000 n
  | .sv b o n => match Nat.beq (bk m (b + 1)) (bk m b + 1) with
    | true => .sv (bk m b) o n
    | false => .sv 1000000 o n
  | .fn f caps => .fn f (caps.map (bk m))
  | s => s
def bkCell (m : List Nat) : Cell → Cell
  | .ws k n f => .ws k n f
  | .one s => .one (bkSc m s)
def bkCells (m : List Nat) : List Cell → List Cell
  | [] => []
  | c :: r => bkCell m c :: bkCells m r
def bkV1 (m : List Nat) : V1 → V1
  | .sc s => .sc (bkSc m s)
  | .agg cs => .agg (bkCells m cs)
def bkV1s (m : List Nat) : List V1 → List V1
  | [] => []
  | v :: r => bkV1 m v :: bkV1s m r
def bkAV (m : List Nat) : AV → AV
  | .v1 v => .v1 (bkV1 m v)
  | .tup l => .tup (bkV1s m l)
  | .raw v => .raw v
def bkAVs (m : List Nat) : List AV → List AV
  | [] => []
  | v :: r => bkAV m v :: bkAVs m r
def bkBlk (m : List Nat) (b : Blk) : Blk := ⟨b.ty, bkCells m b.cells, b.lo, b.hi⟩

def rnm (m : List Nat) (ρ : Ren) : Ren := fun i => ρ (nthN m i)

section
variable {m : List Nat} {D : Nat → Prop} (hD : ∀ i, D i → i < m.length ∧ m.length < 1000000) {ρ : Ren}
include hD
theorem bkSc_val {s : Sc} (h : (bkSc m s).ok D) : (bkSc m s).val (rnm m ρ) = s.val ρ := by
  cases s with
  | pt b o => simp only [bkSc, Sc.ok] at h; simp only [bkSc, Sc.val, rnm, bk_spec (hD _ h).1]
  | sl b o l c => simp only [bkSc, Sc.ok] at h; simp only [bkSc, Sc.val, rnm, bk_spec (hD _ h).1]
  | so b n =>
    simp only [bkSc] at h ⊢
    cases hb : Nat.beq (bk m (b + 1)) (bk m b + 1)
    · rw [hb] at h
      simp only [Sc.ok] at h
      have h1 := hD _ h.1
      omega
    · rw [hb] at h
      simp only [Sc.ok] at h
      rw [Nat.beq_eq] at hb
      simp only [Sc.val, rnm, bk_spec (hD _ h.1).1]
      have h2 := (hD _ h.2).1
      rw [← hb] at h2 ⊢
      rw [bk_spec h2]
  | sv b o n =>
    simp only [bkSc] at h ⊢
    cases hb : Nat.beq (bk m (b + 1)) (bk m b + 1)
    · rw [hb] at h
      simp only [Sc.ok] at h
      have h1 := hD _ h.1
      omega
    · rw [hb] at h
      simp only [Sc.ok] at h
      rw [Nat.beq_eq] at hb
      simp only [Sc.val, rnm, bk_spec (hD _ h.1).1]
      have h2 := (hD _ h.2).1
      rw [← hb] at h2 ⊢
      rw [bk_spec h2]
  | fn f caps =>
    simp only [bkSc, Sc.ok] at h
    simp only [bkSc, Sc.val, List.map_map]
    congr 2
    refine List.map_congr_left fun c hc => ?_
    simp only [Function.comp, rnm]
    rw [bk_spec (hD _ (h _ (List.mem_map.2 ⟨c, hc, rfl⟩))).1]
  | _ => rfl
theorem bkCell_vals {c : Cell} (h : (bkCell m c).ok D) : (bkCell m c).vals (rnm m ρ) = c.vals ρ := by
  cases c with
  | ws k n f => rfl
  | one s => simp only [bkCell, Cell.ok] at h; simp only [bkCell, Cell.vals, bkSc_val hD h]
theorem bkCells_vals : ∀ {cs : List Cell}, cok D (bkCells m cs) → cvals (rnm m ρ) (bkCells m cs) = cvals ρ cs
  | [], _ => rfl
  | c :: r, h => by
    simp only [bkCells, cvals]
    rw [bkCell_vals hD (h _ (by simp [bkCells])), bkCells_vals (cs := r) fun d hd => h d (by simp [bkCells, hd])]
theorem bkV1_val {v : V1} (h : (bkV1 m v).ok D) : (bkV1 m v).val (rnm m ρ) = v.val ρ := by
  cases v with
  | sc s => exact bkSc_val hD h
  | agg cs => simp only [bkV1, V1.val]; rw [bkCells_vals hD h]
theorem bkAV_val {v : AV} (h : (bkAV m v).ok D) : (bkAV m v).val (rnm m ρ) = v.val ρ := by
  cases v with
  | v1 v => exact bkV1_val hD h
  | tup l =>
    simp only [bkAV, AV.ok] at h
    have key : ∀ l : List V1, (∀ v ∈ bkV1s m l, v.ok D) → (bkV1s m l).map (V1.val (rnm m ρ)) = l.map (V1.val ρ) := by
      intro l
      induction l with
      | nil => intro _; rfl
      | cons v r ih =>
        intro h
        simp only [bkV1s, List.map_cons]
        rw [bkV1_val hD (h _ (by simp [bkV1s])), ih fun u hu => h u (by simp [bkV1s, hu])]
    simp only [bkAV, AV.val]
    rw [key l h]
  | raw v => rfl
end
theorem bkCells_len (m : List Nat) : ∀ cs : List Cell, clen (bkCells m cs) = clen cs
  | [] => rfl
  | c :: r => by
    simp only [bkCells]
    rw [clen_cons, clen_cons, bkCells_len m r]
    cases c <;> rfl

def pickB (m : List Nat) : Option Blk → Option Blk
  | none => none
  | some b => some (bkBlk m b)
def pickH (m : List Nat) (h : Heap) : List Nat → Heap
  | [] => []
  | i :: r => pickB m (hget h i) :: pickH m h r
theorem hget_pickH {m : List Nat} {h : Heap} {b' : Blk} : ∀ {l : List Nat} {i : Nat}, hget (pickH m h l) i = some b' → i < l.length ∧ ∃ b, hget h (nthN l i) = some b ∧ b' = bkBlk m b
  | [], i, e => by simp [pickH, hget] at e
  | j :: r, 0, e => by
    simp only [pickH, hget] at e
    refine ⟨by simp, ?_⟩
    simp only [nthN]
    cases hh : hget h j with
    | none => rw [hh] at e; cases e
    | some b => rw [hh] at e; simp only [pickB, Option.some.injEq] at e; exact ⟨b, rfl, e.symm⟩
  | j :: r, i + 1, e => by
    simp only [pickH, hget] at e
    have := hget_pickH (l := r) e
    exact ⟨by simp; omega, this.2⟩
theorem length_pickH (m : List Nat) (h : Heap) : ∀ l, (pickH m h l).length = l.length
  | [] => rfl
  | _ :: r => by simp [pickH, length_pickH m h r]

def notIn (x : Nat) : List Nat → Bool
  | [] => true
  | y :: r => match Nat.beq x y with
    | true => false
    | false => notIn x r
def nodupB : List Nat → Bool
  | [] => true
  | x :: r => match notIn x r with
    | true => nodupB r
    | false => false
theorem notIn_spec {x : Nat} : ∀ {l : List Nat}, notIn x l = true → ∀ i, i < l.length → nthN l i ≠ x
  | [], _, i, hi => by simp at hi
  | y :: r, h, i, hi => by
    simp only [notIn] at h
    cases hb : Nat.beq x y
    · rw [hb] at h
      cases i with
      | zero => simp only [nthN]; intro e; subst e; simp at hb
      | succ i => exact notIn_spec (l := r) h i (by simpa using hi)
    · rw [hb] at h; cases h
theorem nodupB_spec : ∀ {l : List Nat}, nodupB l = true → ∀ i j, i < l.length → j < l.length → nthN l i = nthN l j → i = j
  | [], _, i, _, hi, _, _ => by simp at hi
  | x :: r, h, i, j, hi, hj, e => by
    simp only [nodupB] at h
    cases hb : notIn x r
    · rw [hb] at h; cases h
    · rw [hb] at h
      cases i with
      | zero =>
        cases j with
        | zero => rfl
        | succ j => exact absurd e.symm (notIn_spec hb j (by simpa using hj))
      | succ i =>
        cases j with
        | zero => exact absurd e (notIn_spec hb i (by simpa using hi))
        | succ j => have := nodupB_spec (l := r) h i j (by simpa using hi) (by simpa using hj) e; omega

/-- Behind an own block's slot comes that of its room. -/
def nextB : List Nat → Heap → Bool
  | a :: b :: r, some k :: h => match k.lo with
    | 1 => match Nat.beq b (a + 1) with
      | true => nextB (b :: r) h
      | false => false
    | _ => nextB (b :: r) h
  | [_], some k :: _ => match k.lo with
    | 1 => false
    | _ => true
  | _ :: r, none :: h => nextB r h
  | _, _ => true
theorem nextB_spec : ∀ {l : List Nat} {h : Heap}, nextB l h = true → ∀ i b, i < l.length → hget h i = some b → b.lo = 1 → nthN l (i + 1) = nthN l i + 1
  | [], _, _, i, b, hi, _, _ => by simp at hi
  | _ :: _, [], _, i, b, _, hb, _ => by simp [hget] at hb
  | [a], none :: h, hn, i, b, hi, hb, _ => by
    have : i = 0 := by simpa using hi
    subst this
    simp [hget] at hb
  | [a], some k :: h, hn, i, b, hi, hb, h1 => by
    have : i = 0 := by simpa using hi
    subst this
    simp only [hget, Option.some.injEq] at hb
    subst hb
    simp only [nextB, h1] at hn
    cases hn
  | a :: b' :: r, none :: h, hn, i, b, hi, hb, h1 => by
    simp only [nextB] at hn
    cases i with
    | zero => simp [hget] at hb
    | succ i => exact nextB_spec (l := b' :: r) hn i b (by simpa using hi) (by simpa [hget] using hb) h1
  | a :: b' :: r, some k :: h, hn, i, b, hi, hb, h1 => by
    simp only [nextB] at hn
    have hrest : nextB (b' :: r) h = true ∧ (k.lo = 1 → b' = a + 1) := by
      split at hn
      · split at hn
        · rename_i e; exact ⟨hn, fun _ => by rw [← Nat.beq_eq]; exact e⟩
        · cases hn
      · rename_i e; exact ⟨hn, fun e' => absurd e' e⟩
    cases i with
    | zero =>
      simp only [hget, Option.some.injEq] at hb
      subst hb
      simp only [nthN]
      exact hrest.2 h1
    | succ i => exact nextB_spec (l := b' :: r) hrest.1 i b (by simpa using hi) (by simpa [hget] using hb) h1

def chkB (m : List Nat) (h : Heap) : Bool := nodupB m && (nextB m h && Nat.blt m.length 1000000)

/-- The slots ks hold vs, n slots in all; the blocks m are h, where they have their place in m as name. -/
structure LiveR (m : List Nat) (ks : List Nat) (vs : List AV) (n : Nat) (h : Heap) (s : AS) : Prop where
  len : s.t.length = n
  pick : bkAVs m (pickT s.t ks) = vs
  mem : pickH m s.h m = h
  chk : chkB m h = true

theorem lkT_bk (m : List Nat) : ∀ (ks : List Nat) (vs : List AV) (i : Nat), lkT ks (bkAVs m vs) i = (lkT ks vs i).map (bkAV m)
  | [], _, _ => rfl
  | _ :: _, [], _ => rfl
  | k :: ks, v :: vs, i => by
    simp only [bkAVs, lkT]
    split
    · rfl
    · exact lkT_bk m ks vs i

theorem Dm_lt {h : Heap} {i : Nat} (hi : Dm h i) : i < h.length := let ⟨_, hb⟩ := hi; hget_lt hb

theorem LiveR.rel {m ks : List Nat} {vs : List AV} {n : Nat} {h : Heap} {s : AS} (l : LiveR m ks vs n h s) (hb : liveB vs h = true) {ρ : Ren} {a : Act} {w : World} (r : Rel ρ s a w) :
    ∃ junk, Rel (rnm m ρ) ⟨mkT ks vs n junk, h⟩ a w ∧ ∀ i, Dm h i → Dm s.h (nthN m i) := by
  have hsub : ∀ i b, hget h i = some b → i < m.length ∧ ∃ b0, hget s.h (nthN m i) = some b0 ∧ b = bkBlk m b0 := fun i b hb => by
    rw [← l.mem] at hb; exact hget_pickH hb
  have hchk := l.chk
  unfold chkB at hchk
  simp only [Bool.and_eq_true] at hchk
  have hDm : ∀ i, Dm h i → i < m.length ∧ m.length < 1000000 := fun i ⟨b, hb⟩ => ⟨(hsub i b hb).1, by rw [← Nat.blt_eq]; exact hchk.2.2⟩
  unfold liveB at hb
  simp only [Bool.and_eq_true] at hb
  have hvok : ∀ u ∈ vs, u.ok (Dm h) := fun u hu => avB_spec (List.all_eq_true.1 hb.1 u hu)
  have hcells : ∀ i b b0, hget h i = some b → b = bkBlk m b0 → cvals (rnm m ρ) b.cells = cvals ρ b0.cells := fun i b b0 h1 h2 => by
    have := (heapB_spec hb.2 i b h1).1
    subst h2
    exact bkCells_vals hDm this
  refine ⟨fun i => (getT s.t i).val ρ, ⟨?_, r.defers, fun v hv => ?_, ⟨fun i b hg => (heapB_spec hb.2 i b hg).1, fun i b hg h0 => ?_, fun i b hg h1 => ?_, fun i b hg => (heapB_spec hb.2 i b hg).2.1, fun i j hi hj he => ?_, fun i b hg h3 => ?_, fun i j b hi hg h3 => ?_⟩⟩, fun i ⟨b, hg⟩ => ?_⟩
  · rw [r.tmps]
    have h0 := mkFrom_map ρ ks s.t (fun i => (getT s.t i).val ρ) (fun _ => rfl) n 0 (by rw [l.len]; omega)
    simp only [List.drop_zero] at h0
    rw [mkT, ← h0]
    congr 1
    have key : ∀ n i, (mkFrom ks (pickT s.t ks) (fun i => (getT s.t i).val ρ) i n).map (AV.val ρ) = (mkFrom ks vs (fun i => (getT s.t i).val ρ) i n).map (AV.val (rnm m ρ)) := by
      intro n
      induction n with
      | zero => intro i; rfl
      | succ n ih =>
        intro i
        simp only [mkFrom, List.map_cons, ih]
        congr 1
        have hl := lkT_bk m ks (pickT s.t ks) i
        rw [l.pick] at hl
        cases hk : lkT ks (pickT s.t ks) i with
        | none => rw [hk] at hl; rw [hl]; rfl
        | some u =>
          rw [hk] at hl
          rw [hl]
          exact (bkAV_val hDm (hvok _ (lkT_mem hl))).symm
    exact key n 0
  · have key : ∀ n i, ∀ v ∈ mkFrom ks vs (fun i => (getT s.t i).val ρ) i n, v.ok (Dm h) := by
      intro n
      induction n with
      | zero => intro i v hv; cases hv
      | succ n ih =>
        intro i v hv
        simp only [mkFrom] at hv
        rcases List.mem_cons.1 hv with rfl | hv
        · cases hl : lkT ks vs i with
          | none => trivial
          | some u => exact hvok u (lkT_mem hl)
        · exact ih _ v hv
    exact key _ _ v hv
  · obtain ⟨h1, b0, h2, h3⟩ := hsub i b hg
    have h4 := r.mem.row _ b0 h2 (by subst h3; exact h0)
    rw [hcells i b b0 hg h3]
    subst h3
    exact h4
  · obtain ⟨h2, b0, h3, h4⟩ := hsub i b hg
    have hc := hcells i b b0 hg h4
    obtain ⟨⟨cur, g1, g2, g3, g4, g5, g6⟩, g7⟩ := r.mem.own _ b0 h3 (by subst h4; exact h1)
    have hn := nextB_spec hchk.2.1 i b h2 hg h1
    have hdn := (heapB_spec hb.2 i b hg).2.2 h1
    rw [Nat.zero_add] at hdn
    refine ⟨⟨cur, ?_, ?_, ?_, ?_, ?_, ?_⟩, hdn⟩
    · subst h4; exact g1
    · subst h4; simp only [rnm, hn]; exact g2
    · simp only [rnm, hn]; exact g3
    · simp only [rnm, hn]; exact g4
    · subst h4; simp only [bkBlk, bkCells_len]; exact g5
    · rw [hc]; subst h4; simp only [bkBlk, bkCells_len]; exact g6
  · obtain ⟨b, hg, hl⟩ := hi
    obtain ⟨c, hc, hl'⟩ := hj
    obtain ⟨h1, b0, h2, h3⟩ := hsub i b hg
    obtain ⟨k1, c0, k2, k3⟩ := hsub j c hc
    refine nodupB_spec hchk.1 i j h1 k1 (r.mem.inj _ _ ⟨b0, h2, ?_⟩ ⟨c0, k2, ?_⟩ he)
    · subst h3; exact hl
    · subst k3; exact hl'
  · obtain ⟨h1, b0, h2, h4⟩ := hsub i b hg
    obtain ⟨arr, fr, w1, w2, w3⟩ := r.mem.win _ b0 h2 (by subst h4; exact h3)
    have hc := hcells i b b0 hg h4
    exact ⟨arr, fr, by subst h4; exact w1, by rw [hc]; exact w2, by rw [hc]; subst h4; exact w3⟩
  · obtain ⟨c, hc, hl⟩ := hi
    obtain ⟨h1, b0, h2, h4⟩ := hsub j b hg
    obtain ⟨k1, c0, k2, k3⟩ := hsub i c hc
    exact r.mem.sep _ _ b0 ⟨c0, k2, by subst k3; exact hl⟩ h2 (by subst h4; exact h3)
  · obtain ⟨_, b0, h2, _⟩ := hsub i b hg
    exact ⟨b0, h2⟩

theorem StepR.rename {D : Nat → Prop} {ρ0 ρ : Ren} {w0 w : World} {h h' : Heap} {m : List Nat} (st : StepR D ρ0 w0 (Dm h) ρ w) (hD : ∀ i, D i → Dm h' i) (hfix : ∀ i, D i → nthN m i = i) (hs : ∀ i, Dm h' i → Dm h (nthN m i)) :
    StepR D ρ0 w0 (Dm h') (rnm m ρ) w where
  agree i hi := by simp only [rnm, hfix i hi]; exact st.agree i hi
  sub := hD
  size := st.size
  os := st.os
  tape := st.tape
  output := st.output
  keep := st.keep
  fresh i h1 h2 := by
    simp only [rnm]
    by_cases h3 : D (nthN m i)
    · exact .inr ⟨_, h3, st.agree _ h3⟩
    · exact st.fresh _ (hs i h1) h3

theorem AWqS.of_liveR {P : Program} {D : Nat → Prop} {l : List Code} {Q : Exit → AS → Prop} {m ks : List Nat} {vs : List AV} {n : Nat} {h : Heap} {s : AS} (hl : LiveR m ks vs n h s) (hb : liveB vs h = true) (hD : ∀ i, D i → Dm h i) (hfix : ∀ i, D i → nthN m i = i)
    (k : ∀ junk, AWqS P D l Q ⟨mkT ks vs n junk, h⟩) : AWqS P D l Q s := by
  cases l with
  | nil =>
    intro ρ0 w0 ρ a w r st
    obtain ⟨junk, r', hsub⟩ := hl.rel hb r
    exact k junk ρ0 w0 (rnm m ρ) a w r' (st.rename hD hfix hsub)
  | cons c l =>
    intro ρ0 w0 ρ a w r st
    obtain ⟨junk, r', hsub⟩ := hl.rel hb r
    exact k junk ρ0 w0 (rnm m ρ) a w r' (st.rename hD hfix hsub)

theorem AWq.of_liveR {P : Program} {D : Nat → Prop} {c : Code} {Q : Exit → AS → Prop} {m ks : List Nat} {vs : List AV} {n : Nat} {h : Heap} {s : AS} (hl : LiveR m ks vs n h s) (hb : liveB vs h = true) (hD : ∀ i, D i → Dm h i) (hfix : ∀ i, D i → nthN m i = i)
    (k : ∀ junk, AWq P D c Q ⟨mkT ks vs n junk, h⟩) : AWq P D c Q s := by
  intro ρ0 w0 ρ a w r st
  obtain ⟨junk, r', hsub⟩ := hl.rel hb r
  exact k junk ρ0 w0 (rnm m ρ) a w r' (st.rename hD hfix hsub)

/-- A loop in its block, by its live slots, its blocks named anew at the head of each round. -/
theorem AWq.liveLoopR {P : Program} {D : Nat → Prop} {id : Nat} {c : Code} {Q : Exit → AS → Prop} {ι : Type} (ks : List Nat) (n : Nat) (V : ι → List AV) (H : ι → Heap) (μ : ι → Nat) (hb : ∀ i, liveB (V i) (H i) = true) (hD : ∀ i j, D j → Dm (H i) j)
    (step : ∀ i junk, AWq P D c (fun e s' => match e with
      | .normal => ∃ j, μ j < μ i ∧ ∃ m, (∀ i, D i → nthN m i = i) ∧ LiveR m ks (V j) n (H j) s'
      | .exit b => if b = id then Q .normal s' else Q (.exit b) s'
      | e => Q e s') ⟨mkT ks (V i) n junk, H i⟩) (i : ι) {s : AS} (hs : ∃ m, (∀ i, D i → nthN m i = i) ∧ LiveR m ks (V i) n (H i) s) : AWq P D (.block id (.loop c)) Q s := by
  refine AWq.block (AWq.loop (fun i s => ∃ m, (∀ i, D i → nthN m i = i) ∧ LiveR m ks (V i) n (H i) s) μ (fun i s hs => ?_) i hs)
  obtain ⟨m, hf, hl⟩ := hs
  refine AWq.of_liveR hl (hb i) (hD i) hf fun junk => (step i junk).mono fun e s' q => ?_
  cases e <;> exact q

/-- The live slots and the blocks m of a state, as KK says. -/
def LKR (m : List Nat) (ks : List Nat) (n : Nat) (KK : List AV → Heap → Prop) (s : AS) : Prop :=
  Nat.beq s.t.length n = true ∧ chkB m (pickH m s.h m) = true ∧ KK (bkAVs m (pickT s.t ks)) (pickH m s.h m)
theorem LKR.live {m ks : List Nat} {n : Nat} {KK : List AV → Heap → Prop} {s : AS} (h : LKR m ks n KK s) {vs : List AV} {g : Heap} (hv : bkAVs m (pickT s.t ks) = vs) (hg : pickH m s.h m = g) : LiveR m ks vs n g s :=
  ⟨Nat.beq_eq.mp h.1, hv, hg, by rw [← hg]; exact h.2.1⟩

def RoundR {ι : Type} (id : Nat) (m me ks : List Nat) (n : Nat) (V : ι → List AV) (H : ι → Heap) (μ : ι → Nat) (i : ι) (E : ι → Prop) (Q : Exit → AS → Prop) : Exit → AS → Prop
  | .normal, s => LKR m ks n (fun vs h => ∃ j, μ j < μ i ∧ vs = V j ∧ h = H j) s
  | .exit b, s => match Nat.beq b id with
    | true => LKR me ks n (fun vs h => ∃ j, E j ∧ vs = V j ∧ h = H j) s
    | false => Q (.exit b) s
  | e, s => Q e s
def StartR {ι : Type} (m ks : List Nat) (n : Nat) (V : ι → List AV) (H : ι → Heap) (Q : Exit → AS → Prop) : Exit → AS → Prop
  | .normal, s => LKR m ks n (fun vs h => ∃ j, vs = V j ∧ h = H j) s
  | e, s => Q e s

/-- ms: the names ahead of the loop; m: at the end of a round; me: where the loop is left. -/
theorem loopSR {P : Program} {D : Nat → Prop} {pre post : List Code} {id : Nat} {c : Code} {Q : Exit → AS → Prop} {s0 : AS} {ι : Type} (ms m me ks : List Nat) (n : Nat) (V : ι → List AV) (H : ι → Heap) (μ : ι → Nat) (E : ι → Prop)
    (hb : ∀ i, liveB (V i) (H i) = true) (hD : ∀ i j, D j → Dm (H i) j) (hf : ∀ i, D i → nthN ms i = i ∧ nthN m i = i ∧ nthN me i = i)
    (start : AWqS P D pre (StartR ms ks n V H Q) s0)
    (step : ∀ i junk, AWq P D c (RoundR id m me ks n V H μ i E Q) ⟨mkT ks (V i) n junk, H i⟩)
    (fin : ∀ j junk, E j → AWqS P D post Q ⟨mkT ks (V j) n junk, H j⟩) :
    AWqS P D (pre ++ .block id (.loop c) :: post) Q s0 := by
  refine AWqS.app (start.mono fun e s q => ?_)
  cases e with
  | normal =>
    have q : LKR ms ks n (fun vs h => ∃ j, vs = V j ∧ h = H j) s := q
    obtain ⟨j, hv, hg⟩ := q.2.2
    have hl : LiveR ms ks (V j) n (H j) s := q.live hv hg
    show AWqS P D (.block id (.loop c) :: post) Q s
    refine AWq.liveLoopR (Q := fun e s' => match e with
      | .normal => AWqS P D post Q s'
      | e => Q e s') ks n V H μ hb hD (fun i junk => (step i junk).mono fun e s' q => ?_) j ⟨ms, fun i hi => (hf i hi).1, hl⟩
    cases e with
    | normal =>
      have q : LKR m ks n (fun vs h => ∃ k, μ k < μ _ ∧ vs = V k ∧ h = H k) s' := q
      obtain ⟨k, hk, hv, hg⟩ := q.2.2
      exact ⟨k, hk, m, fun i hi => (hf i hi).2.1, q.live hv hg⟩
    | exit b =>
      simp only [RoundR] at q
      split at q
      · rename_i hbe
        have : b = id := Nat.beq_eq.mp hbe
        simp only [this, if_true]
        obtain ⟨k, hk, hv, hg⟩ := q.2.2
        exact AWqS.of_liveR (q.live hv hg) (hb k) (hD k) (fun i hi => (hf i hi).2.2) fun junk => fin k junk hk
      · rename_i hbe
        have : b ≠ id := fun e => by rw [← Nat.beq_eq, hbe] at e; cases e
        simp only [this, if_false]
        exact q
    | _ => exact q
  | _ => exact q

theorem loopR {P : Program} {T : TT} {G : Ctx} {D : Nat → Prop} (hmx : P.follows .mixedOrders = true) (hT : TTOk P T) (hG : CtxOk P G) {l : List Code} (hl : hasL l = true) {Q : Exit → AS → Prop} {s0 : AS} {ι : Type} (ms m me ks : List Nat) (n : Nat) (V : ι → List AV) (H : ι → Heap) (μ : ι → Nat) (E : ι → Prop)
    (hb : ∀ i, liveB (V i) (H i) = true) (hD : ∀ i j, D j → Dm (H i) j) (hf : ∀ i, D i → nthN ms i = i ∧ nthN m i = i ∧ nthN me i = i) (fuel : Nat) (hs : List Hint)
    (start : evS P T G fuel (preL l) (fun e s _ => StartR ms ks n V H Q e s) s0 hs)
    (step : ∀ i junk, AWq P D (loopOf (atL l)) (RoundR (loopId (atL l)) m me ks n V H μ i E Q) ⟨mkT ks (V i) n junk, H i⟩)
    (fin : ∀ j junk, E j → AWqS P D (postL l) Q ⟨mkT ks (V j) n junk, H j⟩) :
    AWqS P D l Q s0 := by
  rw [splitL hl]
  exact loopSR ms m me ks n V H μ E hb hD hf ((evS_q hmx hT hG fuel hs start).mono fun e s q => q) step fin
end Go.Rq
