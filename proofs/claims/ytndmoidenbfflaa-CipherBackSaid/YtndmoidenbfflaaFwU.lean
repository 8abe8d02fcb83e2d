/- Slices that are read, of whatever memory; a slice's length is at most its capacity (FwZ with that said). -/
import Derived.Test.YtndmoidenbfflaaFwY
namespace Go.Rq
open Go

abbrev emS (o : Option Addr) : AV := .v1 (.sc (.rw (.slice o 0 0)))
abbrev nilS : AV := emS none
abbrev WrapV := Array Value × (Nat × Nat)
abbrev wB (t off N : Nat) (f : Nat → Nat) (v : WrapV) : Option Blk := some ⟨t, [.ws .u8 N f, .one (.rw (wrapB v.1 v.2))], 3, off⟩

/-- A slice of bytes that can be read: how many, which, and what is asked. -/
def vw (h : Heap) : AV → Option (Nat × (Nat → Nat) × List Prop)
  | .v1 (.sc (.rw (.slice _ 0 0))) => some (0, fun _ => 0, [])
  | .v1 (.sc (.sl b off n c)) => match hget h b with
    | some ⟨_, [.ws .u8 N f], 0, _⟩ => some (n, fun j => f (addN off j), [off + n ≤ N, n ≤ c])
    | some ⟨_, [.ws .u8 N f, .one (.rw _)], 3, hi⟩ => some (n, fun j => f ((off - hi) + j), [hi ≤ off, (off - hi) + n ≤ N, n ≤ c])
    | _ => none
  | .v1 (.sc (.so b n)) => match hget h b with
    | some ⟨_, [.ws .u8 N f], 1, 1⟩ => some (n, f, [n ≤ N])
    | _ => none
  | .v1 (.sc (.sv b off n)) => match hget h b with
    | some ⟨_, [.ws .u8 N f], 1, 1⟩ => some (n, fun j => f (addN off j), [off + n ≤ N])
    | _ => none
  | _ => none

/-- The same, to its capacity. -/
def vwc (h : Heap) : AV → Option (Nat × Nat × (Nat → Nat) × List Prop)
  | .v1 (.sc (.sl b off n c)) => match hget h b with
    | some ⟨_, [.ws .u8 N f], 0, _⟩ => some (n, c, fun j => f (addN off j), [off + c ≤ N])
    | some ⟨_, [.ws .u8 N f, .one (.rw _)], 3, hi⟩ => some (n, c, fun j => f ((off - hi) + j), [hi ≤ off, (off - hi) + c ≤ N])
    | _ => none
  | _ => none

theorem vw_local {x : AV} {h : Heap} {slot : Nat} {blk : Blk} (hs : isHole h slot = true) (ha : x.ok (Dm h)) : vw (hset h slot blk) x = vw h x := by
  have hne : ∀ b, Dm h b → b ≠ slot := fun b ⟨c, hc⟩ e => by
    rw [e, (isHole_lt hs).2] at hc; cases hc
  cases x with
  | v1 v =>
    cases v with
    | agg cs => rfl
    | sc s =>
      cases s with
      | sl b off n c => simp only [vw]; rw [hget_hset_ne (hne b ha)]
      | so b n => simp only [vw]; rw [hget_hset_ne (hne b ha.1)]
      | sv b o n => simp only [vw]; rw [hget_hset_ne (hne b ha.1)]
      | rw v => unfold vw; split <;> first | rfl | simp_all
      | _ => rfl
  | _ => rfl

theorem vwc_local {x : AV} {h : Heap} {slot : Nat} {blk : Blk} (hs : isHole h slot = true) (ha : x.ok (Dm h)) : vwc (hset h slot blk) x = vwc h x := by
  have hne : ∀ b, Dm h b → b ≠ slot := fun b ⟨c, hc⟩ e => by
    rw [e, (isHole_lt hs).2] at hc; cases hc
  cases x with
  | v1 v =>
    cases v with
    | agg cs => rfl
    | sc s =>
      cases s with
      | sl b off n c => simp only [vwc]; rw [hget_hset_ne (hne b ha)]
      | rw v => unfold vwc; split <;> first | rfl | simp_all
      | _ => rfl
  | _ => rfl

/-- Where a slice lies, and what it holds. -/
structure WinD where
  B : Nat
  t : TypeId
  off : Nat
  n : Nat
  cap : Nat
  N : Nat
  f : Nat → Nat
  arr : Array Value
  fr : Nat × Nat
def WinD.blk (d : WinD) : Option Blk := wB d.t d.off d.N d.f (d.arr, d.fr)
def WinD.val (d : WinD) : Value := .slice (some ⟨d.B, d.off, none⟩) d.n d.cap
structure WinD.Good (d : WinD) (w : World) : Prop where
  row : w.heap[d.B]? = some (.cells d.arr d.t d.fr)
  cells : ∀ j, j < d.N → d.arr[d.off + j]? = some (.int .u8 (Int.ofNat (d.f j % 256)))

theorem vals_ws8 (ρ : Ren) (N : Nat) (f : Nat → Nat) (r : List Cell) {j : Nat} (hj : j < N) : (cvals ρ (.ws .u8 N f :: r))[j]? = some (.int .u8 (Int.ofNat (f j % 256))) := by
  simp only [cvals, Cell.vals, M]
  rw [List.getElem?_append_left (by simpa using hj)]
  simp [hj]

/-- What is known of an argument: a plain one; a slice of so many bytes; one to its capacity. -/
inductive Sh where
  | pl (v : AV)
  | vs (n : Nat) (f : Nat → Nat)
  | vc (n c : Nat) (f : Nat → Nat)
def Sh.Sem (w : World) (R : Nat → Prop) : Sh → Value → Prop
  | .pl v, x => vokB v = true ∧ x = v.val fun _ => 0
  | .vs n f, x => (n = 0 ∧ ∃ o, x = .slice o 0 0) ∨ ∃ d : WinD, d.Good w ∧ R d.B ∧ d.n = n ∧ d.N = n ∧ d.f = f ∧ n ≤ d.cap ∧ x = d.val
  | .vc n c f, x => ∃ d : WinD, d.Good w ∧ R d.B ∧ d.n = n ∧ d.N = c ∧ d.cap = c ∧ d.f = f ∧ x = d.val
def Sems (w : World) (R : Nat → Prop) : List Sh → List Value → Prop
  | [], [] => True
  | a :: r, x :: s => a.Sem w R x ∧ Sems w R r s
  | _, _ => False

/-- A block's cells from an offset on. -/
theorem blk_good {ρ : Ren} {h : Heap} {w : World} (hr : RelH ρ h w) {b : Nat} {blk : Blk} (hb : hget h b = some blk) :
    (∀ t N g hi off n c, blk = ⟨t, [.ws .u8 N g], 0, hi⟩ → off + n ≤ N → ∀ m, WinD.Good ⟨ρ b, t, off, m, c, n, fun j => g (addN off j), (cvals ρ [.ws .u8 N g]).toArray, (0, hi)⟩ w) ∧
    (∀ t N g v hi off n c, blk = ⟨t, [.ws .u8 N g, .one (.rw v)], 3, hi⟩ → hi ≤ off → (off - hi) + n ≤ N → ∀ m, ∃ arr fr, WinD.Good ⟨ρ b, t, off, m, c, n, fun j => g ((off - hi) + j), arr, fr⟩ w) ∧
    (∀ t N g n c, blk = ⟨t, [.ws .u8 N g], 1, 1⟩ → n ≤ N → ∀ m, ∃ arr fr, WinD.Good ⟨ρ b, t, 0, m, c, n, g, arr, fr⟩ w) := by
  refine ⟨fun t N g hi off n c e hle m => ?_, fun t N g v hi off n c e h1 h2 m => ?_, fun t N g n c e hle m => ?_⟩
  · subst e
    refine ⟨hr.row b _ hb rfl, fun j hj => ?_⟩
    have hj : j < n := hj
    show (cvals ρ [.ws .u8 N g]).toArray[off + j]? = _
    rw [List.getElem?_toArray, vals_ws8 ρ N g [] (by omega)]
    simp only [addN_eq]
  · subst e
    obtain ⟨arr, fr, w1, w2, w3⟩ := hr.win b _ hb rfl
    refine ⟨arr, fr, w1, fun j hj => ?_⟩
    have hj : j < n := hj
    have h3 := w3 ((off - hi) + j) (by simp [cvals, Cell.vals]; omega)
    rw [vals_ws8 ρ N g _ (by omega)] at h3
    rw [show off + j = hi + (off - hi + j) by omega]
    exact h3
  · subst e
    obtain ⟨⟨cur, g1, g2, g3, g4, g5, g6⟩, _⟩ := hr.own b _ hb rfl
    refine ⟨cur, (0, 0), g1, fun j hj => ?_⟩
    have hj : j < n := hj
    have h3 := vals_ws8 ρ N g [] (show j < N by omega)
    rw [← g6] at h3
    rw [List.getElem?_take_of_lt (by simp [clen, Cell.len]; omega)] at h3
    rw [Nat.zero_add, ← Array.getElem?_toList]
    exact h3

theorem vw_sem {ρ : Ren} {h : Heap} {w : World} (hr : RelH ρ h w) {x : AV} {n : Nat} {f : Nat → Nat} {pre : List Prop} (e : vw h x = some (n, f, pre)) (hp : ∀ p ∈ pre, p) :
    (Sh.vs n f).Sem w (fun B => ∃ i, Dm h i ∧ B = ρ i) (x.val ρ) := by
  unfold vw at e
  split at e
  · cases e; exact .inl ⟨rfl, _, rfl⟩
  · rename_i b off n' c
    split at e
    · rename_i t N g hi hb
      cases e
      exact .inr ⟨_, (blk_good hr hb).1 t N g hi off n c rfl (hp _ (List.mem_cons_self ..)) n, ⟨b, ⟨_, hb⟩, rfl⟩, rfl, rfl, rfl, hp _ (List.mem_cons_of_mem _ (List.mem_cons_self ..)), rfl⟩
    · rename_i t N g v hi hb
      cases e
      obtain ⟨arr, fr, hd⟩ := (blk_good hr hb).2.1 t N g v hi off n c rfl (hp _ (List.mem_cons_self ..)) (hp _ (List.mem_cons_of_mem _ (List.mem_cons_self ..))) n
      exact .inr ⟨_, hd, ⟨b, ⟨_, hb⟩, rfl⟩, rfl, rfl, rfl, hp _ (List.mem_cons_of_mem _ (List.mem_cons_of_mem _ (List.mem_cons_self ..))), rfl⟩
    · cases e
  · rename_i b n'
    split at e
    · rename_i t N g hb
      cases e
      obtain ⟨arr, fr, hd⟩ := (blk_good hr hb).2.2 t N _ n (ρ (b + 1) - ρ b) rfl (hp _ (List.mem_cons_self ..)) n
      have hle : n ≤ ρ (b + 1) - ρ b := by
        obtain ⟨⟨cur, g1, g2, g3, g4, g5, g6⟩, _⟩ := hr.own b _ hb rfl
        have h1 : n ≤ N := hp _ (List.mem_cons_self ..)
        have h2 : N ≤ cur.size := by simpa [clen, Cell.len] using g5
        have h3 : cur.size = ρ (b + 1) - ρ b := by rw [g2]; exact Nat.mul_one _
        omega
      exact .inr ⟨_, hd, ⟨b, ⟨_, hb⟩, rfl⟩, rfl, rfl, rfl, hle, rfl⟩
    · cases e
  · rename_i b off n'
    split at e
    · rename_i t N g hb
      cases e
      have h1 : off + n ≤ N := hp _ (List.mem_cons_self ..)
      obtain ⟨⟨cur, g1, g2, g3, g4, g5, g6⟩, _⟩ := hr.own b _ hb rfl
      have h2 : N ≤ cur.size := by simpa [clen, Cell.len] using g5
      have h3 : cur.size = ρ (b + 1) - ρ b := by rw [g2]; exact Nat.mul_one _
      have hd : WinD.Good ⟨ρ b, t, off, n, ρ (b + 1) - ρ b - off, n, fun j => g (addN off j), cur, (0, 0)⟩ w := by
        refine ⟨g1, fun j hj => ?_⟩
        have hj : j < n := hj
        have h4 := vals_ws8 ρ N g [] (show off + j < N by omega)
        rw [← g6] at h4
        rw [List.getElem?_take_of_lt (by simp [clen, Cell.len]; omega)] at h4
        rw [← Array.getElem?_toList]
        simp only [addN_eq]
        exact h4
      exact .inr ⟨_, hd, ⟨b, ⟨_, hb⟩, rfl⟩, rfl, rfl, rfl, by show n ≤ ρ (b + 1) - ρ b - off; omega, rfl⟩
    · cases e
  · cases e
theorem vwc_sem {ρ : Ren} {h : Heap} {w : World} (hr : RelH ρ h w) {x : AV} {n c : Nat} {f : Nat → Nat} {pre : List Prop} (e : vwc h x = some (n, c, f, pre)) (hp : ∀ p ∈ pre, p) :
    (Sh.vc n c f).Sem w (fun B => ∃ i, Dm h i ∧ B = ρ i) (x.val ρ) := by
  unfold vwc at e
  split at e
  · rename_i b off n' c'
    split at e
    · rename_i t N g hi hb
      cases e
      exact ⟨_, (blk_good hr hb).1 t N g hi off c c rfl (hp _ (List.mem_cons_self ..)) n, ⟨b, ⟨_, hb⟩, rfl⟩, rfl, rfl, rfl, rfl, rfl⟩
    · rename_i t N g v hi hb
      cases e
      obtain ⟨arr, fr, hd⟩ := (blk_good hr hb).2.1 t N g v hi off c c rfl (hp _ (List.mem_cons_self ..)) (hp _ (List.mem_cons_of_mem _ (List.mem_cons_self ..))) n
      exact ⟨_, hd, ⟨b, ⟨_, hb⟩, rfl⟩, rfl, rfl, rfl, rfl, rfl⟩
    · cases e
  · cases e

/-- The windows. -/
def winH (l : List WinD) : Heap := l.map WinD.blk
theorem hget_winH : ∀ {l : List WinD} {i : Nat} {b : Blk}, hget (winH l) i = some b → ∃ d, d ∈ l ∧ nthN (l.map (·.B)) i = d.B ∧ some b = d.blk
  | [], _, _, h => by simp [winH, hget] at h
  | d :: _, 0, _, h => ⟨d, List.mem_cons_self .., rfl, by simpa [winH, hget] using h.symm⟩
  | _ :: r, i + 1, _, h => by
    obtain ⟨d, h1, h2, h3⟩ := hget_winH (l := r) (i := i) (by simpa [winH, hget] using h)
    exact ⟨d, List.mem_cons_of_mem _ h1, h2, h3⟩
theorem dm_winH : ∀ {l : List WinD} {i : Nat}, i < l.length → Dm (winH l) i
  | d :: _, 0, _ => ⟨_, rfl⟩
  | _ :: r, i + 1, h => by
    obtain ⟨b, hb⟩ := dm_winH (l := r) (i := i) (by simpa using h)
    exact ⟨b, hb⟩
theorem RelH.wins {w : World} {l : List WinD} (h : ∀ d ∈ l, d.Good w) : RelH (nthN (l.map (·.B))) (winH l) w := by
  have h3 : ∀ i b, hget (winH l) i = some b → b.lo = 3 := fun i b hb => by
    obtain ⟨d, _, _, e⟩ := hget_winH hb
    cases e; rfl
  refine ⟨fun i b hb => ?_, fun i b hb h0 => ?_, fun i b hb h1 => ?_, fun i b hb => ?_, fun i j hi => ?_, fun i b hb _ => ?_, fun i j b hi => ?_⟩
  · obtain ⟨d, _, _, e⟩ := hget_winH hb
    cases e
    intro c hc
    rcases List.mem_cons.1 hc with rfl | hc
    · trivial
    · rcases List.mem_cons.1 hc with rfl | hc
      · rfl
      · cases hc
  · have := h3 i b hb; omega
  · have := h3 i b hb; omega
  · have := h3 i b hb; omega
  · obtain ⟨b, hb, hl⟩ := hi
    have := h3 i b hb; omega
  · obtain ⟨d, hd, e1, e⟩ := hget_winH hb
    cases e
    have hg := h d hd
    refine ⟨d.arr, d.fr, by rw [e1]; exact hg.row, ?_, fun j hj => ?_⟩
    · simp [cvals, Cell.vals, Sc.val]
    · have hj : j < d.N := by simpa [cvals, Cell.vals] using hj
      rw [vals_ws8 _ d.N d.f _ hj]
      exact hg.cells j hj
  · obtain ⟨b, hb, hl⟩ := hi
    have := h3 i b hb; omega

/-- How the arguments are seen: as windows, or nil. -/
inductive Inst : List Sh → Nat → List AV → Heap → Prop
  | nil {k : Nat} : Inst [] k [] []
  | pl {v : AV} {r : List Sh} {k : Nat} {a : List AV} {W : Heap} : Inst r k a W → Inst (.pl v :: r) k (v :: a) W
  | vn {n : Nat} {f : Nat → Nat} {r : List Sh} {k : Nat} {a : List AV} {W : Heap} (o : Option Addr) : n = 0 → Inst r k a W → Inst (.vs n f :: r) k (emS o :: a) W
  | vv {n : Nat} {f : Nat → Nat} {r : List Sh} {k : Nat} {a : List AV} {W : Heap} (t off c : Nat) (v : WrapV) : n ≤ c → Inst r (k + 1) a W → Inst (.vs n f :: r) k (.v1 (.sc (.sl k off n c)) :: a) (wB t off n f v :: W)
  | cv {n c : Nat} {f : Nat → Nat} {r : List Sh} {k : Nat} {a : List AV} {W : Heap} (t off : Nat) (v : WrapV) : Inst r (k + 1) a W → Inst (.vc n c f :: r) k (.v1 (.sc (.sl k off n c)) :: a) (wB t off c f v :: W)

theorem inst_of {w : World} {R : Nat → Prop} : ∀ {l : List Sh} {xs : List Value}, Sems w R l xs → ∀ k, ∃ a ds, Inst l k a (winH ds) ∧ (∀ d ∈ ds, d.Good w ∧ R d.B) ∧ (∀ x ∈ a, x.ok (fun i => k ≤ i ∧ i < k + ds.length)) ∧
    ∀ σ : Ren, (∀ j, j < ds.length → σ (k + j) = nthN (ds.map (·.B)) j) → a.map (AV.val σ) = xs
  | [], [], _, k => ⟨[], [], .nil, fun d hd => (by cases hd), fun x hx => (by cases hx), fun _ _ => rfl⟩
  | [], _ :: _, h, k => h.elim
  | _ :: _, [], h, k => h.elim
  | a0 :: r, x0 :: xs, hg, k => by
    have one : ∀ (a : List AV) (ds : List WinD) (d : WinD), (∀ d ∈ ds, d.Good w ∧ R d.B) → d.Good w → R d.B → (∀ x ∈ a, x.ok (fun i => k + 1 ≤ i ∧ i < k + 1 + ds.length)) →
        (∀ σ : Ren, (∀ j, j < ds.length → σ (k + 1 + j) = nthN (ds.map (·.B)) j) → a.map (AV.val σ) = xs) →
        (∀ e ∈ d :: ds, e.Good w ∧ R e.B) ∧ (∀ x ∈ (AV.v1 (.sc (.sl k d.off d.n d.cap)) :: a), x.ok (fun i => k ≤ i ∧ i < k + (d :: ds).length)) ∧
        ∀ σ : Ren, (∀ j, j < (d :: ds).length → σ (k + j) = nthN ((d :: ds).map (·.B)) j) → (AV.v1 (.sc (.sl k d.off d.n d.cap)) :: a).map (AV.val σ) = d.val :: xs := by
      intro a ds d h2 hd hR h3 h4
      refine ⟨fun e he => ?_, fun x hx => ?_, fun σ hσ => ?_⟩
      · rcases List.mem_cons.1 he with rfl | he
        · exact ⟨hd, hR⟩
        · exact h2 e he
      · rcases List.mem_cons.1 hx with rfl | hx
        · exact ⟨Nat.le_refl _, by simp⟩
        · exact AV.ok_mono (fun i hi => ⟨by omega, by simp only [List.length_cons]; omega⟩) (h3 x hx)
      · simp only [List.map_cons]
        rw [h4 σ fun j hj => by
          have := hσ (j + 1) (by simpa using hj)
          rw [show k + 1 + j = k + (j + 1) by omega, this]; rfl]
        have := hσ 0 (by simp)
        rw [Nat.add_zero] at this
        simp only [AV.val, V1.val, Sc.val, WinD.val, this, List.map_cons, nthN]
    cases a0 with
    | pl v =>
      obtain ⟨a, ds, h1, h2, h3, h4⟩ := inst_of (l := r) (xs := xs) hg.2 k
      obtain ⟨hv, rfl⟩ := hg.1
      refine ⟨v :: a, ds, .pl h1, h2, fun x hx => ?_, fun σ hσ => ?_⟩
      · rcases List.mem_cons.1 hx with rfl | hx
        · exact AV.ok_mono (fun _ h => h.elim) (vok_of hv)
        · exact h3 x hx
      · simp only [List.map_cons]
        rw [h4 σ hσ, AV.val_agree (D := fun _ => False) (ρ := fun _ => 0) (ρ' := σ) (fun _ h => h.elim) (vok_of hv)]
    | vs n f =>
      rcases hg.1 with ⟨rfl, o, rfl⟩ | ⟨d, hd, hR, rfl, hN, rfl, hcap, rfl⟩
      · obtain ⟨a, ds, h1, h2, h3, h4⟩ := inst_of (l := r) (xs := xs) hg.2 k
        refine ⟨emS o :: a, ds, .vn o rfl h1, h2, fun x hx => ?_, fun σ hσ => ?_⟩
        · rcases List.mem_cons.1 hx with rfl | hx
          · rfl
          · exact h3 x hx
        · simp only [List.map_cons]
          rw [h4 σ hσ]; rfl
      · obtain ⟨a, ds, h1, h2, h3, h4⟩ := inst_of (l := r) (xs := xs) hg.2 (k + 1)
        obtain ⟨k1, k2, k3⟩ := one a ds d h2 hd hR h3 h4
        refine ⟨_, d :: ds, ?_, k1, k2, k3⟩
        have := Inst.vv (n := d.n) (f := d.f) d.t d.off d.cap (d.arr, d.fr) hcap h1
        rw [← hN] at this ⊢
        simp only [winH, List.map_cons, WinD.blk]
        rw [hN] at this ⊢
        exact this
    | vc n c f =>
      obtain ⟨d, hd, hR, rfl, hN, hc, rfl, rfl⟩ := hg.1
      obtain ⟨a, ds, h1, h2, h3, h4⟩ := inst_of (l := r) (xs := xs) hg.2 (k + 1)
      obtain ⟨k1, k2, k3⟩ := one a ds d h2 hd hR h3 h4
      refine ⟨_, d :: ds, ?_, k1, k2, k3⟩
      have := Inst.cv (n := d.n) (c := c) (f := d.f) d.t d.off (d.arr, d.fr) h1
      simp only [winH, List.map_cons, WinD.blk]
      rw [hN, hc]
      exact this

/-- An argument of a call: what is known of it holds. -/
def VaOk (h : Heap) : Sh → AV → Prop
  | .pl v, x => x = v ∧ vokB v = true
  | .vs n f, x => ∃ pre, vw h x = some (n, f, pre) ∧ ∀ p ∈ pre, p
  | .vc n c f, x => ∃ pre, vwc h x = some (n, c, f, pre) ∧ ∀ p ∈ pre, p
def VasOk (h : Heap) : List Sh → List AV → Prop
  | [], [] => True
  | a :: r, x :: s => VaOk h a x ∧ VasOk h r s
  | _, _ => False
theorem sems_of {ρ : Ren} {h : Heap} {w : World} (hr : RelH ρ h w) : ∀ {l : List Sh} {xs : List AV}, VasOk h l xs → Sems w (fun B => ∃ i, Dm h i ∧ B = ρ i) l (xs.map (AV.val ρ))
  | [], [], _ => trivial
  | [], _ :: _, h => h.elim
  | _ :: _, [], h => h.elim
  | a :: r, x :: s, h => by
    refine ⟨?_, sems_of hr h.2⟩
    have h1 := h.1
    cases a with
    | pl v => obtain ⟨rfl, hv⟩ := h1; exact ⟨hv, AV.val_agree (D := fun _ => False) (ρ := fun _ => 0) (ρ' := ρ) (fun _ h => h.elim) (vok_of hv)⟩
    | vs n f => obtain ⟨pre, e, hp⟩ := h1; exact vw_sem hr e hp
    | vc n c f => obtain ⟨pre, e, hp⟩ := h1; exact vwc_sem hr e hp

/-- **A function that reads slices, and hands back the new blocks Bo**: off its walks over windows. -/
theorem views_call {P : Program} {T : TT} (hT : TTOk P T) {f : FuncId} {fn : Func} (hf : P.funcs[f]? = some fn) (hb : fn.body = some (bodyOf fn)) (hn : (fn.name == "runtime.NumGoroutine") = false)
    (l : List Sh) {args : List AV} {h : Heap} (hg : VasOk h l args) (slot : Nat) (Bo : List Blk) (V0 : AV)
    (hBo : Bo.all (fun b => plainCs b.cells && Nat.blt b.lo 3) = true) (hBo2 : heapB (Bo.map some) 0 (Bo.map some) = true) (hV : avB (Bo.map some) V0 = true)
    (hho : ∀ t, t < Bo.length → isHole h (slot + t) = true)
    (hwalk : ∀ a W, Inst l 0 a W → ∃ outs : List Nat, outs.length = Bo.length ∧ AWqS P (Dm W) (flatC (bodyOf fn)) (FEndM T fn (upto 0 W.length ++ outs) (mvAV W.length V0) (W ++ Bo.map some)) ⟨frame0 a fn.ntmps, W⟩) :
    CallOk P f args h (mvAV slot V0) (fillH h slot Bo) := by
  intro ρ w hr _ o a next Q hnext
  obtain ⟨a', ds, h1, h2, h3, h4⟩ := inst_of (sems_of hr hg) 0
  obtain ⟨outs, h5, h6⟩ := hwalk a' (winH ds) h1
  have hlen : (winH ds).length = ds.length := by simp [winH]
  refine view_core hT hf hb hn outs slot Bo V0 hr (RelH.wins fun d hd => (h2 d hd).1) (fun i b hb => ?_) (fun i hi => dm_winH (by omega)) (fun j hj => ?_)
    (h4 _ fun j hj => by rw [Nat.zero_add]) (fun x hx => AV.ok_mono (fun i hi => dm_winH (by omega)) (h3 x hx)) hBo hBo2 hV h5 hho h6 o a next Q hnext
  · obtain ⟨d, _, _, e⟩ := hget_winH hb
    cases e; exact .inl rfl
  · obtain ⟨b, hb⟩ := hj
    obtain ⟨d, hd, e1, _⟩ := hget_winH hb
    obtain ⟨i, hi, e2⟩ := (h2 d hd).2
    exact ⟨i, hi, by rw [e1, e2]⟩

/-- A contract that only makes new blocks. -/
theorem new_of {P : Program} {f : FuncId} {C : List AV → Heap → Nat → Option (List Prop × AV × Heap)} (h : (CallC.mem C).Ok P f)
    (hk : ∀ args h slot pre v h', C args h slot = some (pre, v, h') → ∀ i, Dm h i → hget h' i = hget h i) : (CallC.new C).Ok P f := ⟨h, hk⟩
theorem keep_hset {h : Heap} {s i : Nat} {b : Blk} (hs : isHole h s = true) (hi : Dm h i) : hget (hset h s b) i = hget h i :=
  hget_hset_ne fun e => by
    obtain ⟨c, hc⟩ := hi
    rw [e, (isHole_lt hs).2] at hc; cases hc
theorem keep_hset2 {h : Heap} {s i : Nat} {b c : Blk} (hs : isHole h s = true) (hs2 : isHole h (s + 1) = true) (hi : Dm h i) : hget (hset (hset h s b) (s + 1) c) i = hget h i := by
  have e := keep_hset (b := b) hs hi
  rw [hget_hset_ne fun e2 => by
    obtain ⟨c, hc⟩ := hi
    rw [e2, (isHole_lt hs2).2] at hc; cases hc]
  exact e

/-- A law's run, whose slices lie in the world. -/
theorem views_calls {P : Program} {T : TT} (hT : TTOk P T) {f : FuncId} {fn : Func} (hf : P.funcs[f]? = some fn) (hb : fn.body = some (bodyOf fn))
    (l : List Sh) {xs : List Value} {w : World} (hs : Sems w (fun _ => True) l xs) {v : AV} (hv : vokB v = true)
    (h : ∀ a W, Inst l 0 a W → AWqS P (Dm W) (flatC (bodyOf fn)) (fun e s => FEndM T fn (upto 0 W.length) v W e s) ⟨frame0 a fn.ntmps, W⟩) :
    Calls P f xs.toArray w (fun e w' => e = .returned (v.val fun _ => 0) ∧ StepW w w') := by
  obtain ⟨a', ds, h1, h2, h3, h4⟩ := inst_of hs 0
  have hwalk := h a' (winH ds) h1
  have hav := h4 (nthN (ds.map (·.B))) fun j hj => by rw [Nat.zero_add]
  have hlen : (winH ds).length = ds.length := by simp [winH]
  refine calls_of_wp hf hb ?_
  have hrel : Rel (nthN (ds.map (·.B))) ⟨frame0 a' fn.ntmps, winH ds⟩ { tmps := xs.toArray ++ Array.replicate (fn.ntmps - xs.toArray.size) undef, defers := [] } w := by
    refine ⟨?_, rfl, fun x hx => ?_, RelH.wins fun d hd => (h2 d hd).1⟩
    · have hl : a'.length = xs.length := by have := congrArg List.length hav; simpa using this
      apply Array.ext'
      simp [frame0, hav, hl, undefA, AV.val, undef]
    · unfold frame0 at hx
      rcases List.mem_append.1 hx with hx | hx
      · exact AV.ok_mono (fun i hi => dm_winH (by omega)) (h3 x hx)
      · have := (List.mem_replicate.1 hx).2
        subst this
        intro v hv; cases hv
  refine wp_mono (AWq.of_flat _ hwalk _ w _ _ w hrel (StepR.refl _ _ _)) fun e a2 w' ⟨s', ρ', q, r', st⟩ => ?_
  have fin : (chkB (upto 0 (winH ds).length) (pickH (upto 0 (winH ds).length) s'.h (upto 0 (winH ds).length)) = true ∧ heapB (pickH (upto 0 (winH ds).length) s'.h (upto 0 (winH ds).length)) 0 (pickH (upto 0 (winH ds).length) s'.h (upto 0 (winH ds).length)) = true ∧
      SimH (pickH (upto 0 (winH ds).length) s'.h (upto 0 (winH ds).length)) (winH ds) ∧ ∃ v', resA T s' fn.results.toList = some v' ∧ avB (pickH (upto 0 (winH ds).length) s'.h (upto 0 (winH ds).length)) (bkAV (upto 0 (winH ds).length) v') = true ∧ ∀ ρ, (bkAV (upto 0 (winH ds).length) v').val ρ = v.val ρ) →
      a2.defers = [] ∧ ∃ u, (results fn a2.tmps).run P w' = .ok u w' ∧ (Ending.returned u = .returned (v.val fun _ => 0) ∧ StepW w w') := by
    intro ⟨q1, q1b, q2, v', q3, q3b, q4⟩
    have hres := resA_run hT r' (fn := fn) q3
    generalize hmc : upto 0 (winH ds).length = mc at q1 q1b q2 q3b q4
    obtain ⟨rK0, _⟩ := r'.mem.view rfl q1 q1b
    have hmclen : mc.length = (winH ds).length := by rw [← hmc, length_upto]
    unfold chkB at q1
    simp only [Bool.and_eq_true] at q1
    have hD1 : ∀ i, Dm (pickH mc s'.h mc) i → i < mc.length ∧ mc.length < 1000000 := fun i ⟨b, hg⟩ => ⟨(hget_pickH hg).1, by rw [← Nat.blt_eq]; exact q1.2.2⟩
    have hmcW : ∀ i, i < (winH ds).length → rnm mc ρ' i = nthN (ds.map (·.B)) i := fun i hi => by
      simp only [rnm]
      rw [← hmc, nthN_upto hi, Nat.zero_add]
      exact st.agree i (dm_winH (by omega))
    have hkeep : ∀ B, B < w.heap.size → w'.heap[B]? = w.heap[B]? := fun B hB => by
      by_cases hex : ∃ j, Dm (winH ds) j ∧ nthN (ds.map (·.B)) j = B
      · obtain ⟨j, ⟨b, hj⟩, e⟩ := hex
        obtain ⟨d, hd, ed, eb⟩ := hget_winH hj
        have hjl := hget_lt hj
        obtain ⟨b0, hb0, ht, hlo, hhi, hcv⟩ := q2.at hj
        cases eb
        obtain ⟨arr', fr', b1, b2, _⟩ := rK0.win j b0 hb0 (by rw [hlo])
        rw [hmcW j hjl, e, ht] at b1
        rw [hcv] at b2
        have b3 : (cvals (rnm mc ρ') [.ws .u8 d.N d.f, .one (.rw (wrapB d.arr d.fr))]).getLast? = some (wrapB d.arr d.fr) := by simp [cvals, Cell.vals, Sc.val]
        rw [b3] at b2
        have e3 := wrapB_inj (Option.some.inj b2)
        have a1 := (h2 d hd).1.row
        rw [← ed, e] at a1
        rw [a1, b1, e3.1, e3.2]
      · exact st.keep B hB fun j hj e => hex ⟨j, hj, e⟩
    refine ⟨r'.defers, _, hres.1, ?_, ⟨st.os, st.output, st.size, hkeep⟩⟩
    rw [← bkAV_val (ρ := ρ') hD1 (avB_spec q3b), q4, val_ok_any (vok_of hv) _ fun _ => 0]
  cases e with
  | normal => exact fin q
  | ret => exact fin q
  | exit j => exact q.elim
  | goto l => exact q.elim
  | panic ch => exact q.elim
  | outgrown => exact q.elim
end Go.Rq
