/- What a key, a nonce and texts are refused for: wrong of both sides. Printed by genc13.py. -/
import Derived.Test.YtndmoidenbfflaaC12
namespace Go.Proofs.Ytndmoidenbfflaa
open Go.Rq Go
set_option linter.unusedVariables false
set_option linter.unusedSimpArgs false
set_option maxRecDepth 100000
def slS : Sc → Option Nat
  | .rw (.slice _ n _) => some n
  | .sl _ _ n _ => some n
  | .so _ n => some n
  | _ => none
def slA : AV → Option Nat
  | .v1 (.sc s) => slS s
  | _ => none
theorem slS_val {s : Sc} {n : Nat} (h : slS s = some n) (ρ : Ren) : ∃ a c, s.val ρ = .slice a n c := by
  unfold slS at h
  split at h
  · cases h; exact ⟨_, _, rfl⟩
  · cases h; exact ⟨_, _, rfl⟩
  · cases h; exact ⟨_, _, rfl⟩
  · cases h
theorem slA_val {x : AV} {n : Nat} (h : slA x = some n) (ρ : Ren) : ∃ a c, x.val ρ = .slice a n c := by
  unfold slA at h
  split at h
  · exact slS_val h ρ
  · cases h
abbrev rs (a : Option Addr) (n c : Nat) : AV := .v1 (.sc (.rw (.slice a n c)))
abbrev rsB (t hi : Nat) (l : List Value) : Option Blk := some ⟨t, l.map fun v => .one (.rw v), 0, hi⟩
def wrArgs (args : List AV) (h : Heap) : Option (Nat × Nat × List Nat) :=
  match args with
  | [x, y, .v1 (.sc (.rw (.slice none 0 0)))] => match slA x, slA y with
    | some n, some m => some (n, m, [])
    | _, _ => none
  | [x, y, .v1 (.sc (.sl b 0 1 1))] => match slA x, slA y, hget h b with
    | some n, some m, some ⟨_, [.one s1], 0, _⟩ => match slS s1 with
      | some l => some (n, m, [l])
      | none => none
    | _, _, _ => none
  | [x, y, .v1 (.sc (.sl b 0 2 2))] => match slA x, slA y, hget h b with
    | some n, some m, some ⟨_, [.one s1, .one s2], 0, _⟩ => match slS s1, slS s2 with
      | some l, some l2 => some (n, m, [l, l2])
      | _, _ => none
    | _, _, _ => none
  | _ => none
theorem wr_local {args : List AV} {h : Heap} {slot : Nat} {blk : Blk} (hs : isHole h slot = true) (ha : ∀ x ∈ args, x.ok (Dm h)) : wrArgs args (hset h slot blk) = wrArgs args h := by
  have hne : ∀ b, Dm h b → b ≠ slot := fun b ⟨c, hc⟩ e => by
    rw [e, (isHole_lt hs).2] at hc; cases hc
  unfold wrArgs
  split
  · rfl
  · rename_i x y b
    rw [hget_hset_ne (hne b (ha (.v1 (.sc (.sl b 0 1 1))) (by simp)))]
  · rename_i x y b
    rw [hget_hset_ne (hne b (ha (.v1 (.sc (.sl b 0 2 2))) (by simp)))]
  · rfl
theorem relH_rs {ρ : Ren} {h : Heap} {w : World} (hr : RelH ρ h w) {b t hi : Nat} {cs : List Cell} (hb : hget h b = some ⟨t, cs, 0, hi⟩) {l : List Value} (hl : cvals ρ cs = l) (h1 : ∀ v ∈ l, v.oneCell' = true) : RelH (fun _ => ρ b) [rsB t hi l] w := by
  have hv : ∀ (σ : Ren) (l : List Value), cvals σ (l.map fun v => Cell.one (.rw v)) = l := fun σ l => by
    induction l with
    | nil => rfl
    | cons v r ih => simp only [List.map_cons, cvals, Cell.vals, Sc.val, ih]; rfl
  have only : ∀ i c, hget [rsB t hi l] i = some c → i = 0 ∧ c = ⟨t, l.map fun v => .one (.rw v), 0, hi⟩ := fun i c hc => by
    cases i with
    | zero => cases hc; exact ⟨rfl, rfl⟩
    | succ i => simp [hget] at hc
  refine ⟨fun i c hc => ?_, fun i c hc h0 => ?_, fun i c hc h1 => ?_, fun i c hc => ?_, fun i j hi hj _ => ?_, fun i c hc h3 => ?_, fun i j c hi hc h3 => ?_⟩
  · obtain ⟨rfl, rfl⟩ := only i c hc
    intro d hd
    obtain ⟨v, hv, rfl⟩ := List.mem_map.1 hd
    exact h1 v hv
  · obtain ⟨rfl, rfl⟩ := only i c hc
    rw [hv, ← hl]
    exact hr.row b _ hb rfl
  · obtain ⟨rfl, rfl⟩ := only i c hc
    cases h1
  · obtain ⟨rfl, rfl⟩ := only i c hc
    simp
  · obtain ⟨c, hc, _⟩ := hi
    obtain ⟨d, hd, _⟩ := hj
    rw [(only i c hc).1, (only j d hd).1]
  · obtain ⟨rfl, rfl⟩ := only i c hc
    cases h3
  · obtain ⟨rfl, rfl⟩ := only j c hc
    cases h3
theorem relH_nil (ρ : Ren) (w : World) : RelH ρ [] w := by
  have no : ∀ i c, hget ([] : Heap) i = some c → False := fun i c hc => by simp [hget] at hc
  exact ⟨fun i c hc => (no i c hc).elim, fun i c hc => (no i c hc).elim, fun i c hc => (no i c hc).elim, fun i c hc => (no i c hc).elim, fun i j ⟨c, hc, _⟩ => (no i c hc).elim, fun i c hc => (no i c hc).elim, fun i j c _ hc => (no j c hc).elim⟩
theorem wr_core {f : FuncId} {fn : Func} (hf : Try.prog.funcs[f]? = some fn) (hb : fn.body = some (bodyOf fn)) (hn : (fn.name == "runtime.NumGoroutine") = false) {args : List AV} {h : Heap} {n m : Nat} {ls : List Nat} (e : wrArgs args h = some (n, m, ls)) (z : Int)
    (hw0 : ls = [] → ∀ a1 c1 a2 c2, AWqS Try.prog (Dm []) (flatC (bodyOf fn)) (FEndM tt fn [] (iv z) []) ⟨frame0 [rs a1 n c1, rs a2 m c2, nilS] fn.ntmps, []⟩)
    (hw1 : ∀ l, ls = [l] → ∀ a1 c1 a2 c2 a3 c3 t hi, AWqS Try.prog (Dm [rsB t hi [.slice a3 l c3]]) (flatC (bodyOf fn)) (FEndM tt fn [0] (iv z) [rsB t hi [.slice a3 l c3]]) ⟨frame0 [rs a1 n c1, rs a2 m c2, .v1 (.sc (.sl 0 0 1 1))] fn.ntmps, [rsB t hi [.slice a3 l c3]]⟩)
    (hw2 : ∀ l l2, ls = [l, l2] → ∀ a1 c1 a2 c2 a3 c3 a4 c4 t hi, AWqS Try.prog (Dm [rsB t hi [.slice a3 l c3, .slice a4 l2 c4]]) (flatC (bodyOf fn)) (FEndM tt fn [0] (iv z) [rsB t hi [.slice a3 l c3, .slice a4 l2 c4]]) ⟨frame0 [rs a1 n c1, rs a2 m c2, .v1 (.sc (.sl 0 0 2 2))] fn.ntmps, [rsB t hi [.slice a3 l c3, .slice a4 l2 c4]]⟩) :
    CallOk Try.prog f args h (iv z) h := by
  intro ρ w hr hok o a next Q hnext
  unfold wrArgs at e
  split at e
  · rename_i x y
    split at e
    rotate_left
    · cases e
    rename_i n' m' hx hy
    cases e
    obtain ⟨a1, c1, e1⟩ := slA_val hx ρ
    obtain ⟨a2, c2, e2⟩ := slA_val hy ρ
    exact view_core tt_ok hf hb hn (W := []) (args' := [rs a1 n c1, rs a2 m c2, nilS]) [] 0 [] (iv z) hr (relH_nil ρ w) (fun i b hb => by simp [hget] at hb) (fun i hi => by simp at hi) (fun j ⟨b, hb⟩ => by simp [hget] at hb)
      (by simp only [List.map_cons, List.map_nil, e1, e2]; rfl) (fun x hx => by
        simp only [List.mem_cons, List.not_mem_nil, or_false] at hx
        rcases hx with rfl | rfl | rfl <;> rfl) rfl rfl rfl rfl (fun t ht => by simp at ht) (hw0 rfl a1 c1 a2 c2) o a next Q hnext
  · rename_i x y b
    split at e
    rotate_left
    · cases e
    rename_i n' m' t s1 hi hx hy hbk
    split at e
    rotate_left
    · cases e
    rename_i l hs1
    cases e
    obtain ⟨a1, c1, e1⟩ := slA_val hx ρ
    obtain ⟨a2, c2, e2⟩ := slA_val hy ρ
    obtain ⟨a3, c3, e3⟩ := slS_val hs1 ρ
    have rW : RelH (fun _ => ρ b) [rsB t hi [.slice a3 l c3]] w := relH_rs hr hbk (by simp only [cvals, Cell.vals, e3]; rfl) (fun v hv => by
      simp only [List.mem_cons, List.not_mem_nil, or_false] at hv
      subst hv; rfl)
    have hz : ∀ j, Dm [rsB t hi [.slice a3 l c3]] j → j = 0 := fun j ⟨c, hc⟩ => by
      cases j with
      | zero => rfl
      | succ j => simp [hget] at hc
    exact view_core tt_ok hf hb hn (W := [rsB t hi [.slice a3 l c3]]) (args' := [rs a1 n c1, rs a2 m c2, .v1 (.sc (.sl 0 0 1 1))]) [] 0 [] (iv z) hr rW (fun i c hc => by
        cases i with
        | zero => cases hc; exact .inr rfl
        | succ i => simp [hget] at hc) (fun i hi => by
        have : i = 0 := by simpa using hi
        subst this; exact ⟨_, rfl⟩) (fun j hj => ⟨b, ⟨_, hbk⟩, rfl⟩)
      (by simp only [List.map_cons, List.map_nil, e1, e2]; rfl) (fun x hx => by
        simp only [List.mem_cons, List.not_mem_nil, or_false] at hx
        rcases hx with rfl | rfl | rfl
        · rfl
        · rfl
        · exact ⟨_, rfl⟩) rfl rfl rfl rfl (fun t ht => by simp at ht) (hw1 l rfl a1 c1 a2 c2 a3 c3 t hi) o a next Q hnext
  · rename_i x y b
    split at e
    rotate_left
    · cases e
    rename_i n' m' t s1 s2 hi hx hy hbk
    split at e
    rotate_left
    · cases e
    rename_i l l2 hs1 hs2
    cases e
    obtain ⟨a1, c1, e1⟩ := slA_val hx ρ
    obtain ⟨a2, c2, e2⟩ := slA_val hy ρ
    obtain ⟨a3, c3, e3⟩ := slS_val hs1 ρ
    obtain ⟨a4, c4, e4⟩ := slS_val hs2 ρ
    have rW : RelH (fun _ => ρ b) [rsB t hi [.slice a3 l c3, .slice a4 l2 c4]] w := relH_rs hr hbk (by simp only [cvals, Cell.vals, e3, e4]; rfl) (fun v hv => by
      simp only [List.mem_cons, List.not_mem_nil, or_false] at hv
      rcases hv with rfl | rfl <;> rfl)
    have hz : ∀ j, Dm [rsB t hi [.slice a3 l c3, .slice a4 l2 c4]] j → j = 0 := fun j ⟨c, hc⟩ => by
      cases j with
      | zero => rfl
      | succ j => simp [hget] at hc
    exact view_core tt_ok hf hb hn (W := [rsB t hi [.slice a3 l c3, .slice a4 l2 c4]]) (args' := [rs a1 n c1, rs a2 m c2, .v1 (.sc (.sl 0 0 2 2))]) [] 0 [] (iv z) hr rW (fun i c hc => by
        cases i with
        | zero => cases hc; exact .inr rfl
        | succ i => simp [hget] at hc) (fun i hi => by
        have : i = 0 := by simpa using hi
        subst this; exact ⟨_, rfl⟩) (fun j hj => ⟨b, ⟨_, hbk⟩, rfl⟩)
      (by simp only [List.map_cons, List.map_nil, e1, e2]; rfl) (fun x hx => by
        simp only [List.mem_cons, List.not_mem_nil, or_false] at hx
        rcases hx with rfl | rfl | rfl
        · rfl
        · rfl
        · exact ⟨_, rfl⟩) rfl rfl rfl rfl (fun t ht => by simp at ht) (hw2 l l2 rfl a1 c1 a2 c2 a3 c3 a4 c4 t hi) o a next Q hnext
  · cases e
def wrP (md n m : Nat) (ls : List Nat) : Prop := match md with
  | 0 => n = 32 ∧ m = 12 ∧ ∀ l ∈ ls, l ≤ 1048576
  | 1 => ¬ (n = 32 ∧ m = 12)
  | _ => n = 32 ∧ m = 12 ∧ ∃ l ∈ ls, 1048576 < l
def wrV : Nat → Int
  | 0 => 0
  | 1 => 2
  | _ => 3
def cWr (md : Nat) (args : List AV) (h : Heap) : Option (List Prop × AV) :=
  match wrArgs args h with
  | some (n, m, ls) => some ([wrP md n m ls], iv (wrV md))
  | none => none
theorem cWr_local (md : Nat) : ∀ args h slot blk, isHole h slot = true → (∀ x ∈ args, x.ok (Dm h)) → cWr md args (hset h slot blk) = cWr md args h := fun args h slot blk hs ha => by
  unfold cWr
  rw [wr_local hs ha]
theorem okWr0 : (CallC.rd (cWr 0)).Ok Try.prog 27 := by
  refine ⟨fun args h pre v e hp => ?_, cWr_local 0⟩
  unfold cWr at e
  split at e
  rotate_left
  · cases e
  rename_i n m ls he
  cases e
  have hq : wrP 0 n m ls := hp _ (by simp)
  refine wr_core Try.func27 (by kernel_rfl) (by kernel_rfl) he 0 ?_ ?_ ?_
  · intro hls a1 c1 a2 c2
    subst hls
    obtain ⟨rfl, rfl, hl⟩ := hq
    exact evS_q mixed tt_ok (G := ctxL []) ctxL_nil 100 [] (same (p := endM [] [] [] (iv 0) (iv 0)) (endM_same rfl rfl) (by kernel_rfl))
  · intro l hls a1 c1 a2 c2 a3 c3 t hi
    subst hls
    obtain ⟨rfl, rfl, hl⟩ := hq
    exact evS_q mixed tt_ok (G := ctxL []) ctxL_nil 100 [⟨6,2,.lit (.bo false)⟩] (same (p := ilt 1048576 (Int.ofNat l) = false ∧ endM [0] [rsB t hi [.slice a3 l c3]] [rsB t hi [.slice a3 l c3]] (iv 0) (iv 0)) ⟨ilt_f (i := 1048576) (by have := hl l (by simp); omega), endM_same rfl rfl⟩ (by kernel_rfl))
  · intro l l2 hls a1 c1 a2 c2 a3 c3 a4 c4 t hi
    subst hls
    obtain ⟨rfl, rfl, hl⟩ := hq
    exact evS_q mixed tt_ok (G := ctxL []) ctxL_nil 100 [⟨6,2,.lit (.bo false)⟩,⟨6,2,.lit (.bo false)⟩] (same (p := ilt 1048576 (Int.ofNat l) = false ∧ ilt 1048576 (Int.ofNat l2) = false ∧ endM [0] [rsB t hi [.slice a3 l c3, .slice a4 l2 c4]] [rsB t hi [.slice a3 l c3, .slice a4 l2 c4]] (iv 0) (iv 0)) ⟨ilt_f (i := 1048576) (by have := hl l (by simp); omega), ilt_f (i := 1048576) (by have := hl l2 (by simp); omega), endM_same rfl rfl⟩ (by kernel_rfl))
theorem okWr1 : (CallC.rd (cWr 1)).Ok Try.prog 27 := by
  refine ⟨fun args h pre v e hp => ?_, cWr_local 1⟩
  unfold cWr at e
  split at e
  rotate_left
  · cases e
  rename_i n m ls he
  cases e
  have hq : wrP 1 n m ls := hp _ (by simp)
  refine wr_core Try.func27 (by kernel_rfl) (by kernel_rfl) he 2 ?_ ?_ ?_
  · intro hls a1 c1 a2 c2
    subst hls
    by_cases hn : n = 32
    · subst hn
      have hm : m ≠ 12 := fun e => hq ⟨rfl, e⟩
      exact evS_q mixed tt_ok (G := ctxL []) ctxL_nil 100 [⟨1,6,.lit (.bo true)⟩] (same (p := (!ieq (Int.ofNat m) 12) = true ∧ endM [] [] [] (iv 2) (iv 2)) ⟨neq_t (m := 12) hm, endM_same rfl rfl⟩ (by kernel_rfl))
    · exact evS_q mixed tt_ok (G := ctxL []) ctxL_nil 100 [⟨1,2,.lit (.bo true)⟩] (same (p := (!ieq (Int.ofNat n) 32) = true ∧ endM [] [] [] (iv 2) (iv 2)) ⟨neq_t (m := 32) hn, endM_same rfl rfl⟩ (by kernel_rfl))
  · intro l hls a1 c1 a2 c2 a3 c3 t hi
    subst hls
    by_cases hn : n = 32
    · subst hn
      have hm : m ≠ 12 := fun e => hq ⟨rfl, e⟩
      exact evS_q mixed tt_ok (G := ctxL []) ctxL_nil 100 [⟨1,6,.lit (.bo true)⟩] (same (p := (!ieq (Int.ofNat m) 12) = true ∧ endM [0] [rsB t hi [.slice a3 l c3]] [rsB t hi [.slice a3 l c3]] (iv 2) (iv 2)) ⟨neq_t (m := 12) hm, endM_same rfl rfl⟩ (by kernel_rfl))
    · exact evS_q mixed tt_ok (G := ctxL []) ctxL_nil 100 [⟨1,2,.lit (.bo true)⟩] (same (p := (!ieq (Int.ofNat n) 32) = true ∧ endM [0] [rsB t hi [.slice a3 l c3]] [rsB t hi [.slice a3 l c3]] (iv 2) (iv 2)) ⟨neq_t (m := 32) hn, endM_same rfl rfl⟩ (by kernel_rfl))
  · intro l l2 hls a1 c1 a2 c2 a3 c3 a4 c4 t hi
    subst hls
    by_cases hn : n = 32
    · subst hn
      have hm : m ≠ 12 := fun e => hq ⟨rfl, e⟩
      exact evS_q mixed tt_ok (G := ctxL []) ctxL_nil 100 [⟨1,6,.lit (.bo true)⟩] (same (p := (!ieq (Int.ofNat m) 12) = true ∧ endM [0] [rsB t hi [.slice a3 l c3, .slice a4 l2 c4]] [rsB t hi [.slice a3 l c3, .slice a4 l2 c4]] (iv 2) (iv 2)) ⟨neq_t (m := 12) hm, endM_same rfl rfl⟩ (by kernel_rfl))
    · exact evS_q mixed tt_ok (G := ctxL []) ctxL_nil 100 [⟨1,2,.lit (.bo true)⟩] (same (p := (!ieq (Int.ofNat n) 32) = true ∧ endM [0] [rsB t hi [.slice a3 l c3, .slice a4 l2 c4]] [rsB t hi [.slice a3 l c3, .slice a4 l2 c4]] (iv 2) (iv 2)) ⟨neq_t (m := 32) hn, endM_same rfl rfl⟩ (by kernel_rfl))
theorem okWr2 : (CallC.rd (cWr 2)).Ok Try.prog 27 := by
  refine ⟨fun args h pre v e hp => ?_, cWr_local 2⟩
  unfold cWr at e
  split at e
  rotate_left
  · cases e
  rename_i n m ls he
  cases e
  have hq : wrP 2 n m ls := hp _ (by simp)
  refine wr_core Try.func27 (by kernel_rfl) (by kernel_rfl) he 3 ?_ ?_ ?_
  · intro hls a1 c1 a2 c2
    subst hls
    obtain ⟨rfl, rfl, l0, hl0, hl⟩ := hq
    simp at hl0
  · intro l hls a1 c1 a2 c2 a3 c3 t hi
    subst hls
    obtain ⟨rfl, rfl, l0, hl0, hl⟩ := hq
    have : l0 = l := by simpa using hl0
    subst this
    exact evS_q mixed tt_ok (G := ctxL []) ctxL_nil 100 [⟨6,2,.lit (.bo true)⟩] (same (p := ilt 1048576 (Int.ofNat l0) = true ∧ endM [0] [rsB t hi [.slice a3 l0 c3]] [rsB t hi [.slice a3 l0 c3]] (iv 3) (iv 3)) ⟨ilt_t (i := 1048576) hl, endM_same rfl rfl⟩ (by kernel_rfl))
  · intro l l2 hls a1 c1 a2 c2 a3 c3 a4 c4 t hi
    subst hls
    obtain ⟨rfl, rfl, l0, hl0, hl⟩ := hq
    by_cases h1 : 1048576 < l
    · exact evS_q mixed tt_ok (G := ctxL []) ctxL_nil 100 [⟨6,2,.lit (.bo true)⟩] (same (p := ilt 1048576 (Int.ofNat l) = true ∧ endM [0] [rsB t hi [.slice a3 l c3, .slice a4 l2 c4]] [rsB t hi [.slice a3 l c3, .slice a4 l2 c4]] (iv 3) (iv 3)) ⟨ilt_t (i := 1048576) h1, endM_same rfl rfl⟩ (by kernel_rfl))
    · have h2 : 1048576 < l2 := by
        simp only [List.mem_cons, List.not_mem_nil, or_false] at hl0
        rcases hl0 with rfl | rfl
        · exact absurd hl h1
        · exact hl
      exact evS_q mixed tt_ok (G := ctxL []) ctxL_nil 100 [⟨6,2,.lit (.bo false)⟩,⟨6,2,.lit (.bo true)⟩] (same (p := ilt 1048576 (Int.ofNat l) = false ∧ ilt 1048576 (Int.ofNat l2) = true ∧ endM [0] [rsB t hi [.slice a3 l c3, .slice a4 l2 c4]] [rsB t hi [.slice a3 l c3, .slice a4 l2 c4]] (iv 3) (iv 3)) ⟨ilt_f (i := 1048576) h1, ilt_t (i := 1048576) h2, endM_same rfl rfl⟩ (by kernel_rfl))
/-! the document's -/
def wrP' (md n m : Nat) (b : Bool) : Prop := match md with
  | 0 => n = 32 ∧ m = 12 ∧ b = false
  | 1 => ¬ (n = 32 ∧ m = 12)
  | _ => n = 32 ∧ m = 12 ∧ b = true
def cWr' (md : Nat) (args : List AV) (h : Heap) : Option (List Prop × AV) :=
  match args with
  | [x, y, .v1 (.sc (.bo b))] => match slA x, slA y with
    | some n, some m => some ([wrP' md n m b], iv (wrV md))
    | _, _ => none
  | _ => none
theorem cWr'_local (md : Nat) : ∀ args h slot blk, isHole h slot = true → (∀ x ∈ args, x.ok (Dm h)) → cWr' md args (hset h slot blk) = cWr' md args h := fun args h slot blk hs ha => rfl
theorem wr_core' {f : FuncId} {fn : Func} (hf : Try.prog.funcs[f]? = some fn) (hb : fn.body = some (bodyOf fn)) (hn : (fn.name == "runtime.NumGoroutine") = false) {x y : AV} {h : Heap} {n m : Nat} {b : Bool} (hx : slA x = some n) (hy : slA y = some m) (z : Int)
    (hw : ∀ a1 c1 a2 c2, AWqS Try.prog (Dm []) (flatC (bodyOf fn)) (FEndM tt fn [] (iv z) []) ⟨frame0 [rs a1 n c1, rs a2 m c2, .v1 (.sc (.bo b))] fn.ntmps, []⟩) : CallOk Try.prog f [x, y, .v1 (.sc (.bo b))] h (iv z) h := by
  intro ρ w hr hok o a next Q hnext
  obtain ⟨a1, c1, e1⟩ := slA_val hx ρ
  obtain ⟨a2, c2, e2⟩ := slA_val hy ρ
  exact view_core tt_ok hf hb hn (W := []) (args' := [rs a1 n c1, rs a2 m c2, .v1 (.sc (.bo b))]) [] 0 [] (iv z) hr (relH_nil ρ w) (fun i b hb => by simp [hget] at hb) (fun i hi => by simp at hi) (fun j ⟨b, hb⟩ => by simp [hget] at hb)
    (by simp only [List.map_cons, List.map_nil, e1, e2]; rfl) (fun x hx => by
      simp only [List.mem_cons, List.not_mem_nil, or_false] at hx
      rcases hx with rfl | rfl | rfl
      · rfl
      · rfl
      · trivial) rfl rfl rfl rfl (fun t ht => by simp at ht) (hw a1 c1 a2 c2) o a next Q hnext
theorem okWr0' : (CallC.rd (cWr' 0)).Ok Try.prog 29 := by
  refine ⟨fun args h pre v e hp => ?_, cWr'_local 0⟩
  unfold cWr' at e
  split at e
  rotate_left
  · cases e
  rename_i x y b
  split at e
  rotate_left
  · cases e
  rename_i n m hx hy
  cases e
  have hq : wrP' 0 n m b := hp _ (by simp)
  refine wr_core' Try.func29 (by kernel_rfl) (by kernel_rfl) hx hy 0 ?_
  intro a1 c1 a2 c2
  obtain ⟨rfl, rfl, rfl⟩ := hq
  exact evS_q mixed tt_ok (G := ctxL []) ctxL_nil 100 [] (same (p := endM [] [] [] (iv 0) (iv 0)) (endM_same rfl rfl) (by kernel_rfl))
theorem okWr1' : (CallC.rd (cWr' 1)).Ok Try.prog 29 := by
  refine ⟨fun args h pre v e hp => ?_, cWr'_local 1⟩
  unfold cWr' at e
  split at e
  rotate_left
  · cases e
  rename_i x y b
  split at e
  rotate_left
  · cases e
  rename_i n m hx hy
  cases e
  have hq : wrP' 1 n m b := hp _ (by simp)
  refine wr_core' Try.func29 (by kernel_rfl) (by kernel_rfl) hx hy 2 ?_
  intro a1 c1 a2 c2
  by_cases hn : n = 32
  · subst hn
    have hm : m ≠ 12 := fun e => hq ⟨rfl, e⟩
    exact evS_q mixed tt_ok (G := ctxL []) ctxL_nil 100 [⟨1,6,.lit (.bo true)⟩] (same (p := (!ieq (Int.ofNat m) 12) = true ∧ endM [] [] [] (iv 2) (iv 2)) ⟨neq_t (m := 12) hm, endM_same rfl rfl⟩ (by kernel_rfl))
  · exact evS_q mixed tt_ok (G := ctxL []) ctxL_nil 100 [⟨1,2,.lit (.bo true)⟩] (same (p := (!ieq (Int.ofNat n) 32) = true ∧ endM [] [] [] (iv 2) (iv 2)) ⟨neq_t (m := 32) hn, endM_same rfl rfl⟩ (by kernel_rfl))
theorem okWr2' : (CallC.rd (cWr' 2)).Ok Try.prog 29 := by
  refine ⟨fun args h pre v e hp => ?_, cWr'_local 2⟩
  unfold cWr' at e
  split at e
  rotate_left
  · cases e
  rename_i x y b
  split at e
  rotate_left
  · cases e
  rename_i n m hx hy
  cases e
  have hq : wrP' 2 n m b := hp _ (by simp)
  refine wr_core' Try.func29 (by kernel_rfl) (by kernel_rfl) hx hy 3 ?_
  intro a1 c1 a2 c2
  obtain ⟨rfl, rfl, rfl⟩ := hq
  exact evS_q mixed tt_ok (G := ctxL []) ctxL_nil 100 [] (same (p := endM [] [] [] (iv 3) (iv 3)) (endM_same rfl rfl) (by kernel_rfl))
end Go.Proofs.Ytndmoidenbfflaa
