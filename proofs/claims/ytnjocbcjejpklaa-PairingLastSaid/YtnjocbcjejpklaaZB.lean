/- Joined: WL WN3 FwR WN4 FwS WN5 WN6 WP WP2 WP3 WP4 WF WF2 WA WG WG2 WJ WG3 WG4 WG5 WG6 FwT FwV. -/
import Derived.Test.YtnjocbcjejpklaaRows
import Derived.Test.YtnjocbcjejpklaaZA
import Derived.ProofKit
import Init.Data.Dyadic
/- Tools for the laws' frames: a number that is handed in, opened. -/
namespace Go.Proofs.Ytnjocbcjejpklaa
open Go.Rq Go Go.ChangeShapes Go.WideShapes Go.ChangeAt Go.RowKit
set_option maxRecDepth 100000

theorem Try.own : ownKnob Try.prog.godebug = none := by kernel_rfl
theorem Try.cells24 : Try.prog.cellsOf 24 = 6 := by kernel_rfl
theorem Try.cells22 : Try.prog.cellsOf 22 = 1 := by kernel_rfl

theorem list6 {α : Type} (l : List α) (h : l.length = 6) : ∃ a b c d e f, l = [a, b, c, d, e, f] := by
  match l, h with
  | [a, b, c, d, e, f], _ => exact ⟨a, b, c, d, e, f, rfl⟩
theorem u64_lit {z : Int} (h : (Lit.int .u64 z).wf = true) : Int.ofNat (z.toNat % W) = z := by
  simp only [Lit.wf, IntKind.min, IntKind.max, IntKind.signed, IntKind.bits, Bool.and_eq_true] at h
  simp only [W, Int.ofNat_eq_natCast]
  simp at h
  omega

/-- A number of six words, opened. -/
theorem num_open {H : Type} {enc : TypeId × Value → H} {Wd : World} {base b0 : Nat} {sp : Nat → Bool} {hd : Bool} {v : Value} {d : DataW H} {p : List MemPlace}
    (h : DataW.Trod enc Try.prog Wd base sp hd 24 v d p) (hv : Value.okWide Try.prog Wd .any b0 24 v) :
    ∃ a : Nat → Nat, v = (AV.v1 (.agg [.ws .u64 6 a])).val (fun _ => 0) ∧ p = [] ∧ ∀ (W' : World) (b : Nat) (sp : Nat → Bool) (hd : Bool), DataW.Trod enc Try.prog W' b sp hd 24 v d [] := by
  obtain ⟨cs, rfl, hsz⟩ : ∃ cs, v = .agg cs ∧ cs.size = Try.prog.cellsOf 24 := by
    have := hv
    simp [Value.okWide, Try.underlying24] at this
    obtain ⟨cs, h1, h2, _⟩ := this
    exact ⟨cs, h1, h2⟩
  rw [Try.cells24] at hsz
  obtain ⟨l⟩ := cs
  obtain ⟨c0, c1, c2, c3, c4, c5, rfl⟩ := list6 l hsz
  obtain ⟨fuel, hf⟩ := h
  obtain ⟨xs, m, _, hx, _, hl, hi⟩ := DataW.trod_array Try.underlying24 hf
  obtain ⟨y0, y1, y2, y3, y4, y5, rfl⟩ := list6 xs hl
  rw [Try.cells22] at hi
  have i0 := hi 0 (by omega)
  have i1 := hi 1 (by omega)
  have i2 := hi 2 (by omega)
  have i3 := hi 3 (by omega)
  have i4 := hi 4 (by omega)
  have i5 := hi 5 (by omega)
  obtain ⟨x0, e0, rfl, w0⟩ := DataW.trod_int Try.underlying22 i0
  obtain ⟨x1, e1, rfl, w1⟩ := DataW.trod_int Try.underlying22 i1
  obtain ⟨x2, e2, rfl, w2⟩ := DataW.trod_int Try.underlying22 i2
  obtain ⟨x3, e3, rfl, w3⟩ := DataW.trod_int Try.underlying22 i3
  obtain ⟨x4, e4, rfl, w4⟩ := DataW.trod_int Try.underlying22 i4
  obtain ⟨x5, e5, rfl, w5⟩ := DataW.trod_int Try.underlying22 i5
  simp [Value.cells] at e0 e1 e2 e3 e4 e5
  subst e0 e1 e2 e3 e4 e5
  simp at hx
  obtain ⟨rfl, rfl⟩ := hx
  refine ⟨fun i => ([x0, x1, x2, x3, x4, x5].getD i 0).toNat, ?_, rfl, fun W' b sp hd => ⟨2, ?_⟩⟩
  · simp only [AV.val, V1.val, cvals, Cell.vals, List.append_nil, M]
    rw [show List.range 6 = [0, 1, 2, 3, 4, 5] from rfl]
    have f0 := u64_lit w0
    have f1 := u64_lit w1
    have f2 := u64_lit w2
    have f3 := u64_lit w3
    have f4 := u64_lit w4
    have f5 := u64_lit w5
    simp only [W] at f0 f1 f2 f3 f4 f5
    simp only [List.map_cons, List.map_nil, List.getD_cons_zero, List.getD_cons_succ, f0, f1, f2, f3, f4, f5]
  · simp [DataW.trod, Value.cells, Try.underlying24, Try.underlying22, Try.cells24, Try.cells22, w0, w1, w2, w3, w4, w5, show List.range 6 = [0, 1, 2, 3, 4, 5] from rfl]

theorem eqW_self (f : Nat → Nat) : (eqN W 6 f f && true) = true := by
  rw [Bool.and_true, eqN_iff]; intro i _; rfl
theorem neW_self (f : Nat → Nat) : (!(eqN W 6 f f && true)) = false := by rw [eqW_self]; rfl
theorem ieq_self (z : Int) : ieq z z = true := by rw [ieq_iff]
end Go.Proofs.Ytnjocbcjejpklaa

/- A round of the reduction, in words. -/
namespace Go.Rq
open Go

theorem less_gen {r N a : Nat} (h : N ≤ a) (ha : a < r) : a - N = (a + r - N) % r := by
  rw [show a + r - N = (a - N) + r by omega, Nat.add_mod_right, Nat.mod_eq_of_lt (by omega)]
def crow (x : Nat) (b t : Nat → Nat) : Nat → Nat
  | 0 => 0
  | k + 1 => mHi x (b k) (t k) (crow x b t k)
def drow (q : Nat) (n L : Nat → Nat) : Nat → Nat
  | 0 => 0
  | 1 => q % W * (n 0 % W) / W + (q * n 0 % W + L 0 % W + 0 % W) / W
  | k + 2 => mHi q (n (k + 1)) (L (k + 1)) (drow q n L (k + 1))
def mrow (q : Nat) (n L D : Nat → Nat) (S6 S7 : Nat) : Nat → Nat
  | 0 => mLo q (n 1) (L 1) (D 1)
  | 1 => mLo q (n 2) (L 2) (D 2)
  | 2 => mLo q (n 3) (L 3) (D 3)
  | 3 => mLo q (n 4) (L 4) (D 4)
  | 4 => mLo q (n 5) (L 5) (D 5)
  | 5 => S6 + D 6 + 0
  | 6 => S7 + (S6 % W + D 6 % W + 0 % W) / W
  | _ => 0
theorem top_step {x c : Nat} (hc : c < W) : (x + c + 0) % W + W * ((x % W + c % W + 0 % W) / W) = x % W + c ∧ (x % W + c % W + 0 % W) / W ≤ 1 := by
  simp only [W] at *; omega
theorem bound_gen {w q n l : Nat} (hq : q < w) (hn : n < w) (hl : l < w) : (l + q * n) / w < w := by
  rw [Nat.div_lt_iff_lt_mul (by omega)]
  have h1 : q * n ≤ (w - 1) * (w - 1) := Nat.mul_le_mul (by omega) (by omega)
  obtain ⟨v, rfl⟩ : ∃ v, w = v + 1 := ⟨w - 1, by omega⟩
  simp only [Nat.add_sub_cancel] at h1
  rw [Nat.add_mul, Nat.mul_add]
  omega
theorem first_step {q n0 l0 : Nat} (h : (l0 + q * n0) % W = 0) : W * (q % W * (n0 % W) / W + (q * n0 % W + l0 % W + 0 % W) / W) = l0 % W + q % W * (n0 % W) ∧ q % W * (n0 % W) / W + (q * n0 % W + l0 % W + 0 % W) / W < W := by
  have e1 : q * n0 % W = q % W * (n0 % W) % W := Nat.mul_mod _ _ _
  have hz : 0 % W = 0 := rfl
  have e2 : (l0 % W + q % W * (n0 % W)) % W = 0 := by
    rw [Nat.add_mod, Nat.mod_mod, ← e1, ← Nat.add_mod]; exact h
  have hb := bound_gen (w := W) (q := q % W) (n := n0 % W) (l := l0 % W) (Nat.mod_lt _ (by decide)) (Nat.mod_lt _ (by decide)) (Nat.mod_lt _ (by decide))
  have hl : l0 % W < W := Nat.mod_lt _ (by decide)
  rw [e1, hz]
  generalize q % W * (n0 % W) = u at *
  generalize l0 % W = l at *
  have e3 : W * (u / W + (u % W + l + 0) / W) = l + u := by simp only [W] at *; omega
  refine ⟨e3, ?_⟩
  have e4 : u / W + (u % W + l + 0) / W = (l + u) / W := by simp only [W] at *; omega
  rw [e4]; exact hb
theorem low_zero {w n0 l l0 : Nat} (h : (n0 % w * (l % w) + 1) % w = 0) : (l0 + l0 * l * n0) % w = 0 := by
  have e : l0 + l0 * l * n0 = l0 * (n0 * l + 1) := by rw [Nat.mul_add, Nat.mul_one, Nat.mul_assoc, Nat.mul_comm l n0, Nat.add_comm]
  have h2 : (n0 * l + 1) % w = 0 := by rw [Nat.add_mod, Nat.mul_mod, ← Nat.add_mod]; exact h
  rw [e, Nat.mul_mod, h2, Nat.mul_zero, Nat.zero_mod]
theorem sB7_eq (t : Nat → Nat) : sB W t 7 = t 0 % W + W * (t 1 % W + W * (t 2 % W + W * (t 3 % W + W * (t 4 % W + W * (t 5 % W + W * (t 6 % W)))))) := by
  simp only [sB, W]
  generalize t 0 % 18446744073709551616 = x0
  generalize t 1 % 18446744073709551616 = x1
  generalize t 2 % 18446744073709551616 = x2
  generalize t 3 % 18446744073709551616 = x3
  generalize t 4 % 18446744073709551616 = x4
  generalize t 5 % 18446744073709551616 = x5
  generalize t 6 % 18446744073709551616 = x6
  omega
theorem sB7 {f Mm : Nat → Nat} (h : ∀ j, j < 7 → f j = Mm j) : sB W f 7 = sB W Mm 7 := sB_congr fun j hj => by rw [h j hj]
theorem sB7_nv {t : Nat → Nat} (h : sB W t 7 < R) : sB W t 7 = nv t := by
  have e := sB7_eq t
  have h6 : t 6 % W = 0 := by
    rw [e] at h
    simp only [R, W] at *
    omega
  rw [e, h6]
  unfold nv
  rfl

theorem mont_row {x l : Nat} {b t n C L D Mm : Nat → Nat} {S6 S7 q cc : Nat} (low : (n 0 % W * (l % W) + 1) % W = 0) (hC : C = crow x b t) (hL : L = fun k => mLo x (b k) (t k) (C k)) (hS6 : S6 = t 6 + C 6 + 0)
    (hS7 : S7 = (t 6 % W + C 6 % W + 0 % W) / W) (hq : q = L 0 * l) (hD : D = drow q n L) (hM : Mm = mrow q n L D S6 S7) (hcc : cc = (S6 % W + D 6 % W + 0 % W) / W) :
    ∃ T2, T2 = sB W Mm 7 ∧ T2 * W = (sB W t 7 + x % W * nv b) + q % W * nv n := by
  have cs : ∀ k, C (k + 1) = mHi x (b k) (t k) (C k) := fun k => by rw [hC]; rfl
  have ls : ∀ k, L k = mLo x (b k) (t k) (C k) := fun k => by rw [hL]
  have c0 : C 0 = 0 := by rw [hC]; rfl
  have b0 : C 0 < W := by rw [c0]; decide
  have s0 := m_step (x := x) (y := b 0) (p := t 0) b0
  rw [← cs, ← ls] at s0
  have s1 := m_step (x := x) (y := b 1) (p := t 1) s0.2
  rw [← cs, ← ls] at s1
  have s2 := m_step (x := x) (y := b 2) (p := t 2) s1.2
  rw [← cs, ← ls] at s2
  have s3 := m_step (x := x) (y := b 3) (p := t 3) s2.2
  rw [← cs, ← ls] at s3
  have s4 := m_step (x := x) (y := b 4) (p := t 4) s3.2
  rw [← cs, ← ls] at s4
  have s5 := m_step (x := x) (y := b 5) (p := t 5) s4.2
  rw [← cs, ← ls] at s5
  have s6 := top_step (x := t 6) s5.2
  rw [← hS6, ← hS7] at s6
  rw [c0] at s0
  have f0 := first_step (q := q) (n0 := n 0) (l0 := L 0) (by rw [hq]; exact low_zero low)
  have d1 : D 1 = q % W * (n 0 % W) / W + (q * n 0 % W + L 0 % W + 0 % W) / W := by rw [hD]; rfl
  rw [← d1] at f0
  have ds : ∀ k, D (k + 2) = mHi q (n (k + 1)) (L (k + 1)) (D (k + 1)) := fun k => by rw [hD]; rfl
  have f1 := m_step (x := q) (y := n 1) (p := L 1) f0.2
  have f2 := m_step (x := q) (y := n 2) (p := L 2) (c := D 2) (by rw [ds 0]; exact f1.2)
  have f3 := m_step (x := q) (y := n 3) (p := L 3) (c := D 3) (by rw [ds 1]; exact f2.2)
  have f4 := m_step (x := q) (y := n 4) (p := L 4) (c := D 4) (by rw [ds 2]; exact f3.2)
  have f5 := m_step (x := q) (y := n 5) (p := L 5) (c := D 5) (by rw [ds 3]; exact f4.2)
  have f6 := top_step (x := S6) (c := D 6) (by rw [ds 4]; exact f5.2)
  have g1 := f1.1
  have g2 := f2.1
  have g3 := f3.1
  have g4 := f4.1
  have g5 := f5.1
  rw [← ds 0] at g1
  rw [← ds 1] at g2
  rw [← ds 2] at g3
  rw [← ds 3] at g4
  rw [← ds 4] at g5
  have m0 : Mm 0 = mLo q (n 1) (L 1) (D 1) := by rw [hM]; rfl
  have m1 : Mm 1 = mLo q (n 2) (L 2) (D 2) := by rw [hM]; rfl
  have m2 : Mm 2 = mLo q (n 3) (L 3) (D 3) := by rw [hM]; rfl
  have m3 : Mm 3 = mLo q (n 4) (L 4) (D 4) := by rw [hM]; rfl
  have m4 : Mm 4 = mLo q (n 5) (L 5) (D 5) := by rw [hM]; rfl
  have m5 : Mm 5 = S6 + D 6 + 0 := by rw [hM]; rfl
  have m6 : Mm 6 = S7 + cc := by rw [hM, hcc]; rfl
  rw [← m0] at g1
  rw [← m1] at g2
  rw [← m2] at g3
  rw [← m3] at g4
  rw [← m4] at g5
  have h6 := f6.1
  rw [← m5, ← hcc] at h6
  have h7 : Mm 6 % W = S7 + cc := by
    rw [m6]
    have h8 := s6.2
    have h9 := f6.2
    rw [← hcc] at h9
    exact Nat.mod_eq_of_lt (by simp only [W]; omega)
  refine ⟨_, rfl, ?_⟩
  rw [sB7_eq Mm, sB7_eq t]
  have hw := mont_words (x := x % W) s0.1 s1.1 s2.1 s3.1 s4.1 s5.1 s6.1
  have hm := mont_less (q := q % W) f0.1 g1 g2 g3 g4 g5 h6 h7
  unfold nv
  rw [hm, hw]
end Go.Rq

/- Methods that read one block of plain cells. -/
namespace Go.Rq
open Go

theorem bkSc_plain {m : List Nat} {s : Sc} (h : zokS s = true) : bkSc m s = s := by
  cases s with
  | fn f caps =>
    cases caps with
    | nil => rfl
    | cons c r => cases h
  | pt _ _ => cases h
  | sl _ _ _ _ => cases h
  | so _ _ => cases h
  | _ => rfl
def plainCs (cs : List Cell) : Bool := zokB (.agg cs)
theorem bkCells_plain {m : List Nat} : ∀ {cs : List Cell}, plainCs cs = true → bkCells m cs = cs
  | [], _ => rfl
  | c :: r, h => by
    unfold plainCs zokB at h
    simp only [List.all_cons, Bool.and_eq_true] at h
    have hr : bkCells m r = r := bkCells_plain (cs := r) h.2
    simp only [bkCells, hr]
    congr 1
    cases c with
    | ws k n f => rfl
    | one s => exact congrArg Cell.one (bkSc_plain h.1)
theorem bkV1_plain {m : List Nat} {v : V1} (h : zokB v = true) : bkV1 m v = v := by
  cases v with
  | sc s => exact congrArg V1.sc (bkSc_plain h)
  | agg cs => exact congrArg V1.agg (bkCells_plain h)
theorem bkAV_plain {m : List Nat} {v : AV} (h : vokB v = true) : bkAV m v = v := by
  cases v with
  | v1 v => exact congrArg AV.v1 (bkV1_plain h)
  | tup l =>
    unfold vokB at h
    have key : ∀ l : List V1, l.all zokB = true → bkV1s m l = l := by
      intro l
      induction l with
      | nil => intro _; rfl
      | cons v r ih =>
        intro h
        simp only [List.all_cons, Bool.and_eq_true] at h
        simp only [bkV1s, bkV1_plain h.1, ih h.2]
    exact congrArg AV.tup (key l h)
  | raw v => rfl
theorem bkAVs_plain {m : List Nat} : ∀ {l : List AV}, l.all vokB = true → bkAVs m l = l
  | [], _ => rfl
  | v :: r, h => by
    simp only [List.all_cons, Bool.and_eq_true] at h
    simp only [bkAVs, bkAV_plain h.1, bkAVs_plain h.2]

/-- A method's end: the block is as it was; what is told. -/
def FEndR (T : TT) (fn : Func) (v : AV) (blk : Blk) : Exit → AS → Prop
  | .normal, s | .ret, s => hget s.h 0 = some blk ∧ ∃ v', resA T s fn.results.toList = some v' ∧ vokB v' = true ∧ ∀ ρ, v'.val ρ = v.val ρ
  | _, _ => False

theorem avB_plain {h : Heap} {v : AV} (hv : vokB v = true) : avB h v = true := by
  have key : ∀ s : Sc, zokS s = true → scB h s = true := by
    intro s hs
    cases s with
    | fn f caps =>
      cases caps with
      | nil => rfl
      | cons c r => cases hs
    | pt _ _ => cases hs
    | sl _ _ _ _ => cases hs
    | so _ _ => cases hs
    | rw v => exact hs
    | _ => rfl
  have keyV : ∀ v : V1, zokB v = true → v1B h v = true := by
    intro v hv
    cases v with
    | sc s => exact key s hv
    | agg cs =>
      have kc : ∀ cs : List Cell, plainCs cs = true → cellsB h cs = true := by
        intro cs
        induction cs with
        | nil => intro _; rfl
        | cons c r ih =>
          intro hc
          unfold plainCs zokB at hc
          simp only [List.all_cons, Bool.and_eq_true] at hc
          cases c with
          | ws k n f => exact ih hc.2
          | one s => simp only [cellsB, Bool.and_eq_true]; exact ⟨key s hc.1, ih hc.2⟩
      exact kc cs hv
  cases v with
  | v1 v => exact keyV v hv
  | tup l =>
    unfold vokB at hv
    exact List.all_eq_true.2 fun x hx => keyV x (List.all_eq_true.1 hv x hx)
  | raw v => rfl
theorem cellsB_plain {h : Heap} {cs : List Cell} (hc : plainCs cs = true) : cellsB h cs = true := avB_plain (h := h) (v := .v1 (.agg cs)) hc

theorem rd_blk {P : Program} {T : TT} (hT : TTOk P T) {f : FuncId} {fn : Func} (hf : P.funcs[f]? = some fn) (hb : fn.body = some (bodyOf fn)) (hn : (fn.name == "runtime.NumGoroutine") = false)
    {b : Nat} {blk : Blk} {rest : List AV} {v : AV} (hpl : plainCs blk.cells = true) (hlo : blk.lo = 0) (hrest : rest.all vokB = true) (hv : vokB v = true) {h : Heap} (hg : hget h b = some blk)
    (hwalk : AWqS P (Dm [some blk]) (flatC (bodyOf fn)) (FEndR T fn v blk) ⟨frame0 (.v1 (.sc (.pt 0 0)) :: rest) fn.ntmps, [some blk]⟩) : CallOk P f (.v1 (.sc (.pt b 0)) :: rest) h v h := by
  have hbk : bk [b] b = 0 := by simp [bk, idxN]
  have hblk : ∀ m, bkBlk m blk = blk := fun m => by unfold bkBlk; rw [bkCells_plain hpl]
  have hpk : pickH [b] h [b] = [some blk] := by
    show [pickB [b] (hget h b)] = _
    rw [hg]
    simp only [pickB, hblk]
  have hLv : ∀ i, i < 1 → Lv [some blk] i := fun i hi => by
    have : i = 0 := by omega
    subst this; exact ⟨blk, rfl, by omega⟩
  have hheap : heapB [some blk] 0 [some blk] = true := by
    simp only [heapB, Bool.and_eq_true]
    refine ⟨cellsB_plain hpl, ?_, trivial⟩
    rw [hlo]; rfl
  have hchk : ∀ m : Nat, chkB [m] [some blk] = true := fun m => by
    unfold chkB nextB
    rw [hlo]; rfl
  refine mem_walk hT hf hb hn [b] [] 0 [some blk] [some blk] (args' := .v1 (.sc (.pt 0 0)) :: rest) (vK := v) (hchk b) hpk hheap ?_ ?_ hLv hheap (avB_plain hv) (fun i hi => (hLv i (by simpa using hi)).dm) (hchk b) hpk (bkAV_plain hv) (fun t ht => by simp at ht) (fun _ _ _ => rfl) ?_ (hnw := by simp [noWinB, hlo])
  · show AV.v1 (.sc (.pt (bk [b] b) 0)) :: bkAVs [b] rest = _
    rw [hbk, bkAVs_plain hrest]
  · simp only [List.all_cons, Bool.and_eq_true]
    refine ⟨rfl, List.all_eq_true.2 fun x hx => avB_plain (List.all_eq_true.1 hrest x hx)⟩
  · refine hwalk.mono fun e s q => ?_
    have key : (hget s.h 0 = some blk ∧ ∃ v', resA T s fn.results.toList = some v' ∧ vokB v' = true ∧ ∀ ρ, v'.val ρ = v.val ρ) → chkB [0] (pickH [0] s.h [0]) = true ∧ heapB (pickH [0] s.h [0]) 0 (pickH [0] s.h [0]) = true ∧ SimH (pickH [0] s.h [0]) [some blk] ∧
        ∃ v', resA T s fn.results.toList = some v' ∧ avB (pickH [0] s.h [0]) (bkAV [0] v') = true ∧ ∀ ρ, (bkAV [0] v').val ρ = v.val ρ := by
      intro ⟨q1, v', q2, q3, q4⟩
      have e : pickH [0] s.h [0] = [some blk] := by
        show [pickB [0] (hget s.h 0)] = _
        rw [q1]
        simp only [pickB, hblk]
      rw [e]
      exact ⟨hchk 0, hheap, ⟨⟨rfl, rfl, rfl, fun _ => rfl⟩, trivial⟩, v', q2, by rw [bkAV_plain q3]; exact avB_plain q3, fun ρ => by rw [bkAV_plain q3]; exact q4 ρ⟩
    cases e with
    | normal => exact key q
    | ret => exact key q
    | exit j => exact q.elim
    | goto l => exact q.elim
    | panic ch => exact q.elim
    | outgrown => exact q.elim
end Go.Rq

/- Powers and inverses by a modulus: plain facts. -/
namespace Go.Rq
open Go

/-- A power by a modulus. -/
def powM (N a e : Nat) : Nat := a ^ e % N
def PowI (N A e k o : Nat) : Prop := o = A ^ (e / 2 ^ k) * R % N
theorem PowI.start {N A e k : Nat} (h : e < 2 ^ k) : PowI N A e k (1 * R % N) := by
  unfold PowI
  rw [Nat.div_eq_of_lt h, Nat.pow_zero]
theorem PowI.step {N A e k o x : Nat} (h1 : N % 2 = 1) (h : PowI N A e (k + 1) o) (hx : x = A * R % N) :
    (e / 2 ^ k % 2 = 0 → PowI N A e k (montV N o o)) ∧ (e / 2 ^ k % 2 = 1 → PowI N A e k (montV N (montV N o o) x)) := by
  have hd : e / 2 ^ (k + 1) = e / 2 ^ k / 2 := by rw [Nat.div_div_eq_div_mul, Nat.pow_succ]
  unfold PowI at *
  have hs : montV N o o = A ^ (2 * (e / 2 ^ k / 2)) * R % N := by
    rw [h, hd, mont_mul h1, Nat.two_mul, Nat.pow_add]
  constructor
  · intro h0
    rw [hs, show 2 * (e / 2 ^ k / 2) = e / 2 ^ k by omega]
  · intro h0
    rw [hs, hx, mont_mul h1, ← Nat.pow_succ, show (2 * (e / 2 ^ k / 2)).succ = e / 2 ^ k by omega]
theorem PowI.fin {N A e o : Nat} (h1 : N % 2 = 1) (h : PowI N A e 0 o) : montV N o 1 = powM N A e := by
  unfold PowI at h
  unfold powM
  rw [h, mont_out h1, Nat.mul_one, Nat.pow_zero, Nat.div_one]
theorem PowI.lt {N A e k o : Nat} (hN : 0 < N) (h : PowI N A e k o) : o < N := by unfold PowI at h; rw [h]; exact Nat.mod_lt _ hN

/-! halves -/
def halfV (N a : Nat) : Nat := (bif Nat.beq (a % 2) 1 then a + N else a) / 2
theorem halfV_two {N a : Nat} (h1 : N % 2 = 1) (ha : a < N) : halfV N a < N ∧ 2 * halfV N a % N = a % N := by
  unfold halfV
  cases hb : Nat.beq (a % 2) 1
  · have : a % 2 ≠ 1 := fun e => by rw [← Nat.beq_eq, hb] at e; cases e
    simp only [cond_false]
    refine ⟨by omega, ?_⟩
    rw [show 2 * (a / 2) = a by omega]
  · rw [Nat.beq_eq] at hb
    simp only [cond_true]
    refine ⟨by omega, ?_⟩
    rw [show 2 * ((a + N) / 2) = a + N by omega, Nat.add_mod_right]

/-! the inverse, by halving and taking away -/
structure IS where
  u : Nat
  v : Nat
  x : Nat
  y : Nat
def invS (N : Nat) (s : IS) : IS :=
  bif Nat.beq (s.u % 2) 0 then ⟨s.u / 2, s.v, halfV N s.x, s.y⟩
  else bif Nat.beq (s.v % 2) 0 then ⟨s.u, s.v / 2, s.x, halfV N s.y⟩
  else bif Nat.ble s.v s.u then ⟨s.u - s.v, s.v, subM N s.x s.y, s.y⟩
  else ⟨s.u, s.v - s.u, s.x, subM N s.y s.x⟩
def invG (N : Nat) : Nat → IS → IS
  | 0, s => s
  | k + 1, s => bif Nat.beq s.u 0 then s else invG N k (invS N s)
def invF (N a : Nat) : IS := invG N (a % N + N) ⟨a % N, N, 1, 0⟩
def invE (N a : Nat) : Int := bif Nat.beq (invF N a).v 1 then 0 else 6
def invV (N a : Nat) : Nat := bif Nat.beq (invF N a).v 1 then (invF N a).y else 0

/-- What stays true. -/
structure ISOk (N A : Nat) (s : IS) : Prop where
  v0 : 0 < s.v
  vN : s.v ≤ N
  uN : s.u < N
  xN : s.x < N
  yN : s.y < N
  ux : s.u % N = s.x * A % N
  vy : s.v % N = s.y * A % N
  gcd : Nat.gcd s.u s.v = Nat.gcd A N
theorem two_cancel {N a b : Nat} (h1 : N % 2 = 1) (h : 2 * a % N = 2 * b % N) : a % N = b % N := by
  have e := cg' ((N + 1) / 2) h
  rw [← Nat.mul_assoc, ← Nat.mul_assoc, show (N + 1) / 2 * 2 = N + 1 by omega, Nat.add_mul, Nat.add_mul, Nat.one_mul, Nat.one_mul, Nat.mul_add_mod_self_left, Nat.mul_add_mod_self_left] at e
  exact e
theorem subM_lt {N a b : Nat} (h : 0 < N) : subM N a b < N := Nat.mod_lt _ h
theorem subM_add {N a b : Nat} (h : 0 < N) : (subM N a b + b) % N = a % N := by
  unfold subM
  rw [Nat.add_mod, Nat.mod_mod, ← Nat.add_mod]
  have hb := Nat.mod_lt b h
  rw [Nat.add_mod, Nat.add_mod (a % N), Nat.mod_mod]
  have e : (a % N + (N - b % N) % N) % N = (a % N + (N - b % N)) % N := by rw [Nat.add_mod, Nat.mod_mod, Nat.mod_mod, ← Nat.mod_mod a, ← Nat.add_mod]; rw [Nat.mod_mod]
  rw [e, ← Nat.mod_mod b, ← Nat.add_mod, Nat.mod_mod, show a % N + (N - b % N) + b % N = a % N + N by omega, Nat.add_mod_right, Nat.mod_mod]
theorem sub_mul {N a b c A : Nat} (h : 0 < N) (hle : b ≤ a) (ha : a % N = c * A % N) {d : Nat} (hb : b % N = d * A % N) : (a - b) % N = subM N c d * A % N := by
  have e1 : (subM N c d * A + d * A) % N = c * A % N := by rw [← Nat.add_mul]; exact cg A (subM_add h)
  have e2 : ((a - b) + b) % N = (subM N c d * A + b) % N := by
    rw [Nat.sub_add_cancel hle, ha, ← e1, Nat.add_mod, ← hb, ← Nat.add_mod]
  have e3 := congrArg (fun z => (z + (N - b % N)) % N) e2
  have hbN := Nat.mod_lt b h
  have key : ∀ x : Nat, ((x + b) % N + (N - b % N)) % N = x % N := by
    intro x
    have : (x + b) % N = (x + b % N) % N := by rw [Nat.add_mod, ← Nat.mod_mod b, ← Nat.add_mod, Nat.mod_mod]
    rw [this, Nat.add_mod, Nat.mod_mod, ← Nat.add_mod, show x + b % N + (N - b % N) = x + N by omega, Nat.add_mod_right]
  rw [key, key] at e3
  exact e3
theorem gcd_half {a b : Nat} (ha : a % 2 = 0) (hb : b % 2 = 1) : Nat.gcd (a / 2) b = Nat.gcd a b := by
  have h : a = 2 * (a / 2) := by omega
  have hc : Nat.Coprime 2 b := by
    show Nat.gcd 2 b = 1
    rw [Nat.gcd_rec, hb]; rfl
  conv => rhs; rw [h]
  exact (Nat.Coprime.gcd_mul_left_cancel (a / 2) hc).symm
/-- One of both is odd. -/
theorem ISOk.step {N A : Nat} {s : IS} (h1 : N % 2 = 1) (h : ISOk N A s) (hu : s.u ≠ 0) (hodd : s.u % 2 = 1 ∨ s.v % 2 = 1) :
    ISOk N A (invS N s) ∧ (invS N s).u + (invS N s).v < s.u + s.v ∧ ((invS N s).u % 2 = 1 ∨ (invS N s).v % 2 = 1) := by
  have hN : 0 < N := by have := h.uN; omega
  obtain ⟨v0, vN, uN, xN, yN, ux, vy, g⟩ := h
  unfold invS
  cases h2 : Nat.beq (s.u % 2) 0
  · have e2 : s.u % 2 ≠ 0 := fun e => by rw [← Nat.beq_eq, h2] at e; cases e
    simp only [cond_false]
    cases h3 : Nat.beq (s.v % 2) 0
    · have e3 : s.v % 2 ≠ 0 := fun e => by rw [← Nat.beq_eq, h3] at e; cases e
      simp only [cond_false]
      cases h4 : Nat.ble s.v s.u
      · have e4 : ¬ s.v ≤ s.u := by rw [← Nat.ble_eq, h4]; simp
        simp only [cond_false]
        refine ⟨⟨by first | omega | (simp only; omega), by first | omega | (simp only; omega), uN, xN, subM_lt hN, ux, sub_mul hN (by omega) vy ux, ?_⟩, by first | omega | (simp only; omega), .inl (by first | omega | (simp only; omega))⟩
        simp only
        rw [← g, Nat.gcd_comm, Nat.gcd_comm s.u]
        exact Nat.gcd_sub_self_left (by omega)
      · rw [Nat.ble_eq] at h4
        simp only [cond_true]
        refine ⟨⟨v0, vN, by first | omega | (simp only; omega), subM_lt hN, yN, sub_mul hN h4 ux vy, vy, ?_⟩, by first | omega | (simp only; omega), .inr (by first | omega | (simp only; omega))⟩
        simp only
        rw [← g]
        exact Nat.gcd_sub_self_left h4
    · rw [Nat.beq_eq] at h3
      have hh := halfV_two h1 yN
      simp only [cond_true]
      refine ⟨⟨by first | omega | (simp only; omega), by first | omega | (simp only; omega), uN, xN, hh.1, ux, ?_, ?_⟩, by first | omega | (simp only; omega), .inl (by first | omega | (simp only; omega))⟩
      · simp only
        refine two_cancel h1 ?_
        rw [show 2 * (s.v / 2) = s.v by omega, vy, ← Nat.mul_assoc]
        exact (cg A hh.2).symm
      · simp only
        rw [← g, Nat.gcd_comm, Nat.gcd_comm s.u]
        exact gcd_half h3 (by omega)
  · rw [Nat.beq_eq] at h2
    have hh := halfV_two h1 xN
    simp only [cond_true]
    refine ⟨⟨v0, vN, by first | omega | (simp only; omega), hh.1, yN, ?_, vy, ?_⟩, by first | omega | (simp only; omega), .inr (by first | omega | (simp only; omega))⟩
    · simp only
      refine two_cancel h1 ?_
      rw [show 2 * (s.u / 2) = s.u by omega, ux, ← Nat.mul_assoc]
      exact (cg A hh.2).symm
    · simp only
      rw [← g]
      exact gcd_half h2 (by omega)
theorem ISOk.start {N a : Nat} (h1 : N % 2 = 1) (hN : 1 < N) : ISOk N a ⟨a % N, N, 1, 0⟩ ∧ ((a % N) % 2 = 1 ∨ N % 2 = 1) :=
  ⟨⟨by first | omega | (simp only; omega), Nat.le_refl _, Nat.mod_lt _ (by omega), hN, by first | omega | (simp only; omega), by simp, by simp, by
    simp only
    rw [Nat.gcd_comm a, Nat.gcd_rec N a]⟩, .inr h1⟩
/-- Enough rounds: the first number is 0. -/
theorem invG_end {N A : Nat} (h1 : N % 2 = 1) : ∀ {k : Nat} {s : IS}, ISOk N A s → (s.u % 2 = 1 ∨ s.v % 2 = 1) → s.u + s.v ≤ k → ISOk N A (invG N k s) ∧ (invG N k s).u = 0
  | 0, s, h, _, hk => by have := h.v0; omega
  | k + 1, s, h, ho, hk => by
    simp only [invG]
    cases hb : Nat.beq s.u 0
    · have hu : s.u ≠ 0 := fun e => by rw [← Nat.beq_eq, hb] at e; cases e
      simp only [cond_false]
      obtain ⟨a, b, c⟩ := h.step h1 hu ho
      exact invG_end h1 a c (by omega)
    · rw [Nat.beq_eq] at hb
      simp only [cond_true]
      exact ⟨h, hb⟩
/-- More rounds change nothing. -/
theorem invG_more {N : Nat} : ∀ {k j : Nat} {s : IS}, (invG N k s).u = 0 → k ≤ j → invG N j s = invG N k s
  | 0, j, s, h, _ => by
    simp only [invG] at h
    cases j with
    | zero => rfl
    | succ j => simp only [invG, h]; rfl
  | k + 1, 0, _, _, hj => by omega
  | k + 1, j + 1, s, h, hj => by
    simp only [invG] at h ⊢
    cases hb : Nat.beq s.u 0
    · rw [hb] at h
      simp only [cond_false] at h ⊢
      exact invG_more h (by omega)
    · rfl
theorem invF_ok {N a : Nat} (h1 : N % 2 = 1) (hN : 1 < N) : ISOk N a (invF N a) ∧ (invF N a).u = 0 := by
  obtain ⟨h, ho⟩ := ISOk.start (a := a) h1 hN
  exact invG_end h1 h ho (Nat.le_refl _)
theorem invF_gcd {N a : Nat} (h1 : N % 2 = 1) (hN : 1 < N) : (invF N a).v = Nat.gcd a N := by
  obtain ⟨h, h0⟩ := invF_ok (a := a) h1 hN
  have := h.gcd
  rw [h0, Nat.gcd_zero_left] at this
  exact this
/-- The inverse. -/
theorem invV_mul {N a : Nat} (h1 : N % 2 = 1) (hN : 1 < N) (h : Nat.gcd a N = 1) : invE N a = 0 ∧ invV N a < N ∧ invV N a * a % N = 1 := by
  obtain ⟨hk, _⟩ := invF_ok (a := a) h1 hN
  have hv := invF_gcd (a := a) h1 hN
  rw [h] at hv
  have hb : Nat.beq (invF N a).v 1 = true := by rw [hv]; rfl
  have := hk.vy
  rw [hv, Nat.mod_eq_of_lt hN] at this
  unfold invE invV
  rw [hb]
  exact ⟨rfl, hk.yN, this.symm⟩
theorem invV_none {N a : Nat} (h1 : N % 2 = 1) (hN : 1 < N) (h : Nat.gcd a N ≠ 1) : invE N a = 6 ∧ invV N a = 0 := by
  have hv := invF_gcd (a := a) h1 hN
  have hb : Nat.beq (invF N a).v 1 = false := by rw [hv, ← Bool.not_eq_true, Nat.beq_eq]; exact h
  unfold invE invV
  rw [hb]
  exact ⟨rfl, rfl⟩

/-- From s on it comes to the inverse's end. -/
def ISTo (N A : Nat) (s : IS) : Prop := ISOk N A s ∧ (s.u % 2 = 1 ∨ s.v % 2 = 1) ∧ invG N (s.u + s.v) s = invF N A
theorem ISTo.start {N a : Nat} (h1 : N % 2 = 1) (hN : 1 < N) : ISTo N a ⟨a % N, N, 1, 0⟩ := ⟨(ISOk.start h1 hN).1, (ISOk.start h1 hN).2, rfl⟩
theorem ISTo.step {N A : Nat} {s : IS} (h1 : N % 2 = 1) (h : ISTo N A s) (hu : s.u ≠ 0) : ISTo N A (invS N s) ∧ (invS N s).u + (invS N s).v < s.u + s.v := by
  obtain ⟨h2, h3, h4⟩ := h
  obtain ⟨a, b, c⟩ := h2.step h1 hu h3
  refine ⟨⟨a, c, ?_⟩, b⟩
  have e0 := (invG_end h1 a c (Nat.le_refl _)).2
  have e1 := invG_more e0 (j := s.u + s.v) (by omega)
  have e2 := invG_more (invG_end h1 h2 h3 (Nat.le_refl _)).2 (j := s.u + s.v + 1) (by omega)
  have hb : Nat.beq s.u 0 = false := by rw [← Bool.not_eq_true, Nat.beq_eq]; exact hu
  have e3 : invG N (s.u + s.v + 1) s = invG N (s.u + s.v) (invS N s) := by simp only [invG, hb, cond_false]
  rw [← e1, ← e3, e2, h4]
theorem ISTo.fin {N A : Nat} {s : IS} (h : ISTo N A s) (hu : s.u = 0) : invF N A = s := by
  obtain ⟨h2, h3, h4⟩ := h
  rw [← h4]
  obtain ⟨k, hk⟩ : ∃ k, s.u + s.v = k + 1 := ⟨s.u + s.v - 1, by have := h2.v0; omega⟩
  rw [hk]
  simp only [invG, hu]
  rfl
end Go.Rq

/- The k-th loop of a list of codes. -/
namespace Go.Rq
open Go

def preK : Nat → List Code → List Code
  | 0, l => preL l
  | k + 1, l => preL l ++ (atL l :: preK k (postL l))
def atK : Nat → List Code → Code
  | 0, l => atL l
  | k + 1, l => atK k (postL l)
def postK : Nat → List Code → List Code
  | 0, l => postL l
  | k + 1, l => postK k (postL l)
def hasK : Nat → List Code → Bool
  | 0, l => hasL l
  | k + 1, l => match hasL l with
    | true => hasK k (postL l)
    | false => false
theorem atL_eq : ∀ {l : List Code}, hasL l = true → l = preL l ++ atL l :: postL l
  | [], h => by cases h
  | c :: r, h => by
    simp only [hasL] at h
    cases hc : isLoop c
    · simp only [preL, atL, postL, hc]
      rw [hc] at h
      exact congrArg (c :: ·) (atL_eq (l := r) h)
    · simp only [preL, atL, postL, hc, List.nil_append]
theorem splitK : ∀ {k : Nat} {l : List Code}, hasK k l = true → l = preK k l ++ .block (loopId (atK k l)) (.loop (loopOf (atK k l))) :: postK k l
  | 0, _, h => splitL h
  | k + 1, l, h => by
    simp only [hasK] at h
    cases hl : hasL l
    · rw [hl] at h; cases h
    · rw [hl] at h
      have h1 := atL_eq hl
      have h2 := splitK (k := k) (l := postL l) h
      simp only [preK, atK, postK, List.append_assoc, List.cons_append]
      rw [← h2]
      exact h1

theorem loopK {P : Program} {T : TT} {G : Ctx} {D : Nat → Prop} (hmx : P.follows .mixedOrders = true) (hT : TTOk P T) (hG : CtxOk P G) (kk : Nat) {l : List Code} (hl : hasK kk l = true) {Q : Exit → AS → Prop} {s0 : AS} {ι : Type} (ks : List Nat) (n m : Nat) (V : ι → List AV) (H : ι → Heap) (μ : ι → Nat) (E : ι → Prop)
    (hm : ∀ i, (H i).length = m) (hb : ∀ i, liveB (V i) (H i) = true) (hD : ∀ i j, D j → Dm (H i) j) (fuel : Nat) (hs : List Hint)
    (start : evS P T G fuel (preK kk l) (fun e s _ => StartE ks n m V H Q e s) s0 hs)
    (step : ∀ i junk, AWq P D (loopOf (atK kk l)) (RoundE (loopId (atK kk l)) ks n m V H μ i E Q) ⟨mkT ks (V i) n junk, H i⟩)
    (fin : ∀ j junk, E j → AWqS P D (postK kk l) Q ⟨mkT ks (V j) n junk, H j⟩) :
    AWqS P D l Q s0 := by
  rw [splitK hl]
  refine loopS ks n m V H μ E hm hb hD ((evS_q hmx hT hG fuel hs start).mono fun e s q => ?_) step fin
  cases e <;> exact q
end Go.Rq

/- Euclid's way, in few rounds. -/
namespace Go.Rq
open Go

def fibP : Nat → Nat × Nat
  | 0 => (0, 1)
  | n + 1 => ((fibP n).2, (fibP n).1 + (fibP n).2)
def fibN (n : Nat) : Nat := (fibP n).1
theorem fibN_add (n : Nat) : fibN (n + 2) = fibN n + fibN (n + 1) := rfl
theorem fib_big : R < fibN 602 := by
  have : Nat.blt R (fibN 602) = true := by kernel_rfl
  rw [Nat.blt_eq] at this
  exact this
/-- j rounds are enough. -/
structure EucI (A N j d r : Nat) : Prop where
  gcd : Nat.gcd d r = Nat.gcd A N
  lt : r < d
  few : d < fibN (j + 2) ∨ r < fibN (j + 1)
theorem EucI.start {A N : Nat} (h0 : 0 < N) (hN : N < R) : EucI A N 600 N (A % N) where
  gcd := by rw [Nat.gcd_comm A N, Nat.gcd_rec N A, Nat.gcd_comm]
  lt := Nat.mod_lt _ h0
  few := .inl (Nat.lt_trans hN fib_big)
theorem EucI.step {A N j d r : Nat} (h : EucI A N (j + 1) d r) (hr : 0 < r) : EucI A N j r (d % r) where
  gcd := by rw [← h.gcd, Nat.gcd_comm d r, Nat.gcd_rec r d, Nat.gcd_comm]
  lt := Nat.mod_lt _ hr
  few := by
    rcases h.few with h1 | h1
    · rw [show j + 1 + 2 = (j + 1) + 2 from rfl, fibN_add] at h1
      have h2 : r + d % r ≤ d := by
        have h3 := Nat.div_add_mod d r
        have h4 : 1 ≤ d / r := (Nat.one_le_div_iff hr).2 (Nat.le_of_lt h.lt)
        have h5 : r * 1 ≤ r * (d / r) := Nat.mul_le_mul_left _ h4
        omega
      by_cases h6 : r < fibN (j + 2)
      · exact .inl h6
      · exact .inr (by rw [show j + 1 + 1 = j + 2 from rfl] at h1; omega)
    · exact .inl h1
theorem EucI.zero {A N d r : Nat} (h : EucI A N 0 d r) : r = 0 := by
  have e1 : fibN 2 = 1 := rfl
  have e2 : fibN 1 = 1 := rfl
  rcases h.few with h1 | h1
  · rw [Nat.zero_add, e1] at h1
    have := h.lt; omega
  · rw [Nat.zero_add, e2] at h1; omega
theorem EucI.fin {A N j d : Nat} (h : EucI A N j d 0) : d = Nat.gcd A N := by
  have := h.gcd
  rw [Nat.gcd_zero_right] at this
  exact this
end Go.Rq

/- The document's ways by a modulus: plain facts. -/
namespace Go.Rq
open Go

theorem tw_step {N X r b : Nat} (h : r = X % N) : (2 * r + b) % N = (2 * X + b) % N := by
  rw [h, Nat.add_mod, Nat.mul_mod, Nat.mod_mod, ← Nat.mul_mod, ← Nat.add_mod]
theorem div_next (x k : Nat) : x / 2 ^ k = 2 * (x / 2 ^ (k + 1)) + x / 2 ^ k % 2 := by
  have hd : x / 2 ^ (k + 1) = x / 2 ^ k / 2 := by rw [Nat.div_div_eq_div_mul, Nat.pow_succ]
  rw [hd]; omega
/-- k bits are still to come. -/
def WiI (N h l k r : Nat) : Prop := r = (h * 2 ^ (E - k) + l / 2 ^ k) % N
def HiI (N h k r : Nat) : Prop := r = h / 2 ^ k % N
theorem HiI.start {N h : Nat} (hh : h < R) : HiI N h E 0 := by
  unfold HiI
  rw [Nat.div_eq_of_lt (by rw [← R_pow]; exact hh), Nat.zero_mod]
theorem HiI.step {N h k r : Nat} (hr : HiI N h (k + 1) r) : HiI N h k ((2 * r + h / 2 ^ k % 2) % N) := by
  unfold HiI at *
  rw [tw_step hr, ← div_next]
theorem HiI.fin {N h l r : Nat} (hr : HiI N h 0 r) (hl : l < R) : WiI N h l E r := by
  unfold HiI at hr
  unfold WiI
  rw [hr, Nat.div_eq_of_lt (show l < 2 ^ E by rw [← R_pow]; exact hl), Nat.sub_self, Nat.pow_zero, Nat.div_one, Nat.mul_one, Nat.add_zero]
theorem WiI.step {N h l k r : Nat} (hk : k < E) (hr : WiI N h l (k + 1) r) : WiI N h l k ((2 * r + l / 2 ^ k % 2) % N) := by
  unfold WiI at *
  rw [tw_step hr]
  congr 1
  have e : E - k = (E - (k + 1)) + 1 := by omega
  have := div_next l k
  rw [e]
  have e2 : h * 2 ^ (E - (k + 1) + 1) = 2 * (h * 2 ^ (E - (k + 1))) := by rw [Nat.pow_succ, Nat.mul_comm (2 ^ _) 2, Nat.mul_left_comm]
  rw [e2]
  omega
theorem WiI.fin {N h l r : Nat} (hr : WiI N h l 0 r) : r = (l + h * R) % N := by
  unfold WiI at hr
  rw [hr, Nat.pow_zero, Nat.div_one, Nat.sub_zero, ← R_pow, Nat.add_comm]
theorem HiI.lt {N h k r : Nat} (hN : 0 < N) (hr : HiI N h k r) : r < N := by unfold HiI at hr; rw [hr]; exact Nat.mod_lt _ hN
theorem WiI.lt {N h l k r : Nat} (hN : 0 < N) (hr : WiI N h l k r) : r < N := by unfold WiI at hr; rw [hr]; exact Nat.mod_lt _ hN

/-! powers -/
def PwI (N A e k o : Nat) : Prop := o = A ^ (e / 2 ^ k) % N
theorem PwI.start {N A e k : Nat} (h : e < 2 ^ k) : PwI N A e k (1 % N) := by
  unfold PwI
  rw [Nat.div_eq_of_lt h, Nat.pow_zero]
theorem PwI.step {N A e k o : Nat} (h : PwI N A e (k + 1) o) :
    (e / 2 ^ k % 2 = 0 → PwI N A e k (o * o % N)) ∧ (e / 2 ^ k % 2 = 1 → PwI N A e k (o * o % N * A % N)) := by
  have hd := div_next e k
  unfold PwI at *
  generalize e / 2 ^ (k + 1) = q at *
  have hs : o * o % N = A ^ (2 * q) % N := by
    rw [h, ← Nat.mul_mod, Nat.two_mul, Nat.pow_add]
  constructor
  · intro h0
    rw [h0] at hd
    rw [hs, hd, Nat.add_zero]
  · intro h0
    rw [h0] at hd
    rw [hs, hd, Nat.pow_succ, Nat.mod_mul_mod]
theorem PwI.fin {N A e o : Nat} (h : PwI N A e 0 o) : o = powM N A e := by
  unfold PwI at h
  unfold powM
  rw [h, Nat.pow_zero, Nat.div_one]

/-! the document's inverse -/
theorem add_cancel {N x y c : Nat} (h : (x + c) % N = (y + c) % N) : x % N = y % N := by
  have key : ∀ x y : Nat, x ≤ y → (x + c) % N = (y + c) % N → x % N = y % N := by
    intro x y hle h
    have h1 := Nat.sub_mod_eq_zero_of_mod_eq h.symm
    rw [Nat.add_sub_add_right] at h1
    have h2 : y = x + (y - x) := by omega
    rw [h2, Nat.add_mod, h1, Nat.add_zero, Nat.mod_mod]
  rcases Nat.le_total x y with hle | hle
  · exact key x y hle h
  · exact (key y x hle h.symm).symm
structure EiI (N A r s x y : Nat) : Prop where
  gcd : Nat.gcd r s = Nat.gcd A N
  lt : s < r
  le : r ≤ N
  hr : x * A % N = r % N
  hs : y * A % N = s % N
  hx : x < N
  hy : y < N
theorem EiI.start {N A : Nat} (h : 1 < N) : EiI N A N (A % N) 0 1 where
  gcd := by rw [Nat.gcd_comm A N, Nat.gcd_rec N A, Nat.gcd_comm]
  lt := Nat.mod_lt _ (by omega)
  le := Nat.le_refl _
  hr := by rw [Nat.zero_mul, Nat.zero_mod, Nat.mod_self]
  hs := by rw [Nat.one_mul, Nat.mod_mod]
  hx := by omega
  hy := h
theorem EiI.step {N A r s x y : Nat} (h : EiI N A r s x y) (h0 : 0 < s) : EiI N A s (r % s) y (subM N x (r / s * y % N)) where
  gcd := by rw [← h.gcd, Nat.gcd_comm r s, Nat.gcd_rec s r, Nat.gcd_comm]
  lt := Nat.mod_lt _ h0
  le := Nat.le_of_lt (Nat.lt_of_lt_of_le h.lt h.le)
  hr := h.hs
  hs := by
    have hN : 0 < N := by have := h.hx; omega
    have e1 : (subM N x (r / s * y % N) + r / s * y % N) * A % N = x * A % N := cg A (subM_add hN)
    have e2 : (r / s * y % N) * A % N = r / s * s % N := by
      rw [Nat.mod_mul_mod, Nat.mul_assoc, cg' (r / s) h.hs]
    refine add_cancel (c := r / s * s) ?_
    rw [Nat.mod_add_div' r s, ← h.hr, ← e1, Nat.add_mul]
    rw [Nat.add_mod, Nat.add_mod (subM N x (r / s * y % N) * A) (r / s * y % N * A), e2]
  hx := h.hy
  hy := subM_lt (by have := h.hx; omega)
theorem EiI.fin {N A r x y : Nat} (h1 : N % 2 = 1) (hN : 1 < N) (h : EiI N A r 0 x y) : (r = 1 → x = invV N A ∧ invE N A = 0) ∧ (r ≠ 1 → invV N A = 0 ∧ invE N A = 6) := by
  have hg := h.gcd
  rw [Nat.gcd_zero_right] at hg
  constructor
  · intro e
    rw [e] at hg
    obtain ⟨v1, v2, v3⟩ := invV_mul h1 hN hg.symm
    refine ⟨?_, v1⟩
    have hx := h.hr
    rw [e, Nat.mod_eq_of_lt hN] at hx
    have e1 : x * (invV N A * A) % N = x % N := by rw [cg' x (y := 1) (by rw [v3, Nat.mod_eq_of_lt hN]), Nat.mul_one]
    have e2 : invV N A * (x * A) % N = invV N A % N := by rw [cg' (invV N A) (y := 1) (by rw [hx, Nat.mod_eq_of_lt hN]), Nat.mul_one]
    have e3 : x * (invV N A * A) = invV N A * (x * A) := by rw [← Nat.mul_assoc, ← Nat.mul_assoc, Nat.mul_comm x]
    rw [e3, e2, Nat.mod_eq_of_lt v2, Nat.mod_eq_of_lt h.hx] at e1
    exact e1.symm
  · intro e
    rw [hg] at e
    obtain ⟨v1, v2⟩ := invV_none h1 hN e
    exact ⟨v2, v1⟩
end Go.Rq

/- Primes: Fermat, also for Gauss's numbers; what makes a number a prime. -/
namespace Go.Rq
open Go

/-! primes -/
def Pr (n : Nat) : Prop := 1 < n ∧ ∀ d, d ∣ n → d = 1 ∨ d = n
theorem Pr.cop {s m : Nat} (h : Pr s) (h0 : 0 < m) (h1 : m < s) : Nat.Coprime s m := by
  rcases h.2 _ (Nat.gcd_dvd_left s m) with e | e
  · exact e
  · have := Nat.le_of_dvd h0 (Nat.gcd_dvd_right s m)
    omega
theorem Pr.cop' {s m : Nat} (h : Pr s) (h0 : ¬ s ∣ m) : Nat.Coprime s m := by
  rcases h.2 _ (Nat.gcd_dvd_left s m) with e | e
  · exact e
  · exact absurd (e ▸ Nat.gcd_dvd_right s m) h0
theorem pr_div : ∀ n : Nat, 1 < n → ∃ s, Pr s ∧ s ∣ n := by
  intro n
  induction n using Nat.strongRecOn with
  | ind n ih =>
    intro h
    by_cases hp : Pr n
    · exact ⟨n, hp, Nat.dvd_refl n⟩
    · have : ∃ d, d ∣ n ∧ d ≠ 1 ∧ d ≠ n := by
        refine Classical.byContradiction fun hc => hp ⟨h, fun d hd => ?_⟩
        refine Classical.byContradiction fun hh => hc ⟨d, hd, fun e => hh (.inl e), fun e => hh (.inr e)⟩
      obtain ⟨d, hd, h1, hn⟩ := this
      have hle := Nat.le_of_dvd (by omega) hd
      have h0 : d ≠ 0 := fun e => by rw [e] at hd; have := Nat.eq_zero_of_zero_dvd hd; omega
      obtain ⟨s, hs, hsd⟩ := ih d (by omega) (by omega)
      exact ⟨s, hs, Nat.dvd_trans hsd hd⟩
theorem pr_of {n : Nat} (h : 1 < n) (hs : ∀ s, Pr s → s ∣ n → n < s * s) : Pr n := by
  refine ⟨h, fun d hd => ?_⟩
  refine Classical.byContradiction fun hc => ?_
  obtain ⟨e, he⟩ := hd
  have hd1 : d ≠ 1 := fun e => hc (.inl e)
  have hdn : d ≠ n := fun e => hc (.inr e)
  have hd0 : d ≠ 0 := fun e' => by rw [e', Nat.zero_mul] at he; omega
  have he0 : e ≠ 0 := fun e' => by rw [e', Nat.mul_zero] at he; omega
  have he1 : e ≠ 1 := fun e' => by rw [e', Nat.mul_one] at he; exact hdn he.symm
  obtain ⟨s, hs1, hs2⟩ := pr_div d (by omega)
  obtain ⟨t, ht1, ht2⟩ := pr_div e (by omega)
  have k1 := hs s hs1 (Nat.dvd_trans hs2 ⟨e, he⟩)
  have k2 := hs t ht1 (Nat.dvd_trans ht2 ⟨d, by rw [he, Nat.mul_comm]⟩)
  have l1 := Nat.le_of_dvd (by omega) hs2
  have l2 := Nat.le_of_dvd (by omega) ht2
  have m1 : s * s ≤ d * d := Nat.mul_le_mul l1 l1
  have m2 : t * t ≤ e * e := Nat.mul_le_mul l2 l2
  rcases Nat.le_total d e with hde | hde
  · have : d * d ≤ d * e := Nat.mul_le_mul_left _ hde
    omega
  · have : e * e ≤ d * e := Nat.mul_le_mul_right _ hde
    omega

/-! numbers of pairs -/
def chs : Nat → Nat → Nat
  | _, 0 => 1
  | 0, _ + 1 => 0
  | n + 1, k + 1 => chs n k + chs n (k + 1)
theorem chs_zero (n : Nat) : chs n 0 = 1 := by cases n <;> rfl
theorem chs_big : ∀ {n k : Nat}, n < k → chs n k = 0
  | 0, k + 1, _ => rfl
  | n + 1, k + 1, h => by
    show chs n k + chs n (k + 1) = 0
    rw [chs_big (by omega), chs_big (by omega)]
theorem chs_self : ∀ n : Nat, chs n n = 1
  | 0 => rfl
  | n + 1 => by
    show chs n n + chs n (n + 1) = 1
    rw [chs_self n, chs_big (by omega)]
theorem chs_mul : ∀ n k : Nat, (k + 1) * chs (n + 1) (k + 1) = (n + 1) * chs n k
  | 0, 0 => rfl
  | 0, k + 1 => by
    show (k + 1 + 1) * (chs 0 (k + 1) + chs 0 (k + 2)) = (0 + 1) * chs 0 (k + 1)
    simp [chs]
  | n + 1, 0 => by
    have := chs_mul n 0
    show (0 + 1) * (chs (n + 1) 0 + chs (n + 1) 1) = (n + 1 + 1) * chs (n + 1) 0
    simp only [chs_zero, Nat.zero_add] at *
    omega
  | n + 1, k + 1 => by
    have h1 := chs_mul n k
    have h2 := chs_mul n (k + 1)
    have e3 : chs (n + 1) (k + 1) = chs n k + chs n (k + 1) := rfl
    show (k + 1 + 1) * (chs (n + 1) (k + 1) + chs (n + 1) (k + 2)) = (n + 1 + 1) * chs (n + 1) (k + 1)
    have e4 : (k + 1 + 1) * chs (n + 1) (k + 2) = (n + 1) * chs n (k + 1) := h2
    rw [Nat.mul_add, e4, Nat.add_mul (k + 1) 1, h1, Nat.one_mul, Nat.add_mul (n + 1) 1, Nat.one_mul]
    rw [show (n + 1) * chs (n + 1) (k + 1) = (n + 1) * chs n k + (n + 1) * chs n (k + 1) by rw [e3, Nat.mul_add]]
    omega
theorem chs_dvd {s k : Nat} (h : Pr s) (hk : k + 1 < s) : s ∣ chs s (k + 1) := by
  obtain ⟨n, rfl⟩ : ∃ n, s = n + 1 := ⟨s - 1, by have := h.1; omega⟩
  refine Nat.Coprime.dvd_of_dvd_mul_left (h.cop (m := k + 1) (by omega) hk) ⟨chs n k, chs_mul n k⟩

/-! Gauss's numbers -/
structure GI where
  re : Int
  im : Int
theorem GI.ext {x y : GI} (h1 : x.re = y.re) (h2 : x.im = y.im) : x = y := by cases x; cases y; simp_all
namespace GI
def add (x y : GI) : GI := ⟨x.re + y.re, x.im + y.im⟩
def mul (x y : GI) : GI := ⟨x.re * y.re - x.im * y.im, x.re * y.im + x.im * y.re⟩
def sc (c : Int) (x : GI) : GI := ⟨c * x.re, c * x.im⟩
def one : GI := ⟨1, 0⟩
def cj (x : GI) : GI := ⟨x.re, -x.im⟩
def pow (x : GI) : Nat → GI
  | 0 => one
  | n + 1 => mul x (pow x n)
theorem mul_comm (x y : GI) : mul x y = mul y x := GI.ext (by simp only [mul]; grind) (by simp only [mul]; grind)
theorem mul_assoc (x y z : GI) : mul (mul x y) z = mul x (mul y z) := GI.ext (by simp only [mul]; grind) (by simp only [mul]; grind)
theorem one_mul (x : GI) : mul one x = x := GI.ext (by simp only [mul, one]; grind) (by simp only [mul, one]; grind)
theorem mul_one (x : GI) : mul x one = x := by rw [mul_comm, one_mul]
theorem pow_add (x : GI) (a : Nat) : ∀ b, pow x (a + b) = mul (pow x a) (pow x b)
  | 0 => by rw [Nat.add_zero]; exact (mul_one _).symm
  | b + 1 => by
    show mul x (pow x (a + b)) = mul (pow x a) (mul x (pow x b))
    rw [pow_add x a b, ← mul_assoc, ← mul_assoc, mul_comm x]
theorem pow_one (x : GI) : pow x 1 = x := mul_one x
theorem one_pow : ∀ n, pow one n = one
  | 0 => rfl
  | n + 1 => by show mul one (pow one n) = one; rw [one_pow n, one_mul]
theorem pow_mul (x : GI) (a : Nat) : ∀ b, pow x (a * b) = pow (pow x a) b
  | 0 => rfl
  | b + 1 => by
    rw [Nat.mul_succ, Nat.add_comm, pow_add, pow_mul x a b]; rfl
theorem mul_pow (x y : GI) : ∀ n, pow (mul x y) n = mul (pow x n) (pow y n)
  | 0 => (mul_one one).symm
  | n + 1 => by
    show mul (mul x y) (pow (mul x y) n) = mul (mul x (pow x n)) (mul y (pow y n))
    rw [mul_pow x y n, mul_assoc, mul_assoc, ← mul_assoc y, mul_comm y, mul_assoc (pow x n)]

/-! the sum of powers -/
def bT (x y : GI) (n : Nat) : Nat → GI
  | 0 => one
  | k + 1 => add (mul y (bT x y n k)) (sc (chs n (k + 1)) (pow x (k + 1)))
theorem bT_step (x y : GI) (n : Nat) : ∀ k, bT x y (n + 1) (k + 1) = add (bT x y n (k + 1)) (mul x (bT x y n k))
  | 0 => by
    simp only [bT, pow]
    rw [show chs (n + 1) (0 + 1) = chs n 0 + chs n 1 from rfl, chs_zero]
    refine GI.ext ?_ ?_ <;> simp only [add, mul, sc, one, Int.natCast_add] <;> grind
  | k + 1 => by
    have ih := bT_step x y n k
    show add (mul y (bT x y (n + 1) (k + 1))) (sc (chs (n + 1) (k + 2)) (pow x (k + 2))) = add (add (mul y (bT x y n (k + 1))) (sc (chs n (k + 2)) (pow x (k + 2)))) (mul x (bT x y n (k + 1)))
    rw [ih]
    have e1 : bT x y n (k + 1) = add (mul y (bT x y n k)) (sc (chs n (k + 1)) (pow x (k + 1))) := rfl
    have e2 : chs (n + 1) (k + 2) = chs n (k + 1) + chs n (k + 2) := rfl
    have e3 : pow x (k + 2) = mul x (pow x (k + 1)) := rfl
    rw [e2, e3]
    generalize pow x (k + 1) = P at *
    generalize bT x y n k = B at *
    generalize bT x y n (k + 1) = C at *
    generalize chs n (k + 1) = c at *
    generalize chs n (k + 2) = d at *
    subst e1
    refine GI.ext ?_ ?_ <;> simp only [add, mul, sc, Int.natCast_add] <;> grind
theorem bT_pow (x y : GI) : ∀ n, bT x y n n = pow (add x y) n
  | 0 => rfl
  | n + 1 => by
    rw [bT_step]
    show add (add (mul y (bT x y n n)) (sc (chs n (n + 1)) (pow x (n + 1)))) (mul x (bT x y n n)) = mul (add x y) (pow (add x y) n)
    rw [chs_big (by omega), bT_pow x y n]
    generalize pow (add x y) n = P
    generalize pow x (n + 1) = Q
    refine GI.ext ?_ ?_ <;> simp only [add, mul, sc] <;> grind

/-! by a modulus -/
def cg (s : Nat) (x y : GI) : Prop := ∃ K : GI, x = add y (sc s K)
theorem cg_refl (s : Nat) (x : GI) : cg s x x := ⟨⟨0, 0⟩, GI.ext (by simp [add, sc]) (by simp [add, sc])⟩
theorem cg_symm {s : Nat} {x y : GI} (h : cg s x y) : cg s y x := by
  obtain ⟨K, rfl⟩ := h
  exact ⟨⟨-K.re, -K.im⟩, GI.ext (by simp only [add, sc]; grind) (by simp only [add, sc]; grind)⟩
theorem cg_trans {s : Nat} {x y z : GI} (h : cg s x y) (h2 : cg s y z) : cg s x z := by
  obtain ⟨K, rfl⟩ := h
  obtain ⟨L, rfl⟩ := h2
  exact ⟨add K L, GI.ext (by simp only [add, sc]; grind) (by simp only [add, sc]; grind)⟩
theorem cg_mul {s : Nat} {x y z w : GI} (h : cg s x y) (h2 : cg s z w) : cg s (mul x z) (mul y w) := by
  obtain ⟨K, rfl⟩ := h
  obtain ⟨L, rfl⟩ := h2
  exact ⟨add (mul K w) (add (mul y L) (sc s (mul K L))), GI.ext (by simp only [add, sc, mul]; grind) (by simp only [add, sc, mul]; grind)⟩
theorem cg_add {s : Nat} {x y z w : GI} (h : cg s x y) (h2 : cg s z w) : cg s (add x z) (add y w) := by
  obtain ⟨K, rfl⟩ := h
  obtain ⟨L, rfl⟩ := h2
  exact ⟨add K L, GI.ext (by simp only [add, sc]; grind) (by simp only [add, sc]; grind)⟩
theorem cg_pow {s : Nat} {x y : GI} (h : cg s x y) : ∀ n, cg s (pow x n) (pow y n)
  | 0 => cg_refl s one
  | n + 1 => cg_mul h (cg_pow h n)
theorem cg_dvd {s n : Nat} (hd : s ∣ n) {x y : GI} (h : cg n x y) : cg s x y := by
  obtain ⟨m, rfl⟩ := hd
  obtain ⟨K, rfl⟩ := h
  exact ⟨sc m K, GI.ext (by simp only [add, sc, Int.natCast_mul]; grind) (by simp only [add, sc, Int.natCast_mul]; grind)⟩

theorem bT_cg {s : Nat} (hs : Pr s) (x y : GI) : ∀ k, k < s → cg s (bT x y s k) (pow y k)
  | 0, _ => cg_refl s one
  | k + 1, h => by
    have ih := bT_cg hs x y k (by omega)
    obtain ⟨m, hm⟩ := chs_dvd hs h
    have e : bT x y s (k + 1) = add (mul y (bT x y s k)) (sc (chs s (k + 1)) (pow x (k + 1))) := rfl
    rw [e, hm]
    refine cg_trans (cg_add (cg_mul (cg_refl s y) ih) (w := ⟨0, 0⟩) ⟨sc m (pow x (k + 1)), ?_⟩) ⟨⟨0, 0⟩, ?_⟩
    · refine GI.ext ?_ ?_ <;> simp only [add, sc, Int.natCast_mul] <;> grind
    · refine GI.ext ?_ ?_ <;> simp only [add, sc, pow] <;> grind
theorem frob {s : Nat} (hs : Pr s) (x y : GI) : cg s (pow (add x y) s) (add (pow x s) (pow y s)) := by
  obtain ⟨n, rfl⟩ : ∃ n, s = n + 1 := ⟨s - 1, by have := hs.1; omega⟩
  rw [← bT_pow]
  show cg (n + 1) (add (mul y (bT x y (n + 1) n)) (sc (chs (n + 1) (n + 1)) (pow x (n + 1)))) _
  rw [chs_self]
  refine cg_trans (cg_add (cg_mul (cg_refl _ y) (bT_cg hs x y n (by omega))) (cg_refl _ _)) ⟨⟨0, 0⟩, ?_⟩
  show add (pow y (n + 1)) _ = _
  refine GI.ext ?_ ?_ <;> simp only [add, sc] <;> grind
def nat (a : Nat) : GI := ⟨a, 0⟩
theorem fermat {s : Nat} (hs : Pr s) : ∀ a : Nat, cg s (pow (nat a) s) (nat a)
  | 0 => by
    obtain ⟨n, rfl⟩ : ∃ n, s = n + 1 := ⟨s - 1, by have := hs.1; omega⟩
    have : pow (nat 0) (n + 1) = nat 0 := by
      show mul (nat 0) (pow (nat 0) n) = nat 0
      refine GI.ext ?_ ?_ <;> simp [mul, nat]
    rw [this]; exact cg_refl _ _
  | a + 1 => by
    have e : nat (a + 1) = add (nat a) one := by refine GI.ext ?_ ?_ <;> simp [add, nat, one]
    rw [e]
    refine cg_trans (frob hs (nat a) one) ?_
    rw [one_pow]
    exact cg_add (fermat hs a) (cg_refl _ _)
def gi : GI := ⟨0, 1⟩
theorem gi_pow : ∀ k : Nat, pow gi (4 * k) = one
  | 0 => rfl
  | k + 1 => by
    rw [show 4 * (k + 1) = 4 + 4 * k by omega, pow_add, gi_pow k]
    rfl
theorem gfrob {s : Nat} (hs : Pr s) (u v : Nat) : (s % 4 = 1 → cg s (pow ⟨u, v⟩ s) ⟨u, v⟩) ∧ (s % 4 = 3 → cg s (pow ⟨u, v⟩ s) (cj ⟨u, v⟩)) := by
  have e : (⟨u, v⟩ : GI) = add (nat u) (mul (nat v) gi) := by refine GI.ext ?_ ?_ <;> simp [add, mul, nat, gi]
  have h1 : cg s (pow ⟨u, v⟩ s) (add (nat u) (mul (nat v) (pow gi s))) := by
    rw [e]
    refine cg_trans (frob hs _ _) (cg_add (fermat hs u) ?_)
    rw [mul_pow]
    exact cg_mul (fermat hs v) (cg_refl _ _)
  constructor
  · intro h4
    rw [show s = 4 * (s / 4) + 1 by omega, pow_add gi, gi_pow, one_mul] at h1
    rw [← show s = 4 * (s / 4) + 1 by omega] at h1
    have : add (nat u) (mul (nat v) (pow gi 1)) = ⟨u, v⟩ := by rw [e]; rfl
    rwa [this] at h1
  · intro h4
    rw [show s = 4 * (s / 4) + 3 by omega, pow_add gi, gi_pow, one_mul] at h1
    rw [← show s = 4 * (s / 4) + 3 by omega] at h1
    have : add (nat u) (mul (nat v) (pow gi 3)) = cj ⟨u, v⟩ := by
      refine GI.ext ?_ ?_ <;> simp [add, mul, nat, gi, pow, one, cj]
    rwa [this] at h1
/-- Powers that are 1. -/
theorem pow_gcd {s : Nat} (x : GI) : ∀ a b : Nat, cg s (pow x a) one → cg s (pow x b) one → cg s (pow x (Nat.gcd a b)) one := by
  intro a b
  induction a, b using Nat.gcd.induction with
  | H0 b => intro _ h; rw [Nat.gcd_zero_left]; exact h
  | H1 a b ha ih =>
    intro h1 h2
    rw [Nat.gcd_rec]
    refine ih ?_ h1
    have e : pow x b = mul (pow (pow x a) (b / a)) (pow x (b % a)) := by rw [← pow_mul, ← pow_add, Nat.div_add_mod]
    rw [e] at h2
    have h3 : cg s (mul (pow (pow x a) (b / a)) (pow x (b % a))) (mul one (pow x (b % a))) := by
      have := cg_pow h1 (b / a)
      rw [one_pow] at this
      exact cg_mul this (cg_refl _ _)
    rw [one_mul] at h3
    exact cg_trans (cg_symm h3) h2
theorem ord_dvd {s q m : Nat} (hq : Pr q) (x : GI) (h1 : cg s (pow x q) one) (hm : cg s (pow x m) one) (hn : ¬ cg s x one) : q ∣ m := by
  refine Classical.byContradiction fun hd => hn ?_
  have := pow_gcd x q m h1 hm
  rw [show Nat.gcd q m = 1 from hq.cop' hd, pow_one] at this
  exact this
end GI
end Go.Rq

/- How a number is shown to be a prime. -/
namespace Go.Rq
open Go

theorem Pr.two {s n : Nat} (_ : Pr s) (hd : s ∣ n) (hn : n % 2 = 1) : s % 4 = 1 ∨ s % 4 = 3 := by
  have : s % 2 ≠ 0 := fun e => by
    have h2 : 2 ∣ n := Nat.dvd_trans (Nat.dvd_of_mod_eq_zero e) hd
    have := Nat.mod_eq_zero_of_dvd h2
    omega
  omega

/-! pairs by a modulus -/
def gmM (n : Nat) (x y : Nat × Nat) : Nat × Nat := ((x.1 * y.1 + (n - x.2 * y.2 % n)) % n, (x.1 * y.2 + x.2 * y.1) % n)
def gpM (n : Nat) (x : Nat × Nat) : Nat → Nat → Nat × Nat
  | 0, _ => (1, 0)
  | k + 1, e => bif Nat.beq (e % 2) 1 then gmM n (gmM n (gpM n x k (e / 2)) (gpM n x k (e / 2))) x else gmM n (gpM n x k (e / 2)) (gpM n x k (e / 2))
def toG (x : Nat × Nat) : GI := ⟨x.1, x.2⟩
theorem gmM_cg {n : Nat} (hn : 0 < n) (x y : Nat × Nat) : GI.cg n (toG (gmM n x y)) (GI.mul (toG x) (toG y)) := by
  obtain ⟨a, b⟩ := x
  obtain ⟨c, d⟩ := y
  unfold gmM toG
  simp only
  refine ⟨⟨1 + ((b * d / n : Nat) : Int) - (((a * c + (n - b * d % n)) / n : Nat) : Int), - (((a * d + b * c) / n : Nat) : Int)⟩, ?_⟩
  have h1 := Nat.div_add_mod (a * c + (n - b * d % n)) n
  have h2 := Nat.div_add_mod (b * d) n
  have h3 := Nat.div_add_mod (a * d + b * c) n
  have h4 : b * d % n ≤ n := Nat.le_of_lt (Nat.mod_lt _ hn)
  refine GI.ext ?_ ?_
  · simp only [GI.add, GI.sc, GI.mul]
    generalize (a * c + (n - b * d % n)) / n = q1 at *
    generalize (a * c + (n - b * d % n)) % n = r1 at *
    generalize b * d / n = q2 at *
    generalize b * d % n = r2 at *
    have e1 : (n : Int) * q1 + r1 = a * c + (n - r2) := by
      rw [← Int.natCast_sub h4]
      exact_mod_cast h1
    have e2 : (n : Int) * q2 + r2 = b * d := by exact_mod_cast h2
    grind
  · simp only [GI.add, GI.sc, GI.mul]
    generalize (a * d + b * c) / n = q1 at *
    generalize (a * d + b * c) % n = r1 at *
    have e1 : (n : Int) * q1 + r1 = a * d + b * c := by exact_mod_cast h3
    grind
theorem gpM_cg {n : Nat} (hn : 0 < n) (x : Nat × Nat) : ∀ k e, e < 2 ^ k → GI.cg n (toG (gpM n x k e)) (GI.pow (toG x) e)
  | 0, e, h => by
    have : e = 0 := by simpa using h
    subst this
    exact GI.cg_refl _ _
  | k + 1, e, h => by
    have ih := gpM_cg hn x k (e / 2) (by rw [Nat.pow_succ] at h; omega)
    have h2 : GI.cg n (toG (gmM n (gpM n x k (e / 2)) (gpM n x k (e / 2)))) (GI.pow (toG x) (e / 2 + e / 2)) := by
      rw [GI.pow_add]
      exact GI.cg_trans (gmM_cg hn _ _) (GI.cg_mul ih ih)
    show GI.cg n (toG (bif Nat.beq (e % 2) 1 then _ else _)) _
    cases hb : Nat.beq (e % 2) 1
    · have : e % 2 ≠ 1 := fun e' => by rw [← Nat.beq_eq, hb] at e'; cases e'
      rw [cond_false]
      rwa [show e / 2 + e / 2 = e by omega] at h2
    · rw [Nat.beq_eq] at hb
      rw [cond_true]
      have e1 : GI.pow (toG x) e = GI.mul (GI.pow (toG x) (e / 2 + e / 2)) (toG x) := by
        rw [GI.mul_comm]
        show _ = GI.pow (toG x) (e / 2 + e / 2 + 1)
        rw [show e / 2 + e / 2 + 1 = e by omega]
      rw [e1]
      exact GI.cg_trans (gmM_cg hn _ _) (GI.cg_mul h2 (GI.cg_refl _ _))

/-- A row of a proof: u + v i to the power q is 1, less 1 it has an inverse (t inverts its norm). -/
def pRow (n k q u v t : Nat) : Bool :=
  Nat.blt q (2 ^ k) && Nat.beq (gpM n (u, v) k q).1 1 && Nat.beq (gpM n (u, v) k q).2 0 && Nat.beq (t * ((u + (n - 1)) * (u + (n - 1)) + v * v) % n) 1
theorem row_ord {n k q u v t s m : Nat} (hn : 1 < n) (hq : Pr q) (h : pRow n k q u v t = true) (hs : Pr s) (hd : s ∣ n)
    (hm : GI.cg s (GI.pow ⟨u, v⟩ m) GI.one) : GI.cg s (GI.pow ⟨u, v⟩ q) GI.one ∧ q ∣ m := by
  unfold pRow at h
  simp only [Bool.and_eq_true, Nat.beq_eq, Nat.blt_eq] at h
  obtain ⟨⟨⟨h1, h2⟩, h3⟩, h4⟩ := h
  have hp := gpM_cg (n := n) (by omega) (u, v) k q h1
  have e : toG (gpM n (u, v) k q) = GI.one := by
    unfold toG; rw [h2, h3]; rfl
  rw [e] at hp
  have hq1 : GI.cg s (GI.pow ⟨u, v⟩ q) GI.one := GI.cg_dvd hd (GI.cg_symm hp)
  refine ⟨hq1, GI.ord_dvd hq ⟨u, v⟩ hq1 hm fun hc => ?_⟩
  obtain ⟨K, hK⟩ := hc
  obtain ⟨m', rfl⟩ := hd
  have r1 : (u : Int) = 1 + s * K.re := congrArg GI.re hK
  have r2 : (v : Int) = 0 + s * K.im := congrArg GI.im hK
  have hmod := Nat.div_add_mod (t * ((u + (s * m' - 1)) * (u + (s * m' - 1)) + v * v)) (s * m')
  rw [h4] at hmod
  generalize t * ((u + (s * m' - 1)) * (u + (s * m' - 1)) + v * v) / (s * m') = Q at hmod
  have hI : ((s : Int) * m') * Q + 1 = t * ((u + (s * m' - 1)) * (u + (s * m' - 1)) + v * v) := by
    have hle : 1 ≤ s * m' := by omega
    have hc : ((s * m' - 1 : Nat) : Int) = (s : Int) * m' - 1 := by
      rw [Int.natCast_sub hle, Int.natCast_mul]; rfl
    rw [← hc]
    exact_mod_cast hmod
  have hdv : (s : Int) ∣ 1 := by
    refine ⟨(t : Int) * ((K.re + m') * (s * K.re + s * m') + K.im * (s * K.im)) - m' * Q, ?_⟩
    rw [r1, r2] at hI
    grind
  have h1s := Int.le_of_dvd (by omega) hdv
  have := hs.1
  omega

/-! the two proofs -/
theorem row_p {n k q u t s : Nat} (hn : 1 < n) (h2 : n % 2 = 1) (hq : Pr q) (h : pRow n k q u 0 t = true) (hs : Pr s) (hd : s ∣ n) : q ∣ s - 1 := by
  have hf : GI.cg s (GI.pow ⟨u, ((0 : Nat) : Int)⟩ s) ⟨u, ((0 : Nat) : Int)⟩ := by
    rcases hs.two hd h2 with h4 | h4
    · exact (GI.gfrob hs u 0).1 h4
    · have := (GI.gfrob hs u 0).2 h4
      have e : GI.cj ⟨u, ((0 : Nat) : Int)⟩ = ⟨u, ((0 : Nat) : Int)⟩ := by refine GI.ext ?_ ?_ <;> simp [GI.cj]
      rw [e] at this
      exact this
  have hq1 := (row_ord (v := 0) (m := 0) hn hq h hs hd (GI.cg_refl _ _)).1
  refine (row_ord (v := 0) (m := s - 1) hn hq h hs hd ?_).2
  have hs1 := hs.1
  have hq0 := hq.1
  have e1 : GI.pow ⟨u, ((0 : Nat) : Int)⟩ q = GI.mul ⟨u, ((0 : Nat) : Int)⟩ (GI.pow ⟨u, ((0 : Nat) : Int)⟩ (q - 1)) := by
    show _ = GI.pow _ (q - 1 + 1)
    rw [show q - 1 + 1 = q by omega]
  have e2 : GI.pow ⟨u, ((0 : Nat) : Int)⟩ s = GI.mul ⟨u, ((0 : Nat) : Int)⟩ (GI.pow ⟨u, ((0 : Nat) : Int)⟩ (s - 1)) := by
    show _ = GI.pow _ (s - 1 + 1)
    rw [show s - 1 + 1 = s by omega]
  rw [e1] at hq1
  rw [e2] at hf
  generalize GI.pow ⟨u, ((0 : Nat) : Int)⟩ (s - 1) = P at *
  generalize GI.pow ⟨u, ((0 : Nat) : Int)⟩ (q - 1) = Q at *
  have h3 : GI.cg s (GI.mul (GI.mul ⟨u, ((0 : Nat) : Int)⟩ P) Q) (GI.mul ⟨u, ((0 : Nat) : Int)⟩ Q) := GI.cg_mul hf (GI.cg_refl _ _)
  have e3 : GI.mul (GI.mul ⟨u, ((0 : Nat) : Int)⟩ P) Q = GI.mul P (GI.mul ⟨u, ((0 : Nat) : Int)⟩ Q) := by
    rw [GI.mul_comm ⟨u, ((0 : Nat) : Int)⟩ P, GI.mul_assoc]
  rw [e3] at h3
  have h4 := GI.cg_trans (GI.cg_symm (GI.cg_mul (GI.cg_refl s P) hq1)) (GI.cg_trans h3 hq1)
  rwa [GI.mul_one] at h4
theorem row_m {n k q u v t s : Nat} (hn : 1 < n) (hq : Pr q) (h : pRow n k q u v t = true) (hno : Nat.beq ((u * u + v * v) % n) 1 = true) (hs : Pr s) (hd : s ∣ n) :
    (s % 4 = 1 → q ∣ s - 1) ∧ (s % 4 = 3 → q ∣ s + 1) := by
  have hs1 := hs.1
  have hN : GI.cg s (GI.mul ⟨u, v⟩ (GI.cj ⟨u, v⟩)) GI.one := by
    rw [Nat.beq_eq] at hno
    have hmod := Nat.div_add_mod (u * u + v * v) n
    rw [hno] at hmod
    refine GI.cg_dvd hd ⟨⟨(((u * u + v * v) / n : Nat) : Int), 0⟩, ?_⟩
    generalize (u * u + v * v) / n = Q at *
    have hI : (n : Int) * Q + 1 = u * u + v * v := by exact_mod_cast hmod
    refine GI.ext ?_ ?_ <;> simp only [GI.mul, GI.cj, GI.add, GI.sc, GI.one] <;> grind
  have e2 : GI.pow ⟨u, v⟩ s = GI.mul ⟨u, v⟩ (GI.pow ⟨u, v⟩ (s - 1)) := by
    show _ = GI.pow _ (s - 1 + 1)
    rw [show s - 1 + 1 = s by omega]
  constructor
  · intro h4
    refine (row_ord (m := s - 1) hn hq h hs hd ?_).2
    have hf := (GI.gfrob hs u v).1 h4
    rw [e2] at hf
    generalize GI.pow ⟨(u : Int), v⟩ (s - 1) = P at *
    have h3 := GI.cg_mul hf (GI.cg_refl s (GI.cj ⟨u, v⟩))
    have e3 : GI.mul (GI.mul ⟨u, v⟩ P) (GI.cj ⟨u, v⟩) = GI.mul P (GI.mul ⟨u, v⟩ (GI.cj ⟨u, v⟩)) := by
      rw [GI.mul_comm ⟨u, v⟩ P, GI.mul_assoc]
    rw [e3] at h3
    have h5 := GI.cg_trans (GI.cg_symm (GI.cg_mul (GI.cg_refl s P) hN)) (GI.cg_trans h3 hN)
    rwa [GI.mul_one] at h5
  · intro h4
    refine (row_ord (m := s + 1) hn hq h hs hd ?_).2
    have hf := (GI.gfrob hs u v).2 h4
    show GI.cg s (GI.mul ⟨u, v⟩ (GI.pow ⟨u, v⟩ s)) GI.one
    exact GI.cg_trans (GI.cg_mul (GI.cg_refl s _) hf) hN
def lcmL : List Nat → Nat
  | [] => 1
  | q :: r => Nat.lcm q (lcmL r)
theorem lcmL_dvd {m : Nat} : ∀ {l : List Nat}, (∀ q ∈ l, q ∣ m) → lcmL l ∣ m
  | [], _ => Nat.one_dvd m
  | q :: _, h => Nat.lcm_dvd (h q (List.mem_cons_self ..)) (lcmL_dvd fun x hx => h x (List.mem_cons_of_mem _ hx))
def bigB (n : Nat) (l : List Nat) : Bool := Nat.beq (n % 2) 1 && Nat.blt 1 n && Nat.blt 1 (lcmL l) && Nat.blt n ((lcmL l - 1) * (lcmL l - 1))
theorem pock {n : Nat} (l : List Nat) (hb : bigB n l = true) (h : n % 2 = 1 → 1 < n → ∀ s, Pr s → s ∣ n → ∀ q ∈ l, q ∣ s - 1) : Pr n := by
  unfold bigB at hb
  simp only [Bool.and_eq_true, Nat.beq_eq, Nat.blt_eq] at hb
  obtain ⟨⟨⟨h2, h1⟩, hF⟩, hn⟩ := hb
  refine pr_of h1 fun s hs hd => ?_
  have hs1 := hs.1
  have hle := Nat.le_of_dvd (by omega) (lcmL_dvd (h h2 h1 s hs hd))
  have := Nat.mul_le_mul (show lcmL l - 1 ≤ s by omega) (show lcmL l - 1 ≤ s by omega)
  omega
theorem morr {n : Nat} (l : List Nat) (hb : bigB n l = true) (h : n % 2 = 1 → 1 < n → ∀ s, Pr s → s ∣ n → ∀ q ∈ l, (s % 4 = 1 → q ∣ s - 1) ∧ (s % 4 = 3 → q ∣ s + 1)) : Pr n := by
  unfold bigB at hb
  simp only [Bool.and_eq_true, Nat.beq_eq, Nat.blt_eq] at hb
  obtain ⟨⟨⟨h2, h1⟩, hF⟩, hn⟩ := hb
  refine pr_of h1 fun s hs hd => ?_
  have hs1 := hs.1
  have hle : lcmL l - 1 ≤ s := by
    rcases hs.two hd h2 with h4 | h4
    · have := Nat.le_of_dvd (by omega) (lcmL_dvd fun q hq => (h h2 h1 s hs hd q hq).1 h4)
      omega
    · have := Nat.le_of_dvd (by omega) (lcmL_dvd fun q hq => (h h2 h1 s hs hd q hq).2 h4)
      omega
  have := Nat.mul_le_mul hle hle
  omega
def triB (n : Nat) : Nat → Bool
  | 0 => true
  | k + 1 => bif Nat.beq (n % (k + 2)) 0 then false else triB n k
theorem triB_ok {n : Nat} : ∀ {k : Nat}, triB n k = true → ∀ d, 2 ≤ d → d ≤ k + 1 → n % d ≠ 0
  | 0, _, d, h1, h2 => by omega
  | k + 1, h, d, h1, h2 => by
    unfold triB at h
    cases hb : Nat.beq (n % (k + 2)) 0
    · rw [hb, cond_false] at h
      by_cases e : d = k + 2
      · rw [e]; intro e'; rw [← Nat.beq_eq, hb] at e'; cases e'
      · exact triB_ok h d h1 (by omega)
    · rw [hb, cond_true] at h; cases h
theorem trial {n : Nat} (k : Nat) (h : (Nat.blt 1 n && Nat.blt n ((k + 2) * (k + 2)) && triB n k) = true) : Pr n := by
  simp only [Bool.and_eq_true, Nat.blt_eq] at h
  obtain ⟨⟨h1, h2⟩, h3⟩ := h
  refine pr_of h1 fun s hs hd => ?_
  have hs1 := hs.1
  by_cases hsk : s ≤ k + 1
  · exact absurd (Nat.mod_eq_zero_of_dvd hd) (triB_ok h3 s (by omega) hsk)
  · have := Nat.mul_le_mul (show k + 2 ≤ s by omega) (show k + 2 ≤ s by omega)
    omega

/-! Fermat -/
theorem fermat_nat {p : Nat} (hp : Pr p) {a : Nat} (ha : a % p ≠ 0) : a ^ (p - 1) % p = 1 := by
  have hp1 := hp.1
  have hpow : ∀ n : Nat, GI.pow (GI.nat a) n = GI.nat (a ^ n) := by
    intro n
    induction n with
    | zero => rfl
    | succ n ih =>
      show GI.mul (GI.nat a) (GI.pow (GI.nat a) n) = _
      rw [ih, Nat.pow_succ]
      refine GI.ext ?_ ?_ <;> simp [GI.mul, GI.nat, Int.mul_comm]
  have h := GI.fermat hp a
  rw [hpow] at h
  obtain ⟨K, hK⟩ := h
  have e : ((a ^ p : Nat) : Int) = a + p * K.re := congrArg GI.re hK
  have hd : (p : Int) ∣ ((a ^ p : Nat) : Int) - (a : Int) := ⟨K.re, by rw [e]; omega⟩
  have e2 : a ^ p = a * a ^ (p - 1) := by rw [Nat.mul_comm, ← Nat.pow_succ, show (p - 1).succ = p by omega]
  have h1 : 1 ≤ a ^ (p - 1) := Nat.one_le_pow _ _ (Nat.pos_of_ne_zero fun e => ha (by rw [e, Nat.zero_mod]))
  have e3 : ((a ^ p : Nat) : Int) - (a : Int) = ((a * (a ^ (p - 1) - 1) : Nat) : Int) := by
    rw [e2, Nat.mul_sub, Nat.mul_one, Int.natCast_sub (Nat.le_mul_of_pos_right _ h1)]
  rw [e3, Int.natCast_dvd_natCast] at hd
  have hc : Nat.Coprime p a := hp.cop' fun hd => ha (Nat.mod_eq_zero_of_dvd hd)
  obtain ⟨m, hm⟩ := hc.dvd_of_dvd_mul_left hd
  rw [show a ^ (p - 1) = 1 + p * m by omega, Nat.add_mul_mod_self_left, Nat.mod_eq_of_lt hp1]
end Go.Rq

/- The great primes are primes. Printed by gencert.py. -/
namespace Go.Rq
open Go

theorem pr0 : Pr 110573 := trial 331 (by kernel_rfl)
theorem pr1 : Pr 2653753 := by
  refine pock [110573] (by kernel_rfl) fun h2 h1 s hs hd q hq => ?_
  simp only [List.mem_cons, List.not_mem_nil, or_false] at hq
  subst hq
  · exact row_p (k := 17) (u := 854698) (t := 2531333) h1 h2 pr0 (by kernel_rfl) hs hd
theorem pr2 : Pr 63690073 := by
  refine pock [2653753] (by kernel_rfl) fun h2 h1 s hs hd q hq => ?_
  simp only [List.mem_cons, List.not_mem_nil, or_false] at hq
  subst hq
  · exact row_p (k := 22) (u := 16777216) (t := 5408073) h1 h2 pr1 (by kernel_rfl) hs hd
theorem pr3 : Pr 254760293 := by
  refine pock [63690073] (by kernel_rfl) fun h2 h1 s hs hd q hq => ?_
  simp only [List.mem_cons, List.not_mem_nil, or_false] at hq
  subst hq
  · exact row_p (k := 26) (u := 16) (t := 218527718) h1 h2 pr2 (by kernel_rfl) hs hd
theorem pr4 : Pr 609743 := trial 779 (by kernel_rfl)
theorem pr5 : Pr 52437899 := by
  refine pock [609743] (by kernel_rfl) fun h2 h1 s hs hd q hq => ?_
  simp only [List.mem_cons, List.not_mem_nil, or_false] at hq
  subst hq
  · exact row_p (k := 20) (u := 27034091) (t := 23767086) h1 h2 pr4 (by kernel_rfl) hs hd
theorem pr6 : Pr 18329 := trial 134 (by kernel_rfl)
theorem pr7 : Pr 2529403 := by
  refine pock [18329] (by kernel_rfl) fun h2 h1 s hs hd q hq => ?_
  simp only [List.mem_cons, List.not_mem_nil, or_false] at hq
  subst hq
  · exact row_p (k := 15) (u := 1443810) (t := 1017113) h1 h2 pr6 (by kernel_rfl) hs hd
theorem pr8 : Pr 79 := trial 7 (by kernel_rfl)
theorem pr9 : Pr 7 := trial 1 (by kernel_rfl)
theorem pr10 : Pr 3 := trial 0 (by kernel_rfl)
theorem pr11 : Pr 2508409 := by
  refine pock [79, 7, 3] (by kernel_rfl) fun h2 h1 s hs hd q hq => ?_
  simp only [List.mem_cons, List.not_mem_nil, or_false] at hq
  rcases hq with rfl | rfl | rfl
  · exact row_p (k := 7) (u := 1922404) (t := 2391828) h1 h2 pr8 (by kernel_rfl) hs hd
  · exact row_p (k := 3) (u := 1491919) (t := 1172022) h1 h2 pr9 (by kernel_rfl) hs hd
  · exact row_p (k := 2) (u := 1632621) (t := 2216480) h1 h2 pr10 (by kernel_rfl) hs hd
theorem pr12 : Pr 906349 := trial 951 (by kernel_rfl)
theorem pr13 : Pr 859267 := trial 925 (by kernel_rfl)
theorem pr14 : Pr 52435875175126190479447740508185965837690552500527637822603658699938581184513 := by
  refine pock [254760293, 52437899, 2529403, 2508409, 906349, 859267] (by kernel_rfl) fun h2 h1 s hs hd q hq => ?_
  simp only [List.mem_cons, List.not_mem_nil, or_false] at hq
  rcases hq with rfl | rfl | rfl | rfl | rfl | rfl
  · exact row_p (k := 28) (u := 47291686569396616499156425462872067838946887208699558622576110439061623524034) (t := 8272491309021774342347510960184665570624408625638511717582691645139962808322) h1 h2 pr3 (by kernel_rfl) hs hd
  · exact row_p (k := 26) (u := 40744907299244235407352508676493668180470552603717615087053811498945141922481) (t := 24435588047324498985135671879022453924774874957194622137846116853917900082546) h1 h2 pr5 (by kernel_rfl) hs hd
  · exact row_p (k := 22) (u := 47059450156245510142419071452461480537773589021230600566513559274632232753225) (t := 13496695038677861703451944757302736120028747692333370252067538937534610912918) h1 h2 pr7 (by kernel_rfl) hs hd
  · exact row_p (k := 22) (u := 18373012691511662944661031135262503793624804446979480243025351198939613928965) (t := 42251000375476754255644692231166830250970314810999252736040166163806149457416) h1 h2 pr11 (by kernel_rfl) hs hd
  · exact row_p (k := 20) (u := 15769418934976494890171147995125343002726346209648636226952077001274280108622) (t := 7341832720726551148783492391540452822139670106997616514216132388446397894251) h1 h2 pr12 (by kernel_rfl) hs hd
  · exact row_p (k := 20) (u := 43027507203922512242553617092411604239850773065986444709280750291974666585789) (t := 16036145616883159554067384683196216776631872494468603349542811717840123738380) h1 h2 pr13 (by kernel_rfl) hs hd
theorem pr15 : Pr 597593 := trial 772 (by kernel_rfl)
theorem pr16 : Pr 26647 := trial 162 (by kernel_rfl)
theorem pr17 : Pr 73779548989605253 := by
  refine pock [597593, 26647] (by kernel_rfl) fun h2 h1 s hs hd q hq => ?_
  simp only [List.mem_cons, List.not_mem_nil, or_false] at hq
  rcases hq with rfl | rfl
  · exact row_p (k := 20) (u := 15261372537049322) (t := 68173055282261295) h1 h2 pr15 (by kernel_rfl) hs hd
  · exact row_p (k := 15) (u := 57226719683905182) (t := 36802108169195659) h1 h2 pr16 (by kernel_rfl) hs hd
theorem pr18 : Pr 156083864923250991785002799 := by
  refine pock [73779548989605253] (by kernel_rfl) fun h2 h1 s hs hd q hq => ?_
  simp only [List.mem_cons, List.not_mem_nil, or_false] at hq
  subst hq
  · exact row_p (k := 57) (u := 115599829464088582696410051) (t := 124844899530365331206805700) h1 h2 pr17 (by kernel_rfl) hs hd
theorem pr19 : Pr 14543 := trial 119 (by kernel_rfl)
theorem pr20 : Pr 4362901 := by
  refine pock [14543] (by kernel_rfl) fun h2 h1 s hs hd q hq => ?_
  simp only [List.mem_cons, List.not_mem_nil, or_false] at hq
  subst hq
  · exact row_p (k := 14) (u := 2350225) (t := 3155058) h1 h2 pr19 (by kernel_rfl) hs hd
theorem pr21 : Pr 43629011 := by
  refine pock [4362901] (by kernel_rfl) fun h2 h1 s hs hd q hq => ?_
  simp only [List.mem_cons, List.not_mem_nil, or_false] at hq
  subst hq
  · exact row_p (k := 23) (u := 1024) (t := 8214742) h1 h2 pr20 (by kernel_rfl) hs hd
theorem pr22 : Pr 87258023 := by
  refine pock [43629011] (by kernel_rfl) fun h2 h1 s hs hd q hq => ?_
  simp only [List.mem_cons, List.not_mem_nil, or_false] at hq
  subst hq
  · exact row_p (k := 26) (u := 4) (t := 9695336) h1 h2 pr21 (by kernel_rfl) hs hd
theorem pr23 : Pr 174516047 := by
  refine pock [87258023] (by kernel_rfl) fun h2 h1 s hs hd q hq => ?_
  simp only [List.mem_cons, List.not_mem_nil, or_false] at hq
  subst hq
  · exact row_p (k := 27) (u := 4) (t := 19390672) h1 h2 pr22 (by kernel_rfl) hs hd
theorem pr24 : Pr 46072236409 := by
  refine pock [174516047] (by kernel_rfl) fun h2 h1 s hs hd q hq => ?_
  simp only [List.mem_cons, List.not_mem_nil, or_false] at hq
  subst hq
  · exact row_p (k := 28) (u := 7621387813) (t := 33744688159) h1 h2 pr23 (by kernel_rfl) hs hd
theorem pr25 : Pr 915869 := trial 956 (by kernel_rfl)
theorem pr26 : Pr 11365934291 := by
  refine pock [915869] (by kernel_rfl) fun h2 h1 s hs hd q hq => ?_
  simp only [List.mem_cons, List.not_mem_nil, or_false] at hq
  subst hq
  · exact row_p (k := 20) (u := 9964290366) (t := 2552703921) h1 h2 pr25 (by kernel_rfl) hs hd
theorem pr27 : Pr 16253286036131 := by
  refine pock [11365934291] (by kernel_rfl) fun h2 h1 s hs hd q hq => ?_
  simp only [List.mem_cons, List.not_mem_nil, or_false] at hq
  subst hq
  · exact row_p (k := 34) (u := 5194687395456) (t := 7986676649825) h1 h2 pr26 (by kernel_rfl) hs hd
theorem pr28 : Pr 307202528959414010196955747273574637769335820764971303266458398669801375004184727427572867063 := by
  refine morr [156083864923250991785002799, 46072236409, 16253286036131] (by kernel_rfl) fun h2 h1 s hs hd q hq => ?_
  simp only [List.mem_cons, List.not_mem_nil, or_false] at hq
  rcases hq with rfl | rfl | rfl
  · exact row_m (k := 88) (u := 284533188331670450599559813562649621612636685766427118446961277331686977444749608028565734413) (v := 143899997501999503499924603473387784879380665968700981587986861323721007018233406030319024085) (t := 263961610173074643512334520666667076154059701411169151621168832623478342677021642072110504767) h1 pr18 (by kernel_rfl) (by kernel_rfl) hs hd
  · exact row_m (k := 36) (u := 178849773102153389778765108071561236754748357461711022044902314706950378098802454584841181827) (v := 148487190946588945029736634807864168232989787455781536400857407814839195839367751376879611109) (t := 281082323720725506404661016030753170361552213859806326759736578068591841163932858626056371741) h1 pr24 (by kernel_rfl) (by kernel_rfl) hs hd
  · exact row_m (k := 44) (u := 93254127763411557939324456773691262884123920146095204746477972588369835382385029015072454195) (v := 128235565482707231171401749281996455088748478161738036983036643917099646789267762343546613900) (t := 232241080552751787871792791193002398125699963483135957149912324268265853973978820469013805396) h1 pr27 (by kernel_rfl) (by kernel_rfl) hs hd
theorem pr29 : Pr 845817742016413227687614079825846186930871263723374447449716427752331287085975880059739566595311847852471317109 := by
  refine pock [307202528959414010196955747273574637769335820764971303266458398669801375004184727427572867063] (by kernel_rfl) fun h2 h1 s hs hd q hq => ?_
  simp only [List.mem_cons, List.not_mem_nil, or_false] at hq
  subst hq
  · exact row_p (k := 308) (u := 81187775623023919112919733391471430114509226083388684504755857439343848484154488959623945095297981823968039695) (t := 532332458101301275505511731943247530129837256366664136881696355035850008364731273543126876511034358404920518420) h1 h2 pr28 (by kernel_rfl) hs hd
theorem pr30 : Pr 4002409555221667393417789825735904156556882819939007885332058136124031650490837864442687629129015664037894272559787 := by
  refine morr [845817742016413227687614079825846186930871263723374447449716427752331287085975880059739566595311847852471317109] (by kernel_rfl) fun h2 h1 s hs hd q hq => ?_
  simp only [List.mem_cons, List.not_mem_nil, or_false] at hq
  subst hq
  · exact row_m (k := 369) (u := 1588245469955867453221167050554654839771414121579679824916963608285392547594593910888830993357567425149309403817626) (v := 1235324612909888021685800130558716099355515684439840888916641554913866144767399377883741991451359506303539880195943) (t := 3407498155760335788028185507862619618592417260020186979764066134515508538569650611251186940344440273035076553594098) h1 pr29 (by kernel_rfl) (by kernel_rfl) hs hd
end Go.Rq

/- By a prime each number but 0 has an inverse; squares. -/
namespace Go.Rq
open Go

theorem prime_gcd {N a : Nat} (hp : Pr N) (ha : a % N ≠ 0) : Nat.gcd a N = 1 := by
  rw [Nat.gcd_comm]
  exact hp.cop' fun hd => ha (Nat.mod_eq_zero_of_dvd hd)
theorem pr_mul {N a b : Nat} (hp : Pr N) (h : N ∣ a * b) : N ∣ a ∨ N ∣ b := by
  by_cases ha : N ∣ a
  · exact .inl ha
  · exact .inr ((hp.cop' ha).dvd_of_dvd_mul_left h)
def hV (N a : Nat) : Nat := a ^ ((N - 1) / 2) % N
theorem hV_two {N a : Nat} (hp : Pr N) (h2 : N % 2 = 1) (ha : a % N ≠ 0) : hV N a = 1 ∨ hV N a = N - 1 := by
  have h1 := hp.1
  have hs : hV N a * hV N a % N = 1 := by
    unfold hV
    rw [← Nat.mul_mod, ← Nat.pow_add, show (N - 1) / 2 + (N - 1) / 2 = N - 1 by omega]
    exact fermat_nat hp ha
  have hlt : hV N a < N := Nat.mod_lt _ (by omega)
  generalize hV N a = h at *
  have h0 : h ≠ 0 := fun e => by rw [e, Nat.zero_mul, Nat.zero_mod] at hs; omega
  have hd : N ∣ (h - 1) * (h + 1) := by
    obtain ⟨k, rfl⟩ : ∃ k, h = k + 1 := ⟨h - 1, by omega⟩
    have e : (k + 1) * (k + 1) = k * (k + 2) + 1 := by grind
    rw [e] at hs
    rw [Nat.add_sub_cancel]
    show N ∣ k * (k + 2)
    have := Nat.div_add_mod (k * (k + 2) + 1) N
    rw [hs] at this
    exact ⟨(k * (k + 2) + 1) / N, by omega⟩
  rcases pr_mul hp hd with h3 | h3
  · refine .inl ?_
    have := Nat.eq_zero_of_dvd_of_lt h3 (by omega)
    omega
  · have := Nat.le_of_dvd (by omega) h3
    exact .inr (by omega)
theorem odd_pow {N x y : Nat} (h : N ∣ x + y) : ∀ k : Nat, N ∣ x ^ (2 * k + 1) + y ^ (2 * k + 1)
  | 0 => by rw [Nat.mul_zero, Nat.zero_add, Nat.pow_one, Nat.pow_one]; exact h
  | k + 1 => by
    have ih := odd_pow h k
    obtain ⟨c, hc⟩ := ih
    obtain ⟨d, hd⟩ := h
    have e : ∀ z : Nat, z ^ (2 * (k + 1) + 1) = z * z * z ^ (2 * k + 1) := fun z => by
      rw [show 2 * (k + 1) + 1 = (2 * k + 1) + 2 by omega, Nat.pow_add, Nat.mul_comm, Nat.pow_two]
    rw [e, e]
    generalize x ^ (2 * k + 1) = X at *
    generalize y ^ (2 * k + 1) = Y at *
    have hI : (N : Int) ∣ ((x * x * X + y * y * Y : Nat) : Int) := by
      refine ⟨(x : Int) * x * c + (Y : Int) * (y - x) * d, ?_⟩
      have h1 : (X : Int) + Y = N * c := by exact_mod_cast hc
      have h2 : (x : Int) + y = N * d := by exact_mod_cast hd
      simp only [Int.natCast_add, Int.natCast_mul]
      grind
    exact Int.natCast_dvd_natCast.1 hI
theorem neg_sum {N a : Nat} (h : 0 < N) : N ∣ a + subM N 0 a := by
  have := subM_add (a := 0) (b := a) h
  rw [Nat.zero_mod, Nat.add_comm] at this
  exact Nat.dvd_of_mod_eq_zero this
theorem neg_ne {N a : Nat} (h : 0 < N) (ha : a % N ≠ 0) : subM N 0 a % N ≠ 0 := fun e => by
  have := subM_add (a := 0) (b := a) h
  rw [Nat.zero_mod, Nat.add_mod, e, Nat.zero_add, Nat.mod_mod] at this
  exact ha this
theorem hV_neg {N a : Nat} (hp : Pr N) (h4 : N % 4 = 3) (ha : a % N ≠ 0) : (hV N a = 1 ↔ hV N (subM N 0 a) ≠ 1) := by
  have h1 := hp.1
  have hN : 0 < N := by omega
  have hd := odd_pow (neg_sum (a := a) hN) ((N - 3) / 4)
  have e : 2 * ((N - 3) / 4) + 1 = (N - 1) / 2 := by omega
  rw [e] at hd
  have hs : (hV N a + hV N (subM N 0 a)) % N = 0 := by
    unfold hV
    rw [← Nat.add_mod]
    exact Nat.mod_eq_zero_of_dvd hd
  rcases hV_two hp (by omega) ha with g1 | g1 <;> rcases hV_two hp (by omega) (neg_ne hN ha) with g2 | g2
  · rw [g1, g2, Nat.mod_eq_of_lt (by omega)] at hs; omega
  · rw [g1, g2]; constructor
    · intro _; omega
    · intro _; rfl
  · rw [g1, g2]; constructor
    · intro _; omega
    · intro h; exact absurd rfl h
  · rw [g1, g2, show N - 1 + (N - 1) = N + (N - 2) by omega, Nat.add_mod_left, Nat.mod_eq_of_lt (by omega)] at hs; omega
theorem sq_half {N a : Nat} (h4 : N % 4 = 3) : a ^ ((N + 1) / 4) % N * (a ^ ((N + 1) / 4) % N) % N = hV N a * a % N := by
  unfold hV
  rw [← Nat.mul_mod, ← Nat.pow_add, show (N + 1) / 4 + (N + 1) / 4 = (N - 1) / 2 + 1 by omega, Nat.pow_succ, Nat.mod_mul_mod]
theorem sq_ok {N a : Nat} (hp : Pr N) (h4 : N % 4 = 3) (ha : a % N ≠ 0) : (a ^ ((N + 1) / 4) % N * (a ^ ((N + 1) / 4) % N) % N = a % N ↔ hV N a = 1) := by
  have h1 := hp.1
  rw [sq_half h4]
  constructor
  · intro h
    rcases hV_two hp (by omega) ha with g | g
    · exact g
    · rw [g] at h
      have hm := Nat.sub_mod_eq_zero_of_mod_eq h
      have e : (N - 1) * a - a = (N - 2) * a := by
        rw [show N - 1 = N - 2 + 1 by omega, Nat.add_mul, Nat.one_mul, Nat.add_sub_cancel]
      rw [e] at hm
      rcases pr_mul hp (Nat.dvd_of_mod_eq_zero hm) with h3 | h3
      · have := Nat.eq_zero_of_dvd_of_lt h3 (by omega)
        omega
      · exact absurd (Nat.mod_eq_zero_of_dvd h3) ha
  · intro h
    rw [h, Nat.one_mul]
theorem neg_sq {N c : Nat} (h : 0 < N) : subM N 0 c * subM N 0 c % N = c * c % N := by
  obtain ⟨d, hd⟩ := neg_sum (a := c) h
  generalize subM N 0 c = b at *
  have hI : (N : Int) ∣ ((b * b : Nat) : Int) - ((c * c : Nat) : Int) := by
    refine ⟨(d : Int) * (b - c), ?_⟩
    have h2 : (c : Int) + b = N * d := by exact_mod_cast hd
    simp only [Int.natCast_mul]
    grind
  have := Int.emod_emod_of_dvd ((b * b : Nat) : Int) (Int.dvd_refl (N : Int))
  have e := (Int.emod_eq_emod_iff_emod_sub_eq_zero).2 (Int.emod_eq_zero_of_dvd hI)
  exact_mod_cast e
end Go.Rq

/- The great field: its elements, and how they are held. -/
namespace Go.Rq
open Go

def pN : Nat := 4002409555221667393417789825735904156556882819939007885332058136124031650490837864442687629129015664037894272559787
instance : NeZero pN := ⟨by decide⟩
theorem pN_pr : Pr pN := pr30
theorem pN_pos : 0 < pN := by decide
theorem pN_odd : pN % 2 = 1 := by decide
theorem pN_four : pN % 4 = 3 := by decide
theorem pN_small : 4 * pN ≤ R := by decide
theorem pN_lt : pN < R := by decide
abbrev Fp : Type := Fin pN
def ofN (n : Nat) : Fp := Fin.ofNat pN n
theorem ofN_val (n : Nat) : (ofN n).val = n % pN := rfl
theorem ofN_self (z : Fp) : ofN z.val = z := Fin.ext (Nat.mod_eq_of_lt z.isLt)
theorem ofN_add (a b : Nat) : ofN (a + b) = ofN a + ofN b := Fin.ext (by rw [Fin.val_add]; simp only [ofN_val]; rw [← Nat.add_mod])
theorem ofN_mul (a b : Nat) : ofN (a * b) = ofN a * ofN b := Fin.ext (by rw [Fin.val_mul]; simp only [ofN_val]; rw [← Nat.mul_mod])
theorem ofN_mod (a : Nat) : ofN (a % pN) = ofN a := Fin.ext (by simp only [ofN_val]; rw [Nat.mod_mod])
theorem ofN_inj {a b : Nat} (ha : a < pN) (hb : b < pN) (h : ofN a = ofN b) : a = b := by
  have := congrArg Fin.val h
  simp only [ofN_val] at this
  rwa [Nat.mod_eq_of_lt ha, Nat.mod_eq_of_lt hb] at this
theorem ofN_p : ofN pN = 0 := Fin.ext (Nat.mod_self pN)
theorem ofN_zero : ofN 0 = 0 := rfl
theorem ofN_one : ofN 1 = 1 := by
  refine Fin.ext ?_
  show 1 % pN = 1 % pN
  rfl
def rr : Fp := ofN R
def ri : Fp := ofN (rinv pN)
theorem rr_ri : rr * ri = 1 := by
  unfold rr ri
  rw [← ofN_mul, ← ofN_mod, rinv_spec pN_odd, ofN_mod, ofN_one]
/-- An element, times 2^384. -/
def enc (z : Fp) : Nat := (z * rr).val
def dec (n : Nat) : Fp := ofN n * ri
theorem enc_lt (z : Fp) : enc z < pN := (z * rr).isLt
theorem ofN_enc (z : Fp) : ofN (enc z) = z * rr := ofN_self _
theorem dec_enc (z : Fp) : dec (enc z) = z := by
  unfold dec
  have := rr_ri
  rw [ofN_enc]
  grind
theorem enc_of {n : Nat} {z : Fp} (h : n < pN) (e : ofN n = z * rr) : n = enc z := ofN_inj h (enc_lt z) (by rw [ofN_enc, e])
theorem ofN_dec (n : Nat) : dec n * rr = ofN n := by
  unfold dec
  have := rr_ri
  grind
theorem enc_dec {n : Nat} (h : n < pN) : enc (dec n) = n := (enc_of h (ofN_dec n).symm).symm
theorem mont_enc (a b : Nat) : montV pN a b = enc (dec a * dec b) := by
  refine enc_of (montV_lt pN_pos) ?_
  unfold montV
  rw [ofN_mod, ofN_mul, ofN_mul]
  have h1 := ofN_dec a
  have h2 := ofN_dec b
  have h3 := rr_ri
  show ofN a * ofN b * ri = _
  rw [← h1, ← h2]
  grind
theorem add_enc (a b : Nat) : (a + b) % pN = enc (dec a + dec b) := by
  refine enc_of (Nat.mod_lt _ pN_pos) ?_
  rw [ofN_mod, ofN_add, ← ofN_dec a, ← ofN_dec b]
  grind
theorem sub_enc (a b : Nat) : subM pN a b = enc (dec a - dec b) := by
  refine enc_of (subM_lt pN_pos) ?_
  have h := subM_add (a := a) (b := b) pN_pos
  have h2 := congrArg ofN h
  rw [ofN_mod, ofN_mod, ofN_add] at h2
  have h3 := ofN_dec a
  have h4 := ofN_dec b
  rw [← h3, ← h4] at h2
  grind
theorem dec_zero : dec 0 = 0 := by unfold dec; rw [ofN_zero]; grind
theorem from_val (a : Nat) : montV pN a 1 = (dec a).val := by
  refine ofN_inj (montV_lt pN_pos) (dec a).isLt ?_
  unfold montV
  rw [ofN_self, ofN_mod, ofN_mul, ofN_mul, ofN_one]
  show ofN a * 1 * ri = ofN a * ri
  grind
theorem to_enc (n : Nat) : montV pN (R * R % pN) n = enc (ofN n) := by
  refine enc_of (montV_lt pN_pos) ?_
  unfold montV
  rw [ofN_mod, ofN_mul, ofN_mul, ofN_mod, ofN_mul]
  have h3 := rr_ri
  show rr * rr * ofN n * ri = _
  grind
end Go.Rq

/- The top word of a row stays empty. -/
namespace Go.Rq
open Go

theorem sB_lt (f : Nat → Nat) : ∀ i, sB W f i < W ^ i
  | 0 => by rw [Nat.pow_zero]; exact Nat.one_pos
  | i + 1 => by
    have ih := sB_lt f i
    have h : f i % W < W := Nat.mod_lt _ (by decide)
    show sB W f i + W ^ i * (f i % W) < W ^ (i + 1)
    rw [Nat.pow_succ]
    have := Nat.mul_le_mul_left (W ^ i) (show f i % W + 1 ≤ W from h)
    rw [Nat.mul_add, Nat.mul_one] at this
    omega
theorem round_bound {w T A Q B N x i : Nat} (h : T * w ^ i = A * B + Q * N) (hQ : Q < w ^ i) (hA : A < w ^ i) (hx : x < w) (hB : B < N) : T + x * B < (w + 2) * N := by
  have h1 : T < 2 * N := by
    refine Nat.lt_of_mul_lt_mul_right (a := w ^ i) ?_
    rw [h]
    have e1 : A * B ≤ w ^ i * N := Nat.mul_le_mul (Nat.le_of_lt hA) (Nat.le_of_lt hB)
    have e2 : Q * N < w ^ i * N := Nat.mul_lt_mul_of_pos_right hQ (by omega)
    rw [show 2 * N * w ^ i = w ^ i * N + w ^ i * N by rw [Nat.mul_assoc, Nat.two_mul, Nat.mul_comm]]
    omega
  have h2 : x * B ≤ w * N := Nat.mul_le_mul (Nat.le_of_lt hx) (Nat.le_of_lt hB)
  rw [Nat.add_mul]
  omega
theorem top_gen {l0 l1 l2 l3 l4 l5 s6 s7 z w : Nat} (h : l0 + w * (l1 + w * (l2 + w * (l3 + w * (l4 + w * (l5 + w * (s6 + w * s7)))))) = z) (hz : z < w ^ 7) : s7 = 0 := by
  refine Classical.byContradiction fun hc => ?_
  have h1 : 1 ≤ s7 := by omega
  have e : w ^ 7 = w * (w * (w * (w * (w * (w * (w * 1)))))) := by simp [Nat.pow_succ, Nat.mul_assoc]
  have k6 : w * 1 ≤ s6 + w * s7 := Nat.le_trans (Nat.mul_le_mul_left w h1) (by omega)
  have k5 : w * (w * 1) ≤ l5 + w * (s6 + w * s7) := Nat.le_trans (Nat.mul_le_mul_left w k6) (by omega)
  have k4 := Nat.mul_le_mul_left w k5
  have k3 := Nat.mul_le_mul_left w (Nat.le_trans k4 (Nat.le_add_left _ l4))
  have k2 := Nat.mul_le_mul_left w (Nat.le_trans k3 (Nat.le_add_left _ l3))
  have k1 := Nat.mul_le_mul_left w (Nat.le_trans k2 (Nat.le_add_left _ l2))
  have k0 := Nat.mul_le_mul_left w (Nat.le_trans k1 (Nat.le_add_left _ l1))
  have := Nat.le_trans k0 (Nat.le_add_left _ l0)
  rw [h, ← e] at this
  omega
theorem row_top {x : Nat} {b t C L : Nat → Nat} {S7 : Nat} (hC : C = crow x b t) (hL : L = fun k => mLo x (b k) (t k) (C k)) (hS7 : S7 = (t 6 % W + C 6 % W + 0 % W) / W)
    (hb : sB W t 7 + x % W * nv b < W ^ 7) : S7 = 0 := by
  have cs : ∀ k, C (k + 1) = mHi x (b k) (t k) (C k) := fun k => by rw [hC]; rfl
  have ls : ∀ k, L k = mLo x (b k) (t k) (C k) := fun k => by rw [hL]
  have c0 : C 0 = 0 := by rw [hC]; rfl
  have b0 : C 0 < W := by rw [c0]; decide
  have s0 := m_step (x := x) (y := b 0) (p := t 0) b0
  rw [← cs, ← ls] at s0
  have s1 := m_step (x := x) (y := b 1) (p := t 1) s0.2
  rw [← cs, ← ls] at s1
  have s2 := m_step (x := x) (y := b 2) (p := t 2) s1.2
  rw [← cs, ← ls] at s2
  have s3 := m_step (x := x) (y := b 3) (p := t 3) s2.2
  rw [← cs, ← ls] at s3
  have s4 := m_step (x := x) (y := b 4) (p := t 4) s3.2
  rw [← cs, ← ls] at s4
  have s5 := m_step (x := x) (y := b 5) (p := t 5) s4.2
  rw [← cs, ← ls] at s5
  have s6 := top_step (x := t 6) s5.2
  rw [← hS7] at s6
  rw [c0] at s0
  rw [sB7_eq t] at hb
  have hw := mont_words (x := x % W) s0.1 s1.1 s2.1 s3.1 s4.1 s5.1 s6.1
  refine top_gen hw ?_
  unfold nv at hb
  exact hb
end Go.Rq

/- What a commutative ring has. -/
namespace Go.Rq
open Go

abbrev appC {C : Type → Type} {α : Type} (_ : C α) : Type → Type := C
/-- Commutative rings, as 'grind' knows them. -/
abbrev CR : Type → Type := appC Dyadic.instCommRing
namespace Rg
variable {R : Type} [i : CR R]
def nc (n : Nat) : R := i.toRing.toSemiring.natCast.natCast n
def ic (n : Int) : R := i.toRing.intCast.intCast n
theorem pow_zero (a : R) : a ^ 0 = 1 := i.toRing.toSemiring.pow_zero a
theorem pow_succ (a : R) (n : Nat) : a ^ (n + 1) = a ^ n * a := i.toRing.toSemiring.pow_succ a n
theorem ofNat_succ (n : Nat) : OfNat.ofNat (α := R) (n + 1) = OfNat.ofNat n + 1 := i.toRing.toSemiring.ofNat_succ n
theorem ofNat_nc (n : Nat) : OfNat.ofNat (α := R) n = nc n := i.toRing.toSemiring.ofNat_eq_natCast n
theorem nc_zero : nc (R := R) 0 = 0 := (ofNat_nc 0).symm
theorem nc_one : nc (R := R) 1 = 1 := (ofNat_nc 1).symm
theorem nc_succ (n : Nat) : nc (R := R) (n + 1) = nc n + 1 := by rw [← ofNat_nc, ofNat_succ, ofNat_nc]
theorem ic_neg (n : Int) : ic (R := R) (-n) = -ic n := i.toRing.intCast_neg n
theorem ic_ofNat (n : Nat) : ic (R := R) (OfNat.ofNat n) = OfNat.ofNat n := i.toRing.intCast_ofNat n
theorem ic_nat (n : Nat) : ic (R := R) (n : Int) = nc n := by rw [← ofNat_nc]; exact ic_ofNat n
theorem mul_comm (a b : R) : a * b = b * a := by grind
theorem mul_one (a : R) : a * 1 = a := by grind
theorem one_mul (a : R) : 1 * a = a := by grind
theorem mul_zero (a : R) : a * 0 = 0 := by grind
theorem zero_mul (a : R) : 0 * a = 0 := by grind
theorem add_zero (a : R) : a + 0 = a := by grind
theorem sub_self (a : R) : a - a = 0 := by grind
theorem mul_assoc (a b c : R) : a * b * c = a * (b * c) := by grind
theorem nc_add (a : Nat) : ∀ b : Nat, nc (R := R) (a + b) = nc a + nc b
  | 0 => by rw [nc_zero, Nat.add_zero, add_zero]
  | b + 1 => by rw [← Nat.add_assoc, nc_succ, nc_add a b, nc_succ]; grind
theorem nc_mul (a : Nat) : ∀ b : Nat, nc (R := R) (a * b) = nc a * nc b
  | 0 => by rw [nc_zero, Nat.mul_zero, nc_zero, mul_zero]
  | b + 1 => by rw [Nat.mul_succ, nc_add, nc_mul a b, nc_succ]; grind
theorem pow_one (a : R) : a ^ 1 = a := by rw [pow_succ, pow_zero, one_mul]
theorem pow_two (a : R) : a ^ 2 = a * a := by rw [pow_succ, pow_one]
theorem pow_add (a : R) (m : Nat) : ∀ n : Nat, a ^ (m + n) = a ^ m * a ^ n
  | 0 => by rw [Nat.add_zero, pow_zero, mul_one]
  | n + 1 => by rw [← Nat.add_assoc, pow_succ, pow_add a m n, pow_succ, mul_assoc]
theorem one_pow : ∀ n : Nat, (1 : R) ^ n = 1
  | 0 => pow_zero _
  | n + 1 => by rw [pow_succ, one_pow n, mul_one]
end Rg
end Go.Rq

/- Numbers of two parts over the great field: a ring. -/
namespace Go.Rq
open Go

structure F2p where
  x : Fp
  y : Fp
theorem F2p.ext {a b : F2p} (h1 : a.x = b.x) (h2 : a.y = b.y) : a = b := by cases a; cases b; simp_all
def nc (n : Nat) : Fp := Rg.nc n
def ic (n : Int) : Fp := Rg.ic n
theorem fp1 (u v : Fp) : u * 1 - v * 0 = u := by grind
theorem fp2 (u v : Fp) : u * 0 + v * 1 = v := by grind
theorem fp3 (u v : Fp) : 1 * u - 0 * v = u := by rw [Fin.mul_comm 1 u, Fin.mul_comm 0 v]; exact fp1 u v
theorem fp4 (u v : Fp) : 1 * v + 0 * u = v := by rw [Fin.mul_comm 1 v, Fin.mul_comm 0 u]; grind
theorem fpz (u : Fp) : u * 0 = 0 := Rg.mul_zero u
theorem fps (u : Fp) : u - u = 0 := Rg.sub_self u
theorem fp7 (u v : Fp) : u * 0 - v * 0 = 0 := by rw [fpz, fpz]; exact fps 0
theorem fp8 (u v : Fp) : u * 0 + v * 0 = 0 := by rw [fpz, fpz]; exact Rg.add_zero 0
theorem fp5 (u v : Fp) : 0 * u - 0 * v = 0 := by rw [Fin.mul_comm 0 u, Fin.mul_comm 0 v]; exact fp7 u v
theorem fp6 (u v : Fp) : 0 * v + 0 * u = 0 := by rw [Fin.mul_comm 0 u, Fin.mul_comm 0 v]; exact fp8 v u
theorem fp9 (c u v : Fp) : c * u = c * u - 0 * v := by rw [Fin.mul_comm 0 v]; grind
theorem fp0 (c u v : Fp) : c * u = c * u + 0 * v := by rw [Fin.mul_comm 0 v]; grind
namespace F2p
def npow (a : F2p) : Nat → F2p
  | 0 => ⟨1, 0⟩
  | n + 1 => ⟨(npow a n).x * a.x - (npow a n).y * a.y, (npow a n).x * a.y + (npow a n).y * a.x⟩
instance : Add F2p := ⟨fun a b => ⟨a.x + b.x, a.y + b.y⟩⟩
instance : Sub F2p := ⟨fun a b => ⟨a.x - b.x, a.y - b.y⟩⟩
instance : Neg F2p := ⟨fun a => ⟨-a.x, -a.y⟩⟩
instance : Mul F2p := ⟨fun a b => ⟨a.x * b.x - a.y * b.y, a.x * b.y + a.y * b.x⟩⟩
instance : NatCast F2p := ⟨fun n => ⟨nc n, 0⟩⟩
instance : IntCast F2p := ⟨fun n => ⟨ic n, 0⟩⟩
instance (n : Nat) : OfNat F2p n := ⟨⟨OfNat.ofNat n, 0⟩⟩
instance : SMul Nat F2p := ⟨fun n a => ⟨nc n * a.x, nc n * a.y⟩⟩
instance : SMul Int F2p := ⟨fun n a => ⟨ic n * a.x, ic n * a.y⟩⟩
instance : HPow F2p Nat F2p := ⟨npow⟩
theorem add_x (a b : F2p) : (a + b).x = a.x + b.x := rfl
theorem add_y (a b : F2p) : (a + b).y = a.y + b.y := rfl
theorem sub_x (a b : F2p) : (a - b).x = a.x - b.x := rfl
theorem sub_y (a b : F2p) : (a - b).y = a.y - b.y := rfl
theorem neg_x (a : F2p) : (-a).x = -a.x := rfl
theorem neg_y (a : F2p) : (-a).y = -a.y := rfl
theorem mul_x (a b : F2p) : (a * b).x = a.x * b.x - a.y * b.y := rfl
theorem mul_y (a b : F2p) : (a * b).y = a.x * b.y + a.y * b.x := rfl
theorem one_x : (1 : F2p).x = 1 := rfl
theorem one_y : (1 : F2p).y = 0 := rfl
theorem zero_x : (0 : F2p).x = 0 := rfl
theorem zero_y : (0 : F2p).y = 0 := rfl
theorem ic_neg (i : Int) : ic (-i) = -ic i := Rg.ic_neg i
theorem ic_nat (n : Nat) : ic (n : Int) = nc n := Rg.ic_nat n
instance : CR F2p where
  natCast := inferInstance
  ofNat := inferInstance
  nsmul := inferInstance
  npow := inferInstance
  intCast := inferInstance
  zsmul := inferInstance
  add_zero a := F2p.ext (by rw [add_x, zero_x]; grind) (by rw [add_y, zero_y]; grind)
  add_comm a b := F2p.ext (by rw [add_x, add_x]; grind) (by rw [add_y, add_y]; grind)
  add_assoc a b c := F2p.ext (by simp only [add_x]; grind) (by simp only [add_y]; grind)
  mul_assoc a b c := F2p.ext (by simp only [mul_x, mul_y]; grind) (by simp only [mul_x, mul_y]; grind)
  mul_one a := F2p.ext (fp1 a.x a.y) (fp2 a.x a.y)
  one_mul a := F2p.ext (fp3 a.x a.y) (fp4 a.x a.y)
  left_distrib a b c := F2p.ext (by simp only [mul_x, add_x, add_y]; grind) (by simp only [mul_y, add_x, add_y]; grind)
  right_distrib a b c := F2p.ext (by simp only [mul_x, add_x, add_y]; grind) (by simp only [mul_y, add_x, add_y]; grind)
  zero_mul a := F2p.ext (fp5 a.x a.y) (fp6 a.x a.y)
  mul_zero a := F2p.ext (fp7 a.x a.y) (fp8 a.x a.y)
  pow_zero _ := rfl
  pow_succ _ _ := rfl
  ofNat_succ n := F2p.ext (Rg.ofNat_succ n) (Rg.add_zero (0 : Fp)).symm
  ofNat_eq_natCast n := F2p.ext (Rg.ofNat_nc n) rfl
  nsmul_eq_natCast_mul n a := F2p.ext (fp9 (nc n) a.x a.y) (fp0 (nc n) a.y a.x)
  neg_add_cancel a := F2p.ext (by rw [add_x, neg_x, zero_x]; grind) (by rw [add_y, neg_y, zero_y]; grind)
  sub_eq_add_neg a b := F2p.ext (by rw [add_x, neg_x, sub_x]; grind) (by rw [add_y, neg_y, sub_y]; grind)
  neg_zsmul i a := F2p.ext (by show ic (-i) * a.x = -(ic i * a.x); rw [ic_neg]; grind) (by show ic (-i) * a.y = -(ic i * a.y); rw [ic_neg]; grind)
  zsmul_natCast_eq_nsmul n a := F2p.ext (by show ic (n : Int) * a.x = nc n * a.x; rw [ic_nat]) (by show ic (n : Int) * a.y = nc n * a.y; rw [ic_nat])
  intCast_ofNat n := F2p.ext (Rg.ic_ofNat n) rfl
  intCast_neg i := F2p.ext (Rg.ic_neg i) (by show (0 : Fp) = -0; grind)
  mul_comm a b := F2p.ext (by rw [mul_x, mul_x]; grind) (by rw [mul_y, mul_y]; grind)
theorem try_ring (a b c : F2p) : (a + b) * (a - b) * c = a * a * c - b * c * b := by grind
end F2p
end Go.Rq

/- Numbers of three and of twelve parts over the great field: rings. -/
namespace Go.Rq
open Go

structure S6 where
  u : F2p
  v : F2p
  w : F2p
def xi (a : F2p) : F2p := ⟨a.x - a.y, a.x + a.y⟩
def kx : F2p := ⟨1, 1⟩
theorem xi_mul (a : F2p) : xi a = a * kx := F2p.ext (by rw [F2p.mul_x]; show a.x - a.y = a.x * 1 - a.y * 1; grind) (by rw [F2p.mul_y]; show a.x + a.y = a.x * 1 + a.y * 1; grind)
theorem S6.ext {a b : S6} (h1 : a.u = b.u) (h2 : a.v = b.v) (h3 : a.w = b.w) : a = b := by cases a; cases b; simp_all
namespace S6
def add (a b : S6) : S6 := ⟨a.u + b.u, a.v + b.v, a.w + b.w⟩
def sub (a b : S6) : S6 := ⟨a.u - b.u, a.v - b.v, a.w - b.w⟩
def next (a : S6) : S6 := ⟨xi a.w, a.u, a.v⟩
def mul (a b : S6) : S6 := ⟨a.u * b.u + xi (a.v * b.w + a.w * b.v), a.u * b.v + a.v * b.u + xi (a.w * b.w), a.u * b.w + a.w * b.u + a.v * b.v⟩
def npow (a : S6) : Nat → S6
  | 0 => ⟨1, 0, 0⟩
  | n + 1 => mul (npow a n) a
instance : Add S6 := ⟨add⟩
instance : Sub S6 := ⟨sub⟩
instance : Neg S6 := ⟨fun a => ⟨-a.u, -a.v, -a.w⟩⟩
instance : Mul S6 := ⟨mul⟩
def nc (n : Nat) : F2p := Rg.nc n
def ic (n : Int) : F2p := Rg.ic n
instance : NatCast S6 := ⟨fun n => ⟨nc n, 0, 0⟩⟩
instance : IntCast S6 := ⟨fun n => ⟨ic n, 0, 0⟩⟩
instance (n : Nat) : OfNat S6 n := ⟨⟨OfNat.ofNat n, 0, 0⟩⟩
instance : SMul Nat S6 := ⟨fun n a => ⟨nc n * a.u, nc n * a.v, nc n * a.w⟩⟩
instance : SMul Int S6 := ⟨fun n a => ⟨ic n * a.u, ic n * a.v, ic n * a.w⟩⟩
instance : HPow S6 Nat S6 := ⟨npow⟩
theorem add_u (a b : S6) : (a + b).u = a.u + b.u := rfl
theorem add_v (a b : S6) : (a + b).v = a.v + b.v := rfl
theorem add_w (a b : S6) : (a + b).w = a.w + b.w := rfl
theorem sub_u (a b : S6) : (a - b).u = a.u - b.u := rfl
theorem sub_v (a b : S6) : (a - b).v = a.v - b.v := rfl
theorem sub_w (a b : S6) : (a - b).w = a.w - b.w := rfl
theorem neg_u (a : S6) : (-a).u = -a.u := rfl
theorem neg_v (a : S6) : (-a).v = -a.v := rfl
theorem neg_w (a : S6) : (-a).w = -a.w := rfl
theorem mul_u (a b : S6) : (a * b).u = a.u * b.u + (a.v * b.w + a.w * b.v) * kx := by rw [← xi_mul]; rfl
theorem mul_v (a b : S6) : (a * b).v = a.u * b.v + a.v * b.u + a.w * b.w * kx := by rw [← xi_mul]; rfl
theorem mul_w (a b : S6) : (a * b).w = a.u * b.w + a.w * b.u + a.v * b.v := rfl
theorem one_u : (1 : S6).u = 1 := rfl
theorem one_v : (1 : S6).v = 0 := rfl
theorem one_w : (1 : S6).w = 0 := rfl
theorem zero_u : (0 : S6).u = 0 := rfl
theorem zero_v : (0 : S6).v = 0 := rfl
theorem zero_w : (0 : S6).w = 0 := rfl
theorem ic_neg (i : Int) : ic (-i) = -ic i := Rg.ic_neg i
theorem ic_nat (n : Nat) : ic (n : Int) = nc n := Rg.ic_nat n
section
variable {R : Type} [CR R]
theorem g1 (u v w k : R) : u * 1 + (v * 0 + w * 0) * k = u := by grind
theorem g2 (u v w k : R) : u * 0 + v * 1 + w * 0 * k = v := by grind
theorem g3 (u v w : R) : u * 0 + w * 1 + v * 0 = w := by grind
theorem g4 (u v w k : R) : 0 * u + (0 * w + 0 * v) * k = 0 := by grind
theorem g5 (u v w k : R) : 0 * v + 0 * u + 0 * w * k = 0 := by grind
theorem g6 (u v w : R) : 0 * w + 0 * u + 0 * v = 0 := by grind
theorem g7 (c u v w k : R) : c * u = c * u + (0 * w + 0 * v) * k := by grind
theorem g8 (c u v w k : R) : c * v = c * v + 0 * u + 0 * w * k := by grind
theorem g9 (c u v w : R) : c * w = c * w + 0 * u + 0 * v := by grind
theorem gn (a : R) : -a + a = 0 := by grind
theorem gz (a : R) : a + 0 = a := by grind
theorem gzz : (0 : R) = -0 := by grind
theorem c1 (u v w x y z k : R) : u * x + (v * z + w * y) * k = x * u + (y * w + z * v) * k := by grind
theorem c2 (u v w x y z k : R) : u * y + v * x + w * z * k = x * v + y * u + z * w * k := by grind
theorem c3 (u v w x y z : R) : u * z + w * x + v * y = x * w + z * u + y * v := by grind
end
theorem mulc (a b : S6) : a * b = b * a := S6.ext (by rw [mul_u, mul_u]; exact c1 _ _ _ _ _ _ _) (by rw [mul_v, mul_v]; exact c2 _ _ _ _ _ _ _) (by rw [mul_w, mul_w]; exact c3 _ _ _ _ _ _)
theorem mul1 (a : S6) : a * 1 = a := S6.ext (by rw [mul_u]; exact g1 _ _ _ _) (by rw [mul_v]; exact g2 _ _ _ _) (by rw [mul_w]; exact g3 _ _ _)
theorem zmul (a : S6) : 0 * a = 0 := S6.ext (by rw [mul_u]; exact g4 _ _ _ _) (by rw [mul_v]; exact g5 _ _ _ _) (by rw [mul_w]; exact g6 _ _ _)
theorem ldis (a b c : S6) : a * (b + c) = a * b + a * c := S6.ext (by simp only [mul_u, add_u, add_v, add_w]; grind) (by simp only [mul_v, add_u, add_v, add_w]; grind) (by simp only [mul_w, add_u, add_v, add_w]; grind)
instance : CR S6 where
  natCast := inferInstance
  ofNat := inferInstance
  nsmul := inferInstance
  npow := inferInstance
  intCast := inferInstance
  zsmul := inferInstance
  add_zero a := S6.ext (gz _) (gz _) (gz _)
  add_comm a b := S6.ext (by rw [add_u, add_u]; grind) (by rw [add_v, add_v]; grind) (by rw [add_w, add_w]; grind)
  add_assoc a b c := S6.ext (by simp only [add_u]; grind) (by simp only [add_v]; grind) (by simp only [add_w]; grind)
  mul_assoc a b c := S6.ext (by simp only [mul_u, mul_v, mul_w]; grind) (by simp only [mul_u, mul_v, mul_w]; grind) (by simp only [mul_u, mul_v, mul_w]; grind)
  mul_one := mul1
  zero_mul := zmul
  left_distrib := ldis
  one_mul a := by rw [mulc]; exact mul1 a
  mul_zero a := by rw [mulc]; exact zmul a
  right_distrib a b c := by rw [mulc, ldis, mulc c, mulc c]
  pow_zero _ := rfl
  pow_succ _ _ := rfl
  ofNat_succ n := S6.ext (Rg.ofNat_succ n) (gz 0).symm (gz 0).symm
  ofNat_eq_natCast n := S6.ext (Rg.ofNat_nc n) rfl rfl
  nsmul_eq_natCast_mul n a := S6.ext (by rw [mul_u]; exact g7 (nc n) _ _ _ _) (by rw [mul_v]; exact g8 (nc n) _ _ _ _) (by rw [mul_w]; exact g9 (nc n) _ _ _)
  neg_add_cancel a := S6.ext (gn _) (gn _) (gn _)
  sub_eq_add_neg a b := S6.ext (by rw [add_u, neg_u, sub_u]; grind) (by rw [add_v, neg_v, sub_v]; grind) (by rw [add_w, neg_w, sub_w]; grind)
  neg_zsmul i a := S6.ext (by show ic (-i) * a.u = -(ic i * a.u); rw [ic_neg]; grind) (by show ic (-i) * a.v = -(ic i * a.v); rw [ic_neg]; grind) (by show ic (-i) * a.w = -(ic i * a.w); rw [ic_neg]; grind)
  zsmul_natCast_eq_nsmul n a := S6.ext (by show ic (n : Int) * a.u = nc n * a.u; rw [ic_nat]) (by show ic (n : Int) * a.v = nc n * a.v; rw [ic_nat]) (by show ic (n : Int) * a.w = nc n * a.w; rw [ic_nat])
  intCast_ofNat n := S6.ext (Rg.ic_ofNat n) rfl rfl
  intCast_neg i := S6.ext (Rg.ic_neg i) gzz gzz
  mul_comm := mulc
def vv : S6 := ⟨0, 1, 0⟩
theorem next_mul (a : S6) : next a = a * vv := S6.ext
  (by rw [mul_u]; show xi a.w = a.u * 0 + (a.v * 0 + a.w * 1) * kx; rw [xi_mul]; generalize kx = k; grind)
  (by rw [mul_v]; show a.u = a.u * 1 + a.v * 0 + a.w * 0 * kx; generalize kx = k; grind)
  (by rw [mul_w]; show a.v = a.u * 0 + a.w * 0 + a.v * 1; grind)
end S6

structure S12 where
  p : S6
  q : S6
theorem S12.ext {a b : S12} (h1 : a.p = b.p) (h2 : a.q = b.q) : a = b := by cases a; cases b; simp_all
namespace S12
def add (a b : S12) : S12 := ⟨a.p + b.p, a.q + b.q⟩
def sub (a b : S12) : S12 := ⟨a.p - b.p, a.q - b.q⟩
def mul (a b : S12) : S12 := ⟨(a.p.mul b.p).add (a.q.mul b.q).next, (a.p.mul b.q).add (a.q.mul b.p)⟩
def npow (a : S12) : Nat → S12
  | 0 => ⟨1, 0⟩
  | n + 1 => mul (npow a n) a
instance : Add S12 := ⟨add⟩
instance : Sub S12 := ⟨sub⟩
instance : Neg S12 := ⟨fun a => ⟨-a.p, -a.q⟩⟩
instance : Mul S12 := ⟨mul⟩
def nc (n : Nat) : S6 := Rg.nc n
def ic (n : Int) : S6 := Rg.ic n
instance : NatCast S12 := ⟨fun n => ⟨nc n, 0⟩⟩
instance : IntCast S12 := ⟨fun n => ⟨ic n, 0⟩⟩
instance (n : Nat) : OfNat S12 n := ⟨⟨OfNat.ofNat n, 0⟩⟩
instance : SMul Nat S12 := ⟨fun n a => ⟨nc n * a.p, nc n * a.q⟩⟩
instance : SMul Int S12 := ⟨fun n a => ⟨ic n * a.p, ic n * a.q⟩⟩
instance : HPow S12 Nat S12 := ⟨npow⟩
theorem add_p (a b : S12) : (a + b).p = a.p + b.p := rfl
theorem add_q (a b : S12) : (a + b).q = a.q + b.q := rfl
theorem sub_p (a b : S12) : (a - b).p = a.p - b.p := rfl
theorem sub_q (a b : S12) : (a - b).q = a.q - b.q := rfl
theorem neg_p (a : S12) : (-a).p = -a.p := rfl
theorem neg_q (a : S12) : (-a).q = -a.q := rfl
theorem mul_p (a b : S12) : (a * b).p = a.p * b.p + a.q * b.q * S6.vv := by rw [← S6.next_mul]; rfl
theorem mul_q (a b : S12) : (a * b).q = a.p * b.q + a.q * b.p := rfl
theorem one_p : (1 : S12).p = 1 := rfl
theorem one_q : (1 : S12).q = 0 := rfl
theorem zero_p : (0 : S12).p = 0 := rfl
theorem zero_q : (0 : S12).q = 0 := rfl
theorem ic_neg (i : Int) : ic (-i) = -ic i := Rg.ic_neg i
theorem ic_nat (n : Nat) : ic (n : Int) = nc n := Rg.ic_nat n
section
variable {R : Type} [CR R]
theorem g1 (u v k : R) : u * 1 + v * 0 * k = u := by grind
theorem g2 (u v : R) : u * 0 + v * 1 = v := by grind
theorem g4 (u v k : R) : 0 * u + 0 * v * k = 0 := by grind
theorem g5 (u v : R) : 0 * v + 0 * u = 0 := by grind
theorem g7 (c u v k : R) : c * u = c * u + 0 * v * k := by grind
theorem g8 (c u v : R) : c * v = c * v + 0 * u := by grind
end
open S6 (gz gn gzz)
theorem mulc (a b : S12) : a * b = b * a := S12.ext (by rw [mul_p, mul_p]; generalize S6.vv = k; grind) (by rw [mul_q, mul_q]; grind)
theorem mul1 (a : S12) : a * 1 = a := S12.ext (by rw [mul_p]; exact g1 _ _ _) (by rw [mul_q]; exact g2 _ _)
theorem zmul (a : S12) : 0 * a = 0 := S12.ext (by rw [mul_p]; exact g4 _ _ _) (by rw [mul_q]; exact g5 _ _)
theorem ldis (a b c : S12) : a * (b + c) = a * b + a * c := S12.ext (by simp only [mul_p, add_p, add_q]; generalize S6.vv = k; grind) (by simp only [mul_q, add_p, add_q]; grind)
instance : CR S12 where
  natCast := inferInstance
  ofNat := inferInstance
  nsmul := inferInstance
  npow := inferInstance
  intCast := inferInstance
  zsmul := inferInstance
  add_zero a := S12.ext (gz _) (gz _)
  add_comm a b := S12.ext (by rw [add_p, add_p]; grind) (by rw [add_q, add_q]; grind)
  add_assoc a b c := S12.ext (by simp only [add_p]; grind) (by simp only [add_q]; grind)
  mul_assoc a b c := S12.ext (by simp only [mul_p, mul_q]; generalize S6.vv = k; grind) (by simp only [mul_p, mul_q]; generalize S6.vv = k; grind)
  mul_one := mul1
  zero_mul := zmul
  left_distrib := ldis
  one_mul a := by rw [mulc]; exact mul1 a
  mul_zero a := by rw [mulc]; exact zmul a
  right_distrib a b c := by rw [mulc, ldis, mulc c, mulc c]
  pow_zero _ := rfl
  pow_succ _ _ := rfl
  ofNat_succ n := S12.ext (Rg.ofNat_succ n) (gz 0).symm
  ofNat_eq_natCast n := S12.ext (Rg.ofNat_nc n) rfl
  nsmul_eq_natCast_mul n a := S12.ext (by rw [mul_p]; exact g7 (nc n) _ _ _) (by rw [mul_q]; exact g8 (nc n) _ _)
  neg_add_cancel a := S12.ext (gn _) (gn _)
  sub_eq_add_neg a b := S12.ext (by rw [add_p, neg_p, sub_p]; grind) (by rw [add_q, neg_q, sub_q]; grind)
  neg_zsmul i a := S12.ext (by show ic (-i) * a.p = -(ic i * a.p); rw [ic_neg]; grind) (by show ic (-i) * a.q = -(ic i * a.q); rw [ic_neg]; grind)
  zsmul_natCast_eq_nsmul n a := S12.ext (by show ic (n : Int) * a.p = nc n * a.p; rw [ic_nat]) (by show ic (n : Int) * a.q = nc n * a.q; rw [ic_nat])
  intCast_ofNat n := S12.ext (Rg.ic_ofNat n) rfl
  intCast_neg i := S12.ext (Rg.ic_neg i) gzz
  mul_comm := mulc
end S12
end Go.Rq

/- Sums to a prime's power, in any commutative ring where the prime is 0. -/
namespace Go.Rq
open Go

section
variable {α : Type} [CR α]
theorem mul_pow' (x y : α) : ∀ n : Nat, (x * y) ^ n = x ^ n * y ^ n
  | 0 => by rw [Rg.pow_zero, Rg.pow_zero, Rg.pow_zero]; grind
  | n + 1 => by rw [Rg.pow_succ, Rg.pow_succ, Rg.pow_succ, mul_pow' x y n]; grind
theorem pow_mul' (x : α) (m : Nat) : ∀ n : Nat, x ^ (m * n) = (x ^ m) ^ n
  | 0 => by rw [Nat.mul_zero, Rg.pow_zero, Rg.pow_zero]
  | n + 1 => by rw [Nat.mul_succ, Rg.pow_add, pow_mul' x m n, Rg.pow_succ]
theorem pow_zero_pos {n : Nat} (h : 0 < n) : (0 : α) ^ n = 0 := by
  obtain ⟨m, rfl⟩ : ∃ m, n = m + 1 := ⟨n - 1, by omega⟩
  rw [Rg.pow_succ]; grind
def bS (x y : α) (n : Nat) : Nat → α
  | 0 => 1
  | k + 1 => y * bS x y n k + Rg.nc (R := α) (chs n (k + 1)) * x ^ (k + 1)
theorem bS_step (x y : α) (n : Nat) : ∀ k, bS x y (n + 1) (k + 1) = bS x y n (k + 1) + x * bS x y n k
  | 0 => by
    have e : chs (n + 1) (0 + 1) = chs n 0 + chs n 1 := rfl
    simp only [bS]
    rw [e, chs_zero, Rg.nc_add, Rg.nc_one, Rg.pow_one]
    grind
  | k + 1 => by
    have ih := bS_step x y n k
    have e : chs (n + 1) (k + 2) = chs n (k + 1) + chs n (k + 2) := rfl
    have e1 : bS x y n (k + 1) = y * bS x y n k + Rg.nc (R := α) (chs n (k + 1)) * x ^ (k + 1) := rfl
    show y * bS x y (n + 1) (k + 1) + Rg.nc (R := α) (chs (n + 1) (k + 2)) * x ^ (k + 2) = (y * bS x y n (k + 1) + Rg.nc (R := α) (chs n (k + 2)) * x ^ (k + 2)) + x * bS x y n (k + 1)
    rw [ih, e, Rg.nc_add, Rg.pow_succ x (k + 1)]
    generalize x ^ (k + 1) = P at *
    generalize bS x y n k = B at *
    generalize bS x y n (k + 1) = C at *
    generalize Rg.nc (R := α) (chs n (k + 1)) = c at *
    generalize Rg.nc (R := α) (chs n (k + 2)) = d at *
    grind
theorem bS_pow (x y : α) : ∀ n, bS x y n n = (x + y) ^ n
  | 0 => by rw [Rg.pow_zero]; rfl
  | n + 1 => by
    rw [bS_step]
    show (y * bS x y n n + Rg.nc (R := α) (chs n (n + 1)) * x ^ (n + 1)) + x * bS x y n n = (x + y) ^ (n + 1)
    rw [chs_big (by omega), bS_pow x y n, Rg.nc_zero, Rg.pow_succ]
    grind
theorem bS_zero {s : Nat} (hs : Pr s) (h0 : Rg.nc (R := α) s = 0) (x y : α) : ∀ k, k < s → bS x y s k = y ^ k
  | 0, _ => by rw [Rg.pow_zero]; rfl
  | k + 1, h => by
    obtain ⟨m, hm⟩ := chs_dvd hs h
    show y * bS x y s k + Rg.nc (R := α) (chs s (k + 1)) * x ^ (k + 1) = _
    rw [bS_zero hs h0 x y k (by omega), hm, Rg.nc_mul, h0, Rg.pow_succ]
    grind
/-- The power of a sum. -/
theorem frobR {s : Nat} (hs : Pr s) (h0 : Rg.nc (R := α) s = 0) (x y : α) : (x + y) ^ s = x ^ s + y ^ s := by
  obtain ⟨n, rfl⟩ : ∃ n, s = n + 1 := ⟨s - 1, by have := hs.1; omega⟩
  rw [← bS_pow]
  show y * bS x y (n + 1) n + Rg.nc (R := α) (chs (n + 1) (n + 1)) * x ^ (n + 1) = _
  rw [bS_zero hs h0 x y n (by omega), chs_self, Rg.nc_one, Rg.pow_succ, Rg.pow_succ]
  grind
theorem fermatR {s : Nat} (hs : Pr s) (h0 : Rg.nc (R := α) s = 0) : ∀ a : Nat, Rg.nc (R := α) a ^ s = Rg.nc a
  | 0 => by rw [Rg.nc_zero]; exact pow_zero_pos (by have := hs.1; omega)
  | a + 1 => by rw [Rg.nc_succ, frobR hs h0, fermatR hs h0 a, Rg.one_pow]
end
end Go.Rq

/- Sums to a prime's power, in any commutative ring where the prime is 0. -/
namespace Go.Rq
open Go

section
variable {α : Type} [CR α]
theorem cr_sub {x y z : α} (h : x * z = y * z) : (x - y) * z = 0 := by grind
theorem cr_eq {x y : α} (h : x - y = 0) : x = y := by grind
theorem cr_neg {x y : α} (h : x * x + y * y = 0) : x * x = (0 - 1) * (y * y) := by grind
theorem cr_m1 : ((0 : α) - 1) * (0 - 1) = 1 := by grind
theorem cr_one (x : α) : 1 * x = x := by grind
theorem cr_one' (x : α) : x * 1 = x := by grind
theorem cr_c (x y : α) : x * y = y * x := by grind
theorem cr_z1 {y : α} (h : (0 : α) * 0 + y * y = 0) : y * y = 0 := by grind
theorem cr_z2 {y : α} (h : y * y + 0 * 0 = 0) : y * y = 0 := by grind
end

/-! the great field -/
theorem fp_nat (n : Nat) : nc n = ofN n := by
  show Rg.nc (R := Fp) n = _
  induction n with
  | zero => exact Rg.nc_zero
  | succ n ih => 
    rw [ofN_add, ← ih, ofN_one]; exact Rg.nc_succ n
theorem fp_char : Rg.nc (R := Fp) pN = 0 := (fp_nat pN).trans ofN_p
theorem fp_fermat (x : Fp) : x ^ pN = x := by
  have := fermatR (α := Fp) pN_pr fp_char x.val
  have e : Rg.nc (R := Fp) x.val = x := (fp_nat _).trans (ofN_self x)
  exact (congrArg (fun y : Fp => y ^ pN) e).symm.trans (this.trans e)
theorem ofN_pow (a : Nat) : ∀ n, ofN (a ^ n) = ofN a ^ n
  | 0 => by rw [Nat.pow_zero, ofN_one, Rg.pow_zero]
  | n + 1 => by rw [Nat.pow_succ, ofN_mul, ofN_pow a n, Rg.pow_succ]
theorem fp_dom {x y : Fp} (h : x * y = 0) : x = 0 ∨ y = 0 := by
  have h1 := congrArg Fin.val h
  rw [Fin.val_mul] at h1
  have h2 : pN ∣ x.val * y.val := Nat.dvd_of_mod_eq_zero h1
  rcases pr_mul pN_pr h2 with h3 | h3
  · left; exact Fin.ext (Nat.eq_zero_of_dvd_of_lt h3 x.isLt)
  · right; exact Fin.ext (Nat.eq_zero_of_dvd_of_lt h3 y.isLt)
theorem fp_cancel {x y z : Fp} (hz : z ≠ 0) (h : x * z = y * z) : x = y := by
  rcases fp_dom (cr_sub h) with h | h
  · exact cr_eq h
  · exact absurd h hz
theorem fp_pow1 {x : Fp} (h : x ≠ 0) : x ^ (pN - 1) = 1 := by
  have e : pN = (pN - 1) + 1 := by have := pN_pos; omega
  have h1 : x ^ (pN - 1 + 1) = x := (congrArg (fun n : Nat => x ^ n) e).symm.trans (fp_fermat x)
  rw [Rg.pow_succ] at h1
  refine fp_cancel h ?_
  rw [h1]; exact (cr_one x).symm
theorem fp_pow_ne {x : Fp} (h : x ≠ 0) : ∀ n : Nat, x ^ n ≠ 0
  | 0 => by rw [Rg.pow_zero]; exact fun e => by have := congrArg Fin.val e; exact absurd this (by decide)
  | n + 1 => by
    rw [Rg.pow_succ]
    intro e
    rcases fp_dom e with e | e
    · exact fp_pow_ne h n e
    · exact h e
theorem fp_inv {x : Fp} (h : x ≠ 0) : x * x ^ (pN - 2) = 1 := by
  have := fp_pow1 h
  have e : pN - 1 = (pN - 2) + 1 := by have := pN_pr.1; omega
  rw [e, Rg.pow_succ] at this
  rw [Rg.mul_comm]; exact this
/-- -1 is no square. -/
theorem fp_norm {x y : Fp} (h : x * x + y * y = 0) : x = 0 ∧ y = 0 := by
  refine Classical.byContradiction fun hc => ?_
  have hy : y ≠ 0 := fun e => by
    subst e
    rcases fp_dom (cr_z2 h) with e | e <;> exact hc ⟨e, rfl⟩
  have hx : x ≠ 0 := fun e => by
    subst e
    rcases fp_dom (cr_z1 h) with e | e <;> exact hy e
  -- (x x) ^ ((p-1)/2) = 1, and (- y y) ^ ((p-1)/2) = -1
  have e : pN - 1 = 2 * ((pN - 1) / 2) := by decide
  have h1 := fp_pow1 hx
  have h2 := fp_pow1 hy
  rw [e, pow_mul', Rg.pow_two] at h1 h2
  have h3 : x * x = (0 - 1) * (y * y) := cr_neg h
  rw [h3, mul_pow', h2] at h1
  have e2 : (pN - 1) / 2 = 2 * ((pN - 3) / 4) + 1 := by decide
  rw [e2, Rg.pow_succ, pow_mul', Rg.pow_two] at h1
  have h4 : ((0 : Fp) - 1) * (0 - 1) = 1 := cr_m1
  rw [h4, Rg.one_pow] at h1
  have h5 := congrArg Fin.val h1
  exact absurd h5 (by decide)
end Go.Rq

/- Numbers of two, three and twelve parts: what is not 0 has an inverse; powers to the prime. -/
namespace Go.Rq
open Go

/-! powers by squaring -/
def pwS (n a : Nat) (b : Bool) (r : Nat) : Nat := bif b then r * r % n * a % n else r * r % n
def pwN (n a : Nat) : Nat → Nat → Nat
  | 0, _ => 1 % n
  | k + 1, e => pwS n a (Nat.beq (e % 2) 1) (pwN n a k (e / 2))
theorem pow_half {α : Type} [CR α] (x : α) (e : Nat) : x ^ e = bif Nat.beq (e % 2) 1 then x ^ (e / 2) * x ^ (e / 2) * x else x ^ (e / 2) * x ^ (e / 2) := by
  cases h : Nat.beq (e % 2) 1
  · have : e = e / 2 + e / 2 := by
      have : e % 2 ≠ 1 := fun e' => by rw [← Nat.beq_eq, h] at e'; cases e'
      omega
    rw [cond_false, ← Rg.pow_add, ← this]
  · have : e = e / 2 + e / 2 + 1 := by
      rw [Nat.beq_eq] at h
      omega
    rw [cond_true, ← Rg.pow_add, ← Rg.pow_succ, ← this]
theorem pwN_eq (a : Nat) : ∀ k e, e < 2 ^ k → ofN (pwN pN a k e) = ofN a ^ e
  | 0, e, h => by
    have : e = 0 := by simpa using h
    subst this
    rw [Rg.pow_zero]
    show ofN (1 % pN) = 1
    rw [ofN_mod, ofN_one]
  | k + 1, e, h => by
    have ih := pwN_eq a k (e / 2) (by rw [Nat.pow_succ] at h; omega)
    rw [pow_half]
    show ofN (pwS pN a (Nat.beq (e % 2) 1) (pwN pN a k (e / 2))) = _
    unfold pwS
    cases Nat.beq (e % 2) 1
    · rw [cond_false, cond_false, ofN_mod, ofN_mul, ih]
    · rw [cond_true, cond_true, ofN_mod, ofN_mul, ofN_mod, ofN_mul, ih]

section
variable {α : Type} [CR α]
theorem cr_0 {z c : α} : ((0 : α) * 0 * 0 = c * (z * z * z)) = (0 = c * (z * z * z)) := by
  have : (0 : α) * 0 * 0 = 0 := by grind
  rw [this]
theorem cr_01 {z c : α} : ((0 : α) * 0 = c * (z * z)) = (0 = c * (z * z)) := by
  have : (0 : α) * 0 = 0 := by grind
  rw [this]
theorem cr_cub (x : α) : x ^ 3 = x * x * x := by rw [Rg.pow_succ, Rg.pow_two]
theorem cr_00 {y c : α} : (y * y * y = c * ((0 : α) * 0 * 0)) = (y * y * y = 0) := by
  have : c * ((0 : α) * 0 * 0) = 0 := by grind
  rw [this]
theorem cr_02 {y c : α} : (y * y = c * ((0 : α) * 0)) = (y * y = 0) := by
  have : c * ((0 : α) * 0) = 0 := by grind
  rw [this]
theorem cr_n (a b c d : α) : (a * c - b * d) * (a * c - b * d) + (a * d + b * c) * (a * d + b * c) = (a * a + b * b) * (c * c + d * d) := by grind
theorem cr_zz : (0 : α) * 0 + 0 * 0 = 0 := by grind
theorem cr_i1 (a b i : α) : a * (a * i) - b * ((0 - b) * i) = (a * a + b * b) * i := by grind
theorem cr_i2 (a b i : α) : a * ((0 - b) * i) + b * (a * i) = 0 := by grind
theorem cr_i2' (a b i : α) : a * ((0 - b) * i) + b * (a * i) = 0 := by grind
theorem cr_f1 {x y z k v w : α} (h1 : y * y - x * z = w * 0) (h2 : k * (z * z) - x * y = v * 0) : y * y * y = k * (z * z * z) := by grind
theorem cr_f2 {x k u : α} (h : x * x - k * (0 * 0) = u * 0) : x * x = 0 := by grind
theorem cr_f3 {u v w k : α} (h1 : k * (w * w) - u * v = 0) (h2 : v * v - u * w = 0) : v * v * v = k * (w * w * w) := by grind
theorem cr_f4 {u k : α} (h : u * u - k * (0 * 0) = 0) : u * u = 0 := by grind
theorem cr_k (k : α) : (0 : α) * ((0 : α) * 0 - k * (1 * 0)) + k * (0 * (k * (0 * 0) - 0 * 1) + 1 * (1 * 1 - 0 * 0)) = k := by grind
theorem cr_t1 {p q v : α} (h : p * p - q * q * v = 0) : p * p = v * (q * q) := by grind
theorem cr_t2 (p q v i : α) : p * (p * i) + q * ((0 - q) * i) * v = (p * p - q * q * v) * i := by grind
theorem cr_t3 {a b c : α} (h : a * b = 0) (h1 : a * c = 1) : b = 0 := by
  have : b = c * (a * b) := by grind
  rw [this, h]; grind
end

/-! 2 is no square, no cube -/
theorem two_sq : ofN 2 ^ ((pN - 1) / 2) = ofN (pN - 1) := by
  rw [← pwN_eq 2 E _ (by rw [← R_pow]; decide)]
  exact congrArg ofN (by kernel_rfl)
theorem two_cu : ofN 2 ^ ((pN - 1) / 3) = ofN 793479390729215512621379701633421447060886740281060493010456487427281649075476305620758731620350 := by
  rw [← pwN_eq 2 E _ (by rw [← R_pow]; decide)]
  exact congrArg ofN (by kernel_rfl)
theorem fp_cube {y z : Fp} (h : y * y * y = ofN 2 * (z * z * z)) : y = 0 ∧ z = 0 := by
  have hz : z = 0 := Classical.byContradiction fun hz => by
    have hy : y ≠ 0 := fun e => by
      subst e
      rw [cr_0] at h
      rcases fp_dom h.symm with h | h
      · exact absurd (congrArg Fin.val h) (by decide)
      · rcases fp_dom h with h | h
        · rcases fp_dom h with h | h <;> exact hz h
        · exact hz h
    have e : pN - 1 = 3 * ((pN - 1) / 3) := by decide
    have h1 := fp_pow1 hy
    have h2 := fp_pow1 hz
    rw [e, pow_mul', cr_cub] at h1 h2
    rw [h, mul_pow', h2, two_cu, cr_one'] at h1
    exact absurd (congrArg Fin.val h1) (by decide)
  subst hz
  rw [cr_00] at h
  refine ⟨?_, rfl⟩
  rcases fp_dom h with h | h
  · rcases fp_dom h with h | h <;> exact h
  · exact h
theorem fp_squ {y z : Fp} (h : y * y = ofN 2 * (z * z)) : y = 0 ∧ z = 0 := by
  have hz : z = 0 := Classical.byContradiction fun hz => by
    have hy : y ≠ 0 := fun e => by
      subst e
      rw [cr_01] at h
      rcases fp_dom h.symm with h | h
      · exact absurd (congrArg Fin.val h) (by decide)
      · rcases fp_dom h with h | h <;> exact hz h
    have e : pN - 1 = 2 * ((pN - 1) / 2) := by decide
    have h1 := fp_pow1 hy
    have h2 := fp_pow1 hz
    rw [e, pow_mul', Rg.pow_two] at h1 h2
    rw [h, mul_pow', h2, two_sq, cr_one'] at h1
    exact absurd (congrArg Fin.val h1) (by decide)
  subst hz
  rw [cr_02] at h
  refine ⟨?_, rfl⟩
  rcases fp_dom h with h | h <;> exact h

/-! two parts -/
namespace F2p
def nrm (a : F2p) : Fp := a.x * a.x + a.y * a.y
theorem nrm_mul (a b : F2p) : nrm (a * b) = nrm a * nrm b := by
  simp only [nrm, mul_x, mul_y]
  exact cr_n _ _ _ _
theorem nrm_0 {a : F2p} (h : nrm a = 0) : a = 0 := by
  obtain ⟨h1, h2⟩ := fp_norm h
  exact F2p.ext h1 h2
theorem nrm_z : nrm 0 = 0 := cr_zz
theorem dom {a b : F2p} (h : a * b = 0) : a = 0 ∨ b = 0 := by
  have h1 := nrm_mul a b
  rw [h, nrm_z] at h1
  rcases fp_dom h1.symm with h | h
  · exact .inl (nrm_0 h)
  · exact .inr (nrm_0 h)
def inv' (a : F2p) : F2p := ⟨a.x * nrm a ^ (pN - 2), (0 - a.y) * nrm a ^ (pN - 2)⟩
theorem mul_inv {a : F2p} (h : a ≠ 0) : a * inv' a = 1 := by
  have h1 : nrm a ≠ 0 := fun e => h (nrm_0 e)
  have h2 := fp_inv h1
  refine F2p.ext ?_ ?_
  · show a.x * (a.x * nrm a ^ (pN - 2)) - a.y * ((0 - a.y) * nrm a ^ (pN - 2)) = 1
    rw [cr_i1]; exact h2
  · show a.x * ((0 - a.y) * nrm a ^ (pN - 2)) + a.y * (a.x * nrm a ^ (pN - 2)) = 0
    exact cr_i2 _ _ _
theorem nrm_kx : nrm kx = ofN 2 := by
  show (1 : Fp) * 1 + 1 * 1 = ofN 2
  exact Fin.ext (by kernel_rfl)
theorem cube {y z : F2p} (h : y * y * y = kx * (z * z * z)) : y = 0 ∧ z = 0 := by
  have h1 := congrArg nrm h
  simp only [nrm_mul, nrm_kx] at h1
  obtain ⟨h2, h3⟩ := fp_cube h1
  exact ⟨nrm_0 h2, nrm_0 h3⟩
theorem squ {y z : F2p} (h : y * y = kx * (z * z)) : y = 0 ∧ z = 0 := by
  have h1 := congrArg nrm h
  simp only [nrm_mul, nrm_kx] at h1
  obtain ⟨h2, h3⟩ := fp_squ h1
  exact ⟨nrm_0 h2, nrm_0 h3⟩
theorem sq0 {a : F2p} (h : a * a = 0) : a = 0 := by rcases dom h with h | h <;> exact h
end F2p

/-! three parts -/
namespace S6
def ax (a : S6) : F2p := a.u * a.u - kx * (a.v * a.w)
def ay (a : S6) : F2p := kx * (a.w * a.w) - a.u * a.v
def az (a : S6) : F2p := a.v * a.v - a.u * a.w
def nr (a : S6) : F2p := a.u * ax a + kx * (a.w * ay a + a.v * az a)
theorem nr_0 {a : S6} (h : nr a = 0) : a = 0 := by
  have e1 : ay a * ay a - ax a * az a = a.w * nr a := by simp only [nr, ax, ay, az]; generalize kx = k; grind
  have e2 : kx * (az a * az a) - ax a * ay a = a.v * nr a := by simp only [nr, ax, ay, az]; generalize kx = k; grind
  have e3 : ax a * ax a - kx * (ay a * az a) = a.u * nr a := by simp only [nr, ax, ay, az]; generalize kx = k; grind
  rw [h] at e1 e2 e3
  have f1 : ay a * ay a * ay a = kx * (az a * az a * az a) := cr_f1 e1 e2
  obtain ⟨y0, z0⟩ := F2p.cube f1
  rw [y0, z0] at e3
  have x0 : ax a = 0 := F2p.sq0 (cr_f2 e3)
  have g1 : a.v * a.v * a.v = kx * (a.w * a.w * a.w) := cr_f3 y0 z0
  obtain ⟨v0, w0⟩ := F2p.cube g1
  have u0 : a.u = 0 := F2p.sq0 (by
    have : a.u * a.u - kx * (a.v * a.w) = 0 := x0
    rw [v0, w0] at this
    exact cr_f4 this)
  exact S6.ext u0 v0 w0
def inv' (a : S6) : S6 := ⟨ax a * (nr a).inv', ay a * (nr a).inv', az a * (nr a).inv'⟩
theorem mul_inv {a : S6} (h : a ≠ 0) : a * inv' a = 1 := by
  have h1 := F2p.mul_inv fun e => h (nr_0 e)
  refine S6.ext ?_ ?_ ?_
  · rw [mul_u]
    show a.u * (ax a * (nr a).inv') + (a.v * (az a * (nr a).inv') + a.w * (ay a * (nr a).inv')) * kx = 1
    rw [← h1]
    generalize (nr a).inv' = i
    simp only [nr]
    generalize kx = k
    grind
  · rw [mul_v]
    show a.u * (ay a * (nr a).inv') + a.v * (ax a * (nr a).inv') + a.w * (az a * (nr a).inv') * kx = 0
    generalize (nr a).inv' = i
    simp only [ax, ay, az]
    generalize kx = k
    grind
  · rw [mul_w]
    show a.u * (az a * (nr a).inv') + a.w * (ax a * (nr a).inv') + a.v * (ay a * (nr a).inv') = 0
    generalize (nr a).inv' = i
    simp only [ax, ay, az]
    generalize kx = k
    grind
theorem nr_mul (a b : S6) : nr (a * b) = nr a * nr b := by
  simp only [nr, ax, ay, az, mul_u, mul_v, mul_w]
  generalize kx = k
  grind
theorem nr_vv : nr vv = kx := by
  show (0 : F2p) * ((0 : F2p) * 0 - kx * (1 * 0)) + kx * (0 * (kx * (0 * 0) - 0 * 1) + 1 * (1 * 1 - 0 * 0)) = kx
  exact cr_k _
theorem squ {y z : S6} (h : y * y = vv * (z * z)) : y = 0 ∧ z = 0 := by
  have h1 := congrArg nr h
  simp only [nr_mul, nr_vv] at h1
  obtain ⟨h2, h3⟩ := F2p.squ h1
  exact ⟨nr_0 h2, nr_0 h3⟩
end S6

/-! twelve parts -/
namespace S12
def nr (a : S12) : S6 := a.p * a.p - a.q * a.q * S6.vv
theorem nr_0 {a : S12} (h : nr a = 0) : a = 0 := by
  obtain ⟨h1, h2⟩ := S6.squ (cr_t1 h)
  exact S12.ext h1 h2
def inv' (a : S12) : S12 := ⟨a.p * (nr a).inv', (0 - a.q) * (nr a).inv'⟩
theorem mul_inv {a : S12} (h : a ≠ 0) : a * inv' a = 1 := by
  have h1 := S6.mul_inv fun e => h (nr_0 e)
  refine S12.ext ?_ ?_
  · rw [mul_p]
    show a.p * (a.p * (nr a).inv') + a.q * ((0 - a.q) * (nr a).inv') * S6.vv = 1
    rw [← h1]
    simp only [nr]
    exact cr_t2 _ _ _ _
  · rw [mul_q]
    show a.p * ((0 - a.q) * (nr a).inv') + a.q * (a.p * (nr a).inv') = 0
    exact cr_i2' _ _ _
theorem dom {a b : S12} (h : a * b = 0) : a = 0 ∨ b = 0 := by
  refine Classical.byContradiction fun hc => ?_
  have ha : a ≠ 0 := fun e => hc (.inl e)
  have h1 := mul_inv ha
  refine hc (.inr ?_)
  exact cr_t3 h h1
end S12
end Go.Rq

/- What numbers of twelve parts are turned by. Printed by genwg5.py. -/
namespace Go.Rq
open Go

def F2p.cj (a : F2p) : F2p := ⟨a.x, 0 - a.y⟩
def tuN0 : Nat := 1
def tuN1 : Nat := 0
def tuN2 : Nat := 3850754370037169011952147076051364057158807420970682438676050522613628423219637725072182697113062777891589506424760
def tuN3 : Nat := 151655185184498381465642749684540099398075398968325446656007613510403227271200139370504932015952886146304766135027
def tuN4 : Nat := 0
def tuN5 : Nat := 4002409555221667392624310435006688643935503118305586438271171395842971157480381377015405980053539358417135540939436
def tuN6 : Nat := 1028732146235106349975324479215795277384839936929757896155643118032610843298655225875571310552543014690878354869257
def tuN7 : Nat := 1028732146235106349975324479215795277384839936929757896155643118032610843298655225875571310552543014690878354869257
def tuN8 : Nat := 4002409555221667392624310435006688643935503118305586438271171395842971157480381377015405980053539358417135540939437
def tuN9 : Nat := 0
def tuN10 : Nat := 877076961050607968509681729531255177986764537961432449499635504522207616027455086505066378536590128544573588734230
def tuN11 : Nat := 3125332594171059424908108096204648978570118281977575435832422631601824034463382777937621250592425535493320683825557
def tuK0 : F2p := ⟨ofN tuN0, ofN tuN1⟩
def tuK1 : F2p := ⟨ofN tuN2, ofN tuN3⟩
def tuK2 : F2p := ⟨ofN tuN4, ofN tuN5⟩
def tuK3 : F2p := ⟨ofN tuN6, ofN tuN7⟩
def tuK4 : F2p := ⟨ofN tuN8, ofN tuN9⟩
def tuK5 : F2p := ⟨ofN tuN10, ofN tuN11⟩
def S12.turn (z : S12) : S12 := ⟨⟨z.p.u.cj * tuK0, z.p.v.cj * tuK2, z.p.w.cj * tuK4⟩, ⟨z.q.u.cj * tuK1, z.q.v.cj * tuK3, z.q.w.cj * tuK5⟩⟩
def S12.turns : Nat → S12 → S12
  | 0, z => z
  | n + 1, z => S12.turn (S12.turns n z)
end Go.Rq

/- To be turned is to be raised to the prime; turned twelve times nothing is changed. -/
namespace Go.Rq
open Go
set_option linter.unusedVariables false

section
variable {α : Type} [CR α]
theorem cr_9 (x y : α) : x * y = x * y - 0 * 0 := by grind
theorem cr_10 (x y : α) : (0 : α) = x * 0 + 0 * y := by grind
theorem cr_11 (x y : α) : x = x + (y * 0 - 0 * 1) := by grind
theorem cr_12 (y : α) : y = 0 + (y * 1 + 0 * 0) := by grind
theorem cr_13 (y : α) : y * (0 - 1) = 0 - y := by grind
theorem cr_14 (a b c d : α) : a * c - b * d = a * c - (0 - b) * (0 - d) := by grind
theorem cr_15 (a b c d : α) : 0 - (a * d + b * c) = a * (0 - d) + (0 - b) * c := by grind
theorem cr_16 (a : α) : 0 - (0 - a) = a := by grind
theorem cr_17 (a b : α) : 0 - (a + b) = (0 - a) + (0 - b) := by grind
theorem cr_18 {a b : α} (h : a + b = 0) : a = 0 - b := by grind
theorem cr_19 (a b : α) : a + (0 - b) = a - b := by grind
theorem cr_z (a : α) : a * 0 = 0 := by grind
theorem cr_s1 (a u v w x y z k l : α) : a * u + (0 * w + 0 * v) * k + ((0 * x + (0 * z + 0 * y) * k) * 0 + ((0 * y + 0 * x + 0 * z * k) * 0 + (0 * z + 0 * x + 0 * y) * 1) * l) = a * u := by grind
theorem cr_s2 (a u v w x y z k l : α) : a * v + 0 * u + 0 * w * k + ((0 * x + (0 * z + 0 * y) * k) * 1 + (0 * y + 0 * x + 0 * z * k) * 0 + (0 * z + 0 * x + 0 * y) * 0 * l) = a * v := by grind
theorem cr_s3 (a u v w x y z k l : α) : a * w + 0 * u + 0 * v + ((0 * x + (0 * z + 0 * y) * k) * 0 + (0 * z + 0 * x + 0 * y) * 0 + (0 * y + 0 * x + 0 * z * k) * 1) = a * w := by grind
theorem cr_e1 (a b c d e f : α) : a = a + b * 0 + c * 0 + d * 0 + e * 0 + f * 0 := by grind
theorem cr_e2 (a b c d e f : α) : b = 0 + b * 1 + c * 0 + d * 0 + e * 0 + f * 0 := by grind
theorem cr_e3 (a b c d e f : α) : c = 0 + b * 0 + c * 1 + d * 0 + e * 0 + f * 0 := by grind
theorem cr_e4 (a b c d e f : α) : d = 0 + b * 0 + c * 0 + d * 1 + e * 0 + f * 0 := by grind
theorem cr_e5 (a b c d e f : α) : e = 0 + b * 0 + c * 0 + d * 0 + e * 1 + f * 0 := by grind
theorem cr_e6 (a b c d e f : α) : f = 0 + b * 0 + c * 0 + d * 0 + e * 0 + f * 1 := by grind
theorem cr_w (a b c d : α) : a * b * (c * d) = a * c * (b * d) := by grind
theorem cr_k3 (a k : α) : a * k * k * k = a * (k * k * k) := by grind
theorem cr_k4 (a : α) : a * (0 - 1) = 0 - a := by grind
end

/-! two parts -/
namespace F2p
def c (x : Fp) : F2p := ⟨x, 0⟩
def i2 : F2p := ⟨0, 1⟩
theorem nc_eq (n : Nat) : Rg.nc (R := F2p) n = c (Rg.nc n) := rfl
theorem char : Rg.nc (R := F2p) pN = 0 := by rw [nc_eq, fp_char]; rfl
theorem c_mul (x y : Fp) : c (x * y) = c x * c y := F2p.ext (cr_9 x y) (cr_10 x y)
theorem c_pow (x : Fp) : ∀ n : Nat, c x ^ n = c (x ^ n)
  | 0 => by rw [Rg.pow_zero, Rg.pow_zero]; rfl
  | n + 1 => by rw [Rg.pow_succ, Rg.pow_succ, c_pow x n, c_mul]
theorem split (a : F2p) : a = c a.x + c a.y * i2 := F2p.ext (cr_11 a.x a.y) (cr_12 a.y)
theorem i2_2 : i2 * i2 = c (ofN (pN - 1)) := by
  refine F2p.ext (Fin.ext (by kernel_rfl)) (Fin.ext (by kernel_rfl))
theorem i2_pow : i2 ^ pN = c (ofN (pN - 1)) * i2 := by
  have e : pN = 2 * (2 * ((pN - 3) / 4) + 1) + 1 := by decide
  have h : i2 ^ (2 * (2 * ((pN - 3) / 4) + 1) + 1) = c (ofN (pN - 1)) * i2 := by
    rw [Rg.pow_succ, pow_mul', Rg.pow_two, i2_2, Rg.pow_succ, pow_mul', Rg.pow_two]
    have h1 : c (ofN (pN - 1)) * c (ofN (pN - 1)) = 1 := F2p.ext (Fin.ext (by kernel_rfl)) (Fin.ext (by kernel_rfl))
    rw [h1, Rg.one_pow, Rg.one_mul]
  exact (congrArg (fun n : Nat => i2 ^ n) e).trans h
theorem neg1 (y : Fp) : y * ofN (pN - 1) = 0 - y := by
  have h : ofN (pN - 1) = 0 - 1 := Fin.ext (by kernel_rfl)
  rw [h]; exact cr_13 y
/-- The prime's power is the conjugate. -/
theorem frob (a : F2p) : a ^ pN = a.cj := by
  have h := split a
  have e : a ^ pN = (c a.x + c a.y * i2) ^ pN := congrArg (fun z : F2p => z ^ pN) h
  rw [e, frobR pN_pr char, mul_pow', c_pow, c_pow, fp_fermat, fp_fermat, i2_pow, ← Rg.mul_assoc, ← c_mul, neg1]
  exact (split a.cj).symm
theorem cj_mul (a b : F2p) : cj (a * b) = cj a * cj b := F2p.ext (cr_14 _ _ _ _) (cr_15 _ _ _ _)
theorem cj_cj (a : F2p) : cj (cj a) = a := F2p.ext rfl (cr_16 _)
theorem cj_add (a b : F2p) : cj (a + b) = cj a + cj b := F2p.ext rfl (cr_17 _ _)
end F2p

/-! two parts, to a power, by squaring -/
def qm (x y : Nat × Nat) : Nat × Nat := ((x.1 * y.1 + (pN - x.2 * y.2 % pN)) % pN, (x.1 * y.2 + x.2 * y.1) % pN)
def qS (a : Nat × Nat) (b : Bool) (r : Nat × Nat) : Nat × Nat := bif b then qm (qm r r) a else qm r r
def qw (a : Nat × Nat) : Nat → Nat → Nat × Nat
  | 0, _ => (1, 0)
  | k + 1, e => qS a (Nat.beq (e % 2) 1) (qw a k (e / 2))
def toQ (x : Nat × Nat) : F2p := ⟨ofN x.1, ofN x.2⟩
theorem ofN_sub {a : Nat} (h : a ≤ pN) : ofN (pN - a) = 0 - ofN a := by
  have : ofN (pN - a) + ofN a = 0 := by rw [← ofN_add, Nat.sub_add_cancel h, ofN_p]
  exact cr_18 this
theorem qm_eq (x y : Nat × Nat) : toQ (qm x y) = toQ x * toQ y := by
  refine F2p.ext ?_ ?_
  · show ofN ((x.1 * y.1 + (pN - x.2 * y.2 % pN)) % pN) = ofN x.1 * ofN y.1 - ofN x.2 * ofN y.2
    rw [ofN_mod, ofN_add, ofN_sub (Nat.le_of_lt (Nat.mod_lt _ pN_pos)), ofN_mod, ofN_mul, ofN_mul]
    exact cr_19 _ _
  · show ofN ((x.1 * y.2 + x.2 * y.1) % pN) = ofN x.1 * ofN y.2 + ofN x.2 * ofN y.1
    rw [ofN_mod, ofN_add, ofN_mul, ofN_mul]
theorem qw_eq (a : Nat × Nat) : ∀ k e, e < 2 ^ k → toQ (qw a k e) = toQ a ^ e
  | 0, e, h => by
    have : e = 0 := by simpa using h
    subst this
    rw [Rg.pow_zero]
    exact F2p.ext ofN_one ofN_zero
  | k + 1, e, h => by
    have ih := qw_eq a k (e / 2) (by rw [Nat.pow_succ] at h; omega)
    rw [pow_half]
    show toQ (qS a (Nat.beq (e % 2) 1) (qw a k (e / 2))) = _
    unfold qS
    cases Nat.beq (e % 2) 1
    · rw [cond_false, cond_false, qm_eq, ih]
    · rw [cond_true, cond_true, qm_eq, qm_eq, ih]
theorem kx_Q : kx = toQ (1, 1) := F2p.ext ofN_one.symm ofN_one.symm
theorem kx_pow : kx ^ ((pN - 1) / 6) = tuK1 := by
  rw [kx_Q, ← qw_eq (1, 1) E _ (by rw [← R_pow]; decide)]
  exact F2p.ext (congrArg ofN (by kernel_rfl)) (congrArg ofN (by kernel_rfl))

/-! twelve parts -/
namespace S12
def c (a : F2p) : S12 := ⟨⟨a, 0, 0⟩, ⟨0, 0, 0⟩⟩
def w1 : S12 := ⟨⟨0, 0, 0⟩, ⟨1, 0, 0⟩⟩
def w2 : S12 := ⟨⟨0, 1, 0⟩, ⟨0, 0, 0⟩⟩
def w3 : S12 := ⟨⟨0, 0, 0⟩, ⟨0, 1, 0⟩⟩
def w4 : S12 := ⟨⟨0, 0, 1⟩, ⟨0, 0, 0⟩⟩
def w5 : S12 := ⟨⟨0, 0, 0⟩, ⟨0, 0, 1⟩⟩
def scal (a : F2p) (z : S12) : S12 := ⟨⟨a * z.p.u, a * z.p.v, a * z.p.w⟩, ⟨a * z.q.u, a * z.q.v, a * z.q.w⟩⟩
theorem nc_eq (n : Nat) : Rg.nc (R := S12) n = c (Rg.nc n) := rfl
theorem char : Rg.nc (R := S12) pN = 0 := by rw [nc_eq, F2p.char]; rfl
theorem fp_ext {a b : F2p} (h1 : a.x.val = b.x.val) (h2 : a.y.val = b.y.val) : a = b := F2p.ext (Fin.ext h1) (Fin.ext h2)
theorem s6_ext {a b : S6} (h : (a.u = b.u ∧ a.v = b.v) ∧ a.w = b.w) : a = b := S6.ext h.1.1 h.1.2 h.2
theorem c_scal (a : F2p) (z : S12) : c a * z = scal a z := by
  refine S12.ext (S6.ext ?_ ?_ ?_) (S6.ext ?_ ?_ ?_)
  · rw [mul_p, S6.add_u, S6.mul_u, S6.mul_u, S6.mul_u, S6.mul_v, S6.mul_w]
    show a * z.p.u + (0 * z.p.w + 0 * z.p.v) * kx + _ = a * z.p.u
    exact cr_s1 _ _ _ _ _ _ _ _ _
  · rw [mul_p, S6.add_v, S6.mul_v, S6.mul_v, S6.mul_u, S6.mul_v, S6.mul_w]
    show a * z.p.v + 0 * z.p.u + 0 * z.p.w * kx + _ = a * z.p.v
    exact cr_s2 _ _ _ _ _ _ _ _ _
  · rw [mul_p, S6.add_w, S6.mul_w, S6.mul_w, S6.mul_u, S6.mul_v, S6.mul_w]
    show a * z.p.w + 0 * z.p.u + 0 * z.p.v + _ = a * z.p.w
    exact cr_s3 _ _ _ _ _ _ _ kx kx
  · rw [mul_q, S6.add_u, S6.mul_u, S6.mul_u]
    show a * z.q.u + (0 * z.q.w + 0 * z.q.v) * kx + (0 * z.p.u + (0 * z.p.w + 0 * z.p.v) * kx) = a * z.q.u
    generalize kx = k
    grind
  · rw [mul_q, S6.add_v, S6.mul_v, S6.mul_v]
    show a * z.q.v + 0 * z.q.u + 0 * z.q.w * kx + (0 * z.p.v + 0 * z.p.u + 0 * z.p.w * kx) = a * z.q.v
    generalize kx = k
    grind
  · rw [mul_q, S6.add_w, S6.mul_w, S6.mul_w]
    show a * z.q.w + 0 * z.q.u + 0 * z.q.v + (0 * z.p.w + 0 * z.p.u + 0 * z.p.v) = a * z.q.w
    grind
theorem c_mul (a b : F2p) : c (a * b) = c a * c b := by
  rw [c_scal]
  exact S12.ext (S6.ext rfl (cr_z a).symm (cr_z a).symm) (S6.ext (cr_z a).symm (cr_z a).symm (cr_z a).symm)
theorem c_pow (a : F2p) : ∀ n : Nat, c a ^ n = c (a ^ n)
  | 0 => by rw [Rg.pow_zero, Rg.pow_zero]; rfl
  | n + 1 => by rw [Rg.pow_succ, Rg.pow_succ, c_pow a n, c_mul]
theorem split (z : S12) : z = c z.p.u + c z.q.u * w1 + c z.p.v * w2 + c z.q.v * w3 + c z.p.w * w4 + c z.q.w * w5 := by
  simp only [c_scal]
  exact S12.ext (S6.ext (cr_e1 _ _ _ _ _ _) (cr_e3 0 _ _ _ _ _) (cr_e5 0 _ _ _ _ _)) (S6.ext (cr_e2 0 _ _ _ _ _) (cr_e4 0 _ _ _ _ _) (cr_e6 0 _ _ _ _ _))
theorem w_2 : w1 * w1 = w2 := by kernel_rfl
theorem w_3 : w1 * w2 = w3 := by kernel_rfl
theorem w_4 : w1 * w3 = w4 := by kernel_rfl
theorem w_5 : w1 * w4 = w5 := by kernel_rfl
theorem w_6 : w1 * w5 = c kx := by kernel_rfl
theorem tu_2 : tuK1 * tuK1 = tuK2 := by kernel_rfl
theorem tu_3 : tuK1 * tuK2 = tuK3 := by kernel_rfl
theorem tu_4 : tuK1 * tuK3 = tuK4 := by kernel_rfl
theorem tu_5 : tuK1 * tuK4 = tuK5 := by kernel_rfl
theorem tu_0 : tuK0 = 1 := by kernel_rfl
theorem w1_pow : w1 ^ pN = c tuK1 * w1 := by
  have e : pN = 6 * ((pN - 1) / 6) + 1 := by decide
  have h6 : w1 ^ 6 = c kx := by
    rw [Rg.pow_succ, Rg.pow_succ, Rg.pow_succ, Rg.pow_succ, Rg.pow_two, w_2, Rg.mul_comm w2, w_3, Rg.mul_comm w3, w_4, Rg.mul_comm w4, w_5, Rg.mul_comm w5, w_6]
  have h : w1 ^ (6 * ((pN - 1) / 6) + 1) = c tuK1 * w1 := by
    rw [Rg.pow_succ, pow_mul', h6, c_pow, kx_pow]
  exact (congrArg (fun n : Nat => w1 ^ n) e).trans h
theorem wstep {a b d : S12} {s t r : F2p} (ha : a ^ pN = c s * a) (hb : b ^ pN = c t * b) (hd : a * b = d) (hr : s * t = r) : d ^ pN = c r * d := by
  rw [← hd, mul_pow', ha, hb, ← hr, c_mul]
  exact cr_w _ _ _ _
theorem w2_pow : w2 ^ pN = c tuK2 * w2 := wstep w1_pow w1_pow w_2 tu_2
theorem w3_pow : w3 ^ pN = c tuK3 * w3 := wstep w1_pow w2_pow w_3 tu_3
theorem w4_pow : w4 ^ pN = c tuK4 * w4 := wstep w1_pow w3_pow w_4 tu_4
theorem w5_pow : w5 ^ pN = c tuK5 * w5 := wstep w1_pow w4_pow w_5 tu_5
/-- To be raised to the prime is to be turned. -/
theorem frob (z : S12) : z ^ pN = turn z := by
  have e : z ^ pN = (c z.p.u + c z.q.u * w1 + c z.p.v * w2 + c z.q.v * w3 + c z.p.w * w4 + c z.q.w * w5) ^ pN := congrArg (fun z : S12 => z ^ pN) (split z)
  rw [e, frobR pN_pr char, frobR pN_pr char, frobR pN_pr char, frobR pN_pr char, frobR pN_pr char]
  simp only [mul_pow', c_pow, F2p.frob, w1_pow, w2_pow, w3_pow, w4_pow, w5_pow]
  rw [split (turn z)]
  show _ = c (z.p.u.cj * tuK0) + c (z.q.u.cj * tuK1) * w1 + c (z.p.v.cj * tuK2) * w2 + c (z.q.v.cj * tuK3) * w3 + c (z.p.w.cj * tuK4) * w4 + c (z.q.w.cj * tuK5) * w5
  rw [tu_0, Rg.mul_one]
  simp only [c_mul, Rg.mul_assoc]
theorem turn_mul (a b : S12) : turn (a * b) = turn a * turn b := by rw [← frob, ← frob, ← frob, mul_pow']
theorem turn_add (a b : S12) : turn (a + b) = turn a + turn b := by rw [← frob, ← frob, ← frob, frobR pN_pr char]
theorem turns_mul (a b : S12) : ∀ n : Nat, turns n (a * b) = turns n a * turns n b
  | 0 => rfl
  | n + 1 => by show turn (turns n (a * b)) = turn (turns n a) * turn (turns n b); rw [turns_mul a b n, turn_mul]
theorem turns_add (a b : S12) : ∀ n : Nat, turns n (a + b) = turns n a + turns n b
  | 0 => rfl
  | n + 1 => by show turn (turns n (a + b)) = turn (turns n a) + turn (turns n b); rw [turns_add a b n, turn_add]
theorem turns_turns (m : Nat) (z : S12) : ∀ n : Nat, turns n (turns m z) = turns (n + m) z
  | 0 => by rw [Nat.zero_add]; rfl
  | n + 1 => by
    rw [Nat.add_right_comm]
    show turn (turns n (turns m z)) = turn (turns (n + m) z)
    rw [turns_turns m z n]
theorem turns_pow (z : S12) : ∀ n : Nat, turns n z = z ^ (pN ^ n)
  | 0 => by rw [Nat.pow_zero, Rg.pow_one]; rfl
  | n + 1 => by
    show turn (turns n z) = _
    rw [turns_pow z n, ← frob, Nat.pow_succ, pow_mul']
def conj' (z : S12) : S12 := ⟨z.p, 0 - z.q⟩
def sk (k : F2p) : F2p := k.cj * k
def tw2 (z : S12) : S12 := ⟨⟨z.p.u * sk tuK0, z.p.v * sk tuK2, z.p.w * sk tuK4⟩, ⟨z.q.u * sk tuK1, z.q.v * sk tuK3, z.q.w * sk tuK5⟩⟩
theorem two_turn (z : S12) : turn (turn z) = tw2 z := by
  have key : ∀ a k : F2p, (a.cj * k).cj * k = a * sk k := fun a k => by rw [F2p.cj_mul, F2p.cj_cj, Rg.mul_assoc]; rfl
  exact S12.ext (S6.ext (key _ _) (key _ _) (key _ _)) (S6.ext (key _ _) (key _ _) (key _ _))
def m1 : F2p := ⟨ofN (pN - 1), 0⟩
theorem sk0 : sk tuK0 * sk tuK0 * sk tuK0 = 1 := by kernel_rfl
theorem sk1 : sk tuK1 * sk tuK1 * sk tuK1 = m1 := by kernel_rfl
theorem sk2 : sk tuK2 * sk tuK2 * sk tuK2 = 1 := by kernel_rfl
theorem sk3 : sk tuK3 * sk tuK3 * sk tuK3 = m1 := by kernel_rfl
theorem sk4 : sk tuK4 * sk tuK4 * sk tuK4 = 1 := by kernel_rfl
theorem sk5 : sk tuK5 * sk tuK5 * sk tuK5 = m1 := by kernel_rfl
theorem m1_eq : m1 = 0 - 1 := by kernel_rfl
theorem turns_six (z : S12) : turns 6 z = conj' z := by
  show turn (turn (turn (turn (turn (turn z))))) = _
  rw [two_turn, two_turn, two_turn]
  have p : ∀ a k : F2p, k * k * k = 1 → a * k * k * k = a := fun a k h => by rw [cr_k3, h, Rg.mul_one]
  have q : ∀ a k : F2p, k * k * k = m1 → a * k * k * k = 0 - a := fun a k h => by rw [cr_k3, h, m1_eq]; exact cr_k4 a
  exact S12.ext (S6.ext (p _ _ sk0) (p _ _ sk2) (p _ _ sk4)) (S6.ext (q _ _ sk1) (q _ _ sk3) (q _ _ sk5))
theorem conj_conj (z : S12) : conj' (conj' z) = z := S12.ext rfl (cr_16 z.q)
theorem turns_twelve (z : S12) : turns 12 z = z := by
  rw [← turns_turns 6 z 6, turns_six, turns_six, conj_conj]
theorem turns_mod (z : S12) (n : Nat) : ∀ m : Nat, turns (12 * m + n) z = turns n z
  | 0 => by rw [Nat.mul_zero, Nat.zero_add]
  | m + 1 => by
    rw [show 12 * (m + 1) + n = 12 + (12 * m + n) by omega, ← turns_turns, turns_twelve, turns_mod z n m]
theorem turns_cong (z : S12) {m n : Nat} (h : m % 12 = n % 12) : turns m z = turns n z := by
  have e1 := turns_mod z (m % 12) (m / 12)
  have e2 := turns_mod z (n % 12) (n / 12)
  rw [Nat.div_add_mod] at e1 e2
  rw [e1, e2, h]
end S12
end Go.Rq

/- Functions that read two blocks of plain cells: closures over two variables. -/
namespace Go.Rq
open Go

def FEndR2 (T : TT) (fn : Func) (v : AV) (x y : Blk) : Exit → AS → Prop
  | .normal, s | .ret, s => hget s.h 0 = some x ∧ hget s.h 1 = some y ∧ ∃ v', resA T s fn.results.toList = some v' ∧ vokB v' = true ∧ ∀ ρ, v'.val ρ = v.val ρ
  | _, _ => False
theorem bkAVs_app (m : List Nat) : ∀ (l r : List AV), bkAVs m (l ++ r) = bkAVs m l ++ bkAVs m r
  | [], _ => rfl
  | v :: l, r => congrArg (bkAV m v :: ·) (bkAVs_app m l r)
theorem rd_blk2 {P : Program} {T : TT} (hT : TTOk P T) {f : FuncId} {fn : Func} (hf : P.funcs[f]? = some fn) (hb : fn.body = some (bodyOf fn)) (hn : (fn.name == "runtime.NumGoroutine") = false)
    {b c : Nat} (hbc : Nat.beq b c = false) {x y : Blk} {pre : List AV} {v : AV} (hx : plainCs x.cells = true) (hy : plainCs y.cells = true) (lx : x.lo = 0) (ly : y.lo = 0) (hpre : pre.all vokB = true) (hv : vokB v = true) {h : Heap} (hgb : hget h b = some x) (hgc : hget h c = some y)
    (hwalk : AWqS P (Dm [some x, some y]) (flatC (bodyOf fn)) (FEndR2 T fn v x y) ⟨frame0 (pre ++ [.v1 (.sc (.pt 0 0)), .v1 (.sc (.pt 1 0))]) fn.ntmps, [some x, some y]⟩) :
    CallOk P f (pre ++ [.v1 (.sc (.pt b 0)), .v1 (.sc (.pt c 0))]) h v h := by
  have hcb : Nat.beq c b = false := by
    rw [← Bool.not_eq_true, Nat.beq_eq]
    intro e
    rw [e, Nat.beq_refl] at hbc; cases hbc
  have hbb : bk [b, c] b = 0 := by simp [bk, idxN]
  have hcc : bk [b, c] c = 1 := by simp only [bk, idxN, hcb, Nat.beq_refl]
  have hbx : ∀ m, bkBlk m x = x := fun m => by unfold bkBlk; rw [bkCells_plain hx]
  have hby : ∀ m, bkBlk m y = y := fun m => by unfold bkBlk; rw [bkCells_plain hy]
  have hpk : pickH [b, c] h [b, c] = [some x, some y] := by
    show [pickB [b, c] (hget h b), pickB [b, c] (hget h c)] = _
    rw [hgb, hgc]
    simp only [pickB, hbx, hby]
  have hLv : ∀ i, i < 2 → Lv [some x, some y] i := fun i hi => by
    rcases (show i = 0 ∨ i = 1 by omega) with rfl | rfl
    · exact ⟨x, rfl, by omega⟩
    · exact ⟨y, rfl, by omega⟩
  have hheap : heapB [some x, some y] 0 [some x, some y] = true := by
    simp only [heapB, Bool.and_eq_true]
    refine ⟨cellsB_plain hx, ?_, cellsB_plain hy, ?_, trivial⟩
    · rw [lx]; rfl
    · rw [ly]; rfl
  have hchk : ∀ m n : Nat, Nat.beq m n = false → chkB [m, n] [some x, some y] = true := fun m n hmn => by
    unfold chkB nextB nextB
    rw [lx, ly]
    simp only [nodupB, notIn, hmn]
    rfl
  refine mem_walk hT hf hb hn [b, c] [] 0 [some x, some y] [some x, some y] (args' := pre ++ [.v1 (.sc (.pt 0 0)), .v1 (.sc (.pt 1 0))]) (vK := v) (hchk b c hbc) hpk hheap ?_ ?_ hLv hheap (avB_plain hv) (fun i hi => (hLv i (by simpa using hi)).dm) (hchk b c hbc) hpk (bkAV_plain hv) (fun t ht => by simp at ht) (fun _ _ _ => rfl) ?_ (hnw := by simp [noWinB, lx, ly])
  · rw [bkAVs_app, bkAVs_plain hpre]
    show pre ++ [AV.v1 (.sc (.pt (bk [b, c] b) 0)), AV.v1 (.sc (.pt (bk [b, c] c) 0))] = _
    rw [hbb, hcc]
  · rw [List.all_append, Bool.and_eq_true]
    refine ⟨List.all_eq_true.2 fun z hz => avB_plain (List.all_eq_true.1 hpre z hz), ?_⟩
    simp only [List.all_cons, List.all_nil, Bool.and_eq_true]
    exact ⟨rfl, rfl, trivial⟩
  · refine hwalk.mono fun e s q => ?_
    have key : (hget s.h 0 = some x ∧ hget s.h 1 = some y ∧ ∃ v', resA T s fn.results.toList = some v' ∧ vokB v' = true ∧ ∀ ρ, v'.val ρ = v.val ρ) → chkB [0, 1] (pickH [0, 1] s.h [0, 1]) = true ∧ heapB (pickH [0, 1] s.h [0, 1]) 0 (pickH [0, 1] s.h [0, 1]) = true ∧ SimH (pickH [0, 1] s.h [0, 1]) [some x, some y] ∧
        ∃ v', resA T s fn.results.toList = some v' ∧ avB (pickH [0, 1] s.h [0, 1]) (bkAV [0, 1] v') = true ∧ ∀ ρ, (bkAV [0, 1] v').val ρ = v.val ρ := by
      intro ⟨q1, q1', v', q2, q3, q4⟩
      have e : pickH [0, 1] s.h [0, 1] = [some x, some y] := by
        show [pickB [0, 1] (hget s.h 0), pickB [0, 1] (hget s.h 1)] = _
        rw [q1, q1']
        simp only [pickB, hbx, hby]
      rw [e]
      exact ⟨hchk 0 1 rfl, hheap, ⟨⟨rfl, rfl, rfl, fun _ => rfl⟩, ⟨rfl, rfl, rfl, fun _ => rfl⟩, trivial⟩, v', q2, by rw [bkAV_plain q3]; exact avB_plain q3, fun ρ => by rw [bkAV_plain q3]; exact q4 ρ⟩
    cases e with
    | normal => exact key q
    | ret => exact key q
    | exit j => exact q.elim
    | goto l => exact q.elim
    | panic ch => exact q.elim
    | outgrown => exact q.elim
end Go.Rq

/- Data that is flat: numbers, bools, arrays and structs of them; opened and shut. -/
namespace Go.Rq
open Go
set_option linter.unusedVariables false

inductive CK where
  | i (k : IntKind)
  | b

def CsOk : List CK → List Value → Prop
  | [], [] => True
  | .i k :: r, .int k' n :: vs => k' = k ∧ (Lit.int k n).wf = true ∧ CsOk r vs
  | .b :: r, .bool _ :: vs => CsOk r vs
  | _, _ => False

mutual
inductive FlatTy (P : Program) : TypeId → List CK → Prop
  | int {t : TypeId} {k : IntKind} (hu : P.underlying t = some (.int k)) : FlatTy P t [.i k]
  | bool {t : TypeId} (hu : P.underlying t = some .bool) : FlatTy P t [.b]
  | arr {t e : TypeId} {n : Nat} {sk : List CK} (hu : P.underlying t = some (.array n e)) (he : FlatTy P e sk) (hc : P.cellsOf e = sk.length) (ht : P.cellsOf t = n * sk.length) : FlatTy P t (List.replicate n sk).flatten
  | str {t : TypeId} {fs : Array Field} {sk : List CK} (hu : P.underlying t = some (.struct fs)) (hf : FlatFs P 0 fs.toList sk) (ht : P.cellsOf t = sk.length) : FlatTy P t sk
inductive FlatFs (P : Program) : Nat → List Field → List CK → Prop
  | nil (o : Nat) : FlatFs P o [] []
  | cons {f : Field} {fs : List Field} {o : Nat} {sk r : List CK} (ho : f.offset = o) (h : FlatTy P f.type sk) (hc : P.cellsOf f.type = sk.length) (hr : FlatFs P (o + sk.length) fs r) : FlatFs P o (f :: fs) (sk ++ r)
end

theorem CsOk.append : ∀ {a b : List CK} {xs ys : List Value}, CsOk a xs → CsOk b ys → CsOk (a ++ b) (xs ++ ys)
  | [], _, [], _, _, h => h
  | .i k :: r, b, .int k' n :: vs, ys, h, h2 => ⟨h.1, h.2.1, CsOk.append (a := r) h.2.2 h2⟩
  | .b :: r, b, .bool _ :: vs, ys, h, h2 => CsOk.append (a := r) h h2
  | [], _, _ :: _, _, h, _ => h.elim
  | .i _ :: _, _, [], _, h, _ => h.elim
  | .b :: _, _, [], _, h, _ => h.elim
theorem CsOk.len : ∀ {a : List CK} {xs : List Value}, CsOk a xs → xs.length = a.length
  | [], [], _ => rfl
  | .i k :: r, .int k' n :: vs, h => by simp [CsOk.len (a := r) h.2.2]
  | .b :: r, .bool _ :: vs, h => by simp [CsOk.len (a := r) h]
  | [], _ :: _, h => h.elim
  | .i _ :: _, [], h => h.elim
  | .b :: _, [], h => h.elim
theorem CsOk.slices {sk : List CK} : ∀ {n : Nat} {cs : List Value}, cs.length = n * sk.length → (∀ i, i < n → CsOk sk ((cs.drop (i * sk.length)).take sk.length)) → CsOk (List.replicate n sk).flatten cs
  | 0, cs, hl, _ => by
    have : cs = [] := by simpa using hl
    subst this; trivial
  | n + 1, cs, hl, h => by
    rw [List.replicate_succ, List.flatten_cons, ← List.take_append_drop sk.length cs]
    refine CsOk.append (by simpa using h 0 (by omega)) (CsOk.slices (by rw [List.length_drop, hl, Nat.succ_mul]; omega) fun i hi => ?_)
    have := h (i + 1) (by omega)
    rw [List.drop_drop]
    rw [show sk.length + i * sk.length = (i + 1) * sk.length by rw [Nat.succ_mul]; omega]
    exact this

section
variable {H : Type} {enc : TypeId × Value → H} {P : Program}
theorem mapM_congr' {α β : Type} {f g : α → Option β} : ∀ {l : List α}, (∀ x ∈ l, f x = g x) → l.mapM f = l.mapM g
  | [], _ => rfl
  | x :: r, h => by
    rw [List.mapM_cons, List.mapM_cons, h x (by simp), mapM_congr' fun y hy => h y (by simp [hy])]
mutual
theorem FlatTy.same {t : TypeId} {sk : List CK} (h : FlatTy P t sk) : ∀ (fuel : Nat) (cs : List Value) (w w' : World) (b b' : Nat) (sp sp' : Nat → Bool) (hd hd' : Bool),
    DataW.trod enc P w b sp hd fuel t cs = DataW.trod enc P w' b' sp' hd' fuel t cs := by
  intro fuel cs w w' b b' sp sp' hd hd'
  cases fuel with
  | zero => simp [DataW.trod]
  | succ m =>
    unfold DataW.trod
    cases h with
    | int hu => rw [hu]; cases cs with
      | nil => rfl
      | cons c r => cases r <;> cases c <;> rfl
    | bool hu => rw [hu]; cases cs with
      | nil => rfl
      | cons c r => cases r <;> cases c <;> rfl
    | arr hu he hc ht =>
      rw [hu]
      simp only
      rw [mapM_congr' fun i _ => FlatTy.same he m _ w w' b b' sp sp' hd hd']
    | str hu hf ht =>
      rw [hu]
      simp only
      rw [FlatFs.same hf m cs w w' b b' sp sp' hd hd']
theorem FlatFs.same {o : Nat} {fs : List Field} {sk : List CK} (h : FlatFs P o fs sk) : ∀ (fuel : Nat) (cs : List Value) (w w' : World) (b b' : Nat) (sp sp' : Nat → Bool) (hd hd' : Bool),
    (fs.mapM fun f => DataW.trod enc P w b sp hd fuel f.type ((cs.drop f.offset).take (P.cellsOf f.type))) = fs.mapM fun f => DataW.trod enc P w' b' sp' hd' fuel f.type ((cs.drop f.offset).take (P.cellsOf f.type)) := by
  intro fuel cs w w' b b' sp sp' hd hd'
  cases h with
  | nil => rfl
  | cons ho h hc hr => rw [List.mapM_cons, List.mapM_cons, FlatTy.same h fuel _ w w' b b' sp sp' hd hd', FlatFs.same hr fuel cs w w' b b' sp sp' hd hd']
end

theorem flatMap_nil {α β : Type} {xs : List (α × List β)} (h : ∀ (i : Nat) (x : α × List β), xs[i]? = some x → x.2 = []) : xs.flatMap (·.2) = [] := by
  rw [List.flatMap_eq_nil_iff]
  intro x hx
  obtain ⟨i, hi⟩ := List.getElem?_of_mem hx
  exact h i x hi
def CellsT (H : Type) (enc : TypeId × Value → H) (P : Program) (t : TypeId) (sk : List CK) : Prop :=
  ∀ (fuel : Nat) (cs : List Value) (w : World) (b : Nat) (sp : Nat → Bool) (hd : Bool) (x : DataW H × List MemPlace), DataW.trod enc P w b sp hd fuel t cs = some x → CsOk sk cs ∧ x.2 = []
def CellsF (H : Type) (enc : TypeId × Value → H) (P : Program) (o : Nat) (fs : List Field) (sk : List CK) : Prop :=
  ∀ (fuel : Nat) (cs : List Value) (w : World) (b : Nat) (sp : Nat → Bool) (hd : Bool) (xs : List (DataW H × List MemPlace)),
    cs.length = o + sk.length → xs.length = fs.length → (∀ (i : Nat) (f : Field), fs[i]? = some f → DataW.trod enc P w b sp hd fuel f.type ((cs.drop f.offset).take (P.cellsOf f.type)) = xs[i]?) → CsOk sk (cs.drop o) ∧ xs.flatMap (·.2) = []
theorem cells_arr {t e : TypeId} {n : Nat} {sk : List CK} (hu : P.underlying t = some (.array n e)) (he : CellsT H enc P e sk) (hc : P.cellsOf e = sk.length) (ht : P.cellsOf t = n * sk.length) : CellsT H enc P t (List.replicate n sk).flatten := by
  intro fuel cs w b sp hd x hx
  obtain ⟨xs, m, rfl, rfl, hl, hn, hi⟩ := DataW.trod_array hu hx
  have key : ∀ i, i < xs.length → ∃ y, xs[i]? = some y := fun i hi => ⟨xs[i], by simp [hi]⟩
  refine ⟨CsOk.slices (by rw [hl, ht]) fun i h1 => ?_, flatMap_nil fun i y hy => ?_⟩
  · obtain ⟨y, hy⟩ := key i (by omega)
    have := hi i h1
    rw [hy] at this
    rw [← hc]
    exact (he m _ w b sp hd y this).1
  · have h1 : i < xs.length := (List.getElem?_eq_some_iff.1 hy).1
    have := hi i (by omega)
    rw [hy] at this
    exact (he m _ w b sp hd y this).2
theorem cells_str {t : TypeId} {fs : Array Field} {sk : List CK} (hu : P.underlying t = some (.struct fs)) (hf : CellsF H enc P 0 fs.toList sk) (ht : P.cellsOf t = sk.length) : CellsT H enc P t sk := by
  intro fuel cs w b sp hd x hx
  obtain ⟨xs, m, rfl, rfl, hl, hn, hi⟩ := DataW.trod_struct hu hx
  have := hf m cs w b sp hd xs (by rw [hl, ht]; simp) (by simpa using hn) fun i f hf => hi i f (by simpa using hf)
  exact ⟨by simpa using this.1, this.2⟩
theorem cells_cons {f : Field} {fs : List Field} {o : Nat} {sk r : List CK} (ho : f.offset = o) (h : CellsT H enc P f.type sk) (hc : P.cellsOf f.type = sk.length) (hr : CellsF H enc P (o + sk.length) fs r) : CellsF H enc P o (f :: fs) (sk ++ r) := by
  intro fuel cs w b sp hd xs hl hx hi
  cases xs with
  | nil => simp at hx
  | cons y ys =>
    have h0 := hi 0 f rfl
    simp only [List.getElem?_cons_zero] at h0
    have c0 := h fuel _ w b sp hd y h0
    have cr := hr fuel cs w b sp hd ys (by rw [hl, List.length_append]; omega) (by simpa using hx) fun i f' hf' => by
      have := hi (i + 1) f' (by simpa using hf')
      simpa using this
    refine ⟨?_, by rw [List.flatMap_cons, c0.2, cr.2]; rfl⟩
    rw [← List.take_append_drop sk.length (cs.drop o)]
    refine CsOk.append ?_ ?_
    · rw [← hc, ← ho]; exact c0.1
    · rw [List.drop_drop]; exact cr.1
theorem FlatTy.cells {t : TypeId} {sk : List CK} (h : FlatTy P t sk) : CellsT H enc P t sk := by
  refine FlatTy.rec (motive_1 := fun t sk _ => CellsT H enc P t sk) (motive_2 := fun o fs sk _ => CellsF H enc P o fs sk) ?_ ?_ ?_ ?_ ?_ ?_ h
  · intro t k hu fuel cs w b sp hd x hx
    obtain ⟨n, rfl, rfl, hw⟩ := DataW.trod_int hu hx
    exact ⟨⟨rfl, hw, trivial⟩, rfl⟩
  · intro t hu fuel cs w b sp hd x hx
    obtain ⟨n, rfl, rfl⟩ := DataW.trod_bool hu hx
    exact ⟨trivial, rfl⟩
  · intro t e n sk hu _ hc ht he
    exact cells_arr hu he hc ht
  · intro t fs sk hu _ ht hf
    exact cells_str hu hf ht
  · intro o fuel cs w b sp hd xs hl hx hi
    have : xs = [] := by simpa using hx
    subst this
    rw [List.drop_eq_nil_of_le (by simp at hl; omega)]
    exact ⟨trivial, rfl⟩
  · intro f fs o sk r ho _ hc _ h hr
    exact cells_cons ho h hc hr

/-- Flat data, handed back in whatever world. -/
theorem FlatTy.trod {t : TypeId} {sk : List CK} (h : FlatTy P t sk) {w : World} {b : Nat} {sp : Nat → Bool} {hd : Bool} {v : Value} {d : DataW H} {p : List MemPlace} (hT : DataW.Trod enc P w b sp hd t v d p) :
    CsOk sk v.cells.toList ∧ p = [] ∧ ∀ (w' : World) (b' : Nat) (sp' : Nat → Bool) (hd' : Bool), DataW.Trod enc P w' b' sp' hd' t v d [] := by
  obtain ⟨fuel, hf⟩ := hT
  have hc := h.cells fuel _ w b sp hd _ hf
  have hp : p = [] := hc.2
  subst hp
  exact ⟨hc.1, rfl, fun w' b' sp' hd' => ⟨fuel, by rw [← FlatTy.same h fuel _ w w' b b' sp sp' hd hd']; exact hf⟩⟩
end

/-! off the cells -/
theorem wf_u64 {z : Int} (h : (Lit.int .u64 z).wf = true) : Int.ofNat (z.toNat % M .u64) = z := by
  simp only [Lit.wf, IntKind.min, IntKind.max, IntKind.signed, IntKind.bits, Bool.and_eq_true] at h
  simp only [M, Int.ofNat_eq_natCast]
  simp at h
  omega
theorem CsOk.u64 {r : List CK} : ∀ {n : Nat} {vs : List Value}, CsOk (List.replicate n (.i .u64) ++ r) vs → ∃ (g : Nat → Nat) (vs' : List Value), vs = (Cell.ws .u64 n g).vals (fun _ => 0) ++ vs' ∧ CsOk r vs'
  | 0, vs, h => ⟨fun _ => 0, vs, by simp [Cell.vals], by simpa using h⟩
  | n + 1, vs, h => by
    rw [List.replicate_succ, List.cons_append] at h
    match vs, h with
    | .int k' z :: vs, h =>
      obtain ⟨rfl, hw, hr⟩ := h
      obtain ⟨g, vs', rfl, h'⟩ := CsOk.u64 (n := n) (r := r) hr
      refine ⟨fun j => match j with | 0 => z.toNat | j + 1 => g j, vs', ?_, h'⟩
      simp only [Cell.vals, List.range_succ_eq_map, List.map_cons, List.map_map, List.cons_append, wf_u64 hw]
      rfl
theorem CsOk.bo {r : List CK} {vs : List Value} (h : CsOk (.b :: r) vs) : ∃ (b : Bool) (vs' : List Value), vs = .bool b :: vs' ∧ CsOk r vs' := by
  match vs, h with
  | .bool b :: vs, h => exact ⟨b, vs, rfl, h⟩
theorem CsOk.int {k : IntKind} {r : List CK} {vs : List Value} (h : CsOk (.i k :: r) vs) : ∃ (z : Int) (vs' : List Value), vs = .int k z :: vs' ∧ (Lit.int k z).wf = true ∧ CsOk r vs' := by
  match vs, h with
  | .int k' b :: vs, h => obtain ⟨rfl, hw, hr⟩ := h; exact ⟨b, vs, rfl, hw, hr⟩
theorem CsOk.nil {vs : List Value} (h : CsOk [] vs) : vs = [] := by
  match vs, h with
  | [], _ => rfl
end Go.Rq
