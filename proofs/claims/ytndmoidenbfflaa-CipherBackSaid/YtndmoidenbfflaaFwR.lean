/- Methods that read one block of plain cells. -/
import Derived.Test.YtndmoidenbfflaaFwQ
namespace Go.Rq
open Go

theorem bkSc_plain {m : List Nat} {s : Sc} (h : zokS s = true) : bkSc m s = s := by
  cases s with
  | fn f caps =>
    cases caps with
    | nil => rfl
    | cons c r => cases h
  | pt _ _ => cases h
  | sl _ _ _ _ => cases h
  | so _ _ => cases h
  | sv _ _ _ => cases h
  | _ => rfl
def plainCs (cs : List Cell) : Bool := zokB (.agg cs)
theorem bkCells_plain {m : List Nat} : ∀ {cs : List Cell}, plainCs cs = true → bkCells m cs = cs
  | [], _ => rfl
  | c :: r, h => by
    unfold plainCs zokB at h
    simp only [List.all_cons, Bool.and_eq_true] at h
    have hr : bkCells m r = r := bkCells_plain (cs := r) h.2
    simp only [bkCells, hr]
    congr 1
    cases c with
    | ws k n f => rfl
    | one s => exact congrArg Cell.one (bkSc_plain h.1)
theorem bkV1_plain {m : List Nat} {v : V1} (h : zokB v = true) : bkV1 m v = v := by
  cases v with
  | sc s => exact congrArg V1.sc (bkSc_plain h)
  | agg cs => exact congrArg V1.agg (bkCells_plain h)
theorem bkAV_plain {m : List Nat} {v : AV} (h : vokB v = true) : bkAV m v = v := by
  cases v with
  | v1 v => exact congrArg AV.v1 (bkV1_plain h)
  | tup l =>
    unfold vokB at h
    have key : ∀ l : List V1, l.all zokB = true → bkV1s m l = l := by
      intro l
      induction l with
      | nil => intro _; rfl
      | cons v r ih =>
        intro h
        simp only [List.all_cons, Bool.and_eq_true] at h
        simp only [bkV1s, bkV1_plain h.1, ih h.2]
    exact congrArg AV.tup (key l h)
  | raw v => rfl
theorem bkAVs_plain {m : List Nat} : ∀ {l : List AV}, l.all vokB = true → bkAVs m l = l
  | [], _ => rfl
  | v :: r, h => by
    simp only [List.all_cons, Bool.and_eq_true] at h
    simp only [bkAVs, bkAV_plain h.1, bkAVs_plain h.2]

/-- A method's end: the block is as it was; what is told. -/
def FEndR (T : TT) (fn : Func) (v : AV) (blk : Blk) : Exit → AS → Prop
  | .normal, s | .ret, s => hget s.h 0 = some blk ∧ ∃ v', resA T s fn.results.toList = some v' ∧ vokB v' = true ∧ ∀ ρ, v'.val ρ = v.val ρ
  | _, _ => False

theorem avB_plain {h : Heap} {v : AV} (hv : vokB v = true) : avB h v = true := by
  have key : ∀ s : Sc, zokS s = true → scB h s = true := by
    intro s hs
    cases s with
    | fn f caps =>
      cases caps with
      | nil => rfl
      | cons c r => cases hs
    | pt _ _ => cases hs
    | sl _ _ _ _ => cases hs
    | so _ _ => cases hs
    | sv _ _ _ => cases hs
    | rw v => exact hs
    | _ => rfl
  have keyV : ∀ v : V1, zokB v = true → v1B h v = true := by
    intro v hv
    cases v with
    | sc s => exact key s hv
    | agg cs =>
      have kc : ∀ cs : List Cell, plainCs cs = true → cellsB h cs = true := by
        intro cs
        induction cs with
        | nil => intro _; rfl
        | cons c r ih =>
          intro hc
          unfold plainCs zokB at hc
          simp only [List.all_cons, Bool.and_eq_true] at hc
          cases c with
          | ws k n f => exact ih hc.2
          | one s => simp only [cellsB, Bool.and_eq_true]; exact ⟨key s hc.1, ih hc.2⟩
      exact kc cs hv
  cases v with
  | v1 v => exact keyV v hv
  | tup l =>
    unfold vokB at hv
    exact List.all_eq_true.2 fun x hx => keyV x (List.all_eq_true.1 hv x hx)
  | raw v => rfl
theorem cellsB_plain {h : Heap} {cs : List Cell} (hc : plainCs cs = true) : cellsB h cs = true := avB_plain (h := h) (v := .v1 (.agg cs)) hc

theorem rd_blk {P : Program} {T : TT} (hT : TTOk P T) {f : FuncId} {fn : Func} (hf : P.funcs[f]? = some fn) (hb : fn.body = some (bodyOf fn)) (hn : (fn.name == "runtime.NumGoroutine") = false)
    {b : Nat} {blk : Blk} {rest : List AV} {v : AV} (hpl : plainCs blk.cells = true) (hlo : blk.lo = 0) (hrest : rest.all vokB = true) (hv : vokB v = true) {h : Heap} (hg : hget h b = some blk)
    (hwalk : AWqS P (Dm [some blk]) (flatC (bodyOf fn)) (FEndR T fn v blk) ⟨frame0 (.v1 (.sc (.pt 0 0)) :: rest) fn.ntmps, [some blk]⟩) : CallOk P f (.v1 (.sc (.pt b 0)) :: rest) h v h := by
  have hbk : bk [b] b = 0 := by simp [bk, idxN]
  have hblk : ∀ m, bkBlk m blk = blk := fun m => by unfold bkBlk; rw [bkCells_plain hpl]
  have hpk : pickH [b] h [b] = [some blk] := by
    show [pickB [b] (hget h b)] = _
    rw [hg]
    simp only [pickB, hblk]
  have hLv : ∀ i, i < 1 → Lv [some blk] i := fun i hi => by
    have : i = 0 := by omega
    subst this; exact ⟨blk, rfl, by omega⟩
  have hheap : heapB [some blk] 0 [some blk] = true := by
    simp only [heapB, Bool.and_eq_true]
    refine ⟨cellsB_plain hpl, ?_, trivial⟩
    rw [hlo]; rfl
  have hchk : ∀ m : Nat, chkB [m] [some blk] = true := fun m => by
    unfold chkB nextB
    rw [hlo]; rfl
  refine mem_walk hT hf hb hn [b] [] 0 [some blk] [some blk] (args' := .v1 (.sc (.pt 0 0)) :: rest) (vK := v) (hchk b) hpk hheap ?_ ?_ hLv hheap (avB_plain hv) (fun i hi => (hLv i (by simpa using hi)).dm) (hchk b) hpk (bkAV_plain hv) (fun t ht => by simp at ht) (fun _ _ _ => rfl) ?_ (hnw := by simp [noWinB, hlo])
  · show AV.v1 (.sc (.pt (bk [b] b) 0)) :: bkAVs [b] rest = _
    rw [hbk, bkAVs_plain hrest]
  · simp only [List.all_cons, Bool.and_eq_true]
    refine ⟨rfl, List.all_eq_true.2 fun x hx => avB_plain (List.all_eq_true.1 hrest x hx)⟩
  · refine hwalk.mono fun e s q => ?_
    have key : (hget s.h 0 = some blk ∧ ∃ v', resA T s fn.results.toList = some v' ∧ vokB v' = true ∧ ∀ ρ, v'.val ρ = v.val ρ) → chkB [0] (pickH [0] s.h [0]) = true ∧ heapB (pickH [0] s.h [0]) 0 (pickH [0] s.h [0]) = true ∧ SimH (pickH [0] s.h [0]) [some blk] ∧
        ∃ v', resA T s fn.results.toList = some v' ∧ avB (pickH [0] s.h [0]) (bkAV [0] v') = true ∧ ∀ ρ, (bkAV [0] v').val ρ = v.val ρ := by
      intro ⟨q1, v', q2, q3, q4⟩
      have e : pickH [0] s.h [0] = [some blk] := by
        show [pickB [0] (hget s.h 0)] = _
        rw [q1]
        simp only [pickB, hblk]
      rw [e]
      exact ⟨hchk 0, hheap, ⟨⟨rfl, rfl, rfl, fun _ => rfl⟩, trivial⟩, v', q2, by rw [bkAV_plain q3]; exact avB_plain q3, fun ρ => by rw [bkAV_plain q3]; exact q4 ρ⟩
    cases e with
    | normal => exact key q
    | ret => exact key q
    | exit j => exact q.elim
    | goto l => exact q.elim
    | panic ch => exact q.elim
    | outgrown => exact q.elim
end Go.Rq
