/- Functions that read two blocks of plain cells: closures over two variables. -/
import Derived.Test.YtafiafkeigdjhaaFwS
namespace Go.Rq
open Go

def FEndR2 (T : TT) (fn : Func) (v : AV) (x y : Blk) : Exit → AS → Prop
  | .normal, s | .ret, s => hget s.h 0 = some x ∧ hget s.h 1 = some y ∧ ∃ v', resA T s fn.results.toList = some v' ∧ vokB v' = true ∧ ∀ ρ, v'.val ρ = v.val ρ
  | _, _ => False
theorem bkAVs_app (m : List Nat) : ∀ (l r : List AV), bkAVs m (l ++ r) = bkAVs m l ++ bkAVs m r
  | [], _ => rfl
  | v :: l, r => congrArg (bkAV m v :: ·) (bkAVs_app m l r)
theorem rd_blk2 {P : Program} {T : TT} (hT : TTOk P T) {f : FuncId} {fn : Func} (hf : P.funcs[f]? = some fn) (hb : fn.body = some (bodyOf fn)) (hn : (fn.name == "runtime.NumGoroutine") = false)
    {b c : Nat} (hbc : Nat.beq b c = false) {x y : Blk} {pre : List AV} {v : AV} (hx : plainCs x.cells = true) (hy : plainCs y.cells = true) (lx : x.lo = 0) (ly : y.lo = 0) (hpre : pre.all vokB = true) (hv : vokB v = true) {h : Heap} (hgb : hget h b = some x) (hgc : hget h c = some y)
    (hwalk : AWqS P (Dm [some x, some y]) (flatC (bodyOf fn)) (FEndR2 T fn v x y) ⟨frame0 (pre ++ [.v1 (.sc (.pt 0 0)), .v1 (.sc (.pt 1 0))]) fn.ntmps, [some x, some y]⟩) :
    CallOk P f (pre ++ [.v1 (.sc (.pt b 0)), .v1 (.sc (.pt c 0))]) h v h := by
  have hcb : Nat.beq c b = false := by
    rw [← Bool.not_eq_true, Nat.beq_eq]
    intro e
    rw [e, Nat.beq_refl] at hbc; cases hbc
  have hbb : bk [b, c] b = 0 := by simp [bk, idxN]
  have hcc : bk [b, c] c = 1 := by simp only [bk, idxN, hcb, Nat.beq_refl]
  have hbx : ∀ m, bkBlk m x = x := fun m => by unfold bkBlk; rw [bkCells_plain hx]
  have hby : ∀ m, bkBlk m y = y := fun m => by unfold bkBlk; rw [bkCells_plain hy]
  have hpk : pickH [b, c] h [b, c] = [some x, some y] := by
    show [pickB [b, c] (hget h b), pickB [b, c] (hget h c)] = _
    rw [hgb, hgc]
    simp only [pickB, hbx, hby]
  have hLv : ∀ i, i < 2 → Lv [some x, some y] i := fun i hi => by
    rcases (show i = 0 ∨ i = 1 by omega) with rfl | rfl
    · exact ⟨x, rfl, by omega⟩
    · exact ⟨y, rfl, by omega⟩
  have hheap : heapB [some x, some y] 0 [some x, some y] = true := by
    simp only [heapB, Bool.and_eq_true]
    refine ⟨cellsB_plain hx, ?_, cellsB_plain hy, ?_, trivial⟩
    · rw [lx]; rfl
    · rw [ly]; rfl
  have hchk : ∀ m n : Nat, Nat.beq m n = false → chkB [m, n] [some x, some y] = true := fun m n hmn => by
    unfold chkB nextB nextB
    rw [lx, ly]
    simp only [nodupB, notIn, hmn]
    rfl
  refine mem_walk hT hf hb hn [b, c] [] 0 [some x, some y] [some x, some y] (args' := pre ++ [.v1 (.sc (.pt 0 0)), .v1 (.sc (.pt 1 0))]) (vK := v) (hchk b c hbc) hpk hheap ?_ ?_ hLv hheap (avB_plain hv) (fun i hi => (hLv i (by simpa using hi)).dm) (hchk b c hbc) hpk (bkAV_plain hv) (fun t ht => by simp at ht) (fun _ _ _ => rfl) ?_ (hnw := by simp [noWinB, lx, ly])
  · rw [bkAVs_app, bkAVs_plain hpre]
    show pre ++ [AV.v1 (.sc (.pt (bk [b, c] b) 0)), AV.v1 (.sc (.pt (bk [b, c] c) 0))] = _
    rw [hbb, hcc]
  · rw [List.all_append, Bool.and_eq_true]
    refine ⟨List.all_eq_true.2 fun z hz => avB_plain (List.all_eq_true.1 hpre z hz), ?_⟩
    simp only [List.all_cons, List.all_nil, Bool.and_eq_true]
    exact ⟨rfl, rfl, trivial⟩
  · refine hwalk.mono fun e s q => ?_
    have key : (hget s.h 0 = some x ∧ hget s.h 1 = some y ∧ ∃ v', resA T s fn.results.toList = some v' ∧ vokB v' = true ∧ ∀ ρ, v'.val ρ = v.val ρ) → chkB [0, 1] (pickH [0, 1] s.h [0, 1]) = true ∧ heapB (pickH [0, 1] s.h [0, 1]) 0 (pickH [0, 1] s.h [0, 1]) = true ∧ SimH (pickH [0, 1] s.h [0, 1]) [some x, some y] ∧
        ∃ v', resA T s fn.results.toList = some v' ∧ avB (pickH [0, 1] s.h [0, 1]) (bkAV [0, 1] v') = true ∧ ∀ ρ, (bkAV [0, 1] v').val ρ = v.val ρ := by
      intro ⟨q1, q1', v', q2, q3, q4⟩
      have e : pickH [0, 1] s.h [0, 1] = [some x, some y] := by
        show [pickB [0, 1] (hget s.h 0), pickB [0, 1] (hget s.h 1)] = _
        rw [q1, q1']
        simp only [pickB, hbx, hby]
      rw [e]
      exact ⟨hchk 0 1 rfl, hheap, ⟨⟨rfl, rfl, rfl, fun _ => rfl⟩, ⟨rfl, rfl, rfl, fun _ => rfl⟩, trivial⟩, v', q2, by rw [bkAV_plain q3]; exact avB_plain q3, fun ρ => by rw [bkAV_plain q3]; exact q4 ρ⟩
    cases e with
    | normal => exact key q
    | ret => exact key q
    | exit j => exact q.elim
    | goto l => exact q.elim
    | panic ch => exact q.elim
    | outgrown => exact q.elim
end Go.Rq
