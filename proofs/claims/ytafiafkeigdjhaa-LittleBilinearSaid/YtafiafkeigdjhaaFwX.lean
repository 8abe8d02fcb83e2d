/- Functions that read one plain block, wherever the address or the list stands among the arguments. -/
import Derived.Test.YtafiafkeigdjhaaFwT
namespace Go.Rq
open Go
theorem bk_self (b : Nat) : bk [b] b = 0 := by simp [bk, idxN]
/-- A is the list of arguments, by the block's slot. -/
theorem rd_slot {P : Program} {T : TT} (hT : TTOk P T) {f : FuncId} {fn : Func} (hf : P.funcs[f]? = some fn) (hb : fn.body = some (bodyOf fn)) (hn : (fn.name == "runtime.NumGoroutine") = false)
    {b : Nat} {blk : Blk} {A : Nat → List AV} {v : AV} (hpl : plainCs blk.cells = true) (hlo : blk.lo = 0) (hA : ∀ b, bkAVs [b] (A b) = A 0) (hab : (A 0).all (avB [some blk]) = true) (hv : vokB v = true) {h : Heap} (hg : hget h b = some blk)
    (hwalk : AWqS P (Dm [some blk]) (flatC (bodyOf fn)) (FEndR T fn v blk) ⟨frame0 (A 0) fn.ntmps, [some blk]⟩) : CallOk P f (A b) h v h := by
  have hbk : bk [b] b = 0 := by simp [bk, idxN]
  have hblk : ∀ m, bkBlk m blk = blk := fun m => by unfold bkBlk; rw [bkCells_plain hpl]
  have hpk : pickH [b] h [b] = [some blk] := by
    show [pickB [b] (hget h b)] = _
    rw [hg]
    simp only [pickB, hblk]
  have hLv : ∀ i, i < 1 → Lv [some blk] i := fun i hi => by
    have : i = 0 := by omega
    subst this; exact ⟨blk, rfl, by omega⟩
  have hheap : heapB [some blk] 0 [some blk] = true := by
    simp only [heapB, Bool.and_eq_true]
    refine ⟨cellsB_plain hpl, ?_, trivial⟩
    rw [hlo]; rfl
  have hchk : ∀ m : Nat, chkB [m] [some blk] = true := fun m => by
    unfold chkB nextB
    rw [hlo]; rfl
  refine mem_walk hT hf hb hn [b] [] 0 [some blk] [some blk] (args' := A 0) (vK := v) (hchk b) hpk hheap (hA b) hab hLv hheap (avB_plain hv) (fun i hi => (hLv i (by simpa using hi)).dm) (hchk b) hpk (bkAV_plain hv) (fun t ht => by simp at ht) (fun _ _ _ => rfl) ?_ (hnw := by simp [noWinB, hlo])
  refine hwalk.mono fun e s q => ?_
  have key : (hget s.h 0 = some blk ∧ ∃ v', resA T s fn.results.toList = some v' ∧ vokB v' = true ∧ ∀ ρ, v'.val ρ = v.val ρ) → chkB [0] (pickH [0] s.h [0]) = true ∧ heapB (pickH [0] s.h [0]) 0 (pickH [0] s.h [0]) = true ∧ SimH (pickH [0] s.h [0]) [some blk] ∧
      ∃ v', resA T s fn.results.toList = some v' ∧ avB (pickH [0] s.h [0]) (bkAV [0] v') = true ∧ ∀ ρ, (bkAV [0] v').val ρ = v.val ρ := by
    intro ⟨q1, v', q2, q3, q4⟩
    have e : pickH [0] s.h [0] = [some blk] := by
      show [pickB [0] (hget s.h 0)] = _
      rw [q1]
      simp only [pickB, hblk]
    rw [e]
    exact ⟨hchk 0, hheap, ⟨⟨rfl, rfl, rfl, fun _ => rfl⟩, trivial⟩, v', q2, by rw [bkAV_plain q3]; exact avB_plain q3, fun ρ => by rw [bkAV_plain q3]; exact q4 ρ⟩
  cases e with
  | normal => exact key q
  | ret => exact key q
  | exit j => exact q.elim
  | goto l => exact q.elim
  | panic ch => exact q.elim
  | outgrown => exact q.elim
end Go.Rq
