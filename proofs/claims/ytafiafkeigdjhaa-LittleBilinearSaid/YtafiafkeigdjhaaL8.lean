/- The number of two points of a little curve. Printed by genl8.py. -/
import Derived.Test.YtafiafkeigdjhaaL7
namespace Go.Proofs.Ytafiafkeigdjhaa
open Go.Rq Go
set_option linter.unusedVariables false
set_option linter.unusedSimpArgs false

def lineF (p : Nat) (t : LP) (m : Nat) (q : LP) : Nat → Nat := f2' (zSub p (zMul p m (zAdd p q.x t.x)) t.y) q.y
theorem lineF_lt {p : Nat} (hP : Gp p) {t q : LP} {m : Nat} (hq : LtP p q) : Lt2 p (lineF p t m q) := ⟨zSub_lt hP, hq.2⟩
def cLine (args : List AV) (h : Heap) (slot : Nat) : Option (List Prop × AV × Heap) :=
  match args with
  | [.v1 (.sc (.w .u64 m)), .v1 (.sc (.pt 0 0)), .v1 (.sc (.pt 4 0)), .v1 (.sc (.pt 2 0)), .v1 (.sc (.pt 5 0))] => match hget h 0, hget h 4, hget h 2, hget h 5 with
    | some ⟨t0, [.one (.w .u64 p), .one (.w .u64 r), .one (.w .u64 c), .one (.w .u64 gx), .one (.w .u64 gy), .one (.bo gz)], 0, 0⟩, some ⟨t1, [.ws .u64 2 f], 0, 0⟩, some ⟨t2, [.one (.w .u64 x), .one (.w .u64 y), .one (.bo z)], 0, 0⟩, some ⟨t3, [.one (.w .u64 u), .one (.w .u64 v), .one (.bo w)], 0, 0⟩ =>
      match Nat.beq t0 72 && (Nat.beq t1 43 && (Nat.beq t2 25 && Nat.beq t3 25)) with
      | true => some ([Gp p, m < p, Lt2 p f, LtP p ⟨x, y, z⟩, LtP p ⟨u, v, w⟩], .tup [], hset h 4 ⟨43, [.ws .u64 2 (k2 p f (lineF p ⟨u, v, w⟩ m ⟨x, y, z⟩))], 0, 0⟩)
      | false => none
    | _, _, _, _ => none
  | _ => none
def GLn : Ctx := ctxL [(64, .pure (z2 zAdd)), (63, .pure (z2 zMul)), (60, .pure (z2 zSub)), (49, .pure w2)]
theorem GLn_ok : CtxOk Try.prog GLn := ctxL_cons okZAdd <| ctxL_cons okZMul <| ctxL_cons okZSub <| ctxL_cons okTimes2 ctxL_nil
abbrev cB4 (p r c gx gy : Nat) (gz : Bool) : Option Blk := some ⟨72, cvC p r c gx gy gz, 0, 0⟩
abbrev H4 (p r c gx gy : Nat) (gz : Bool) (f : Nat → Nat) (q t : LP) : Heap := [cB4 p r c gx gy gz, zB f, pB q, pB t]
theorem Lv_H4 {p r c gx gy : Nat} {gz : Bool} {f : Nat → Nat} {q t : LP} : ∀ i, i < 4 → Lv (H4 p r c gx gy gz f q t) i := fun i hi => by
  have : i = 0 ∨ i = 1 ∨ i = 2 ∨ i = 3 := by omega
  rcases this with rfl | rfl | rfl | rfl <;> exact ⟨_, rfl, by simp⟩
theorem okLine : (CallC.mem cLine).Ok Try.prog 69 := by
  intro args h slot pre v h' e hp
  unfold cLine at e
  split at e
  rotate_left
  · cases e
  rename_i m
  split at e
  rotate_left
  · cases e
  rename_i t0 p r c gx gy gz t1 f t2 x y z t3 u v w hb0 hb4 hb2 hb5
  split at e
  rotate_left
  · cases e
  rename_i hty
  cases e
  simp only [Bool.and_eq_true, Nat.beq_eq] at hty
  obtain ⟨rfl, rfl, rfl, rfl⟩ := hty
  have hP : Gp p := hp _ (by simp)
  have hm : m < p := hp _ (by simp)
  have hf : Lt2 p f := hp _ (by simp)
  have hq : LtP p ⟨x, y, z⟩ := hp _ (by simp)
  have ht : LtP p ⟨u, v, w⟩ := hp _ (by simp)
  have hpk : pickH [0, 4, 2, 5] h [0, 4, 2, 5] = H4 p r c gx gy gz f ⟨x, y, z⟩ ⟨u, v, w⟩ := by
    show [pickB _ (hget h 0), pickB _ (hget h 4), pickB _ (hget h 2), pickB _ (hget h 5)] = _
    rw [hb0, hb4, hb2, hb5]; rfl
  have hl := hget_lt hb4
  have hpk2 : pickH [0, 4, 2, 5] (hset h 4 ⟨43, [.ws .u64 2 (k2 p f (lineF p ⟨u, v, w⟩ m ⟨x, y, z⟩))], 0, 0⟩) [0, 4, 2, 5] = H4 p r c gx gy gz (k2 p f (lineF p ⟨u, v, w⟩ m ⟨x, y, z⟩)) ⟨x, y, z⟩ ⟨u, v, w⟩ := by
    show [pickB _ (hget _ 0), pickB _ (hget _ 4), pickB _ (hget _ 2), pickB _ (hget _ 5)] = _
    rw [hget_hset_same hl, hget_hset_ne (by decide), hget_hset_ne (by decide), hget_hset_ne (by decide), hb0, hb2, hb5]; rfl
  have sim : SimH (H4 p r c gx gy gz (k2 p f (lineF p ⟨u, v, w⟩ m ⟨x, y, z⟩)) ⟨x, y, z⟩ ⟨u, v, w⟩) (H4 p r c gx gy gz (k2 p f (lineF p ⟨u, v, w⟩ m ⟨x, y, z⟩)) ⟨x, y, z⟩ ⟨u, v, w⟩) := ⟨⟨rfl, rfl, rfl, fun _ => rfl⟩, ⟨rfl, rfl, rfl, fun _ => rfl⟩, ⟨rfl, rfl, rfl, fun _ => rfl⟩, ⟨rfl, rfl, rfl, fun _ => rfl⟩, trivial⟩
  refine mem_walk tt_ok Try.func69 (by kernel_rfl) (by kernel_rfl) [0, 4, 2, 5] [] 0 (H4 p r c gx gy gz f ⟨x, y, z⟩ ⟨u, v, w⟩) (H4 p r c gx gy gz (k2 p f (lineF p ⟨u, v, w⟩ m ⟨x, y, z⟩)) ⟨x, y, z⟩ ⟨u, v, w⟩) (args' := [uv m, pt 0 0, pt 1 0, pt 2 0, pt 3 0]) (vK := .tup [])
    (by kernel_rfl) hpk (by kernel_rfl) (by kernel_rfl) (by kernel_rfl) Lv_H4 (by kernel_rfl) (by kernel_rfl) (fun i hi => (Lv_H4 i (by simpa using hi)).dm) (by kernel_rfl) hpk2 rfl (fun t ht => by simp at ht) (fun i hi _ => ?_) ?_
  · exact hget_hset_ne fun e => hi 1 (by simp) e.symm
  · refine evS_q mixed tt_ok GLn_ok 100 [] ?_
    refine same (p := Gp p ∧ x < p ∧ u < p ∧ Gp p ∧ m < p ∧ zAdd p x u < p ∧ Gp p ∧ zMul p m (zAdd p x u) < p ∧ v < p ∧ Gp p ∧ Lt2 p f ∧ Lt2 p (lineF p ⟨u, v, w⟩ m ⟨x, y, z⟩) ∧ true = true ∧ true = true ∧
      SimH (H4 p r c gx gy gz (k2 p f (lineF p ⟨u, v, w⟩ m ⟨x, y, z⟩)) ⟨x, y, z⟩ ⟨u, v, w⟩) (H4 p r c gx gy gz (k2 p f (lineF p ⟨u, v, w⟩ m ⟨x, y, z⟩)) ⟨x, y, z⟩ ⟨u, v, w⟩) ∧
      ∃ v', some (AV.tup []) = some v' ∧ avB (H4 p r c gx gy gz (k2 p f (lineF p ⟨u, v, w⟩ m ⟨x, y, z⟩)) ⟨x, y, z⟩ ⟨u, v, w⟩) (bkAV [0, 1, 2, 3] v') = true ∧ ∀ ρ, (bkAV [0, 1, 2, 3] v').val ρ = (AV.tup []).val ρ) ?_ (by kernel_rfl)
    exact ⟨hP, hq.1, ht.1, hP, hm, zAdd_lt hP, hP, zMul_lt hP, ht.2, hP, hf, lineF_lt hP hq, rfl, rfl, sim, _, rfl, rfl, fun _ => rfl⟩

end Go.Proofs.Ytafiafkeigdjhaa
