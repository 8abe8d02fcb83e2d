/- Texts of the proof, joined. -/
import Derived.Test.YtnjocbcjejpklaaGreatZkF
import Derived.ChangeSame
set_option linter.all false
namespace Go.Proofs.YtnjocbcjejpklaaGreat
open Go.Rq Go
set_option maxRecDepth 100000
set_option linter.unusedVariables false
set_option linter.unusedSimpArgs false
set_option maxHeartbeats 4000000
set_option maxRecDepth 100000
theorem endR2_z:endR2 (.tup [v12 (fun _=>0) (fun _=>0) (fun _=>0) (fun _=>0) (fun _=>0) (fun _=>0) (fun _=>0) (fun _=>0) (fun _=>0) (fun _=>0) (fun _=>0) (fun _=>0),.sc (.it 5)]) (.tup [n12 0,.sc (.it 5)]):=by
 refine ⟨_,rfl,rfl,fun ρ=>?_⟩
 have h3:(v12 (fun _=>0) (fun _=>0) (fun _=>0) (fun _=>0) (fun _=>0) (fun _=>0) (fun _=>0) (fun _=>0) (fun _=>0) (fun _=>0) (fun _=>0) (fun _=>0)).val ρ = (n12 0).val ρ:=v12_val zero_vF zero_vF zero_vF zero_vF zero_vF zero_vF zero_vF zero_vF zero_vF zero_vF zero_vF zero_vF ρ
 simp only [AV.val,List.map_cons,List.map_nil,h3]
def GPr:Ctx:=ctxL [(16,.pure cIn1),(17,.pure cIn2),(67,.pure (c12 one12)),(60,.pure (k122 S12.mul)),(68,.pure cWalk),(43,.pure (k121 lastS)),(42,.pure cFrom12)]
theorem GPr_ok:CtxOk Tryz.prog GPr:=ctxL_cons okIn1 <| ctxL_cons okIn2 <| ctxL_cons okOne12 <| ctxL_cons okMul12 <| ctxL_cons okWalk <| ctxL_cons okLast <| ctxL_cons okFrom12 ctxL_nil
theorem pr_no1 {b c:Nat} (hbc:Nat.beq b c = false) {px py x0 x1 y0 y3:Nat->Nat} {z z2:Bool} {y1 y2:TypeId} {h:Heap} (g1:hget h b = some ⟨y1,[.ws .u64 6 px,.ws .u64 6 py,.one (.bo z)],0,0⟩) (g2:hget h c = some ⟨y2,[.ws .u64 6 x0,.ws .u64 6 x1,.ws .u64 6 y0,.ws .u64 6 y3,.one (.bo z2)],0,0⟩) (h1:(lo1 px py && isE px py z) = false) :
  CallOk Tryz.prog 28 ([] ++ [.v1 (.sc (.sl b 0 1 1)),.v1 (.sc (.sl c 0 1 1))]) h (.tup [n12 0,.sc (.it 5)]) h:=by
 refine rd_sl2 tt_ok Tryz.func28 (by kernel_rfl) (by kernel_rfl) hbc (x:=⟨y1,[.ws .u64 6 px,.ws .u64 6 py,.one (.bo z)],0,0⟩) (y:=⟨y2,[.ws .u64 6 x0,.ws .u64 6 x1,.ws .u64 6 y0,.ws .u64 6 y3,.one (.bo z2)],0,0⟩) rfl rfl rfl rfl rfl rfl g1 g2 ?_
 refine evS_q mixed tt_ok GPr_ok 200 [⟨6,5,.lit (.bo true)⟩] ?_
 refine same (p:=(!(lo1 px py && isE px py z)) = true/\(some ⟨y1,[.ws .u64 6 px,.ws .u64 6 py,.one (.bo z)],0,0⟩:Option Blk) = some ⟨y1,[.ws .u64 6 px,.ws .u64 6 py,.one (.bo z)],0,0⟩/\(some ⟨y2,[.ws .u64 6 x0,.ws .u64 6 x1,.ws .u64 6 y0,.ws .u64 6 y3,.one (.bo z2)],0,0⟩:Option Blk) = some ⟨y2,[.ws .u64 6 x0,.ws .u64 6 x1,.ws .u64 6 y0,.ws .u64 6 y3,.one (.bo z2)],0,0⟩/\endR2 (.tup [v12 (fun _=>0) (fun _=>0) (fun _=>0) (fun _=>0) (fun _=>0) (fun _=>0) (fun _=>0) (fun _=>0) (fun _=>0) (fun _=>0) (fun _=>0) (fun _=>0),.sc (.it 5)]) (.tup [n12 0,.sc (.it 5)])) ?_ (by kernel_rfl)
 exact ⟨by rw [h1];rfl,rfl,rfl,endR2_z⟩
theorem pr_no2 {b c:Nat} (hbc:Nat.beq b c = false) {px py x0 x1 y0 y3:Nat->Nat} {z z2:Bool} {y1 y2:TypeId} {h:Heap} (g1:hget h b = some ⟨y1,[.ws .u64 6 px,.ws .u64 6 py,.one (.bo z)],0,0⟩) (g2:hget h c = some ⟨y2,[.ws .u64 6 x0,.ws .u64 6 x1,.ws .u64 6 y0,.ws .u64 6 y3,.one (.bo z2)],0,0⟩) (h1:(lo1 px py && isE px py z) = true) (h2:(lo2 x0 x1 y0 y3 && isQ x0 x1 y0 y3 z2) = false) :
  CallOk Tryz.prog 28 ([] ++ [.v1 (.sc (.sl b 0 1 1)),.v1 (.sc (.sl c 0 1 1))]) h (.tup [n12 0,.sc (.it 5)]) h:=by
 refine rd_sl2 tt_ok Tryz.func28 (by kernel_rfl) (by kernel_rfl) hbc (x:=⟨y1,[.ws .u64 6 px,.ws .u64 6 py,.one (.bo z)],0,0⟩) (y:=⟨y2,[.ws .u64 6 x0,.ws .u64 6 x1,.ws .u64 6 y0,.ws .u64 6 y3,.one (.bo z2)],0,0⟩) rfl rfl rfl rfl rfl rfl g1 g2 ?_
 refine evS_q mixed tt_ok GPr_ok 200 [⟨6,5,.lit (.bo false)⟩,⟨6,12,.lit (.bo true)⟩] ?_
 refine same (p:=(!(lo1 px py && isE px py z)) = false/\(!(lo2 x0 x1 y0 y3 && isQ x0 x1 y0 y3 z2)) = true/\(some ⟨y1,[.ws .u64 6 px,.ws .u64 6 py,.one (.bo z)],0,0⟩:Option Blk) = some ⟨y1,[.ws .u64 6 px,.ws .u64 6 py,.one (.bo z)],0,0⟩/\(some ⟨y2,[.ws .u64 6 x0,.ws .u64 6 x1,.ws .u64 6 y0,.ws .u64 6 y3,.one (.bo z2)],0,0⟩:Option Blk) = some ⟨y2,[.ws .u64 6 x0,.ws .u64 6 x1,.ws .u64 6 y0,.ws .u64 6 y3,.one (.bo z2)],0,0⟩/\endR2 (.tup [v12 (fun _=>0) (fun _=>0) (fun _=>0) (fun _=>0) (fun _=>0) (fun _=>0) (fun _=>0) (fun _=>0) (fun _=>0) (fun _=>0) (fun _=>0) (fun _=>0),.sc (.it 5)]) (.tup [n12 0,.sc (.it 5)])) ?_ (by kernel_rfl)
 exact ⟨by rw [h1];rfl,by rw [h2];rfl,rfl,rfl,endR2_z⟩
theorem d12_one:(d12 oneF (fun _=>0) (fun _=>0) (fun _=>0) (fun _=>0) (fun _=>0) (fun _=>0) (fun _=>0) (fun _=>0) (fun _=>0) (fun _=>0) (fun _=>0)) = 1:=S12.one_d
theorem endPR {s t:S12} {j:Int} (h:t = s):endR2 (.tup [v12 (vF (dF (eF t.p.u.x))) (vF (dF (eF t.p.u.y))) (vF (dF (eF t.q.u.x))) (vF (dF (eF t.q.u.y))) (vF (dF (eF t.p.v.x))) (vF (dF (eF t.p.v.y))) (vF (dF (eF t.q.v.x))) (vF (dF (eF t.q.v.y))) (vF (dF (eF t.p.w.x))) (vF (dF (eF t.p.w.y))) (vF (dF (eF t.q.w.x))) (vF (dF (eF t.q.w.y))),.sc (.it j)]) (.tup [n12 s,.sc (.it j)]):=by
 subst h
 refine ⟨_,rfl,rfl,fun ρ=>?_⟩
 have:=v12_val (nvV (dF_eF t.p.u.x)) (nvV (dF_eF t.p.u.y)) (nvV (dF_eF t.q.u.x)) (nvV (dF_eF t.q.u.y)) (nvV (dF_eF t.p.v.x)) (nvV (dF_eF t.p.v.y)) (nvV (dF_eF t.q.v.x)) (nvV (dF_eF t.q.v.y)) (nvV (dF_eF t.p.w.x)) (nvV (dF_eF t.p.w.y)) (nvV (dF_eF t.q.w.x)) (nvV (dF_eF t.q.w.y)) ρ
 simp only [AV.val,List.map_cons,List.map_nil,this]
abbrev vwB (w:S12):S12:=(d12 (eF (w).p.u.x) (eF (w).p.u.y) (eF (w).q.u.x) (eF (w).q.u.y) (eF (w).p.v.x) (eF (w).p.v.y) (eF (w).q.v.x) (eF (w).q.v.y) (eF (w).p.w.x) (eF (w).p.w.y) (eF (w).q.w.x) (eF (w).q.w.y))
abbrev vwM (w:S12):S12:=S12.mul (d12 oneF (fun _=>0) (fun _=>0) (fun _=>0) (fun _=>0) (fun _=>0) (fun _=>0) (fun _=>0) (fun _=>0) (fun _=>0) (fun _=>0) (fun _=>0)) (vwB w)
abbrev vwC (w:S12):S12:=(d12 (eF (vwM w).p.u.x) (eF (vwM w).p.u.y) (eF (vwM w).q.u.x) (eF (vwM w).q.u.y) (eF (vwM w).p.v.x) (eF (vwM w).p.v.y) (eF (vwM w).q.v.x) (eF (vwM w).q.v.y) (eF (vwM w).p.w.x) (eF (vwM w).p.w.y) (eF (vwM w).q.w.x) (eF (vwM w).q.w.y))
theorem one_w (w:S12):lastS (vwC w) = lastS w:=by
 have h:vwM w = w:=by
  show S12.mul (d12 oneF (fun _=>0) (fun _=>0) (fun _=>0) (fun _=>0) (fun _=>0) (fun _=>0) (fun _=>0) (fun _=>0) (fun _=>0) (fun _=>0) (fun _=>0)) (vwB w) = w
  rw [show vwB w = w from d12_eF w,d12_one]
  exact Rg.one_mul w
 rw [show vwC w = vwM w from d12_eF (vwM w),h]
theorem pr_z1 {b c:Nat} (hbc:Nat.beq b c = false) {px py x0 x1 y0 y3:Nat->Nat} {z z2:Bool} {y1 y2:TypeId} {h:Heap} (g1:hget h b = some ⟨y1,[.ws .u64 6 px,.ws .u64 6 py,.one (.bo true)],0,0⟩) (g2:hget h c = some ⟨y2,[.ws .u64 6 x0,.ws .u64 6 x1,.ws .u64 6 y0,.ws .u64 6 y3,.one (.bo z2)],0,0⟩) (h1:(lo1 px py && isE px py true) = true) (h2:(lo2 x0 x1 y0 y3 && isQ x0 x1 y0 y3 z2) = true) :
  CallOk Tryz.prog 28 ([] ++ [.v1 (.sc (.sl b 0 1 1)),.v1 (.sc (.sl c 0 1 1))]) h (.tup [n12 (lastS 1),.sc (.it 0)]) h:=by
 refine rd_sl2 tt_ok Tryz.func28 (by kernel_rfl) (by kernel_rfl) hbc (x:=⟨y1,[.ws .u64 6 px,.ws .u64 6 py,.one (.bo true)],0,0⟩) (y:=⟨y2,[.ws .u64 6 x0,.ws .u64 6 x1,.ws .u64 6 y0,.ws .u64 6 y3,.one (.bo z2)],0,0⟩) rfl rfl rfl rfl rfl rfl g1 g2 ?_
 refine evS_q mixed tt_ok GPr_ok 200 [⟨6,5,.lit (.bo false)⟩,⟨6,12,.lit (.bo false)⟩] ?_
 refine same (p:=(!(lo1 px py && isE px py true)) = false/\(!(lo2 x0 x1 y0 y3 && isQ x0 x1 y0 y3 z2)) = false/\nv oneF < pN/\nv (fun _=>0) < pN/\nv (fun _=>0) < pN/\nv (fun _=>0) < pN/\nv (fun _=>0) < pN/\nv (fun _=>0) < pN/\nv (fun _=>0) < pN/\nv (fun _=>0) < pN/\nv (fun _=>0) < pN/\nv (fun _=>0) < pN/\nv (fun _=>0) < pN/\nv (fun _=>0) < pN/\nv (eF (lastS (d12 oneF (fun _=>0) (fun _=>0) (fun _=>0) (fun _=>0) (fun _=>0) (fun _=>0) (fun _=>0) (fun _=>0) (fun _=>0) (fun _=>0) (fun _=>0))).p.u.x) < pN/\nv (eF (lastS (d12 oneF (fun _=>0) (fun _=>0) (fun _=>0) (fun _=>0) (fun _=>0) (fun _=>0) (fun _=>0) (fun _=>0) (fun _=>0) (fun _=>0) (fun _=>0))).p.u.y) < pN/\nv (eF (lastS (d12 oneF (fun _=>0) (fun _=>0) (fun _=>0) (fun _=>0) (fun _=>0) (fun _=>0) (fun _=>0) (fun _=>0) (fun _=>0) (fun _=>0) (fun _=>0))).q.u.x) < pN/\nv (eF (lastS (d12 oneF (fun _=>0) (fun _=>0) (fun _=>0) (fun _=>0) (fun _=>0) (fun _=>0) (fun _=>0) (fun _=>0) (fun _=>0) (fun _=>0) (fun _=>0))).q.u.y) < pN/\nv (eF (lastS (d12 oneF (fun _=>0) (fun _=>0) (fun _=>0) (fun _=>0) (fun _=>0) (fun _=>0) (fun _=>0) (fun _=>0) (fun _=>0) (fun _=>0) (fun _=>0))).p.v.x) < pN/\nv (eF (lastS (d12 oneF (fun _=>0) (fun _=>0) (fun _=>0) (fun _=>0) (fun _=>0) (fun _=>0) (fun _=>0) (fun _=>0) (fun _=>0) (fun _=>0) (fun _=>0))).p.v.y) < pN/\nv (eF (lastS (d12 oneF (fun _=>0) (fun _=>0) (fun _=>0) (fun _=>0) (fun _=>0) (fun _=>0) (fun _=>0) (fun _=>0) (fun _=>0) (fun _=>0) (fun _=>0))).q.v.x) < pN/\nv (eF (lastS (d12 oneF (fun _=>0) (fun _=>0) (fun _=>0) (fun _=>0) (fun _=>0) (fun _=>0) (fun _=>0) (fun _=>0) (fun _=>0) (fun _=>0) (fun _=>0))).q.v.y) < pN/\nv (eF (lastS (d12 oneF (fun _=>0) (fun _=>0) (fun _=>0) (fun _=>0) (fun _=>0) (fun _=>0) (fun _=>0) (fun _=>0) (fun _=>0) (fun _=>0) (fun _=>0))).p.w.x) < pN/\nv (eF (lastS (d12 oneF (fun _=>0) (fun _=>0) (fun _=>0) (fun _=>0) (fun _=>0) (fun _=>0) (fun _=>0) (fun _=>0) (fun _=>0) (fun _=>0) (fun _=>0))).p.w.y) < pN/\nv (eF (lastS (d12 oneF (fun _=>0) (fun _=>0) (fun _=>0) (fun _=>0) (fun _=>0) (fun _=>0) (fun _=>0) (fun _=>0) (fun _=>0) (fun _=>0) (fun _=>0))).q.w.x) < pN/\nv (eF (lastS (d12 oneF (fun _=>0) (fun _=>0) (fun _=>0) (fun _=>0) (fun _=>0) (fun _=>0) (fun _=>0) (fun _=>0) (fun _=>0) (fun _=>0) (fun _=>0))).q.w.y) < pN/\(some ⟨y1,[.ws .u64 6 px,.ws .u64 6 py,.one (.bo true)],0,0⟩:Option Blk) = some ⟨y1,[.ws .u64 6 px,.ws .u64 6 py,.one (.bo true)],0,0⟩/\(some ⟨y2,[.ws .u64 6 x0,.ws .u64 6 x1,.ws .u64 6 y0,.ws .u64 6 y3,.one (.bo z2)],0,0⟩:Option Blk) = some ⟨y2,[.ws .u64 6 x0,.ws .u64 6 x1,.ws .u64 6 y0,.ws .u64 6 y3,.one (.bo z2)],0,0⟩/\endR2 (.tup [v12 (vF (dF (eF (lastS (d12 oneF (fun _=>0) (fun _=>0) (fun _=>0) (fun _=>0) (fun _=>0) (fun _=>0) (fun _=>0) (fun _=>0) (fun _=>0) (fun _=>0) (fun _=>0))).p.u.x))) (vF (dF (eF (lastS (d12 oneF (fun _=>0) (fun _=>0) (fun _=>0) (fun _=>0) (fun _=>0) (fun _=>0) (fun _=>0) (fun _=>0) (fun _=>0) (fun _=>0) (fun _=>0))).p.u.y))) (vF (dF (eF (lastS (d12 oneF (fun _=>0) (fun _=>0) (fun _=>0) (fun _=>0) (fun _=>0) (fun _=>0) (fun _=>0) (fun _=>0) (fun _=>0) (fun _=>0) (fun _=>0))).q.u.x))) (vF (dF (eF (lastS (d12 oneF (fun _=>0) (fun _=>0) (fun _=>0) (fun _=>0) (fun _=>0) (fun _=>0) (fun _=>0) (fun _=>0) (fun _=>0) (fun _=>0) (fun _=>0))).q.u.y))) (vF (dF (eF (lastS (d12 oneF (fun _=>0) (fun _=>0) (fun _=>0) (fun _=>0) (fun _=>0) (fun _=>0) (fun _=>0) (fun _=>0) (fun _=>0) (fun _=>0) (fun _=>0))).p.v.x))) (vF (dF (eF (lastS (d12 oneF (fun _=>0) (fun _=>0) (fun _=>0) (fun _=>0) (fun _=>0) (fun _=>0) (fun _=>0) (fun _=>0) (fun _=>0) (fun _=>0) (fun _=>0))).p.v.y))) (vF (dF (eF (lastS (d12 oneF (fun _=>0) (fun _=>0) (fun _=>0) (fun _=>0) (fun _=>0) (fun _=>0) (fun _=>0) (fun _=>0) (fun _=>0) (fun _=>0) (fun _=>0))).q.v.x))) (vF (dF (eF (lastS (d12 oneF (fun _=>0) (fun _=>0) (fun _=>0) (fun _=>0) (fun _=>0) (fun _=>0) (fun _=>0) (fun _=>0) (fun _=>0) (fun _=>0) (fun _=>0))).q.v.y))) (vF (dF (eF (lastS (d12 oneF (fun _=>0) (fun _=>0) (fun _=>0) (fun _=>0) (fun _=>0) (fun _=>0) (fun _=>0) (fun _=>0) (fun _=>0) (fun _=>0) (fun _=>0))).p.w.x))) (vF (dF (eF (lastS (d12 oneF (fun _=>0) (fun _=>0) (fun _=>0) (fun _=>0) (fun _=>0) (fun _=>0) (fun _=>0) (fun _=>0) (fun _=>0) (fun _=>0) (fun _=>0))).p.w.y))) (vF (dF (eF (lastS (d12 oneF (fun _=>0) (fun _=>0) (fun _=>0) (fun _=>0) (fun _=>0) (fun _=>0) (fun _=>0) (fun _=>0) (fun _=>0) (fun _=>0) (fun _=>0))).q.w.x))) (vF (dF (eF (lastS (d12 oneF (fun _=>0) (fun _=>0) (fun _=>0) (fun _=>0) (fun _=>0) (fun _=>0) (fun _=>0) (fun _=>0) (fun _=>0) (fun _=>0) (fun _=>0))).q.w.y))),.sc (.it 0)]) (.tup [n12 (lastS 1),.sc (.it 0)])) ?_ (by kernel_rfl)
 exact ⟨by rw [h1];rfl,by rw [h2];rfl,lt_one,lt_zero,lt_zero,lt_zero,lt_zero,lt_zero,lt_zero,lt_zero,lt_zero,lt_zero,lt_zero,lt_zero,lt_eF _,lt_eF _,lt_eF _,lt_eF _,lt_eF _,lt_eF _,lt_eF _,lt_eF _,lt_eF _,lt_eF _,lt_eF _,lt_eF _,rfl,rfl,endPR (by rw [d12_one])⟩
theorem pr_z2 {b c:Nat} (hbc:Nat.beq b c = false) {px py x0 x1 y0 y3:Nat->Nat} {z z2:Bool} {y1 y2:TypeId} {h:Heap} (g1:hget h b = some ⟨y1,[.ws .u64 6 px,.ws .u64 6 py,.one (.bo false)],0,0⟩) (g2:hget h c = some ⟨y2,[.ws .u64 6 x0,.ws .u64 6 x1,.ws .u64 6 y0,.ws .u64 6 y3,.one (.bo true)],0,0⟩) (h1:(lo1 px py && isE px py false) = true) (h2:(lo2 x0 x1 y0 y3 && isQ x0 x1 y0 y3 true) = true) :
  CallOk Tryz.prog 28 ([] ++ [.v1 (.sc (.sl b 0 1 1)),.v1 (.sc (.sl c 0 1 1))]) h (.tup [n12 (lastS 1),.sc (.it 0)]) h:=by
 refine rd_sl2 tt_ok Tryz.func28 (by kernel_rfl) (by kernel_rfl) hbc (x:=⟨y1,[.ws .u64 6 px,.ws .u64 6 py,.one (.bo false)],0,0⟩) (y:=⟨y2,[.ws .u64 6 x0,.ws .u64 6 x1,.ws .u64 6 y0,.ws .u64 6 y3,.one (.bo true)],0,0⟩) rfl rfl rfl rfl rfl rfl g1 g2 ?_
 refine evS_q mixed tt_ok GPr_ok 200 [⟨6,5,.lit (.bo false)⟩,⟨6,12,.lit (.bo false)⟩] ?_
 refine same (p:=(!(lo1 px py && isE px py false)) = false/\(!(lo2 x0 x1 y0 y3 && isQ x0 x1 y0 y3 true)) = false/\nv oneF < pN/\nv (fun _=>0) < pN/\nv (fun _=>0) < pN/\nv (fun _=>0) < pN/\nv (fun _=>0) < pN/\nv (fun _=>0) < pN/\nv (fun _=>0) < pN/\nv (fun _=>0) < pN/\nv (fun _=>0) < pN/\nv (fun _=>0) < pN/\nv (fun _=>0) < pN/\nv (fun _=>0) < pN/\nv (eF (lastS (d12 oneF (fun _=>0) (fun _=>0) (fun _=>0) (fun _=>0) (fun _=>0) (fun _=>0) (fun _=>0) (fun _=>0) (fun _=>0) (fun _=>0) (fun _=>0))).p.u.x) < pN/\nv (eF (lastS (d12 oneF (fun _=>0) (fun _=>0) (fun _=>0) (fun _=>0) (fun _=>0) (fun _=>0) (fun _=>0) (fun _=>0) (fun _=>0) (fun _=>0) (fun _=>0))).p.u.y) < pN/\nv (eF (lastS (d12 oneF (fun _=>0) (fun _=>0) (fun _=>0) (fun _=>0) (fun _=>0) (fun _=>0) (fun _=>0) (fun _=>0) (fun _=>0) (fun _=>0) (fun _=>0))).q.u.x) < pN/\nv (eF (lastS (d12 oneF (fun _=>0) (fun _=>0) (fun _=>0) (fun _=>0) (fun _=>0) (fun _=>0) (fun _=>0) (fun _=>0) (fun _=>0) (fun _=>0) (fun _=>0))).q.u.y) < pN/\nv (eF (lastS (d12 oneF (fun _=>0) (fun _=>0) (fun _=>0) (fun _=>0) (fun _=>0) (fun _=>0) (fun _=>0) (fun _=>0) (fun _=>0) (fun _=>0) (fun _=>0))).p.v.x) < pN/\nv (eF (lastS (d12 oneF (fun _=>0) (fun _=>0) (fun _=>0) (fun _=>0) (fun _=>0) (fun _=>0) (fun _=>0) (fun _=>0) (fun _=>0) (fun _=>0) (fun _=>0))).p.v.y) < pN/\nv (eF (lastS (d12 oneF (fun _=>0) (fun _=>0) (fun _=>0) (fun _=>0) (fun _=>0) (fun _=>0) (fun _=>0) (fun _=>0) (fun _=>0) (fun _=>0) (fun _=>0))).q.v.x) < pN/\nv (eF (lastS (d12 oneF (fun _=>0) (fun _=>0) (fun _=>0) (fun _=>0) (fun _=>0) (fun _=>0) (fun _=>0) (fun _=>0) (fun _=>0) (fun _=>0) (fun _=>0))).q.v.y) < pN/\nv (eF (lastS (d12 oneF (fun _=>0) (fun _=>0) (fun _=>0) (fun _=>0) (fun _=>0) (fun _=>0) (fun _=>0) (fun _=>0) (fun _=>0) (fun _=>0) (fun _=>0))).p.w.x) < pN/\nv (eF (lastS (d12 oneF (fun _=>0) (fun _=>0) (fun _=>0) (fun _=>0) (fun _=>0) (fun _=>0) (fun _=>0) (fun _=>0) (fun _=>0) (fun _=>0) (fun _=>0))).p.w.y) < pN/\nv (eF (lastS (d12 oneF (fun _=>0) (fun _=>0) (fun _=>0) (fun _=>0) (fun _=>0) (fun _=>0) (fun _=>0) (fun _=>0) (fun _=>0) (fun _=>0) (fun _=>0))).q.w.x) < pN/\nv (eF (lastS (d12 oneF (fun _=>0) (fun _=>0) (fun _=>0) (fun _=>0) (fun _=>0) (fun _=>0) (fun _=>0) (fun _=>0) (fun _=>0) (fun _=>0) (fun _=>0))).q.w.y) < pN/\(some ⟨y1,[.ws .u64 6 px,.ws .u64 6 py,.one (.bo false)],0,0⟩:Option Blk) = some ⟨y1,[.ws .u64 6 px,.ws .u64 6 py,.one (.bo false)],0,0⟩/\(some ⟨y2,[.ws .u64 6 x0,.ws .u64 6 x1,.ws .u64 6 y0,.ws .u64 6 y3,.one (.bo true)],0,0⟩:Option Blk) = some ⟨y2,[.ws .u64 6 x0,.ws .u64 6 x1,.ws .u64 6 y0,.ws .u64 6 y3,.one (.bo true)],0,0⟩/\endR2 (.tup [v12 (vF (dF (eF (lastS (d12 oneF (fun _=>0) (fun _=>0) (fun _=>0) (fun _=>0) (fun _=>0) (fun _=>0) (fun _=>0) (fun _=>0) (fun _=>0) (fun _=>0) (fun _=>0))).p.u.x))) (vF (dF (eF (lastS (d12 oneF (fun _=>0) (fun _=>0) (fun _=>0) (fun _=>0) (fun _=>0) (fun _=>0) (fun _=>0) (fun _=>0) (fun _=>0) (fun _=>0) (fun _=>0))).p.u.y))) (vF (dF (eF (lastS (d12 oneF (fun _=>0) (fun _=>0) (fun _=>0) (fun _=>0) (fun _=>0) (fun _=>0) (fun _=>0) (fun _=>0) (fun _=>0) (fun _=>0) (fun _=>0))).q.u.x))) (vF (dF (eF (lastS (d12 oneF (fun _=>0) (fun _=>0) (fun _=>0) (fun _=>0) (fun _=>0) (fun _=>0) (fun _=>0) (fun _=>0) (fun _=>0) (fun _=>0) (fun _=>0))).q.u.y))) (vF (dF (eF (lastS (d12 oneF (fun _=>0) (fun _=>0) (fun _=>0) (fun _=>0) (fun _=>0) (fun _=>0) (fun _=>0) (fun _=>0) (fun _=>0) (fun _=>0) (fun _=>0))).p.v.x))) (vF (dF (eF (lastS (d12 oneF (fun _=>0) (fun _=>0) (fun _=>0) (fun _=>0) (fun _=>0) (fun _=>0) (fun _=>0) (fun _=>0) (fun _=>0) (fun _=>0) (fun _=>0))).p.v.y))) (vF (dF (eF (lastS (d12 oneF (fun _=>0) (fun _=>0) (fun _=>0) (fun _=>0) (fun _=>0) (fun _=>0) (fun _=>0) (fun _=>0) (fun _=>0) (fun _=>0) (fun _=>0))).q.v.x))) (vF (dF (eF (lastS (d12 oneF (fun _=>0) (fun _=>0) (fun _=>0) (fun _=>0) (fun _=>0) (fun _=>0) (fun _=>0) (fun _=>0) (fun _=>0) (fun _=>0) (fun _=>0))).q.v.y))) (vF (dF (eF (lastS (d12 oneF (fun _=>0) (fun _=>0) (fun _=>0) (fun _=>0) (fun _=>0) (fun _=>0) (fun _=>0) (fun _=>0) (fun _=>0) (fun _=>0) (fun _=>0))).p.w.x))) (vF (dF (eF (lastS (d12 oneF (fun _=>0) (fun _=>0) (fun _=>0) (fun _=>0) (fun _=>0) (fun _=>0) (fun _=>0) (fun _=>0) (fun _=>0) (fun _=>0) (fun _=>0))).p.w.y))) (vF (dF (eF (lastS (d12 oneF (fun _=>0) (fun _=>0) (fun _=>0) (fun _=>0) (fun _=>0) (fun _=>0) (fun _=>0) (fun _=>0) (fun _=>0) (fun _=>0) (fun _=>0))).q.w.x))) (vF (dF (eF (lastS (d12 oneF (fun _=>0) (fun _=>0) (fun _=>0) (fun _=>0) (fun _=>0) (fun _=>0) (fun _=>0) (fun _=>0) (fun _=>0) (fun _=>0) (fun _=>0))).q.w.y))),.sc (.it 0)]) (.tup [n12 (lastS 1),.sc (.it 0)])) ?_ (by kernel_rfl)
 exact ⟨by rw [h1];rfl,by rw [h2];rfl,lt_one,lt_zero,lt_zero,lt_zero,lt_zero,lt_zero,lt_zero,lt_zero,lt_zero,lt_zero,lt_zero,lt_zero,lt_eF _,lt_eF _,lt_eF _,lt_eF _,lt_eF _,lt_eF _,lt_eF _,lt_eF _,lt_eF _,lt_eF _,lt_eF _,lt_eF _,rfl,rfl,endPR (by rw [d12_one])⟩
theorem pr_in {b c:Nat} (hbc:Nat.beq b c = false) {px py x0 x1 y0 y3:Nat->Nat} {z z2:Bool} {y1 y2:TypeId} {h:Heap} (g1:hget h b = some ⟨y1,[.ws .u64 6 px,.ws .u64 6 py,.one (.bo false)],0,0⟩) (g2:hget h c = some ⟨y2,[.ws .u64 6 x0,.ws .u64 6 x1,.ws .u64 6 y0,.ws .u64 6 y3,.one (.bo false)],0,0⟩) (h1:(lo1 px py && isE px py false) = true) (h2:(lo2 x0 x1 y0 y3 && isQ x0 x1 y0 y3 false) = true) :
  CallOk Tryz.prog 28 ([] ++ [.v1 (.sc (.sl b 0 1 1)),.v1 (.sc (.sl c 0 1 1))]) h (.tup [n12 (lastS (walkS (gN px) (gN py) ⟨gN x0,gN x1⟩ ⟨gN y0,gN y3⟩)),.sc (.it 0)]) h:=by
 refine rd_sl2 tt_ok Tryz.func28 (by kernel_rfl) (by kernel_rfl) hbc (x:=⟨y1,[.ws .u64 6 px,.ws .u64 6 py,.one (.bo false)],0,0⟩) (y:=⟨y2,[.ws .u64 6 x0,.ws .u64 6 x1,.ws .u64 6 y0,.ws .u64 6 y3,.one (.bo false)],0,0⟩) rfl rfl rfl rfl rfl rfl g1 g2 ?_
 refine evS_q mixed tt_ok GPr_ok 200 [⟨6,5,.lit (.bo false)⟩,⟨6,12,.lit (.bo false)⟩] ?_
 refine same (p:=(!(lo1 px py && isE px py false)) = false/\(!(lo2 x0 x1 y0 y3 && isQ x0 x1 y0 y3 false)) = false/\nv oneF < pN/\nv (fun _=>0) < pN/\nv (fun _=>0) < pN/\nv (fun _=>0) < pN/\nv (fun _=>0) < pN/\nv (fun _=>0) < pN/\nv (fun _=>0) < pN/\nv (fun _=>0) < pN/\nv (fun _=>0) < pN/\nv (fun _=>0) < pN/\nv (fun _=>0) < pN/\nv (fun _=>0) < pN/\nv (eF (walkS (gN px) (gN py) ⟨gN x0,gN x1⟩ ⟨gN y0,gN y3⟩).p.u.x) < pN/\nv (eF (walkS (gN px) (gN py) ⟨gN x0,gN x1⟩ ⟨gN y0,gN y3⟩).p.u.y) < pN/\nv (eF (walkS (gN px) (gN py) ⟨gN x0,gN x1⟩ ⟨gN y0,gN y3⟩).q.u.x) < pN/\nv (eF (walkS (gN px) (gN py) ⟨gN x0,gN x1⟩ ⟨gN y0,gN y3⟩).q.u.y) < pN/\nv (eF (walkS (gN px) (gN py) ⟨gN x0,gN x1⟩ ⟨gN y0,gN y3⟩).p.v.x) < pN/\nv (eF (walkS (gN px) (gN py) ⟨gN x0,gN x1⟩ ⟨gN y0,gN y3⟩).p.v.y) < pN/\nv (eF (walkS (gN px) (gN py) ⟨gN x0,gN x1⟩ ⟨gN y0,gN y3⟩).q.v.x) < pN/\nv (eF (walkS (gN px) (gN py) ⟨gN x0,gN x1⟩ ⟨gN y0,gN y3⟩).q.v.y) < pN/\nv (eF (walkS (gN px) (gN py) ⟨gN x0,gN x1⟩ ⟨gN y0,gN y3⟩).p.w.x) < pN/\nv (eF (walkS (gN px) (gN py) ⟨gN x0,gN x1⟩ ⟨gN y0,gN y3⟩).p.w.y) < pN/\nv (eF (walkS (gN px) (gN py) ⟨gN x0,gN x1⟩ ⟨gN y0,gN y3⟩).q.w.x) < pN/\nv (eF (walkS (gN px) (gN py) ⟨gN x0,gN x1⟩ ⟨gN y0,gN y3⟩).q.w.y) < pN/\nv (eF (vwM (walkS (gN px) (gN py) ⟨gN x0,gN x1⟩ ⟨gN y0,gN y3⟩)).p.u.x) < pN/\nv (eF (vwM (walkS (gN px) (gN py) ⟨gN x0,gN x1⟩ ⟨gN y0,gN y3⟩)).p.u.y) < pN/\nv (eF (vwM (walkS (gN px) (gN py) ⟨gN x0,gN x1⟩ ⟨gN y0,gN y3⟩)).q.u.x) < pN/\nv (eF (vwM (walkS (gN px) (gN py) ⟨gN x0,gN x1⟩ ⟨gN y0,gN y3⟩)).q.u.y) < pN/\nv (eF (vwM (walkS (gN px) (gN py) ⟨gN x0,gN x1⟩ ⟨gN y0,gN y3⟩)).p.v.x) < pN/\nv (eF (vwM (walkS (gN px) (gN py) ⟨gN x0,gN x1⟩ ⟨gN y0,gN y3⟩)).p.v.y) < pN/\nv (eF (vwM (walkS (gN px) (gN py) ⟨gN x0,gN x1⟩ ⟨gN y0,gN y3⟩)).q.v.x) < pN/\nv (eF (vwM (walkS (gN px) (gN py) ⟨gN x0,gN x1⟩ ⟨gN y0,gN y3⟩)).q.v.y) < pN/\nv (eF (vwM (walkS (gN px) (gN py) ⟨gN x0,gN x1⟩ ⟨gN y0,gN y3⟩)).p.w.x) < pN/\nv (eF (vwM (walkS (gN px) (gN py) ⟨gN x0,gN x1⟩ ⟨gN y0,gN y3⟩)).p.w.y) < pN/\nv (eF (vwM (walkS (gN px) (gN py) ⟨gN x0,gN x1⟩ ⟨gN y0,gN y3⟩)).q.w.x) < pN/\nv (eF (vwM (walkS (gN px) (gN py) ⟨gN x0,gN x1⟩ ⟨gN y0,gN y3⟩)).q.w.y) < pN/\nv (eF (lastS (vwC (walkS (gN px) (gN py) ⟨gN x0,gN x1⟩ ⟨gN y0,gN y3⟩))).p.u.x) < pN/\nv (eF (lastS (vwC (walkS (gN px) (gN py) ⟨gN x0,gN x1⟩ ⟨gN y0,gN y3⟩))).p.u.y) < pN/\nv (eF (lastS (vwC (walkS (gN px) (gN py) ⟨gN x0,gN x1⟩ ⟨gN y0,gN y3⟩))).q.u.x) < pN/\nv (eF (lastS (vwC (walkS (gN px) (gN py) ⟨gN x0,gN x1⟩ ⟨gN y0,gN y3⟩))).q.u.y) < pN/\nv (eF (lastS (vwC (walkS (gN px) (gN py) ⟨gN x0,gN x1⟩ ⟨gN y0,gN y3⟩))).p.v.x) < pN/\nv (eF (lastS (vwC (walkS (gN px) (gN py) ⟨gN x0,gN x1⟩ ⟨gN y0,gN y3⟩))).p.v.y) < pN/\nv (eF (lastS (vwC (walkS (gN px) (gN py) ⟨gN x0,gN x1⟩ ⟨gN y0,gN y3⟩))).q.v.x) < pN/\nv (eF (lastS (vwC (walkS (gN px) (gN py) ⟨gN x0,gN x1⟩ ⟨gN y0,gN y3⟩))).q.v.y) < pN/\nv (eF (lastS (vwC (walkS (gN px) (gN py) ⟨gN x0,gN x1⟩ ⟨gN y0,gN y3⟩))).p.w.x) < pN/\nv (eF (lastS (vwC (walkS (gN px) (gN py) ⟨gN x0,gN x1⟩ ⟨gN y0,gN y3⟩))).p.w.y) < pN/\nv (eF (lastS (vwC (walkS (gN px) (gN py) ⟨gN x0,gN x1⟩ ⟨gN y0,gN y3⟩))).q.w.x) < pN/\nv (eF (lastS (vwC (walkS (gN px) (gN py) ⟨gN x0,gN x1⟩ ⟨gN y0,gN y3⟩))).q.w.y) < pN/\(some ⟨y1,[.ws .u64 6 px,.ws .u64 6 py,.one (.bo false)],0,0⟩:Option Blk) = some ⟨y1,[.ws .u64 6 px,.ws .u64 6 py,.one (.bo false)],0,0⟩/\(some ⟨y2,[.ws .u64 6 x0,.ws .u64 6 x1,.ws .u64 6 y0,.ws .u64 6 y3,.one (.bo false)],0,0⟩:Option Blk) = some ⟨y2,[.ws .u64 6 x0,.ws .u64 6 x1,.ws .u64 6 y0,.ws .u64 6 y3,.one (.bo false)],0,0⟩/\endR2 (.tup [v12 (vF (dF (eF (lastS (vwC (walkS (gN px) (gN py) ⟨gN x0,gN x1⟩ ⟨gN y0,gN y3⟩))).p.u.x))) (vF (dF (eF (lastS (vwC (walkS (gN px) (gN py) ⟨gN x0,gN x1⟩ ⟨gN y0,gN y3⟩))).p.u.y))) (vF (dF (eF (lastS (vwC (walkS (gN px) (gN py) ⟨gN x0,gN x1⟩ ⟨gN y0,gN y3⟩))).q.u.x))) (vF (dF (eF (lastS (vwC (walkS (gN px) (gN py) ⟨gN x0,gN x1⟩ ⟨gN y0,gN y3⟩))).q.u.y))) (vF (dF (eF (lastS (vwC (walkS (gN px) (gN py) ⟨gN x0,gN x1⟩ ⟨gN y0,gN y3⟩))).p.v.x))) (vF (dF (eF (lastS (vwC (walkS (gN px) (gN py) ⟨gN x0,gN x1⟩ ⟨gN y0,gN y3⟩))).p.v.y))) (vF (dF (eF (lastS (vwC (walkS (gN px) (gN py) ⟨gN x0,gN x1⟩ ⟨gN y0,gN y3⟩))).q.v.x))) (vF (dF (eF (lastS (vwC (walkS (gN px) (gN py) ⟨gN x0,gN x1⟩ ⟨gN y0,gN y3⟩))).q.v.y))) (vF (dF (eF (lastS (vwC (walkS (gN px) (gN py) ⟨gN x0,gN x1⟩ ⟨gN y0,gN y3⟩))).p.w.x))) (vF (dF (eF (lastS (vwC (walkS (gN px) (gN py) ⟨gN x0,gN x1⟩ ⟨gN y0,gN y3⟩))).p.w.y))) (vF (dF (eF (lastS (vwC (walkS (gN px) (gN py) ⟨gN x0,gN x1⟩ ⟨gN y0,gN y3⟩))).q.w.x))) (vF (dF (eF (lastS (vwC (walkS (gN px) (gN py) ⟨gN x0,gN x1⟩ ⟨gN y0,gN y3⟩))).q.w.y))),.sc (.it 0)]) (.tup [n12 (lastS (walkS (gN px) (gN py) ⟨gN x0,gN x1⟩ ⟨gN y0,gN y3⟩)),.sc (.it 0)])) ?_ (by kernel_rfl)
 exact ⟨by rw [h1];rfl,by rw [h2];rfl,lt_one,lt_zero,lt_zero,lt_zero,lt_zero,lt_zero,lt_zero,lt_zero,lt_zero,lt_zero,lt_zero,lt_zero,lt_eF _,lt_eF _,lt_eF _,lt_eF _,lt_eF _,lt_eF _,lt_eF _,lt_eF _,lt_eF _,lt_eF _,lt_eF _,lt_eF _,lt_eF _,lt_eF _,lt_eF _,lt_eF _,lt_eF _,lt_eF _,lt_eF _,lt_eF _,lt_eF _,lt_eF _,lt_eF _,lt_eF _,lt_eF _,lt_eF _,lt_eF _,lt_eF _,lt_eF _,lt_eF _,lt_eF _,lt_eF _,lt_eF _,lt_eF _,lt_eF _,lt_eF _,rfl,rfl,endPR (one_w _)⟩
end Go.Proofs.YtnjocbcjejpklaaGreat
namespace Go.Proofs.YtnjocbcjejpklaaGreat
open Go.Rq Go
set_option maxRecDepth 100000
set_option linter.unusedVariables false
set_option linter.unusedSimpArgs false
set_option maxHeartbeats 4000000
set_option maxRecDepth 100000
def prB (px py x0 x1 y0 y3:Nat->Nat) (z z2:Bool):Bool:=(lo1 px py && isE px py z) && (lo2 x0 x1 y0 y3 && isQ x0 x1 y0 y3 z2)
def prS (px py x0 x1 y0 y3:Nat->Nat) (z z2:Bool):S12:=bif prB px py x0 x1 y0 y3 z z2 then (bif z || z2 then lastS 1 else lastS (walkS (gN px) (gN py) ⟨gN x0,gN x1⟩ ⟨gN y0,gN y3⟩)) else 0
def prI (px py x0 x1 y0 y3:Nat->Nat) (z z2:Bool):Int:=bif prB px py x0 x1 y0 y3 z z2 then 0 else 5
def prV (px py x0 x1 y0 y3:Nat->Nat) (z z2:Bool):AV:=.tup [n12 (prS px py x0 x1 y0 y3 z z2),.sc (.it (prI px py x0 x1 y0 y3 z z2))]
def cPrs:List AV->Heap->Option (List Prop × AV)
 | [.v1 (.sc (.sl b 0 1 1)),.v1 (.sc (.sl c 0 1 1))],h=>match Nat.beq b c,hget h b,hget h c with
  | false,some ⟨_,[.ws .u64 6 px,.ws .u64 6 py,.one (.bo z)],0,0⟩,some ⟨_,[.ws .u64 6 x0,.ws .u64 6 x1,.ws .u64 6 y0,.ws .u64 6 y3,.one (.bo z2)],0,0⟩=>some ([],prV px py x0 x1 y0 y3 z z2)
  | _,_,_=>none
 | _,_=>none
theorem okPrs:(CallC.rd cPrs).Ok Tryz.prog 28:=by
 refine ⟨fun args h pre v e hp=>?_,fun args h slot blk hs ha=>?_⟩
 ·unfold cPrs at e
  split at e
  ·rename_i b c
   split at e
   ·rename_i y1 px py z y2 x0 x1 y0 y3 z2 h0 g1 g2
    cases e
    show CallOk Tryz.prog 28 ([] ++ [.v1 (.sc (.sl b 0 1 1)),.v1 (.sc (.sl c 0 1 1))]) h (prV px py x0 x1 y0 y3 z z2) h
    unfold prV prS prI prB
    cases h1:(lo1 px py && isE px py z)
    ·exact pr_no1 h0 g1 g2 h1
    ·cases h2:(lo2 x0 x1 y0 y3 && isQ x0 x1 y0 y3 z2)
     ·exact pr_no2 h0 g1 g2 h1 h2
     ·cases z
      ·cases z2
       ·exact pr_in (z:=false) (z2:=false) h0 g1 g2 h1 h2
       ·exact pr_z2 (z:=false) (z2:=true) h0 g1 g2 h1 h2
      ·exact pr_z1 (z:=true) h0 g1 g2 h1 h2
   ·cases e
  ·cases e
 ·unfold cPrs
  split
  ·rename_i b c
   rw [keepS hs (ha (.v1 (.sc (.sl b 0 1 1))) (by simp)),keepS hs (ha (.v1 (.sc (.sl c 0 1 1))) (by simp))]
  ·rfl
def GPir:Ctx:=ctxL [(28,.rd cPrs)]
theorem GPir_ok:CtxOk Tryz.prog GPir:=ctxL_cons okPrs ctxL_nil
def cPair:List AV->Option (List Prop × AV)
 | [.v1 (.agg [.ws .u64 6 px,.ws .u64 6 py,.one (.bo z)]),.v1 (.agg [.ws .u64 6 x0,.ws .u64 6 x1,.ws .u64 6 y0,.ws .u64 6 y3,.one (.bo z2)])]=>some ([],prV px py x0 x1 y0 y3 z z2)
 | _=>none
theorem okPair:(CallC.pure cPair).Ok Tryz.prog 7:=by
 intro args pre v e hp
 unfold cPair at e
 split at e
 rotate_left
 ·cases e
 rename_i px py z x0 x1 y0 y3 z2
 cases e
 refine pure_walk' tt_ok Tryz.func7 (by kernel_rfl) (by kernel_rfl) (by rfl) (by rfl) ?_
 refine evS_q mixed tt_ok GPir_ok 60 [] (same (p:=endN (prV px py x0 x1 y0 y3 z z2) (prV px py x0 x1 y0 y3 z z2)) ?_ (by kernel_rfl))
 exact ⟨_,rfl,fun _=>rfl⟩
end Go.Proofs.YtnjocbcjejpklaaGreat
namespace Go.Proofs.YtnjocbcjejpklaaGreat
open Go.Rq Go
set_option maxRecDepth 100000
set_option linter.unusedVariables false
set_option linter.unusedSimpArgs false
set_option maxHeartbeats 4000000
def cOut1:List AV->Option (List Prop × AV)
 | [.v1 (.agg [.ws .u64 6 x,.ws .u64 6 y,.one (.bo z)])]=>some ([nv x < pN,nv y < pN],.v1 (.agg [.ws .u64 6 (vF (dF x)),.ws .u64 6 (vF (dF y)),.one (.bo z)]))
 | _=>none
def GOu1:Ctx:=ctxL [(133,.pure cFrom)]
theorem GOu1_ok:CtxOk Tryz.prog GOu1:=ctxL_cons okFrom ctxL_nil
theorem okOut1:(CallC.pure cOut1).Ok Tryz.prog 70:=by
 intro args pre v e hp
 unfold cOut1 at e
 split at e
 rotate_left
 ·cases e
 rename_i x y z
 cases e
 refine pure_walk' tt_ok Tryz.func70 (by kernel_rfl) (by kernel_rfl) (by rfl) (by rfl) ?_
 refine evS_q mixed tt_ok GOu1_ok 60 [] (same (p:=nv x < pN/\nv y < pN/\endN (.v1 (.agg [.ws .u64 6 (vF (dF x)),.ws .u64 6 (vF (dF y)),.one (.bo z)])) (.v1 (.agg [.ws .u64 6 (vF (dF x)),.ws .u64 6 (vF (dF y)),.one (.bo z)]))) ?_ (by kernel_rfl))
 exact ⟨hp (nv x < pN) (by simp),hp (nv y < pN) (by simp),_,rfl,fun _=>rfl⟩
end Go.Proofs.YtnjocbcjejpklaaGreat
namespace Go.Rq
open Go
set_option linter.unusedVariables false
section
variable {α:Type} [CR α]
end
def ch (x:Fp):Fp:=x ^ ((pN - 1) / 2)
end Go.Rq
namespace Go.Proofs.YtnjocbcjejpklaaGreat
open Go.Rq Go EC
set_option maxRecDepth 100000
set_option linter.unusedVariables false
set_option linter.unusedSimpArgs false
set_option maxRecDepth 100000
def ptE (x y:Nat->Nat) (z:Bool):Option (Fp × Fp):=A2.pt (⟨gN x,gN y,z⟩:A2 Fp)
def ptQ (x0 x1 y0 y1:Nat->Nat) (z:Bool):Option (F2p × F2p):=A2.pt (⟨⟨gN x0,gN x1⟩,⟨gN y0,gN y1⟩,z⟩:A2 F2p)
def G1s (P:Option (Fp × Fp)):Prop:=EF.on P/\EF.mul rO P = none
theorem inE_spec {x y:Nat->Nat} {z:Bool} (h:(lo1 x y && isE x y z) = true):lo1 x y = true/\G1s (ptE x y z)/\(⟨gN x,gN y,z⟩:A2 Fp) = A2.of (ptE x y z):=by
 rw [Bool.and_eq_true] at h
 obtain ⟨h1,h2,h3⟩:=(isIn_E _).1 h.2
 exact ⟨h.1,⟨h1,h2⟩,h3⟩
theorem inQ_spec {x0 x1 y0 y1:Nat->Nat} {z:Bool} (h:(lo2 x0 x1 y0 y1 && isQ x0 x1 y0 y1 z) = true):lo2 x0 x1 y0 y1 = true/\G2s (ptQ x0 x1 y0 y1 z)/\(⟨⟨gN x0,gN x1⟩,⟨gN y0,gN y1⟩,z⟩:A2 F2p) = A2.of (ptQ x0 x1 y0 y1 z):=by
 rw [Bool.and_eq_true] at h
 obtain ⟨h1,h2⟩:=(isIn_Q _).1 h.2
 exact ⟨h.1,h1,h2⟩
theorem bl_vF (z:Fp):blB (vF z) = true:=by unfold blB;rw [nv_vF,Nat.blt_eq];exact z.isLt
theorem inE_of {R:A2 Fp} {X:Option (Fp × Fp)} (hR:R = A2.of X) (hX:G1s X):(lo1 (vF R.x) (vF R.y) && isE (vF R.x) (vF R.y) R.z) = true/\ptE (vF R.x) (vF R.y) R.z = X:=by
 have e:(⟨gN (vF R.x),gN (vF R.y),R.z⟩:A2 Fp) = A2.of X:=by rw [gN_vF,gN_vF];exact hR
 have hp:A2.pt (⟨gN (vF R.x),gN (vF R.y),R.z⟩:A2 Fp) = X:=by rw [e,A2.pt_of]
 refine ⟨?_,hp⟩
 rw [Bool.and_eq_true]
 refine ⟨by unfold lo1;rw [bl_vF,bl_vF];rfl,(isIn_E _).2 ?_⟩
 rw [hp]
 exact ⟨hX.1,hX.2,e⟩
theorem inQ_of {R:A2 F2p} {X:Option (F2p × F2p)} (hR:R = A2.of X) (hX:G2s X):(lo2 (vF R.x.x) (vF R.x.y) (vF R.y.x) (vF R.y.y) && isQ (vF R.x.x) (vF R.x.y) (vF R.y.x) (vF R.y.y) R.z) = true/\ptQ (vF R.x.x) (vF R.x.y) (vF R.y.x) (vF R.y.y) R.z = X:=by
 have e:(⟨⟨gN (vF R.x.x),gN (vF R.x.y)⟩,⟨gN (vF R.y.x),gN (vF R.y.y)⟩,R.z⟩:A2 F2p) = A2.of X:=by rw [gN_vF,gN_vF,gN_vF,gN_vF];exact hR
 have hp:A2.pt (⟨⟨gN (vF R.x.x),gN (vF R.x.y)⟩,⟨gN (vF R.y.x),gN (vF R.y.y)⟩,R.z⟩:A2 F2p) = X:=by rw [e,A2.pt_of]
 refine ⟨?_,hp⟩
 rw [Bool.and_eq_true]
 refine ⟨by unfold lo2;rw [bl_vF,bl_vF,bl_vF,bl_vF];rfl,(isIn_Q _).2 ?_⟩
 rw [hp]
 exact ⟨hX,e⟩
theorem lastS_1:lastS 1 = 1:=last_conj one_ne conj_1
theorem prS_val {px py x0 x1 y0 y3:Nat->Nat} {z z2:Bool} (h1:(lo1 px py && isE px py z) = true) (h2:(lo2 x0 x1 y0 y3 && isQ x0 x1 y0 y3 z2) = true):prS px py x0 x1 y0 y3 z z2 = eP (ptQ x0 x1 y0 y3 z2) (ptE px py z):=by
 obtain ⟨_,hE,_⟩:=inE_spec h1
 obtain ⟨_,hQ,_⟩:=inQ_spec h2
 unfold prS prB
 rw [h1,h2]
 cases z
 ·cases z2
  ·exact (pair_val (q:=(⟨gN x0,gN x1⟩,⟨gN y0,gN y3⟩)) (p:=(gN px,gN py)) hQ hE.1).1
  ·exact lastS_1.trans (eP_none _).symm
 ·exact lastS_1.trans (eP_at_none _).symm
theorem prI_val {px py x0 x1 y0 y3:Nat->Nat} {z z2:Bool} (h1:(lo1 px py && isE px py z) = true) (h2:(lo2 x0 x1 y0 y3 && isQ x0 x1 y0 y3 z2) = true):prI px py x0 x1 y0 y3 z z2 = 0:=by
 unfold prI prB
 rw [h1,h2];rfl
theorem onE_of {x y:Nat->Nat} {z:Bool} (h:G1s (ptE x y z)) (e:(⟨gN x,gN y,z⟩:A2 Fp) = A2.of (ptE x y z)):A2.on fourE (⟨gN x,gN y,z⟩:A2 Fp) = true:=by
 rw [fourE_b]
 exact (A2.on_pt EF rfl).2 ⟨h.1,e⟩
end Go.Proofs.YtnjocbcjejpklaaGreat
namespace Go.Proofs.YtnjocbcjejpklaaGreat
open Go.Rq Go
set_option maxRecDepth 100000
set_option linter.unusedVariables false
set_option linter.unusedSimpArgs false
set_option maxRecDepth 100000
def GNb:Ctx:=ctxL [(128,.pure cParse)]
theorem GNb_ok:CtxOk Tryz.prog GNb:=ctxL_cons okParse ctxL_nil
def cNumb:List AV->Option (List Prop × AV)
 | [.v1 (.sc (.str n f))]=>some ([],.v1 (numV (parV n f)))
 | _=>none
theorem okNumb:(CallC.pure cNumb).Ok Tryz.prog 66:=by
 intro args pre v e hp
 unfold cNumb at e
 split at e
 rotate_left
 ·cases e
 rename_i n f
 cases e
 refine pure_walk' tt_ok Tryz.func66 (by kernel_rfl) (by kernel_rfl) (by rfl) (by rfl) ?_
 refine evS_q mixed tt_ok GNb_ok 60 [] (same (p:=endN (.v1 (numV (parV n f))) (.v1 (numV (parV n f)))) ⟨_,rfl,fun _=>rfl⟩ (by kernel_rfl))
def GGn:Ctx:=ctxL [(66,.pure cNumb)]
theorem GGn_ok:CtxOk Tryz.prog GGn:=ctxL_cons okNumb ctxL_nil
abbrev gen1V:AV:=.v1 (.agg [.ws .u64 6 (vF (ofN gx)),.ws .u64 6 (vF (ofN gy)),.one (.bo false)])
abbrev gen2V:AV:=.v1 (.agg [.ws .u64 6 (vF (ofN hx.1)),.ws .u64 6 (vF (ofN hx.2)),.ws .u64 6 (vF (ofN hy.1)),.ws .u64 6 (vF (ofN hy.2)),.one (.bo false)])
def cGen (v:AV):List AV->Option (List Prop × AV)
 | []=>some ([],v)
 | _=>none
theorem okGen1:(CallC.pure (cGen gen1V)).Ok Tryz.prog 30:=by
 intro args pre v e hp
 unfold cGen at e
 split at e
 rotate_left
 ·cases e
 cases e
 refine pure_walk' tt_ok Tryz.func30 (by kernel_rfl) (by kernel_rfl) (by rfl) (by rfl) ?_
 refine evS_q mixed tt_ok GGn_ok 60 [] (same (p:=endN gen1V gen1V) ⟨_,rfl,fun _=>rfl⟩ (by kernel_rfl))
theorem okGen2:(CallC.pure (cGen gen2V)).Ok Tryz.prog 27:=by
 intro args pre v e hp
 unfold cGen at e
 split at e
 rotate_left
 ·cases e
 cases e
 refine pure_walk' tt_ok Tryz.func27 (by kernel_rfl) (by kernel_rfl) (by rfl) (by rfl) ?_
 refine evS_q mixed tt_ok GGn_ok 60 [] (same (p:=endN gen2V gen2V) ⟨_,rfl,fun _=>rfl⟩ (by kernel_rfl))
end Go.Proofs.YtnjocbcjejpklaaGreat
namespace Go.Proofs.YtnjocbcjejpklaaGreat
open Go.Rq Go
set_option maxRecDepth 100000
def GT:Ctx:=ctxL [(129,.pure cLen)]
theorem GT_ok:CtxOk Tryz.prog GT:=ctxL_cons okLen ctxL_nil
def cText:List AV->Option (List Prop × AV)
 | [.v1 (.agg [.ws .u64 6 a])]=>some ([],.v1 (.sc (.str (tLen (nv a)) (txF (nv a) (tLen (nv a))))))
 | _=>none
abbrev nilS:AV:=.v1 (.sc (.rw (.slice none 0 0)))
def bS (s:Nat):Nat->AV
 | 0=>nilS
 | k + 1=>.v1 (.sc (.so s (k + 1)))
def bB (f:Nat->Nat):Nat->Option Blk
 | 0=>none
 | k + 1=>some ⟨5,[.ws .u8 (k + 1) f],1,1⟩
def bD:Nat->Option Blk
 | 0=>none
 | _ + 1=>some ⟨0,[],2,0⟩
def VX (r k:Nat):List AV:=[pt 0 0,bS 1 k,iv (predI r)]
def HX (a f:Nat->Nat) (k:Nat):Heap:=[nb a,bB f k,bD k]
def InvX (a:Nat->Nat) (x:Nat × Nat × (Nat->Nat)):Prop:=x.1 + x.2.1 = tLen (nv a)/\∀ j,j < x.2.1->x.2.2 j % 256 = txF (nv a) (tLen (nv a)) j % 256
theorem okText:(CallC.pure cText).Ok Tryz.prog 74:=by
 intro args pre v h _
 unfold cText at h
 split at h
 ·rename_i a
  cases h
  have hL:=tLen_le (nv_lt a)
  refine pure_walk' tt_ok Tryz.func74 (by kernel_rfl) (by kernel_rfl) (by kernel_rfl) (by kernel_rfl) ?_
  refine loopR mixed tt_ok GT_ok (by kernel_rfl) (ι:={x // InvX a x}) [0,77,78] [0,4,5] [0,1,2] [1,3,4] 29 (fun x=>VX x.1.1 x.1.2.1) (fun x=>HX a x.1.2.2 x.1.2.1) (fun x=>x.1.1) (fun x=>x.1.1 = 0)
   (fun x=>by
    obtain ⟨⟨r,k,f⟩,_⟩:=x
    cases k <;> kernel_rfl) (fun _ _ h=>h.elim) (fun _ h=>h.elim) 60 [⟨2,2,.lit (.it (Int.ofNat (tB1 (nv a))))⟩,⟨2,3,.lit (.it (Int.ofNat (tB1 (nv a) - 1)))⟩,⟨2,4,.lit (.it (predI (tLen (nv a))))⟩] ?_ ?_ ?_
  ·refine same (p:=(bif ilt (Int.ofNat (blen (nv a))) 1 then 1 else Int.ofNat (blen (nv a))) = Int.ofNat (tB1 (nv a))/\wrapI (Int.ofNat (tB1 (nv a)) - 1) = Int.ofNat (tB1 (nv a) - 1)/\wrapI ((Int.ofNat (tB1 (nv a) - 1)).tdiv 4) = predI (tLen (nv a))/\true = true/\true = true /\
    ∃ j:{x // InvX a x},VX (tLen (nv a)) 0 = VX j.1.1 j.1.2.1/\HX a (fun _=>0) 0 = HX a j.1.2.2 j.1.2.1) ?_ (by kernel_rfl)
   have hb:=tB1_le (nv_lt a)
   refine ⟨?_,?_,?_,rfl,rfl,⟨(tLen (nv a),0,fun _=>0),by simp,fun j hj=>by simp at hj⟩,rfl,rfl⟩
   ·unfold tB1
    cases hc:Nat.ble (blen (nv a)) 1
    ·have h1:¬ blen (nv a) <= 1:=by rw [<-Nat.ble_eq,hc];simp
     have:ilt (Int.ofNat (blen (nv a))) 1 = false:=by rw [<-Bool.not_eq_true,ilt_iff];simp;omega
     rw [this];rfl
    ·rw [Nat.ble_eq] at hc
     by_cases h1:blen (nv a) = 1
     ·rw [h1];rfl
     ·have h0:blen (nv a) = 0:=by omega
      rw [h0];rfl
   ·have:=predI_eq (k:=tB1 (nv a)) (by omega)
    rw [this]
    obtain ⟨m,hm⟩:∃ m,tB1 (nv a) = m + 1:=⟨tB1 (nv a) - 1,by omega⟩
    rw [hm];rfl
   ·exact tdiv4 ⟨tB1 (nv a) - 1,by omega⟩
  ·intro ⟨⟨r,k,f⟩,hs,hf⟩ junk
   simp only at hs hf
   cases r with
   | zero =>
    refine roundF mixed tt_ok GT_ok 60 [] ?_
    cases k with
    | zero=>omega
    | succ k =>
     refine same (p:=true = true/\true = true/\∃ j:{x // InvX a x},j.1.1 = 0/\VX 0 (k + 1) = VX j.1.1 j.1.2.1/\HX a f (k + 1) = HX a j.1.2.2 j.1.2.1) ?_ (by kernel_rfl)
     exact ⟨rfl,rfl,⟨(0,k + 1,f),hs,hf⟩,rfl,rfl,rfl⟩
   | succ i =>
    have hi:i < 96:=by omega
    obtain ⟨hg1,hg2⟩:=DG_eq a hi
    have hge:(!ilt (Int.ofNat i) 0) = true:=by rw [(by rw [<-Bool.not_eq_true,ilt_iff];simp:ilt (Int.ofNat i) 0 = false)];rfl
    have hp:wrapI (Int.ofNat i - 1) = predI i:=predI_eq (by omega)
    have hmodW:DG a i % W = DG a i:=Nat.mod_eq_of_lt (by simp only [W];omega)
    have next:∀ (k:Nat) (f g:Nat->Nat),i + 1 + k = tLen (nv a)->(∀ j,j < k->f j % 256 = txF (nv a) (tLen (nv a)) j % 256)->(∀ j,j < k->g j = f j)->g k = byteAt HEX (DG a i % W) ->
      ∃ j:{x // InvX a x},j.1.1 < i + 1/\VX i (k + 1) = VX j.1.1 j.1.2.1/\HX a g (k + 1) = HX a j.1.2.2 j.1.2.1:=by
     intro k f g hs hf h1 h2
     refine ⟨⟨(i,k + 1,g),by simp only;omega,fun j hj=>?_⟩,by simp only;omega,rfl,rfl⟩
     simp only at hj ⊢
     by_cases hjk:j < k
     ·rw [h1 j hjk];exact hf j hjk
     ·have:j = k:=by omega
      subst this
      rw [h2,hmodW,hg1]
      unfold txF
      rw [show tLen (nv a) - 1 - j = i by omega]
    have t16:=tdiv16 ⟨i,hi⟩
    have m16:=tmod16 ⟨i,hi⟩
    have m4:=mul4 ⟨i % 16,Nat.mod_lt _ (by omega)⟩
    cases k with
    | zero =>
     refine roundF mixed tt_ok GT_ok 60 [⟨3,1,.lit (.bo true)⟩,⟨5,2,.lit (.it (Int.ofNat (i/16)))⟩,⟨5,3,.sym⟩,⟨5,4,.sym⟩,⟨5,6,.lit (.it (Int.ofNat (i%16)))⟩,⟨5,7,.lit (.it (Int.ofNat (4*(i%16))))⟩,⟨5,8,.sym⟩,⟨5,10,.sym⟩,⟨4,1,.lit (.it (predI i))⟩] ?_
     refine same (p:=(!ilt (Int.ofNat i) 0) = true/\wrapI ((Int.ofNat i).tdiv 16) = Int.ofNat (i / 16)/\ix (i / 16) 6 ((Int.ofNat i).tmod 16 = Int.ofNat (i % 16)/\wrapI (4 * Int.ofNat (i % 16)) = Int.ofNat (4 * (i % 16))/\0 <= Int.ofNat (4 * (i % 16))/\DG a i % W < 16 /\
      wrapI (Int.ofNat i - 1) = predI i/\true = true/\true = true/\∃ j:{x // InvX a x},j.1.1 < i + 1/\VX i 1 = VX j.1.1 j.1.2.1/\HX a (upd (fun _=>0) 0 (byteAt HEX (DG a i % W))) 1 = HX a j.1.2.2 j.1.2.1)) ?_ (by kernel_rfl)
     exact ⟨hge,t16,ix_of (by omega) ⟨m16,m4,Int.natCast_nonneg _,by rw [hmodW];exact hg2,hp,rfl,rfl,next 0 f _ hs hf (fun j hj=>by omega) (by rw [upd_same])⟩⟩
    | succ k =>
     refine roundF mixed tt_ok GT_ok 60 [⟨3,1,.lit (.bo true)⟩,⟨5,2,.lit (.it (Int.ofNat (i/16)))⟩,⟨5,3,.sym⟩,⟨5,4,.sym⟩,⟨5,6,.lit (.it (Int.ofNat (i%16)))⟩,⟨5,7,.lit (.it (Int.ofNat (4*(i%16))))⟩,⟨5,8,.sym⟩,⟨5,10,.sym⟩,⟨5,12,.sym⟩,⟨4,1,.lit (.it (predI i))⟩] ?_
     refine same (p:=(!ilt (Int.ofNat i) 0) = true/\wrapI ((Int.ofNat i).tdiv 16) = Int.ofNat (i / 16)/\ix (i / 16) 6 ((Int.ofNat i).tmod 16 = Int.ofNat (i % 16)/\wrapI (4 * Int.ofNat (i % 16)) = Int.ofNat (4 * (i % 16))/\0 <= Int.ofNat (4 * (i % 16))/\DG a i % W < 16 /\
      k + 1 = k + 1/\1 <= 1/\k + 1 + 1 <= 17179869184/\(false = true->0 < 1) /\
      wrapI (Int.ofNat i - 1) = predI i/\true = true/\true = true/\∃ j:{x // InvX a x},j.1.1 < i + 1/\VX i (k + 1 + 1) = VX j.1.1 j.1.2.1/\HX a (catF (k + 1) f (fun j=>upd (fun _=>0) 0 (byteAt HEX (DG a i % W)) j)) (k + 1 + 1) = HX a j.1.2.2 j.1.2.1)) ?_ (by kernel_rfl)
     refine ⟨hge,t16,ix_of (by omega) ⟨m16,m4,Int.natCast_nonneg _,by rw [hmodW];exact hg2,rfl,Nat.le_refl _,by omega,fun h=>(by cases h),hp,rfl,rfl,next (k + 1) f _ hs hf (fun j hj=>?_) ?_⟩⟩
     ·unfold catF
      have:Nat.blt j (k + 1) = true:=by rw [Nat.blt_eq];exact hj
      rw [this];rfl
     ·unfold catF
      have:Nat.blt (k + 1) (k + 1) = false:=by rw [<-Bool.not_eq_true,Nat.blt_eq];omega
      rw [this]
      simp only [cond_false,Nat.sub_self]
      rw [upd_same]
  ·intro ⟨⟨r,k,f⟩,hs,hf⟩ junk h0
   simp only at hs hf h0
   subst h0
   cases k with
   | zero=>omega
   | succ k =>
    refine evS_q mixed tt_ok GT_ok 60 [⟨6,1,.sym⟩] ?_
    refine same (p:=k + 1 = k + 1/\k + 1 = k + 1/\∃ v',some (AV.v1 (.sc (.str (k + 1) f))) = some v'/\∀ ρ,v'.val ρ = (AV.v1 (.sc (.str (tLen (nv a)) (txF (nv a) (tLen (nv a)))))).val ρ) ?_ (by kernel_rfl)
    refine ⟨rfl,rfl,_,rfl,fun ρ=>?_⟩
    have:tLen (nv a) = k + 1:=by omega
    simp only [AV.val,V1.val,Sc.val]
    rw [bytesF_congr hf,this]
 ·cases h
end Go.Proofs.YtnjocbcjejpklaaGreat
namespace Go.Rq
open Go
abbrev emS (o:Option Addr):AV:=.v1 (.sc (.rw (.slice o 0 0)))
abbrev nilS:AV:=emS none
abbrev WrapV:=Array Value × (Nat × Nat)
abbrev wB (t off N:Nat) (f:Nat->Nat) (v:WrapV):Option Blk:=some ⟨t,[.ws .u8 N f,.one (.rw (wrapB v.1 v.2))],3,off⟩
def vw (h:Heap):AV->Option (Nat × (Nat->Nat) × List Prop)
 | .v1 (.sc (.rw (.slice _ 0 0)))=>some (0,fun _=>0,[])
 | .v1 (.sc (.sl b off n _))=>match hget h b with
  | some ⟨_,[.ws .u8 N f],0,_⟩=>some (n,fun j=>f (addN off j),[off + n <= N])
  | some ⟨_,[.ws .u8 N f,.one (.rw _)],3,hi⟩=>some (n,fun j=>f ((off - hi) + j),[hi <= off,(off - hi) + n <= N])
  | _=>none
 | .v1 (.sc (.so b n))=>match hget h b with
  | some ⟨_,[.ws .u8 N f],1,1⟩=>some (n,f,[n <= N])
  | _=>none
 | _=>none
def vwc (h:Heap):AV->Option (Nat × Nat × (Nat->Nat) × List Prop)
 | .v1 (.sc (.sl b off n c))=>match hget h b with
  | some ⟨_,[.ws .u8 N f],0,_⟩=>some (n,c,fun j=>f (addN off j),[off + c <= N])
  | some ⟨_,[.ws .u8 N f,.one (.rw _)],3,hi⟩=>some (n,c,fun j=>f ((off - hi) + j),[hi <= off,(off - hi) + c <= N])
  | _=>none
 | _=>none
structure WinD where
 B:Nat
 t:TypeId
 off:Nat
 n:Nat
 cap:Nat
 N:Nat
 f:Nat->Nat
 arr:Array Value
 fr:Nat × Nat
def WinD.blk (d:WinD):Option Blk:=wB d.t d.off d.N d.f (d.arr,d.fr)
def WinD.val (d:WinD):Value:=.slice (some ⟨d.B,d.off,none⟩) d.n d.cap
structure WinD.Good (d:WinD) (w:World):Prop where
 row:w.heap[d.B]? = some (.cells d.arr d.t d.fr)
 cells:∀ j,j < d.N->d.arr[d.off + j]? = some (.int .u8 (Int.ofNat (d.f j % 256)))
theorem vals_ws8 (ρ:Ren) (N:Nat) (f:Nat->Nat) (r:List Cell) {j:Nat} (hj:j < N):(cvals ρ (.ws .u8 N f :: r))[j]? = some (.int .u8 (Int.ofNat (f j % 256))):=by
 simp only [cvals,Cell.vals,M]
 rw [List.getElem?_append_left (by simpa using hj)]
 simp [hj]
inductive Sh where
 | pl (v:AV)
 | vs (n:Nat) (f:Nat->Nat)
 | vc (n c:Nat) (f:Nat->Nat)
def Sh.Sem (w:World) (R:Nat->Prop):Sh->Value->Prop
 | .pl v,x=>vokB v = true/\x = v.val fun _=>0
 | .vs n f,x=>(n = 0/\∃ o,x = .slice o 0 0)∨∃ d:WinD,d.Good w/\R d.B/\d.n = n/\d.N = n/\d.f = f/\x = d.val
 | .vc n c f,x=>∃ d:WinD,d.Good w/\R d.B/\d.n = n/\d.N = c/\d.cap = c/\d.f = f/\x = d.val
def Sems (w:World) (R:Nat->Prop):List Sh->List Value->Prop
 | [],[]=>True
 | a :: r,x :: s=>a.Sem w R x/\Sems w R r s
 | _,_=>False
theorem blk_good {ρ:Ren} {h:Heap} {w:World} (hr:RelH ρ h w) {b:Nat} {blk:Blk} (hb:hget h b = some blk) :
  (∀ t N g hi off n c,blk = ⟨t,[.ws .u8 N g],0,hi⟩->off + n <= N->∀ m,WinD.Good ⟨ρ b,t,off,m,c,n,fun j=>g (addN off j),(cvals ρ [.ws .u8 N g]).toArray,(0,hi)⟩ w) /\
  (∀ t N g v hi off n c,blk = ⟨t,[.ws .u8 N g,.one (.rw v)],3,hi⟩->hi <= off->(off - hi) + n <= N->∀ m,∃ arr fr,WinD.Good ⟨ρ b,t,off,m,c,n,fun j=>g ((off - hi) + j),arr,fr⟩ w) /\
  (∀ t N g n c,blk = ⟨t,[.ws .u8 N g],1,1⟩->n <= N->∀ m,∃ arr fr,WinD.Good ⟨ρ b,t,0,m,c,n,g,arr,fr⟩ w):=by
 refine ⟨fun t N g hi off n c e hle m=>?_,fun t N g v hi off n c e h1 h2 m=>?_,fun t N g n c e hle m=>?_⟩
 ·subst e
  refine ⟨hr.row b _ hb rfl,fun j hj=>?_⟩
  have hj:j < n:=hj
  show (cvals ρ [.ws .u8 N g]).toArray[off + j]? = _
  rw [List.getElem?_toArray,vals_ws8 ρ N g [] (by omega)]
  simp only [addN_eq]
 ·subst e
  obtain ⟨arr,fr,w1,w2,w3⟩:=hr.win b _ hb rfl
  refine ⟨arr,fr,w1,fun j hj=>?_⟩
  have hj:j < n:=hj
  have h3:=w3 ((off - hi) + j) (by simp [cvals,Cell.vals];omega)
  rw [vals_ws8 ρ N g _ (by omega)] at h3
  rw [show off + j = hi + (off - hi + j) by omega]
  exact h3
 ·subst e
  obtain ⟨⟨cur,g1,g2,g3,g4,g5,g6⟩,_⟩:=hr.own b _ hb rfl
  refine ⟨cur,(0,0),g1,fun j hj=>?_⟩
  have hj:j < n:=hj
  have h3:=vals_ws8 ρ N g [] (show j < N by omega)
  rw [<-g6] at h3
  rw [List.getElem?_take_of_lt (by simp [clen,Cell.len];omega)] at h3
  rw [Nat.zero_add,<-Array.getElem?_toList]
  exact h3
theorem vw_sem {ρ:Ren} {h:Heap} {w:World} (hr:RelH ρ h w) {x:AV} {n:Nat} {f:Nat->Nat} {pre:List Prop} (e:vw h x = some (n,f,pre)) (hp:∀ p ∈ pre,p) :
  (Sh.vs n f).Sem w (fun B=>∃ i,Dm h i/\B = ρ i) (x.val ρ):=by
 unfold vw at e
 split at e
 ·cases e;exact .inl ⟨rfl,_,rfl⟩
 ·rename_i b off n' c
  split at e
  ·rename_i t N g hi hb
   cases e
   exact .inr ⟨_,(blk_good hr hb).1 t N g hi off n c rfl (hp _ (List.mem_cons_self ..)) n,⟨b,⟨_,hb⟩,rfl⟩,rfl,rfl,rfl,rfl⟩
  ·rename_i t N g v hi hb
   cases e
   obtain ⟨arr,fr,hd⟩:=(blk_good hr hb).2.1 t N g v hi off n c rfl (hp _ (List.mem_cons_self ..)) (hp _ (List.mem_cons_of_mem _ (List.mem_cons_self ..))) n
   exact .inr ⟨_,hd,⟨b,⟨_,hb⟩,rfl⟩,rfl,rfl,rfl,rfl⟩
  ·cases e
 ·rename_i b n'
  split at e
  ·rename_i t N g hb
   cases e
   obtain ⟨arr,fr,hd⟩:=(blk_good hr hb).2.2 t N _ n (ρ (b + 1) - ρ b) rfl (hp _ (List.mem_cons_self ..)) n
   exact .inr ⟨_,hd,⟨b,⟨_,hb⟩,rfl⟩,rfl,rfl,rfl,rfl⟩
  ·cases e
 ·cases e
theorem vwc_sem {ρ:Ren} {h:Heap} {w:World} (hr:RelH ρ h w) {x:AV} {n c:Nat} {f:Nat->Nat} {pre:List Prop} (e:vwc h x = some (n,c,f,pre)) (hp:∀ p ∈ pre,p) :
  (Sh.vc n c f).Sem w (fun B=>∃ i,Dm h i/\B = ρ i) (x.val ρ):=by
 unfold vwc at e
 split at e
 ·rename_i b off n' c'
  split at e
  ·rename_i t N g hi hb
   cases e
   exact ⟨_,(blk_good hr hb).1 t N g hi off c c rfl (hp _ (List.mem_cons_self ..)) n,⟨b,⟨_,hb⟩,rfl⟩,rfl,rfl,rfl,rfl,rfl⟩
  ·rename_i t N g v hi hb
   cases e
   obtain ⟨arr,fr,hd⟩:=(blk_good hr hb).2.1 t N g v hi off c c rfl (hp _ (List.mem_cons_self ..)) (hp _ (List.mem_cons_of_mem _ (List.mem_cons_self ..))) n
   exact ⟨_,hd,⟨b,⟨_,hb⟩,rfl⟩,rfl,rfl,rfl,rfl,rfl⟩
  ·cases e
 ·cases e
def winH (l:List WinD):Heap:=l.map WinD.blk
theorem hget_winH:∀ {l:List WinD} {i:Nat} {b:Blk},hget (winH l) i = some b->∃ d,d ∈ l/\nthN (l.map (·.B)) i = d.B/\some b = d.blk
 | [],_,_,h=>by simp [winH,hget] at h
 | d :: _,0,_,h=>⟨d,List.mem_cons_self ..,rfl,by simpa [winH,hget] using h.symm⟩
 | _ :: r,i + 1,_,h=>by
  obtain ⟨d,h1,h2,h3⟩:=hget_winH (l:=r) (i:=i) (by simpa [winH,hget] using h)
  exact ⟨d,List.mem_cons_of_mem _ h1,h2,h3⟩
theorem dm_winH:∀ {l:List WinD} {i:Nat},i < l.length->Dm (winH l) i
 | d :: _,0,_=>⟨_,rfl⟩
 | _ :: r,i + 1,h=>by
  obtain ⟨b,hb⟩:=dm_winH (l:=r) (i:=i) (by simpa using h)
  exact ⟨b,hb⟩
theorem RelH.wins {w:World} {l:List WinD} (h:∀ d ∈ l,d.Good w):RelH (nthN (l.map (·.B))) (winH l) w:=by
 have h3:∀ i b,hget (winH l) i = some b->b.lo = 3:=fun i b hb=>by
  obtain ⟨d,_,_,e⟩:=hget_winH hb
  cases e;rfl
 refine ⟨fun i b hb=>?_,fun i b hb h0=>?_,fun i b hb h1=>?_,fun i b hb=>?_,fun i j hi=>?_,fun i b hb _=>?_,fun i j b hi=>?_⟩
 ·obtain ⟨d,_,_,e⟩:=hget_winH hb
  cases e
  intro c hc
  rcases List.mem_cons.1 hc with rfl | hc
  ·trivial
  ·rcases List.mem_cons.1 hc with rfl | hc
   ·rfl
   ·cases hc
 ·have:=h3 i b hb;omega
 ·have:=h3 i b hb;omega
 ·have:=h3 i b hb;omega
 ·obtain ⟨b,hb,hl⟩:=hi
  have:=h3 i b hb;omega
 ·obtain ⟨d,hd,e1,e⟩:=hget_winH hb
  cases e
  have hg:=h d hd
  refine ⟨d.arr,d.fr,by rw [e1];exact hg.row,?_,fun j hj=>?_⟩
  ·simp [cvals,Cell.vals,Sc.val]
  ·have hj:j < d.N:=by simpa [cvals,Cell.vals] using hj
   rw [vals_ws8 _ d.N d.f _ hj]
   exact hg.cells j hj
 ·obtain ⟨b,hb,hl⟩:=hi
  have:=h3 i b hb;omega
inductive Inst:List Sh->Nat->List AV->Heap->Prop
 | nil {k:Nat}:Inst [] k [] []
 | pl {v:AV} {r:List Sh} {k:Nat} {a:List AV} {W:Heap}:Inst r k a W->Inst (.pl v :: r) k (v :: a) W
 | vn {n:Nat} {f:Nat->Nat} {r:List Sh} {k:Nat} {a:List AV} {W:Heap} (o:Option Addr):n = 0->Inst r k a W->Inst (.vs n f :: r) k (emS o :: a) W
 | vv {n:Nat} {f:Nat->Nat} {r:List Sh} {k:Nat} {a:List AV} {W:Heap} (t off c:Nat) (v:WrapV):Inst r (k + 1) a W->Inst (.vs n f :: r) k (.v1 (.sc (.sl k off n c)) :: a) (wB t off n f v :: W)
 | cv {n c:Nat} {f:Nat->Nat} {r:List Sh} {k:Nat} {a:List AV} {W:Heap} (t off:Nat) (v:WrapV):Inst r (k + 1) a W->Inst (.vc n c f :: r) k (.v1 (.sc (.sl k off n c)) :: a) (wB t off c f v :: W)
theorem inst_of {w:World} {R:Nat->Prop}:∀ {l:List Sh} {xs:List Value},Sems w R l xs->∀ k,∃ a ds,Inst l k a (winH ds)/\(∀ d ∈ ds,d.Good w/\R d.B)/\(∀ x ∈ a,x.ok (fun i=>k <= i/\i < k + ds.length)) /\
  ∀ σ:Ren,(∀ j,j < ds.length->σ (k + j) = nthN (ds.map (·.B)) j)->a.map (AV.val σ) = xs
 | [],[],_,k=>⟨[],[],.nil,fun d hd=>(by cases hd),fun x hx=>(by cases hx),fun _ _=>rfl⟩
 | [],_ :: _,h,k=>h.elim
 | _ :: _,[],h,k=>h.elim
 | a0 :: r,x0 :: xs,hg,k=>by
  have one:∀ (a:List AV) (ds:List WinD) (d:WinD),(∀ d ∈ ds,d.Good w/\R d.B)->d.Good w->R d.B->(∀ x ∈ a,x.ok (fun i=>k + 1 <= i/\i < k + 1 + ds.length)) ->
    (∀ σ:Ren,(∀ j,j < ds.length->σ (k + 1 + j) = nthN (ds.map (·.B)) j)->a.map (AV.val σ) = xs) ->
    (∀ e ∈ d :: ds,e.Good w/\R e.B)/\(∀ x ∈ (AV.v1 (.sc (.sl k d.off d.n d.cap)) :: a),x.ok (fun i=>k <= i/\i < k + (d :: ds).length)) /\
    ∀ σ:Ren,(∀ j,j < (d :: ds).length->σ (k + j) = nthN ((d :: ds).map (·.B)) j)->(AV.v1 (.sc (.sl k d.off d.n d.cap)) :: a).map (AV.val σ) = d.val :: xs:=by
   intro a ds d h2 hd hR h3 h4
   refine ⟨fun e he=>?_,fun x hx=>?_,fun σ hσ=>?_⟩
   ·rcases List.mem_cons.1 he with rfl | he
    ·exact ⟨hd,hR⟩
    ·exact h2 e he
   ·rcases List.mem_cons.1 hx with rfl | hx
    ·exact ⟨Nat.le_refl _,by simp⟩
    ·exact AV.ok_mono (fun i hi=>⟨by omega,by simp only [List.length_cons];omega⟩) (h3 x hx)
   ·simp only [List.map_cons]
    rw [h4 σ fun j hj=>by
     have:=hσ (j + 1) (by simpa using hj)
     rw [show k + 1 + j = k + (j + 1) by omega,this];rfl]
    have:=hσ 0 (by simp)
    rw [Nat.add_zero] at this
    simp only [AV.val,V1.val,Sc.val,WinD.val,this,List.map_cons,nthN]
  cases a0 with
  | pl v =>
   obtain ⟨a,ds,h1,h2,h3,h4⟩:=inst_of (l:=r) (xs:=xs) hg.2 k
   obtain ⟨hv,rfl⟩:=hg.1
   refine ⟨v :: a,ds,.pl h1,h2,fun x hx=>?_,fun σ hσ=>?_⟩
   ·rcases List.mem_cons.1 hx with rfl | hx
    ·exact AV.ok_mono (fun _ h=>h.elim) (vok_of hv)
    ·exact h3 x hx
   ·simp only [List.map_cons]
    rw [h4 σ hσ,AV.val_agree (D:=fun _=>False) (ρ:=fun _=>0) (ρ':=σ) (fun _ h=>h.elim) (vok_of hv)]
  | vs n f =>
   rcases hg.1 with ⟨rfl,o,rfl⟩ | ⟨d,hd,hR,rfl,hN,rfl,rfl⟩
   ·obtain ⟨a,ds,h1,h2,h3,h4⟩:=inst_of (l:=r) (xs:=xs) hg.2 k
    refine ⟨emS o :: a,ds,.vn o rfl h1,h2,fun x hx=>?_,fun σ hσ=>?_⟩
    ·rcases List.mem_cons.1 hx with rfl | hx
     ·rfl
     ·exact h3 x hx
    ·simp only [List.map_cons]
     rw [h4 σ hσ];rfl
   ·obtain ⟨a,ds,h1,h2,h3,h4⟩:=inst_of (l:=r) (xs:=xs) hg.2 (k + 1)
    obtain ⟨k1,k2,k3⟩:=one a ds d h2 hd hR h3 h4
    refine ⟨_,d :: ds,?_,k1,k2,k3⟩
    have:=Inst.vv (n:=d.n) (f:=d.f) d.t d.off d.cap (d.arr,d.fr) h1
    rw [<-hN] at this ⊢
    simp only [winH,List.map_cons,WinD.blk]
    rw [hN] at this ⊢
    exact this
  | vc n c f =>
   obtain ⟨d,hd,hR,rfl,hN,hc,rfl,rfl⟩:=hg.1
   obtain ⟨a,ds,h1,h2,h3,h4⟩:=inst_of (l:=r) (xs:=xs) hg.2 (k + 1)
   obtain ⟨k1,k2,k3⟩:=one a ds d h2 hd hR h3 h4
   refine ⟨_,d :: ds,?_,k1,k2,k3⟩
   have:=Inst.cv (n:=d.n) (c:=c) (f:=d.f) d.t d.off (d.arr,d.fr) h1
   simp only [winH,List.map_cons,WinD.blk]
   rw [hN,hc]
   exact this
def VaOk (h:Heap):Sh->AV->Prop
 | .pl v,x=>x = v/\vokB v = true
 | .vs n f,x=>∃ pre,vw h x = some (n,f,pre)/\∀ p ∈ pre,p
 | .vc n c f,x=>∃ pre,vwc h x = some (n,c,f,pre)/\∀ p ∈ pre,p
def VasOk (h:Heap):List Sh->List AV->Prop
 | [],[]=>True
 | a :: r,x :: s=>VaOk h a x/\VasOk h r s
 | _,_=>False
theorem sems_of {ρ:Ren} {h:Heap} {w:World} (hr:RelH ρ h w):∀ {l:List Sh} {xs:List AV},VasOk h l xs->Sems w (fun B=>∃ i,Dm h i/\B = ρ i) l (xs.map (AV.val ρ))
 | [],[],_=>trivial
 | [],_ :: _,h=>h.elim
 | _ :: _,[],h=>h.elim
 | a :: r,x :: s,h=>by
  refine ⟨?_,sems_of hr h.2⟩
  have h1:=h.1
  cases a with
  | pl v=>obtain ⟨rfl,hv⟩:=h1;exact ⟨hv,AV.val_agree (D:=fun _=>False) (ρ:=fun _=>0) (ρ':=ρ) (fun _ h=>h.elim) (vok_of hv)⟩
  | vs n f=>obtain ⟨pre,e,hp⟩:=h1;exact vw_sem hr e hp
  | vc n c f=>obtain ⟨pre,e,hp⟩:=h1;exact vwc_sem hr e hp
theorem views_call {P:Program} {T:TT} (hT:TTOk P T) {f:FuncId} {fn:Func} (hf:P.funcs[f]? = some fn) (hb:fn.body = some (bodyOf fn)) (hn:(fn.name == "runtime.NumGoroutine") = false)
  (l:List Sh) {args:List AV} {h:Heap} (hg:VasOk h l args) (slot:Nat) (Bo:List Blk) (V0:AV)
  (hBo:Bo.all (fun b=>plainCs b.cells && Nat.blt b.lo 3) = true) (hBo2:heapB (Bo.map some) 0 (Bo.map some) = true) (hV:avB (Bo.map some) V0 = true)
  (hho:∀ t,t < Bo.length->isHole h (slot + t) = true)
  (hwalk:∀ a W,Inst l 0 a W->∃ outs:List Nat,outs.length = Bo.length/\AWqS P (Dm W) (flatC (bodyOf fn)) (FEndM T fn (upto 0 W.length ++ outs) (mvAV W.length V0) (W ++ Bo.map some)) ⟨frame0 a fn.ntmps,W⟩) :
  CallOk P f args h (mvAV slot V0) (fillH h slot Bo):=by
 intro ρ w hr _ o a next Q hnext
 obtain ⟨a',ds,h1,h2,h3,h4⟩:=inst_of (sems_of hr hg) 0
 obtain ⟨outs,h5,h6⟩:=hwalk a' (winH ds) h1
 have hlen:(winH ds).length = ds.length:=by simp [winH]
 refine view_core hT hf hb hn outs slot Bo V0 hr (RelH.wins fun d hd=>(h2 d hd).1) (fun i b hb=>?_) (fun i hi=>dm_winH (by omega)) (fun j hj=>?_)
  (h4 _ fun j hj=>by rw [Nat.zero_add]) (fun x hx=>AV.ok_mono (fun i hi=>dm_winH (by omega)) (h3 x hx)) hBo hBo2 hV h5 hho h6 o a next Q hnext
 ·obtain ⟨d,_,_,e⟩:=hget_winH hb
  cases e;exact .inl rfl
 ·obtain ⟨b,hb⟩:=hj
  obtain ⟨d,hd,e1,_⟩:=hget_winH hb
  obtain ⟨i,hi,e2⟩:=(h2 d hd).2
  exact ⟨i,hi,by rw [e1,e2]⟩
theorem new_of {P:Program} {f:FuncId} {C:List AV->Heap->Nat->Option (List Prop × AV × Heap)} (h:(CallC.mem C).Ok P f)
  (hk:∀ args h slot pre v h',C args h slot = some (pre,v,h')->∀ i,Dm h i->hget h' i = hget h i):(CallC.new C).Ok P f:=⟨h,hk⟩
theorem keep_hset {h:Heap} {s i:Nat} {b:Blk} (hs:isHole h s = true) (hi:Dm h i):hget (hset h s b) i = hget h i :=
 hget_hset_ne fun e=>by
  obtain ⟨c,hc⟩:=hi
  rw [e,(isHole_lt hs).2] at hc;cases hc
end Go.Rq
namespace Go.Proofs.YtnjocbcjejpklaaGreat
open Go.Rq Go
set_option maxRecDepth 100000
set_option linter.unusedVariables false
set_option linter.unusedSimpArgs false
set_option maxRecDepth 100000
abbrev endK (mc:List Nat) (K' K:Heap) (v vK:AV):Prop:=true = true/\true = true/\SimH K' K/\∃ v',some v = some v'/\avB K' (bkAV mc v') = true/\∀ ρ,(bkAV mc v').val ρ = vK.val ρ
def cHp:List AV->Option (List Prop × AV)
 | [.v1 (.sc (.str n f)),.v1 (.sc (.str m g))]=>some ([m <= n],.v1 (.sc (.bo (eqStr (m - 0) (fun j=>f (0 + j)) m g))))
 | _=>none
theorem ilt_ge {n m:Nat} (h:m <= n):(!ilt (Int.ofNat n) (Int.ofNat m)) = true:=by rw [ilt_not (by simp only [Int.ofNat_eq_natCast];omega)];rfl
theorem okHpI:(CallC.pure cHp).Ok Tryz.prog 134:=by
 intro args pre v e hp
 unfold cHp at e
 split at e
 rotate_left
 ·cases e
 rename_i n f m g
 cases e
 have h:m <= n:=hp (m <= n) (by simp)
 refine pure_walk' tt_ok Tryz.func134 (by kernel_rfl) (by kernel_rfl) (by rfl) (by rfl) ?_
 refine evS_q mixed tt_ok (G:=ctxL []) ctxL_nil 60 [⟨1,5,.lit (.bo true)⟩,⟨1,9,.sym⟩] (same (p:=(!ilt (Int.ofNat n) (Int.ofNat m)) = true/\0 <= Int.ofNat m/\Int.ofNat m < ((n + 1:Nat):Int)/\endN (.v1 (.sc (.bo (eqStr (m - 0) (fun j=>f (0 + j)) m g)))) (.v1 (.sc (.bo (eqStr (m - 0) (fun j=>f (0 + j)) m g))))) ?_ (by kernel_rfl))
 exact ⟨ilt_ge h,by simp,by simp only [Int.ofNat_eq_natCast];omega,_,rfl,fun _=>rfl⟩
def GHp:Ctx:=ctxL [(134,.pure cHp)]
theorem GHp_ok:CtxOk Tryz.prog GHp:=ctxL_cons okHpI ctxL_nil
theorem okHp:(CallC.pure cHp).Ok Tryz.prog 73:=by
 intro args pre v e hp
 unfold cHp at e
 split at e
 rotate_left
 ·cases e
 rename_i n f m g
 cases e
 have h:m <= n:=hp (m <= n) (by simp)
 refine pure_walk' tt_ok Tryz.func73 (by kernel_rfl) (by kernel_rfl) (by rfl) (by rfl) ?_
 refine evS_q mixed tt_ok GHp_ok 60 [] (same (p:=m <= n/\endN (.v1 (.sc (.bo (eqStr (m - 0) (fun j=>f (0 + j)) m g)))) (.v1 (.sc (.bo (eqStr (m - 0) (fun j=>f (0 + j)) m g))))) ?_ (by kernel_rfl))
 exact ⟨h,_,rfl,fun _=>rfl⟩
def dgB (b:ByteArray):Cell:=.one (.str 16 (byteAt b))
def digL:List Cell:=[dgB ⟨#[49,49,54,49,57,98,52,53,102,54,49,101,100,102,101,51]⟩,dgB ⟨#[49,53,51,99,101,49,52,97,55,54,97,53,51,101,50,48]⟩,dgB ⟨#[49,101,99,102,99,102,51,49,99,56,54,50,53,55,97,98]⟩,dgB ⟨#[56,56,57,48,55,50,54,55,52,51,97,49,102,57,52,97]⟩,dgB ⟨#[57,53,54,54,56,102,98,52,97,48,50,102,101,57,51,48]⟩,dgB ⟨#[49,54,100,101,101,100,97,97,54,56,51,49,50,52,102,101]⟩,dgB ⟨#[101,54,49,99,55,53,50,52,49,52,99,97,53,100,102,100]⟩,dgB ⟨#[102,101,54,51,102,49,56,53,102,53,54,100,100,50,57,49]⟩,dgB ⟨#[57,99,57,50,99,102,48,50,102,51,99,100,51,100,50,102]⟩,dgB ⟨#[49,49,49,48,54,49,102,51,57,56,101,102,99,50,97,57]⟩,dgB ⟨#[49,48,57,48,48,51,51,56,97,57,50,101,100,48,98,52]⟩,dgB ⟨#[49,52,53,52,56,49,52,102,51,48,56,53,102,48,101,54]⟩]
def digB:Blk:=⟨9,digL,0,0⟩
def cDig:List AV->Heap->Nat->Option (List Prop × AV × Heap)
 | [],h,slot=>match isHole h slot with
  | true=>some ([],.v1 (.sc (.sl slot 0 12 12)),hset h slot digB)
  | false=>none
 | _,_,_=>none
theorem okDig:(CallC.new cDig).Ok Tryz.prog 72:=by
 refine new_of ?_ ?_
 ·intro args h slot pre v h' e hp
  unfold cDig at e
  split at e
  rotate_left
  ·cases e
  split at e
  rotate_left
  ·cases e
  rename_i hh
  cases e
  refine views_call tt_ok Tryz.func72 (by kernel_rfl) (by kernel_rfl) [] (args:=[]) trivial slot [digB] (.v1 (.sc (.sl 0 0 12 12))) rfl rfl rfl (fun t ht=>by
   have:t = 0:=by simp at ht;omega
   subst this;exact hh) fun a W hi=>⟨[0],rfl,?_⟩
  cases hi
  refine evS_q mixed tt_ok (G:=ctxL []) ctxL_nil 60 [] (same (p:=endK [0] [some digB] [some digB] (.v1 (.sc (.sl 0 0 12 12))) (.v1 (.sc (.sl 0 0 12 12)))) ?_ (by kernel_rfl))
  exact ⟨rfl,rfl,⟨⟨rfl,rfl,rfl,fun _=>rfl⟩,trivial⟩,_,rfl,rfl,fun _=>rfl⟩
 ·intro args h slot pre v h' e i hi
  unfold cDig at e
  split at e
  rotate_left
  ·cases e
  split at e
  rotate_left
  ·cases e
  rename_i hh
  cases e
  exact keep_hset hh hi
theorem g1_in:(lo1 (vF (ofN gx)) (vF (ofN gy)) && isE (vF (ofN gx)) (vF (ofN gy)) false) = true/\ptE (vF (ofN gx)) (vF (ofN gy)) false = Go.Rq.g1:=inE_of (R:=⟨ofN gx,ofN gy,false⟩) (X:=Go.Rq.g1) rfl ⟨g1_on,g1_ord⟩
theorem g2_in:(lo2 (vF (ofN hx.1)) (vF (ofN hx.2)) (vF (ofN hy.1)) (vF (ofN hy.2)) && isQ (vF (ofN hx.1)) (vF (ofN hx.2)) (vF (ofN hy.1)) (vF (ofN hy.2)) false) = true/\ptQ (vF (ofN hx.1)) (vF (ofN hx.2)) (vF (ofN hy.1)) (vF (ofN hy.2)) false = Go.Rq.g2:=inQ_of (R:=⟨qv hx,qv hy,false⟩) (X:=Go.Rq.g2) rfl G2s_g2
theorem pairG:(prS (vF (ofN gx)) (vF (ofN gy)) (vF (ofN hx.1)) (vF (ofN hx.2)) (vF (ofN hy.1)) (vF (ofN hy.2)) false false) = vN12 eN:=by rw [prS_val g1_in.1 g2_in.1,g1_in.2,g2_in.2];exact eP_gen
theorem pairGI:(prI (vF (ofN gx)) (vF (ofN gy)) (vF (ofN hx.1)) (vF (ofN hx.2)) (vF (ofN hy.1)) (vF (ofN hy.2)) false false) = 0:=prI_val g1_in.1 g2_in.1
theorem asP_eq {s t:S12} (h:s = t):asP [.ws .u64 6 (vF s.p.u.x),.ws .u64 6 (vF s.p.u.y),.ws .u64 6 (vF s.q.u.x),.ws .u64 6 (vF s.q.u.y),.ws .u64 6 (vF s.p.v.x),.ws .u64 6 (vF s.p.v.y),.ws .u64 6 (vF s.q.v.x),.ws .u64 6 (vF s.q.v.y),.ws .u64 6 (vF s.p.w.x),.ws .u64 6 (vF s.p.w.y),.ws .u64 6 (vF s.q.w.x),.ws .u64 6 (vF s.q.w.y)] [.ws .u64 6 (vF t.p.u.x),.ws .u64 6 (vF t.p.u.y),.ws .u64 6 (vF t.q.u.x),.ws .u64 6 (vF t.q.u.y),.ws .u64 6 (vF t.p.v.x),.ws .u64 6 (vF t.p.v.y),.ws .u64 6 (vF t.q.v.x),.ws .u64 6 (vF t.q.v.y),.ws .u64 6 (vF t.p.w.x),.ws .u64 6 (vF t.p.w.y),.ws .u64 6 (vF t.q.w.x),.ws .u64 6 (vF t.q.w.y)]:=by subst h;exact fun _=>rfl
def GTd:Ctx:=ctxL [(30,.pure (cGen gen1V)),(27,.pure (cGen gen2V)),(7,.pure cPair),(72,.new cDig),(74,.pure cText),(73,.pure cHp)]
theorem GTd_ok:CtxOk Tryz.prog GTd:=ctxL_cons okGen1 <| ctxL_cons okGen2 <| ctxL_cons okPair <| ctxL_cons okDig <| ctxL_cons okText <| ctxL_cons okHp ctxL_nil
theorem okTold:(CallC.pure (cGen (.v1 (.sc (.bo true))))).Ok Tryz.prog 31:=by
 intro args pre v e hp
 unfold cGen at e
 split at e
 rotate_left
 ·cases e
 cases e
 refine pure_walk' tt_ok Tryz.func31 (by kernel_rfl) (by kernel_rfl) (by rfl) (by rfl) ?_
 refine evS_q mixed tt_ok GTd_ok 300 [⟨1,4,.as [.ws .u64 6 (vF (vN12 eN).p.u.x),.ws .u64 6 (vF (vN12 eN).p.u.y),.ws .u64 6 (vF (vN12 eN).q.u.x),.ws .u64 6 (vF (vN12 eN).q.u.y),.ws .u64 6 (vF (vN12 eN).p.v.x),.ws .u64 6 (vF (vN12 eN).p.v.y),.ws .u64 6 (vF (vN12 eN).q.v.x),.ws .u64 6 (vF (vN12 eN).q.v.y),.ws .u64 6 (vF (vN12 eN).p.w.x),.ws .u64 6 (vF (vN12 eN).p.w.y),.ws .u64 6 (vF (vN12 eN).q.w.x),.ws .u64 6 (vF (vN12 eN).q.w.y)]⟩] ?_
 refine same (p:=asP [.ws .u64 6 (vF (prS (vF (ofN gx)) (vF (ofN gy)) (vF (ofN hx.1)) (vF (ofN hx.2)) (vF (ofN hy.1)) (vF (ofN hy.2)) false false).p.u.x),.ws .u64 6 (vF (prS (vF (ofN gx)) (vF (ofN gy)) (vF (ofN hx.1)) (vF (ofN hx.2)) (vF (ofN hy.1)) (vF (ofN hy.2)) false false).p.u.y),.ws .u64 6 (vF (prS (vF (ofN gx)) (vF (ofN gy)) (vF (ofN hx.1)) (vF (ofN hx.2)) (vF (ofN hy.1)) (vF (ofN hy.2)) false false).q.u.x),.ws .u64 6 (vF (prS (vF (ofN gx)) (vF (ofN gy)) (vF (ofN hx.1)) (vF (ofN hx.2)) (vF (ofN hy.1)) (vF (ofN hy.2)) false false).q.u.y),.ws .u64 6 (vF (prS (vF (ofN gx)) (vF (ofN gy)) (vF (ofN hx.1)) (vF (ofN hx.2)) (vF (ofN hy.1)) (vF (ofN hy.2)) false false).p.v.x),.ws .u64 6 (vF (prS (vF (ofN gx)) (vF (ofN gy)) (vF (ofN hx.1)) (vF (ofN hx.2)) (vF (ofN hy.1)) (vF (ofN hy.2)) false false).p.v.y),.ws .u64 6 (vF (prS (vF (ofN gx)) (vF (ofN gy)) (vF (ofN hx.1)) (vF (ofN hx.2)) (vF (ofN hy.1)) (vF (ofN hy.2)) false false).q.v.x),.ws .u64 6 (vF (prS (vF (ofN gx)) (vF (ofN gy)) (vF (ofN hx.1)) (vF (ofN hx.2)) (vF (ofN hy.1)) (vF (ofN hy.2)) false false).q.v.y),.ws .u64 6 (vF (prS (vF (ofN gx)) (vF (ofN gy)) (vF (ofN hx.1)) (vF (ofN hx.2)) (vF (ofN hy.1)) (vF (ofN hy.2)) false false).p.w.x),.ws .u64 6 (vF (prS (vF (ofN gx)) (vF (ofN gy)) (vF (ofN hx.1)) (vF (ofN hx.2)) (vF (ofN hy.1)) (vF (ofN hy.2)) false false).p.w.y),.ws .u64 6 (vF (prS (vF (ofN gx)) (vF (ofN gy)) (vF (ofN hx.1)) (vF (ofN hx.2)) (vF (ofN hy.1)) (vF (ofN hy.2)) false false).q.w.x),.ws .u64 6 (vF (prS (vF (ofN gx)) (vF (ofN gy)) (vF (ofN hx.1)) (vF (ofN hx.2)) (vF (ofN hy.1)) (vF (ofN hy.2)) false false).q.w.y)] [.ws .u64 6 (vF (vN12 eN).p.u.x),.ws .u64 6 (vF (vN12 eN).p.u.y),.ws .u64 6 (vF (vN12 eN).q.u.x),.ws .u64 6 (vF (vN12 eN).q.u.y),.ws .u64 6 (vF (vN12 eN).p.v.x),.ws .u64 6 (vF (vN12 eN).p.v.y),.ws .u64 6 (vF (vN12 eN).q.v.x),.ws .u64 6 (vF (vN12 eN).q.v.y),.ws .u64 6 (vF (vN12 eN).p.w.x),.ws .u64 6 (vF (vN12 eN).p.w.y),.ws .u64 6 (vF (vN12 eN).q.w.x),.ws .u64 6 (vF (vN12 eN).q.w.y)]/\16 <= tLen (nv (vF (vN12 eN).p.u.x))/\16 <= tLen (nv (vF (vN12 eN).p.u.y))/\16 <= tLen (nv (vF (vN12 eN).q.u.x))/\16 <= tLen (nv (vF (vN12 eN).q.u.y))/\16 <= tLen (nv (vF (vN12 eN).p.v.x))/\16 <= tLen (nv (vF (vN12 eN).p.v.y))/\16 <= tLen (nv (vF (vN12 eN).q.v.x))/\16 <= tLen (nv (vF (vN12 eN).q.v.y))/\16 <= tLen (nv (vF (vN12 eN).p.w.x))/\16 <= tLen (nv (vF (vN12 eN).p.w.y))/\16 <= tLen (nv (vF (vN12 eN).q.w.x))/\16 <= tLen (nv (vF (vN12 eN).q.w.y))/\endN (.v1 (.sc (.bo (ieq (prI (vF (ofN gx)) (vF (ofN gy)) (vF (ofN hx.1)) (vF (ofN hx.2)) (vF (ofN hy.1)) (vF (ofN hy.2)) false false) 0)))) (.v1 (.sc (.bo true)))) ?_ (by kernel_rfl)
 exact ⟨asP_eq pairG,by decide +kernel,by decide +kernel,by decide +kernel,by decide +kernel,by decide +kernel,by decide +kernel,by decide +kernel,by decide +kernel,by decide +kernel,by decide +kernel,by decide +kernel,by decide +kernel,endB (by rw [pairGI];rfl)⟩
end Go.Proofs.YtnjocbcjejpklaaGreat
namespace Go.Proofs.YtnjocbcjejpklaaGreat
open Go.Rq Go
set_option maxRecDepth 100000
set_option linter.unusedVariables false
set_option linter.unusedSimpArgs false
set_option maxHeartbeats 4000000
set_option maxRecDepth 100000
theorem asS {u t:S12} (h:u = t):asP [.ws .u64 6 (eF (u).p.u.x),.ws .u64 6 (eF (u).p.u.y),.ws .u64 6 (eF (u).q.u.x),.ws .u64 6 (eF (u).q.u.y),.ws .u64 6 (eF (u).p.v.x),.ws .u64 6 (eF (u).p.v.y),.ws .u64 6 (eF (u).q.v.x),.ws .u64 6 (eF (u).q.v.y),.ws .u64 6 (eF (u).p.w.x),.ws .u64 6 (eF (u).p.w.y),.ws .u64 6 (eF (u).q.w.x),.ws .u64 6 (eF (u).q.w.y)] [.ws .u64 6 (eF (t).p.u.x),.ws .u64 6 (eF (t).p.u.y),.ws .u64 6 (eF (t).q.u.x),.ws .u64 6 (eF (t).q.u.y),.ws .u64 6 (eF (t).p.v.x),.ws .u64 6 (eF (t).p.v.y),.ws .u64 6 (eF (t).q.v.x),.ws .u64 6 (eF (t).q.v.y),.ws .u64 6 (eF (t).p.w.x),.ws .u64 6 (eF (t).p.w.y),.ws .u64 6 (eF (t).q.w.x),.ws .u64 6 (eF (t).q.w.y)]:=by subst h;exact fun _=>rfl
def cNeg:List AV->Option (List Prop × AV)
 | [.v1 (.agg cs),.v1 (.agg [.ws .u64 6 x,.ws .u64 6 y,.one (.bo z)])]=>some ([cs = fdE,nv y < pN],.v1 (.agg [.ws .u64 6 x,.ws .u64 6 (eF (eSub (dF (fun _=>0)) (dF y))),.one (.bo z)]))
 | _=>none
theorem okNegE:(CallC.pure cNeg).Ok Tryz.prog 71:=by
 intro args pre v e hp
 unfold cNeg at e
 split at e
 rotate_left
 ·cases e
 rename_i cs x y z
 cases e
 have hcs:cs = fdE:=hp _ (List.mem_cons_self ..)
 subst hcs
 have hy:nv y < pN:=hp (nv y < pN) (by simp)
 refine pure_walk' tt_ok Tryz.func71 (by kernel_rfl) (by kernel_rfl) (by rfl) (by rfl) ?_
 refine evS_q mixed tt_ok GCE_ok 100 [] (same (p:=nv (fun _=>0) < pN/\nv y < pN/\endN (.v1 (.agg [.ws .u64 6 x,.ws .u64 6 (eF (eSub (dF (fun _=>0)) (dF y))),.one (.bo z)])) (.v1 (.agg [.ws .u64 6 x,.ws .u64 6 (eF (eSub (dF (fun _=>0)) (dF y))),.one (.bo z)]))) ?_ (by kernel_rfl))
 exact ⟨lt_zero,hy,_,rfl,fun _=>rfl⟩
def GCk:Ctx:=ctxL [(50,.pure cLo1),(51,.pure (cFld fdE)),(53,.pure cI1),(106,.pure onCE)]
theorem GCk_ok:CtxOk Tryz.prog GCk:=ctxL_cons okLo1 <| ctxL_cons okFirst <| ctxL_cons okI1 <| ctxL_cons okOnE ctxL_nil
def cCk1:List AV->Option (List Prop × AV)
 | [.v1 (.agg [.ws .u64 6 x,.ws .u64 6 y,.one (.bo z)])]=>some ([lo1 x y = true],.v1 (.sc (.bo (A2.on fourE (⟨dF (eF (gN x)),dF (eF (gN y)),z⟩:A2 Fp)))))
 | _=>none
theorem okCk1:(CallC.pure cCk1).Ok Tryz.prog 69:=by
 intro args pre v e hp
 unfold cCk1 at e
 split at e
 rotate_left
 ·cases e
 rename_i x y z
 cases e
 have hl:lo1 x y = true:=hp (lo1 x y = true) (by simp)
 refine pure_walk' tt_ok Tryz.func69 (by kernel_rfl) (by kernel_rfl) (by rfl) (by rfl) ?_
 refine evS_q mixed tt_ok GCk_ok 100 [⟨1,2,.lit (.bo true)⟩] (same (p:=lo1 x y = true/\fdE = fdE/\nv (eF (gN x)) < pN/\nv (eF (gN y)) < pN/\endN (.v1 (.sc (.bo (A2.on fourE (⟨dF (eF (gN x)),dF (eF (gN y)),z⟩:A2 Fp))))) (.v1 (.sc (.bo (A2.on fourE (⟨dF (eF (gN x)),dF (eF (gN y)),z⟩:A2 Fp)))))) ?_ (by kernel_rfl))
 exact ⟨hl,rfl,lt_eF _,lt_eF _,_,rfl,fun _=>rfl⟩
def GNg:Ctx:=ctxL [(69,.pure cCk1),(51,.pure (cFld fdE)),(53,.pure cI1),(71,.pure cNeg),(70,.pure cOut1)]
theorem GNg_ok:CtxOk Tryz.prog GNg:=ctxL_cons okCk1 <| ctxL_cons okFirst <| ctxL_cons okI1 <| ctxL_cons okNegE <| ctxL_cons okOut1 ctxL_nil
def ngV (x y:Nat->Nat) (z:Bool):AV:=.tup [.agg [.ws .u64 6 (vF (gN x)),.ws .u64 6 (vF (0 - gN y)),.one (.bo z)],.sc (.it 0)]
def cNeg1:List AV->Option (List Prop × AV)
 | [.v1 (.agg [.ws .u64 6 x,.ws .u64 6 y,.one (.bo z)])]=>some ([lo1 x y = true,A2.on fourE (⟨gN x,gN y,z⟩:A2 Fp) = true],ngV x y z)
 | _=>none
theorem ng_eq (x y:Nat->Nat):dF (eF (gN x)) = gN x/\dF (eF (eSub (dF (fun _=>0)) (dF (eF (gN y))))) = 0 - gN y:=by rw [dF_eF,dF_eF,dF_eF,dF_0];exact ⟨rfl,rfl⟩
theorem okNeg1:(CallC.pure cNeg1).Ok Tryz.prog 29:=by
 intro args pre v e hp
 unfold cNeg1 at e
 split at e
 rotate_left
 ·cases e
 rename_i x y z
 cases e
 have hl:lo1 x y = true:=hp (lo1 x y = true) (by simp)
 have ho:A2.on fourE (⟨gN x,gN y,z⟩:A2 Fp) = true:=hp (A2.on fourE (⟨gN x,gN y,z⟩:A2 Fp) = true) (by simp)
 have ho':A2.on fourE (⟨dF (eF (gN x)),dF (eF (gN y)),z⟩:A2 Fp) = true:=by rw [dF_eF,dF_eF];exact ho
 refine pure_walk' tt_ok Tryz.func29 (by kernel_rfl) (by kernel_rfl) (by rfl) (by rfl) ?_
 refine evS_q mixed tt_ok GNg_ok 100 [⟨1,2,.lit (.bo false)⟩] (same (p:=lo1 x y = true/\(!(A2.on fourE (⟨dF (eF (gN x)),dF (eF (gN y)),z⟩:A2 Fp))) = false/\fdE = fdE/\nv (eF (gN y)) < pN/\nv (eF (gN x)) < pN/\nv (eF (eSub (dF (fun _=>0)) (dF (eF (gN y))))) < pN/\endN (.tup [.agg [.ws .u64 6 (vF (dF (eF (gN x)))),.ws .u64 6 (vF (dF (eF (eSub (dF (fun _=>0)) (dF (eF (gN y))))))),.one (.bo z)],.sc (.it 0)]) (ngV x y z)) ?_ (by kernel_rfl))
 exact ⟨hl,by rw [ho'];rfl,rfl,lt_eF _,lt_eF _,lt_eF _,by rw [(ng_eq x y).1,(ng_eq x y).2];exact ⟨_,rfl,fun _=>rfl⟩⟩
theorem pr_two {b c:Nat} (hbc:Nat.beq b c = false) {ax ay bx bX c0 c1 c2 c3 e0 e1 e2 e3:Nat->Nat} {y1 y2:TypeId} {h:Heap} (g1:hget h b = some ⟨y1,[.ws .u64 6 ax,.ws .u64 6 ay,.one (.bo false),.ws .u64 6 bx,.ws .u64 6 bX,.one (.bo false)],0,0⟩) (g2:hget h c = some ⟨y2,[.ws .u64 6 c0,.ws .u64 6 c1,.ws .u64 6 c2,.ws .u64 6 c3,.one (.bo false),.ws .u64 6 e0,.ws .u64 6 e1,.ws .u64 6 e2,.ws .u64 6 e3,.one (.bo false)],0,0⟩) (ha:(lo1 ax ay && isE ax ay false) = true) (hb:(lo1 bx bX && isE bx bX false) = true) (hc:(lo2 c0 c1 c2 c3 && isQ c0 c1 c2 c3 false) = true) (hd:(lo2 e0 e1 e2 e3 && isQ e0 e1 e2 e3 false) = true) :
  CallOk Tryz.prog 28 ([] ++ [.v1 (.sc (.sl b 0 2 2)),.v1 (.sc (.sl c 0 2 2))]) h (.tup [n12 (lastS (S12.mul (S12.mul 1 (walkS (gN ax) (gN ay) ⟨gN c0,gN c1⟩ ⟨gN c2,gN c3⟩)) (walkS (gN bx) (gN bX) ⟨gN e0,gN e1⟩ ⟨gN e2,gN e3⟩))),.sc (.it 0)]) h:=by
 refine rd_slsl tt_ok Tryz.func28 (by kernel_rfl) (by kernel_rfl) (pre:=[]) rfl rfl hbc g1 g2 rfl rfl rfl rfl ?_
 obtain ⟨t1,ht1⟩:∃ q_:S12,q_ = walkS (gN ax) (gN ay) ⟨gN c0,gN c1⟩ ⟨gN c2,gN c3⟩:=⟨_,rfl⟩
 obtain ⟨t2,ht2⟩:∃ q_:S12,q_ = S12.mul 1 t1:=⟨_,rfl⟩
 obtain ⟨t3,ht3⟩:∃ q_:S12,q_ = walkS (gN bx) (gN bX) ⟨gN e0,gN e1⟩ ⟨gN e2,gN e3⟩:=⟨_,rfl⟩
 obtain ⟨t4,ht4⟩:∃ q_:S12,q_ = S12.mul t2 t3:=⟨_,rfl⟩
 obtain ⟨t5,ht5⟩:∃ q_:S12,q_ = lastS t4:=⟨_,rfl⟩
 refine evS_q mixed tt_ok GPr_ok 300 [⟨6,5,.lit (.bo false)⟩,⟨6,12,.lit (.bo false)⟩,⟨6,5,.lit (.bo false)⟩,⟨6,12,.lit (.bo false)⟩,⟨14,9,.as [.ws .u64 6 (eF (t1).p.u.x),.ws .u64 6 (eF (t1).p.u.y),.ws .u64 6 (eF (t1).q.u.x),.ws .u64 6 (eF (t1).q.u.y),.ws .u64 6 (eF (t1).p.v.x),.ws .u64 6 (eF (t1).p.v.y),.ws .u64 6 (eF (t1).q.v.x),.ws .u64 6 (eF (t1).q.v.y),.ws .u64 6 (eF (t1).p.w.x),.ws .u64 6 (eF (t1).p.w.y),.ws .u64 6 (eF (t1).q.w.x),.ws .u64 6 (eF (t1).q.w.y)]⟩,⟨14,10,.as [.ws .u64 6 (eF (t2).p.u.x),.ws .u64 6 (eF (t2).p.u.y),.ws .u64 6 (eF (t2).q.u.x),.ws .u64 6 (eF (t2).q.u.y),.ws .u64 6 (eF (t2).p.v.x),.ws .u64 6 (eF (t2).p.v.y),.ws .u64 6 (eF (t2).q.v.x),.ws .u64 6 (eF (t2).q.v.y),.ws .u64 6 (eF (t2).p.w.x),.ws .u64 6 (eF (t2).p.w.y),.ws .u64 6 (eF (t2).q.w.x),.ws .u64 6 (eF (t2).q.w.y)]⟩,⟨14,9,.as [.ws .u64 6 (eF (t3).p.u.x),.ws .u64 6 (eF (t3).p.u.y),.ws .u64 6 (eF (t3).q.u.x),.ws .u64 6 (eF (t3).q.u.y),.ws .u64 6 (eF (t3).p.v.x),.ws .u64 6 (eF (t3).p.v.y),.ws .u64 6 (eF (t3).q.v.x),.ws .u64 6 (eF (t3).q.v.y),.ws .u64 6 (eF (t3).p.w.x),.ws .u64 6 (eF (t3).p.w.y),.ws .u64 6 (eF (t3).q.w.x),.ws .u64 6 (eF (t3).q.w.y)]⟩,⟨14,10,.as [.ws .u64 6 (eF (t4).p.u.x),.ws .u64 6 (eF (t4).p.u.y),.ws .u64 6 (eF (t4).q.u.x),.ws .u64 6 (eF (t4).q.u.y),.ws .u64 6 (eF (t4).p.v.x),.ws .u64 6 (eF (t4).p.v.y),.ws .u64 6 (eF (t4).q.v.x),.ws .u64 6 (eF (t4).q.v.y),.ws .u64 6 (eF (t4).p.w.x),.ws .u64 6 (eF (t4).p.w.y),.ws .u64 6 (eF (t4).q.w.x),.ws .u64 6 (eF (t4).q.w.y)]⟩,⟨16,1,.as [.ws .u64 6 (eF (t5).p.u.x),.ws .u64 6 (eF (t5).p.u.y),.ws .u64 6 (eF (t5).q.u.x),.ws .u64 6 (eF (t5).q.u.y),.ws .u64 6 (eF (t5).p.v.x),.ws .u64 6 (eF (t5).p.v.y),.ws .u64 6 (eF (t5).q.v.x),.ws .u64 6 (eF (t5).q.v.y),.ws .u64 6 (eF (t5).p.w.x),.ws .u64 6 (eF (t5).p.w.y),.ws .u64 6 (eF (t5).q.w.x),.ws .u64 6 (eF (t5).q.w.y)]⟩] ?_
 refine same (p:=(!(lo1 ax ay && isE ax ay false)) = false/\(!(lo2 c0 c1 c2 c3 && isQ c0 c1 c2 c3 false)) = false/\(!(lo1 bx bX && isE bx bX false)) = false/\(!(lo2 e0 e1 e2 e3 && isQ e0 e1 e2 e3 false)) = false/\asP [.ws .u64 6 (eF (walkS (gN ax) (gN ay) ⟨gN c0,gN c1⟩ ⟨gN c2,gN c3⟩).p.u.x),.ws .u64 6 (eF (walkS (gN ax) (gN ay) ⟨gN c0,gN c1⟩ ⟨gN c2,gN c3⟩).p.u.y),.ws .u64 6 (eF (walkS (gN ax) (gN ay) ⟨gN c0,gN c1⟩ ⟨gN c2,gN c3⟩).q.u.x),.ws .u64 6 (eF (walkS (gN ax) (gN ay) ⟨gN c0,gN c1⟩ ⟨gN c2,gN c3⟩).q.u.y),.ws .u64 6 (eF (walkS (gN ax) (gN ay) ⟨gN c0,gN c1⟩ ⟨gN c2,gN c3⟩).p.v.x),.ws .u64 6 (eF (walkS (gN ax) (gN ay) ⟨gN c0,gN c1⟩ ⟨gN c2,gN c3⟩).p.v.y),.ws .u64 6 (eF (walkS (gN ax) (gN ay) ⟨gN c0,gN c1⟩ ⟨gN c2,gN c3⟩).q.v.x),.ws .u64 6 (eF (walkS (gN ax) (gN ay) ⟨gN c0,gN c1⟩ ⟨gN c2,gN c3⟩).q.v.y),.ws .u64 6 (eF (walkS (gN ax) (gN ay) ⟨gN c0,gN c1⟩ ⟨gN c2,gN c3⟩).p.w.x),.ws .u64 6 (eF (walkS (gN ax) (gN ay) ⟨gN c0,gN c1⟩ ⟨gN c2,gN c3⟩).p.w.y),.ws .u64 6 (eF (walkS (gN ax) (gN ay) ⟨gN c0,gN c1⟩ ⟨gN c2,gN c3⟩).q.w.x),.ws .u64 6 (eF (walkS (gN ax) (gN ay) ⟨gN c0,gN c1⟩ ⟨gN c2,gN c3⟩).q.w.y)] [.ws .u64 6 (eF (t1).p.u.x),.ws .u64 6 (eF (t1).p.u.y),.ws .u64 6 (eF (t1).q.u.x),.ws .u64 6 (eF (t1).q.u.y),.ws .u64 6 (eF (t1).p.v.x),.ws .u64 6 (eF (t1).p.v.y),.ws .u64 6 (eF (t1).q.v.x),.ws .u64 6 (eF (t1).q.v.y),.ws .u64 6 (eF (t1).p.w.x),.ws .u64 6 (eF (t1).p.w.y),.ws .u64 6 (eF (t1).q.w.x),.ws .u64 6 (eF (t1).q.w.y)]/\asP [.ws .u64 6 (eF (S12.mul (d12 oneF (fun _=>0) (fun _=>0) (fun _=>0) (fun _=>0) (fun _=>0) (fun _=>0) (fun _=>0) (fun _=>0) (fun _=>0) (fun _=>0) (fun _=>0)) (d12 (eF (t1).p.u.x) (eF (t1).p.u.y) (eF (t1).q.u.x) (eF (t1).q.u.y) (eF (t1).p.v.x) (eF (t1).p.v.y) (eF (t1).q.v.x) (eF (t1).q.v.y) (eF (t1).p.w.x) (eF (t1).p.w.y) (eF (t1).q.w.x) (eF (t1).q.w.y))).p.u.x),.ws .u64 6 (eF (S12.mul (d12 oneF (fun _=>0) (fun _=>0) (fun _=>0) (fun _=>0) (fun _=>0) (fun _=>0) (fun _=>0) (fun _=>0) (fun _=>0) (fun _=>0) (fun _=>0)) (d12 (eF (t1).p.u.x) (eF (t1).p.u.y) (eF (t1).q.u.x) (eF (t1).q.u.y) (eF (t1).p.v.x) (eF (t1).p.v.y) (eF (t1).q.v.x) (eF (t1).q.v.y) (eF (t1).p.w.x) (eF (t1).p.w.y) (eF (t1).q.w.x) (eF (t1).q.w.y))).p.u.y),.ws .u64 6 (eF (S12.mul (d12 oneF (fun _=>0) (fun _=>0) (fun _=>0) (fun _=>0) (fun _=>0) (fun _=>0) (fun _=>0) (fun _=>0) (fun _=>0) (fun _=>0) (fun _=>0)) (d12 (eF (t1).p.u.x) (eF (t1).p.u.y) (eF (t1).q.u.x) (eF (t1).q.u.y) (eF (t1).p.v.x) (eF (t1).p.v.y) (eF (t1).q.v.x) (eF (t1).q.v.y) (eF (t1).p.w.x) (eF (t1).p.w.y) (eF (t1).q.w.x) (eF (t1).q.w.y))).q.u.x),.ws .u64 6 (eF (S12.mul (d12 oneF (fun _=>0) (fun _=>0) (fun _=>0) (fun _=>0) (fun _=>0) (fun _=>0) (fun _=>0) (fun _=>0) (fun _=>0) (fun _=>0) (fun _=>0)) (d12 (eF (t1).p.u.x) (eF (t1).p.u.y) (eF (t1).q.u.x) (eF (t1).q.u.y) (eF (t1).p.v.x) (eF (t1).p.v.y) (eF (t1).q.v.x) (eF (t1).q.v.y) (eF (t1).p.w.x) (eF (t1).p.w.y) (eF (t1).q.w.x) (eF (t1).q.w.y))).q.u.y),.ws .u64 6 (eF (S12.mul (d12 oneF (fun _=>0) (fun _=>0) (fun _=>0) (fun _=>0) (fun _=>0) (fun _=>0) (fun _=>0) (fun _=>0) (fun _=>0) (fun _=>0) (fun _=>0)) (d12 (eF (t1).p.u.x) (eF (t1).p.u.y) (eF (t1).q.u.x) (eF (t1).q.u.y) (eF (t1).p.v.x) (eF (t1).p.v.y) (eF (t1).q.v.x) (eF (t1).q.v.y) (eF (t1).p.w.x) (eF (t1).p.w.y) (eF (t1).q.w.x) (eF (t1).q.w.y))).p.v.x),.ws .u64 6 (eF (S12.mul (d12 oneF (fun _=>0) (fun _=>0) (fun _=>0) (fun _=>0) (fun _=>0) (fun _=>0) (fun _=>0) (fun _=>0) (fun _=>0) (fun _=>0) (fun _=>0)) (d12 (eF (t1).p.u.x) (eF (t1).p.u.y) (eF (t1).q.u.x) (eF (t1).q.u.y) (eF (t1).p.v.x) (eF (t1).p.v.y) (eF (t1).q.v.x) (eF (t1).q.v.y) (eF (t1).p.w.x) (eF (t1).p.w.y) (eF (t1).q.w.x) (eF (t1).q.w.y))).p.v.y),.ws .u64 6 (eF (S12.mul (d12 oneF (fun _=>0) (fun _=>0) (fun _=>0) (fun _=>0) (fun _=>0) (fun _=>0) (fun _=>0) (fun _=>0) (fun _=>0) (fun _=>0) (fun _=>0)) (d12 (eF (t1).p.u.x) (eF (t1).p.u.y) (eF (t1).q.u.x) (eF (t1).q.u.y) (eF (t1).p.v.x) (eF (t1).p.v.y) (eF (t1).q.v.x) (eF (t1).q.v.y) (eF (t1).p.w.x) (eF (t1).p.w.y) (eF (t1).q.w.x) (eF (t1).q.w.y))).q.v.x),.ws .u64 6 (eF (S12.mul (d12 oneF (fun _=>0) (fun _=>0) (fun _=>0) (fun _=>0) (fun _=>0) (fun _=>0) (fun _=>0) (fun _=>0) (fun _=>0) (fun _=>0) (fun _=>0)) (d12 (eF (t1).p.u.x) (eF (t1).p.u.y) (eF (t1).q.u.x) (eF (t1).q.u.y) (eF (t1).p.v.x) (eF (t1).p.v.y) (eF (t1).q.v.x) (eF (t1).q.v.y) (eF (t1).p.w.x) (eF (t1).p.w.y) (eF (t1).q.w.x) (eF (t1).q.w.y))).q.v.y),.ws .u64 6 (eF (S12.mul (d12 oneF (fun _=>0) (fun _=>0) (fun _=>0) (fun _=>0) (fun _=>0) (fun _=>0) (fun _=>0) (fun _=>0) (fun _=>0) (fun _=>0) (fun _=>0)) (d12 (eF (t1).p.u.x) (eF (t1).p.u.y) (eF (t1).q.u.x) (eF (t1).q.u.y) (eF (t1).p.v.x) (eF (t1).p.v.y) (eF (t1).q.v.x) (eF (t1).q.v.y) (eF (t1).p.w.x) (eF (t1).p.w.y) (eF (t1).q.w.x) (eF (t1).q.w.y))).p.w.x),.ws .u64 6 (eF (S12.mul (d12 oneF (fun _=>0) (fun _=>0) (fun _=>0) (fun _=>0) (fun _=>0) (fun _=>0) (fun _=>0) (fun _=>0) (fun _=>0) (fun _=>0) (fun _=>0)) (d12 (eF (t1).p.u.x) (eF (t1).p.u.y) (eF (t1).q.u.x) (eF (t1).q.u.y) (eF (t1).p.v.x) (eF (t1).p.v.y) (eF (t1).q.v.x) (eF (t1).q.v.y) (eF (t1).p.w.x) (eF (t1).p.w.y) (eF (t1).q.w.x) (eF (t1).q.w.y))).p.w.y),.ws .u64 6 (eF (S12.mul (d12 oneF (fun _=>0) (fun _=>0) (fun _=>0) (fun _=>0) (fun _=>0) (fun _=>0) (fun _=>0) (fun _=>0) (fun _=>0) (fun _=>0) (fun _=>0)) (d12 (eF (t1).p.u.x) (eF (t1).p.u.y) (eF (t1).q.u.x) (eF (t1).q.u.y) (eF (t1).p.v.x) (eF (t1).p.v.y) (eF (t1).q.v.x) (eF (t1).q.v.y) (eF (t1).p.w.x) (eF (t1).p.w.y) (eF (t1).q.w.x) (eF (t1).q.w.y))).q.w.x),.ws .u64 6 (eF (S12.mul (d12 oneF (fun _=>0) (fun _=>0) (fun _=>0) (fun _=>0) (fun _=>0) (fun _=>0) (fun _=>0) (fun _=>0) (fun _=>0) (fun _=>0) (fun _=>0)) (d12 (eF (t1).p.u.x) (eF (t1).p.u.y) (eF (t1).q.u.x) (eF (t1).q.u.y) (eF (t1).p.v.x) (eF (t1).p.v.y) (eF (t1).q.v.x) (eF (t1).q.v.y) (eF (t1).p.w.x) (eF (t1).p.w.y) (eF (t1).q.w.x) (eF (t1).q.w.y))).q.w.y)] [.ws .u64 6 (eF (t2).p.u.x),.ws .u64 6 (eF (t2).p.u.y),.ws .u64 6 (eF (t2).q.u.x),.ws .u64 6 (eF (t2).q.u.y),.ws .u64 6 (eF (t2).p.v.x),.ws .u64 6 (eF (t2).p.v.y),.ws .u64 6 (eF (t2).q.v.x),.ws .u64 6 (eF (t2).q.v.y),.ws .u64 6 (eF (t2).p.w.x),.ws .u64 6 (eF (t2).p.w.y),.ws .u64 6 (eF (t2).q.w.x),.ws .u64 6 (eF (t2).q.w.y)]/\nv oneF < pN/\nv (fun _=>0) < pN/\nv (fun _=>0) < pN/\nv (fun _=>0) < pN/\nv (fun _=>0) < pN/\nv (fun _=>0) < pN/\nv (fun _=>0) < pN/\nv (fun _=>0) < pN/\nv (fun _=>0) < pN/\nv (fun _=>0) < pN/\nv (fun _=>0) < pN/\nv (fun _=>0) < pN/\nv (eF (t1).p.u.x) < pN/\nv (eF (t1).p.u.y) < pN/\nv (eF (t1).q.u.x) < pN/\nv (eF (t1).q.u.y) < pN/\nv (eF (t1).p.v.x) < pN/\nv (eF (t1).p.v.y) < pN/\nv (eF (t1).q.v.x) < pN/\nv (eF (t1).q.v.y) < pN/\nv (eF (t1).p.w.x) < pN/\nv (eF (t1).p.w.y) < pN/\nv (eF (t1).q.w.x) < pN/\nv (eF (t1).q.w.y) < pN/\asP [.ws .u64 6 (eF (walkS (gN bx) (gN bX) ⟨gN e0,gN e1⟩ ⟨gN e2,gN e3⟩).p.u.x),.ws .u64 6 (eF (walkS (gN bx) (gN bX) ⟨gN e0,gN e1⟩ ⟨gN e2,gN e3⟩).p.u.y),.ws .u64 6 (eF (walkS (gN bx) (gN bX) ⟨gN e0,gN e1⟩ ⟨gN e2,gN e3⟩).q.u.x),.ws .u64 6 (eF (walkS (gN bx) (gN bX) ⟨gN e0,gN e1⟩ ⟨gN e2,gN e3⟩).q.u.y),.ws .u64 6 (eF (walkS (gN bx) (gN bX) ⟨gN e0,gN e1⟩ ⟨gN e2,gN e3⟩).p.v.x),.ws .u64 6 (eF (walkS (gN bx) (gN bX) ⟨gN e0,gN e1⟩ ⟨gN e2,gN e3⟩).p.v.y),.ws .u64 6 (eF (walkS (gN bx) (gN bX) ⟨gN e0,gN e1⟩ ⟨gN e2,gN e3⟩).q.v.x),.ws .u64 6 (eF (walkS (gN bx) (gN bX) ⟨gN e0,gN e1⟩ ⟨gN e2,gN e3⟩).q.v.y),.ws .u64 6 (eF (walkS (gN bx) (gN bX) ⟨gN e0,gN e1⟩ ⟨gN e2,gN e3⟩).p.w.x),.ws .u64 6 (eF (walkS (gN bx) (gN bX) ⟨gN e0,gN e1⟩ ⟨gN e2,gN e3⟩).p.w.y),.ws .u64 6 (eF (walkS (gN bx) (gN bX) ⟨gN e0,gN e1⟩ ⟨gN e2,gN e3⟩).q.w.x),.ws .u64 6 (eF (walkS (gN bx) (gN bX) ⟨gN e0,gN e1⟩ ⟨gN e2,gN e3⟩).q.w.y)] [.ws .u64 6 (eF (t3).p.u.x),.ws .u64 6 (eF (t3).p.u.y),.ws .u64 6 (eF (t3).q.u.x),.ws .u64 6 (eF (t3).q.u.y),.ws .u64 6 (eF (t3).p.v.x),.ws .u64 6 (eF (t3).p.v.y),.ws .u64 6 (eF (t3).q.v.x),.ws .u64 6 (eF (t3).q.v.y),.ws .u64 6 (eF (t3).p.w.x),.ws .u64 6 (eF (t3).p.w.y),.ws .u64 6 (eF (t3).q.w.x),.ws .u64 6 (eF (t3).q.w.y)]/\asP [.ws .u64 6 (eF (S12.mul (d12 (eF (t2).p.u.x) (eF (t2).p.u.y) (eF (t2).q.u.x) (eF (t2).q.u.y) (eF (t2).p.v.x) (eF (t2).p.v.y) (eF (t2).q.v.x) (eF (t2).q.v.y) (eF (t2).p.w.x) (eF (t2).p.w.y) (eF (t2).q.w.x) (eF (t2).q.w.y)) (d12 (eF (t3).p.u.x) (eF (t3).p.u.y) (eF (t3).q.u.x) (eF (t3).q.u.y) (eF (t3).p.v.x) (eF (t3).p.v.y) (eF (t3).q.v.x) (eF (t3).q.v.y) (eF (t3).p.w.x) (eF (t3).p.w.y) (eF (t3).q.w.x) (eF (t3).q.w.y))).p.u.x),.ws .u64 6 (eF (S12.mul (d12 (eF (t2).p.u.x) (eF (t2).p.u.y) (eF (t2).q.u.x) (eF (t2).q.u.y) (eF (t2).p.v.x) (eF (t2).p.v.y) (eF (t2).q.v.x) (eF (t2).q.v.y) (eF (t2).p.w.x) (eF (t2).p.w.y) (eF (t2).q.w.x) (eF (t2).q.w.y)) (d12 (eF (t3).p.u.x) (eF (t3).p.u.y) (eF (t3).q.u.x) (eF (t3).q.u.y) (eF (t3).p.v.x) (eF (t3).p.v.y) (eF (t3).q.v.x) (eF (t3).q.v.y) (eF (t3).p.w.x) (eF (t3).p.w.y) (eF (t3).q.w.x) (eF (t3).q.w.y))).p.u.y),.ws .u64 6 (eF (S12.mul (d12 (eF (t2).p.u.x) (eF (t2).p.u.y) (eF (t2).q.u.x) (eF (t2).q.u.y) (eF (t2).p.v.x) (eF (t2).p.v.y) (eF (t2).q.v.x) (eF (t2).q.v.y) (eF (t2).p.w.x) (eF (t2).p.w.y) (eF (t2).q.w.x) (eF (t2).q.w.y)) (d12 (eF (t3).p.u.x) (eF (t3).p.u.y) (eF (t3).q.u.x) (eF (t3).q.u.y) (eF (t3).p.v.x) (eF (t3).p.v.y) (eF (t3).q.v.x) (eF (t3).q.v.y) (eF (t3).p.w.x) (eF (t3).p.w.y) (eF (t3).q.w.x) (eF (t3).q.w.y))).q.u.x),.ws .u64 6 (eF (S12.mul (d12 (eF (t2).p.u.x) (eF (t2).p.u.y) (eF (t2).q.u.x) (eF (t2).q.u.y) (eF (t2).p.v.x) (eF (t2).p.v.y) (eF (t2).q.v.x) (eF (t2).q.v.y) (eF (t2).p.w.x) (eF (t2).p.w.y) (eF (t2).q.w.x) (eF (t2).q.w.y)) (d12 (eF (t3).p.u.x) (eF (t3).p.u.y) (eF (t3).q.u.x) (eF (t3).q.u.y) (eF (t3).p.v.x) (eF (t3).p.v.y) (eF (t3).q.v.x) (eF (t3).q.v.y) (eF (t3).p.w.x) (eF (t3).p.w.y) (eF (t3).q.w.x) (eF (t3).q.w.y))).q.u.y),.ws .u64 6 (eF (S12.mul (d12 (eF (t2).p.u.x) (eF (t2).p.u.y) (eF (t2).q.u.x) (eF (t2).q.u.y) (eF (t2).p.v.x) (eF (t2).p.v.y) (eF (t2).q.v.x) (eF (t2).q.v.y) (eF (t2).p.w.x) (eF (t2).p.w.y) (eF (t2).q.w.x) (eF (t2).q.w.y)) (d12 (eF (t3).p.u.x) (eF (t3).p.u.y) (eF (t3).q.u.x) (eF (t3).q.u.y) (eF (t3).p.v.x) (eF (t3).p.v.y) (eF (t3).q.v.x) (eF (t3).q.v.y) (eF (t3).p.w.x) (eF (t3).p.w.y) (eF (t3).q.w.x) (eF (t3).q.w.y))).p.v.x),.ws .u64 6 (eF (S12.mul (d12 (eF (t2).p.u.x) (eF (t2).p.u.y) (eF (t2).q.u.x) (eF (t2).q.u.y) (eF (t2).p.v.x) (eF (t2).p.v.y) (eF (t2).q.v.x) (eF (t2).q.v.y) (eF (t2).p.w.x) (eF (t2).p.w.y) (eF (t2).q.w.x) (eF (t2).q.w.y)) (d12 (eF (t3).p.u.x) (eF (t3).p.u.y) (eF (t3).q.u.x) (eF (t3).q.u.y) (eF (t3).p.v.x) (eF (t3).p.v.y) (eF (t3).q.v.x) (eF (t3).q.v.y) (eF (t3).p.w.x) (eF (t3).p.w.y) (eF (t3).q.w.x) (eF (t3).q.w.y))).p.v.y),.ws .u64 6 (eF (S12.mul (d12 (eF (t2).p.u.x) (eF (t2).p.u.y) (eF (t2).q.u.x) (eF (t2).q.u.y) (eF (t2).p.v.x) (eF (t2).p.v.y) (eF (t2).q.v.x) (eF (t2).q.v.y) (eF (t2).p.w.x) (eF (t2).p.w.y) (eF (t2).q.w.x) (eF (t2).q.w.y)) (d12 (eF (t3).p.u.x) (eF (t3).p.u.y) (eF (t3).q.u.x) (eF (t3).q.u.y) (eF (t3).p.v.x) (eF (t3).p.v.y) (eF (t3).q.v.x) (eF (t3).q.v.y) (eF (t3).p.w.x) (eF (t3).p.w.y) (eF (t3).q.w.x) (eF (t3).q.w.y))).q.v.x),.ws .u64 6 (eF (S12.mul (d12 (eF (t2).p.u.x) (eF (t2).p.u.y) (eF (t2).q.u.x) (eF (t2).q.u.y) (eF (t2).p.v.x) (eF (t2).p.v.y) (eF (t2).q.v.x) (eF (t2).q.v.y) (eF (t2).p.w.x) (eF (t2).p.w.y) (eF (t2).q.w.x) (eF (t2).q.w.y)) (d12 (eF (t3).p.u.x) (eF (t3).p.u.y) (eF (t3).q.u.x) (eF (t3).q.u.y) (eF (t3).p.v.x) (eF (t3).p.v.y) (eF (t3).q.v.x) (eF (t3).q.v.y) (eF (t3).p.w.x) (eF (t3).p.w.y) (eF (t3).q.w.x) (eF (t3).q.w.y))).q.v.y),.ws .u64 6 (eF (S12.mul (d12 (eF (t2).p.u.x) (eF (t2).p.u.y) (eF (t2).q.u.x) (eF (t2).q.u.y) (eF (t2).p.v.x) (eF (t2).p.v.y) (eF (t2).q.v.x) (eF (t2).q.v.y) (eF (t2).p.w.x) (eF (t2).p.w.y) (eF (t2).q.w.x) (eF (t2).q.w.y)) (d12 (eF (t3).p.u.x) (eF (t3).p.u.y) (eF (t3).q.u.x) (eF (t3).q.u.y) (eF (t3).p.v.x) (eF (t3).p.v.y) (eF (t3).q.v.x) (eF (t3).q.v.y) (eF (t3).p.w.x) (eF (t3).p.w.y) (eF (t3).q.w.x) (eF (t3).q.w.y))).p.w.x),.ws .u64 6 (eF (S12.mul (d12 (eF (t2).p.u.x) (eF (t2).p.u.y) (eF (t2).q.u.x) (eF (t2).q.u.y) (eF (t2).p.v.x) (eF (t2).p.v.y) (eF (t2).q.v.x) (eF (t2).q.v.y) (eF (t2).p.w.x) (eF (t2).p.w.y) (eF (t2).q.w.x) (eF (t2).q.w.y)) (d12 (eF (t3).p.u.x) (eF (t3).p.u.y) (eF (t3).q.u.x) (eF (t3).q.u.y) (eF (t3).p.v.x) (eF (t3).p.v.y) (eF (t3).q.v.x) (eF (t3).q.v.y) (eF (t3).p.w.x) (eF (t3).p.w.y) (eF (t3).q.w.x) (eF (t3).q.w.y))).p.w.y),.ws .u64 6 (eF (S12.mul (d12 (eF (t2).p.u.x) (eF (t2).p.u.y) (eF (t2).q.u.x) (eF (t2).q.u.y) (eF (t2).p.v.x) (eF (t2).p.v.y) (eF (t2).q.v.x) (eF (t2).q.v.y) (eF (t2).p.w.x) (eF (t2).p.w.y) (eF (t2).q.w.x) (eF (t2).q.w.y)) (d12 (eF (t3).p.u.x) (eF (t3).p.u.y) (eF (t3).q.u.x) (eF (t3).q.u.y) (eF (t3).p.v.x) (eF (t3).p.v.y) (eF (t3).q.v.x) (eF (t3).q.v.y) (eF (t3).p.w.x) (eF (t3).p.w.y) (eF (t3).q.w.x) (eF (t3).q.w.y))).q.w.x),.ws .u64 6 (eF (S12.mul (d12 (eF (t2).p.u.x) (eF (t2).p.u.y) (eF (t2).q.u.x) (eF (t2).q.u.y) (eF (t2).p.v.x) (eF (t2).p.v.y) (eF (t2).q.v.x) (eF (t2).q.v.y) (eF (t2).p.w.x) (eF (t2).p.w.y) (eF (t2).q.w.x) (eF (t2).q.w.y)) (d12 (eF (t3).p.u.x) (eF (t3).p.u.y) (eF (t3).q.u.x) (eF (t3).q.u.y) (eF (t3).p.v.x) (eF (t3).p.v.y) (eF (t3).q.v.x) (eF (t3).q.v.y) (eF (t3).p.w.x) (eF (t3).p.w.y) (eF (t3).q.w.x) (eF (t3).q.w.y))).q.w.y)] [.ws .u64 6 (eF (t4).p.u.x),.ws .u64 6 (eF (t4).p.u.y),.ws .u64 6 (eF (t4).q.u.x),.ws .u64 6 (eF (t4).q.u.y),.ws .u64 6 (eF (t4).p.v.x),.ws .u64 6 (eF (t4).p.v.y),.ws .u64 6 (eF (t4).q.v.x),.ws .u64 6 (eF (t4).q.v.y),.ws .u64 6 (eF (t4).p.w.x),.ws .u64 6 (eF (t4).p.w.y),.ws .u64 6 (eF (t4).q.w.x),.ws .u64 6 (eF (t4).q.w.y)]/\nv (eF (t2).p.u.x) < pN/\nv (eF (t2).p.u.y) < pN/\nv (eF (t2).q.u.x) < pN/\nv (eF (t2).q.u.y) < pN/\nv (eF (t2).p.v.x) < pN/\nv (eF (t2).p.v.y) < pN/\nv (eF (t2).q.v.x) < pN/\nv (eF (t2).q.v.y) < pN/\nv (eF (t2).p.w.x) < pN/\nv (eF (t2).p.w.y) < pN/\nv (eF (t2).q.w.x) < pN/\nv (eF (t2).q.w.y) < pN/\nv (eF (t3).p.u.x) < pN/\nv (eF (t3).p.u.y) < pN/\nv (eF (t3).q.u.x) < pN/\nv (eF (t3).q.u.y) < pN/\nv (eF (t3).p.v.x) < pN/\nv (eF (t3).p.v.y) < pN/\nv (eF (t3).q.v.x) < pN/\nv (eF (t3).q.v.y) < pN/\nv (eF (t3).p.w.x) < pN/\nv (eF (t3).p.w.y) < pN/\nv (eF (t3).q.w.x) < pN/\nv (eF (t3).q.w.y) < pN/\asP [.ws .u64 6 (eF (lastS (d12 (eF (t4).p.u.x) (eF (t4).p.u.y) (eF (t4).q.u.x) (eF (t4).q.u.y) (eF (t4).p.v.x) (eF (t4).p.v.y) (eF (t4).q.v.x) (eF (t4).q.v.y) (eF (t4).p.w.x) (eF (t4).p.w.y) (eF (t4).q.w.x) (eF (t4).q.w.y))).p.u.x),.ws .u64 6 (eF (lastS (d12 (eF (t4).p.u.x) (eF (t4).p.u.y) (eF (t4).q.u.x) (eF (t4).q.u.y) (eF (t4).p.v.x) (eF (t4).p.v.y) (eF (t4).q.v.x) (eF (t4).q.v.y) (eF (t4).p.w.x) (eF (t4).p.w.y) (eF (t4).q.w.x) (eF (t4).q.w.y))).p.u.y),.ws .u64 6 (eF (lastS (d12 (eF (t4).p.u.x) (eF (t4).p.u.y) (eF (t4).q.u.x) (eF (t4).q.u.y) (eF (t4).p.v.x) (eF (t4).p.v.y) (eF (t4).q.v.x) (eF (t4).q.v.y) (eF (t4).p.w.x) (eF (t4).p.w.y) (eF (t4).q.w.x) (eF (t4).q.w.y))).q.u.x),.ws .u64 6 (eF (lastS (d12 (eF (t4).p.u.x) (eF (t4).p.u.y) (eF (t4).q.u.x) (eF (t4).q.u.y) (eF (t4).p.v.x) (eF (t4).p.v.y) (eF (t4).q.v.x) (eF (t4).q.v.y) (eF (t4).p.w.x) (eF (t4).p.w.y) (eF (t4).q.w.x) (eF (t4).q.w.y))).q.u.y),.ws .u64 6 (eF (lastS (d12 (eF (t4).p.u.x) (eF (t4).p.u.y) (eF (t4).q.u.x) (eF (t4).q.u.y) (eF (t4).p.v.x) (eF (t4).p.v.y) (eF (t4).q.v.x) (eF (t4).q.v.y) (eF (t4).p.w.x) (eF (t4).p.w.y) (eF (t4).q.w.x) (eF (t4).q.w.y))).p.v.x),.ws .u64 6 (eF (lastS (d12 (eF (t4).p.u.x) (eF (t4).p.u.y) (eF (t4).q.u.x) (eF (t4).q.u.y) (eF (t4).p.v.x) (eF (t4).p.v.y) (eF (t4).q.v.x) (eF (t4).q.v.y) (eF (t4).p.w.x) (eF (t4).p.w.y) (eF (t4).q.w.x) (eF (t4).q.w.y))).p.v.y),.ws .u64 6 (eF (lastS (d12 (eF (t4).p.u.x) (eF (t4).p.u.y) (eF (t4).q.u.x) (eF (t4).q.u.y) (eF (t4).p.v.x) (eF (t4).p.v.y) (eF (t4).q.v.x) (eF (t4).q.v.y) (eF (t4).p.w.x) (eF (t4).p.w.y) (eF (t4).q.w.x) (eF (t4).q.w.y))).q.v.x),.ws .u64 6 (eF (lastS (d12 (eF (t4).p.u.x) (eF (t4).p.u.y) (eF (t4).q.u.x) (eF (t4).q.u.y) (eF (t4).p.v.x) (eF (t4).p.v.y) (eF (t4).q.v.x) (eF (t4).q.v.y) (eF (t4).p.w.x) (eF (t4).p.w.y) (eF (t4).q.w.x) (eF (t4).q.w.y))).q.v.y),.ws .u64 6 (eF (lastS (d12 (eF (t4).p.u.x) (eF (t4).p.u.y) (eF (t4).q.u.x) (eF (t4).q.u.y) (eF (t4).p.v.x) (eF (t4).p.v.y) (eF (t4).q.v.x) (eF (t4).q.v.y) (eF (t4).p.w.x) (eF (t4).p.w.y) (eF (t4).q.w.x) (eF (t4).q.w.y))).p.w.x),.ws .u64 6 (eF (lastS (d12 (eF (t4).p.u.x) (eF (t4).p.u.y) (eF (t4).q.u.x) (eF (t4).q.u.y) (eF (t4).p.v.x) (eF (t4).p.v.y) (eF (t4).q.v.x) (eF (t4).q.v.y) (eF (t4).p.w.x) (eF (t4).p.w.y) (eF (t4).q.w.x) (eF (t4).q.w.y))).p.w.y),.ws .u64 6 (eF (lastS (d12 (eF (t4).p.u.x) (eF (t4).p.u.y) (eF (t4).q.u.x) (eF (t4).q.u.y) (eF (t4).p.v.x) (eF (t4).p.v.y) (eF (t4).q.v.x) (eF (t4).q.v.y) (eF (t4).p.w.x) (eF (t4).p.w.y) (eF (t4).q.w.x) (eF (t4).q.w.y))).q.w.x),.ws .u64 6 (eF (lastS (d12 (eF (t4).p.u.x) (eF (t4).p.u.y) (eF (t4).q.u.x) (eF (t4).q.u.y) (eF (t4).p.v.x) (eF (t4).p.v.y) (eF (t4).q.v.x) (eF (t4).q.v.y) (eF (t4).p.w.x) (eF (t4).p.w.y) (eF (t4).q.w.x) (eF (t4).q.w.y))).q.w.y)] [.ws .u64 6 (eF (t5).p.u.x),.ws .u64 6 (eF (t5).p.u.y),.ws .u64 6 (eF (t5).q.u.x),.ws .u64 6 (eF (t5).q.u.y),.ws .u64 6 (eF (t5).p.v.x),.ws .u64 6 (eF (t5).p.v.y),.ws .u64 6 (eF (t5).q.v.x),.ws .u64 6 (eF (t5).q.v.y),.ws .u64 6 (eF (t5).p.w.x),.ws .u64 6 (eF (t5).p.w.y),.ws .u64 6 (eF (t5).q.w.x),.ws .u64 6 (eF (t5).q.w.y)]/\nv (eF (t4).p.u.x) < pN/\nv (eF (t4).p.u.y) < pN/\nv (eF (t4).q.u.x) < pN/\nv (eF (t4).q.u.y) < pN/\nv (eF (t4).p.v.x) < pN/\nv (eF (t4).p.v.y) < pN/\nv (eF (t4).q.v.x) < pN/\nv (eF (t4).q.v.y) < pN/\nv (eF (t4).p.w.x) < pN/\nv (eF (t4).p.w.y) < pN/\nv (eF (t4).q.w.x) < pN/\nv (eF (t4).q.w.y) < pN/\nv (eF (t5).p.u.x) < pN/\nv (eF (t5).p.u.y) < pN/\nv (eF (t5).q.u.x) < pN/\nv (eF (t5).q.u.y) < pN/\nv (eF (t5).p.v.x) < pN/\nv (eF (t5).p.v.y) < pN/\nv (eF (t5).q.v.x) < pN/\nv (eF (t5).q.v.y) < pN/\nv (eF (t5).p.w.x) < pN/\nv (eF (t5).p.w.y) < pN/\nv (eF (t5).q.w.x) < pN/\nv (eF (t5).q.w.y) < pN/\(some ⟨y1,[.ws .u64 6 ax,.ws .u64 6 ay,.one (.bo false),.ws .u64 6 bx,.ws .u64 6 bX,.one (.bo false)],0,0⟩:Option Blk) = some ⟨y1,[.ws .u64 6 ax,.ws .u64 6 ay,.one (.bo false),.ws .u64 6 bx,.ws .u64 6 bX,.one (.bo false)],0,0⟩/\(some ⟨y2,[.ws .u64 6 c0,.ws .u64 6 c1,.ws .u64 6 c2,.ws .u64 6 c3,.one (.bo false),.ws .u64 6 e0,.ws .u64 6 e1,.ws .u64 6 e2,.ws .u64 6 e3,.one (.bo false)],0,0⟩:Option Blk) = some ⟨y2,[.ws .u64 6 c0,.ws .u64 6 c1,.ws .u64 6 c2,.ws .u64 6 c3,.one (.bo false),.ws .u64 6 e0,.ws .u64 6 e1,.ws .u64 6 e2,.ws .u64 6 e3,.one (.bo false)],0,0⟩/\endR2 (.tup [v12 (vF (dF (eF (t5).p.u.x))) (vF (dF (eF (t5).p.u.y))) (vF (dF (eF (t5).q.u.x))) (vF (dF (eF (t5).q.u.y))) (vF (dF (eF (t5).p.v.x))) (vF (dF (eF (t5).p.v.y))) (vF (dF (eF (t5).q.v.x))) (vF (dF (eF (t5).q.v.y))) (vF (dF (eF (t5).p.w.x))) (vF (dF (eF (t5).p.w.y))) (vF (dF (eF (t5).q.w.x))) (vF (dF (eF (t5).q.w.y))),.sc (.it 0)]) (.tup [n12 (lastS (S12.mul (S12.mul 1 (walkS (gN ax) (gN ay) ⟨gN c0,gN c1⟩ ⟨gN c2,gN c3⟩)) (walkS (gN bx) (gN bX) ⟨gN e0,gN e1⟩ ⟨gN e2,gN e3⟩))),.sc (.it 0)])) ?_ (by kernel_rfl)
 exact ⟨by rw [ha];rfl,by rw [hc];rfl,by rw [hb];rfl,by rw [hd];rfl,asS ht1.symm,asS (by rw [d12_one,d12_eF];exact ht2.symm),lt_one,lt_zero,lt_zero,lt_zero,lt_zero,lt_zero,lt_zero,lt_zero,lt_zero,lt_zero,lt_zero,lt_zero,lt_eF _,lt_eF _,lt_eF _,lt_eF _,lt_eF _,lt_eF _,lt_eF _,lt_eF _,lt_eF _,lt_eF _,lt_eF _,lt_eF _,asS ht3.symm,asS (by rw [d12_eF,d12_eF];exact ht4.symm),lt_eF _,lt_eF _,lt_eF _,lt_eF _,lt_eF _,lt_eF _,lt_eF _,lt_eF _,lt_eF _,lt_eF _,lt_eF _,lt_eF _,lt_eF _,lt_eF _,lt_eF _,lt_eF _,lt_eF _,lt_eF _,lt_eF _,lt_eF _,lt_eF _,lt_eF _,lt_eF _,lt_eF _,asS (by rw [d12_eF];exact ht5.symm),lt_eF _,lt_eF _,lt_eF _,lt_eF _,lt_eF _,lt_eF _,lt_eF _,lt_eF _,lt_eF _,lt_eF _,lt_eF _,lt_eF _,lt_eF _,lt_eF _,lt_eF _,lt_eF _,lt_eF _,lt_eF _,lt_eF _,lt_eF _,lt_eF _,lt_eF _,lt_eF _,lt_eF _,rfl,rfl,endPR (by rw [ht5,ht4,ht3,ht2,ht1])⟩
theorem rd_sl1 {P:Program} {T:TT} (hT:TTOk P T) {f:FuncId} {fn:Func} (hf:P.funcs[f]? = some fn) (hb:fn.body = some (bodyOf fn)) (hn:(fn.name == "runtime.NumGoroutine") = false)
  {post:List AV} {h:Heap} {v:AV} (hv:vokB v = true) (hpost:post.all vokB = true) {b n:Nat} {x:Blk} (hgb:hget h b = some x) (lx:x.lo = 0) (hx:plainCs x.cells = true)
  (hwalk:AWqS P (Dm [some x]) (flatC (bodyOf fn)) (FEndV T fn v [some x]) ⟨frame0 ([.v1 (.sc (.sl 0 0 n n))] ++ post) fn.ntmps,[some x]⟩) :
  CallOk P f ([.v1 (.sc (.sl b 0 n n))] ++ post) h v h:=by
 refine rd_view hT hf hb hn hv fun ρ w hr=>?_
 obtain ⟨r1,r2,r3,r4⟩:=see_rel hr (ms:=[b]) (W:=[some x]) rfl rfl fun j hj=>by
  match j,hj with
  | 0,_=>exact see_row hgb lx hx
 refine ⟨_,_,[.v1 (.sc (.sl 0 0 n n))] ++ post,r1,r2,r3,r4,?_,?_,?_,?_,?_,hwalk⟩
 ·rw [List.map_append,List.map_append]
  congr 1
  refine List.map_congr_left fun x hx=>?_
  exact AV.val_agree (D:=fun _=>False) (fun _ h=>h.elim) (vok_of (List.all_eq_true.1 hpost x hx))
 ·rw [List.all_append,Bool.and_eq_true]
  exact ⟨rfl,List.all_eq_true.2 fun x hx=>avB_plain (List.all_eq_true.1 hpost x hx)⟩
 ·show (plainCs x.cells && true) = true
  rw [hx];rfl
 ·show (nodupB [0] && (nextB [0] _ && _)) = true
  unfold nextB
  rw [lx]
  rfl
 ·show (cellsB _ x.cells && (ownB _ _ x.lo && true)) = true
  rw [cellsB_plain hx,lx]
  rfl
abbrev nilL:AV:=.v1 (.sc (.rw (.slice none 0 0)))
theorem pr_nil {b:Nat} {ax ay:Nat->Nat} {z:Bool} {y1:TypeId} {h:Heap} (g1:hget h b = some ⟨y1,[.ws .u64 6 ax,.ws .u64 6 ay,.one (.bo z)],0,0⟩) :
  CallOk Tryz.prog 28 ([.v1 (.sc (.sl b 0 1 1))] ++ [nilL]) h (.tup [n12 0,.sc (.it 2)]) h:=by
 refine rd_sl1 tt_ok Tryz.func28 (by kernel_rfl) (by kernel_rfl) rfl rfl g1 rfl rfl ?_
 refine evS_q mixed tt_ok GPr_ok 300 [] ?_
 refine same (p:=(some ⟨y1,[.ws .u64 6 ax,.ws .u64 6 ay,.one (.bo z)],0,0⟩:Option Blk) = some ⟨y1,[.ws .u64 6 ax,.ws .u64 6 ay,.one (.bo z)],0,0⟩/\endR2 (.tup [v12 (fun _=>0) (fun _=>0) (fun _=>0) (fun _=>0) (fun _=>0) (fun _=>0) (fun _=>0) (fun _=>0) (fun _=>0) (fun _=>0) (fun _=>0) (fun _=>0),.sc (.it 2)]) (.tup [n12 0,.sc (.it 2)])) ?_ (by kernel_rfl)
 refine ⟨rfl,_,rfl,rfl,fun ρ=>?_⟩
 have h3:(v12 (fun _=>0) (fun _=>0) (fun _=>0) (fun _=>0) (fun _=>0) (fun _=>0) (fun _=>0) (fun _=>0) (fun _=>0) (fun _=>0) (fun _=>0) (fun _=>0)).val ρ = (n12 0).val ρ:=v12_val zero_vF zero_vF zero_vF zero_vF zero_vF zero_vF zero_vF zero_vF zero_vF zero_vF zero_vF zero_vF ρ
 simp only [AV.val,List.map_cons,List.map_nil,h3]
def cPrK:List AV->Heap->Option (List Prop × AV)
 | [.v1 (.sc (.rw (.slice none 0 0))),.v1 (.sc (.rw (.slice none 0 0)))],_=>some ([],.tup [n12 (lastS 1),.sc (.it 0)])
 | [.v1 (.sc (.sl b 0 1 1)),.v1 (.sc (.rw (.slice none 0 0)))],h=>match hget h b with
  | some ⟨_,[.ws .u64 6 ax,.ws .u64 6 ay,.one (.bo z)],0,0⟩=>some ([],.tup [n12 0,.sc (.it 2)])
  | _=>none
 | [.v1 (.sc (.sl b 0 2 2)),.v1 (.sc (.sl c 0 2 2))],h=>match Nat.beq b c,hget h b,hget h c with
  | false,some ⟨_,[.ws .u64 6 ax,.ws .u64 6 ay,.one (.bo false),.ws .u64 6 bx,.ws .u64 6 bX,.one (.bo false)],0,0⟩,some ⟨_,[.ws .u64 6 c0,.ws .u64 6 c1,.ws .u64 6 c2,.ws .u64 6 c3,.one (.bo false),.ws .u64 6 e0,.ws .u64 6 e1,.ws .u64 6 e2,.ws .u64 6 e3,.one (.bo false)],0,0⟩=>some ([(lo1 ax ay && isE ax ay false) = true,(lo1 bx bX && isE bx bX false) = true,(lo2 c0 c1 c2 c3 && isQ c0 c1 c2 c3 false) = true,(lo2 e0 e1 e2 e3 && isQ e0 e1 e2 e3 false) = true],.tup [n12 (lastS (S12.mul (S12.mul 1 (walkS (gN ax) (gN ay) ⟨gN c0,gN c1⟩ ⟨gN c2,gN c3⟩)) (walkS (gN bx) (gN bX) ⟨gN e0,gN e1⟩ ⟨gN e2,gN e3⟩))),.sc (.it 0)])
  | _,_,_=>none
 | _,_=>none
theorem okPrK:(CallC.rd cPrK).Ok Tryz.prog 28:=by
 refine ⟨fun args h pre v e hp=>?_,fun args h slot blk hs ha=>?_⟩
 ·unfold cPrK at e
  split at e
  ·cases e
   exact okPairs0 _ [] _ rfl (fun _ h=>by simp at h) h
  ·split at e
   ·rename_i h1
    cases e
    exact pr_nil h1
   ·cases e
  ·split at e
   ·rename_i h0 h1 h2
    cases e
    exact pr_two h0 h1 h2 (hp _ (by simp)) (hp _ (by simp)) (hp _ (by simp)) (hp _ (by simp))
   ·cases e
  ·cases e
 ·unfold cPrK
  split
  ·rfl
  ·rename_i b
   rw [keepS hs (ha (.v1 (.sc (.sl b 0 1 1))) (by simp))]
  ·rename_i b c
   rw [keepS hs (ha (.v1 (.sc (.sl b 0 2 2))) (by simp)),keepS hs (ha (.v1 (.sc (.sl c 0 2 2))) (by simp))]
  ·rfl
end Go.Proofs.YtnjocbcjejpklaaGreat
namespace Go.Rq
open Go
set_option linter.unusedVariables false
inductive CK where
 | i (k:IntKind)
 | b
def CsOk:List CK->List Value->Prop
 | [],[]=>True
 | .i k :: r,.int k' n :: vs=>k' = k/\(Lit.int k n).wf = true/\CsOk r vs
 | .b :: r,.bool _ :: vs=>CsOk r vs
 | _,_=>False
mutual
inductive FlatTy (P:Program):TypeId->List CK->Prop
 | int {t:TypeId} {k:IntKind} (hu:P.underlying t = some (.int k)):FlatTy P t [.i k]
 | bool {t:TypeId} (hu:P.underlying t = some .bool):FlatTy P t [.b]
 | arr {t e:TypeId} {n:Nat} {sk:List CK} (hu:P.underlying t = some (.array n e)) (he:FlatTy P e sk) (hc:P.cellsOf e = sk.length) (ht:P.cellsOf t = n * sk.length):FlatTy P t (List.replicate n sk).flatten
 | str {t:TypeId} {fs:Array Field} {sk:List CK} (hu:P.underlying t = some (.struct fs)) (hf:FlatFs P 0 fs.toList sk) (ht:P.cellsOf t = sk.length):FlatTy P t sk
inductive FlatFs (P:Program):Nat->List Field->List CK->Prop
 | nil (o:Nat):FlatFs P o [] []
 | cons {f:Field} {fs:List Field} {o:Nat} {sk r:List CK} (ho:f.offset = o) (h:FlatTy P f.type sk) (hc:P.cellsOf f.type = sk.length) (hr:FlatFs P (o + sk.length) fs r):FlatFs P o (f :: fs) (sk ++ r)
end
theorem CsOk.append:∀ {a b:List CK} {xs ys:List Value},CsOk a xs->CsOk b ys->CsOk (a ++ b) (xs ++ ys)
 | [],_,[],_,_,h=>h
 | .i k :: r,b,.int k' n :: vs,ys,h,h2=>⟨h.1,h.2.1,CsOk.append (a:=r) h.2.2 h2⟩
 | .b :: r,b,.bool _ :: vs,ys,h,h2=>CsOk.append (a:=r) h h2
 | [],_,_ :: _,_,h,_=>h.elim
 | .i _ :: _,_,[],_,h,_=>h.elim
 | .b :: _,_,[],_,h,_=>h.elim
theorem CsOk.len:∀ {a:List CK} {xs:List Value},CsOk a xs->xs.length = a.length
 | [],[],_=>rfl
 | .i k :: r,.int k' n :: vs,h=>by simp [CsOk.len (a:=r) h.2.2]
 | .b :: r,.bool _ :: vs,h=>by simp [CsOk.len (a:=r) h]
 | [],_ :: _,h=>h.elim
 | .i _ :: _,[],h=>h.elim
 | .b :: _,[],h=>h.elim
theorem CsOk.slices {sk:List CK}:∀ {n:Nat} {cs:List Value},cs.length = n * sk.length->(∀ i,i < n->CsOk sk ((cs.drop (i * sk.length)).take sk.length))->CsOk (List.replicate n sk).flatten cs
 | 0,cs,hl,_=>by
  have:cs = []:=by simpa using hl
  subst this;trivial
 | n + 1,cs,hl,h=>by
  rw [List.replicate_succ,List.flatten_cons,<-List.take_append_drop sk.length cs]
  refine CsOk.append (by simpa using h 0 (by omega)) (CsOk.slices (by rw [List.length_drop,hl,Nat.succ_mul];omega) fun i hi=>?_)
  have:=h (i + 1) (by omega)
  rw [List.drop_drop]
  rw [show sk.length + i * sk.length = (i + 1) * sk.length by rw [Nat.succ_mul];omega]
  exact this
section
variable {H:Type} {enc:TypeId × Value->H} {P:Program}
theorem mapM_congr' {α β:Type} {f g:α->Option β}:∀ {l:List α},(∀ x ∈ l,f x = g x)->l.mapM f = l.mapM g
 | [],_=>rfl
 | x :: r,h=>by
  rw [List.mapM_cons,List.mapM_cons,h x (by simp),mapM_congr' fun y hy=>h y (by simp [hy])]
mutual
theorem FlatTy.same {t:TypeId} {sk:List CK} (h:FlatTy P t sk):∀ (fuel:Nat) (cs:List Value) (w w':World) (b b':Nat) (sp sp':Nat->Bool) (hd hd':Bool),
  DataW.trod enc P w b sp hd fuel t cs = DataW.trod enc P w' b' sp' hd' fuel t cs:=by
 intro fuel cs w w' b b' sp sp' hd hd'
 cases fuel with
 | zero=>simp [DataW.trod]
 | succ m =>
  unfold DataW.trod
  cases h with
  | int hu=>rw [hu];cases cs with
   | nil=>rfl
   | cons c r=>cases r <;> cases c <;> rfl
  | bool hu=>rw [hu];cases cs with
   | nil=>rfl
   | cons c r=>cases r <;> cases c <;> rfl
  | arr hu he hc ht =>
   rw [hu]
   simp only
   rw [mapM_congr' fun i _=>FlatTy.same he m _ w w' b b' sp sp' hd hd']
  | str hu hf ht =>
   rw [hu]
   simp only
   rw [FlatFs.same hf m cs w w' b b' sp sp' hd hd']
theorem FlatFs.same {o:Nat} {fs:List Field} {sk:List CK} (h:FlatFs P o fs sk):∀ (fuel:Nat) (cs:List Value) (w w':World) (b b':Nat) (sp sp':Nat->Bool) (hd hd':Bool),
  (fs.mapM fun f=>DataW.trod enc P w b sp hd fuel f.type ((cs.drop f.offset).take (P.cellsOf f.type))) = fs.mapM fun f=>DataW.trod enc P w' b' sp' hd' fuel f.type ((cs.drop f.offset).take (P.cellsOf f.type)):=by
 intro fuel cs w w' b b' sp sp' hd hd'
 cases h with
 | nil=>rfl
 | cons ho h hc hr=>rw [List.mapM_cons,List.mapM_cons,FlatTy.same h fuel _ w w' b b' sp sp' hd hd',FlatFs.same hr fuel cs w w' b b' sp sp' hd hd']
end
theorem flatMap_nil {α β:Type} {xs:List (α × List β)} (h:∀ (i:Nat) (x:α × List β),xs[i]? = some x->x.2 = []):xs.flatMap (·.2) = []:=by
 rw [List.flatMap_eq_nil_iff]
 intro x hx
 obtain ⟨i,hi⟩:=List.getElem?_of_mem hx
 exact h i x hi
def CellsT (H:Type) (enc:TypeId × Value->H) (P:Program) (t:TypeId) (sk:List CK):Prop :=
 ∀ (fuel:Nat) (cs:List Value) (w:World) (b:Nat) (sp:Nat->Bool) (hd:Bool) (x:DataW H × List MemPlace),DataW.trod enc P w b sp hd fuel t cs = some x->CsOk sk cs/\x.2 = []
def CellsF (H:Type) (enc:TypeId × Value->H) (P:Program) (o:Nat) (fs:List Field) (sk:List CK):Prop :=
 ∀ (fuel:Nat) (cs:List Value) (w:World) (b:Nat) (sp:Nat->Bool) (hd:Bool) (xs:List (DataW H × List MemPlace)),
  cs.length = o + sk.length->xs.length = fs.length->(∀ (i:Nat) (f:Field),fs[i]? = some f->DataW.trod enc P w b sp hd fuel f.type ((cs.drop f.offset).take (P.cellsOf f.type)) = xs[i]?)->CsOk sk (cs.drop o)/\xs.flatMap (·.2) = []
theorem cells_arr {t e:TypeId} {n:Nat} {sk:List CK} (hu:P.underlying t = some (.array n e)) (he:CellsT H enc P e sk) (hc:P.cellsOf e = sk.length) (ht:P.cellsOf t = n * sk.length):CellsT H enc P t (List.replicate n sk).flatten:=by
 intro fuel cs w b sp hd x hx
 obtain ⟨xs,m,rfl,rfl,hl,hn,hi⟩:=DataW.trod_array hu hx
 have key:∀ i,i < xs.length->∃ y,xs[i]? = some y:=fun i hi=>⟨xs[i],by simp [hi]⟩
 refine ⟨CsOk.slices (by rw [hl,ht]) fun i h1=>?_,flatMap_nil fun i y hy=>?_⟩
 ·obtain ⟨y,hy⟩:=key i (by omega)
  have:=hi i h1
  rw [hy] at this
  rw [<-hc]
  exact (he m _ w b sp hd y this).1
 ·have h1:i < xs.length:=(List.getElem?_eq_some_iff.1 hy).1
  have:=hi i (by omega)
  rw [hy] at this
  exact (he m _ w b sp hd y this).2
theorem cells_str {t:TypeId} {fs:Array Field} {sk:List CK} (hu:P.underlying t = some (.struct fs)) (hf:CellsF H enc P 0 fs.toList sk) (ht:P.cellsOf t = sk.length):CellsT H enc P t sk:=by
 intro fuel cs w b sp hd x hx
 obtain ⟨xs,m,rfl,rfl,hl,hn,hi⟩:=DataW.trod_struct hu hx
 have:=hf m cs w b sp hd xs (by rw [hl,ht];simp) (by simpa using hn) fun i f hf=>hi i f (by simpa using hf)
 exact ⟨by simpa using this.1,this.2⟩
theorem cells_cons {f:Field} {fs:List Field} {o:Nat} {sk r:List CK} (ho:f.offset = o) (h:CellsT H enc P f.type sk) (hc:P.cellsOf f.type = sk.length) (hr:CellsF H enc P (o + sk.length) fs r):CellsF H enc P o (f :: fs) (sk ++ r):=by
 intro fuel cs w b sp hd xs hl hx hi
 cases xs with
 | nil=>simp at hx
 | cons y ys =>
  have h0:=hi 0 f rfl
  simp only [List.getElem?_cons_zero] at h0
  have c0:=h fuel _ w b sp hd y h0
  have cr:=hr fuel cs w b sp hd ys (by rw [hl,List.length_append];omega) (by simpa using hx) fun i f' hf'=>by
   have:=hi (i + 1) f' (by simpa using hf')
   simpa using this
  refine ⟨?_,by rw [List.flatMap_cons,c0.2,cr.2];rfl⟩
  rw [<-List.take_append_drop sk.length (cs.drop o)]
  refine CsOk.append ?_ ?_
  ·rw [<-hc,<-ho];exact c0.1
  ·rw [List.drop_drop];exact cr.1
theorem FlatTy.cells {t:TypeId} {sk:List CK} (h:FlatTy P t sk):CellsT H enc P t sk:=by
 refine FlatTy.rec (motive_1:=fun t sk _=>CellsT H enc P t sk) (motive_2:=fun o fs sk _=>CellsF H enc P o fs sk) ?_ ?_ ?_ ?_ ?_ ?_ h
 ·intro t k hu fuel cs w b sp hd x hx
  obtain ⟨n,rfl,rfl,hw⟩:=DataW.trod_int hu hx
  exact ⟨⟨rfl,hw,trivial⟩,rfl⟩
 ·intro t hu fuel cs w b sp hd x hx
  obtain ⟨n,rfl,rfl⟩:=DataW.trod_bool hu hx
  exact ⟨trivial,rfl⟩
 ·intro t e n sk hu _ hc ht he
  exact cells_arr hu he hc ht
 ·intro t fs sk hu _ ht hf
  exact cells_str hu hf ht
 ·intro o fuel cs w b sp hd xs hl hx hi
  have:xs = []:=by simpa using hx
  subst this
  rw [List.drop_eq_nil_of_le (by simp at hl;omega)]
  exact ⟨trivial,rfl⟩
 ·intro f fs o sk r ho _ hc _ h hr
  exact cells_cons ho h hc hr
theorem FlatTy.trod {t:TypeId} {sk:List CK} (h:FlatTy P t sk) {w:World} {b:Nat} {sp:Nat->Bool} {hd:Bool} {v:Value} {d:DataW H} {p:List MemPlace} (hT:DataW.Trod enc P w b sp hd t v d p) :
  CsOk sk v.cells.toList/\p = []/\∀ (w':World) (b':Nat) (sp':Nat->Bool) (hd':Bool),DataW.Trod enc P w' b' sp' hd' t v d []:=by
 obtain ⟨fuel,hf⟩:=hT
 have hc:=h.cells fuel _ w b sp hd _ hf
 have hp:p = []:=hc.2
 subst hp
 exact ⟨hc.1,rfl,fun w' b' sp' hd'=>⟨fuel,by rw [<-FlatTy.same h fuel _ w w' b b' sp sp' hd hd'];exact hf⟩⟩
end
theorem wf_u64 {z:Int} (h:(Lit.int .u64 z).wf = true):Int.ofNat (z.toNat % M .u64) = z:=by
 simp only [Lit.wf,IntKind.min,IntKind.max,IntKind.signed,IntKind.bits,Bool.and_eq_true] at h
 simp only [M,Int.ofNat_eq_natCast]
 simp at h
 omega
theorem CsOk.u64 {r:List CK}:∀ {n:Nat} {vs:List Value},CsOk (List.replicate n (.i .u64) ++ r) vs->∃ (g:Nat->Nat) (vs':List Value),vs = (Cell.ws .u64 n g).vals (fun _=>0) ++ vs'/\CsOk r vs'
 | 0,vs,h=>⟨fun _=>0,vs,by simp [Cell.vals],by simpa using h⟩
 | n + 1,vs,h=>by
  rw [List.replicate_succ,List.cons_append] at h
  match vs,h with
  | .int k' z :: vs,h =>
   obtain ⟨rfl,hw,hr⟩:=h
   obtain ⟨g,vs',rfl,h'⟩:=CsOk.u64 (n:=n) (r:=r) hr
   refine ⟨fun j=>match j with | 0=>z.toNat | j + 1=>g j,vs',?_,h'⟩
   simp only [Cell.vals,List.range_succ_eq_map,List.map_cons,List.map_map,List.cons_append,wf_u64 hw]
   rfl
theorem CsOk.int {k:IntKind} {r:List CK} {vs:List Value} (h:CsOk (.i k :: r) vs):∃ (z:Int) (vs':List Value),vs = .int k z :: vs'/\(Lit.int k z).wf = true/\CsOk r vs':=by
 match vs,h with
 | .int k' b :: vs,h=>obtain ⟨rfl,hw,hr⟩:=h;exact ⟨b,vs,rfl,hw,hr⟩
theorem CsOk.nil {vs:List Value} (h:CsOk [] vs):vs = []:=by
 match vs,h with
 | [],_=>rfl
end Go.Rq
namespace Go.Rq
open Go Go.ChangeShapes Go.WideShapes
theorem post_same {H:Type} {enc:TypeId × Value->H} {P:Program} {f:Func} {s:ChangeSpec} {apart fresh handsOn again:Bool} {W W':World} {args:Array Value} {v:Value} {ds gs:List (DataW H)} {before pa pv:List MemPlace}
  (hW:DataW.Whole enc P f.params.toList s.vars apart W args.toList ds gs before)
  (hres:∀ (b:Nat) (sp:Nat->Bool) (hd:Bool),DataW.TrodAll enc P W' b sp hd f.resultTypes.toList (v.resultList f.resultTypes.size) (s.fn H (ds ++ gs)).results [])
  (hargs:∀ sp:Nat->Bool,(∀ p ∈ before,sp p.block = true)->DataW.TrodAll enc P W' 0 sp true f.params.toList args.toList (s.fn H (ds ++ gs)).args pa)
  (hvars:∀ sp:Nat->Bool,(∀ p ∈ before,sp p.block = true)->DataW.TrodVars enc P W' sp s.vars (s.fn H (ds ++ gs)).vars pv)
  (hps:before = pa ++ pv) (hst:StepW W W')
  (hok:∀ (j:Nat) (t:TypeId) (r:Value),f.resultTypes[j]? = some t->(v.resultList f.resultTypes.size)[j]? = some r->Value.okWide P W' .any 0 t r) :
  s.post enc P f apart fresh handsOn again W args v W':=by
 have hold:∀ p ∈ before,(fun b=>decide (b < W.heap.size)) p.block = true:=fun p hp=>by simpa using hW.lt p hp
 refine ⟨ds,gs,before,[],pa,pv,hW,hres _ _ _,hargs _ hold,hvars _ hold,World.keptBut_mono (fun p hp=>⟨hp,?_⟩) (hst.frame (· ∈ before)),fun _=>?_⟩
 ·rw [hps,List.mem_append] at hp
  exact Or.inr hp
 ·have hlt:=hW.lt
  obtain ⟨_,_,_,_,_,hz,hn⟩:=hW
  refine ⟨hok,_,_,([] ++ pa) ++ pv,⟨[] ++ pa,pv,trodAll_append (hargs _ (fun _ _=>rfl)) (hres _ _ _),hvars _ (fun _ _=>rfl),rfl,?_,?_⟩,?_⟩
  ·intro b off hp
   have hp':MemPlace.cell b off ∈ before:=by rw [hps];simpa using hp
   rw [hst.old _ (hlt _ hp')]
   exact hz b off hp'
  ·intro ha
   have:=hn ha
   rw [hps] at this
   simpa using this
  ·intro p hp _
   rw [hps]
   simpa using hp
end Go.Rq
