/- Texts of the proof, joined. -/
import Derived.Test.YtnjocbcjejpklaaZrA
import Derived.Test.YtnjocbcjejpklaaChecked
set_option linter.all false
namespace Go.Rq
open Go
theorem newRow_run (P:Program) (w:World) (t:TypeId) (c:Array Value):(newRow t c).run P w = .ok ⟨w.heap.size,0,none⟩ (w.alloc (.cells c t)):=by
 simp [newRow]
section
variable {P:Program} {T:TT} (hT:TTOk P T) {ev:Operand->AV}
theorem range_of_row (w:World) (g o:Nat) (cs:List Value) (t:TypeId) (fr:Nat × Nat) (hg:w.heap[g]? = some (.cells cs.toArray t fr)) (n:Nat):w.rangeAt g o ((cs.drop o).take n):=by
 intro j v hv
 rw [cell_of_row w g (o + j) cs.toArray t fr hg]
 rw [List.getElem?_take] at hv
 split at hv
 ·simpa using hv
 ·cases hv
include hT
theorem load_sound {ty:Ty} {t:TypeId} (hty:T.ty t = some ty) {sym:Bool} {off:Nat} {b:Blk} {pre:List Prop} {v:AV} (h:loadB ty sym off b = some (pre,v)) (hp:∀ p ∈ pre,p)
  {D:Nat->Prop} (hc:cok D b.cells) (ρ:Ren) (g:Nat) (w:World) (hg:w.heap[g]? = some (.cells (cvals ρ b.cells).toArray b.ty (b.lo,b.hi))) (h0:b.lo = 0) :
  (Instr.loadAt t (.pointer (some ⟨g,off,none⟩))).run P w = .ok (v.val ρ) w/\v.ok D:=by
 have hload:∀ s:Sc,(cvals ρ b.cells)[off]? = some (s.val ρ)->isAggD ty.desc = false->(Instr.loadAt t (.pointer (some ⟨g,off,none⟩))).run P w = .ok (s.val ρ) w:=by
  intro s hs ha
  have:w.cell? ⟨g,off,none⟩ = some (s.val ρ):=by rw [cell_of_row w g off _ _ _ hg];simpa using hs
  simp [Instr.loadAt,Instr.sureAddr,loadVar,isAgg_run hT hty,ha,this]
 unfold loadB at h
 rw [h0] at h
 simp only at h
 split at h
 ·simp only [Option.map_eq_some_iff,Prod.mk.injEq] at h
  obtain ⟨r,h1,_,rfl⟩:=h
  unfold partA at h1
  split at h1
  ·rename_i ha
   simp only at h1
   cases hb:Nat.beq (clen (takeC (dropC b.cells off) ty.sz)) ty.sz <;> rw [hb] at h1 <;> cases h1
   have hlen:clen (takeC (dropC b.cells off) ty.sz) = ty.sz:=by rw [<-Nat.beq_eq];exact hb
   refine ⟨?_,takeC_ok _ (dropC_ok _ hc)⟩
   have hr:=range_of_row w g off (cvals ρ b.cells) b.ty _ hg ty.sz
   rw [<-dropC_spec,<-takeC_spec] at hr
   have hd:(ty.desc).isRow = true:=by
    cases hdd:ty.desc <;> simp [hdd,isAggD] at ha <;> rfl
   exact run_loadAt_mid w g off t _ _ hr (und_of hT hty) hd (by rw [length_cvals,hlen];exact hT.ty.size _ _ hty)
  ·rename_i ha
   simp only [Option.map_eq_some_iff] at h1
   obtain ⟨s,hs,rfl⟩:=h1
   exact ⟨hload s (getCell_spec ρ hs) ha,getCell_ok hc hs⟩
 ·split at h
  ·cases h
  ·rename_i ha
   split at h
   ·rename_i k n f hcs
    cases h
    have hlt:off < n:=hp _ (by simp)
    refine ⟨hload (nrm k (f off)) ?_ ha,nrm_ok⟩
    rw [nrm_val]
    simp [hcs,cvals,Cell.vals,hlt]
   ·cases h
theorem store_sound {ty:Ty} {t:TypeId} (hty:T.ty t = some ty) {sym:Bool} {off:Nat} {b b':Blk} {x:V1} {pre:List Prop} (h:storeB ty sym off x b = some (pre,b')) (hp:∀ p ∈ pre,p)
  {D:Nat->Prop} (hc:cok D b.cells) (hx:x.ok D) (ρ:Ren) (g:Nat) (w:World) (h0:b.lo = 0) (hg:w.heap[g]? = some (.cells (cvals ρ b.cells).toArray b.ty (b.lo,b.hi))) :
  (Instr.storeAt t (.pointer (some ⟨g,off,none⟩)) (x.val ρ)).run P w = .ok () (w.setRow g (cvals ρ b'.cells).toArray)/\cok D b'.cells/\b'.ty = b.ty/\b'.lo = b.lo/\b'.hi = b.hi:=by
 have key:∀ (vs:List Value) (new:List Value),b.hi <= off->off + vs.length <= (cvals ρ b.cells).length->(x.val ρ).cells = vs.toArray->ty.sz = vs.length->(∀ v ∈ vs,v.oneCell' = true) ->
   new = (cvals ρ b.cells).take off ++ vs ++ (cvals ρ b.cells).drop (off + vs.length) ->
   (Instr.storeAt t (.pointer (some ⟨g,off,none⟩)) (x.val ρ)).run P w = .ok () (w.setRow g new.toArray):=by
  intro vs new hhi hle hcells hsz h1 hnew
  have:=run_storeCells_atF P g off b.ty (b.lo,b.hi) vs 0 _ w hg (by simpa using hhi) (by simpa using hle) h1
  simp only [Nat.add_zero] at this
  simp only [Instr.storeAt,Instr.sureAddr,storeVar,Sem.run_bind,Sem.run_pure,Result.andThen_ok,sizeOf_run hT hty,hcells,hsz,List.size_toArray,ne_eq,not_true_eq_false,if_false,this,hnew]
 unfold storeB at h
 split at h
 ·rename_i hl;omega
 ·cases h
 split at h
 ·cases h
 ·rename_i hb0
  have hhi:b.hi <= off:=by rw [<-Nat.ble_eq];exact hb0
  split at h
  ·rename_i s
   cases hb:Nat.beq ty.sz 1 <;> rw [hb] at h
   ·cases h
   ·have hsz:ty.sz = 1:=by rw [<-Nat.beq_eq];exact hb
    simp only [cond_true] at h
    have fin:∀ new:List Cell,off < clen b.cells->cvals ρ new = (cvals ρ b.cells).set off (s.val ρ) ->
      (Instr.storeAt t (.pointer (some ⟨g,off,none⟩)) ((V1.sc s).val ρ)).run P w = .ok () (w.setRow g (cvals ρ new).toArray):=by
     intro new hlt hn
     have hl:=length_cvals ρ b.cells
     refine key [s.val ρ] _ hhi (by simp;omega) (Sc.cells hx ρ) (by simpa using hsz) (by simpa using Sc.oneCell hx ρ) ?_
     rw [hn]
     simp only [List.length_singleton,List.append_assoc,List.singleton_append]
     rw [List.set_eq_take_append_cons_drop]
     rw [if_pos (by omega)]
    split at h
    ·simp only [Option.map_eq_some_iff,Prod.mk.injEq] at h
     obtain ⟨cs,h1,_,rfl⟩:=h
     have ⟨g1,g2⟩:=setCell_spec ρ h1
     exact ⟨fin cs g1 g2,setCell_ok hc hx h1,rfl,rfl,rfl⟩
    ·split at h
     ·rename_i k n f k' y hcs
      split at h
      ·rename_i hk
       subst hk
       cases h
       have hlt:off < n:=hp _ (by simp)
       have hset:setCell b.cells off (.w k y) = some [.ws k n (upd f off y)]:=by
        rw [hcs]
        have:Nat.blt off n = true:=by rw [Nat.blt_eq];exact hlt
        simp [setCell,this]
       have ⟨g1,g2⟩:=setCell_spec ρ hset
       exact ⟨fin _ g1 g2,setCell_ok hc (s:=.w k y) trivial hset,rfl,rfl,rfl⟩
      ·cases h
     ·rename_i k n f y hcs
      split at h
      ·rename_i hk
       subst hk
       cases h
       have hlt:off < n:=hp _ (by simp)
       have hset:setCell b.cells off (.it (.ofNat y)) = some [.ws .i64 n (upd f off y)]:=by
        rw [hcs]
        have:Nat.blt off n = true:=by rw [Nat.blt_eq];exact hlt
        simp [setCell,this]
       have ⟨g1,g2⟩:=setCell_spec ρ hset
       exact ⟨fin _ g1 g2,setCell_ok hc (s:=.it (.ofNat y)) trivial hset,rfl,rfl,rfl⟩
      ·cases h
     ·cases h
  ·rename_i cs
   cases hb:Nat.beq (clen cs) ty.sz <;> rw [hb] at h
   ·cases h
   ·have hsz:clen cs = ty.sz:=by rw [<-Nat.beq_eq];exact hb
    cases hb2:Nat.ble (off + ty.sz) (clen b.cells) <;> rw [hb2] at h
    ·cases h
    ·have hle:off + ty.sz <= clen b.cells:=by rw [<-Nat.ble_eq];exact hb2
     simp only [cond_true,Option.some.injEq,Prod.mk.injEq] at h
     obtain ⟨_,rfl⟩:=h
     refine ⟨?_,?_,rfl,rfl,rfl⟩
     ·refine key (cvals ρ cs) _ hhi (by rw [length_cvals,length_cvals,hsz];exact hle) rfl (by rw [length_cvals,hsz]) (cvals_oneCell hx ρ) ?_
      rw [cvals_append,cvals_append,takeC_spec,dropC_spec,length_cvals,hsz,List.append_assoc]
     ·intro c hc'
      rcases List.mem_append.1 hc' with h1 | h1
      ·exact takeC_ok _ hc c h1
      ·rcases List.mem_append.1 h1 with h1 | h1
       ·exact hx c h1
       ·exact dropC_ok _ hc c h1
theorem store_soundO {ty:Ty} {t:TypeId} (hty:T.ty t = some ty) {sym:Bool} {off:Nat} {b b':Blk} {x:V1} {pre:List Prop} (h:storeB ty sym off x b = some (pre,b')) (hp:∀ p ∈ pre,p)
  {D:Nat->Prop} (ρ:Ren) (i:Nat) (w:World) (h1:b.lo = 1) (hw:OwnAt ρ i b w) :
  ∃ cur',(Instr.storeAt t (.pointer (some ⟨ρ i,off,none⟩)) (x.val ρ)).run P w = .ok () (w.setRow (ρ i) cur')/\OwnAt ρ i b' (w.setRow (ρ i) cur')/\cok D b'.cells/\b'.lo = b.lo:=by
 unfold storeB at h
 split at h
 rotate_left
 ·cases h
 ·rename_i hl;omega
 split at h
 ·cases h
 split at h
 ·rename_i k' y k n f hcs
  split at h
  ·rename_i hk
   subst hk
   cases hb:(Nat.beq b.hi 1 && Nat.beq ty.sz 1) <;> rw [hb] at h <;> cases h
   simp only [Bool.and_eq_true,Nat.beq_eq] at hb
   have hlt:off < n:=hp _ (by simp)
   obtain ⟨cur,g1,g2,g3,g4,g5,g6⟩:=hw
   have hl:clen b.cells = n:=by rw [hcs];simp [clen,Cell.len]
   have hst:=run_storeCells_at P (ρ i) off b.ty [.int k (Int.ofNat (y % M k))] 0 cur w g1 (by simp;omega) (by simp [Value.oneCell'])
   simp only [Nat.add_zero] at hst
   refine ⟨(cur.toList.take off ++ [Value.int k (Int.ofNat (y % M k))] ++ cur.toList.drop (off + [Value.int k (Int.ofNat (y % M k))].length)).toArray,?_,⟨_,setRow_heap w (ρ i) cur _ b.ty _ g1,?_,g3,g4,?_,?_⟩,?_,rfl⟩
   ·simp only [Instr.storeAt,Instr.sureAddr,storeVar,Sem.run_bind,Sem.run_pure,Result.andThen_ok,sizeOf_run hT hty,V1.val,Sc.val,Value.cells,hb.2,List.size_toArray,List.length_singleton,ne_eq,not_true_eq_false,if_false]
    exact hst
   ·rw [<-g2]
    have:cur.toList.length = cur.size:=Array.length_toList
    simp only [List.size_toArray,List.length_append,List.length_take,List.length_drop,List.length_singleton]
    omega
   ·have:cur.toList.length = cur.size:=Array.length_toList
    simp only [List.size_toArray,List.length_append,List.length_take,List.length_drop,List.length_singleton,clen,Cell.len]
    omega
   ·have e:cur.toList.take off ++ [Value.int k (Int.ofNat (y % M k))] ++ cur.toList.drop (off + [Value.int k (Int.ofNat (y % M k))].length) = cur.toList.set off (.int k (Int.ofNat (y % M k))):=by
     have:cur.toList.length = cur.size:=Array.length_toList
     rw [List.set_eq_take_append_cons_drop,if_pos (by omega)]
     simp
    have hset:setCell b.cells off (.w k y) = some [.ws k n (upd f off y)]:=by
     rw [hcs]
     have:Nat.blt off n = true:=by rw [Nat.blt_eq];exact hlt
     simp [setCell,this]
    have hn:clen [Cell.ws k n (upd f off y)] = n:=by simp [clen,Cell.len]
    simp only at *
    rw [e,(setCell_spec ρ hset).2,List.take_set,hn,<-hl,g6]
    rfl
   ·intro c hc
    have:c = .ws k n (upd f off y):=by simpa using hc
    subst this;trivial
  ·cases h
 ·cases h
omit hT in
theorem loadB_lo {ty:Ty} {sym:Bool} {off:Nat} {b:Blk} {r:List Prop × AV} (h:loadB ty sym off b = some r):b.lo = 0∨b.lo = 3∨b.lo = 1:=by
 unfold loadB at h
 split at h
 ·exact .inr (.inr (by assumption))
 ·cases h
 ·exact .inr (.inl (by assumption))
 ·cases h
 ·exact .inl (by assumption)
omit hT in
theorem WinAt.get {ρ:Ren} {i:Nat} {b:Blk} {w:World} (hw:WinAt ρ i b w) {k:IntKind} {n:Nat} {f:Nat->Nat} {s:Sc} (hc:b.cells = [.ws k n f,.one s]) {j:Nat} (hj:j < n) :
  w.cell? ⟨ρ i,b.hi + j,none⟩ = some (.int k (Int.ofNat (f j % M k))):=by
 obtain ⟨arr,fr,h1,_,h3⟩:=hw
 have e:=h3 j (by rw [length_cvals,hc];simp [clen,Cell.len];exact hj)
 rw [cell_of_row w (ρ i) (b.hi + j) arr _ _ h1,e,hc]
 have hl:j < (List.map (fun j=>Value.int k (Int.ofNat (f j % M k))) (List.range n)).length:=by simpa using hj
 simp only [cvals,Cell.vals]
 rw [List.getElem?_append_left hl,List.getElem?_map,List.getElem?_range hj]
 rfl
omit hT in
theorem range_of_win {ρ:Ren} {i:Nat} {b:Blk} {w:World} (hw:WinAt ρ i b w) {off n:Nat} (h1:b.hi <= off) (h2:off - b.hi + n < clen b.cells):w.rangeAt (ρ i) off (((cvals ρ b.cells).drop (off - b.hi)).take n):=by
 intro j v hv
 obtain ⟨arr,fr,g1,_,g3⟩:=hw
 rw [cell_of_row w (ρ i) (off + j) arr _ _ g1]
 rw [List.getElem?_take] at hv
 split at hv
 ·rw [List.getElem?_drop] at hv
  have:=g3 (off - b.hi + j) (by rw [length_cvals];omega)
  rw [show b.hi + (off - b.hi + j) = off + j by omega,hv] at this
  exact this
 ·cases hv
theorem load_soundW {ty:Ty} {t:TypeId} (hty:T.ty t = some ty) {sym:Bool} {off:Nat} {b:Blk} {pre:List Prop} {v:AV} (h:loadB ty sym off b = some (pre,v)) (hp:∀ p ∈ pre,p)
  {D:Nat->Prop} (hc:cok D b.cells) (ρ:Ren) (i:Nat) (w:World) (hw:WinAt ρ i b w) (h3:b.lo = 3) :
  (Instr.loadAt t (.pointer (some ⟨ρ i,off,none⟩))).run P w = .ok (v.val ρ) w/\v.ok D:=by
 unfold loadB at h
 rw [h3] at h
 simp only at h
 split at h
 ·rename_i ha
  split at h
  ·cases h
  ·cases h
   have h1:b.hi <= off:=hp _ (List.mem_cons_self ..)
   have h2:off - b.hi + ty.sz < clen b.cells:=hp _ (List.mem_cons_of_mem _ (List.mem_cons_self ..))
   refine ⟨?_,takeC_ok _ (dropC_ok _ hc)⟩
   have hr:=range_of_win hw h1 h2
   rw [<-dropC_spec,<-takeC_spec] at hr
   have hd:(ty.desc).isRow = true:=by
    cases hdd:ty.desc <;> simp [hdd,isAggD] at ha <;> rfl
   have hlen:(cvals ρ (takeC (dropC b.cells (off - b.hi)) ty.sz)).length = ty.sz:=by
    rw [takeC_spec,dropC_spec,List.length_take,List.length_drop,length_cvals]
    omega
   exact run_loadAt_mid w (ρ i) off t _ _ hr (und_of hT hty) hd (by rw [hlen];exact hT.ty.size _ _ hty)
 ·rename_i ha
  split at h
  ·rename_i k n f s hcs
   cases h
   have h1:b.hi <= off:=hp _ (by simp)
   have h2:off < b.hi + n:=hp _ (by simp)
   have e:=hw.get hcs (j:=off - b.hi) (by omega)
   rw [show b.hi + (off - b.hi) = off by omega] at e
   refine ⟨?_,nrm_ok⟩
   simp [Instr.loadAt,Instr.sureAddr,loadVar,isAgg_run hT hty,ha,e,AV.val,V1.val,nrm_val]
  ·split at h
   ·cases h
    have h1:b.hi <= off:=hp _ (List.mem_cons_self ..)
    have h2:off - b.hi + 1 < clen b.cells:=hp _ (List.mem_cons_of_mem _ (List.mem_cons_self ..))
    have h4:getCell b.cells (off - b.hi) = some (.bo (boAt b.cells (off - b.hi))):=hp _ (List.mem_cons_of_mem _ (List.mem_cons_of_mem _ (List.mem_cons_self ..)))
    have e:=getCell_spec ρ h4
    obtain ⟨arr,fr,g1,_,g3⟩:=hw
    have g4:=g3 (off - b.hi) (by rw [length_cvals];omega)
    rw [show b.hi + (off - b.hi) = off by omega,e] at g4
    have ec:w.cell? ⟨ρ i,off,none⟩ = some ((Sc.bo (boAt b.cells (off - b.hi))).val ρ):=by
     rw [cell_of_row w (ρ i) off arr _ _ g1];exact g4
    refine ⟨?_,getCell_ok hc h4⟩
    simp [Instr.loadAt,Instr.sureAddr,loadVar,isAgg_run hT hty,ha,ec,AV.val,V1.val]
   ·cases h
theorem load_soundO {ty:Ty} {t:TypeId} (hty:T.ty t = some ty) {sym:Bool} {off:Nat} {b:Blk} {pre:List Prop} {v:AV} (h:loadB ty sym off b = some (pre,v)) (hp:∀ p ∈ pre,p)
  {D:Nat->Prop} (ρ:Ren) (i:Nat) (w:World) (hw:OwnAt ρ i b w) (h1:b.lo = 1) :
  (Instr.loadAt t (.pointer (some ⟨ρ i,off,none⟩))).run P w = .ok (v.val ρ) w/\v.ok D:=by
 unfold loadB at h
 rw [h1] at h
 simp only at h
 split at h
 ·cases h
 split at h
 ·cases h
 ·rename_i ha
  split at h
  ·rename_i k n f hcs
   cases h
   have hlt:off < n:=hp _ (by simp)
   obtain ⟨cur,g1,g2,g3,g4,g5,g6⟩:=hw
   have hl:clen b.cells = n:=by rw [hcs];simp [clen,Cell.len]
   have e:(cvals ρ b.cells)[off]? = some (.int k (Int.ofNat (f off % M k))):=by
    rw [hcs];simp [cvals,Cell.vals,hlt]
   rw [<-g6,List.getElem?_take_of_lt (by omega)] at e
   have ec:w.cell? ⟨ρ i,off,none⟩ = some (.int k (Int.ofNat (f off % M k))):=by
    rw [cell_of_row w (ρ i) off cur _ _ g1,<-Array.getElem?_toList];exact e
   refine ⟨?_,nrm_ok⟩
   simp [Instr.loadAt,Instr.sureAddr,loadVar,isAgg_run hT hty,ha,ec,AV.val,V1.val,nrm_val]
  ·cases h
omit hT in
theorem storeB_lo {ty:Ty} {sym:Bool} {off:Nat} {v:V1} {b:Blk} {r:List Prop × Blk} (h:storeB ty sym off v b = some r):b.lo = 0∨b.lo = 1:=by
 unfold storeB at h
 split at h
 ·exact .inr (by assumption)
 ·cases h
 ·exact .inl (by assumption)
omit hT in
theorem eqK_spec {a b:IntKind} (h:eqK a b = true):a = b:=by
 cases a <;> cases b <;> simp [eqK] at h <;> rfl
omit hT in
theorem catC_spec (ρ:Ren) (a b:List Cell):cvals ρ (catC a b) = cvals ρ a ++ cvals ρ b:=by
 unfold catC
 split
 ·simp [cvals]
 ·rename_i k n f k' m g
  split
  ·rename_i hk
   have:=eqK_spec hk
   subst this
   simp only [cvals,Cell.vals,List.append_nil]
   apply List.ext_getElem
   ·simp
   ·intro i h1 h2
    simp only [List.getElem_append,List.length_map,List.length_range,List.getElem_map,List.getElem_range,catF]
    by_cases hi:i < n
    ·have:Nat.blt i n = true:=by rw [Nat.blt_eq];exact hi
     simp [this,hi]
    ·have:Nat.blt i n = false:=by rw [<-Bool.not_eq_true,Nat.blt_eq];exact hi
     simp [this,hi]
  ·simp [cvals]
 ·exact cvals_append ρ a b
omit hT in
theorem catC_ok {D:Nat->Prop} {a b:List Cell} (ha:cok D a) (hb:cok D b):cok D (catC a b):=by
 unfold catC
 split
 ·exact hb
 ·split
  ·intro c hc;simp at hc;subst hc;trivial
  ·intro c hc;simp at hc;rcases hc with rfl | rfl <;> trivial
 ·intro c hc
  rcases List.mem_append.1 hc with h | h
  ·exact ha c h
  ·exact hb c h
omit hT in
theorem srcC_spec (ρ:Ren) {D:Nat->Prop} {sym:Bool} {cs ds:List Cell} {o m:Nat} {pre:List Prop} (h:srcC sym cs o m = some (pre,ds)) (hp:∀ p ∈ pre,p) (hc:cok D cs) :
  cvals ρ ds = ((cvals ρ cs).drop o).take m/\clen ds = m/\cok D ds:=by
 unfold srcC at h
 split at h
 ·simp only at h
  cases hb:Nat.beq (clen (takeC (dropC cs o) m)) m <;> rw [hb] at h <;> cases h
  exact ⟨by rw [takeC_spec,dropC_spec],by rw [<-Nat.beq_eq];exact hb,takeC_ok _ (dropC_ok _ hc)⟩
 ·split at h
  ·rename_i k N f
   cases h
   have hle:o + m <= N:=hp _ (List.mem_cons_self ..)
   refine ⟨?_,by simp [clen,Cell.len],fun c hc=>by simp at hc;subst hc;trivial⟩
   simp only [cvals,Cell.vals,List.append_nil]
   apply List.ext_getElem
   ·simp;omega
   ·intro i h1 h2
    simp [addN_eq]
  ·cases h
omit hT in
theorem heldC_spec {sym:Bool} {sz n:Nat} {h:Heap} {x:Sc} {pre:List Prop} {cs:List Cell} (he:heldC sym sz h x = some (pre,cs,n)) (hp:∀ p ∈ pre,p) {ρ:Ren} {w:World} (hr:RelH ρ h w) :
  ∃ a c,x.val ρ = .slice (some a) n c/\(∀ j v,(cvals ρ cs)[j]? = some v->w.cell? (a.add j) = some v)/\(cvals ρ cs).length = n * sz/\cok (Dm h) cs/\(∀ v ∈ cvals ρ cs,v.oneCell' = true):=by
 unfold heldC at he
 split at he
 ·rename_i b o n' c
  split at he
  ·cases he
  ·rename_i blk hblk
   split at he
   ·rename_i hlo
    split at he
    ·cases he
    ·rename_i p cs' hs
     cases he
     have hc:=hr.cok _ _ hblk
     have g1:=hr.row _ _ hblk hlo
     obtain ⟨e1,e2,e3⟩:=srcC_spec ρ hs hp hc
     refine ⟨⟨ρ b,o,none⟩,c,rfl,fun j v hj=>?_,by rw [length_cvals,e2,mulN_eq],e3,cvals_oneCell e3 ρ⟩
     rw [e1] at hj
     rw [Addr.add_mid]
     exact range_of_row w (ρ b) o _ _ _ g1 _ j v hj
   ·rename_i hlo
    split at he
    ·rename_i k N f s hcs
     cases he
     have h1:blk.hi <= o:=hp _ (by simp)
     have h2:o - blk.hi + mulN n sz <= N:=hp _ (by simp)
     have hc3:cok (Dm h) [Cell.ws k (mulN n sz) fun j=>f (o - blk.hi + j)]:=fun c hc=>by simp at hc;subst hc;trivial
     refine ⟨⟨ρ b,o,none⟩,c,rfl,fun j v hj=>?_,by simp [cvals,Cell.vals,mulN_eq],hc3,cvals_oneCell hc3 ρ⟩
     have hj':j < mulN n sz:=by
      have:=(List.getElem?_eq_some_iff.1 hj).1
      simpa [cvals,Cell.vals] using this
     have e:=(hr.win _ _ hblk hlo).get hcs (j:=o - blk.hi + j) (by omega)
     rw [show blk.hi + (o - blk.hi + j) = o + j by omega] at e
     rw [Addr.add_mid,e,<-hj]
     simp [cvals,Cell.vals,hj']
    ·cases he
   ·cases he
 ·rename_i b n'
  split at he
  ·cases he
  ·rename_i blk hblk
   split at he
   ·rename_i hlo
    have key:clen blk.cells = mulN n' sz->∃ a c,(Sc.so b n').val ρ = .slice (some a) n' c/\(∀ j v,(cvals ρ blk.cells)[j]? = some v->w.cell? (a.add j) = some v)/\(cvals ρ blk.cells).length = n' * sz/\cok (Dm h) blk.cells/\(∀ v ∈ cvals ρ blk.cells,v.oneCell' = true):=by
     intro hlen
     have hc:=hr.cok _ _ hblk
     obtain ⟨⟨cur,g1,g2,g3,g4,g5,g6⟩,_⟩:=hr.own _ _ hblk hlo
     refine ⟨⟨ρ b,0,none⟩,ρ (b + 1) - ρ b,rfl,fun j v hj=>?_,by rw [length_cvals,hlen,mulN_eq],hc,cvals_oneCell hc ρ⟩
     rw [Addr.add_mid,Nat.zero_add,cell_of_row w (ρ b) j cur _ _ g1]
     rw [<-g6,List.getElem?_take] at hj
     split at hj
     ·simpa using hj
     ·cases hj
    split at he
    ·cases he;exact key (hp _ (List.mem_cons_self ..))
    ·cases hb:Nat.beq (clen blk.cells) (mulN n' sz) <;> rw [hb] at he <;> cases he
     exact key (by rw [<-Nat.beq_eq];exact hb)
   ·cases he
 ·cases he
omit hT in
theorem hget_killO {h:Heap} {old:Option Nat} (ho:∀ i,old = some i->i < h.length) (i:Nat):hget (killO h old) i = if old = some i then some ⟨0,[],2,0⟩ else hget h i:=by
 cases old with
 | none=>simp [killO]
 | some j =>
  simp only [killO,Option.some.injEq]
  by_cases e:j = i
  ·subst e;rw [if_pos rfl,hget_hset_same (ho j rfl)]
  ·rw [if_neg e,hget_hset_ne (fun h=>e h.symm)]
omit hT in
theorem length_killO (h:Heap) (old:Option Nat):(killO h old).length = h.length:=by
 cases old <;> simp [killO,length_hset]
theorem toSame_spec {src dst:TypeId} (h:toSame T src dst = true):∃ e,src = dst/\P.underlying src = some (.slice e)/\P.underlying e = some (.int .u8):=by
 unfold toSame at h
 split at h
 ·rename_i ts h1 h2
  split at h
  ·rename_i e h3
   split at h
   ·rename_i te h4
    split at h
    ·rename_i h5
     have u1:=und_of hT h2
     have u2:=und_of hT h4
     rw [h3] at u1
     rw [h5] at u2
     exact ⟨e,by rw [<-Nat.beq_eq];exact h1,u1,u2⟩
    ·cases h
   ·cases h
  ·cases h
 ·cases h
theorem app_sound {sym:Bool} {t u e:TypeId} {ty te:Ty} (hty:T.ty t = some ty) (hd:ty.desc = .slice e) (hte:T.ty e = some te) {s x:Sc} {h h':Heap} {slot:Nat} {pre:List Prop} {v:AV}
  (he:appA sym e te.sz s x h slot = some (pre,v,h')) (hp:∀ p ∈ pre,p) {ρ:Ren} {w:World} (hr:RelH ρ h w) (hso:s.ok (Dm h)) :
  ∃ ρ' w',(Builtin.append_ #[t,t] u #[s.val ρ,x.val ρ]).run P w = .ok (v.val ρ') w'/\StepR (Dm h) ρ w (Dm h') ρ' w'/\RelH ρ' h' w'/\v.ok (Dm h'):=by
 have hu:=und_of hT hty
 rw [hd] at hu
 obtain ⟨i,hi,hisz⟩:=size_of hT hte
 obtain ⟨i',hi',hby⟩:=hT.bts _ _ hte
 rw [hi] at hi'
 cases hi'
 have hz:=hT.ty.zero _ _ hte
 rw [hi] at hz
 simp only [Option.bind_some] at hz
 have hzs:((te.zero.val fun _=>0).cells).size = te.sz:=by
  rw [(V1.cells_val (hT.ty.zok _ _ hte) _).1]
  simp [length_cvals,hT.zsz _ _ hte]
 unfold appA at he
 split at he
 ·cases he
 ·rename_i p1 old prc n hbase
  split at he
  ·cases he
  ·rename_i p2 cs m hheld
   split at he
   ·cases he
   ·rename_i hholes
    simp only [Bool.and_eq_true] at hholes
    obtain ⟨hh0,hh1⟩:=hholes
    have hall:(∀ p ∈ p1,p)/\(∀ p ∈ p2,p)/\n + m <= limN/\(isNil s = true->0 < m)/\v = .v1 (.sc (.so slot (n + m))) /\
      h' = hset (hset (killO h old) slot ⟨e,catC prc cs,1,te.sz⟩) (slot + 1) ⟨0,[],2,0⟩:=by
     simp only at he
     split at he
     ·cases he
      refine ⟨fun p hp'=>hp p (by simp [hp']),fun p hp'=>hp p (by simp [hp']),hp _ (by simp),hp (isNil s = true->0 < m) (by simp),rfl,rfl⟩
     ·cases hb:(Nat.ble (n + m) limN && (!isNil s || Nat.blt 0 m)) <;> rw [hb] at he <;> cases he
      simp only [Bool.and_eq_true,Bool.or_eq_true,Bool.not_eq_true',Nat.ble_eq,Nat.blt_eq] at hb
      refine ⟨fun p hp'=>hp p (by simp [hp']),fun p hp'=>hp p (by simp [hp']),hb.1,fun hn=>?_,rfl,rfl⟩
      rcases hb.2 with h1 | h1
      ·rw [hn] at h1;cases h1
      ·exact h1
    obtain ⟨hp1,hp2,hlim,hnil,rfl,rfl⟩:=hall
    obtain ⟨a,c,hxv,hcells,hlen,hcok,hone⟩:=heldC_spec hheld hp2 hr
    have hl63:n + m <= 17179869184:=hlim
    have hb48:Builtin.nextslicecap (n + m) 0 * i.bytes <= 281474976710656/\∀ old,old < n + m->Builtin.nextslicecap (n + m) old * i.bytes <= 281474976710656:=by
     have key:∀ old,old < n + m->Builtin.nextslicecap (n + m) old * i.bytes <= 281474976710656:=fun old ho=>growslice_fits ho (by
      have:(n + m) * i.bytes <= 17179869184 * 4096:=Nat.mul_le_mul hl63 hby
      omega)
     refine ⟨?_,key⟩
     rcases Nat.eq_zero_or_pos (n + m) with e | e
     ·rw [e];simp [Builtin.nextslicecap]
     ·exact key 0 e
    have fin:∀ (g cap:Nat) (cur:Array Value) (w':World),
      (Builtin.append_ #[t,t] u #[s.val ρ,x.val ρ]).run P w = .ok (.slice (some ⟨g,0,none⟩) (n + m) cap) w' ->
      (∀ i,old = some i->∃ c,hget h i = some c/\c.lo < 2) ->
      cok (Dm h) prc ->
      ((∃ i,old = some i/\g = ρ i/\(w.heap.size <= g + cap∨∃ j,Dm h j/\g + cap = ρ j))∨w.heap.size <= g) ->
      w'.heap[g]? = some (.cells cur e (0,0))->cur.size = cap * te.sz->cap <= maxLen->(cvals ρ prc).length + (cvals ρ cs).length <= cur.size->cur.toList.take ((cvals ρ prc).length + (cvals ρ cs).length) = cvals ρ prc ++ cvals ρ cs ->
      (∀ k,k < w.heap.size->(∀ i,old = some i->k ≠ ρ i)->w'.heap[k]? = w.heap[k]?)->w.heap.size <= w'.heap.size->w'.os = w.os->w'.tape = w.tape->w'.output = w.output ->
      ∃ ρ' w',(Builtin.append_ #[t,t] u #[s.val ρ,x.val ρ]).run P w = .ok ((AV.v1 (.sc (.so slot (n + m)))).val ρ') w'/\StepR (Dm h) ρ w (Dm (hset (hset (killO h old) slot ⟨e,catC prc cs,1,te.sz⟩) (slot + 1) ⟨0,[],2,0⟩)) ρ' w' /\
       RelH ρ' (hset (hset (killO h old) slot ⟨e,catC prc cs,1,te.sz⟩) (slot + 1) ⟨0,[],2,0⟩) w'/\(AV.v1 (.sc (.so slot (n + m)))).ok (Dm (hset (hset (killO h old) slot ⟨e,catC prc cs,1,te.sz⟩) (slot + 1) ⟨0,[],2,0⟩)):=by
     intro g cap cur w' hrun hold hpok hg hw hsize hcm hle htake hk hs2 hos htp hout
     have hlt0:=(isHole_lt hh0).1
     have hlt1:=(isHole_lt hh1).1
     have hol:∀ i,old = some i->i < h.length:=fun i hi=>let ⟨c,hc,_⟩:=hold i hi;hget_lt hc
     have hne:old ≠ some slot:=fun e=>by
      obtain ⟨c,hc,_⟩:=hold slot e
      rw [(isHole_lt hh0).2] at hc;cases hc
     have hne1:old ≠ some (slot + 1):=fun e=>by
      obtain ⟨c,hc,_⟩:=hold (slot + 1) e
      rw [(isHole_lt hh1).2] at hc;cases hc
     have hgets:∀ i,hget (hset (hset (killO h old) slot ⟨e,catC prc cs,1,te.sz⟩) (slot + 1) ⟨0,[],2,0⟩) i =
       if old = some i then some ⟨0,[],2,0⟩ else if i = slot then some ⟨e,catC prc cs,1,te.sz⟩ else if i = slot + 1 then some ⟨0,[],2,0⟩ else hget h i:=by
      intro i
      by_cases e1:i = slot + 1
      ·subst e1
       rw [hget_hset_same (by rw [length_hset,length_killO];exact hlt1),if_neg hne1,if_neg (by omega),if_pos rfl]
      ·rw [hget_hset_ne e1]
       by_cases e0:i = slot
       ·subst e0
        rw [hget_hset_same (by rw [length_killO];exact hlt0),if_neg hne,if_pos rfl]
       ·rw [hget_hset_ne e0,hget_killO hol,if_neg e0,if_neg e1]
     have hclen:clen (catC prc cs) = (cvals ρ prc).length + (cvals ρ cs).length:=by rw [<-length_cvals ρ,catC_spec];simp
     obtain ⟨ρ',st,rh,e0,e1⟩:=RelH.grow hr slot old ⟨e,catC prc cs,1,te.sz⟩ g cap cur hh0 hh1 hold (catC_ok hpok hcok) rfl hg hw hsize hcm (by rw [hclen];exact hle) (by rw [hclen,htake,catC_spec]) hk hs2 hos htp hout _ hgets
     refine ⟨ρ',w',?_,st,rh,?_⟩
     ·rw [hrun]
      simp only [AV.val,V1.val,Sc.val,e0]
      rw [e0] at e1
      rw [e1]
     ·refine ⟨⟨_,by rw [hgets,if_neg hne,if_pos rfl]⟩,⟨⟨0,[],2,0⟩,by rw [hgets,if_neg hne1,if_neg (by omega),if_pos rfl]⟩⟩
    have nilCase:s.val ρ = .slice none 0 0->prc = []->n = 0->0 < m->old = none->∃ ρ' w',(Builtin.append_ #[t,t] u #[s.val ρ,x.val ρ]).run P w = .ok ((AV.v1 (.sc (.so slot (n + m)))).val ρ') w'/\StepR (Dm h) ρ w (Dm (hset (hset (killO h old) slot ⟨e,catC prc cs,1,te.sz⟩) (slot + 1) ⟨0,[],2,0⟩)) ρ' w' /\
       RelH ρ' (hset (hset (killO h old) slot ⟨e,catC prc cs,1,te.sz⟩) (slot + 1) ⟨0,[],2,0⟩) w'/\(AV.v1 (.sc (.so slot (n + m)))).ok (Dm (hset (hset (killO h old) slot ⟨e,catC prc cs,1,te.sz⟩) (slot + 1) ⟨0,[],2,0⟩)):=fun hsv hprc hn hm hold=>by
     subst hprc;subst hn;subst hold
     have hg0:=grownCap_ge w m 0 e
     have hgm:=grownCap_le_maxLen w m 0 e (by simp only [maxLen];omega)
     have hrun:=run_append_nil (P:=P) w t u e i _ hu hi hz a m c (cvals ρ cs) (by rw [hlen,hisz]) hcells hm (by omega) (by
      have:m * i.bytes <= 17179869184 * 4096:=Nat.mul_le_mul (by omega) hby
      omega)
     rw [<-hsv,<-hxv] at hrun
     exact fin _ _ _ _ (by rw [Nat.zero_add];exact hrun) (fun i hi=>by cases hi) (fun c hc=>by cases hc) (.inr (Nat.le_refl _)) (heap_alloc_new w.drew _)
      (by
       simp only [Array.size_append,List.size_toArray,size_zeroCells,hzs,hlen]
       rw [<-Nat.add_mul];congr 1;omega) hgm (by simp [cvals]) (by simp [cvals]) (fun k hk _=>heap_alloc_old w.drew _ k hk) (by simp) rfl rfl rfl
    have ownCase:∀ (g0 cap0:Nat) (cur:Array Value),s.val ρ = .slice (some ⟨g0,0,none⟩) n cap0->(∃ i c,old = some i/\g0 = ρ i/\hget h i = some c/\c.lo < 2)->(n + m <= cap0->∃ j,Dm h j/\g0 + cap0 = ρ j)->w.heap[g0]? = some (.cells cur e (0,0))->cur.size = cap0 * te.sz ->
      cap0 <= maxLen->(cvals ρ prc).length = n * te.sz->n * te.sz <= cur.size->cur.toList.take (n * te.sz) = cvals ρ prc->cok (Dm h) prc->∃ ρ' w',(Builtin.append_ #[t,t] u #[s.val ρ,x.val ρ]).run P w = .ok ((AV.v1 (.sc (.so slot (n + m)))).val ρ') w'/\StepR (Dm h) ρ w (Dm (hset (hset (killO h old) slot ⟨e,catC prc cs,1,te.sz⟩) (slot + 1) ⟨0,[],2,0⟩)) ρ' w' /\
       RelH ρ' (hset (hset (killO h old) slot ⟨e,catC prc cs,1,te.sz⟩) (slot + 1) ⟨0,[],2,0⟩) w'/\(AV.v1 (.sc (.so slot (n + m)))).ok (Dm (hset (hset (killO h old) slot ⟨e,catC prc cs,1,te.sz⟩) (slot + 1) ⟨0,[],2,0⟩)):=fun g0 cap0 cur hsv hold hcapj hg0 hcs hcm hpl hple htk hpok=>by
     obtain ⟨io,co,ho1,ho2,ho3,ho4⟩:=hold
     have hold':∀ i,old = some i->∃ c,hget h i = some c/\c.lo < 2:=fun i hi=>by
      rw [ho1] at hi;cases hi;exact ⟨co,ho3,ho4⟩
     have holds:∀ j v,(cvals ρ prc)[j]? = some v->w.cell? ((⟨g0,0,none⟩:Addr).add j) = some v:=by
      intro j v hj
      rw [Addr.add_mid,Nat.zero_add,cell_of_row w g0 j cur _ _ hg0]
      rw [<-htk,List.getElem?_take] at hj
      split at hj
      ·simpa using hj
      ·cases hj
     by_cases hroom:n + m <= cap0
     ·have hsum:n * te.sz + m * te.sz <= cap0 * te.sz:=by rw [<-Nat.add_mul];exact Nat.mul_le_mul_right _ hroom
      have hrun:=run_append_room (P:=P) w t u e i hu hi g0 n cap0 cur hg0 a m c (cvals ρ cs) (by rw [hlen,hisz]) hcells hone hroom (by rw [hisz,hlen,hcs];exact hsum)
      rw [<-hsv,<-hxv,hisz] at hrun
      have hnew:=setRow_heap w g0 cur (cur.toList.take (n * te.sz) ++ cvals ρ cs ++ cur.toList.drop (n * te.sz + (cvals ρ cs).length)).toArray e (0,0) hg0
      refine fin _ _ _ _ hrun hold' hpok (.inl ⟨io,ho1,ho2,.inr (hcapj hroom)⟩) hnew ?_ hcm ?_ ?_ (fun k hk hne=>?_) (by simp [World.setRow]) rfl rfl rfl
      ·rw [<-hcs]
       have:cur.toList.length = cur.size:=Array.length_toList
       simp only [List.size_toArray,List.length_append,List.length_take,List.length_drop,hlen]
       omega
      ·have:cur.toList.length = cur.size:=Array.length_toList
       simp only [List.size_toArray,List.length_append,List.length_take,List.length_drop,hlen,hpl]
       omega
      ·rw [hpl,htk]
       rw [List.take_append_of_le_length (by simp [hpl])]
       rw [List.take_of_length_le (by simp [hpl])]
      ·simp only [World.setRow,Array.getElem?_modify]
       rw [if_neg (fun e=>hne io ho1 (by rw [<-ho2];exact e.symm))]
     ·have hg':=grownCap_ge w (n + m) cap0 e
      have hgm:=grownCap_le_maxLen w (n + m) cap0 e (by simp only [maxLen];omega)
      have hrun:=run_append_grow (P:=P) w t u e i _ hu hi hz ⟨g0,0,none⟩ n cap0 (cvals ρ prc) (by rw [hpl,hisz]) holds a m c (cvals ρ cs) (by rw [hlen,hisz]) hcells (by omega) (by omega) (hb48.2 _ (by omega))
      rw [<-hsv,<-hxv] at hrun
      refine fin _ _ _ _ hrun hold' hpok (.inr (Nat.le_refl _)) (heap_alloc_new w.drew _) ?_ hgm ?_ ?_ (fun k hk _=>heap_alloc_old w.drew _ k hk) (by simp) rfl rfl rfl
      ·simp only [Array.size_append,List.size_toArray,size_zeroCells,hzs,hlen,hpl]
       rw [<-Nat.add_mul,<-Nat.add_mul];congr 1;omega
      ·simp only [Array.size_append,List.size_toArray];omega
      ·simp only [Array.toList_append]
       rw [<-List.length_append]
       exact List.take_left
    unfold baseC at hbase
    split at hbase
    ·cases hbase
     exact nilCase rfl rfl rfl (hnil rfl) rfl
    ·rename_i b n'
     split at hbase
     ·cases hbase
     ·rename_i blk hblk
      split at hbase
      ·rename_i hlo
       split at hbase
       ·rename_i hck
        simp only [Bool.and_eq_true,Nat.beq_eq] at hck
        have hpair:clen blk.cells = mulN n' te.sz/\old = some b/\prc = blk.cells/\n = n':=by
         split at hbase
         ·cases hbase;exact ⟨hp1 _ (List.mem_cons_self ..),rfl,rfl,rfl⟩
         ·cases hb:Nat.beq (clen blk.cells) (mulN n' te.sz) <;> rw [hb] at hbase <;> cases hbase
          exact ⟨by rw [<-Nat.beq_eq];exact hb,rfl,rfl,rfl⟩
        obtain ⟨hcl,hold,hprc,hn⟩:=hpair
        rw [mulN_eq] at hcl
        obtain ⟨⟨cur,g1,g2,g3,g4,g5,g6⟩,g7⟩:=hr.own _ _ hblk hlo
        rw [hck.1] at g1
        rw [hck.2] at g2
        refine ownCase (ρ b) (ρ (b + 1) - ρ b) cur (by rw [hn];rfl) ⟨b,blk,hold,rfl,hblk,by omega⟩ (fun _=>⟨b + 1,g7,by omega⟩) g1 g2 g4 (by rw [hprc,length_cvals,hcl,hn]) (by rw [hn,<-hcl];exact g5) (by rw [hn,<-hcl,g6,hprc]) (by rw [hprc];exact hr.cok _ _ hblk)
       ·cases hbase
      ·cases hbase
    ·rename_i b
     split at hbase
     ·cases hbase
     ·rename_i blk hblk
      split at hbase
      ·rename_i hlo
       split at hbase
       ·rename_i hck
        simp only [Bool.and_eq_true,Nat.beq_eq] at hck
        split at hbase
        ·rename_i hce
         cases hbase
         have g1:=hr.row _ _ hblk hlo
         have hnil:cvals ρ blk.cells = []:=List.eq_nil_of_length_eq_zero (by rw [length_cvals,hce])
         rw [hnil,hlo,hck.1,hck.2] at g1
         exact ownCase (ρ b) 0 _ rfl ⟨b,blk,rfl,rfl,hblk,by omega⟩ (fun _=>⟨b,⟨blk,hblk⟩,by omega⟩) g1 (by simp) (Nat.zero_le _) (by simp [cvals]) (by simp) (by simp [cvals]) (fun c hc=>by cases hc)
        ·cases hbase
       ·cases hbase
      ·cases hbase
    ·rename_i b n' c'
     split at hbase
     ·cases hbase
     ·rename_i blk hblk
      split at hbase
      ·rename_i hlo
       split at hbase
       ·rename_i hck
        simp only [Bool.and_eq_true,Nat.beq_eq] at hck
        obtain ⟨k1,k2⟩:=hck
        have hpair:c' = n' + 1/\clen blk.cells = mulN (n' + 1) te.sz/\old = some b/\prc = blk.cells/\n = n' + 1:=by
         split at hbase
         ·cases hbase;exact ⟨hp1 _ (List.mem_cons_self ..),hp1 _ (List.mem_cons_of_mem _ (List.mem_cons_self ..)),rfl,rfl,rfl⟩
         ·split at hbase
          ·rename_i hb
           simp only [Bool.and_eq_true,Nat.beq_eq] at hb
           cases hbase;exact ⟨hb.1,hb.2,rfl,rfl,rfl⟩
          ·cases hbase
        obtain ⟨k3,k4,hold,hprc,hn⟩:=hpair
        subst hold;subst hprc;subst hn
        rw [mulN_eq] at k4
        have hm:0 < m:=hnil rfl
        have g1:=hr.row _ _ hblk hlo
        rw [hlo,k1,k2] at g1
        have hsz:(cvals ρ blk.cells).length = (n' + 1) * te.sz:=by rw [length_cvals,k4]
        refine ownCase (ρ b) (n' + 1) _ (by rw [k3];rfl) ⟨b,blk,rfl,rfl,hblk,by omega⟩ (fun h=>by omega) g1 (by rw [List.size_toArray,hsz]) (by simp only [maxLen];omega) hsz (by rw [List.size_toArray,hsz];exact Nat.le_refl _) (by rw [List.take_of_length_le (by rw [hsz];exact Nat.le_refl _)]) (hr.cok _ _ hblk)
       ·cases hbase
      ·cases hbase
    ·cases hbase
omit hT in
theorem list_get! {l:List Value} {i:Nat} (h:i < l.length):l.toArray[i]! = l[i]:=by
 simp [h]
omit hT in
theorem made_eq (l:List Value):∀ n:Nat,(madeCells l.toArray (n * l.length)).toList = (List.replicate n l).flatten
 | 0=>by simp [madeCells]
 | n + 1=>by
  have ih:=made_eq l n
  rw [List.replicate_succ,List.flatten_cons,<-ih]
  simp only [madeCells,Array.toList_map,Array.toList_range,List.size_toArray]
  rw [Nat.add_mul,Nat.one_mul,Nat.add_comm,List.range_add,List.map_append,List.map_map]
  rcases Nat.eq_zero_or_pos l.length with h0 | h0
  ·rw [h0]
   have:l = []:=List.eq_nil_of_length_eq_zero h0
   simp [this]
  ·congr 1
   ·apply List.ext_getElem
    ·simp
    ·intro i h1 h2
     simp only [List.getElem_map,List.getElem_range]
     rw [Nat.mod_eq_of_lt h2]
     exact list_get! h2
   ·refine List.map_congr_left fun i _=>?_
    simp only [Function.comp]
    rw [Nat.add_mod_left]
omit hT in
theorem repC_spec (ρ:Ren) (cs:List Cell):∀ n,cvals ρ (repC cs n) = (List.replicate n (cvals ρ cs)).flatten
 | 0=>rfl
 | n + 1=>by simp [repC,cvals_append,repC_spec ρ cs n,List.replicate_succ]
omit hT in
theorem zerosOf_spec (ρ:Ren) (z:V1) (n:Nat):cvals ρ (zerosOf z n) = (List.replicate n (cvals ρ z.cells)).flatten:=by
 unfold zerosOf
 split
 ·rename_i k x
  simp only [cvals,Cell.vals,V1.cells,Sc.val,List.append_nil]
  induction n with
  | zero=>rfl
  | succ n ih =>
   rw [List.range_succ,List.map_append,ih,List.replicate_succ',List.flatten_append]
   simp
 ·exact repC_spec ρ _ n
omit hT in
theorem zerosOf_ok {D:Nat->Prop} {z:V1} (h:z.ok D) (n:Nat):cok D (zerosOf z n):=by
 have key:cok D (repC z.cells n):=by
  induction n with
  | zero=>intro c hc;cases hc
  | succ n ih =>
   intro c hc
   rcases List.mem_append.1 hc with h1 | h1
   ·exact (V1.cells_val h fun _=>0).2 c h1
   ·exact ih c h1
 unfold zerosOf
 split
 ·intro c hc;simp at hc;subst hc;trivial
 ·exact key
theorem made_zeros {e:TypeId} {te:Ty} (hte:T.ty e = some te) (ρ:Ren) (n:Nat):madeCells (te.zero.val fun _=>0).cells (n * te.sz) = (cvals ρ (zerosOf te.zero n)).toArray:=by
 have hz:=(V1.cells_val (hT.ty.zok _ _ hte) fun _=>0).1
 have hzl:(cvals (fun _=>0) te.zero.cells).length = te.sz:=by rw [length_cvals,hT.zsz _ _ hte]
 rw [hz,<-hzl]
 apply Array.ext'
 rw [made_eq,zerosOf_spec]
 congr 2
 exact (cvals_agree (D:=fun _=>False) (fun _ h=>h.elim) ((V1.cells_val (hT.ty.zok _ _ hte) fun _=>0).2)).symm
theorem mk_run {t e:TypeId} {ty te:Ty} (hty:T.ty t = some ty) (hd:ty.desc = .slice e) (hte:T.ty e = some te) (ρ:Ren) (w:World) (l c:Int) (h0:0 <= l) (hlc:l <= c) (hc:c <= 17179869184) :
  (Instr.makeSlice t (.int .i64 l) (.int .i64 c)).run P w = .ok (.slice (some ⟨w.heap.size,0,none⟩) l.toNat c.toNat) (w.alloc (.cells (cvals ρ (zerosOf te.zero c.toNat)).toArray e)):=by
 have hu:=und_of hT hty
 rw [hd] at hu
 obtain ⟨i,hi,hisz⟩:=size_of hT hte
 obtain ⟨i',hi',hby⟩:=hT.bts _ _ hte
 rw [hi] at hi'
 cases hi'
 have hz:=hT.ty.zero _ _ hte
 rw [hi] at hz
 simp only [Option.bind_some] at hz
 have hb:(i.bytes:Int) * c <= 281474976710656:=by
  have h1:(i.bytes:Int) * c <= 4096 * 17179869184:=by
   have a1:(i.bytes:Int) <= 4096:=Int.ofNat_le.2 hby
   exact Int.le_trans (Int.mul_le_mul_of_nonneg_right a1 (by omega)) (Int.mul_le_mul_of_nonneg_left hc (by omega))
  omega
 rw [run_make w t e i _ hu hi hz .i64 .i64 l c h0 hlc hb (by omega),hisz,made_zeros hT hte ρ]
theorem bs_run {t e:TypeId} {ty te:Ty} (hty:T.ty t = some ty) (hd:ty.desc = .slice e) (hte:T.ty e = some te) {D:Nat->Prop} (ρ:Ren) (w:World) {n:Nat} {parts:List (Nat × AV)} {vs:List V1} (hvs:mapV1 (parts.map (·.2)) = some vs)
  (hn:n * te.sz <= 1000) {cs:List Cell} (hf:fillA (fun i=>some (mulN i te.sz,te.sz)) (zerosOf te.zero n) ((parts.map (·.1)).zip vs) = some cs) (hev:∀ p ∈ parts,p.2.ok D) :
  (Instr.buildSlice t n (parts.map fun p=>(p.1,p.2.val ρ)).toArray).run P w = .ok (.slice (some ⟨w.heap.size,0,none⟩) n n) (w.alloc (.cells (cvals ρ cs).toArray e))/\cok D cs:=by
 have hu:=und_of hT hty
 rw [hd] at hu
 obtain ⟨i,hi,hisz⟩:=size_of hT hte
 have hz:=hT.ty.zero _ _ hte
 rw [hi] at hz
 simp only [Option.bind_some] at hz
 obtain ⟨hm1,hm2⟩:=mapV1_spec ρ D hvs
 have hzok:cok D (zerosOf te.zero n):=zerosOf_ok (V1.ok_mono (fun _ h=>h.elim) (hT.ty.zok _ _ hte)) n
 have hvo:∀ p ∈ (parts.map (·.1)).zip vs,p.2.ok D:=fun p hp=>hm2 (fun x hx=>by
  obtain ⟨q,hq,rfl⟩:=List.mem_map.1 hx;exact hev _ hq) _ (List.of_mem_zip hp).2
 obtain ⟨h2,h3⟩:=fillA_spec ρ hf hzok hvo
 have hps:(((parts.map (·.1)).zip vs).map fun p=>(p.1,p.2.val ρ)) = parts.map fun p=>(p.1,p.2.val ρ):=by
  have:(((parts.map (·.1)).zip vs).map fun p=>(p.1,p.2.val ρ)) = (parts.map (·.1)).zip (vs.map (V1.val ρ)):=by
   rw [List.zip_map_right];rfl
  rw [this,hm1,List.map_map,List.zip_map']
  rfl
 rw [hps] at h2
 refine ⟨?_,h3⟩
 have hm:=made_zeros hT hte ρ n
 unfold madeCells at hm
 have h24:¬ (n * i.size > 2 ^ 24):=by rw [hisz];omega
 have hmul:(fun i=>some (mulN i te.sz,te.sz)) = (fun i=>some (i * te.sz,te.sz)):=funext fun i=>by rw [mulN_eq]
 rw [hmul] at h2
 unfold Instr.buildSlice
 by_cases h0:n * te.sz = 0
 ·rw [h0] at hm
  have hm':(cvals ρ (zerosOf te.zero n)).toArray = #[]:=by rw [<-hm];simp
  rw [hm'] at h2
  simp only [Sem.run_bind,run_underlying hu,Result.andThen_ok,sizeOf_run hT hte,h0,if_true,Array.range_zero',Array.map_empty]
  simp only [h2]
  simp [newRow_run]
 ·simp only [Sem.run_bind,run_underlying hu,Result.andThen_ok,sizeOf_run hT hte,h0,if_false]
  simp [h2,newRow_run,show ¬ (16777216 < n * te.sz) by omega,zeroValue,typeInfo,hi,hz,hm]
theorem str_sound {src dst:TypeId} (hts:toStr T src dst = true) {sym:Bool} {x:Sc} {h:Heap} {pre:List Prop} {v:AV} (he:strOf sym x h = some (pre,v)) (hp:∀ p ∈ pre,p) {ρ:Ren} {w:World} (hr:RelH ρ h w) :
  (convert src dst (x.val ρ)).run P w = .ok (v.val ρ) w/\∀ D,v.ok D:=by
 unfold toStr at hts
 split at hts
 ·rename_i ts td h1 h2
  split at hts
  ·rename_i e hd1 hd2
   split at hts
   ·rename_i te hte
    split at hts
    ·rename_i hd3
     have u1:=und_of hT h1
     have u2:=und_of hT h2
     have u3:=und_of hT hte
     rw [hd1] at u1;rw [hd2] at u2;rw [hd3] at u3
     have hn:∀ a l c,(convert src dst (.slice a l c)).run P w = (Conv.bytesToString (.slice a l c)).run P w:=fun a l c=>run_convert_bytes_string w src dst e a l c u1 u3 u2
     have hempty:(bytesF 0 fun _=>0) = ByteArray.empty:=by apply ByteArray.ext;simp [bytesF]
     have key:∀ (m n:Nat) (f:Nat->Nat) (p:List Prop),heldC sym 1 h x = some (p,[.ws .u8 m f],n)->(∀ q ∈ p,q)->m = n->(convert src dst (x.val ρ)).run P w = .ok (.string (bytesF n f)) w:=by
      intro m n f p hh hp' hmn
      subst hmn
      obtain ⟨a,c,hxv,hcells,hlen,_,_⟩:=heldC_spec hh hp' hr
      rw [hxv,hn]
      have hcv:cvals ρ [.ws .u8 m f] = ((List.range m).map fun j=>(Int.ofNat (f j % 256))).map (Value.int .u8):=by
       simp [cvals,Cell.vals,M]
      have hl:=run_loadCells_list (P:=P) w a _ hcells
      rw [hlen,Nat.mul_one,hcv] at hl
      rw [run_bytesToString w a m c _ hl]
      have hfold:∀ (l:List Int) (s:ByteArray),l.foldl (fun r n=>r.push (UInt8.ofNat n.toNat)) s = s ++ ByteArray.mk (l.map fun n=>UInt8.ofNat n.toNat).toArray:=by
       intro l
       induction l with
       | nil=>intro s;apply ByteArray.ext;simp [ByteArray.data_append]
       | cons a l ih=>intro s;rw [List.foldl_cons,ih];apply ByteArray.ext;simp [ByteArray.data_append]
      rw [hfold]
      have:ByteArray.empty ++ ByteArray.mk (((List.range m).map fun j=>Int.ofNat (f j % 256)).map fun n=>UInt8.ofNat n.toNat).toArray = bytesF m f:=by
       apply ByteArray.ext
       simp only [bytesF,ByteArray.data_append]
       apply Array.ext'
       simp only [Array.toList_append,List.map_map]
       show [] ++ _ = _
       rw [List.nil_append]
       refine List.map_congr_left fun j _=>?_
       apply UInt8.toNat_inj.1
       simp only [Function.comp,Int.ofNat_eq_natCast,Int.toNat_natCast,UInt8.toNat_ofNat']
       omega
      rw [this]
     unfold strOf at he
     split at he
     ·cases he
      refine ⟨?_,fun _=>trivial⟩
      rename_i ao
      simp only [Sc.val,AV.val,V1.val,hempty,hn]
      cases ao with
      | none=>simp [Conv.bytesToString]
      | some a' =>
       have hl:=run_loadCells_list (P:=P) w a' [] (fun j v h=>by simp at h)
       have:=run_bytesToString w a' 0 0 [] (by simpa using hl)
       simpa using this
     ·split at he
      ·rename_i p m f n hh
       split at he
       ·cases he
        exact ⟨key m n f p hh (fun q hq=>hp q (List.mem_append_left _ hq)) (hp _ (by simp)),fun _=>trivial⟩
       ·cases hb:Nat.beq m n <;> rw [hb] at he <;> cases he
        exact ⟨key m n f _ hh hp (by rw [<-Nat.beq_eq];exact hb),fun _=>trivial⟩
      ·rename_i p n hh
       split at he
       ·cases he
        refine ⟨?_,fun _=>trivial⟩
        obtain ⟨a,c,hxv,hcells,hlen,_,_⟩:=heldC_spec hh hp hr
        rw [hxv,hn]
        have hl:(loadCells a 0).run P w = .ok (([]:List Int).map (Value.int .u8)).toArray w:=by
         have:=run_loadCells_list (P:=P) w a [] (fun j v hj=>by simp at hj)
         simpa using this
        rw [run_bytesToString w a 0 c [] hl]
        simp [AV.val,V1.val,Sc.val,hempty]
       ·cases he
      ·cases he
    ·cases hts
   ·cases hts
  ·cases hts
 ·cases hts
theorem copy_sound {sym:Bool} {t t' u e:TypeId} {ty te:Ty} (hty:T.ty t = some ty) (hd:ty.desc = .slice e) (hte:T.ty e = some te) (hsz:te.sz = 1) {d x:Sc} {h h':Heap} {pre:List Prop} {v:AV}
  (he:copyA sym d x h = some (pre,v,h')) (hp:∀ p ∈ pre,p) {ρ:Ren} {w:World} (hr:RelH ρ h w) :
  ∃ w',(Builtin.copy_ #[t,t'] u #[d.val ρ,x.val ρ]).run P w = .ok (v.val ρ) w'/\StepR (Dm h) ρ w (Dm h') ρ w'/\RelH ρ h' w'/\v.ok (Dm h'):=by
 have hu:=und_of hT hty
 rw [hd] at hu
 obtain ⟨i,hi,hisz⟩:=size_of hT hte
 unfold copyA at he
 split at he
 ·rename_i ao
  split at he
  ·rename_i b o len cap
   cases he
   have hrun:(Builtin.copy_ #[t,t'] u #[.slice (some ⟨ρ b,o,none⟩) len cap,.slice ao 0 0]).run P w = .ok (goInt 0) w:=by
    cases ao with
    | none=>exact run_copy_nil (P:=P) w t t' u e ⟨ρ b,o,none⟩ len cap hu (by rw [hi];rfl)
    | some a' =>
     have hl:=run_loadCells_list (P:=P) w a' [] (fun j v h=>by simp at h)
     simp at hl
     simp [Builtin.copy_,run_underlying hu,Builtin.lenOf,Builtin.firstCells,sizeOf,typeInfo,hi,storeCells,hl]
   exact ⟨w,hrun,StepR.refl _ _ _,hr,trivial⟩
  ·cases he
 ·split at he
  ·rename_i b o len cap
   split at he
   ·cases he
   ·rename_i blk hblk
    split at he
    ·rename_i k N f hlo hhi hcs
     split at he
     ·rename_i p k' m g n hh
      split at he
      ·rename_i hk
       have:=eqK_spec hk
       subst this
       have hall:(∀ q ∈ p,q)/\m = n/\n <= len/\o + n <= N/\v = .v1 (.sc (.it (Int.ofNat n)))/\h' = hset h b { blk with cells:=[.ws k N (putF o n f g)] }:=by
        split at he
        ·cases he
         exact ⟨fun q hq=>hp q (by simp [hq]),hp _ (by simp),hp (n <= len) (by simp),hp (o + n <= N) (by simp),rfl,rfl⟩
        ·cases hb:(Nat.beq m n && (Nat.ble n len && Nat.ble (o + n) N)) <;> rw [hb] at he <;> cases he
         simp only [Bool.and_eq_true,Nat.ble_eq,Nat.beq_eq] at hb
         exact ⟨hp,hb.1,hb.2.1,hb.2.2,rfl,rfl⟩
       obtain ⟨hp',rfl,hle,hfit,rfl,rfl⟩:=hall
       obtain ⟨a,c,hxv,hcells,hlen,_,hone⟩:=heldC_spec hh hp' hr
       have g1:=hr.row _ _ hblk hlo
       rw [hcs,hlo,hhi] at g1
       have hrun:=run_copy_row (P:=P) w t t' u e (ρ b) o len cap a m c _ blk.ty (cvals ρ [.ws k m g]) hu (by rw [hi];simp [hisz,hsz]) g1
        (by rw [hlen,Nat.mul_one];exact (Nat.min_eq_left hle).symm) hcells (by rw [hlen];simp [cvals,Cell.vals];exact hfit) hone
       rw [<-hxv] at hrun
       have hnew:(cvals ρ [.ws k N f]).take o ++ cvals ρ [.ws k m g] ++ (cvals ρ [.ws k N f]).drop (o + (cvals ρ [.ws k m g]).length) = cvals ρ [.ws k N (putF o m f g)]:=by
        simp only [cvals,Cell.vals,List.append_nil]
        apply List.ext_getElem
        ·simp;omega
        ·intro j h1 h2
         simp at h1 h2
         simp only [List.getElem_append,List.length_append,List.length_take,List.length_map,List.length_range,List.getElem_map,List.getElem_range,List.getElem_take,List.getElem_drop,putF]
         have hoN:min o N = o:=by omega
         simp only [hoN]
         by_cases h3:j < o
         ·have:Nat.ble o j = false:=by rw [<-Bool.not_eq_true,Nat.ble_eq];omega
          rw [dif_pos (by omega),dif_pos h3,this];simp
         ·have e1:Nat.ble o j = true:=by rw [Nat.ble_eq];omega
          by_cases h4:j < o + m
          ·have:Nat.blt j (o + m) = true:=by rw [Nat.blt_eq];exact h4
           rw [dif_pos h4,dif_neg h3,this,e1];simp
          ·have:Nat.blt j (o + m) = false:=by rw [<-Bool.not_eq_true,Nat.blt_eq];exact h4
           rw [dif_neg h4,this,e1]
           simp only [Bool.true_and,cond_false]
           rw [show o + m + (j - (o + m)) = j by omega]
       rw [hnew] at hrun
       have hset:=RelH.set hr b blk { blk with cells:=[.ws k N (putF o m f g)] } hblk hlo (fun c hc=>by simp at hc;subst hc;trivial) rfl rfl (w':=w.setRow (ρ b) (cvals ρ [.ws k N (putF o m f g)]).toArray)
        (by rw [setRow_heap w (ρ b) _ _ _ _ g1,hlo,hhi])
        (fun k hk=>by simp only [World.setRow,Array.getElem?_modify];rw [if_neg (fun e=>hk e.symm)])
        (by simp [World.setRow]) rfl rfl rfl
       refine ⟨_,?_,hset.1,hset.2,trivial⟩
       rw [show (Sc.sl b o len cap).val ρ = .slice (some ⟨ρ b,o,none⟩) len cap from rfl,hrun,hlen]
       simp [AV.val,V1.val,Sc.val,goInt]
      ·cases he
     ·cases he
    ·cases he
  ·cases he
theorem eff_sound {G : Ctx} (hG : CtxOk P G) {sym : Bool} {op : Op} {e : Eff} (he : effOf T G ev sym op = some e) {h h' : Heap} {slot : Nat} {pre : List Prop} {v : AV} (hrun : e.run h slot = some (pre, v, h')) (hp : ∀ p ∈ pre, p)
    {ρ : Ren} {w : World} (hr : RelH ρ h w) (hev : ∀ x, (ev x).ok (Dm h)) (o : Oper) (ho : o.op = op) (a : Act) (ha : a.eval = fun x => (ev x).val ρ) (next : Act → World → Prop) (Q : Exit → Act → World → Prop)
    (hn : ∀ ρ' w', StepR (Dm h) ρ w (Dm h') ρ' w' → RelH ρ' h' w' → v.ok (Dm h') → next (a.put o.dst (v.val ρ')) w') :
    o.wp P a w next Q := by
  unfold Oper.wp
  rw [ha]
  have pureCase : ∀ {pre' v'}, pureOf T ev sym op = some (pre', v') → e = .pure pre' v' → o.upon P a next Q ((execOp (fun x => (ev x).val ρ) o).run P w) := by
    intro pre' v' h1 h2
    subst h2
    simp only [Eff.run, Option.some.injEq, Prod.mk.injEq] at hrun
    obtain ⟨rfl, rfl, rfl⟩ := hrun
    have := pure_sound hT h1 hp hev ρ o ho w
    rw [this.1, Oper.upon_value]
    exact hn ρ w (StepR.refl _ _ _) hr this.2
  unfold effOf at he
  split at he
  -- alloc
  · rename_i t
    split at he
    · cases he
    · rename_i ty hty
      cases he
      simp only [Eff.run] at hrun
      split at hrun
      · cases hrun
      · rename_i hh
        simp only [Option.some.injEq, Prod.mk.injEq] at hrun
        obtain ⟨rfl, rfl, rfl⟩ := hrun
        have hz := hT.ty.zero _ _ hty
        have hzok := hT.ty.zok _ _ hty
        have hzv : ty.zero.val ρ = ty.zero.val (fun _ => 0) := V1.val_agree (D := fun _ => False) (fun _ h => h.elim) hzok
        obtain ⟨it, hi1, hi2⟩ := size_of hT hty
        rw [hi1] at hz
        simp only [Option.bind_some] at hz
        rw [← hzv] at hz
        have hzo := V1.cells_val (D := Dm h) (V1.ok_mono (fun _ h => h.elim) hzok) ρ
        have hex : (execOp (fun x => (ev x).val ρ) o).run P w = .ok (.value (.pointer (some ⟨w.heap.size, 0, none⟩))) (w.alloc (.cells (cvals ρ ty.zero.cells).toArray t)) := by
          unfold execOp
          rw [ho]
          simp [Instr.alloc, zeroValue, typeInfo, hi1, hz, newVar, newRow_run, hzo.1]
        obtain ⟨ρ', h1, h2, h3⟩ := RelH.alloc hr slot ⟨t, ty.zero.cells, 0, 0⟩ hh hzo.2 rfl rfl
        rw [hex, Oper.upon_value]
        have := hn ρ' _ h1 h2 ((Dm_hset (isHole_lt hh).1 slot).2 (.inl rfl))
        simpa [ptrOf, AV.val, V1.val, Sc.val, h3] using this
  -- box
  · rename_i t x
    split at he
    · cases he
    · rename_i x' hx'
      cases he
      simp only [Eff.run] at hrun
      split at hrun
      · cases hrun
      · rename_i hh
        simp only [Option.some.injEq, Prod.mk.injEq] at hrun
        obtain ⟨rfl, rfl, rfl⟩ := hrun
        have hs := asV1_spec hx' ρ (Dm h)
        have hzo := V1.cells_val (hs.2 (hev _)) ρ
        have hex : (execOp (fun x => (ev x).val ρ) o).run P w = .ok (.value (.pointer (some ⟨w.heap.size, 0, none⟩))) (w.alloc (.cells (cvals ρ x'.cells).toArray t)) := by
          unfold execOp
          rw [ho]
          simp [Instr.box, newVar, newRow_run, hs.1, hzo.1]
        obtain ⟨ρ', h1, h2, h3⟩ := RelH.alloc hr slot ⟨t, x'.cells, 0, 0⟩ hh hzo.2 rfl rfl
        rw [hex, Oper.upon_value]
        have := hn ρ' _ h1 h2 ((Dm_hset (isHole_lt hh).1 slot).2 (.inl rfl))
        simpa [ptrOf, AV.val, V1.val, Sc.val, h3] using this
  -- load
  · rename_i t x
    split at he
    · rename_i b off ty hs hty
      cases he
      simp only [Eff.run] at hrun
      split at hrun
      · cases hrun
      · rename_i pre' v' hg
        simp only [Option.some.injEq, Prod.mk.injEq] at hrun
        obtain ⟨rfl, rfl, rfl⟩ := hrun
        split at hg
        · cases hg
        · rename_i blk hblk
          have g2 := hr.cok _ _ hblk
          have this : (Instr.loadAt t (.pointer (some ⟨ρ b, off, none⟩))).run P w = .ok (AV.val ρ v') w ∧ v'.ok (Dm h) := by
            rcases loadB_lo hg with hlo | hlo | hlo
            · exact load_sound hT hty hg hp g2 ρ (ρ b) w (hr.row _ _ hblk hlo) hlo
            · exact load_soundW hT hty hg hp g2 ρ b w (hr.win _ _ hblk hlo) hlo
            · exact load_soundO hT hty hg hp ρ b w (hr.own _ _ hblk hlo).1 hlo
          have hsv := (asSc_spec hs ρ (Dm h)).1
          have hex : (execOp (fun x => (ev x).val ρ) o).run P w = .ok (.value (v'.val ρ)) w := by
            unfold execOp
            rw [ho]
            simp only [hsv, Sc.val, Sem.run_bind, this.1, Result.andThen_ok]
            rfl
          rw [hex, Oper.upon_value]
          exact hn ρ w (StepR.refl _ _ _) hr this.2
    · cases he
  -- store
  · rename_i t x y
    split at he
    · rename_i b off ty xv hs hty hy
      cases he
      simp only [Eff.run] at hrun
      split at hrun
      · cases hrun
      · rename_i blk hblk
        simp only [Option.map_eq_some_iff, Prod.mk.injEq] at hrun
        obtain ⟨⟨pre', blk'⟩, h1, rfl, rfl, rfl⟩ := hrun
        have hlo := storeB_lo h1
        have g2 := hr.cok _ _ hblk
        have hyv := asV1_spec hy ρ (Dm h)
        have hsv := (asSc_spec hs ρ (Dm h)).1
        rcases hlo with hlo | hlo
        rotate_left
        · obtain ⟨cur', s1, s2, s3, s4⟩ := store_soundO hT hty h1 hp (D := Dm h) ρ b w hlo (hr.own _ _ hblk hlo).1
          have hex : (execOp (fun x => (ev x).val ρ) o).run P w = .ok .skip (w.setRow (ρ b) cur') := by
            unfold execOp
            rw [ho]
            simp only [hsv, hyv.1, Sc.val, Sem.run_bind, s1, Result.andThen_ok]
            rfl
          rw [hex, Oper.upon_skip]
          have hse := RelH.setO hr b blk blk' hblk hlo s3 s4 s2
            (fun k hk => by simp only [World.setRow, Array.getElem?_modify]; rw [if_neg (fun e => hk e.symm)])
            (by simp [World.setRow]) rfl rfl rfl
          have hok : undefA.ok (Dm (hset h b blk')) := by intro v hv; cases hv
          exact hn ρ _ hse.1 hse.2 hok
        have g1 := hr.row _ _ hblk hlo
        have hst := store_sound hT hty h1 hp g2 (hyv.2 (hev _)) ρ (ρ b) w hlo g1
        have hex : (execOp (fun x => (ev x).val ρ) o).run P w = .ok .skip (w.setRow (ρ b) (cvals ρ blk'.cells).toArray) := by
          unfold execOp
          rw [ho]
          simp only [hsv, hyv.1, Sc.val, Sem.run_bind, hst.1, Result.andThen_ok]
          rfl
        rw [hex, Oper.upon_skip]
        have hse := RelH.set hr b blk blk' hblk hlo hst.2.1 hst.2.2.2.1 hst.2.2.2.2 (w' := w.setRow (ρ b) (cvals ρ blk'.cells).toArray)
          (by rw [setRow_heap w (ρ b) _ _ _ _ g1, hst.2.2.1, hst.2.2.2.1, hst.2.2.2.2])
          (fun k hk => by simp only [World.setRow, Array.getElem?_modify]; rw [if_neg (fun e => hk e.symm)])
          (by simp [World.setRow]) rfl rfl rfl
        have hok : undefA.ok (Dm (hset h b blk')) := by intro v hv; cases hv
        exact hn ρ _ hse.1 hse.2 hok
    · cases he
  -- call
  · rename_i f args ats
    split at he
    · rename_i f' caps hf
      split at he
      · cases he
      · rename_i c hc
        have hcok := hG _ _ hc
        have hfv := asSc_spec hf ρ (Dm h)
        simp only at he
        generalize has : (args.toList.map ev ++ caps.map fun b => AV.v1 (.sc (.pt b 0))) = ars at he
        have haok : ∀ x ∈ ars, x.ok (Dm h) := by
          subst has
          intro x hx
          rcases List.mem_append.1 hx with hx | hx
          · obtain ⟨q, _, rfl⟩ := List.mem_map.1 hx; exact hev _
          · obtain ⟨q, hq, rfl⟩ := List.mem_map.1 hx
            exact hfv.2 (hev _) q hq
        have hex : (execOp (fun x => (ev x).val ρ) o).run P w = (callFunc f' (ars.map (AV.val ρ)).toArray).run P w := by
          unfold execOp
          rw [ho]
          have e1 : ((args.map fun x => (ev x).val ρ) ++ (caps.map fun c => Value.pointer (some ⟨ρ c, 0, none⟩)).toArray) = (ars.map (AV.val ρ)).toArray := by
            subst has
            apply Array.ext'
            simp only [Array.toList_append, Array.toList_map, List.map_append, List.map_map]
            rfl
          simp only [resolve, hfv.1, Sc.val, Deferred.ofValue, Sem.run_bind, Sem.run_pure, Result.andThen_ok, invoke, Array.empty_append]
          rw [e1]
        rw [hex]
        split at he
        · rename_i C
          simp only [Option.map_eq_some_iff] at he
          obtain ⟨⟨p1, v1⟩, h1, rfl⟩ := he
          simp only [Eff.run, Option.some.injEq, Prod.mk.injEq] at hrun
          obtain ⟨rfl, rfl, rfl⟩ := hrun
          exact hcok ars _ _ h1 hp h ρ w hr haok o a next Q hn
        · rename_i C
          cases he
          simp only [Eff.run] at hrun
          split at hrun
          · cases hrun
          · rename_i p1 v1 h1
            simp only [Option.some.injEq, Prod.mk.injEq] at hrun
            obtain ⟨rfl, rfl, rfl⟩ := hrun
            exact hcok.1 ars h _ _ h1 hp ρ w hr haok o a next Q hn
        · rename_i C
          cases he
          simp only [Eff.run] at hrun
          exact hcok ars h slot _ _ _ hrun hp ρ w hr haok o a next Q hn
        · rename_i C
          cases he
          simp only [Eff.run] at hrun
          exact hcok.1 ars h slot _ _ _ hrun hp ρ w hr haok o a next Q hn
    · cases he
  -- len
  · rename_i args ats
    split at he
    · rename_i x t hargs hats
      split at he
      · rename_i s hs
        simp only [Option.map_eq_some_iff] at he
        obtain ⟨l, hl, rfl⟩ := he
        simp only [Eff.run, Option.some.injEq, Prod.mk.injEq] at hrun
        obtain ⟨rfl, rfl, rfl⟩ := hrun
        have hsv := (asSc_spec hs ρ (Dm h)).1
        have e1 : args = #[x] := by apply Array.ext'; simpa using hargs
        have e2 : ats = #[t] := by apply Array.ext'; simpa using hats
        have hex : (execOp (fun x => (ev x).val ρ) o).run P w = .ok (.value (.int .i64 (Int.ofNat l))) w := by
          unfold execOp
          rw [ho, e1, e2]
          unfold lenA at hl
          split at hl
          all_goals first
            | (cases hl; done)
            | (split at hl
               · rename_i ty hty
                 split at hl
                 · rename_i hd
                   have hu := und_of hT hty
                   rw [hd] at hu
                   cases hl
                   simp [resolve, invoke, builtin, Builtin.len_, hsv, Sc.val, run_underlying hu, goInt, size_bytesF]
                 · cases hl
               · cases hl)
        rw [hex, Oper.upon_value]
        exact hn ρ w (StepR.refl _ _ _) hr trivial
      · cases he
    · cases he
  -- cap
  · rename_i args ats
    split at he
    · rename_i x t hargs hats
      split at he
      · rename_i s hs
        simp only [Option.map_eq_some_iff] at he
        obtain ⟨l, hl, rfl⟩ := he
        simp only [Eff.run, Option.some.injEq, Prod.mk.injEq] at hrun
        obtain ⟨rfl, rfl, rfl⟩ := hrun
        have hsv := (asSc_spec hs ρ (Dm h)).1
        have e1 : args = #[x] := by apply Array.ext'; simpa using hargs
        have e2 : ats = #[t] := by apply Array.ext'; simpa using hats
        have hex : (execOp (fun x => (ev x).val ρ) o).run P w = .ok (.value (.int .i64 (Int.ofNat l))) w := by
          unfold execOp
          rw [ho, e1, e2]
          unfold capA at hl
          split at hl
          all_goals first
            | (cases hl; done)
            | (split at hl
               · rename_i ty hty
                 split at hl
                 · rename_i hd
                   have hu := und_of hT hty
                   rw [hd] at hu
                   cases hl
                   simp [resolve, invoke, builtin, Builtin.cap_, hsv, Sc.val, run_underlying hu, goInt]
                 · cases hl
               · cases hl)
        rw [hex, Oper.upon_value]
        exact hn ρ w (StepR.refl _ _ _) hr trivial
      · cases he
    · cases he
  -- max
  · rename_i args ats
    split at he
    · rename_i x y hargs
      split at he
      · rename_i a b ha hb
        cases he
        simp only [Eff.run, Option.some.injEq, Prod.mk.injEq] at hrun
        obtain ⟨rfl, rfl, rfl⟩ := hrun
        have h1 := (asSc_spec ha ρ (Dm h)).1
        have h2 := (asSc_spec hb ρ (Dm h)).1
        have e1 : args = #[x, y] := by apply Array.ext'; simpa using hargs
        have hex : (execOp (fun x => (ev x).val ρ) o).run P w = .ok (.value ((AV.v1 (.sc (.it (bif ilt a b then b else a)))).val ρ)) w := by
          unfold execOp
          rw [ho, e1]
          have hi : (if b > a then b else a) = (bif ilt a b then b else a) := by
            cases hc : ilt a b
            · have : ¬ b > a := fun e => by rw [(ilt_iff _ _).2 e] at hc; cases hc
              rw [if_neg this]; rfl
            · rw [if_pos ((ilt_iff _ _).1 hc)]; rfl
          have hm : (Builtin.max_ ats o.type #[.int .i64 a, .int .i64 b]).run P w = .ok (.int .i64 (bif ilt a b then b else a)) w := by
            rw [← hi]; rfl
          simp only [resolve, Sem.run_bind, Sem.run_pure, Result.andThen_ok, invoke, builtin, List.map_toArray, List.map_cons, List.map_nil, h1, h2, Sc.val, hm]
          rfl
        rw [hex, Oper.upon_value]
        exact hn ρ w (StepR.refl _ _ _) hr trivial
      · cases he
    · cases he
  -- min
  · rename_i args ats
    split at he
    · rename_i x y hargs
      split at he
      · rename_i a b ha hb
        cases he
        simp only [Eff.run, Option.some.injEq, Prod.mk.injEq] at hrun
        obtain ⟨rfl, rfl, rfl⟩ := hrun
        have h1 := (asSc_spec ha ρ (Dm h)).1
        have h2 := (asSc_spec hb ρ (Dm h)).1
        have e1 : args = #[x, y] := by apply Array.ext'; simpa using hargs
        have hex : (execOp (fun x => (ev x).val ρ) o).run P w = .ok (.value ((AV.v1 (.sc (.it (bif ilt b a then b else a)))).val ρ)) w := by
          unfold execOp
          rw [ho, e1]
          have hi : (if b < a then b else a) = (bif ilt b a then b else a) := by
            cases hc : ilt b a
            · have : ¬ b < a := fun e => by rw [(ilt_iff _ _).2 e] at hc; cases hc
              rw [if_neg this]; rfl
            · rw [if_pos ((ilt_iff _ _).1 hc)]; rfl
          have hm : (Builtin.min_ ats o.type #[.int .i64 a, .int .i64 b]).run P w = .ok (.int .i64 (bif ilt b a then b else a)) w := by
            rw [← hi]; rfl
          simp only [resolve, Sem.run_bind, Sem.run_pure, Result.andThen_ok, invoke, builtin, List.map_toArray, List.map_cons, List.map_nil, h1, h2, Sc.val, hm]
          rfl
        rw [hex, Oper.upon_value]
        exact hn ρ w (StepR.refl _ _ _) hr trivial
      · rename_i a b ha hb
        cases he
        simp only [Eff.run, Option.some.injEq, Prod.mk.injEq] at hrun
        obtain ⟨rfl, rfl, rfl⟩ := hrun
        have h1 := (asSc_spec ha ρ (Dm h)).1
        have h2 := (asSc_spec hb ρ (Dm h)).1
        have e1 : args = #[x, y] := by apply Array.ext'; simpa using hargs
        have hex : (execOp (fun x => (ev x).val ρ) o).run P w = .ok (.value ((AV.v1 (.sc (.w .u64 (bif Nat.blt (b % M .u64) (a % M .u64) then b else a)))).val ρ)) w := by
          unfold execOp
          rw [ho, e1]
          have hm : (Builtin.min_ ats o.type #[.int .u64 (Int.ofNat (a % M .u64)), .int .u64 (Int.ofNat (b % M .u64))]).run P w = .ok (.int .u64 (Int.ofNat ((bif Nat.blt (b % M .u64) (a % M .u64) then b else a) % M .u64))) w := by
            have hi : (if Int.ofNat (b % M .u64) < Int.ofNat (a % M .u64) then Int.ofNat (b % M .u64) else Int.ofNat (a % M .u64)) = Int.ofNat ((bif Nat.blt (b % M .u64) (a % M .u64) then b else a) % M .u64) := by
              cases hc : Nat.blt (b % M .u64) (a % M .u64)
              · have : ¬ Int.ofNat (b % M .u64) < Int.ofNat (a % M .u64) := fun e => by
                  have : b % M .u64 < a % M .u64 := Int.ofNat_lt.1 e
                  exact absurd ((Nat.blt_eq).mpr this) (by rw [hc]; decide)
                rw [if_neg this]; rfl
              · have : Int.ofNat (b % M .u64) < Int.ofNat (a % M .u64) := Int.ofNat_lt.2 (by rw [← Nat.blt_eq]; exact hc)
                rw [if_pos this]; rfl
            rw [← hi]; rfl
          simp only [resolve, Sem.run_bind, Sem.run_pure, Result.andThen_ok, invoke, builtin, List.map_toArray, List.map_cons, List.map_nil, h1, h2, Sc.val, hm]
          rfl
        rw [hex, Oper.upon_value]
        exact hn ρ w (StepR.refl _ _ _) hr trivial
      · cases he
    · cases he
  -- append
  · rename_i args ats
    split at he
    · rename_i s x t u hargs hats
      split at he
      · rename_i s' x' ty hs hx hty htu
        rw [Nat.beq_eq] at htu
        subst htu
        split at he
        · rename_i e' hd
          split at he
          · cases he
          · rename_i te hte
            cases hb : Nat.beq te.sz 0 <;> rw [hb] at he
            rotate_left
            · cases he
            have h1 := asSc_spec hs ρ (Dm h)
            have h2 := asSc_spec hx ρ (Dm h)
            have e1 : args = #[s, x] := by apply Array.ext'; simpa using hargs
            have e2 : ats = #[t, t] := by apply Array.ext'; simpa using hats
            simp only [cond_false] at he
            cases hem : emptyX sym s' x' <;> rw [hem] at he <;> simp only at he
            rotate_left
            · cases he
              simp only [Eff.run, Option.some.injEq, Prod.mk.injEq] at hrun
              obtain ⟨rfl, rfl, rfl⟩ := hrun
              have hu := und_of hT hty
              rw [hd] at hu
              have r1 : (Builtin.append_ #[t, t] o.type #[s'.val ρ, x'.val ρ]).run P w = .ok (s'.val ρ) w := by
                unfold emptyX at hem
                split at hem
                · rename_i b o' c ao
                  cases ao with
                  | none => simp [Builtin.append_, Sc.val, run_underlying hu, sizeOf_run hT hte, Builtin.lenOf, Builtin.firstCells, storeCells]
                  | some a' => simp [Builtin.append_, Sc.val, run_underlying hu, sizeOf_run hT hte, Builtin.lenOf, Builtin.firstCells, storeCells, loadCells, loadCellsFrom]
                · rename_i ao
                  cases ao with
                  | none => simp [Builtin.append_, Sc.val, run_underlying hu, sizeOf_run hT hte, Builtin.lenOf, Builtin.firstCells]
                  | some a' => simp [Builtin.append_, Sc.val, run_underlying hu, sizeOf_run hT hte, Builtin.lenOf, Builtin.firstCells, loadCells, loadCellsFrom]
                · rename_i b o' c
                  simp [Builtin.append_, Sc.val, run_underlying hu, sizeOf_run hT hte, Builtin.lenOf, Builtin.firstCells, loadCells, loadCellsFrom]
                · rename_i b o' c b2 o2 n2 c2
                  have h0 : n2 = 0 := by
                    cases sym
                    · simpa using hem
                    · cases hem
                  subst h0
                  simp [Builtin.append_, Sc.val, run_underlying hu, sizeOf_run hT hte, Builtin.lenOf, Builtin.firstCells, loadCells, loadCellsFrom, storeCells]
                · cases hem
              have hex : (execOp (fun x => (ev x).val ρ) o).run P w = .ok (.value (s'.val ρ)) w := by
                unfold execOp
                rw [ho, e1, e2]
                simp only [resolve, Sem.run_bind, Sem.run_pure, Result.andThen_ok, invoke, builtin, List.map_toArray, List.map_cons, List.map_nil, h1.1, h2.1, r1]
              rw [hex, Oper.upon_value]
              exact hn ρ w (StepR.refl _ _ _) hr (h1.2 (hev _))
            split at he
            · rename_i b n' hsn
              cases he
              simp only [Eff.run] at hrun
              split at hrun
              · cases hrun
              rename_i p1 v1 hst
              simp only [Option.some.injEq, Prod.mk.injEq] at hrun
              obtain ⟨rfl, rfl, rfl⟩ := hrun
              unfold headA at hst
              split at hst
              rotate_left
              · cases hst
              rename_i t0 k0 N g0 hbk
              cases hst
              have hn1 : n' ≤ N := hp _ (by simp)
              obtain ⟨⟨cur, o1, o2, o3, o4, o5, o6⟩, _⟩ := hr.own _ _ hbk rfl
              have hN : N ≤ cur.size := by simpa [clen, Cell.len] using o5
              have hcap : n' ≤ ρ (b + 1) - ρ b := by
                have : cur.size = ρ (b + 1) - ρ b := by rw [o2]; exact Nat.mul_one _
                omega
              have hu := und_of hT hty
              rw [hd] at hu
              unfold soNil at hsn
              split at hsn
              rotate_left
              · cases hsn
              rename_i b0 n0 ao
              cases hsn
              have r1 : (Builtin.append_ #[t, t] o.type #[(Sc.so b n').val ρ, (Sc.rw (.slice ao 0 0)).val ρ]).run P w = .ok ((Sc.so b n').val ρ) w := by
                cases ao with
                | none => simp [Builtin.append_, Sc.val, run_underlying hu, sizeOf_run hT hte, Builtin.lenOf, Builtin.firstCells, storeCells, hcap]
                | some a' => simp [Builtin.append_, Sc.val, run_underlying hu, sizeOf_run hT hte, Builtin.lenOf, Builtin.firstCells, storeCells, loadCells, loadCellsFrom, hcap]
              have hex : (execOp (fun x => (ev x).val ρ) o).run P w = .ok (.value ((Sc.so b n').val ρ)) w := by
                unfold execOp
                rw [ho, e1, e2]
                simp only [resolve, Sem.run_bind, Sem.run_pure, Result.andThen_ok, invoke, builtin, List.map_toArray, List.map_cons, List.map_nil, h1.1, h2.1, r1]
              rw [hex, Oper.upon_value]
              exact hn ρ w (StepR.refl _ _ _) hr (h1.2 (hev _))
            cases he
            simp only [Eff.run] at hrun
            obtain ⟨ρ', w', r1, r2, r3, r4⟩ := app_sound hT (u := o.type) hty hd hte hrun hp hr (h1.2 (hev _))
            have hex : (execOp (fun x => (ev x).val ρ) o).run P w = .ok (.value (v.val ρ')) w' := by
              unfold execOp
              rw [ho, e1, e2]
              simp only [resolve, Sem.run_bind, Sem.run_pure, Result.andThen_ok, invoke, builtin, List.map_toArray, List.map_cons, List.map_nil, h1.1, h2.1, r1]
            rw [hex, Oper.upon_value]
            exact hn ρ' w' r2 r3 r4
        · cases he
      · cases he
    · cases he
  -- copy
  · rename_i args ats
    split at he
    · rename_i s x t u hargs hats
      split at he
      · rename_i s' x' ty hs hx hty
        split at he
        · rename_i e' hd
          split at he
          · cases he
          · rename_i te hte
            cases hb : Nat.beq te.sz 1 <;> rw [hb] at he <;> cases he
            rw [Nat.beq_eq] at hb
            simp only [Eff.run] at hrun
            have h1 := asSc_spec hs ρ (Dm h)
            have h2 := asSc_spec hx ρ (Dm h)
            have e1 : args = #[s, x] := by apply Array.ext'; simpa using hargs
            have e2 : ats = #[t, u] := by apply Array.ext'; simpa using hats
            obtain ⟨w', r1, r2, r3, r4⟩ := copy_sound hT (t' := u) (u := o.type) hty hd hte hb hrun hp hr
            have hex : (execOp (fun x => (ev x).val ρ) o).run P w = .ok (.value (v.val ρ)) w' := by
              unfold execOp
              rw [ho, e1, e2]
              simp only [resolve, Sem.run_bind, Sem.run_pure, Result.andThen_ok, invoke, builtin, List.map_toArray, List.map_cons, List.map_nil, h1.1, h2.1, r1]
            rw [hex, Oper.upon_value]
            exact hn ρ w' r2 r3 r4
        · cases he
      · cases he
    · cases he
  -- makeSlice
  · rename_i t l c
    have fin : ∀ (e : TypeId) (ty te : Ty) (li ci : Int) (n : Nat), T.ty t = some ty → ty.desc = .slice e → T.ty e = some te → asSc (ev l) = some (.it li) → asSc (ev c) = some (.it ci) → 0 ≤ li → li ≤ ci → ci ≤ 17179869184 →
        isHole h slot = true → v = .v1 (.sc (.sl slot 0 li.toNat ci.toNat)) → h' = hset h slot ⟨e, zerosOf te.zero ci.toNat, 0, 0⟩ → o.upon P a next Q ((execOp (fun x => (ev x).val ρ) o).run P w) := by
      intro e ty te li ci n hty hd hte hl hc h0 h1 h2 hh hv hh'
      subst hv; subst hh'
      have hrn := mk_run hT hty hd hte ρ w li ci h0 h1 h2
      have hex : (execOp (fun x => (ev x).val ρ) o).run P w = .ok (.value (.slice (some ⟨w.heap.size, 0, none⟩) li.toNat ci.toNat)) (w.alloc (.cells (cvals ρ (zerosOf te.zero ci.toNat)).toArray e)) := by
        unfold execOp
        rw [ho]
        simp only [(asSc_spec hl ρ (Dm h)).1, (asSc_spec hc ρ (Dm h)).1, Sc.val, Sem.run_bind, hrn, Result.andThen_ok]
        rfl
      obtain ⟨ρ', s1, s2, s3⟩ := RelH.alloc hr slot ⟨e, zerosOf te.zero ci.toNat, 0, 0⟩ hh (zerosOf_ok (V1.ok_mono (fun _ h => h.elim) (hT.ty.zok _ _ hte)) _) rfl rfl
      rw [hex, Oper.upon_value]
      have := hn ρ' _ s1 s2 ((Dm_hset (isHole_lt hh).1 slot).2 (.inl rfl))
      simpa [AV.val, V1.val, Sc.val, s3] using this
    split at he
    · rename_i ls cs ty hl hc hty
      split at he
      · rename_i e' hd
        split at he
        · cases he
        · rename_i te hte
          split at he
          · split at he
            · rename_i n' c' hln hcn
              cases hb : (Nat.ble n' c' && Nat.ble c' limN) <;> rw [hb] at he <;> cases he
              simp only [Bool.and_eq_true, Nat.ble_eq] at hb
              simp only [Eff.run] at hrun
              split at hrun
              · cases hrun
              · rename_i hh
                simp only [Option.some.injEq, Prod.mk.injEq] at hrun
                obtain ⟨rfl, rfl, rfl⟩ := hrun
                have el : ls = .it (Int.ofNat n') := by
                  unfold mkLen at hln; split at hln
                  · cases hln; rfl
                  · cases hln
                have ec : cs = .it (Int.ofNat c') := by
                  unfold mkLen at hcn; split at hcn
                  · cases hcn; rfl
                  · cases hcn
                subst el; subst ec
                have hlim : c' ≤ 17179869184 := hb.2
                exact fin e' ty te _ _ 0 hty hd hte hl hc (Int.natCast_nonneg _) (Int.ofNat_le.2 hb.1) (Int.ofNat_le.2 hlim) hh rfl rfl
            · cases he
          · split at he
            · rename_i li ci
              cases he
              simp only [Eff.run, newA] at hrun
              split at hrun
              · cases hrun
              · rename_i hh
                simp only [Option.some.injEq, Prod.mk.injEq] at hrun
                obtain ⟨rfl, rfl, rfl⟩ := hrun
                exact fin e' ty te li ci 0 hty hd hte hl hc (hp _ (by simp)) (hp (li ≤ ci) (by simp)) (hp (ci ≤ Int.ofNat limN) (by simp)) hh rfl rfl
            · cases he
      · cases he
    · cases he
  -- buildSlice
  · rename_i t n parts
    split at he
    · cases he
    · rename_i ty hty
      split at he
      · rename_i e' hd
        split at he
        · cases he
        · rename_i te hte
          split at he
          · cases he
          · rename_i vs hvs
            cases hb : Nat.ble (n * te.sz) 1000 <;> rw [hb] at he
            · cases he
            · rw [Nat.ble_eq] at hb
              simp only [cond_true] at he
              split at he
              · cases he
              · rename_i cs hcs
                cases he
                simp only [Eff.run] at hrun
                split at hrun
                · cases hrun
                · rename_i hh
                  simp only [Option.some.injEq, Prod.mk.injEq] at hrun
                  obtain ⟨rfl, rfl, rfl⟩ := hrun
                  have hbs := bs_run hT hty hd hte ρ w (n := n) (parts := parts.toList.map fun p => (p.1, ev p.2)) (vs := vs) (by rw [List.map_map]; exact hvs) hb (by rw [List.map_map]; exact hcs) (D := Dm h) (fun p hp => by
                    obtain ⟨q, _, rfl⟩ := List.mem_map.1 hp; exact hev _)
                  have e1 : (parts.map fun x => match x with | (i, x) => (i, (ev x).val ρ)) = ((parts.toList.map fun p => (p.1, ev p.2)).map fun p => (p.1, p.2.val ρ)).toArray := by
                    apply Array.ext'
                    simp
                  have hex : (execOp (fun x => (ev x).val ρ) o).run P w = .ok (.value (.slice (some ⟨w.heap.size, 0, none⟩) n n)) (w.alloc (.cells (cvals ρ cs).toArray e')) := by
                    unfold execOp
                    rw [ho]
                    simp only [e1, Sem.run_bind, hbs.1, Result.andThen_ok]
                    rfl
                  obtain ⟨ρ', s1, s2, s3⟩ := RelH.alloc hr slot ⟨e', cs, 0, 0⟩ hh hbs.2 rfl rfl
                  rw [hex, Oper.upon_value]
                  have := hn ρ' _ s1 s2 ((Dm_hset (isHole_lt hh).1 slot).2 (.inl rfl))
                  simpa [ptrOf, AV.val, V1.val, Sc.val, s3] using this
      · cases he
  -- convert
  · rename_i src dst x
    split at he
    · rename_i hts
      split at he
      · rename_i s hs
        cases he
        simp only [Eff.run] at hrun
        split at hrun
        · cases hrun
        · rename_i p1 v1 hst
          simp only [Option.some.injEq, Prod.mk.injEq] at hrun
          obtain ⟨rfl, rfl, rfl⟩ := hrun
          have h1 := (asSc_spec hs ρ (Dm h)).1
          have h2 := str_sound hT hts hst hp (ρ := ρ) (w := w) hr
          have hex : (execOp (fun x => (ev x).val ρ) o).run P w = .ok (.value (v1.val ρ)) w := by
            unfold execOp
            rw [ho]
            simp only [h1, Sem.run_bind, h2.1, Result.andThen_ok]
            rfl
          rw [hex, Oper.upon_value]
          exact hn ρ w (StepR.refl _ _ _) hr (h2.2 _)
      · cases he
    · split at he
      · rename_i hsm
        split at he
        · rename_i b o' n' c' hs
          cases he
          simp only [Eff.run] at hrun
          unfold markA at hrun
          split at hrun
          · rename_i t0 N g0 hbk
            cases hrun
            have h1 := asSc_spec hs ρ (Dm h)
            have hrow := hr.row _ _ hbk rfl
            have hcv : (cvals ρ [.ws .u8 N g0]).toArray = rowV N g0 := by simp [cvals, Cell.vals, rowV, M]
            rw [hcv] at hrow
            obtain ⟨e0, hse, hs2, he2⟩ := toSame_spec hT hsm
            subst hse
            have hrN : (rowV N g0).size = N := by simp [rowV]
            have hcx : (convert src src ((Sc.sl b o' n' c').val ρ)).run P w = .ok ((Sc.sl b o' n' c').val ρ) (w.freeze ⟨ρ b, N, none⟩ 1) := by
              simp [convert, Sc.val, run_underlying hs2, run_underlying he2, markStringish, World.shape?, hrow, hrN]
            have hex : (execOp (fun x => (ev x).val ρ) o).run P w = .ok (.value ((Sc.sl b o' n' c').val ρ)) (w.freeze ⟨ρ b, N, none⟩ 1) := by
              unfold execOp
              rw [ho]
              simp only [h1.1, Sem.run_bind, hcx, Result.andThen_ok]
              rfl
            rw [hex, Oper.upon_value]
            have hfz : (w.freeze ⟨ρ b, N, none⟩ 1).heap[ρ b]? = some (.cells (rowV N g0) t0 (N, N + 1)) := by
              simp only [World.freeze, Nat.one_ne_zero, if_false, Array.getElem?_modify, if_true, hrow, Option.map_some]
              rfl
            have hse := RelH.toWin hr b ⟨t0, [.ws .u8 N g0], 0, 0⟩ ⟨t0, [.ws .u8 N g0, .one (.rw (wrapB (rowV N g0) (N, N + 1)))], 3, 0⟩ hbk rfl
              (by intro c hc
                  simp only [List.mem_cons, List.not_mem_nil, or_false] at hc
                  rcases hc with rfl | rfl
                  · trivial
                  · rfl) rfl (w' := w.freeze ⟨ρ b, N, none⟩ 1)
              ⟨rowV N g0, (N, N + 1), hfz, by simp [cvals, Cell.vals, Sc.val], fun j hj => by
                have hj' : j < N := by simpa [cvals, Cell.vals] using hj
                simp [cvals, Cell.vals, rowV, hj', List.getElem?_append_left, M]⟩
              (fun k hk => by simp only [World.freeze, Nat.one_ne_zero, if_false, Array.getElem?_modify]; rw [if_neg (fun e => hk e.symm)])
              (by simp [World.freeze]) rfl rfl rfl
            refine hn ρ _ hse.1 hse.2 ?_
            have hlt := hget_lt hbk
            exact (Dm_hset hlt _).2 (.inl rfl)
          · cases hrun
        · cases he
      · simp only [Option.map_eq_some_iff] at he
        obtain ⟨⟨p1, v1⟩, h1, rfl⟩ := he
        exact pureCase h1 rfl
  -- slice
  · rename_i t x lo hi mx
    split at he
    · rename_i g hg
      cases he
      simp only [Eff.run] at hrun
      split at hrun
      · cases hrun
      · rename_i p1 v1 hst
        simp only [Option.some.injEq, Prod.mk.injEq] at hrun
        obtain ⟨rfl, rfl, rfl⟩ := hrun
        unfold soSl at hg
        split at hg
        · rename_i y
          split at hg
          · rename_i b n ty hs hty
            split at hg
            · rename_i e hd
              split at hg
              · rename_i te hte
                split at hg
                · rename_i pb m hsb
                  cases hg
                  unfold tailA at hst
                  split at hst
                  · rename_i t0 k0 N g0 hbk
                    cases hst
                    have hn1 : n ≤ N := hp _ (by simp)
                    have hm1 : m < n := hp (m < n) (by simp)
                    have hp1 : ∀ p ∈ pb, p := fun p h => hp p (List.mem_append_left _ h)
                    cases hz : Nat.beq te.sz 1 <;> rw [hz] at hsb
                    · cases hsb
                    have hsz : te.sz = 1 := by rw [← Nat.beq_eq]; exact hz
                    simp only [cond_true] at hsb
                    have hsb' : sbound sym ev n 0 (some y) = some (pb, m) := hsb
                    obtain ⟨g1, g2⟩ := sbound_spec hsb' hp1 (Nat.zero_le _) ρ
                    obtain ⟨⟨cur, o1, o2, o3, o4, o5, o6⟩, _⟩ := hr.own _ _ hbk rfl
                    have hN : N ≤ cur.size := by simpa [clen, Cell.len] using o5
                    have hcap : n ≤ ρ (b + 1) - ρ b := by
                      have : cur.size = ρ (b + 1) - ρ b := by rw [o2]; exact Nat.mul_one _
                      omega
                    have hu := und_of hT hty
                    rw [hd] at hu
                    have hsp := asSc_spec hs ρ (Dm h)
                    rcases g2 with ⟨g2, _⟩ | ⟨z, k, g2, hy⟩
                    · cases g2
                    cases g2
                    have hb : (Instr.sliceBounds true n (ρ (b + 1) - ρ b) (some ((ev y).val ρ)) none none).run P w = .ok (m, n, ρ (b + 1) - ρ b) w := by
                      unfold Instr.sliceBounds
                      simp [hy, Instr.sliceBound, asIntOf, g1]
                    have h2 : (Instr.sliceAt t ((ev x).val ρ) (some ((ev y).val ρ)) none none).run P w = .ok (.slice (some ⟨ρ b, m, none⟩) (n - m) (ρ (b + 1) - ρ b - m)) w := by
                      simp only [hsp.1, Sc.val, Instr.sliceAt, Instr.slice, Sem.run_bind, run_underlying hu, Result.andThen_ok, Sem.run_pure, hb, sizeOf_run hT hte]
                      have hne : ¬ (ρ (b + 1) - ρ b = m) := by omega
                      simp [hne, Addr.add_mid, hsz]
                    have hex : (execOp (fun x => (ev x).val ρ) o).run P w = .ok (.value ((AV.v1 (.sc (.sv b m (n - m)))).val ρ)) w := by
                      unfold execOp
                      rw [ho]
                      simp only [Option.map_none, Option.map_some, Sem.run_bind, h2, Result.andThen_ok]
                      rfl
                    rw [hex, Oper.upon_value]
                    exact hn ρ w (StepR.refl _ _ _) hr (hsp.2 (hev _))
                  · cases hst
                · cases hg
              · cases hg
            · cases hg
          · cases hg
        rotate_left
        · cases hg
        rename_i y
        split at hg
        · rename_i b n ty hs hty
          split at hg
          · rename_i e hd
            split at hg
            · rename_i te hte
              split at hg
              · rename_i pb m hsb
                cases hg
                unfold headA at hst
                split at hst
                · rename_i t0 k0 N g0 hbk
                  cases hst
                  have hn1 : n ≤ N := hp _ (by simp)
                  have hp1 : ∀ p ∈ pb, p := fun p h => hp p (List.mem_append_left _ h)
                  cases hz : Nat.beq te.sz 1 <;> rw [hz] at hsb
                  · cases hsb
                  have hsz : te.sz = 1 := by rw [← Nat.beq_eq]; exact hz
                  simp only [cond_true] at hsb
                  have hsb' : sbound sym ev n 0 (some y) = some (pb, m) := hsb
                  obtain ⟨g1, g2⟩ := sbound_spec hsb' hp1 (Nat.zero_le _) ρ
                  obtain ⟨⟨cur, o1, o2, o3, o4, o5, o6⟩, _⟩ := hr.own _ _ hbk rfl
                  have hN : N ≤ cur.size := by simpa [clen, Cell.len] using o5
                  have hcap : n ≤ ρ (b + 1) - ρ b := by
                    have : cur.size = ρ (b + 1) - ρ b := by rw [o2]; exact Nat.mul_one _
                    omega
                  have hu := und_of hT hty
                  rw [hd] at hu
                  have hsp := asSc_spec hs ρ (Dm h)
                  rcases g2 with ⟨g2, _⟩ | ⟨z, k, g2, hy⟩
                  · cases g2
                  cases g2
                  have hb : (Instr.sliceBounds true n (ρ (b + 1) - ρ b) none (some ((ev y).val ρ)) none).run P w = .ok (0, m, ρ (b + 1) - ρ b) w := by
                    unfold Instr.sliceBounds
                    have hm : m ≤ ρ (b + 1) - ρ b := Nat.le_trans g1 hcap
                    simp [hy, Instr.sliceBound, asIntOf, hm]
                  have h2 : (Instr.sliceAt t ((ev x).val ρ) none (some ((ev y).val ρ)) none).run P w = .ok (.slice (some ⟨ρ b, 0, none⟩) m (ρ (b + 1) - ρ b)) w := by
                    simp only [hsp.1, Sc.val, Instr.sliceAt, Instr.slice, Sem.run_bind, run_underlying hu, Result.andThen_ok, Sem.run_pure, hb, sizeOf_run hT hte]
                    split
                    · rfl
                    · simp [Addr.add]
                  have hex : (execOp (fun x => (ev x).val ρ) o).run P w = .ok (.value ((AV.v1 (.sc (.so b m))).val ρ)) w := by
                    unfold execOp
                    rw [ho]
                    simp only [Option.map_none, Option.map_some, Sem.run_bind, h2, Result.andThen_ok]
                    rfl
                  rw [hex, Oper.upon_value]
                  exact hn ρ w (StepR.refl _ _ _) hr (hsp.2 (hev _))
                · cases hst
              · cases hg
            · cases hg
          · cases hg
        · cases hg
    · simp only [Option.map_eq_some_iff] at he
      obtain ⟨⟨p1, v1⟩, h1, rfl⟩ := he
      exact pureCase h1 rfl
  · simp only [Option.map_eq_some_iff] at he
    obtain ⟨⟨p1, v1⟩, h1, rfl⟩ := he
    exact pureCase h1 rfl
end
end Go.Rq
namespace Go.Rq
open Go
structure AS where
 t:List AV
 h:Heap
def getT:List AV->Nat->AV
 | [],_=>undefA
 | a :: _,0=>a
 | _ :: r,n + 1=>getT r n
def setT:List AV->Nat->AV->List AV
 | [],_,_=>[]
 | _ :: r,0,v=>v :: r
 | a :: r,n + 1,v=>a :: setT r n v
def evT (t:List AV):Operand->AV
 | .tmp i=>getT t i
 | .const v=>ofConst v
 | .global g=>.v1 (.sc (.rw (.pointer (some ⟨g,0,none⟩))))
 | .func f=>.v1 (.sc (.fn f []))
def putT (t:List AV):Option Tmp->AV->List AV
 | none,_=>t
 | some d,v=>setT t d v
theorem getT_setT_ne:∀ {t:List AV} {i j:Nat} {v:AV},j ≠ i->getT (setT t i v) j = getT t j
 | [],_,_,_,_=>rfl
 | _ :: _,0,0,_,h=>absurd rfl h
 | _ :: _,0,_ + 1,_,_=>rfl
 | _ :: _,_ + 1,0,_,_=>rfl
 | _ :: r,i + 1,j + 1,_,h=>by simp only [setT,getT];exact getT_setT_ne (by omega)
theorem setT_comm:∀ {t:List AV} {i j:Nat} {u v:AV},i ≠ j->setT (setT t i u) j v = setT (setT t j v) i u
 | [],_,_,_,_,_=>rfl
 | _ :: _,0,0,_,_,h=>absurd rfl h
 | _ :: _,0,_ + 1,_,_,_=>rfl
 | _ :: _,_ + 1,0,_,_,_=>rfl
 | _ :: r,i + 1,j + 1,_,_,h=>by simp only [setT];rw [setT_comm (by omega)]
theorem setT_eq:∀ {t:List AV} {i:Nat} {v:AV},setT t i v = t.set i v
 | [],_,_=>rfl
 | _ :: _,0,_=>rfl
 | _ :: r,i + 1,_=>by simp only [setT,List.set_cons_succ,setT_eq]
theorem getT_eq:∀ {t:List AV} {i:Nat},getT t i = t.getD i undefA
 | [],_=>rfl
 | _ :: _,0=>rfl
 | _ :: r,i + 1=>by simp only [getT,getT_eq];simp
theorem getT_ok {D:Nat->Prop} {t:List AV} (h:∀ v ∈ t,v.ok D) (i:Nat):(getT t i).ok D:=by
 induction t generalizing i with
 | nil=>intro v hv;cases hv
 | cons a r ih =>
  cases i with
  | zero=>exact h a (by simp)
  | succ i=>exact ih (fun v hv=>h v (by simp [hv])) i
theorem setT_ok {D:Nat->Prop} {t:List AV} (h:∀ v ∈ t,v.ok D) {i:Nat} {v:AV} (hv:v.ok D):∀ x ∈ setT t i v,x.ok D:=by
 rw [setT_eq]
 intro x hx
 rcases List.mem_or_eq_of_mem_set hx with hx | rfl
 ·exact h x hx
 ·exact hv
theorem evT_ok {D:Nat->Prop} {t:List AV} (h:∀ v ∈ t,v.ok D) (x:Operand):(evT t x).ok D:=by
 cases x with
 | tmp i=>exact getT_ok h i
 | const v=>exact ofConst_ok D v
 | global g=>simp [evT,AV.ok,V1.ok,Sc.ok,Value.oneCell']
 | func f=>simp [evT,AV.ok,V1.ok,Sc.ok]
structure Rel (ρ:Ren) (s:AS) (a:Act) (w:World):Prop where
 tmps:a.tmps = (s.t.map (AV.val ρ)).toArray
 defers:a.defers = []
 ok:∀ v ∈ s.t,v.ok (Dm s.h)
 mem:RelH ρ s.h w
theorem Rel.eval {ρ:Ren} {s:AS} {a:Act} {w:World} (r:Rel ρ s a w):a.eval = fun x=>(evT s.t x).val ρ:=by
 funext x
 cases x with
 | tmp i =>
  simp only [Act.eval,r.tmps,evT,getT_eq]
  simp only [Array.getD_eq_getD_getElem?,List.getElem?_toArray,List.getElem?_map,List.getD_eq_getElem?_getD]
  cases s.t[i]? <;> rfl
 | const v=>simp only [Act.eval,evT,ofConst_val]
 | global g=>rfl
 | func f=>rfl
theorem Rel.put {ρ ρ':Ren} {s:AS} {a:Act} {w w':World} {h':Heap} (r:Rel ρ s a w) (st:StepR (Dm s.h) ρ w (Dm h') ρ' w') (r':RelH ρ' h' w') {v:AV} (hv:v.ok (Dm h')) (dst:Option Tmp) :
  Rel ρ' ⟨putT s.t dst v,h'⟩ (a.put dst (v.val ρ')) w':=by
 have hval:s.t.map (AV.val ρ) = s.t.map (AV.val ρ'):=List.map_congr_left fun v hv=>(AV.val_agree st.agree (r.ok v hv)).symm
 have hok:∀ v ∈ s.t,v.ok (Dm h'):=fun v hv=>AV.ok_mono st.sub (r.ok v hv)
 cases dst with
 | none=>exact ⟨by simp only [Act.put,putT,r.tmps,hval],r.defers,hok,r'⟩
 | some d =>
  refine ⟨?_,r.defers,setT_ok hok hv,r'⟩
  simp only [Act.put,putT,r.tmps,hval,setT_eq,List.map_set]
  simp
inductive HK where
 | lit (s:Sc)
 | sym
 | as (cs:List Cell)
structure Hint where
 rid:Nat
 op:Nat
 k:HK
def isSym:Option HK->Bool
 | some .sym=>true
 | _=>false
def litOf:Option HK->Option V1
 | some (.lit s)=>some (.sc s)
 | some (.as cs)=>some (.agg cs)
 | _=>none
def okC:List Cell->Bool
 | []=>true
 | .ws _ _ _ :: r=>okC r
 | .one (.w _ _) :: r=>okC r
 | .one (.it _) :: r=>okC r
 | .one (.bo _) :: r=>okC r
 | _=>false
theorem okC_ok {D:Nat->Prop}:∀ {cs:List Cell},okC cs = true->cok D cs
 | [],_=>fun c hc=>by cases hc
 | c :: r,h=>by
  intro d hd
  unfold okC at h
  split at h
  ·rename_i heq;cases heq
  ·rename_i heq
   cases heq
   rcases List.mem_cons.1 hd with rfl | hd
   ·trivial
   ·exact okC_ok h d hd
  ·rename_i heq
   cases heq
   rcases List.mem_cons.1 hd with rfl | hd
   ·trivial
   ·exact okC_ok h d hd
  ·rename_i heq
   cases heq
   rcases List.mem_cons.1 hd with rfl | hd
   ·trivial
   ·exact okC_ok h d hd
  ·rename_i heq
   cases heq
   rcases List.mem_cons.1 hd with rfl | hd
   ·trivial
   ·exact okC_ok h d hd
  ·cases h
def litEq:AV->Sc->Option Prop
 | .v1 (.sc (.bo c)),.bo d=>some (c = d)
 | .v1 (.sc (.it c)),.it d=>some (c = d)
 | .v1 (.sc (.w k c)),.w k' d=>if k = k' then some (c = d) else none
 | _,_=>none
theorem litEq_spec {v:AV} {s:Sc} {p:Prop} (h:litEq v s = some p) (hp:p):v = .v1 (.sc s):=by
 unfold litEq at h
 split at h
 ·cases h;subst hp;rfl
 ·cases h;subst hp;rfl
 ·split at h
  ·rename_i hk;subst hk;cases h;subst hp;rfl
  ·cases h
 ·cases h
def eqV (v:AV):V1->Option Prop
 | .sc s=>litEq v s
 | .agg cs=>match v with
  | .v1 u=>match okC cs with
   | true=>some (∀ ρ,u.val ρ = (V1.agg cs).val ρ)
   | false=>none
  | _=>none
theorem eqV_spec {v:AV} {l:V1} {p:Prop} (h:eqV v l = some p) (hp:p):(∀ ρ,(AV.v1 l).val ρ = v.val ρ)/\∀ D,v.ok D->(AV.v1 l).ok D:=by
 cases l with
 | sc s =>
  have:=litEq_spec h hp
  subst this
  exact ⟨fun _=>rfl,fun _ h=>h⟩
 | agg cs =>
  simp only [eqV] at h
  split at h
  ·rename_i u
   split at h
   ·rename_i hc
    cases h
    exact ⟨fun ρ=>(hp ρ).symm,fun D _=>okC_ok hc⟩
   ·cases h
  ·cases h
def nth:List Oper->Nat->Option Oper
 | [],_=>none
 | o :: _,0=>some o
 | _ :: r,n + 1=>nth r n
theorem nth_eq:∀ {l:List Oper} {i:Nat},nth l i = l[i]?
 | [],_=>rfl
 | _ :: _,0=>rfl
 | _ :: r,i + 1=>by simp only [nth,nth_eq];simp
def beqB:Bool->Bool->Bool
 | true,b=>b
 | false,true=>false
 | false,false=>true
theorem beqB_eq (a b:Bool):beqB a b = (a == b):=by cases a <;> cases b <;> rfl
def guardA (all:List Oper) (o:Oper) (t:List AV):Option Bool :=
 match o.guard with
 | none=>some true
 | some (j,want)=>match nth all j with
  | none=>some false
  | some g=>match g.dst with
   | none=>some false
   | some d=>match getT t d with
    | .v1 (.sc (.bo b))=>some (beqB b want)
    | .tup []=>some false
    | _=>none
theorem guardA_spec {all:List Oper} {o:Oper} {t:List AV} {b:Bool} (h:guardA all o t = some b) (ρ:Ren) :
  Region.wanted o (yielded all.toArray (t.map (AV.val ρ)).toArray) = b:=by
 unfold guardA at h
 unfold Region.wanted
 split at h
 ·rename_i hg;rw [hg];cases h;rfl
 ·rename_i j want hg
  rw [hg]
  simp only
  unfold yielded
  split at h
  ·rename_i hj
   cases h
   rw [nth_eq] at hj
   simp [hj]
  ·rename_i g hj
   rw [nth_eq] at hj
   split at h
   ·rename_i hd;cases h;simp [hj,hd]
   ·rename_i d hd
    simp only [List.getElem?_toArray,hj,Option.bind_some,hd,List.getElem?_map]
    rw [getT_eq] at h
    cases ht:t[d]? with
    | none =>
     rw [List.getD_eq_getElem?_getD,ht] at h
     simp [undefA] at h
     subst h;rfl
    | some v =>
     rw [List.getD_eq_getElem?_getD,ht] at h
     simp only [Option.getD_some] at h
     simp only [Option.map_some]
     split at h
     ·cases h;rw [beqB_eq];rfl
     ·cases h;rfl
     ·cases h
def clsX (ev:Operand->AV) (op:Op) (c:Nat):Nat :=
 match op with
 | .load _ a=>match asSc (ev a) with
  | some (.pt b _)=>4 + 2 * b
  | _=>c
 | .store _ a _=>match asSc (ev a) with
  | some (.pt b _)=>5 + 2 * b
  | _=>c
 | .slice _ a _ _ _=>match asSc (ev a) with
  | some (.so b _)=>bif Nat.beq c 1 then 4 + 2 * b else c
  | _=>c
 | _=>c
theorem clsX_le {ev:Operand->AV} {op:Op} {c:Nat} (h:clsX ev op c <= 3):clsX ev op c = c:=by
 unfold clsX at *
 split at h
 ·split at h
  ·omega
  ·rfl
 ·split at h
  ·omega
  ·rfl
 ·split at h
  ·rename_i b n _
   cases hb:Nat.beq c 1
   ·rfl
   ·rw [hb,cond_true] at h;omega
  ·rfl
 ·rfl
theorem clsX_congr {ev ev':Operand->AV} {op:Op} {c:Nat} (h:∀ x ∈ op.operands,ev x = ev' x):clsX ev op c = clsX ev' op c:=by
 cases op
 case load t x=>simp only [clsX,h x (by simp [Op.operands])]
 case store t x y=>simp only [clsX,h x (by simp [Op.operands])]
 case slice t x l k m=>simp only [clsX,h x (by simp [Op.operands])]
 all_goals rfl
def outOp (T:TT) (G:Ctx) (all:List Oper) (o:Oper) (slot:Nat) (hk:Option HK) (t:List AV) (h:Heap):Option (List Prop × AV × Heap × Nat) :=
 match guardA all o t with
 | none=>none
 | some false=>some ([],undefA,h,0)
 | some true=>match effOf T G (evT t) (isSym hk) o.op with
  | none=>none
  | some e=>match e.run h slot with
   | none=>none
   | some (pre,v,h')=>match litOf hk with
    | none=>some (pre,v,h',clsX (evT t) o.op e.cls)
    | some l=>match eqV v l with
     | none=>none
     | some p=>some (p :: pre,.v1 l,h',clsX (evT t) o.op e.cls)
def OpTo (T:TT) (G:Ctx) (all:List Oper) (o:Oper) (slot c:Nat) (s s':AS):Prop :=
 ∃ hk pre v h',outOp T G all o slot hk s.t s.h = some (pre,v,h',c)/\(∀ p ∈ pre,p)/\s' = ⟨putT s.t o.dst v,h'⟩
section
variable {P:Program} {T:TT} {G:Ctx} {all:List Oper}
theorem opTo_sound (hT:TTOk P T) (hG:CtxOk P G) {o:Oper} {slot c:Nat} {s s':AS} (h:OpTo T G all o slot c s s') {ρ:Ren} {a:Act} {w:World} (r:Rel ρ s a w)
  {K:Act->World->Prop} {Q:Exit->Act->World->Prop} (i:Nat) (hi:all[i]? = some o)
  (hn:∀ ρ' a' w',Rel ρ' s' a' w'->StepR (Dm s.h) ρ w (Dm s'.h) ρ' w'->K a' w'):wpOp P all.toArray Q i K a w:=by
 obtain ⟨hk,pre,v,h',ho,hp,rfl⟩:=h
 unfold wpOp
 simp only [List.getElem?_toArray,hi]
 unfold outOp at ho
 split at ho
 ·cases ho
 ·rename_i hg
  simp only [Option.some.injEq,Prod.mk.injEq] at ho
  obtain ⟨_,rfl,rfl,_⟩:=ho
  have:=guardA_spec hg ρ
  rw [<-r.tmps] at this
  rw [this]
  simp only [Bool.false_eq_true,if_false]
  have hu:undefA.ok (Dm s.h):=by intro v hv;cases hv
  exact hn ρ _ w (r.put (StepR.refl _ _ _) r.mem hu o.dst) (StepR.refl _ _ _)
 ·rename_i hg
  have:=guardA_spec hg ρ
  rw [<-r.tmps] at this
  rw [this]
  simp only [if_true]
  refine .inl ?_
  split at ho
  ·cases ho
  ·rename_i e he
   split at ho
   ·cases ho
   ·rename_i pre' v' h'' hrun
    have hpv:(∀ p ∈ pre',p)/\((∀ ρ,v.val ρ = v'.val ρ)/\∀ D,v'.ok D->v.ok D)/\h' = h'':=by
     split at ho
     ·simp only [Option.some.injEq,Prod.mk.injEq] at ho
      obtain ⟨rfl,rfl,rfl,_⟩:=ho
      exact ⟨hp,⟨fun _=>rfl,fun _ h=>h⟩,rfl⟩
     ·split at ho
      ·cases ho
      ·rename_i l hl p hle
       simp only [Option.some.injEq,Prod.mk.injEq] at ho
       obtain ⟨rfl,rfl,rfl,_⟩:=ho
       exact ⟨fun q hq=>hp q (by simp [hq]),eqV_spec hle (hp p (by simp)),rfl⟩
    obtain ⟨hp',⟨hval,hok⟩,rfl⟩:=hpv
    exact eff_sound hT hG he hrun hp' r.mem (evT_ok r.ok) o rfl a r.eval K Q fun ρ' w' st rh hv=>by
     have:=hn ρ' _ w' (r.put st rh (hok _ hv) o.dst) st
     rw [hval] at this
     exact this
def looks (all:List Oper) (o:Oper):List Tmp:=o.looksAt all.toArray
theorem evT_put {t:List AV} {dst:Option Tmp} {v:AV} {x:Operand} (h:∀ d,dst = some d->x ≠ .tmp d):evT (putT t dst v) x = evT t x:=by
 cases dst with
 | none=>rfl
 | some d =>
  cases x with
  | tmp i=>simp only [evT,putT];exact getT_setT_ne (fun e=>h d rfl (by rw [e]))
  | _=>rfl
theorem sbound_congr {sym:Bool} {ev ev':Operand->AV} {a b:Nat} {x:Option Operand} (h:∀ y,x = some y->ev y = ev' y):sbound sym ev a b x = sbound sym ev' a b x:=by
 cases x with
 | none=>rfl
 | some y=>simp only [sbound,h y rfl]
theorem pureOf_congr {ev ev':Operand->AV} (sym:Bool) (op:Op) (h:∀ x ∈ op.operands,ev x = ev' x):pureOf T ev sym op = pureOf T ev' sym op:=by
 cases op <;> simp only [Op.operands] at h <;> simp only [pureOf]
 case build t ps =>
  have:(ps.toList.map fun p=>(p.1,ev p.2)) = ps.toList.map fun p=>(p.1,ev' p.2):=List.map_congr_left fun p hp=>by
   rw [h p.2 (by simp only [List.mem_toArray,List.mem_map];exact ⟨p,hp,rfl⟩)]
  rw [this]
 case makeFunc fn first caps =>
  cases fn <;> simp only
  have:caps.toList.map ev = caps.toList.map ev':=List.map_congr_left fun p hp=>h p (by simp at hp ⊢;exact .inr hp)
  rw [this]
 case slice t x lo hi mx =>
  cases mx <;> simp only
  have e1:ev x = ev' x:=h x (by simp)
  have e2:∀ a b,sbound sym ev a b lo = sbound sym ev' a b lo:=fun a b=>sbound_congr fun y hy=>h y (by simp [hy])
  have e3:∀ a b,sbound sym ev a b hi = sbound sym ev' a b hi:=fun a b=>sbound_congr fun y hy=>h y (by simp [hy])
  simp only [e1,e2,e3]
 all_goals first
  | rfl
  | (simp_all;done)
  | (have e1:=h _ (by simp);simp only [e1])
theorem effOf_congr {ev ev':Operand->AV} (sym:Bool) (op:Op) (h:∀ x ∈ op.operands,ev x = ev' x):effOf T G ev sym op = effOf T G ev' sym op:=by
 have hpure:=pureOf_congr (T:=T) sym op h
 cases op
 case call c =>
  obtain ⟨callee,args,ats⟩:=c
  have hargs:args.toList.map ev = args.toList.map ev':=List.map_congr_left fun p hp=>h p (by simp [Op.operands,Call.operands];exact .inr (by simpa using hp))
  cases callee with
  | value f =>
   have hf:ev f = ev' f:=h f (by simp [Op.operands,Call.operands])
   simp only [effOf,hargs,hf]
  | invoke r m=>simp only [effOf,hpure]
  | builtin b =>
   have ha:∀ x ∈ args.toList,ev x = ev' x:=fun x hx=>h x (by
    have hx':x ∈ args:=by simpa using hx
    simpa [Op.operands,Call.operands] using hx')
   cases b <;> simp only [effOf,hpure]
   all_goals
    generalize args.toList = l at ha
    generalize ats.toList = m
    rcases l with _ | ⟨x,_ | ⟨y,_ | ⟨z,r⟩⟩⟩ <;> rcases m with _ | ⟨t,_ | ⟨u,_ | ⟨s,q⟩⟩⟩ <;> first
     | rfl
     | (simp only [ha x (by simp),ha y (by simp)];done)
     | (simp only [ha x (by simp)];done)
 case alloc t=>rfl
 case makeSlice t l c=>simp only [effOf,h l (by simp [Op.operands]),h c (by simp [Op.operands])]
 case buildSlice t n ps =>
  have:(ps.toList.map fun p=>ev p.2) = ps.toList.map fun p=>ev' p.2:=List.map_congr_left fun p hp=>by
   rw [h p.2 (by simp only [Op.operands,List.mem_toArray];exact List.mem_map.2 ⟨p,hp,rfl⟩)]
  simp only [effOf,this]
 case convert s d x=>simp only [effOf,hpure,h x (by simp [Op.operands])]
 case slice t x lo hi mx =>
  have e1:ev x = ev' x:=h x (by simp [Op.operands])
  have e4:soSl T ev sym t x lo hi mx = soSl T ev' sym t x lo hi mx:=by
   cases lo with
   | some y=>cases hi with
    | some _=>rfl
    | none=>cases mx with
     | some _=>rfl
     | none =>
      have e5:ev y = ev' y:=h y (by simp [Op.operands])
      simp only [soSl,sbound,e1,e5]
   | none=>cases hi with
    | none=>rfl
    | some y=>cases mx with
     | some _=>rfl
     | none =>
      have e5:ev y = ev' y:=h y (by simp [Op.operands])
      simp only [soSl,sbound,e1,e5]
  simp only [effOf,hpure,e4]
 case box t x=>simp only [effOf,h x (by simp [Op.operands])]
 case load t x=>simp only [effOf,h x (by simp [Op.operands])]
 case store t x y=>simp only [effOf,h x (by simp [Op.operands]),h y (by simp [Op.operands])]
 all_goals simp only [effOf,hpure]
theorem outOp_put {o:Oper} {slot:Nat} {hk:Option HK} {t:List AV} {h:Heap} {dst:Option Tmp} {v:AV} (hd:∀ d,dst = some d->d ∉ looks all o) :
  outOp T G all o slot hk (putT t dst v) h = outOp T G all o slot hk t h:=by
 have hg:guardA all o (putT t dst v) = guardA all o t:=by
  unfold guardA
  cases hgd:o.guard with
  | none=>rfl
  | some gw =>
   obtain ⟨j,want⟩:=gw
   simp only
   cases hj:nth all j with
   | none=>rfl
   | some g =>
    simp only
    cases hgd2:g.dst with
    | none=>rfl
    | some d =>
     simp only
     have:getT (putT t dst v) d = getT t d:=by
      cases dst with
      | none=>rfl
      | some e =>
       refine getT_setT_ne fun he=>?_
       refine hd e rfl ?_
       unfold looks Oper.looksAt
       rw [nth_eq] at hj
       simp [hgd,hj,hgd2,he]
     rw [this]
 have hx:∀ x ∈ o.op.operands,evT (putT t dst v) x = evT t x:=fun x hx=>evT_put fun d hdd hxd=>by
  refine hd d hdd ?_
  unfold looks Oper.looksAt
  refine List.mem_append_left _ (List.mem_filterMap.2 ⟨x,by simpa using hx,?_⟩)
  rw [hxd]
 have he:effOf T G (evT (putT t dst v)) (isSym hk) o.op = effOf T G (evT t) (isSym hk) o.op:=effOf_congr _ _ hx
 have hc:∀ c,clsX (evT (putT t dst v)) o.op c = clsX (evT t) o.op c:=fun c=>clsX_congr hx
 unfold outOp
 rw [hg,he]
 simp only [hc]
end
end Go.Rq
namespace Go.Rq
open Go
def rdB (c:Nat):Bool:=Nat.ble c 2 || (Nat.ble 4 c && Nat.beq (c % 2) 0)
def oppB (a b:Nat):Bool:=Nat.ble 4 a && (Nat.beq (a % 2) 0 && (Nat.ble 5 b && (Nat.beq (b % 2) 1 && !Nat.beq b (a + 1))))
def indepC (a b:Nat):Bool:=(Nat.beq a 0 || Nat.beq b 0) || ((rdB a && rdB b) || (oppB a b || oppB b a))
theorem oppB_spec {a b:Nat} (h:oppB a b = true):∃ x y,a = 4 + 2 * x/\b = 5 + 2 * y/\x ≠ y:=by
 unfold oppB at h
 simp only [Bool.and_eq_true,Bool.not_eq_true',Nat.ble_eq,Nat.beq_eq] at h
 obtain ⟨h1,h2,h3,h4,h5⟩:=h
 have h5:b ≠ a + 1:=fun e=>by rw [<-Nat.beq_eq,h5] at e;cases e
 exact ⟨(a - 4) / 2,(b - 5) / 2,by omega,by omega,by omega⟩
section
variable {P:Program} {T:TT} {G:Ctx} {all:List Oper}
theorem read_local (hG:CtxOk P G) {ev:Operand->AV} {sym:Bool} {op:Op} {g:Heap->Option (List Prop × AV)} (he:effOf T G ev sym op = some (.read g)) {h:Heap} {slot:Nat} {blk:Blk}
  (hs:isHole h slot = true) (hev:∀ x,(ev x).ok (Dm h)):g (hset h slot blk) = g h:=by
 have hnone:=(isHole_lt hs).2
 unfold effOf at he
 split at he
 ·split at he <;> cases he
 ·split at he <;> cases he
 ·rename_i t x
  split at he
  ·rename_i b off ty hx hty
   cases he
   have hb:Dm h b:=(asSc_spec hx (fun _=>0) (Dm h)).2 (hev x)
   have:b ≠ slot:=fun e=>by obtain ⟨c,hc⟩:=hb;rw [e,hnone] at hc;cases hc
   simp only [hget_hset_ne this]
  ·cases he
 ·split at he <;> cases he
 ·rename_i f args ats
  split at he
  ·rename_i f' caps hf
   split at he
   ·cases he
   ·rename_i c hc
    have hcok:=hG _ _ hc
    simp only at he
    split at he
    ·simp only [Option.map_eq_some_iff] at he
     obtain ⟨_,_,h2⟩:=he
     cases h2
    ·cases he
     refine hcok.2 _ h slot blk hs fun x hx=>?_
     rcases List.mem_append.1 hx with hx | hx
     ·obtain ⟨q,_,rfl⟩:=List.mem_map.1 hx;exact hev _
     ·obtain ⟨q,hq,rfl⟩:=List.mem_map.1 hx
      exact (asSc_spec hf (fun _=>0) (Dm h)).2 (hev _) q hq
    ·cases he
    ·cases he
  ·cases he
 ·split at he
  ·split at he
   ·simp only [Option.map_eq_some_iff] at he
    obtain ⟨_,_,h2⟩:=he
    cases h2
   ·cases he
  ·cases he
 ·split at he
  ·split at he
   ·simp only [Option.map_eq_some_iff] at he
    obtain ⟨_,_,h2⟩:=he
    cases h2
   ·cases he
  ·cases he
 ·split at he
  ·split at he <;> cases he
  ·cases he
 ·split at he
  ·split at he <;> cases he
  ·cases he
 ·split at he
  ·split at he
   ·rename_i s' x' ty hs hx hty htu
    split at he
    ·split at he
     ·cases he
     ·rename_i te _
      cases hb:Nat.beq te.sz 0 <;> rw [hb] at he
      ·simp only [cond_false] at he
       split at he
       ·cases he
       ·split at he
        ·rename_i b n hsn
         cases he
         unfold soNil at hsn
         split at hsn
         ·cases hsn
          have hok:=(asSc_spec hs (fun _=>0) (Dm h)).2 (hev _)
          have hne:b ≠ slot:=fun e=>by obtain ⟨c,hc⟩:=hok.1;rw [e,hnone] at hc;cases hc
          simp only [headA,hget_hset_ne hne]
         ·cases hsn
        ·cases he
      ·cases he
    ·cases he
   ·cases he
  ·cases he
 ·split at he
  ·split at he
   ·split at he
    ·split at he
     ·cases he
     ·rename_i te _
      cases hb:Nat.beq te.sz 1 <;> rw [hb] at he <;> cases he
    ·cases he
   ·cases he
  ·cases he
 ·split at he
  ·split at he
   ·split at he
    ·cases he
    ·split at he
     ·split at he
      ·rename_i n' c' _ _
       cases hb:(Nat.ble n' c' && Nat.ble c' limN) <;> rw [hb] at he <;> cases he
      ·cases he
     ·split at he <;> cases he
   ·cases he
  ·cases he
 ·split at he
  ·cases he
  ·split at he
   ·split at he
    ·cases he
    ·split at he
     ·cases he
     ·rw [cond_eq_ite] at he
      split at he
      ·split at he <;> cases he
      ·cases he
   ·cases he
 ·split at he
  ·split at he
   ·rename_i s hx
    cases he
    have hok:=(asSc_spec hx (fun _=>0) (Dm h)).2 (hev _)
    have hne:∀ b,Dm h b->b ≠ slot:=fun b hb e=>by obtain ⟨c,hc⟩:=hb;rw [e,hnone] at hc;cases hc
    have hheld:∀ sz,heldC sym sz (hset h slot blk) s = heldC sym sz h s:=by
     intro sz
     cases s with
     | sl b o n c=>simp only [heldC,hget_hset_ne (hne b hok)]
     | so b n=>simp only [heldC,hget_hset_ne (hne b hok.1)]
     | _=>rfl
    unfold strOf
    split
    ·rfl
    ·simp only [hheld]
   ·cases he
  ·split at he
   ·split at he <;> cases he
   ·simp only [Option.map_eq_some_iff] at he
    obtain ⟨_,_,h2⟩:=he
    cases h2
 ·split at he
  ·rename_i g' hg
   cases he
   unfold soSl at hg
   split at hg
   ·split at hg
    ·rename_i b n ty hx hty
     split at hg
     ·split at hg
      ·split at hg
       ·cases hg
        have hok:=(asSc_spec hx (fun _=>0) (Dm h)).2 (hev _)
        have hne:b ≠ slot:=fun e=>by obtain ⟨c,hc⟩:=hok.1;rw [e,hnone] at hc;cases hc
        simp only [tailA,hget_hset_ne hne]
       ·cases hg
      ·cases hg
     ·cases hg
    ·cases hg
   rotate_left
   ·cases hg
   split at hg
   ·rename_i b n ty hx hty
    split at hg
    ·split at hg
     ·split at hg
      ·cases hg
       have hok:=(asSc_spec hx (fun _=>0) (Dm h)).2 (hev _)
       have hne:b ≠ slot:=fun e=>by obtain ⟨c,hc⟩:=hok.1;rw [e,hnone] at hc;cases hc
       simp only [headA,hget_hset_ne hne]
      ·cases hg
     ·cases hg
    ·cases hg
   ·cases hg
  ·simp only [Option.map_eq_some_iff] at he
   obtain ⟨_,_,h2⟩:=he
   cases h2
 ·simp only [Option.map_eq_some_iff] at he
  obtain ⟨_,_,h2⟩:=he
  cases h2
def fin (l:Option V1) (p:List Prop) (v:AV):Option (List Prop × AV) :=
 match l with
 | none=>some (p,v)
 | some l=>(eqV v l).map fun q=>(q :: p,.v1 l)
theorem outOp_inv {o:Oper} {slot c:Nat} {hk:Option HK} {t:List AV} {h h':Heap} {pre:List Prop} {v:AV} (ho:outOp T G all o slot hk t h = some (pre,v,h',c)) :
  (guardA all o t = some false/\pre = []/\v = undefA/\h' = h/\c = 0) ∨
  (guardA all o t = some true/\∃ e p u,effOf T G (evT t) (isSym hk) o.op = some e/\e.run h slot = some (p,u,h')/\c = clsX (evT t) o.op e.cls/\fin (litOf hk) p u = some (pre,v)):=by
 unfold outOp at ho
 split at ho
 ·cases ho
 ·rename_i hg
  simp only [Option.some.injEq,Prod.mk.injEq] at ho
  obtain ⟨rfl,rfl,rfl,rfl⟩:=ho
  exact .inl ⟨hg,rfl,rfl,rfl,rfl⟩
 ·rename_i hg
  split at ho
  ·cases ho
  ·rename_i e he
   split at ho
   ·cases ho
   ·rename_i p u h'' hrun
    refine .inr ⟨hg,e,p,u,he,?_⟩
    split at ho
    ·rename_i hl
     simp only [Option.some.injEq,Prod.mk.injEq] at ho
     obtain ⟨rfl,rfl,rfl,rfl⟩:=ho
     exact ⟨hrun,rfl,by rw [hl];rfl⟩
    ·rename_i l hl
     split at ho
     ·cases ho
     ·rename_i q hq
      simp only [Option.some.injEq,Prod.mk.injEq] at ho
      obtain ⟨rfl,rfl,rfl,rfl⟩:=ho
      exact ⟨hrun,rfl,by rw [hl];simp [fin,hq]⟩
theorem outOp_mk {o:Oper} {slot:Nat} {hk:Option HK} {t:List AV} {h h':Heap} {pre p:List Prop} {u v:AV} {e:Eff} (hg:guardA all o t = some true)
  (he:effOf T G (evT t) (isSym hk) o.op = some e) (hr:e.run h slot = some (p,u,h')) (hf:fin (litOf hk) p u = some (pre,v)) :
  outOp T G all o slot hk t h = some (pre,v,h',clsX (evT t) o.op e.cls):=by
 unfold outOp
 rw [hg]
 simp only [he,hr]
 cases hl:litOf hk with
 | none=>rw [hl] at hf;simp only [fin,Option.some.injEq,Prod.mk.injEq] at hf;obtain ⟨rfl,rfl⟩:=hf;rfl
 | some l =>
  rw [hl] at hf
  simp only [fin,Option.map_eq_some_iff,Prod.mk.injEq] at hf
  obtain ⟨q,hq,rfl,rfl⟩:=hf
  simp only [hq]
theorem outOp_mk0 {o:Oper} {slot:Nat} {hk:Option HK} {t:List AV} {h:Heap} (hg:guardA all o t = some false):outOp T G all o slot hk t h = some ([],undefA,h,0):=by
 unfold outOp;rw [hg]
theorem out_cls0 {o:Oper} {slot:Nat} {hk:Option HK} {t:List AV} {h h':Heap} {pre:List Prop} {v:AV} (ho:outOp T G all o slot hk t h = some (pre,v,h',0)) :
  h' = h/\∀ h2,outOp T G all o slot hk t h2 = some (pre,v,h2,0):=by
 rcases outOp_inv ho with ⟨hg,rfl,rfl,rfl,_⟩ | ⟨hg,e,p,u,he,hr,hc,hf⟩
 ·exact ⟨rfl,fun _=>outOp_mk0 hg⟩
 ·have hx:=clsX_le (ev:=evT t) (op:=o.op) (c:=e.cls) (by rw [<-hc];omega)
  rw [hx] at hc
  cases e with
  | pure p' u' =>
   simp only [Eff.run,Option.some.injEq,Prod.mk.injEq] at hr
   obtain ⟨rfl,rfl,rfl⟩:=hr
   refine ⟨rfl,fun h2=>?_⟩
   have:=outOp_mk (slot:=slot) (h:=h2) hg he (by simp only [Eff.run];rfl) hf
   rw [hx] at this;exact this
  | _=>simp [Eff.cls] at hc
def rdC (c:Nat):Prop:=c = 1∨(4 <= c/\c % 2 = 0)
theorem eff_rd {ev:Operand->AV} {sym:Bool} {op:Op} {e:Eff} (he:effOf T G ev sym op = some e) (h:rdC (clsX ev op e.cls)):∃ g,e = .read g:=by
 rcases h with h | ⟨h1,h2⟩
 ·have hx:=clsX_le (ev:=ev) (op:=op) (c:=e.cls) (by omega)
  rw [hx] at h
  cases e with
  | read g=>exact ⟨g,rfl⟩
  | _=>simp [Eff.cls] at h
 ·unfold clsX at h1 h2
  have hle:e.cls <= 3∨e.cls = 2000000005:=by cases e <;> simp [Eff.cls]
  split at h1
  ·rename_i t a
   simp only [effOf] at he
   split at he
   ·cases he;exact ⟨_,rfl⟩
   ·cases he
  ·simp only at h2
   split at h2
   ·rename_i heq;rw [heq] at h1;omega
   ·rename_i heq
    split at h1
    ·rename_i b o hb;exact absurd hb (heq b o)
    ·omega
  ·simp only at h2
   split at h1
   ·rename_i b o hb
    cases h3:Nat.beq e.cls 1
    ·rw [hb] at h2
     simp only [h3,cond_false] at h1 h2
     omega
    ·rw [Nat.beq_eq] at h3
     cases e with
     | read g=>exact ⟨g,rfl⟩
     | _=>simp [Eff.cls] at h3
   ·rename_i hb
    split at h2
    ·rename_i b o hb2;exact absurd hb2 (hb b o)
    ·omega
  ·rename_i n1 n2 n3
   split at h2
   ·exact (n1 _ _ rfl).elim
   ·exact (n2 _ _ _ rfl).elim
   ·exact (n3 _ _ _ _ _ rfl).elim
   ·omega
theorem out_rd {o:Oper} {slot c:Nat} {hk:Option HK} {t:List AV} {h h':Heap} {pre:List Prop} {v:AV} (hc:rdC c) (ho:outOp T G all o slot hk t h = some (pre,v,h',c)):h' = h:=by
 rcases outOp_inv ho with ⟨_,_,_,rfl,_⟩ | ⟨hg,e,p,u,he,hr,rfl,hf⟩
 ·rfl
 ·obtain ⟨g,rfl⟩:=eff_rd he hc
  simp only [Eff.run] at hr
  split at hr
  ·cases hr
  ·simp only [Option.some.injEq,Prod.mk.injEq] at hr;exact hr.2.2.symm
theorem out_rd_local (hG:CtxOk P G) {o:Oper} {slot c:Nat} (hc:rdC c) {hk:Option HK} {t:List AV} {h:Heap} {slot':Nat} {blk:Blk} (hs:isHole h slot' = true) (hok:∀ v ∈ t,v.ok (Dm h)) {pre:List Prop} {v:AV} :
  outOp T G all o slot hk t h = some (pre,v,h,c)↔outOp T G all o slot hk t (hset h slot' blk) = some (pre,v,hset h slot' blk,c):=by
 constructor
 ·intro ho
  rcases outOp_inv ho with ⟨_,_,_,_,rfl⟩ | ⟨hg,e,p,u,he,hr,rfl,hf⟩
  ·rcases hc with h | ⟨h,_⟩ <;> omega
  ·obtain ⟨g,rfl⟩:=eff_rd he hc
   have hl:=read_local hG he (blk:=blk) hs (evT_ok hok)
   refine outOp_mk (p:=p) (u:=u) hg he ?_ hf
   simp only [Eff.run,hl] at hr ⊢
   cases hgh:g h with
   | none=>rw [hgh] at hr;cases hr
   | some r=>rw [hgh] at hr;simp only [Option.some.injEq,Prod.mk.injEq] at hr ⊢;exact ⟨hr.1,hr.2.1,trivial⟩
 ·intro ho
  rcases outOp_inv ho with ⟨_,_,_,_,rfl⟩ | ⟨hg,e,p,u,he,hr,rfl,hf⟩
  ·rcases hc with h | ⟨h,_⟩ <;> omega
  ·obtain ⟨g,rfl⟩:=eff_rd he hc
   have hl:=read_local hG he (blk:=blk) hs (evT_ok hok)
   refine outOp_mk (p:=p) (u:=u) hg he ?_ hf
   simp only [Eff.run,hl] at hr ⊢
   cases hgh:g h with
   | none=>rw [hgh] at hr;cases hr
   | some r=>rw [hgh] at hr;simp only [Option.some.injEq,Prod.mk.injEq] at hr ⊢;exact ⟨hr.1,hr.2.1,trivial⟩
theorem load_block {ev:Operand->AV} {sym:Bool} {op:Op} {g:Heap->Option (List Prop × AV)} (he:effOf T G ev sym op = some (.read g)) {b:Nat} (hc:clsX ev op 1 = 4 + 2 * b) {h h2:Heap} (hb:hget h2 b = hget h b):g h2 = g h:=by
 unfold clsX at hc
 split at hc
 ·rename_i ty a
  split at hc
  ·rename_i b' o hx
   have:b' = b:=by omega
   subst this
   simp only [effOf,hx] at he
   split at he
   ·rename_i heq _
    cases he
    simp only [Option.some.injEq,Sc.pt.injEq] at heq
    rw [<-heq.1]
    simp only [hb]
   ·cases he
  ·omega
 ·split at hc <;> omega
 ·rename_i ty a lo hi mx
  split at hc
  ·rename_i b' n hx
   have hbb:b' = b:=by simp at hc;omega
   subst hbb
   have hh:∀ pre n m,headA pre b' n m h2 = headA pre b' n m h:=fun pre n m=>by unfold headA;rw [hb]
   have ht:∀ pre n m,tailA pre b' n m h2 = tailA pre b' n m h:=fun pre n m=>by unfold tailA;rw [hb]
   simp only [effOf] at he
   split at he
   ·rename_i g' hg
    cases he
    unfold soSl at hg
    rw [hx] at hg
    split at hg
    ·split at hg
     ·rename_i heq _
      cases heq
      split at hg
      ·split at hg
       ·split at hg
        ·cases hg;exact ht _ _ _
        ·cases hg
       ·cases hg
      ·cases hg
     ·cases hg
    ·split at hg
     ·rename_i heq _
      cases heq
      split at hg
      ·split at hg
       ·split at hg
        ·cases hg;exact hh _ _ _
        ·cases hg
       ·cases hg
      ·cases hg
     ·cases hg
    ·cases hg
   ·simp only [Option.map_eq_some_iff] at he
    obtain ⟨_,_,he⟩:=he
    cases he
  ·omega
 ·omega
theorem out_ld {o:Oper} {slot b:Nat} {hk:Option HK} {t:List AV} {h h':Heap} {pre:List Prop} {v:AV} (ho:outOp T G all o slot hk t h = some (pre,v,h',4 + 2 * b)) {h2:Heap} (hb:hget h2 b = hget h b) :
  outOp T G all o slot hk t h2 = some (pre,v,h2,4 + 2 * b):=by
 rcases outOp_inv ho with ⟨_,_,_,_,hc⟩ | ⟨hg,e,p,u,he,hr,hc,hf⟩
 ·omega
 ·obtain ⟨g,rfl⟩:=eff_rd he (by rw [<-hc];exact .inr ⟨by omega,by omega⟩)
  have hl:=load_block he hc.symm hb
  rw [hc]
  refine outOp_mk (p:=p) (u:=u) hg he ?_ hf
  simp only [Eff.run,hl] at hr ⊢
  cases hgh:g h with
  | none=>rw [hgh] at hr;cases hr
  | some r=>rw [hgh] at hr;simp only [Option.some.injEq,Prod.mk.injEq] at hr ⊢;exact ⟨hr.1,hr.2.1,trivial⟩
theorem eff_fresh (hG:CtxOk P G) {ev:Operand->AV} {sym:Bool} {op:Op} {g:Heap->Nat->Option (List Prop × AV × Heap)} (he:effOf T G ev sym op = some (.fresh g)) {h h':Heap} {slot:Nat} {pre:List Prop} {v:AV}
  (hg:g h slot = some (pre,v,h')):∀ i,Dm h i->hget h' i = hget h i:=by
 unfold effOf at he
 split at he
 ·split at he <;> cases he
 ·split at he <;> cases he
 ·split at he <;> cases he
 ·split at he <;> cases he
 ·rename_i f args ats
  split at he
  ·rename_i f' caps hf
   split at he
   ·cases he
   ·rename_i c hc
    have hcok:=hG _ _ hc
    simp only at he
    split at he
    ·simp only [Option.map_eq_some_iff] at he
     obtain ⟨_,_,h2⟩:=he
     cases h2
    ·cases he
    ·cases he
    ·cases he
     exact hcok.2 _ h slot _ _ _ hg
  ·cases he
 ·split at he
  ·split at he
   ·simp only [Option.map_eq_some_iff] at he
    obtain ⟨_,_,h2⟩:=he
    cases h2
   ·cases he
  ·cases he
 ·split at he
  ·split at he
   ·simp only [Option.map_eq_some_iff] at he
    obtain ⟨_,_,h2⟩:=he
    cases h2
   ·cases he
  ·cases he
 ·split at he
  ·split at he <;> cases he
  ·cases he
 ·split at he
  ·split at he <;> cases he
  ·cases he
 ·split at he
  ·split at he
   ·split at he
    ·split at he
     ·cases he
     ·rename_i te _
      cases hb:Nat.beq te.sz 0 <;> rw [hb] at he
      ·simp only [cond_false] at he
       split at he
       ·cases he
       ·split at he <;> cases he
      ·cases he
    ·cases he
   ·cases he
  ·cases he
 ·split at he
  ·split at he
   ·split at he
    ·split at he
     ·cases he
     ·rename_i te _
      cases hb:Nat.beq te.sz 1 <;> rw [hb] at he <;> cases he
    ·cases he
   ·cases he
  ·cases he
 ·split at he
  ·split at he
   ·split at he
    ·cases he
    ·split at he
     ·split at he
      ·rename_i n' c' _ _
       cases hb:(Nat.ble n' c' && Nat.ble c' limN) <;> rw [hb] at he <;> cases he
      ·cases he
     ·split at he <;> cases he
   ·cases he
  ·cases he
 ·split at he
  ·cases he
  ·split at he
   ·split at he
    ·cases he
    ·split at he
     ·cases he
     ·rw [cond_eq_ite] at he
      split at he
      ·split at he <;> cases he
      ·cases he
   ·cases he
 ·split at he
  ·split at he
   ·cases he
   ·cases he
  ·split at he
   ·split at he <;> cases he
   ·simp only [Option.map_eq_some_iff] at he
    obtain ⟨_,_,h2⟩:=he
    cases h2
 ·split at he
  ·cases he
  ·simp only [Option.map_eq_some_iff] at he
   obtain ⟨_,_,h2⟩:=he
   cases h2
 ·simp only [Option.map_eq_some_iff] at he
  obtain ⟨_,_,h2⟩:=he
  cases h2
theorem out_st (hG:CtxOk P G) {o:Oper} {slot b:Nat} {hk:Option HK} {t:List AV} {h h':Heap} {pre:List Prop} {v:AV} (ho:outOp T G all o slot hk t h = some (pre,v,h',5 + 2 * b)) {b':Nat} (hd:Dm h b') (hb:b' ≠ b) :
  hget h' b' = hget h b':=by
 rcases outOp_inv ho with ⟨_,_,_,_,hc⟩ | ⟨hg,e,p,u,he,hr,hc,hf⟩
 ·omega
 ·by_cases hfr:∃ g,e = .fresh g
  ·obtain ⟨g,rfl⟩:=hfr
   simp only [Eff.run] at hr
   exact eff_fresh hG he hr b' hd
  have hle:e.cls <= 3:=by
   cases e with
   | fresh g=>exact absurd ⟨g,rfl⟩ hfr
   | _=>simp [Eff.cls]
  cases hop:o.op with
  | load ty a =>
   rw [hop] at hc
   simp only [clsX] at hc
   split at hc <;> omega
  | store ty a x =>
   rw [hop] at hc he
   simp only [effOf] at he
   split at he
   ·rename_i b2 off ty' v2 hx hty hv
    cases he
    simp only [clsX,hx] at hc
    have:b2 = b:=by omega
    subst this
    simp only [Eff.run] at hr
    split at hr
    ·cases hr
    ·simp only [Option.map_eq_some_iff,Prod.mk.injEq] at hr
     obtain ⟨r,_,_,_,rfl⟩:=hr
     exact hget_hset_ne hb
   ·cases he
  | slice ty a lo hi mx =>
   rw [hop] at hc
   simp only [clsX] at hc
   split at hc
   ·cases h3:Nat.beq e.cls 1 <;> rw [h3] at hc <;> simp only [cond_true,cond_false] at hc <;> omega
   ·omega
  | _=>rw [hop] at hc;simp only [clsX] at hc;omega
theorem out_cls2 {o:Oper} {slot:Nat} {hk:Option HK} {t:List AV} {h h':Heap} {pre:List Prop} {v:AV} (ho:outOp T G all o slot hk t h = some (pre,v,h',2)) :
  isHole h slot = true/\∃ blk,h' = hset h slot blk/\∀ h2,isHole h2 slot = true->outOp T G all o slot hk t h2 = some (pre,v,hset h2 slot blk,2):=by
 rcases outOp_inv ho with ⟨_,_,_,_,hc⟩ | ⟨hg,e,p,u,he,hr,hc,hf⟩
 ·cases hc
 ·have hx:=clsX_le (ev:=evT t) (op:=o.op) (c:=e.cls) (by rw [<-hc];omega)
  rw [hx] at hc
  cases e with
  | alloc b sl =>
   simp only [Eff.run] at hr
   split at hr
   ·cases hr
   ·rename_i hh
    simp only [Option.some.injEq,Prod.mk.injEq] at hr
    obtain ⟨rfl,rfl,rfl⟩:=hr
    refine ⟨hh,b,rfl,fun h2 hh2=>?_⟩
    have:=outOp_mk (slot:=slot) (h:=h2) hg he (by simp only [Eff.run,hh2];rfl) hf
    rw [hx] at this;exact this
  | _=>simp [Eff.cls] at hc
def apartL (all:List Oper) (x y:Oper):Prop :=
 (∀ d,x.dst = some d->d ∉ looks all y)/\(∀ d,x.dst = some d->y.dst ≠ some d)/\(∀ d,y.dst = some d->d ∉ looks all x)
theorem putT_comm {t:List AV} {x y:Option Tmp} {u v:AV} (h:∀ d,x = some d->y ≠ some d):putT (putT t x u) y v = putT (putT t y v) x u:=by
 cases x with
 | none=>rfl
 | some d =>
  cases y with
  | none=>rfl
  | some e=>exact setT_comm fun he=>h d rfl (by rw [he])
theorem out_ld_dm {o:Oper} {slot b:Nat} {hk:Option HK} {t:List AV} {h h':Heap} {pre:List Prop} {v:AV} (ho:outOp T G all o slot hk t h = some (pre,v,h',4 + 2 * b)):∀ h2:Heap,(∀ v ∈ t,v.ok (Dm h2))->Dm h2 b:=by
 intro h2 hok
 rcases outOp_inv ho with ⟨_,_,_,_,hc⟩ | ⟨hg,e,p,u,he,hr,hc,hf⟩
 ·omega
 ·have hle:e.cls <= 3∨e.cls = 2000000005:=by cases e <;> simp [Eff.cls]
  unfold clsX at hc
  split at hc
  ·rename_i ty a hop
   split at hc
   ·rename_i b' o' hx
    have hb:b' = b:=by omega
    subst hb
    exact (asSc_spec hx (fun _=>0) (Dm h2)).2 (evT_ok hok _)
   ·omega
  ·split at hc <;> omega
  ·split at hc
   ·rename_i b' n hx
    cases h3:Nat.beq e.cls 1
    ·rw [h3,cond_false] at hc;omega
    ·rw [h3,cond_true] at hc
     have hb:b' = b:=by omega
     subst hb
     exact ((asSc_spec hx (fun _=>0) (Dm h2)).2 (evT_ok hok _)).1
   ·omega
  ·omega
theorem opTo_comm (hG:CtxOk P G) {k j:Oper} {sk sj ck cj:Nat} {s s1 s2:AS} (hok:∀ v ∈ s.t,v.ok (Dm s.h)) (hk:OpTo T G all k sk ck s s1) (hj:OpTo T G all j sj cj s1 s2)
  (hap:apartL all k j) (hind:indepC ck cj = true) (hsl:ck = 2->cj = 2->sk ≠ sj):∃ s1',OpTo T G all j sj cj s s1'/\OpTo T G all k sk ck s1' s2:=by
 obtain ⟨kk,pk,vk,h1,hko,hkp,rfl⟩:=hk
 obtain ⟨kj,pj,vj,h2,hjo,hjp,rfl⟩:=hj
 obtain ⟨ap1,ap2,ap3⟩:=hap
 rw [outOp_put ap1] at hjo
 simp only at hjo
 have main:∃ hj',outOp T G all j sj kj s.t s.h = some (pj,vj,hj',cj)/\outOp T G all k sk kk s.t hj' = some (pk,vk,h2,ck):=by
  unfold indepC at hind
  by_cases e0:ck = 0
  ·subst e0
   obtain ⟨rfl,hall⟩:=out_cls0 hko
   exact ⟨h2,hjo,hall h2⟩
  by_cases f0:cj = 0
  ·subst f0
   obtain ⟨rfl,hall⟩:=out_cls0 hjo
   exact ⟨s.h,hall s.h,hko⟩
  simp only [Bool.or_eq_true,Bool.and_eq_true,Nat.beq_eq] at hind
  rcases hind with (h | h) | h | h | h
  ·exact absurd h e0
  ·exact absurd h f0
  ·have split2:∀ c,c ≠ 0->rdB c = true->rdC c∨c = 2:=fun c hc hb=>by
    unfold rdB at hb
    simp only [Bool.or_eq_true,Bool.and_eq_true,Nat.ble_eq,Nat.beq_eq] at hb
    unfold rdC;omega
   rcases split2 ck e0 h.1 with ek | rfl <;> rcases split2 cj f0 h.2 with ej | rfl
   ·obtain rfl:=out_rd ek hko
    obtain rfl:=out_rd ej hjo
    exact ⟨_,hjo,hko⟩
   ·obtain rfl:=out_rd ek hko
    obtain ⟨hh,blk,rfl,_⟩:=out_cls2 hjo
    exact ⟨_,hjo,(out_rd_local hG ek (slot':=sj) (blk:=blk) hh hok).1 hko⟩
   ·obtain ⟨hh,blk,rfl,hall⟩:=out_cls2 hko
    obtain rfl:=out_rd ej hjo
    exact ⟨_,(out_rd_local hG ej (slot':=sk) (blk:=blk) hh hok).2 hjo,hko⟩
   ·obtain ⟨hh,blk,rfl,hall⟩:=out_cls2 hko
    obtain ⟨hh2,blk2,rfl,hall2⟩:=out_cls2 hjo
    have hne:sk ≠ sj:=hsl rfl rfl
    rw [isHole_hset_ne (Ne.symm hne)] at hh2
    refine ⟨_,hall2 s.h hh2,?_⟩
    rw [hset_comm hne]
    exact hall _ (by rw [isHole_hset_ne hne];exact hh)
  ·obtain ⟨x,y,rfl,rfl,hxy⟩:=oppB_spec h
   obtain rfl:=out_rd (c:=4 + 2 * x) (.inr ⟨by omega,by omega⟩) hko
   exact ⟨_,hjo,out_ld hko (out_st hG hjo (out_ld_dm hko _ hok) hxy)⟩
  ·obtain ⟨x,y,rfl,rfl,hxy⟩:=oppB_spec h
   obtain rfl:=out_rd (c:=4 + 2 * x) (.inr ⟨by omega,by omega⟩) hjo
   exact ⟨_,out_ld hjo (out_st hG hko (out_ld_dm hjo _ hok) hxy).symm,hko⟩
 obtain ⟨hj',m1,m2⟩:=main
 refine ⟨⟨putT s.t j.dst vj,hj'⟩,⟨kj,pj,vj,hj',m1,hjp,rfl⟩,⟨kk,pk,vk,h2,?_,hkp,?_⟩⟩
 ·rw [outOp_put ap3];exact m2
 ·rw [putT_comm ap2]
def wfS (s:AS):Prop:=∃ ρ a w,Rel ρ s a w
theorem upon_ex {o:Oper} {a:Act} {next:Act->World->Prop} {r:Result Next} (h:o.upon P a next (fun _ _ _=>False) r):∃ a' w',next a' w':=by
 cases r with
 | ok n w' =>
  cases n <;> simp only [Oper.upon] at h
  case value v=>exact ⟨_,_,h⟩
  case skip=>exact ⟨_,_,h⟩
  case defer d=>exact ⟨_,_,h⟩
  case enter f args =>
   obtain ⟨e,w'',fr,hR,_⟩:=h []
   cases e with
   | returned v=>exact ⟨_,_,hR⟩
   | panicked c=>exact hR.elim
   | outgrown=>obtain ⟨_,_,hf⟩:=hR;exact hf.elim
  case row row args =>
   obtain ⟨v,w'',hR,_⟩:=h default []
   exact ⟨_,_,hR⟩
 | halt x w'=>cases x <;> simp only [Oper.upon] at h
theorem opTo_wf (hT:TTOk P T) (hG:CtxOk P G) {o:Oper} {slot c:Nat} {s s':AS} (i:Nat) (hi:all[i]? = some o) (h:OpTo T G all o slot c s s') (hw:wfS s):wfS s':=by
 obtain ⟨ρ,a,w,r⟩:=hw
 have:=opTo_sound hT hG h r (K:=fun a' w'=>∃ ρ',Rel ρ' s' a' w') (Q:=fun _ _ _=>False) i hi (fun ρ' a' w' r' _=>⟨ρ',r'⟩)
 unfold wpOp at this
 simp only [List.getElem?_toArray,hi] at this
 split at this
 ·rcases this with h1 | ⟨_,_,_,hf⟩
  ·obtain ⟨a',w',ρ',r'⟩:=upon_ex h1
   exact ⟨ρ',a',w',r'⟩
  ·exact hf.elim
 ·obtain ⟨ρ',r'⟩:=this
  exact ⟨ρ',_,_,r'⟩
theorem wfS.ok {s:AS} (h:wfS s):∀ v ∈ s.t,v.ok (Dm s.h):=let ⟨_,_,_,r⟩:=h;r.ok
end
section
variable {P:Program} {T:TT} {G:Ctx} {all:List Oper} {sl cl:Nat->Nat}
def wpAnyA (T:TT) (G:Ctx) (all:List Oper) (sl cl:Nat->Nat) (Q:AS->Prop):Nat->Array Bool->AS->Prop
 | 0,listed,s=>Region.ready .any all.toArray listed = []/\Q s
 | fuel + 1,listed,s=>wfS s /\
  (Region.ready .any all.toArray listed = []->Q s) /\
  ∀ i ∈ Region.ready .any all.toArray listed,∃ o,all[i]? = some o/\∃ s',OpTo T G all o (sl i) (cl i) s s'/\wfS s'/\wpAnyA T G all sl cl Q fuel (listed.setIfInBounds i true) s'
theorem wpAny_of_A (hT:TTOk P T) (hG:CtxOk P G) {Q:AS->Prop} {Q':Exit->Act->World->Prop}:∀ (fuel:Nat) (listed:Array Bool) (s:AS),wpAnyA T G all sl cl Q fuel listed s ->
  ∀ (ρ:Ren) (a:Act) (w:World),Rel ρ s a w->(∀ ρ' s' a' w',Q s'->Rel ρ' s' a' w'->StepR (Dm s.h) ρ w (Dm s'.h) ρ' w'->Q' .normal a' w') ->
  wpAny P .any all.toArray Q' fuel listed a w
 | 0,_,s,h,ρ,a,w,r,hq=>⟨h.1,hq ρ s a w h.2 r (StepR.refl _ _ _)⟩
 | fuel + 1,listed,s,h,ρ,a,w,r,hq=>by
  refine ⟨fun h0=>hq ρ s a w (h.2.1 h0) r (StepR.refl _ _ _),fun i hi=>?_⟩
  obtain ⟨o,ho,s',hop,_,hrest⟩:=h.2.2 i hi
  exact opTo_sound hT hG hop r i ho fun ρ' a' w' r' st =>
   wpAny_of_A hT hG fuel _ s' hrest ρ' a' w' r' fun ρ'' s'' a'' w'' hq' r'' st'=>hq ρ'' s'' a'' w'' hq' r'' (st.trans st')
def closed (all:List Oper) (listed:Array Bool):Prop :=
 ∀ j oj,all[j]? = some oj->listed.getD j false = true->∀ e ∈ oj.after,Region.binds .any e = true->listed.getD e.on false = true
inductive Waits (all:List Oper):Nat->Nat->Prop
 | one {j:Nat} {oj:Oper} {e:Edge} (h:all[j]? = some oj) (he:e ∈ oj.after) (hb:Region.binds .any e = true):Waits all j e.on
 | more {j:Nat} {oj:Oper} {e:Edge} {i:Nat} (h:all[j]? = some oj) (he:e ∈ oj.after) (hb:Region.binds .any e = true) (r:Waits all e.on i):Waits all j i
theorem closed_waits {listed:Array Bool} (hc:closed all listed) {j i:Nat} (h:Waits all j i):(listed.getD j false = true∨∀ oj,all[j]? = some oj->∀ e ∈ oj.after,Region.binds .any e = true->listed.getD e.on false = true)->listed.getD i false = true:=by
 induction h with
 | one h he hb =>
  rintro (hl | hl)
  ·exact hc _ _ h hl _ he hb
  ·exact hl _ h _ he hb
 | more h he hb r ih =>
  rintro (hl | hl)
  ·exact ih (.inl (hc _ _ h hl _ he hb))
  ·exact ih (.inl (hl _ h _ he hb))
theorem closed_set {listed:Array Bool} (hc:closed all listed) {j:Nat} (hj:j ∈ Region.ready .any all.toArray listed):closed all (listed.setIfInBounds j true):=by
 intro k ok hk hl e he hb
 obtain ⟨_,o,ho,hall⟩:=mem_ready.1 hj
 by_cases hkj:k = j
 ·subst hkj
  have:o = ok:=by simp at ho;rw [ho] at hk;exact Option.some.inj hk
  subst this
  exact getD_set_true (hall e he hb)
 ·rw [getD_set_ne false (Ne.symm hkj)] at hl
  exact getD_set_true (hc k ok hk hl e he hb)
def Free (all:List Oper) (sl cl:Nat->Nat) (i j:Nat) (oi oj:Oper):Prop :=
 Waits all j i∨(apartL all oi oj/\indepC (cl i) (cl j) = true/\(cl i = 2->cl j = 2->sl i ≠ sl j))
theorem wpAnyA_first (hT:TTOk P T) (hG:CtxOk P G) {Q:AS->Prop} {i:Nat} {oi:Oper} (hi:all[i]? = some oi) :
  ∀ (fuel:Nat) (listed:Array Bool) (s s1:AS),closed all listed ->
   (∀ j oj,all[j]? = some oj->j ≠ i->listed.getD j true = false->Free all sl cl i j oi oj) ->
   i ∈ Region.ready .any all.toArray listed->OpTo T G all oi (sl i) (cl i) s s1->wfS s->wfS s1 ->
   wpAnyA T G all sl cl Q fuel (listed.setIfInBounds i true) s1->wpAnyA T G all sl cl Q (fuel + 1) listed s:=by
 intro fuel
 induction fuel with
 | zero =>
  intro listed s s1 _ _ hr hop hwf hwf1 H
  refine ⟨hwf,fun h=>(by rw [h] at hr;cases hr),fun j hj=>?_⟩
  by_cases hji:j = i
  ·subst hji;exact ⟨oi,hi,s1,hop,hwf1,H⟩
  ·have:=ready_mono hj hji
   rw [H.1] at this
   cases this
 | succ fuel ih =>
  intro listed s s1 hc hfree hr hop hwf hwf1 H
  refine ⟨hwf,fun h=>(by rw [h] at hr;cases hr),fun j hj=>?_⟩
  by_cases hji:j = i
  ·subst hji;exact ⟨oi,hi,s1,hop,hwf1,H⟩
  ·obtain ⟨oj,hoj,s2,hopj,hwf2,h3⟩:=H.2.2 j (ready_mono hj hji)
   obtain ⟨hjun,oj',hoj',hall⟩:=mem_ready.1 hj
   have hjj:oj' = oj:=by simp at hoj';rw [hoj'] at hoj;exact Option.some.inj hoj
   subst hjj
   have hiun:=(mem_ready.1 hr).1
   have hnw:¬ Waits all j i:=fun hw=>by
    have:=closed_waits hc hw (.inr fun o ho e he hb=>by rw [hoj] at ho;cases ho;exact hall e he hb)
    rcases Nat.lt_or_ge i listed.size with h' | h'
    ·simp [h'] at hiun this;rw [hiun] at this;cases this
    ·simp [Array.getElem?_eq_none h'] at hiun
   obtain ⟨hap,hind,hsl⟩:=(hfree j oj' hoj hji hjun).resolve_left hnw
   obtain ⟨s1',g1,g2⟩:=opTo_comm hG hwf.ok hop hopj hap hind hsl
   have hwf1':=opTo_wf hT hG j hoj g1 hwf
   refine ⟨oj',hoj,s1',g1,hwf1',?_⟩
   have hfree':∀ k ok,all[k]? = some ok->k ≠ i->(listed.setIfInBounds j true).getD k true = false->Free all sl cl i k oi ok:=fun k ok hk hki hun=>by
    refine hfree k ok hk hki ?_
    by_cases hjk:j = k
    ·subst hjk;exact hjun
    ·rw [getD_set_ne true hjk] at hun;exact hun
   refine ih (listed.setIfInBounds j true) s1' s2 (closed_set hc hj) hfree' (ready_mono hr (Ne.symm hji)) g2 hwf1' hwf2 ?_
   rw [Array.setIfInBounds_comm _ _ hji]
   exact h3
end
end Go.Rq
namespace Go.Rq
open Go
def orEdges:List Edge->List Nat->Nat
 | [],_=>0
 | e :: r,acc=>match Region.binds .any e with
  | true=>(2 ^ e.on ||| acc.getD e.on 0) ||| orEdges r acc
  | false=>orEdges r acc
def masks:List Oper->List Nat->List Nat
 | [],acc=>acc
 | o :: r,acc=>masks r (acc ++ [orEdges o.after.toList acc])
def tb (m i:Nat):Bool:=Nat.beq ((m / 2 ^ i) % 2) 1
theorem tb_eq (m i:Nat):tb m i = m.testBit i:=by
 rw [Nat.testBit_eq_decide_div_mod_eq]
 unfold tb
 rw [Bool.eq_iff_iff,Nat.beq_eq];simp
def memN (x:Nat):List Nat->Bool
 | []=>false
 | y :: r=>Nat.beq x y || memN x r
theorem memN_iff {x:Nat} {l:List Nat}:memN x l = true↔x ∈ l:=by
 induction l with
 | nil=>simp [memN]
 | cons y r ih=>simp only [memN,Bool.or_eq_true,Nat.beq_eq,ih,List.mem_cons]
structure OI where
 looks:List Nat
 dst:Option Nat
 mask:Nat
 cls:Nat
 slot:Nat
def apB (x y:OI):Bool :=
  (match x.dst with
   | none=>true
   | some d=>!memN d y.looks && (match y.dst with | none=>true | some e=>!Nat.beq d e)) &&
  (match y.dst with
   | none=>true
   | some d=>!memN d x.looks)
def pairB (i:Nat) (x y:OI):Bool :=
 tb y.mask i || (apB x y && (indepC x.cls y.cls && !(Nat.beq x.cls 2 && (Nat.beq y.cls 2 && Nat.beq x.slot y.slot))))
def rowB (i:Nat) (x:OI):List OI->Bool
 | []=>true
 | y :: r=>pairB i x y && rowB i x r
def drawB:Nat->List OI->Bool
 | _,[]=>true
 | i,x :: r=>rowB i x r && drawB (i + 1) r
def edgesB:Nat->List Oper->Bool
 | _,[]=>true
 | i,o :: r=>(o.after.toList.all fun e=>!Region.binds .any e || Nat.blt e.on i) && edgesB (i + 1) r
def infos (all:List Oper):List Oper->List Nat->List (Nat × Nat)->List OI
 | o :: r,m :: ms,c :: cs=>⟨looks all o,o.dst,m,c.1,c.2⟩ :: infos all r ms cs
 | _,_,_=>[]
def drawOk (all:List Oper) (cs:List (Nat × Nat)):Bool :=
 edgesB 0 all && drawB 0 (infos all all (masks all []) cs)
theorem rowB_spec {i:Nat} {x:OI}:∀ {l:List OI},rowB i x l = true->∀ y ∈ l,pairB i x y = true
 | [],_,y,hy=>by cases hy
 | z :: r,h,y,hy=>by
  simp only [rowB,Bool.and_eq_true] at h
  rcases List.mem_cons.1 hy with rfl | hy
  ·exact h.1
  ·exact rowB_spec h.2 y hy
theorem drawB_spec:∀ {l:List OI} {k:Nat},drawB k l = true->∀ i j x y,i < j->l[i]? = some x->l[j]? = some y->pairB (k + i) x y = true
 | [],_,_,i,j,x,y,_,hx,_=>by simp at hx
 | z :: r,k,h,i,j,x,y,hij,hx,hy=>by
  simp only [drawB,Bool.and_eq_true] at h
  obtain ⟨j,rfl⟩:∃ m,j = m + 1:=⟨j - 1,by omega⟩
  simp only [List.getElem?_cons_succ] at hy
  cases i with
  | zero =>
   simp at hx
   subst hx
   simpa using rowB_spec h.1 y (List.mem_of_getElem? hy)
  | succ i =>
   simp only [List.getElem?_cons_succ] at hx
   have:=drawB_spec h.2 i j x y (by omega) hx hy
   rw [show k + (i + 1) = k + 1 + i by omega];exact this
theorem infos_spec {all:List Oper}:∀ {l:List Oper} {ms:List Nat} {cs:List (Nat × Nat)} {i:Nat} {o:Oper} {m:Nat} {c:Nat × Nat},l[i]? = some o->ms[i]? = some m->cs[i]? = some c ->
  (infos all l ms cs)[i]? = some ⟨looks all o,o.dst,m,c.1,c.2⟩
 | [],_,_,i,_,_,_,h,_,_=>by simp at h
 | _ :: _,[],_,i,_,_,_,_,h,_=>by simp at h
 | _ :: _,_ :: _,[],i,_,_,_,_,_,h=>by simp at h
 | o' :: r,m' :: ms,c' :: cs,0,o,m,c,h1,h2,h3=>by simp at h1 h2 h3;subst h1;subst h2;subst h3;rfl
 | o' :: r,m' :: ms,c' :: cs,i + 1,o,m,c,h1,h2,h3=>by
  simp only [infos,List.getElem?_cons_succ] at *
  exact infos_spec h1 h2 h3
theorem orEdges_spec {all:List Oper} {j:Nat} {oj:Oper} (hj:all[j]? = some oj) {acc:List Nat} (hacc:∀ k m i,acc[k]? = some m->m.testBit i = true->Waits all k i) :
  ∀ {es:List Edge},(∀ e ∈ es,e ∈ oj.after)->∀ i,(orEdges es acc).testBit i = true->Waits all j i
 | [],_,i,h=>by simp [orEdges] at h
 | e :: r,hes,i,h=>by
  simp only [orEdges] at h
  split at h
  ·rename_i hb
   simp only [Nat.testBit_or,Bool.or_eq_true,Nat.testBit_two_pow,decide_eq_true_eq] at h
   have he:e ∈ oj.after:=hes e (by simp)
   rcases h with (h | h) | h
   ·subst h;exact .one hj he hb
   ·rw [List.getD_eq_getElem?_getD] at h
    cases hk:acc[e.on]? with
    | none=>rw [hk] at h;simp at h
    | some m=>rw [hk] at h;exact .more hj he hb (hacc _ _ _ hk h)
   ·exact orEdges_spec hj hacc (fun e he=>hes e (by simp [he])) i h
  ·exact orEdges_spec hj hacc (fun e he=>hes e (by simp [he])) i h
theorem masks_spec {all:List Oper}:∀ {l:List Oper} {acc:List Nat},(∀ j,l[j]? = all[acc.length + j]?)->(∀ k m i,acc[k]? = some m->m.testBit i = true->Waits all k i) ->
  (masks l acc).length = acc.length + l.length/\∀ k m i,(masks l acc)[k]? = some m->m.testBit i = true->Waits all k i
 | [],acc,_,h=>⟨rfl,h⟩
 | o :: r,acc,hl,h=>by
  have h0:all[acc.length]? = some o:=by simpa using (hl 0).symm
  have:=masks_spec (all:=all) (l:=r) (acc:=acc ++ [orEdges o.after.toList acc]) (fun j=>by
   have:=hl (j + 1);simp only [List.getElem?_cons_succ] at this
   rw [this];simp;congr 1;omega) (fun k m i hk hb=>by
   by_cases hlt:k < acc.length
   ·rw [List.getElem?_append_left hlt] at hk;exact h k m i hk hb
   ·have:k = acc.length:=by
     have:=(List.getElem?_eq_some_iff.1 hk).1;simp at this;omega
    subst this
    simp at hk
    subst hk
    exact orEdges_spec h0 h (fun e he=>by simpa using he) i hb)
  refine ⟨by rw [masks,this.1];simp;omega,this.2⟩
theorem edgesB_spec:∀ {l:List Oper} {k:Nat},edgesB k l = true->∀ i o,l[i]? = some o->∀ e ∈ o.after,Region.binds .any e = true->e.on < k + i
 | [],_,_,i,o,h,_,_,_=>by simp at h
 | x :: r,k,h,i,o,ho,e,he,hb=>by
  simp only [edgesB,Bool.and_eq_true] at h
  cases i with
  | zero =>
   simp at ho
   subst ho
   have:=List.all_eq_true.1 h.1 e (by simpa using he)
   rw [hb] at this
   simp only [Bool.not_true,Bool.false_or,Nat.blt_eq] at this
   simpa using this
  | succ i =>
   simp only [List.getElem?_cons_succ] at ho
   have:=edgesB_spec h.2 i o ho e he hb
   omega
theorem apB_spec {all:List Oper} {x y:Oper} {m n c d s t:Nat} (h:apB ⟨looks all x,x.dst,m,c,s⟩ ⟨looks all y,y.dst,n,d,t⟩ = true):apartL all x y:=by
 unfold apB at h
 simp only [Bool.and_eq_true] at h
 obtain ⟨h1,h2⟩:=h
 refine ⟨fun d hd=>?_,fun d hd he=>?_,fun d hd=>?_⟩
 ·rw [hd] at h1
  simp only [Bool.and_eq_true,Bool.not_eq_true'] at h1
  intro hm;rw [memN_iff.2 hm] at h1;cases h1.1
 ·rw [hd,he] at h1
  simp at h1
 ·rw [hd] at h2
  simp only [Bool.not_eq_true'] at h2
  intro hm;rw [memN_iff.2 hm] at h2;cases h2
theorem drawOk_spec {all:List Oper} {cs:List (Nat × Nat)} (hlen:cs.length = all.length) (h:drawOk all cs = true) (sl cl:Nat->Nat) (hcs:∀ i c,cs[i]? = some c->c = (cl i,sl i)) :
  (∀ i o,all[i]? = some o->∀ e ∈ o.after,Region.binds .any e = true->e.on < i) /\
  ∀ i j oi oj,i < j->all[i]? = some oi->all[j]? = some oj->Free all sl cl i j oi oj:=by
 unfold drawOk at h
 simp only [Bool.and_eq_true] at h
 refine ⟨fun i o ho e he hb=>by simpa using edgesB_spec h.1 i o ho e he hb,fun i j oi oj hij hi hj=>?_⟩
 have hm:=masks_spec (all:=all) (l:=all) (acc:=[]) (fun j=>by simp) (fun k m i hk=>by simp at hk)
 have hjl:j < all.length:=(List.getElem?_eq_some_iff.1 hj).1
 have mk:∀ k,k < all.length->∃ m,(masks all [])[k]? = some m:=fun k hk=>⟨_,List.getElem?_eq_getElem (by rw [hm.1];simpa using hk)⟩
 have ck:∀ k,k < all.length->cs[k]? = some (cl k,sl k):=fun k hk=>by
  have:=List.getElem?_eq_getElem (l:=cs) (i:=k) (by omega)
  rw [this,hcs k _ this]
 obtain ⟨mi,hmi⟩:=mk i (by omega)
 obtain ⟨mj,hmj⟩:=mk j hjl
 have hx:=infos_spec (all:=all) hi hmi (ck i (by omega))
 have hy:=infos_spec (all:=all) hj hmj (ck j hjl)
 have:=drawB_spec h.2 i j _ _ hij hx hy
 simp only [Nat.zero_add,pairB,Bool.or_eq_true,Bool.and_eq_true] at this
 rcases this with h1 | ⟨h1,h2,h3⟩
 ·exact .inl (hm.2 j mj i hmj (by rw [<-tb_eq];exact h1))
 ·refine .inr ⟨apB_spec h1,h2,fun e1 e2 e3=>?_⟩
  rw [e1,e2,e3] at h3
  simp at h3
inductive LexRun (T:TT) (G:Ctx) (all:List Oper) (sl cl:Nat->Nat):Nat->List Oper->AS->AS->Prop
 | nil (k:Nat) (s:AS):LexRun T G all sl cl k [] s s
 | cons {k:Nat} {o:Oper} {r:List Oper} {s s1 s2:AS} (h:OpTo T G all o (sl k) (cl k) s s1) (t:LexRun T G all sl cl (k + 1) r s1 s2):LexRun T G all sl cl k (o :: r) s s2
section
variable {P:Program} {T:TT} {G:Ctx} {all:List Oper} {sl cl:Nat->Nat}
theorem lex_ops (hT:TTOk P T) (hG:CtxOk P G) {Q':Exit->Act->World->Prop}:∀ {l:List Oper} {k:Nat} {s s2:AS},LexRun T G all sl cl k l s s2->(∀ j,l[j]? = all[k + j]?) ->
  ∀ (ρ:Ren) (a:Act) (w:World),Rel ρ s a w->(∀ ρ' a' w',Rel ρ' s2 a' w'->StepR (Dm s.h) ρ w (Dm s2.h) ρ' w'->Q' .normal a' w') ->
  wpOps P all.toArray Q' (List.range' k l.length) a w:=by
 intro l k s s2 h
 induction h with
 | nil k s=>intro _ ρ a w r hq;exact hq ρ a w r (StepR.refl _ _ _)
 | @cons k o rest s s1 s2 hop t ih =>
  intro hl ρ a w r hq
  have h0:all[k]? = some o:=by simpa using (hl 0).symm
  simp only [List.length_cons,List.range'_succ]
  rw [wpOps_cons]
  exact opTo_sound hT hG hop r k h0 fun ρ' a' w' r' st =>
   ih (fun j=>by have:=hl (j + 1);simp only [List.getElem?_cons_succ] at this;rw [this];congr 1;omega) ρ' a' w' r' fun ρ'' a'' w'' r'' st'=>hq ρ'' a'' w'' r'' (st.trans st')
theorem wpAnyA_lex (hT:TTOk P T) (hG:CtxOk P G) (he:∀ i o,all[i]? = some o->∀ e ∈ o.after,Region.binds .any e = true->e.on < i)
  (hfree:∀ i j oi oj,i < j->all[i]? = some oi->all[j]? = some oj->Free all sl cl i j oi oj) {Q:AS->Prop}:∀ {l:List Oper} {k:Nat} {s s2:AS},LexRun T G all sl cl k l s s2 ->
  (∀ j,l[j]? = all[k + j]?)->k + l.length = all.length->∀ listed:Array Bool,listed.size = all.length->(∀ j,listed.getD j false = true↔j < k)->wfS s->Q s2->wpAnyA T G all sl cl Q l.length listed s:=by
 intro l k s s2 h
 induction h with
 | nil k s =>
  intro _ hk listed hsz hli hwf hq
  refine ⟨?_,hq⟩
  cases hr:Region.ready .any all.toArray listed with
  | nil=>rfl
  | cons x xs =>
   exfalso
   have hx:x ∈ Region.ready .any all.toArray listed:=by rw [hr];simp
   obtain ⟨h1,o,ho,_⟩:=mem_ready.1 hx
   have hlt:x < all.length:=by simp at ho;exact (List.getElem?_eq_some_iff.1 ho).1
   have h2:=(hli x).2 (by simp at hk;omega)
   have hxl:x < listed.size:=by omega
   simp [hxl] at h1 h2
   rw [h1] at h2;cases h2
 | @cons k o rest s s1 s2 hop t ih =>
  intro hl hk listed hsz hli hwf hq
  have h0:all[k]? = some o:=by simpa using (hl 0).symm
  have hkl:k < all.length:=(List.getElem?_eq_some_iff.1 h0).1
  have hwf1:=opTo_wf hT hG k h0 hop hwf
  have hready:k ∈ Region.ready .any all.toArray listed:=by
   rw [mem_ready]
   refine ⟨?_,o,by simpa using h0,fun e hee hb=>(hli e.on).2 (he k o h0 e hee hb)⟩
   have:¬ listed.getD k false = true:=fun hh=>by have:=(hli k).1 hh;omega
   have hxl:k < listed.size:=by omega
   simp [hxl] at this ⊢
   exact this
  have hclosed:closed all listed:=fun j oj hj hlj e hee hb=>(hli e.on).2 (by
   have h1:=(hli j).1 hlj
   have h2:=he j oj hj e hee hb
   omega)
  refine wpAnyA_first hT hG h0 rest.length listed s s1 hclosed (fun j oj hj hjk hun=>?_) hready hop hwf hwf1 ?_
  ·refine hfree k j o oj ?_ h0 hj
   have:¬ j < k:=fun hlt=>by
    have h2:=(hli j).2 hlt
    have hxl:j < listed.size:=by have:=(List.getElem?_eq_some_iff.1 hj).1;omega
    simp [hxl] at hun h2
    rw [hun] at h2;cases h2
   omega
  ·refine ih (fun j=>by have:=hl (j + 1);simp only [List.getElem?_cons_succ] at this;rw [this];congr 1;omega) (by simp at hk;omega) _ (by simpa using hsz) (fun j=>?_) hwf1 hq
   by_cases hj:j = k
   ·subst hj
    have hxl:j < listed.size:=by omega
    simp [hxl]
   ·rw [getD_set_ne false (Ne.symm hj),hli];omega
theorem lex_draw (hm:P.follows .mixedOrders = true) (hT:TTOk P T) (hG:CtxOk P G) {id:Nat} {Q':Exit->Act->World->Prop} {s s2:AS} (h:LexRun T G all sl cl 0 all s s2)
  {cs:List (Nat × Nat)} (hlen:cs.length = all.length) (hd:drawOk all cs = true) (hcs:∀ i c,cs[i]? = some c->c = (cl i,sl i))
  {ρ:Ren} {a:Act} {w:World} (r:Rel ρ s a w) (hq:∀ ρ' a' w',Rel ρ' s2 a' w'->StepR (Dm s.h) ρ w (Dm s2.h) ρ' w'->Q' .normal a' w') :
  (Code.region id all.toArray true).wp P Q' a w:=by
 refine wp_region_any hm ?_
 have r':Rel ρ s a { w with drawn:=w.drawn + 1 }:=⟨r.tmps,r.defers,r.ok,r.mem.sameH rfl⟩
 obtain ⟨he,hfree⟩:=drawOk_spec hlen hd sl cl hcs
 have:=wpAnyA_lex hT hG he hfree (Q:=fun x=>x = s2) h (fun j=>by simp) (by simp) (Array.replicate all.length false) (by simp) (fun j=>by
  constructor
  ·intro hh
   rcases Nat.lt_or_ge j all.length with h1 | h1
   ·simp [h1] at hh
   ·simp [h1] at hh
  ·intro hh;omega) ⟨ρ,a,_,r'⟩ rfl
 have hsz:all.toArray.size = all.length:=by simp
 rw [hsz]
 refine wpAny_of_A hT hG _ _ _ this ρ a _ r' fun ρ' s' a' w' hs rr st=>?_
 subst hs
 exact hq ρ' a' w' rr ⟨st.agree,st.sub,st.size,st.os,st.tape,st.output,st.keep,st.fresh⟩
theorem lex_plain (hT:TTOk P T) (hG:CtxOk P G) {id:Nat} {Q':Exit->Act->World->Prop} {s s2:AS} (h:LexRun T G all sl cl 0 all s s2)
  {ρ:Ren} {a:Act} {w:World} (r:Rel ρ s a w) (hq:∀ ρ' a' w',Rel ρ' s2 a' w'->StepR (Dm s.h) ρ w (Dm s2.h) ρ' w'->Q' .normal a' w') :
  (Code.region id all.toArray false).wp P Q' a w:=by
 refine wp_region ?_
 have:=lex_ops hT hG h (fun j=>by simp) ρ a w r hq
 simpa [List.range_eq_range'] using this
end
end Go.Rq
namespace Go.Rq
open Go
def takeHint (rid i:Nat):List Hint->Option HK × List Hint
 | []=>(none,[])
 | x :: r=>match Nat.beq x.rid rid && Nat.beq x.op i with
  | true=>(some x.k,r)
  | false=>(none,x :: r)
def isSl (T:TT) (t:TypeId):Bool :=
 match T.ty t with
 | some ty=>match ty.desc with
  | .slice _=>true
  | _=>false
 | none=>false
def isTu (T:TT) (t:TypeId):Bool :=
 match T.ty t with
 | some _=>false
 | none=>match Nat.beq t 0 with
  | true=>false
  | false=>true
def anySl (T:TT):List TypeId->Bool
 | []=>false
 | t :: r=>match isSl T t with
  | true=>true
  | false=>anySl T r
def news (T:TT) (o:Oper):Nat :=
 match o.op with
 | .alloc _ | .box _ _ | .buildSlice _ _ _ | .makeSlice _ _ _=>1
 | .call { callee:=.value (.func _),argTypes,.. }=>match isSl T o.type with
  | true=>2
  | false=>match isTu T o.type && anySl T argTypes.toList with
   | true=>2
   | false=>1
 | .call { callee:=.builtin .append,.. }=>2
 | _=>0
def newsAll (T:TT):List Oper->Nat
 | []=>0
 | o :: r=>news T o + newsAll T r
def appN:Heap->Nat->Heap
 | [],n=>List.replicate n none
 | a :: r,n=>a :: appN r n
def extH (h:Heap):Nat->Heap
 | 0=>h
 | n + 1=>appN h (n + 1)
theorem appN_eq:∀ (h:Heap) (n:Nat),appN h n = h ++ List.replicate n none
 | [],_=>rfl
 | a :: r,n=>by simp [appN,appN_eq r n]
theorem extH_eq (h:Heap) (n:Nat):extH h n = h ++ List.replicate n none:=by
 cases n with
 | zero=>simp [extH]
 | succ n=>simp only [extH,appN_eq]
theorem hget_eq:∀ (h:Heap) (i:Nat),hget h i = h[i]?.join
 | [],_=>rfl
 | _ :: _,0=>rfl
 | _ :: r,i + 1=>by simp [hget,hget_eq r i]
theorem hget_extH (h:Heap) (n i:Nat):hget (extH h n) i = hget h i:=by
 rw [hget_eq,hget_eq,extH_eq]
 by_cases hi:i < h.length
 ·rw [List.getElem?_append_left hi]
 ·rw [List.getElem?_append_right (by omega),List.getElem?_eq_none (l:=h) (by omega)]
  rw [List.getElem?_replicate]
  split <;> rfl
theorem Dm_extH (h:Heap) (n:Nat):Dm (extH h n) = Dm h:=by
 funext i;unfold Dm;rw [hget_extH]
theorem Rel.ext {ρ:Ren} {s:AS} {a:Act} {w:World} (r:Rel ρ s a w) (n:Nat):Rel ρ ⟨s.t,extH s.h n⟩ a w :=
 ⟨r.tmps,r.defers,by simp only [Dm_extH];exact r.ok,r.mem.congr (hget_extH s.h n)⟩
def runOps (T:TT) (G:Ctx) (rid:Nat) (all:List Oper):List Oper->Nat->Nat->List Hint->AS->Option (List Prop × AS × List (Nat × Nat) × List Hint)
 | [],_,_,hs,s=>some ([],s,[],hs)
 | o :: r,i,slot,hs,s=>match takeHint rid i hs with
  | (hk,hs')=>match outOp T G all o slot hk s.t s.h with
   | none=>none
   | some (pre,v,h',c)=>match runOps T G rid all r (i + 1) (slot + news T o) hs' ⟨putT s.t o.dst v,h'⟩ with
    | none=>none
    | some (pre2,s2,cs,hs2)=>some (pre ++ pre2,s2,(c,slot) :: cs,hs2)
theorem runOps_spec {T:TT} {G:Ctx} {rid:Nat} {all:List Oper}:∀ {l:List Oper} {i slot:Nat} {hs hs2:List Hint} {s s2:AS} {pre:List Prop} {cs:List (Nat × Nat)},
  runOps T G rid all l i slot hs s = some (pre,s2,cs,hs2)->(∀ p ∈ pre,p)->cs.length = l.length/\∀ sl cl:Nat->Nat,(∀ j c,cs[j]? = some c->c = (cl (i + j),sl (i + j)))->LexRun T G all sl cl i l s s2
 | [],i,slot,hs,hs2,s,s2,pre,cs,h,_=>by
  simp only [runOps,Option.some.injEq,Prod.mk.injEq] at h
  obtain ⟨_,rfl,rfl,_⟩:=h
  exact ⟨rfl,fun _ _ _=>.nil _ _⟩
 | o :: r,i,slot,hs,hs2,s,s2,pre,cs,h,hp=>by
  simp only [runOps] at h
  split at h
  ·cases h
  ·rename_i p1 v h' c ho
   split at h
   ·cases h
   ·rename_i p2 s3 cs' hs3 hr
    simp only [Option.some.injEq,Prod.mk.injEq] at h
    obtain ⟨rfl,rfl,rfl,rfl⟩:=h
    have ih:=runOps_spec hr (fun p hp'=>hp p (List.mem_append_right _ hp'))
    refine ⟨by simp [ih.1],fun sl cl hcs=>?_⟩
    have h0:=hcs 0 _ rfl
    simp only [Nat.add_zero,Prod.mk.injEq] at h0
    have hop:OpTo T G all o (sl i) (cl i) s ⟨putT s.t o.dst v,h'⟩:=by
     rw [<-h0.1,<-h0.2]
     exact ⟨_,_,_,_,ho,fun p hp'=>hp p (List.mem_append_left _ hp'),rfl⟩
    refine .cons hop (ih.2 sl cl fun j c hj=>?_)
    have:=hcs (j + 1) c (by simpa using hj)
    rw [this]
    rw [show i + (j + 1) = i + 1 + j by omega]
def conj:List Prop->Prop->Prop
 | [],q=>q
 | p :: r,q=>p/\conj r q
theorem conj_iff {l:List Prop} {q:Prop}:conj l q↔(∀ p ∈ l,p)/\q:=by
 induction l with
 | nil=>simp [conj]
 | cons p r ih=>simp only [conj,ih,List.mem_cons,forall_eq_or_imp,and_assoc]
def AWp (P:Program) (c:Code) (Q:Exit->AS->Prop) (s:AS):Prop :=
 ∀ (ρ:Ren) (a:Act) (w:World),Rel ρ s a w->c.wp P (fun e a' w'=>∃ s' ρ',Q e s'/\Rel ρ' s' a' w'/\StepR (Dm s.h) ρ w (Dm s'.h) ρ' w') a w
def LWp (P:Program) (c:Code) (Q:Exit->AS->Prop) (s:AS):Prop :=
 ∀ (ρ:Ren) (a:Act) (w:World),Rel ρ s a w->∀ (b:Frame) (k:List Item) (cs:List Frame),∃ e a' w',(∃ s' ρ',Q e s'/\Rel ρ' s' a' w'/\StepR (Dm s.h) ρ w (Dm s'.h) ρ' w') /\
  Arrives P (lone (b.at a (.code c :: .inLoop c :: k)) cs w) b k cs e a' w'
theorem AWp.mono {P:Program} {c:Code} {Q Q':Exit->AS->Prop} {s:AS} (h:AWp P c Q s) (hq:∀ e s',Q e s'->Q' e s'):AWp P c Q' s :=
 fun ρ a w r=>wp_mono (h ρ a w r) fun _ _ _ ⟨s',ρ',q,r',st⟩=>⟨s',ρ',hq _ _ q,r',st⟩
theorem LWp.loop {P:Program} {c:Code} {Q:Exit->AS->Prop} {s:AS} (h:LWp P c Q s):AWp P (.loop c) Q s :=
 fun ρ a w r b k cs=>let ⟨e,a',w',q,arr⟩:=h ρ a w r b k cs;⟨e,a',w',q,.of_steps (.one step_loop) arr⟩
theorem LWp.round {P:Program} {c:Code} {Q:Exit->AS->Prop} {s:AS} (h:AWp P c (fun e s'=>match e with | .normal=>LWp P c Q s' | e=>Q e s') s):LWp P c Q s:=by
 intro ρ a w r b k cs
 obtain ⟨e,a₁,w₁,⟨s1,ρ1,q,r1,st⟩,arr⟩:=h ρ a w r b (.inLoop c :: k) cs
 cases e with
 | normal =>
  obtain ⟨e2,a2,w2,⟨s2,ρ2,q2,r2,st2⟩,arr2⟩:=q ρ1 a₁ w₁ r1 b k cs
  exact ⟨e2,a2,w2,⟨s2,ρ2,q2,r2,st.trans st2⟩,.of_steps (Steps.trans arr (.one step_inLoop)) arr2⟩
 | exit id=>exact ⟨_,a₁,w₁,⟨s1,ρ1,q,r1,st⟩,.pass (x:=.inLoop c) rfl (fun _ _=>.inl (by simp)) arr⟩
 | goto l=>exact ⟨_,a₁,w₁,⟨s1,ρ1,q,r1,st⟩,.pass (x:=.inLoop c) rfl (fun _ _=>.inl (by simp)) arr⟩
 | ret=>exact ⟨_,a₁,w₁,⟨s1,ρ1,q,r1,st⟩,.pass (x:=.inLoop c) rfl (fun _ _=>.inl (by simp)) arr⟩
 | panic ch=>exact ⟨_,a₁,w₁,⟨s1,ρ1,q,r1,st⟩,.pass (x:=.inLoop c) rfl (fun _ _=>.inl (by simp)) arr⟩
 | outgrown=>exact ⟨_,a₁,w₁,⟨s1,ρ1,q,r1,st⟩,.pass (x:=.inLoop c) rfl (fun _ _=>.inl (by simp)) arr⟩
theorem StepR.weak {D D' D'':Nat->Prop} {ρ ρ':Ren} {w w':World} (h:StepR D ρ w D' ρ' w') (h1:∀ i,D i->D'' i) (h2:∀ i,D'' i->D' i):StepR D ρ w D'' ρ' w' :=
 ⟨h.agree,h1,h.size,h.os,h.tape,h.output,h.keep,fun i hi hn=>h.fresh i (h2 i hi) hn⟩
def stopAt (id:Nat):List Hint->Option (List Hint)
 | []=>none
 | x :: r=>match Nat.beq x.rid id && Nat.beq x.op 1000000 with
  | true=>some r
  | false=>none
def ev (P:Program) (T:TT) (G:Ctx):Nat->Code->(Exit->AS->List Hint->Prop)->AS->List Hint->Prop
 | 0,_,_,_,_=>False
 | n + 1,c,K,s,hs=>match c with
  | .skip=>K .normal s hs
  | .seq a b=>ev P T G n a (fun e s hs=>match e with
   | .normal=>ev P T G n b K s hs
   | e=>K e s hs) s hs
  | .cond c a b=>match evT s.t c with
   | .v1 (.sc (.bo t))=>match t with
    | true=>ev P T G n a K s hs
    | false=>ev P T G n b K s hs
   | _=>False
  | .block id c=>match stopAt id hs with
   | some hs'=>AWp P (.block id c) (fun e s'=>K e s' hs') s
   | none=>ev P T G n c (fun e s hs=>match e with
    | .exit j=>match Nat.beq j id with
     | true=>K .normal s hs
     | false=>K (.exit j) s hs
    | e=>K e s hs) s hs
  | .loop c=>ev P T G n c (fun e s hs=>match e with
   | .normal=>ev P T G n (.loop c) K s hs
   | e=>K e s hs) s hs
  | .exit id=>K (.exit id) s hs
  | .ret=>K .ret s hs
  | .region id ops draw=>match runOps T G id ops.toList ops.toList 0 s.h.length hs ⟨s.t,extH s.h (newsAll T ops.toList)⟩ with
   | none=>False
   | some (pre,s',cs,hs')=>match draw with
    | false=>conj pre (K .normal s' hs')
    | true=>match drawOk ops.toList cs with
     | true=>conj pre (K .normal s' hs')
     | false=>False
  | _=>False
section
variable {P:Program} {T:TT} {G:Ctx}
theorem region_sound (hm:P.follows .mixedOrders = true) (hT:TTOk P T) (hG:CtxOk P G) {id:Nat} {ops:Array Oper} {draw:Bool} {s s':AS} {hs hs':List Hint} {pre:List Prop} {cs:List (Nat × Nat)}
  (h:runOps T G id ops.toList ops.toList 0 s.h.length hs ⟨s.t,extH s.h (newsAll T ops.toList)⟩ = some (pre,s',cs,hs')) (hp:∀ p ∈ pre,p) (hd:draw = true->drawOk ops.toList cs = true)
  {Q:Exit->AS->Prop} (hq:Q .normal s'):AWp P (.region id ops draw) Q s:=by
 intro ρ a w r
 obtain ⟨hlen,hlex⟩:=runOps_spec h hp
 let cl:Nat->Nat:=fun i=>(cs.getD i (0,0)).1
 let sl:Nat->Nat:=fun i=>(cs.getD i (0,0)).2
 have hcs:∀ i c,cs[i]? = some c->c = (cl i,sl i):=fun i c hc=>by
  simp only [cl,sl,List.getD_eq_getElem?_getD,hc,Option.getD_some]
 have lx:=hlex sl cl fun j c hj=>by simpa using hcs j c hj
 have rx:=r.ext (newsAll T ops.toList)
 have hops:ops = ops.toList.toArray:=by simp
 have fin:∀ ρ' a' w',Rel ρ' s' a' w'->StepR (Dm (extH s.h (newsAll T ops.toList))) ρ w (Dm s'.h) ρ' w'->∃ s'' ρ'',Q .normal s''/\Rel ρ'' s'' a' w'/\StepR (Dm s.h) ρ w (Dm s''.h) ρ'' w':=by
  intro ρ' a' w' r' st
  rw [Dm_extH] at st
  exact ⟨s',ρ',hq,r',st⟩
 cases draw with
 | false =>
  rw [hops]
  exact lex_plain hT hG lx rx fun ρ' a' w' r' st=>fin ρ' a' w' r' (by simpa using st)
 | true =>
  rw [hops]
  exact lex_draw hm hT hG lx hlen (hd rfl) hcs rx fun ρ' a' w' r' st=>fin ρ' a' w' r' (by simpa using st)
theorem ev_sound (hm:P.follows .mixedOrders = true) (hT:TTOk P T) (hG:CtxOk P G):∀ (n:Nat) (c:Code) (K:Exit->AS->List Hint->Prop) (s:AS) (hs:List Hint),ev P T G n c K s hs ->
  AWp P c (fun e s'=>∃ hs',K e s' hs') s/\∀ c',c = .loop c'->LWp P c' (fun e s'=>∃ hs',K e s' hs') s:=by
 intro n
 induction n with
 | zero=>intro c K s hs h;cases h
 | succ n ih =>
  intro c K s hs h
  cases c with
  | skip =>
   refine ⟨fun ρ a w r=>wp_skip ⟨s,ρ,⟨hs,h⟩,r,StepR.refl _ _ _⟩,fun c' hc=>by cases hc⟩
  | seq x y =>
   refine ⟨fun ρ a w r=>wp_seq ?_,fun c' hc=>by cases hc⟩
   refine wp_mono ((ih _ _ _ _ h).1 ρ a w r) fun e a' w' ⟨s',ρ',⟨hs',q⟩,r',st⟩=>?_
   cases e with
   | normal =>
    exact wp_mono ((ih _ _ _ _ q).1 ρ' a' w' r') fun e a'' w'' ⟨s'',ρ'',q'',r'',st'⟩=>⟨s'',ρ'',q'',r'',st.trans st'⟩
   | _=>exact ⟨s',ρ',⟨hs',q⟩,r',st⟩
  | cond t x y =>
   refine ⟨fun ρ a w r=>?_,fun c' hc=>by cases hc⟩
   simp only [ev] at h
   split at h
   ·rename_i b hb
    have hv:a.eval t = .bool b:=by rw [r.eval];simp only [hb];rfl
    refine wp_cond hv ?_
    cases b with
    | true=>exact (ih _ _ _ _ h).1 ρ a w r
    | false=>exact (ih _ _ _ _ h).1 ρ a w r
   ·exact h.elim
  | block id c =>
   refine ⟨?_,fun c' hc=>by cases hc⟩
   simp only [ev] at h
   split at h
   ·exact h.mono fun e s' q=>⟨_,q⟩
   ·intro ρ a w r
    refine wp_block (wp_mono ((ih _ _ _ _ h).1 ρ a w r) fun e a' w' ⟨s',ρ',⟨hs',q⟩,r',st⟩=>?_)
    cases e with
    | exit j =>
     simp only [Exit.inBlock]
     cases hb:Nat.beq j id with
     | true =>
      have:j = id:=by rw [<-Nat.beq_eq];exact hb
      simp only [hb] at q
      rw [if_pos this]
      exact ⟨s',ρ',⟨hs',q⟩,r',st⟩
     | false =>
      have:j ≠ id:=fun e=>by rw [<-Nat.beq_eq,hb] at e;cases e
      simp only [hb] at q
      rw [if_neg this]
      exact ⟨s',ρ',⟨hs',q⟩,r',st⟩
    | _=>exact ⟨s',ρ',⟨hs',q⟩,r',st⟩
  | loop c =>
   have hl:LWp P c (fun e s'=>∃ hs',K e s' hs') s:=by
    refine LWp.round (((ih _ _ _ _ h).1).mono fun e s' ⟨hs',q⟩=>?_)
    cases e with
    | normal=>exact (ih _ _ _ _ q).2 c rfl
    | _=>exact ⟨hs',q⟩
   exact ⟨hl.loop,fun c' hc=>by cases hc;exact hl⟩
  | exit id=>exact ⟨fun ρ a w r=>wp_exit ⟨s,ρ,⟨hs,h⟩,r,StepR.refl _ _ _⟩,fun c' hc=>by cases hc⟩
  | ret=>exact ⟨fun ρ a w r=>wp_ret ⟨s,ρ,⟨hs,h⟩,r,StepR.refl _ _ _⟩,fun c' hc=>by cases hc⟩
  | region id ops draw =>
   refine ⟨?_,fun c' hc=>by cases hc⟩
   simp only [ev] at h
   split at h
   ·exact h.elim
   ·rename_i pre s' cs hs' hrun
    split at h
    ·obtain ⟨hp,hk⟩:=conj_iff.1 h
     exact region_sound hm hT hG hrun hp (fun hd=>by cases hd) ⟨hs',hk⟩
    ·split at h
     ·rename_i hd
      obtain ⟨hp,hk⟩:=conj_iff.1 h
      exact region_sound hm hT hG hrun hp (fun _=>hd) ⟨hs',hk⟩
     ·exact h.elim
  | _=>exact absurd h (by simp [ev])
def resOne (T:TT) (s:AS):ResultVar->Option V1
 | .tmp t=>asV1 (getT s.t t)
 | .cell a t=>match asSc (getT s.t a),T.ty t with
  | some (.pt b o),some ty=>match hget s.h b with
   | none=>none
   | some blk=>match blk.lo with
    | _ + 1=>none
    | 0=>partA ty blk.cells o
  | _,_=>none
def resAll (T:TT) (s:AS):List ResultVar->Option (List V1)
 | []=>some []
 | r :: rs=>match resOne T s r with
  | none=>none
  | some v=>(resAll T s rs).map (v :: ·)
def resA (T:TT) (s:AS) (l:List ResultVar):Option AV :=
 match resAll T s l with
 | some [v]=>some (.v1 v)
 | some vs=>some (.tup vs)
 | none=>none
def resStep (tmps:Array Value):ResultVar->Sem Value
 | .tmp t=>pure (tmps.getD t undef)
 | .cell b t=>do loadVar t (<-asAddr (tmps.getD b undef))
theorem results_eq (fn:Func) (tmps:Array Value):results fn tmps = (do
  let vs <-fn.results.mapM (resStep tmps)
  pure (if h:vs.size = 1 then vs[0] else .tuple vs):Sem Value):=by
 unfold results
 have:(fun x:ResultVar=>(match x with
  | .tmp t=>pure (tmps.getD t undef)
  | .cell a t=>do loadVar t (<-asAddr (tmps.getD a undef)):Sem Value)) = resStep tmps:=by
  funext x;cases x <;> rfl
 rw [<-this]
 rfl
theorem resOne_run (hT:TTOk P T) {ρ:Ren} {s:AS} {a:Act} {w:World} (r:Rel ρ s a w) {x:ResultVar} {v:V1} (h:resOne T s x = some v) :
  (resStep a.tmps x).run P w = .ok (v.val ρ) w/\v.ok (Dm s.h):=by
 have hget:∀ t,a.tmps.getD t undef = (getT s.t t).val ρ:=fun t=>by
  have:=congrFun r.eval (.tmp t)
  exact this
 cases x with
 | tmp t =>
  have:=asV1_spec h ρ (Dm s.h)
  refine ⟨?_,this.2 (getT_ok r.ok t)⟩
  simp only [resStep,hget,this.1,Sem.run_pure]
 | cell b t =>
  simp only [resOne] at h
  split at h
  ·rename_i blk off ty hs hty
   split at h
   ·cases h
   ·rename_i bk hbk
    split at h
    ·cases h
    rename_i hlo
    have g1:=r.mem.row _ _ hbk hlo
    have g2:=r.mem.cok _ _ hbk
    have hl:loadB ty false off bk = some ([],.v1 v):=by simp [loadB,hlo,h]
    have:=load_sound hT hty hl (fun p hp=>by cases hp) g2 ρ (ρ blk) w g1 hlo
    refine ⟨?_,this.2⟩
    have h2:=this.1
    simp only [Instr.loadAt,Instr.sureAddr,Sem.run_bind,Sem.run_pure,Result.andThen_ok] at h2
    simp only [resStep,hget,(asSc_spec hs ρ fun _=>True).1,Sc.val,asAddr,Sem.run_bind,Sem.run_pure,Result.andThen_ok,h2]
    rfl
  ·cases h
theorem resA_run (hT:TTOk P T) {ρ:Ren} {s:AS} {a:Act} {w:World} (r:Rel ρ s a w) {fn:Func} {v:AV} (h:resA T s fn.results.toList = some v) :
  (results fn a.tmps).run P w = .ok (v.val ρ) w/\v.ok (Dm s.h):=by
 have key:∀ (l:List ResultVar) (vs:List V1),resAll T s l = some vs ->
   (l.mapM (resStep a.tmps)).run P w = .ok (vs.map (V1.val ρ)) w/\∀ v ∈ vs,v.ok (Dm s.h):=by
  intro l
  induction l with
  | nil=>intro vs h;simp [resAll] at h;subst h;simp
  | cons x l ih =>
   intro vs h
   simp only [resAll] at h
   split at h
   ·cases h
   ·rename_i v hv
    simp only [Option.map_eq_some_iff] at h
    obtain ⟨vs',h1,rfl⟩:=h
    have h2:=resOne_run hT r hv
    have h3:=ih vs' h1
    refine ⟨?_,fun u hu=>?_⟩
    ·rw [List.mapM_cons,Sem.run_bind,h2.1,Result.andThen_ok,Sem.run_bind,h3.1]
     simp
    ·rcases List.mem_cons.1 hu with rfl | hu
     ·exact h2.2
     ·exact h3.2 u hu
 unfold resA at h
 have hm:∀ vs,resAll T s fn.results.toList = some vs->(results fn a.tmps).run P w = .ok (if hh:(vs.map (V1.val ρ)).toArray.size = 1 then (vs.map (V1.val ρ)).toArray[0] else .tuple (vs.map (V1.val ρ)).toArray) w:=by
  intro vs hvs
  have:=(key _ _ hvs).1
  rw [results_eq,Sem.run_bind]
  have e:(fn.results.mapM (resStep a.tmps)).run P w = .ok (vs.map (V1.val ρ)).toArray w:=by
   rw [Array.mapM_eq_mapM_toList,Sem.run_map,this]
   rfl
  rw [e]
  rfl
 split at h
 ·rename_i v' hv'
  cases h
  refine ⟨?_,(key _ _ hv').2 _ (by simp)⟩
  rw [hm _ hv'];rfl
 ·rename_i vs hne hv'
  cases h
  refine ⟨?_,(key _ _ hv').2⟩
  rw [hm _ hv']
  have:¬ (vs.map (V1.val ρ)).toArray.size = 1:=by
   simp only [List.size_toArray,List.length_map]
   intro hl
   match vs,hl with
   | [v0],_=>exact hne v0 rfl
  rw [dif_neg this];rfl
 ·cases h
theorem val_ok_any {v:AV} (h:v.ok fun _=>False) (ρ ρ':Ren):v.val ρ = v.val ρ':=AV.val_agree (D:=fun _=>False) (fun _ h=>h.elim) h
def frame0 (args:List AV) (n:Nat):List AV:=args ++ List.replicate (n - args.length) undefA
def FEnd (T:TT) (fn:Func) (v:AV) (e:Exit) (s:AS):Prop :=
 match e with
 | .normal | .ret=>resA T s fn.results.toList = some v
 | _=>False
theorem name_ne {fn:Func} (h:(fn.name == "runtime.NumGoroutine") = false):fn.name ≠ "runtime.NumGoroutine":=by simpa using h
theorem enter_run {f:FuncId} {fn:Func} {c:Code} (hf:P.funcs[f]? = some fn) (hb:fn.body = some c) (hn:(fn.name == "runtime.NumGoroutine") = false) (args:Array Value) (w:World) :
  (callFunc f args).run P w = .ok (.enter f args) w:=by
 simp [callFunc,hf,name_ne hn,hb]
theorem pure_call (hT:TTOk P T) {f:FuncId} {fn:Func} {c:Code} (hf:P.funcs[f]? = some fn) (hb:fn.body = some c) (hn:(fn.name == "runtime.NumGoroutine") = false)
  {args:List AV} (hargs:∀ x ∈ args,x.ok fun _=>False) {v:AV} (hv:v.ok fun _=>False) (h:AWp P c (FEnd T fn v) ⟨frame0 args fn.ntmps,[]⟩):∀ h,CallOk P f args h v h:=by
 intro hp ρ w hr _ o a next Q hnext
 rw [enter_run hf hb hn,Oper.upon_enter]
 refine calls_of_wp hf hb ?_
 have hrel:Rel (fun _=>0) ⟨frame0 args fn.ntmps,[]⟩ { tmps:=(args.map (AV.val ρ)).toArray ++ Array.replicate (fn.ntmps - (args.map (AV.val ρ)).toArray.size) undef,defers:=[] } w:=by
  refine ⟨?_,rfl,fun x hx=>?_,RelH.nil _ _⟩
  ·have:args.map (AV.val fun _=>0) = args.map (AV.val ρ):=List.map_congr_left fun x hx=>val_ok_any (hargs x hx) _ _
   apply Array.ext'
   simp [frame0,this,undefA,AV.val,undef]
  ·unfold frame0 at hx
   rcases List.mem_append.1 hx with hx | hx
   ·exact AV.ok_mono (fun _ h=>h.elim) (hargs x hx)
   ·have:=(List.mem_replicate.1 hx).2
    subst this
    intro v hv;cases hv
 refine wp_mono (h _ _ w hrel) fun e a' w' ⟨s',ρ',q,r',st⟩=>?_
 have fin:resA T s' fn.results.toList = some v->a'.defers = []/\∃ u,(results fn a'.tmps).run P w' = .ok u w'/\next (a.put o.dst u) w':=by
  intro hres
  have:=resA_run hT r' (fn:=fn) hres
  refine ⟨r'.defers,_,this.1,?_⟩
  rw [val_ok_any hv ρ' ρ]
  have st':StepR (fun _=>False) (fun _=>0) w (Dm s'.h) ρ' w':=by
   have e:Dm ([]:Heap) = fun _=>False:=by funext i;simp [Dm,hget]
   rw [e] at st
   exact st
  have hk:=hr.keep st'
  exact hnext ρ w' hk.2 hk.1 (AV.ok_mono (fun _ h=>h.elim) hv)
 cases e with
 | normal=>exact fin q
 | ret=>exact fin q
 | exit j=>exact q.elim
 | goto l=>exact q.elim
 | panic ch=>exact q.elim
 | outgrown=>exact q.elim
end
end Go.Rq
namespace Go.Rq
open Go
def nthO {α:Type}:List (Option α)->Nat->Option α
 | [],_=>none
 | a :: _,0=>a
 | _ :: r,n + 1=>nthO r n
def zokS:Sc->Bool
 | .pt _ _ | .sl _ _ _ _ | .so _ _ | .sv _ _ _=>false
 | .fn _ caps=>match caps with
  | []=>true
  | _=>false
 | .rw v=>v.oneCell'
 | _=>true
def zokB:V1->Bool
 | .sc s=>zokS s
 | .agg cs=>cs.all fun c=>match c with
  | .ws _ _ _=>true
  | .one s=>zokS s
theorem zok_of {v:V1} (h:zokB v = true):v.ok fun _=>False:=by
 have key:∀ s:Sc,zokS s = true->s.ok fun _=>False:=by
  intro s hs
  cases s with
  | fn f caps =>
   cases caps with
   | nil=>intro c hc;cases hc
   | cons c r=>cases hs
  | _=>simp_all [Sc.ok,zokS]
 cases v with
 | sc s=>exact key s h
 | agg cs =>
  intro c hc
  have:=List.all_eq_true.1 h c hc
  cases c with
  | ws _ _ _=>trivial
  | one s=>exact key s this
def Facts (P:Program) (t:TypeId) (x:TyX):Prop :=
 P.underlying t = some x.desc/\(P.info? t).map (·.size) = some x.sz/\(P.info? t).bind (·.zero) = some (x.zero.val fun _=>0)/\(x.zero.ok fun _=>False)/\(∀ sk,x.flat = some sk->FlatOk P t sk)/\((P.info? t).map (fun i=>Nat.ble i.bytes 4096) = some true)/\Nat.beq (clen x.zero.cells) x.sz = true
def AllFacts (P:Program):List (Option TyX)->Nat->Prop
 | [],_=>True
 | none :: r,k=>AllFacts P r (k + 1)
 | some x :: r,k=>Facts P k x/\AllFacts P r (k + 1)
theorem AllFacts.at {P:Program}:∀ {l:List (Option TyX)} {k i:Nat} {x:TyX},AllFacts P l k->nthO l i = some x->Facts P (k + i) x
 | [],_,_,_,_,h=>by simp [nthO] at h
 | none :: r,k,0,x,_,h=>by simp [nthO] at h
 | none :: r,k,i + 1,x,hf,h=>by
  have:=AllFacts.at (l:=r) hf (by simpa [nthO] using h)
  rw [show k + (i + 1) = k + 1 + i by omega];exact this
 | some y :: r,k,0,x,hf,h=>by simp [nthO] at h;subst h;exact hf.1
 | some y :: r,k,i + 1,x,hf,h=>by
  have:=AllFacts.at (l:=r) hf.2 (by simpa [nthO] using h)
  rw [show k + (i + 1) = k + 1 + i by omega];exact this
theorem ttOk_of {P:Program} {l:List (Option TyX)} (h:AllFacts P l 0):TTOk P (nthO l) where
 ty:=by
  have key:∀ t ty,TT.ty (nthO l) t = some ty->∃ x:TyX,x.toTy = ty/\Facts P t x:=by
   intro t ty ht
   unfold TT.ty at ht
   simp only [Option.map_eq_some_iff] at ht
   obtain ⟨x,hx,rfl⟩:=ht
   exact ⟨x,rfl,by simpa using AllFacts.at h hx⟩
  exact ⟨fun t ty ht=>by obtain ⟨x,rfl,f⟩:=key t ty ht;exact f.1,fun t ty ht=>by obtain ⟨x,rfl,f⟩:=key t ty ht;exact f.2.1,
   fun t ty ht=>by obtain ⟨x,rfl,f⟩:=key t ty ht;exact f.2.2.1,fun t ty ht=>by obtain ⟨x,rfl,f⟩:=key t ty ht;exact f.2.2.2.1⟩
 flat t ty sk ht hf:=by
  have:=AllFacts.at h ht
  simp only [Nat.zero_add] at this
  exact this.2.2.2.2.1 sk hf
 bts t ty ht:=by
  unfold TT.ty at ht
  simp only [Option.map_eq_some_iff] at ht
  obtain ⟨x,hx,rfl⟩:=ht
  have:=(AllFacts.at h hx).2.2.2.2.2.1
  simp only [Nat.zero_add] at this
  cases hi:P.info? t with
  | none=>rw [hi] at this;cases this
  | some i =>
   rw [hi] at this
   simp only [Option.map_some,Option.some.injEq] at this
   exact ⟨i,rfl,by rw [<-Nat.ble_eq];exact this⟩
 zsz t ty ht:=by
  unfold TT.ty at ht
  simp only [Option.map_eq_some_iff] at ht
  obtain ⟨x,hx,rfl⟩:=ht
  have:=(AllFacts.at h hx).2.2.2.2.2.2
  exact Nat.beq_eq.mp this
end Go.Rq
namespace Go.Rq
open Go
def bodyOf (fn:Func):Code:=fn.body.getD .skip
theorem same {p q:Prop} (h:p) (e:p = q):q:=e ▸ h
def vokB:AV->Bool
 | .v1 v=>zokB v
 | .tup l=>l.all zokB
 | .raw _=>true
theorem vok_of {v:AV} (h:vokB v = true):v.ok fun _=>False:=by
 cases v with
 | v1 v=>exact zok_of h
 | tup l=>exact fun v hv=>zok_of (List.all_eq_true.1 h v hv)
 | raw v=>trivial
section
variable {P:Program} {T:TT} {G:Ctx}
theorem pure_fn (hm:P.follows .mixedOrders = true) (hT:TTOk P T) (hG:CtxOk P G) {f:FuncId} {fn:Func} (hf:P.funcs[f]? = some fn) (hb:fn.body = some (bodyOf fn)) (hn:(fn.name == "runtime.NumGoroutine") = false)
  {args:List AV} (hargs:args.all vokB = true) {v:AV} (hv:vokB v = true) (n:Nat) (hs:List Hint)
  (h:ev P T G n (bodyOf fn) (fun e s' _=>FEnd T fn v e s') ⟨frame0 args fn.ntmps,[]⟩ hs):∀ h,CallOk P f args h v h :=
 pure_call hT hf hb hn (fun x hx=>vok_of (List.all_eq_true.1 hargs x hx)) (vok_of hv) ((ev_sound hm hT hG n _ _ _ hs h).1.mono fun _ _ ⟨_,q⟩=>q)
end
end Go.Rq
namespace Go.Rq
open Go
theorem extern_call {P:Program} {f:FuncId} {fn:Func} {e:Array Value->Sem Value} (hf:P.funcs[f]? = some fn) (hn:(fn.name == "runtime.NumGoroutine") = false) (hb:fn.body.isNone = true)
  (h1:Extern.findNext fn = none) (h2:Extern.find fn = some e) {args:List AV} {v:AV} (hv:vokB v = true) (h:∀ ρ w,(e (args.map (AV.val ρ)).toArray).run P w = .ok (v.val ρ) w) :
  ∀ h,CallOk P f args h v h:=by
 intro hp ρ w hr _ o a next Q hnext
 rw [run_callFunc_extern hf hn hb h1 h2,h ρ w,Result.andThen_ok,Oper.upon_value]
 exact hnext ρ w (StepR.refl _ _ _) hr (AV.ok_mono (fun _ h=>h.elim) (vok_of hv))
def cAdd64:List AV->Option (List Prop × AV)
 | [.v1 (.sc (.w .u64 x)),.v1 (.sc (.w .u64 y)),.v1 (.sc (.w .u64 c))] =>
  some ([c % 18446744073709551616 <= 1],.tup [.sc (.w .u64 (x + y + c)),.sc (.w .u64 ((x % 18446744073709551616 + y % 18446744073709551616 + c % 18446744073709551616) / 18446744073709551616))])
 | _=>none
def cSub64:List AV->Option (List Prop × AV)
 | [.v1 (.sc (.w .u64 x)),.v1 (.sc (.w .u64 y)),.v1 (.sc (.w .u64 c))] =>
  some ([c % 18446744073709551616 <= 1],.tup [.sc (.w .u64 (x % 18446744073709551616 + 18446744073709551616 - y % 18446744073709551616 - c % 18446744073709551616)),
   .sc (.w .u64 (bif Nat.blt (x % 18446744073709551616) (y % 18446744073709551616 + c % 18446744073709551616) then 1 else 0))])
 | _=>none
def add64E:Array Value->Sem Value:=fun args=>do
 let (x,y,c) <-Extern.MathBitsCarry.three "Add64" args
 pure (Extern.MathBitsCarry.pair ((x + y + c) % Extern.MathBitsCarry.m64) ((x + y + c) / Extern.MathBitsCarry.m64))
def sub64E:Array Value->Sem Value:=fun args=>do
 let (x,y,b) <-Extern.MathBitsCarry.three "Sub64" args
 pure (Extern.MathBitsCarry.pair ((x + Extern.MathBitsCarry.m64 - y - b) % Extern.MathBitsCarry.m64) (if x < y + b then 1 else 0))
theorem three_run (P:Program) (nm:String) (x y c:Nat) (hc:c <= 1) (w:World):(Extern.MathBitsCarry.three nm #[.int .u64 (Int.ofNat x),.int .u64 (Int.ofNat y),.int .u64 (Int.ofNat c)]).run P w = .ok (x,y,c) w:=by
 have:c = 0∨c = 1:=by omega
 rcases this with rfl | rfl <;> rfl
theorem add64_ok {P:Program} {f:FuncId} {fn:Func} (hf:P.funcs[f]? = some fn) (hn:(fn.name == "runtime.NumGoroutine") = false) (hb:fn.body.isNone = true)
  (h1:Extern.findNext fn = none) (h2:Extern.find fn = some add64E):(CallC.pure cAdd64).Ok P f:=by
 intro args pre v h hp
 unfold cAdd64 at h
 split at h
 ·rename_i x y c
  cases h
  have hc:=hp _ (List.mem_cons_self ..)
  refine extern_call hf hn hb h1 h2 (by rfl) fun ρ w=>?_
  unfold add64E
  have:=three_run P "Add64" (x % 18446744073709551616) (y % 18446744073709551616) (c % 18446744073709551616) hc w
  simp only [List.map_cons,List.map_nil,AV.val,V1.val,Sc.val,M,Sem.run_bind,this,Result.andThen_ok,Sem.run_pure,Extern.MathBitsCarry.pair,Extern.MathBitsCarry.m64]
  have e1:(x % 18446744073709551616 + y % 18446744073709551616 + c % 18446744073709551616) % 2 ^ 64 = (x + y + c) % 18446744073709551616:=by omega
  have e2:(x % 18446744073709551616 + y % 18446744073709551616 + c % 18446744073709551616) / 2 ^ 64 = (x % 18446744073709551616 + y % 18446744073709551616 + c % 18446744073709551616) / 18446744073709551616 % 18446744073709551616:=by omega
  rw [e1,e2,Nat.mod_mod]
 ·cases h
theorem sub64_ok {P:Program} {f:FuncId} {fn:Func} (hf:P.funcs[f]? = some fn) (hn:(fn.name == "runtime.NumGoroutine") = false) (hb:fn.body.isNone = true)
  (h1:Extern.findNext fn = none) (h2:Extern.find fn = some sub64E):(CallC.pure cSub64).Ok P f:=by
 intro args pre v h hp
 unfold cSub64 at h
 split at h
 ·rename_i x y c
  cases h
  have hc:=hp _ (List.mem_cons_self ..)
  refine extern_call hf hn hb h1 h2 (by rfl) fun ρ w=>?_
  unfold sub64E
  have:=three_run P "Sub64" (x % 18446744073709551616) (y % 18446744073709551616) (c % 18446744073709551616) hc w
  simp only [List.map_cons,List.map_nil,AV.val,V1.val,Sc.val,M,Sem.run_bind,this,Result.andThen_ok,Sem.run_pure,Extern.MathBitsCarry.pair,Extern.MathBitsCarry.m64]
  have e2:(if x % 18446744073709551616 < y % 18446744073709551616 + c % 18446744073709551616 then 1 else 0) = (bif Nat.blt (x % 18446744073709551616) (y % 18446744073709551616 + c % 18446744073709551616) then 1 else 0) % 18446744073709551616:=by
   cases hb:Nat.blt (x % 18446744073709551616) (y % 18446744073709551616 + c % 18446744073709551616)
   ·have:¬ (x % 18446744073709551616 < y % 18446744073709551616 + c % 18446744073709551616):=by rw [<-Nat.blt_eq,hb];simp
    rw [if_neg this];rfl
   ·have:x % 18446744073709551616 < y % 18446744073709551616 + c % 18446744073709551616:=by rw [<-Nat.blt_eq,hb]
    rw [if_pos this];rfl
  rw [e2]
 ·cases h
theorem CallOk.congr {P:Program} {f:FuncId} {args:List AV} {h h':Heap} {v v':AV} (c:CallOk P f args h v h') (e:∀ ρ,v.val ρ = v'.val ρ) (ho:vokB v' = true):CallOk P f args h v' h' :=
 fun ρ w hr ha o a next Q hn=>c ρ w hr ha o a next Q fun ρ' w' st rh _=>by
  rw [e ρ'];exact hn ρ' w' st rh (AV.ok_mono (fun _ h=>h.elim) (vok_of ho))
end Go.Rq
namespace Go.Rq
attribute [irreducible] ev
end Go.Rq
namespace Go.Rq
open Go
def flatC:Code->List Code
 | .seq a b=>flatC a ++ flatC b
 | c=>[c]
def AWq (P:Program) (D:Nat->Prop) (c:Code) (Q:Exit->AS->Prop) (s:AS):Prop :=
 ∀ (ρ0:Ren) (w0:World) (ρ:Ren) (a:Act) (w:World),Rel ρ s a w->StepR D ρ0 w0 (Dm s.h) ρ w ->
  c.wp P (fun e a' w'=>∃ s' ρ',Q e s'/\Rel ρ' s' a' w'/\StepR D ρ0 w0 (Dm s'.h) ρ' w') a w
theorem AWp.q {P:Program} {D:Nat->Prop} {c:Code} {Q:Exit->AS->Prop} {s:AS} (h:AWp P c Q s):AWq P D c Q s :=
 fun _ _ ρ a w r st=>wp_mono (h ρ a w r) fun _ _ _ ⟨s',ρ',q,r',st'⟩=>⟨s',ρ',q,r',st.trans st'⟩
theorem AWq.mono {P:Program} {D:Nat->Prop} {c:Code} {Q Q':Exit->AS->Prop} {s:AS} (h:AWq P D c Q s) (hq:∀ e s',Q e s'->Q' e s'):AWq P D c Q' s :=
 fun ρ0 w0 ρ a w r st=>wp_mono (h ρ0 w0 ρ a w r st) fun _ _ _ ⟨s',ρ',q,r',st'⟩=>⟨s',ρ',hq _ _ q,r',st'⟩
def AWqS (P:Program) (D:Nat->Prop):List Code->(Exit->AS->Prop)->AS->Prop
 | [],Q,s=>∀ (ρ0:Ren) (w0:World) (ρ:Ren) (a:Act) (w:World),Rel ρ s a w->StepR D ρ0 w0 (Dm s.h) ρ w->∃ s' ρ',Q .normal s'/\Rel ρ' s' a w/\StepR D ρ0 w0 (Dm s'.h) ρ' w
 | c :: r,Q,s=>AWq P D c (fun e s'=>match e with
  | .normal=>AWqS P D r Q s'
  | e=>Q e s') s
section
variable {P:Program} {D:Nat->Prop}
theorem AWq.seq {x y:Code} {Q:Exit->AS->Prop} {s:AS} (h:AWq P D x (fun e s'=>match e with
  | .normal=>AWq P D y Q s'
  | e=>Q e s') s):AWq P D (.seq x y) Q s:=by
 intro ρ0 w0 ρ a w r st
 refine wp_seq (wp_mono (h ρ0 w0 ρ a w r st) fun e a' w' ⟨s',ρ',q,r',st'⟩=>?_)
 cases e with
 | normal=>exact q ρ0 w0 ρ' a' w' r' st'
 | _=>exact ⟨s',ρ',q,r',st'⟩
theorem AWqS.mono:∀ {l:List Code} {Q Q':Exit->AS->Prop} {s:AS},AWqS P D l Q s->(∀ e s',Q e s'->Q' e s')->AWqS P D l Q' s
 | [],_,_,_,h,hq=>fun ρ0 w0 ρ a w r st=>let ⟨s',ρ',q,r',st'⟩:=h ρ0 w0 ρ a w r st;⟨s',ρ',hq _ _ q,r',st'⟩
 | c :: l,Q,Q',s,h,hq=>AWq.mono h fun e s' q=>by
  cases e with
  | normal=>exact AWqS.mono (l:=l) q hq
  | _=>exact hq _ _ q
theorem AWqS.app:∀ {l m:List Code} {Q:Exit->AS->Prop} {s:AS},AWqS P D l (fun e s'=>match e with
  | .normal=>AWqS P D m Q s'
  | e=>Q e s') s->AWqS P D (l ++ m) Q s
 | [],[],Q,s,h=>fun ρ0 w0 ρ a w r st=>by
  obtain ⟨s',ρ',q,r',st'⟩:=h ρ0 w0 ρ a w r st
  exact q ρ0 w0 ρ' a w r' st'
 | [],c :: m,Q,s,h=>fun ρ0 w0 ρ a w r st=>by
  obtain ⟨s',ρ',q,r',st'⟩:=h ρ0 w0 ρ a w r st
  exact q ρ0 w0 ρ' a w r' st'
 | c :: l,m,Q,s,h=>AWq.mono h fun e s' q=>by
  cases e with
  | normal=>exact AWqS.app (l:=l) q
  | _=>exact q
theorem AWqS.unapp {m:List Code} {Q:Exit->AS->Prop}:∀ {l:List Code} {s:AS},AWqS P D (l ++ m) Q s->AWqS P D l (fun e s'=>match e with
  | .normal=>AWqS P D m Q s'
  | e=>Q e s') s
 | [],s,h=>fun ρ0 w0 ρ a w r st=>⟨s,ρ,h,r,st⟩
 | c :: l,s,h=>AWq.mono h fun e s' q=>by
  cases e with
  | normal=>exact AWqS.unapp (l:=l) q
  | _=>exact q
theorem AWqS.of_one {c:Code} {Q:Exit->AS->Prop} {s:AS} (h:AWqS P D [c] Q s):AWq P D c Q s:=by
 intro ρ0 w0 ρ a w r st
 refine wp_mono (h ρ0 w0 ρ a w r st) fun e a' w' ⟨s',ρ',q,r',st'⟩=>?_
 cases e with
 | normal =>
  obtain ⟨s'',ρ'',q',r'',d⟩:=q ρ0 w0 ρ' a' w' r' st'
  exact ⟨s'',ρ'',q',r'',d⟩
 | _=>exact ⟨s',ρ',q,r',st'⟩
theorem AWq.of_flat:∀ (c:Code) {Q:Exit->AS->Prop} {s:AS},AWqS P D (flatC c) Q s->AWq P D c Q s:=by
 intro c
 induction c with
 | seq x y ihx ihy =>
  intro Q s h
  exact AWq.seq ((ihx (AWqS.unapp h)).mono fun e s' q=>by
   cases e with
   | normal=>exact ihy q
   | _=>exact q)
 | _=>intro Q s h;exact AWqS.of_one h
theorem AWq.block {id:Nat} {c:Code} {Q:Exit->AS->Prop} {s:AS} (h:AWq P D c (fun e s'=>match e with
  | .exit j=>if j = id then Q .normal s' else Q (.exit j) s'
  | e=>Q e s') s):AWq P D (.block id c) Q s:=by
 intro ρ0 w0 ρ a w r st
 refine wp_block (wp_mono (h ρ0 w0 ρ a w r st) fun e a' w' ⟨s',ρ',q,r',st'⟩=>?_)
 cases e with
 | exit j =>
  simp only [Exit.inBlock]
  by_cases hj:j = id
  ·simp only [hj,if_true] at q ⊢;exact ⟨s',ρ',q,r',st'⟩
  ·simp only [hj,if_false] at q ⊢;exact ⟨s',ρ',q,r',st'⟩
 | _=>exact ⟨s',ρ',q,r',st'⟩
theorem AWq.loop {c:Code} {Q:Exit->AS->Prop} {ι:Type} (S:ι->AS->Prop) (μ:ι->Nat)
  (step:∀ i s,S i s->AWq P D c (fun e s'=>match e with
   | .normal=>∃ j,μ j < μ i/\S j s'
   | e=>Q e s') s) (i:ι) {s:AS} (hs:S i s):AWq P D (.loop c) Q s:=by
 intro ρ0 w0 ρ a w r st b k cs
 have key:∀ n i s ρ a w,μ i = n->S i s->Rel ρ s a w->StepR D ρ0 w0 (Dm s.h) ρ w->∃ e a' w',(∃ s' ρ',Q e s'/\Rel ρ' s' a' w'/\StepR D ρ0 w0 (Dm s'.h) ρ' w') /\
   Arrives P (lone (b.at a (.code c :: .inLoop c :: k)) cs w) b k cs e a' w':=by
  intro n
  induction n using Nat.strongRecOn with
  | _ n ih =>
   intro i s ρ a w hn hs r st
   obtain ⟨e,a₁,w₁,⟨s1,ρ1,q,r1,st1⟩,arr⟩:=step i s hs ρ0 w0 ρ a w r st b (.inLoop c :: k) cs
   cases e with
   | normal =>
    obtain ⟨j,hlt,hj⟩:=q
    obtain ⟨e2,a2,w2,hq2,arr2⟩:=ih (μ j) (hn ▸ hlt) j s1 ρ1 a₁ w₁ rfl hj r1 st1
    exact ⟨e2,a2,w2,hq2,.of_steps (Steps.trans arr (.one step_inLoop)) arr2⟩
   | exit id=>exact ⟨_,a₁,w₁,⟨s1,ρ1,q,r1,st1⟩,.pass (x:=.inLoop c) rfl (fun _ _=>.inl (by simp)) arr⟩
   | goto l=>exact ⟨_,a₁,w₁,⟨s1,ρ1,q,r1,st1⟩,.pass (x:=.inLoop c) rfl (fun _ _=>.inl (by simp)) arr⟩
   | ret=>exact ⟨_,a₁,w₁,⟨s1,ρ1,q,r1,st1⟩,.pass (x:=.inLoop c) rfl (fun _ _=>.inl (by simp)) arr⟩
   | panic ch=>exact ⟨_,a₁,w₁,⟨s1,ρ1,q,r1,st1⟩,.pass (x:=.inLoop c) rfl (fun _ _=>.inl (by simp)) arr⟩
   | outgrown=>exact ⟨_,a₁,w₁,⟨s1,ρ1,q,r1,st1⟩,.pass (x:=.inLoop c) rfl (fun _ _=>.inl (by simp)) arr⟩
 obtain ⟨e,a',w',hq,arr⟩:=key _ i s ρ a w rfl hs r st
 exact ⟨e,a',w',hq,.of_steps (.one step_loop) arr⟩
end
def evS (P:Program) (T:TT) (G:Ctx) (n:Nat):List Code->(Exit->AS->List Hint->Prop)->AS->List Hint->Prop
 | [],K,s,hs=>K .normal s hs
 | c :: r,K,s,hs=>ev P T G n c (fun e s hs=>match e with
  | .normal=>evS P T G n r K s hs
  | e=>K e s hs) s hs
section
variable {P:Program} {T:TT} {G:Ctx} {D:Nat->Prop}
theorem evS_sound (hm:P.follows .mixedOrders = true) (hT:TTOk P T) (hG:CtxOk P G) {n:Nat}:∀ {l:List Code} {K:Exit->AS->List Hint->Prop} {s:AS} {hs:List Hint},evS P T G n l K s hs->AWqS P D l (fun e s'=>∃ hs',K e s' hs') s
 | [],K,s,hs,h=>fun ρ0 w0 ρ a w r st=>⟨s,ρ,⟨hs,h⟩,r,st⟩
 | c :: l,K,s,hs,h=>((ev_sound hm hT hG n _ _ _ _ h).1.q).mono fun e s' ⟨hs',q⟩=>by
  cases e with
  | normal=>exact evS_sound hm hT hG (l:=l) q
  | _=>exact ⟨hs',q⟩
end
def lkT:List Nat->List AV->Nat->Option AV
 | k :: ks,v :: vs,i=>match Nat.beq k i with
  | true=>some v
  | false=>lkT ks vs i
 | _,_,_=>none
def mkFrom (ks:List Nat) (vs:List AV) (junk:Nat->Value):Nat->Nat->List AV
 | _,0=>[]
 | i,n + 1=>(match lkT ks vs i with
  | some v=>v
  | none=>.raw (junk i)) :: mkFrom ks vs junk (i + 1) n
def mkT (ks:List Nat) (vs:List AV) (n:Nat) (junk:Nat->Value):List AV:=mkFrom ks vs junk 0 n
def pickT (t:List AV):List Nat->List AV
 | []=>[]
 | k :: ks=>getT t k :: pickT t ks
def takeH:Nat->Heap->Heap
 | 0,_=>[]
 | _,[]=>[]
 | n + 1,b :: r=>b :: takeH n r
def inB (h:Heap) (i:Nat):Bool:=(hget h i).isSome
def scB (h:Heap):Sc->Bool
 | .pt b _=>inB h b
 | .sl b _ _ _=>inB h b
 | .so b _=>inB h b && inB h (b + 1)
 | .sv b _ _=>inB h b && inB h (b + 1)
 | .fn _ caps=>caps.all (inB h)
 | .rw v=>v.oneCell'
 | _=>true
def cellsB (h:Heap):List Cell->Bool
 | []=>true
 | .ws _ _ _ :: r=>cellsB h r
 | .one s :: r=>scB h s && cellsB h r
def v1B (h:Heap):V1->Bool
 | .sc s=>scB h s
 | .agg cs=>cellsB h cs
def avB (h:Heap):AV->Bool
 | .v1 v=>v1B h v
 | .tup l=>l.all (v1B h)
 | .raw _=>true
def ownB (h:Heap) (i:Nat):Nat->Bool
 | 0=>true
 | 1=>inB h (i + 1)
 | 2=>true
 | 3=>true
 | _=>false
def heapB (h:Heap):Nat->Heap->Bool
 | _,[]=>true
 | i,none :: r=>heapB h (i + 1) r
 | i,some b :: r=>cellsB h b.cells && (ownB h i b.lo && heapB h (i + 1) r)
def liveB (vs:List AV) (h:Heap):Bool:=vs.all (avB h) && heapB h 0 h
theorem inB_spec {h:Heap} {i:Nat} (hb:inB h i = true):Dm h i:=by
 unfold inB at hb;unfold Dm
 cases hh:hget h i with
 | none=>rw [hh] at hb;cases hb
 | some b=>exact ⟨b,rfl⟩
theorem scB_spec {h:Heap} {s:Sc} (hb:scB h s = true):s.ok (Dm h):=by
 cases s <;> simp only [scB] at hb <;> simp only [Sc.ok] <;> first
  | exact inB_spec hb
  | (simp only [Bool.and_eq_true] at hb;exact ⟨inB_spec hb.1,inB_spec hb.2⟩)
  | (intro c hc;exact inB_spec (List.all_eq_true.1 hb c hc))
  | exact hb
theorem cellsB_spec {h:Heap}:∀ {cs:List Cell},cellsB h cs = true->cok (Dm h) cs
 | [],_=>fun c hc=>by cases hc
 | .ws _ _ _ :: r,hb=>fun c hc=>by
  rcases List.mem_cons.1 hc with rfl | hc
  ·trivial
  ·exact cellsB_spec (cs:=r) hb c hc
 | .one s :: r,hb=>fun c hc=>by
  simp only [cellsB,Bool.and_eq_true] at hb
  rcases List.mem_cons.1 hc with rfl | hc
  ·exact scB_spec hb.1
  ·exact cellsB_spec (cs:=r) hb.2 c hc
theorem v1B_spec {h:Heap} {v:V1} (hb:v1B h v = true):v.ok (Dm h):=by
 cases v with
 | sc s=>exact scB_spec hb
 | agg cs=>exact cellsB_spec hb
theorem avB_spec {h:Heap} {v:AV} (hb:avB h v = true):v.ok (Dm h):=by
 cases v with
 | v1 v=>exact v1B_spec hb
 | tup l=>exact fun v hv=>v1B_spec (List.all_eq_true.1 hb v hv)
 | raw v=>trivial
theorem heapB_spec {h:Heap}:∀ {g:Heap} {k:Nat},heapB h k g = true->∀ i b,hget g i = some b->cok (Dm h) b.cells/\b.lo <= 3/\(b.lo = 1->Dm h (k + i + 1))
 | [],_,_,i,b,hb=>by simp [hget] at hb
 | none :: r,k,hh,0,b,hb=>by simp [hget] at hb
 | none :: r,k,hh,i + 1,b,hb=>by
  have:=heapB_spec (g:=r) (k:=k + 1) hh i b hb
  rw [show k + (i + 1) + 1 = k + 1 + i + 1 by omega];exact this
 | some c :: r,k,hh,0,b,hb=>by
  simp only [heapB,Bool.and_eq_true] at hh
  simp [hget] at hb
  subst hb
  refine ⟨cellsB_spec hh.1,?_⟩
  have h2:=hh.2.1
  unfold ownB at h2
  split at h2
  ·rename_i e;rw [e];exact ⟨by omega,fun e=>by cases e⟩
  ·rename_i e;rw [e];exact ⟨by omega,fun _=>inB_spec h2⟩
  ·rename_i e;rw [e];exact ⟨by omega,fun e=>by cases e⟩
  ·rename_i e;rw [e];exact ⟨by omega,fun e=>by cases e⟩
  ·cases h2
 | some c :: r,k,hh,i + 1,b,hb=>by
  simp only [heapB,Bool.and_eq_true] at hh
  have:=heapB_spec (g:=r) (k:=k + 1) hh.2.2 i b hb
  rw [show k + (i + 1) + 1 = k + 1 + i + 1 by omega];exact this
theorem hget_takeH:∀ {n:Nat} {h:Heap} {i:Nat} {b:Blk},hget (takeH n h) i = some b->hget h i = some b
 | 0,_,_,_,h=>by simp [takeH,hget] at h
 | _ + 1,[],_,_,h=>by simp [takeH,hget] at h
 | n + 1,c :: r,0,b,h=>by simpa [takeH,hget] using h
 | n + 1,c :: r,i + 1,b,h=>by simp only [takeH,hget] at *;exact hget_takeH h
theorem lkT_pick:∀ {ks:List Nat} {t:List AV} {i:Nat} {v:AV},lkT ks (pickT t ks) i = some v->getT t i = v
 | [],_,_,_,h=>by simp [lkT] at h
 | k :: ks,t,i,v,h=>by
  simp only [pickT,lkT] at h
  split at h
  ·rename_i hb
   rw [Nat.beq_eq] at hb
   subst hb
   cases h;rfl
  ·exact lkT_pick h
theorem lkT_mem:∀ {ks:List Nat} {vs:List AV} {i:Nat} {v:AV},lkT ks vs i = some v->v ∈ vs
 | [],_,_,_,h=>by simp [lkT] at h
 | _ :: _,[],_,_,h=>by simp [lkT] at h
 | k :: ks,u :: vs,i,v,h=>by
  simp only [lkT] at h
  split at h
  ·cases h;simp
  ·exact List.mem_cons_of_mem _ (lkT_mem h)
theorem mkFrom_map (ρ:Ren) (ks:List Nat) (t:List AV) (junk:Nat->Value) (hj:∀ i,junk i = (getT t i).val ρ):∀ n i,i + n = t.length->(mkFrom ks (pickT t ks) junk i n).map (AV.val ρ) = (t.drop i).map (AV.val ρ)
 | 0,i,h=>by rw [List.drop_eq_nil_of_le (by omega)];rfl
 | n + 1,i,h=>by
  have hi:i < t.length:=by omega
  rw [List.drop_eq_getElem_cons hi]
  simp only [mkFrom,List.map_cons,mkFrom_map ρ ks t junk hj n (i + 1) (by omega)]
  congr 1
  have hg:getT t i = t[i]:=by rw [getT_eq];simp [hi]
  cases hl:lkT ks (pickT t ks) i with
  | none=>simp only [AV.val,hj,hg]
  | some v=>simp only;rw [<-lkT_pick hl,hg]
structure Live (ks:List Nat) (vs:List AV) (n:Nat) (h:Heap) (s:AS):Prop where
 len:s.t.length = n
 pick:pickT s.t ks = vs
 mem:takeH h.length s.h = h
theorem Live.rel {ks:List Nat} {vs:List AV} {n:Nat} {h:Heap} {s:AS} (l:Live ks vs n h s) (hb:liveB vs h = true) {ρ:Ren} {a:Act} {w:World} (r:Rel ρ s a w) :
  ∃ junk,Rel ρ ⟨mkT ks vs n junk,h⟩ a w/\∀ i,Dm h i->Dm s.h i:=by
 have hsub:∀ i b,hget h i = some b->hget s.h i = some b:=fun i b hb=>by rw [<-l.mem] at hb;exact hget_takeH hb
 unfold liveB at hb
 simp only [Bool.and_eq_true] at hb
 refine ⟨fun i=>(getT s.t i).val ρ,⟨?_,r.defers,fun v hv=>?_,⟨fun i b hg=>(heapB_spec hb.2 i b hg).1,fun i b hg h0=>r.mem.row i b (hsub i b hg) h0,fun i b hg h1=>⟨(r.mem.own i b (hsub i b hg) h1).1,?_⟩,fun i b hg=>r.mem.few i b (hsub i b hg),fun i j hi hj he=>?_,fun i b hg h3=>r.mem.win i b (hsub i b hg) h3,fun i j b hi hg h3=>let ⟨c,hc,hcl⟩:=hi;r.mem.sep i j b ⟨c,hsub i c hc,hcl⟩ (hsub j b hg) h3⟩⟩,fun i ⟨b,hg⟩=>⟨b,hsub i b hg⟩⟩
 ·rw [r.tmps]
  have:=mkFrom_map ρ ks s.t (fun i=>(getT s.t i).val ρ) (fun _=>rfl) n 0 (by rw [l.len];omega)
  rw [l.pick] at this
  simp only [List.drop_zero] at this
  rw [mkT,this]
 ·have key:∀ n i,∀ v ∈ mkFrom ks vs (fun i=>(getT s.t i).val ρ) i n,v.ok (Dm h):=by
   intro n
   induction n with
   | zero=>intro i v hv;cases hv
   | succ n ih =>
    intro i v hv
    simp only [mkFrom] at hv
    rcases List.mem_cons.1 hv with rfl | hv
    ·cases hl:lkT ks vs i with
     | none=>trivial
     | some u=>exact avB_spec (List.all_eq_true.1 hb.1 u (lkT_mem hl))
    ·exact ih _ v hv
  exact key _ _ v hv
 ·have:=(heapB_spec hb.2 i b hg).2.2 h1
  rw [Nat.zero_add] at this;exact this
 ·obtain ⟨b,hg,hl⟩:=hi
  obtain ⟨c,hc,hl'⟩:=hj
  exact r.mem.inj i j ⟨b,hsub i b hg,hl⟩ ⟨c,hsub j c hc,hl'⟩ he
theorem AWqS.of_live {P:Program} {D:Nat->Prop} {l:List Code} {Q:Exit->AS->Prop} {ks:List Nat} {vs:List AV} {n:Nat} {h:Heap} {s:AS} (hl:Live ks vs n h s) (hb:liveB vs h = true) (hD:∀ i,D i->Dm h i)
  (k:∀ junk,AWqS P D l Q ⟨mkT ks vs n junk,h⟩):AWqS P D l Q s:=by
 cases l with
 | nil =>
  intro ρ0 w0 ρ a w r st
  obtain ⟨junk,r',hsub⟩:=hl.rel hb r
  exact k junk ρ0 w0 ρ a w r' (st.weak hD hsub)
 | cons c l =>
  intro ρ0 w0 ρ a w r st
  obtain ⟨junk,r',hsub⟩:=hl.rel hb r
  exact k junk ρ0 w0 ρ a w r' (st.weak hD hsub)
theorem AWq.of_live {P:Program} {D:Nat->Prop} {c:Code} {Q:Exit->AS->Prop} {ks:List Nat} {vs:List AV} {n:Nat} {h:Heap} {s:AS} (hl:Live ks vs n h s) (hb:liveB vs h = true) (hD:∀ i,D i->Dm h i)
  (k:∀ junk,AWq P D c Q ⟨mkT ks vs n junk,h⟩):AWq P D c Q s:=by
 intro ρ0 w0 ρ a w r st
 obtain ⟨junk,r',hsub⟩:=hl.rel hb r
 exact k junk ρ0 w0 ρ a w r' (st.weak hD hsub)
theorem AWq.liveLoop {P:Program} {D:Nat->Prop} {id:Nat} {c:Code} {Q:Exit->AS->Prop} {ι:Type} (ks:List Nat) (n:Nat) (V:ι->List AV) (H:ι->Heap) (μ:ι->Nat) (hb:∀ i,liveB (V i) (H i) = true) (hD:∀ i j,D j->Dm (H i) j)
  (step:∀ i junk,AWq P D c (fun e s'=>match e with
   | .normal=>∃ j,μ j < μ i/\Live ks (V j) n (H j) s'
   | .exit b=>if b = id then Q .normal s' else Q (.exit b) s'
   | e=>Q e s') ⟨mkT ks (V i) n junk,H i⟩) (i:ι) {s:AS} (hs:Live ks (V i) n (H i) s):AWq P D (.block id (.loop c)) Q s:=by
 refine AWq.block (AWq.loop (fun i s=>Live ks (V i) n (H i) s) μ (fun i s hs=>?_) i hs)
 refine AWq.of_live hs (hb i) (hD i) fun junk=>(step i junk).mono fun e s' q=>?_
 cases e <;> exact q
section
variable {P:Program} {T:TT} {G:Ctx} {D:Nat->Prop}
theorem ev_q (hm:P.follows .mixedOrders = true) (hT:TTOk P T) (hG:CtxOk P G) (n:Nat) {c:Code} {Q:Exit->AS->Prop} {s:AS} (hs:List Hint) (h:ev P T G n c (fun e s' _=>Q e s') s hs):AWq P D c Q s :=
 ((ev_sound hm hT hG n _ _ _ hs h).1.q).mono fun _ _ ⟨_,q⟩=>q
theorem evS_q (hm:P.follows .mixedOrders = true) (hT:TTOk P T) (hG:CtxOk P G) (n:Nat) {l:List Code} {Q:Exit->AS->Prop} {s:AS} (hs:List Hint) (h:evS P T G n l (fun e s' _=>Q e s') s hs):AWqS P D l Q s :=
 (evS_sound hm hT hG h).mono fun _ _ ⟨_,q⟩=>q
end
attribute [irreducible] evS
end Go.Rq
namespace Go.Proofs.Ytnjocbcjejpklaa
open Go.Rq Go
def ty2:TyX:={ desc:=.int .i64,sz:=1,zero:=.sc ((.it 0)),flat:=none }
theorem und2:Try.prog.underlying 2 = some ty2.desc:=by kernel_rfl
theorem siz2:(Try.prog.info? 2).map (·.size) = some ty2.sz:=by kernel_rfl
theorem zer2:(Try.prog.info? 2).bind (·.zero) = some (ty2.zero.val fun _=>0):=by kernel_rfl
def ty3:TyX:={ desc:=.int .i64,sz:=1,zero:=.sc ((.it 0)),flat:=none }
theorem und3:Try.prog.underlying 3 = some ty3.desc:=by kernel_rfl
theorem siz3:(Try.prog.info? 3).map (·.size) = some ty3.sz:=by kernel_rfl
theorem zer3:(Try.prog.info? 3).bind (·.zero) = some (ty3.zero.val fun _=>0):=by kernel_rfl
def ty4:TyX:={ desc:=.bool,sz:=1,zero:=.sc ((.bo false)),flat:=none }
theorem und4:Try.prog.underlying 4 = some ty4.desc:=by kernel_rfl
theorem siz4:(Try.prog.info? 4).map (·.size) = some ty4.sz:=by kernel_rfl
theorem zer4:(Try.prog.info? 4).bind (·.zero) = some (ty4.zero.val fun _=>0):=by kernel_rfl
def ty5:TyX:={ desc:=.int .u8,sz:=1,zero:=.sc ((.w .u8 0)),flat:=none }
theorem und5:Try.prog.underlying 5 = some ty5.desc:=by kernel_rfl
theorem siz5:(Try.prog.info? 5).map (·.size) = some ty5.sz:=by kernel_rfl
theorem zer5:(Try.prog.info? 5).bind (·.zero) = some (ty5.zero.val fun _=>0):=by kernel_rfl
def ty9:TyX:={ desc:=.string,sz:=1,zero:=.sc ((.str 0 fun _=>0)),flat:=none }
theorem und9:Try.prog.underlying 9 = some ty9.desc:=by kernel_rfl
theorem siz9:(Try.prog.info? 9).map (·.size) = some ty9.sz:=by kernel_rfl
theorem zer9:(Try.prog.info? 9).bind (·.zero) = some (ty9.zero.val fun _=>0):=by kernel_rfl
def ty12:TyX:={ desc:=.int .u64,sz:=1,zero:=.sc ((.w .u64 0)),flat:=none }
theorem und12:Try.prog.underlying 12 = some ty12.desc:=by kernel_rfl
theorem siz12:(Try.prog.info? 12).map (·.size) = some ty12.sz:=by kernel_rfl
theorem zer12:(Try.prog.info? 12).bind (·.zero) = some (ty12.zero.val fun _=>0):=by kernel_rfl
def ty22:TyX:={ desc:=.int .u64,sz:=1,zero:=.sc ((.w .u64 0)),flat:=none }
theorem und22:Try.prog.underlying 22 = some ty22.desc:=by kernel_rfl
theorem siz22:(Try.prog.info? 22).map (·.size) = some ty22.sz:=by kernel_rfl
theorem zer22:(Try.prog.info? 22).bind (·.zero) = some (ty22.zero.val fun _=>0):=by kernel_rfl
def ty23:TyX:={ desc:=.array 6 22,sz:=6,zero:=.agg [.ws .u64 6 fun _=>0],flat:=some (List.replicate 6 [some .u64]).flatten }
theorem und23:Try.prog.underlying 23 = some ty23.desc:=by kernel_rfl
theorem siz23:(Try.prog.info? 23).map (·.size) = some ty23.sz:=by kernel_rfl
theorem zer23:(Try.prog.info? 23).bind (·.zero) = some (ty23.zero.val fun _=>0):=by kernel_rfl
def ty24:TyX:={ desc:=.array 6 22,sz:=6,zero:=.agg [.ws .u64 6 fun _=>0],flat:=some (List.replicate 6 [some .u64]).flatten }
theorem und24:Try.prog.underlying 24 = some ty24.desc:=by kernel_rfl
theorem siz24:(Try.prog.info? 24).map (·.size) = some ty24.sz:=by kernel_rfl
theorem zer24:(Try.prog.info? 24).bind (·.zero) = some (ty24.zero.val fun _=>0):=by kernel_rfl
def ty25:TyX:={ desc:=.array 2 24,sz:=12,zero:=.agg [.ws .u64 6 fun _=>0,.ws .u64 6 fun _=>0],flat:=some (List.replicate 2 (List.replicate 6 [some .u64]).flatten).flatten }
theorem und25:Try.prog.underlying 25 = some ty25.desc:=by kernel_rfl
theorem siz25:(Try.prog.info? 25).map (·.size) = some ty25.sz:=by kernel_rfl
theorem zer25:(Try.prog.info? 25).bind (·.zero) = some (ty25.zero.val fun _=>0):=by kernel_rfl
def ty26:TyX:={ desc:=.array 2 24,sz:=12,zero:=.agg [.ws .u64 6 fun _=>0,.ws .u64 6 fun _=>0],flat:=some (List.replicate 2 (List.replicate 6 [some .u64]).flatten).flatten }
theorem und26:Try.prog.underlying 26 = some ty26.desc:=by kernel_rfl
theorem siz26:(Try.prog.info? 26).map (·.size) = some ty26.sz:=by kernel_rfl
theorem zer26:(Try.prog.info? 26).bind (·.zero) = some (ty26.zero.val fun _=>0):=by kernel_rfl
def ty27:TyX:={ desc:=.array 6 26,sz:=72,zero:=.agg [.ws .u64 6 fun _=>0,.ws .u64 6 fun _=>0,.ws .u64 6 fun _=>0,.ws .u64 6 fun _=>0,.ws .u64 6 fun _=>0,.ws .u64 6 fun _=>0,.ws .u64 6 fun _=>0,.ws .u64 6 fun _=>0,.ws .u64 6 fun _=>0,.ws .u64 6 fun _=>0,.ws .u64 6 fun _=>0,.ws .u64 6 fun _=>0],flat:=some (List.replicate 6 (List.replicate 2 (List.replicate 6 [some .u64]).flatten).flatten).flatten }
theorem und27:Try.prog.underlying 27 = some ty27.desc:=by kernel_rfl
theorem siz27:(Try.prog.info? 27).map (·.size) = some ty27.sz:=by kernel_rfl
theorem zer27:(Try.prog.info? 27).bind (·.zero) = some (ty27.zero.val fun _=>0):=by kernel_rfl
def ty28:TyX:={ desc:=.array 6 26,sz:=72,zero:=.agg [.ws .u64 6 fun _=>0,.ws .u64 6 fun _=>0,.ws .u64 6 fun _=>0,.ws .u64 6 fun _=>0,.ws .u64 6 fun _=>0,.ws .u64 6 fun _=>0,.ws .u64 6 fun _=>0,.ws .u64 6 fun _=>0,.ws .u64 6 fun _=>0,.ws .u64 6 fun _=>0,.ws .u64 6 fun _=>0,.ws .u64 6 fun _=>0],flat:=some (List.replicate 6 (List.replicate 2 (List.replicate 6 [some .u64]).flatten).flatten).flatten }
theorem und28:Try.prog.underlying 28 = some ty28.desc:=by kernel_rfl
theorem siz28:(Try.prog.info? 28).map (·.size) = some ty28.sz:=by kernel_rfl
theorem zer28:(Try.prog.info? 28).bind (·.zero) = some (ty28.zero.val fun _=>0):=by kernel_rfl
def ty30:TyX:={ desc:=.int .i64,sz:=1,zero:=.sc ((.it 0)),flat:=none }
theorem und30:Try.prog.underlying 30 = some ty30.desc:=by kernel_rfl
theorem siz30:(Try.prog.info? 30).map (·.size) = some ty30.sz:=by kernel_rfl
theorem zer30:(Try.prog.info? 30).bind (·.zero) = some (ty30.zero.val fun _=>0):=by kernel_rfl
def ty36:TyX:={ desc:=.slice 41,sz:=1,zero:=.sc ((.rw (.slice none 0 0))),flat:=none }
theorem und36:Try.prog.underlying 36 = some ty36.desc:=by kernel_rfl
theorem siz36:(Try.prog.info? 36).map (·.size) = some ty36.sz:=by kernel_rfl
theorem zer36:(Try.prog.info? 36).bind (·.zero) = some (ty36.zero.val fun _=>0):=by kernel_rfl
def ty37:TyX:={ desc:=.slice 43,sz:=1,zero:=.sc ((.rw (.slice none 0 0))),flat:=none }
theorem und37:Try.prog.underlying 37 = some ty37.desc:=by kernel_rfl
theorem siz37:(Try.prog.info? 37).map (·.size) = some ty37.sz:=by kernel_rfl
theorem zer37:(Try.prog.info? 37).bind (·.zero) = some (ty37.zero.val fun _=>0):=by kernel_rfl
def ty40:TyX:={ desc:=.struct #[{ name:= "X",type:=24,offset:=0,embedded:=false,tag:= "",pkgPath:= "",byteOffset:=0 },{ name:= "Y",type:=24,offset:=6,embedded:=false,tag:= "",pkgPath:= "",byteOffset:=48 },{ name:= "Zero",type:=4,offset:=12,embedded:=false,tag:= "",pkgPath:= "",byteOffset:=96 }],sz:=13,zero:=.agg [.ws .u64 6 fun _=>0,.ws .u64 6 fun _=>0,.one (.bo false)],flat:=some ((List.replicate 6 [some .u64]).flatten ++ ((List.replicate 6 [some .u64]).flatten ++ ([none] ++ []))) }
theorem und40:Try.prog.underlying 40 = some ty40.desc:=by kernel_rfl
theorem siz40:(Try.prog.info? 40).map (·.size) = some ty40.sz:=by kernel_rfl
theorem zer40:(Try.prog.info? 40).bind (·.zero) = some (ty40.zero.val fun _=>0):=by kernel_rfl
def ty41:TyX:={ desc:=.struct #[{ name:= "X",type:=24,offset:=0,embedded:=false,tag:= "",pkgPath:= "",byteOffset:=0 },{ name:= "Y",type:=24,offset:=6,embedded:=false,tag:= "",pkgPath:= "",byteOffset:=48 },{ name:= "Zero",type:=4,offset:=12,embedded:=false,tag:= "",pkgPath:= "",byteOffset:=96 }],sz:=13,zero:=.agg [.ws .u64 6 fun _=>0,.ws .u64 6 fun _=>0,.one (.bo false)],flat:=some ((List.replicate 6 [some .u64]).flatten ++ ((List.replicate 6 [some .u64]).flatten ++ ([none] ++ []))) }
theorem und41:Try.prog.underlying 41 = some ty41.desc:=by kernel_rfl
theorem siz41:(Try.prog.info? 41).map (·.size) = some ty41.sz:=by kernel_rfl
theorem zer41:(Try.prog.info? 41).bind (·.zero) = some (ty41.zero.val fun _=>0):=by kernel_rfl
def ty42:TyX:={ desc:=.struct #[{ name:= "X",type:=26,offset:=0,embedded:=false,tag:= "",pkgPath:= "",byteOffset:=0 },{ name:= "Y",type:=26,offset:=12,embedded:=false,tag:= "",pkgPath:= "",byteOffset:=96 },{ name:= "Zero",type:=4,offset:=24,embedded:=false,tag:= "",pkgPath:= "",byteOffset:=192 }],sz:=25,zero:=.agg [.ws .u64 6 fun _=>0,.ws .u64 6 fun _=>0,.ws .u64 6 fun _=>0,.ws .u64 6 fun _=>0,.one (.bo false)],flat:=some ((List.replicate 2 (List.replicate 6 [some .u64]).flatten).flatten ++ ((List.replicate 2 (List.replicate 6 [some .u64]).flatten).flatten ++ ([none] ++ []))) }
theorem und42:Try.prog.underlying 42 = some ty42.desc:=by kernel_rfl
theorem siz42:(Try.prog.info? 42).map (·.size) = some ty42.sz:=by kernel_rfl
theorem zer42:(Try.prog.info? 42).bind (·.zero) = some (ty42.zero.val fun _=>0):=by kernel_rfl
def ty43:TyX:={ desc:=.struct #[{ name:= "X",type:=26,offset:=0,embedded:=false,tag:= "",pkgPath:= "",byteOffset:=0 },{ name:= "Y",type:=26,offset:=12,embedded:=false,tag:= "",pkgPath:= "",byteOffset:=96 },{ name:= "Zero",type:=4,offset:=24,embedded:=false,tag:= "",pkgPath:= "",byteOffset:=192 }],sz:=25,zero:=.agg [.ws .u64 6 fun _=>0,.ws .u64 6 fun _=>0,.ws .u64 6 fun _=>0,.ws .u64 6 fun _=>0,.one (.bo false)],flat:=some ((List.replicate 2 (List.replicate 6 [some .u64]).flatten).flatten ++ ((List.replicate 2 (List.replicate 6 [some .u64]).flatten).flatten ++ ([none] ++ []))) }
theorem und43:Try.prog.underlying 43 = some ty43.desc:=by kernel_rfl
theorem siz43:(Try.prog.info? 43).map (·.size) = some ty43.sz:=by kernel_rfl
theorem zer43:(Try.prog.info? 43).bind (·.zero) = some (ty43.zero.val fun _=>0):=by kernel_rfl
def ty45:TyX:={ desc:=.array 6 22,sz:=6,zero:=.agg [.ws .u64 6 fun _=>0],flat:=some (List.replicate 6 [some .u64]).flatten }
theorem und45:Try.prog.underlying 45 = some ty45.desc:=by kernel_rfl
theorem siz45:(Try.prog.info? 45).map (·.size) = some ty45.sz:=by kernel_rfl
theorem zer45:(Try.prog.info? 45).bind (·.zero) = some (ty45.zero.val fun _=>0):=by kernel_rfl
def ty46:TyX:={ desc:=.array 2 45,sz:=12,zero:=.agg [.ws .u64 6 fun _=>0,.ws .u64 6 fun _=>0],flat:=some (List.replicate 2 (List.replicate 6 [some .u64]).flatten).flatten }
theorem und46:Try.prog.underlying 46 = some ty46.desc:=by kernel_rfl
theorem siz46:(Try.prog.info? 46).map (·.size) = some ty46.sz:=by kernel_rfl
theorem zer46:(Try.prog.info? 46).bind (·.zero) = some (ty46.zero.val fun _=>0):=by kernel_rfl
def ty47:TyX:={ desc:=.array 2 45,sz:=12,zero:=.agg [.ws .u64 6 fun _=>0,.ws .u64 6 fun _=>0],flat:=some (List.replicate 2 (List.replicate 6 [some .u64]).flatten).flatten }
theorem und47:Try.prog.underlying 47 = some ty47.desc:=by kernel_rfl
theorem siz47:(Try.prog.info? 47).map (·.size) = some ty47.sz:=by kernel_rfl
theorem zer47:(Try.prog.info? 47).bind (·.zero) = some (ty47.zero.val fun _=>0):=by kernel_rfl
def ty48:TyX:={ desc:=.array 6 47,sz:=72,zero:=.agg [.ws .u64 6 fun _=>0,.ws .u64 6 fun _=>0,.ws .u64 6 fun _=>0,.ws .u64 6 fun _=>0,.ws .u64 6 fun _=>0,.ws .u64 6 fun _=>0,.ws .u64 6 fun _=>0,.ws .u64 6 fun _=>0,.ws .u64 6 fun _=>0,.ws .u64 6 fun _=>0,.ws .u64 6 fun _=>0,.ws .u64 6 fun _=>0],flat:=some (List.replicate 6 (List.replicate 2 (List.replicate 6 [some .u64]).flatten).flatten).flatten }
theorem und48:Try.prog.underlying 48 = some ty48.desc:=by kernel_rfl
theorem siz48:(Try.prog.info? 48).map (·.size) = some ty48.sz:=by kernel_rfl
theorem zer48:(Try.prog.info? 48).bind (·.zero) = some (ty48.zero.val fun _=>0):=by kernel_rfl
def ty49:TyX:={ desc:=.array 6 47,sz:=72,zero:=.agg [.ws .u64 6 fun _=>0,.ws .u64 6 fun _=>0,.ws .u64 6 fun _=>0,.ws .u64 6 fun _=>0,.ws .u64 6 fun _=>0,.ws .u64 6 fun _=>0,.ws .u64 6 fun _=>0,.ws .u64 6 fun _=>0,.ws .u64 6 fun _=>0,.ws .u64 6 fun _=>0,.ws .u64 6 fun _=>0,.ws .u64 6 fun _=>0],flat:=some (List.replicate 6 (List.replicate 2 (List.replicate 6 [some .u64]).flatten).flatten).flatten }
theorem und49:Try.prog.underlying 49 = some ty49.desc:=by kernel_rfl
theorem siz49:(Try.prog.info? 49).map (·.size) = some ty49.sz:=by kernel_rfl
theorem zer49:(Try.prog.info? 49).bind (·.zero) = some (ty49.zero.val fun _=>0):=by kernel_rfl
def ty63:TyX:={ desc:=.slice 49,sz:=1,zero:=.sc ((.rw (.slice none 0 0))),flat:=none }
theorem und63:Try.prog.underlying 63 = some ty63.desc:=by kernel_rfl
theorem siz63:(Try.prog.info? 63).map (·.size) = some ty63.sz:=by kernel_rfl
theorem zer63:(Try.prog.info? 63).bind (·.zero) = some (ty63.zero.val fun _=>0):=by kernel_rfl
def ty64:TyX:={ desc:=.array 3 47,sz:=36,zero:=.agg [.ws .u64 6 fun _=>0,.ws .u64 6 fun _=>0,.ws .u64 6 fun _=>0,.ws .u64 6 fun _=>0,.ws .u64 6 fun _=>0,.ws .u64 6 fun _=>0],flat:=some (List.replicate 3 (List.replicate 2 (List.replicate 6 [some .u64]).flatten).flatten).flatten }
theorem und64:Try.prog.underlying 64 = some ty64.desc:=by kernel_rfl
theorem siz64:(Try.prog.info? 64).map (·.size) = some ty64.sz:=by kernel_rfl
theorem zer64:(Try.prog.info? 64).bind (·.zero) = some (ty64.zero.val fun _=>0):=by kernel_rfl
def ty65:TyX:={ desc:=.array 3 47,sz:=36,zero:=.agg [.ws .u64 6 fun _=>0,.ws .u64 6 fun _=>0,.ws .u64 6 fun _=>0,.ws .u64 6 fun _=>0,.ws .u64 6 fun _=>0,.ws .u64 6 fun _=>0],flat:=some (List.replicate 3 (List.replicate 2 (List.replicate 6 [some .u64]).flatten).flatten).flatten }
theorem und65:Try.prog.underlying 65 = some ty65.desc:=by kernel_rfl
theorem siz65:(Try.prog.info? 65).map (·.size) = some ty65.sz:=by kernel_rfl
theorem zer65:(Try.prog.info? 65).bind (·.zero) = some (ty65.zero.val fun _=>0):=by kernel_rfl
def ty71:TyX:={ desc:=.func #[45,45] #[45] false,sz:=1,zero:=.sc ((.rw .nilFunc)),flat:=none }
theorem und71:Try.prog.underlying 71 = some ty71.desc:=by kernel_rfl
theorem siz71:(Try.prog.info? 71).map (·.size) = some ty71.sz:=by kernel_rfl
theorem zer71:(Try.prog.info? 71).bind (·.zero) = some (ty71.zero.val fun _=>0):=by kernel_rfl
def ty72:TyX:={ desc:=.func #[45] #[45] false,sz:=1,zero:=.sc ((.rw .nilFunc)),flat:=none }
theorem und72:Try.prog.underlying 72 = some ty72.desc:=by kernel_rfl
theorem siz72:(Try.prog.info? 72).map (·.size) = some ty72.sz:=by kernel_rfl
theorem zer72:(Try.prog.info? 72).bind (·.zero) = some (ty72.zero.val fun _=>0):=by kernel_rfl
def pkP0 : String := String.ofList ([114,101,108,105,113,117,97,114,121,47,99,117,114,118,101].map Char.ofNat)
def ty73:TyX:={ desc:=.struct #[{ name:= "add",type:=71,offset:=0,embedded:=false,tag:= "",pkgPath:= pkP0,byteOffset:=0 },{ name:= "sub",type:=71,offset:=1,embedded:=false,tag:= "",pkgPath:= pkP0,byteOffset:=8 },{ name:= "mul",type:=71,offset:=2,embedded:=false,tag:= "",pkgPath:= pkP0,byteOffset:=16 },{ name:= "inv",type:=72,offset:=3,embedded:=false,tag:= "",pkgPath:= pkP0,byteOffset:=24 },{ name:= "one",type:=45,offset:=4,embedded:=false,tag:= "",pkgPath:= pkP0,byteOffset:=32 },{ name:= "b",type:=45,offset:=10,embedded:=false,tag:= "",pkgPath:= pkP0,byteOffset:=80 }],sz:=16,zero:=.agg [.one (.rw .nilFunc),.one (.rw .nilFunc),.one (.rw .nilFunc),.one (.rw .nilFunc),.ws .u64 6 fun _=>0,.ws .u64 6 fun _=>0],flat:=none }
theorem und73:Try.prog.underlying 73 = some ty73.desc:=by kernel_rfl
theorem siz73:(Try.prog.info? 73).map (·.size) = some ty73.sz:=by kernel_rfl
theorem zer73:(Try.prog.info? 73).bind (·.zero) = some (ty73.zero.val fun _=>0):=by kernel_rfl
def ty74:TyX:={ desc:=.struct #[{ name:= "add",type:=71,offset:=0,embedded:=false,tag:= "",pkgPath:= pkP0,byteOffset:=0 },{ name:= "sub",type:=71,offset:=1,embedded:=false,tag:= "",pkgPath:= pkP0,byteOffset:=8 },{ name:= "mul",type:=71,offset:=2,embedded:=false,tag:= "",pkgPath:= pkP0,byteOffset:=16 },{ name:= "inv",type:=72,offset:=3,embedded:=false,tag:= "",pkgPath:= pkP0,byteOffset:=24 },{ name:= "one",type:=45,offset:=4,embedded:=false,tag:= "",pkgPath:= pkP0,byteOffset:=32 },{ name:= "b",type:=45,offset:=10,embedded:=false,tag:= "",pkgPath:= pkP0,byteOffset:=80 }],sz:=16,zero:=.agg [.one (.rw .nilFunc),.one (.rw .nilFunc),.one (.rw .nilFunc),.one (.rw .nilFunc),.ws .u64 6 fun _=>0,.ws .u64 6 fun _=>0],flat:=none }
theorem und74:Try.prog.underlying 74 = some ty74.desc:=by kernel_rfl
theorem siz74:(Try.prog.info? 74).map (·.size) = some ty74.sz:=by kernel_rfl
theorem zer74:(Try.prog.info? 74).bind (·.zero) = some (ty74.zero.val fun _=>0):=by kernel_rfl
def ty77:TyX:={ desc:=.struct #[{ name:= "x",type:=45,offset:=0,embedded:=false,tag:= "",pkgPath:= pkP0,byteOffset:=0 },{ name:= "y",type:=45,offset:=6,embedded:=false,tag:= "",pkgPath:= pkP0,byteOffset:=48 },{ name:= "zero",type:=4,offset:=12,embedded:=false,tag:= "",pkgPath:= pkP0,byteOffset:=96 }],sz:=13,zero:=.agg [.ws .u64 6 fun _=>0,.ws .u64 6 fun _=>0,.one (.bo false)],flat:=some ((List.replicate 6 [some .u64]).flatten ++ ((List.replicate 6 [some .u64]).flatten ++ ([none] ++ []))) }
theorem und77:Try.prog.underlying 77 = some ty77.desc:=by kernel_rfl
theorem siz77:(Try.prog.info? 77).map (·.size) = some ty77.sz:=by kernel_rfl
theorem zer77:(Try.prog.info? 77).bind (·.zero) = some (ty77.zero.val fun _=>0):=by kernel_rfl
def ty78:TyX:={ desc:=.struct #[{ name:= "x",type:=45,offset:=0,embedded:=false,tag:= "",pkgPath:= pkP0,byteOffset:=0 },{ name:= "y",type:=45,offset:=6,embedded:=false,tag:= "",pkgPath:= pkP0,byteOffset:=48 },{ name:= "zero",type:=4,offset:=12,embedded:=false,tag:= "",pkgPath:= pkP0,byteOffset:=96 }],sz:=13,zero:=.agg [.ws .u64 6 fun _=>0,.ws .u64 6 fun _=>0,.one (.bo false)],flat:=some ((List.replicate 6 [some .u64]).flatten ++ ((List.replicate 6 [some .u64]).flatten ++ ([none] ++ []))) }
theorem und78:Try.prog.underlying 78 = some ty78.desc:=by kernel_rfl
theorem siz78:(Try.prog.info? 78).map (·.size) = some ty78.sz:=by kernel_rfl
theorem zer78:(Try.prog.info? 78).bind (·.zero) = some (ty78.zero.val fun _=>0):=by kernel_rfl
def ty80:TyX:={ desc:=.func #[47,47] #[47] false,sz:=1,zero:=.sc ((.rw .nilFunc)),flat:=none }
theorem und80:Try.prog.underlying 80 = some ty80.desc:=by kernel_rfl
theorem siz80:(Try.prog.info? 80).map (·.size) = some ty80.sz:=by kernel_rfl
theorem zer80:(Try.prog.info? 80).bind (·.zero) = some (ty80.zero.val fun _=>0):=by kernel_rfl
def ty81:TyX:={ desc:=.func #[47] #[47] false,sz:=1,zero:=.sc ((.rw .nilFunc)),flat:=none }
theorem und81:Try.prog.underlying 81 = some ty81.desc:=by kernel_rfl
theorem siz81:(Try.prog.info? 81).map (·.size) = some ty81.sz:=by kernel_rfl
theorem zer81:(Try.prog.info? 81).bind (·.zero) = some (ty81.zero.val fun _=>0):=by kernel_rfl
def ty82:TyX:={ desc:=.struct #[{ name:= "add",type:=80,offset:=0,embedded:=false,tag:= "",pkgPath:= pkP0,byteOffset:=0 },{ name:= "sub",type:=80,offset:=1,embedded:=false,tag:= "",pkgPath:= pkP0,byteOffset:=8 },{ name:= "mul",type:=80,offset:=2,embedded:=false,tag:= "",pkgPath:= pkP0,byteOffset:=16 },{ name:= "inv",type:=81,offset:=3,embedded:=false,tag:= "",pkgPath:= pkP0,byteOffset:=24 },{ name:= "one",type:=47,offset:=4,embedded:=false,tag:= "",pkgPath:= pkP0,byteOffset:=32 },{ name:= "b",type:=47,offset:=16,embedded:=false,tag:= "",pkgPath:= pkP0,byteOffset:=128 }],sz:=28,zero:=.agg [.one (.rw .nilFunc),.one (.rw .nilFunc),.one (.rw .nilFunc),.one (.rw .nilFunc),.ws .u64 6 fun _=>0,.ws .u64 6 fun _=>0,.ws .u64 6 fun _=>0,.ws .u64 6 fun _=>0],flat:=none }
theorem und82:Try.prog.underlying 82 = some ty82.desc:=by kernel_rfl
theorem siz82:(Try.prog.info? 82).map (·.size) = some ty82.sz:=by kernel_rfl
theorem zer82:(Try.prog.info? 82).bind (·.zero) = some (ty82.zero.val fun _=>0):=by kernel_rfl
def ty83:TyX:={ desc:=.struct #[{ name:= "add",type:=80,offset:=0,embedded:=false,tag:= "",pkgPath:= pkP0,byteOffset:=0 },{ name:= "sub",type:=80,offset:=1,embedded:=false,tag:= "",pkgPath:= pkP0,byteOffset:=8 },{ name:= "mul",type:=80,offset:=2,embedded:=false,tag:= "",pkgPath:= pkP0,byteOffset:=16 },{ name:= "inv",type:=81,offset:=3,embedded:=false,tag:= "",pkgPath:= pkP0,byteOffset:=24 },{ name:= "one",type:=47,offset:=4,embedded:=false,tag:= "",pkgPath:= pkP0,byteOffset:=32 },{ name:= "b",type:=47,offset:=16,embedded:=false,tag:= "",pkgPath:= pkP0,byteOffset:=128 }],sz:=28,zero:=.agg [.one (.rw .nilFunc),.one (.rw .nilFunc),.one (.rw .nilFunc),.one (.rw .nilFunc),.ws .u64 6 fun _=>0,.ws .u64 6 fun _=>0,.ws .u64 6 fun _=>0,.ws .u64 6 fun _=>0],flat:=none }
theorem und83:Try.prog.underlying 83 = some ty83.desc:=by kernel_rfl
theorem siz83:(Try.prog.info? 83).map (·.size) = some ty83.sz:=by kernel_rfl
theorem zer83:(Try.prog.info? 83).bind (·.zero) = some (ty83.zero.val fun _=>0):=by kernel_rfl
def ty86:TyX:={ desc:=.struct #[{ name:= "x",type:=47,offset:=0,embedded:=false,tag:= "",pkgPath:= pkP0,byteOffset:=0 },{ name:= "y",type:=47,offset:=12,embedded:=false,tag:= "",pkgPath:= pkP0,byteOffset:=96 },{ name:= "zero",type:=4,offset:=24,embedded:=false,tag:= "",pkgPath:= pkP0,byteOffset:=192 }],sz:=25,zero:=.agg [.ws .u64 6 fun _=>0,.ws .u64 6 fun _=>0,.ws .u64 6 fun _=>0,.ws .u64 6 fun _=>0,.one (.bo false)],flat:=some ((List.replicate 2 (List.replicate 6 [some .u64]).flatten).flatten ++ ((List.replicate 2 (List.replicate 6 [some .u64]).flatten).flatten ++ ([none] ++ []))) }
theorem und86:Try.prog.underlying 86 = some ty86.desc:=by kernel_rfl
theorem siz86:(Try.prog.info? 86).map (·.size) = some ty86.sz:=by kernel_rfl
theorem zer86:(Try.prog.info? 86).bind (·.zero) = some (ty86.zero.val fun _=>0):=by kernel_rfl
def ty87:TyX:={ desc:=.struct #[{ name:= "x",type:=47,offset:=0,embedded:=false,tag:= "",pkgPath:= pkP0,byteOffset:=0 },{ name:= "y",type:=47,offset:=12,embedded:=false,tag:= "",pkgPath:= pkP0,byteOffset:=96 },{ name:= "zero",type:=4,offset:=24,embedded:=false,tag:= "",pkgPath:= pkP0,byteOffset:=192 }],sz:=25,zero:=.agg [.ws .u64 6 fun _=>0,.ws .u64 6 fun _=>0,.ws .u64 6 fun _=>0,.ws .u64 6 fun _=>0,.one (.bo false)],flat:=some ((List.replicate 2 (List.replicate 6 [some .u64]).flatten).flatten ++ ((List.replicate 2 (List.replicate 6 [some .u64]).flatten).flatten ++ ([none] ++ []))) }
theorem und87:Try.prog.underlying 87 = some ty87.desc:=by kernel_rfl
theorem siz87:(Try.prog.info? 87).map (·.size) = some ty87.sz:=by kernel_rfl
theorem zer87:(Try.prog.info? 87).bind (·.zero) = some (ty87.zero.val fun _=>0):=by kernel_rfl
def ty90:TyX:={ desc:=.pointer 93,sz:=1,zero:=.sc ((.rw (.pointer none))),flat:=none }
theorem und90:Try.prog.underlying 90 = some ty90.desc:=by kernel_rfl
theorem siz90:(Try.prog.info? 90).map (·.size) = some ty90.sz:=by kernel_rfl
theorem zer90:(Try.prog.info? 90).bind (·.zero) = some (ty90.zero.val fun _=>0):=by kernel_rfl
def pkP1 : String := String.ofList ([114,101,108,105,113,117,97,114,121,47,112,97,105,114,105,110,103].map Char.ofNat)
def ty92:TyX:={ desc:=.struct #[{ name:= "px",type:=45,offset:=0,embedded:=false,tag:= "",pkgPath:= pkP1,byteOffset:=0 },{ name:= "py",type:=45,offset:=6,embedded:=false,tag:= "",pkgPath:= pkP1,byteOffset:=48 },{ name:= "qx",type:=47,offset:=12,embedded:=false,tag:= "",pkgPath:= pkP1,byteOffset:=96 },{ name:= "qy",type:=47,offset:=24,embedded:=false,tag:= "",pkgPath:= pkP1,byteOffset:=192 },{ name:= "tx",type:=47,offset:=36,embedded:=false,tag:= "",pkgPath:= pkP1,byteOffset:=288 },{ name:= "ty",type:=47,offset:=48,embedded:=false,tag:= "",pkgPath:= pkP1,byteOffset:=384 },{ name:= "f",type:=49,offset:=60,embedded:=false,tag:= "",pkgPath:= pkP1,byteOffset:=480 }],sz:=132,zero:=.agg [.ws .u64 6 fun _=>0,.ws .u64 6 fun _=>0,.ws .u64 6 fun _=>0,.ws .u64 6 fun _=>0,.ws .u64 6 fun _=>0,.ws .u64 6 fun _=>0,.ws .u64 6 fun _=>0,.ws .u64 6 fun _=>0,.ws .u64 6 fun _=>0,.ws .u64 6 fun _=>0,.ws .u64 6 fun _=>0,.ws .u64 6 fun _=>0,.ws .u64 6 fun _=>0,.ws .u64 6 fun _=>0,.ws .u64 6 fun _=>0,.ws .u64 6 fun _=>0,.ws .u64 6 fun _=>0,.ws .u64 6 fun _=>0,.ws .u64 6 fun _=>0,.ws .u64 6 fun _=>0,.ws .u64 6 fun _=>0,.ws .u64 6 fun _=>0],flat:=some ((List.replicate 6 [some .u64]).flatten ++ ((List.replicate 6 [some .u64]).flatten ++ ((List.replicate 2 (List.replicate 6 [some .u64]).flatten).flatten ++ ((List.replicate 2 (List.replicate 6 [some .u64]).flatten).flatten ++ ((List.replicate 2 (List.replicate 6 [some .u64]).flatten).flatten ++ ((List.replicate 2 (List.replicate 6 [some .u64]).flatten).flatten ++ ((List.replicate 6 (List.replicate 2 (List.replicate 6 [some .u64]).flatten).flatten).flatten ++ []))))))) }
theorem und92:Try.prog.underlying 92 = some ty92.desc:=by kernel_rfl
theorem siz92:(Try.prog.info? 92).map (·.size) = some ty92.sz:=by kernel_rfl
theorem zer92:(Try.prog.info? 92).bind (·.zero) = some (ty92.zero.val fun _=>0):=by kernel_rfl
def ty93:TyX:={ desc:=.struct #[{ name:= "px",type:=45,offset:=0,embedded:=false,tag:= "",pkgPath:= pkP1,byteOffset:=0 },{ name:= "py",type:=45,offset:=6,embedded:=false,tag:= "",pkgPath:= pkP1,byteOffset:=48 },{ name:= "qx",type:=47,offset:=12,embedded:=false,tag:= "",pkgPath:= pkP1,byteOffset:=96 },{ name:= "qy",type:=47,offset:=24,embedded:=false,tag:= "",pkgPath:= pkP1,byteOffset:=192 },{ name:= "tx",type:=47,offset:=36,embedded:=false,tag:= "",pkgPath:= pkP1,byteOffset:=288 },{ name:= "ty",type:=47,offset:=48,embedded:=false,tag:= "",pkgPath:= pkP1,byteOffset:=384 },{ name:= "f",type:=49,offset:=60,embedded:=false,tag:= "",pkgPath:= pkP1,byteOffset:=480 }],sz:=132,zero:=.agg [.ws .u64 6 fun _=>0,.ws .u64 6 fun _=>0,.ws .u64 6 fun _=>0,.ws .u64 6 fun _=>0,.ws .u64 6 fun _=>0,.ws .u64 6 fun _=>0,.ws .u64 6 fun _=>0,.ws .u64 6 fun _=>0,.ws .u64 6 fun _=>0,.ws .u64 6 fun _=>0,.ws .u64 6 fun _=>0,.ws .u64 6 fun _=>0,.ws .u64 6 fun _=>0,.ws .u64 6 fun _=>0,.ws .u64 6 fun _=>0,.ws .u64 6 fun _=>0,.ws .u64 6 fun _=>0,.ws .u64 6 fun _=>0,.ws .u64 6 fun _=>0,.ws .u64 6 fun _=>0,.ws .u64 6 fun _=>0,.ws .u64 6 fun _=>0],flat:=some ((List.replicate 6 [some .u64]).flatten ++ ((List.replicate 6 [some .u64]).flatten ++ ((List.replicate 2 (List.replicate 6 [some .u64]).flatten).flatten ++ ((List.replicate 2 (List.replicate 6 [some .u64]).flatten).flatten ++ ((List.replicate 2 (List.replicate 6 [some .u64]).flatten).flatten ++ ((List.replicate 2 (List.replicate 6 [some .u64]).flatten).flatten ++ ((List.replicate 6 (List.replicate 2 (List.replicate 6 [some .u64]).flatten).flatten).flatten ++ []))))))) }
theorem und93:Try.prog.underlying 93 = some ty93.desc:=by kernel_rfl
theorem siz93:(Try.prog.info? 93).map (·.size) = some ty93.sz:=by kernel_rfl
theorem zer93:(Try.prog.info? 93).bind (·.zero) = some (ty93.zero.val fun _=>0):=by kernel_rfl
def ty101:TyX:={ desc:=.struct #[{ name:= "x",type:=45,offset:=0,embedded:=false,tag:= "",pkgPath:= pkP0,byteOffset:=0 },{ name:= "y",type:=45,offset:=6,embedded:=false,tag:= "",pkgPath:= pkP0,byteOffset:=48 },{ name:= "z",type:=45,offset:=12,embedded:=false,tag:= "",pkgPath:= pkP0,byteOffset:=96 }],sz:=18,zero:=.agg [.ws .u64 6 fun _=>0,.ws .u64 6 fun _=>0,.ws .u64 6 fun _=>0],flat:=some ((List.replicate 6 [some .u64]).flatten ++ ((List.replicate 6 [some .u64]).flatten ++ ((List.replicate 6 [some .u64]).flatten ++ []))) }
theorem und101:Try.prog.underlying 101 = some ty101.desc:=by kernel_rfl
theorem siz101:(Try.prog.info? 101).map (·.size) = some ty101.sz:=by kernel_rfl
theorem zer101:(Try.prog.info? 101).bind (·.zero) = some (ty101.zero.val fun _=>0):=by kernel_rfl
def ty102:TyX:={ desc:=.struct #[{ name:= "x",type:=45,offset:=0,embedded:=false,tag:= "",pkgPath:= pkP0,byteOffset:=0 },{ name:= "y",type:=45,offset:=6,embedded:=false,tag:= "",pkgPath:= pkP0,byteOffset:=48 },{ name:= "z",type:=45,offset:=12,embedded:=false,tag:= "",pkgPath:= pkP0,byteOffset:=96 }],sz:=18,zero:=.agg [.ws .u64 6 fun _=>0,.ws .u64 6 fun _=>0,.ws .u64 6 fun _=>0],flat:=some ((List.replicate 6 [some .u64]).flatten ++ ((List.replicate 6 [some .u64]).flatten ++ ((List.replicate 6 [some .u64]).flatten ++ []))) }
theorem und102:Try.prog.underlying 102 = some ty102.desc:=by kernel_rfl
theorem siz102:(Try.prog.info? 102).map (·.size) = some ty102.sz:=by kernel_rfl
theorem zer102:(Try.prog.info? 102).bind (·.zero) = some (ty102.zero.val fun _=>0):=by kernel_rfl
def ty107:TyX:={ desc:=.struct #[{ name:= "x",type:=47,offset:=0,embedded:=false,tag:= "",pkgPath:= pkP0,byteOffset:=0 },{ name:= "y",type:=47,offset:=12,embedded:=false,tag:= "",pkgPath:= pkP0,byteOffset:=96 },{ name:= "z",type:=47,offset:=24,embedded:=false,tag:= "",pkgPath:= pkP0,byteOffset:=192 }],sz:=36,zero:=.agg [.ws .u64 6 fun _=>0,.ws .u64 6 fun _=>0,.ws .u64 6 fun _=>0,.ws .u64 6 fun _=>0,.ws .u64 6 fun _=>0,.ws .u64 6 fun _=>0],flat:=some ((List.replicate 2 (List.replicate 6 [some .u64]).flatten).flatten ++ ((List.replicate 2 (List.replicate 6 [some .u64]).flatten).flatten ++ ((List.replicate 2 (List.replicate 6 [some .u64]).flatten).flatten ++ []))) }
theorem und107:Try.prog.underlying 107 = some ty107.desc:=by kernel_rfl
theorem siz107:(Try.prog.info? 107).map (·.size) = some ty107.sz:=by kernel_rfl
theorem zer107:(Try.prog.info? 107).bind (·.zero) = some (ty107.zero.val fun _=>0):=by kernel_rfl
def ty108:TyX:={ desc:=.struct #[{ name:= "x",type:=47,offset:=0,embedded:=false,tag:= "",pkgPath:= pkP0,byteOffset:=0 },{ name:= "y",type:=47,offset:=12,embedded:=false,tag:= "",pkgPath:= pkP0,byteOffset:=96 },{ name:= "z",type:=47,offset:=24,embedded:=false,tag:= "",pkgPath:= pkP0,byteOffset:=192 }],sz:=36,zero:=.agg [.ws .u64 6 fun _=>0,.ws .u64 6 fun _=>0,.ws .u64 6 fun _=>0,.ws .u64 6 fun _=>0,.ws .u64 6 fun _=>0,.ws .u64 6 fun _=>0],flat:=some ((List.replicate 2 (List.replicate 6 [some .u64]).flatten).flatten ++ ((List.replicate 2 (List.replicate 6 [some .u64]).flatten).flatten ++ ((List.replicate 2 (List.replicate 6 [some .u64]).flatten).flatten ++ []))) }
theorem und108:Try.prog.underlying 108 = some ty108.desc:=by kernel_rfl
theorem siz108:(Try.prog.info? 108).map (·.size) = some ty108.sz:=by kernel_rfl
theorem zer108:(Try.prog.info? 108).bind (·.zero) = some (ty108.zero.val fun _=>0):=by kernel_rfl
def ty114:TyX:={ desc:=.int .u64,sz:=1,zero:=.sc ((.w .u64 0)),flat:=none }
theorem und114:Try.prog.underlying 114 = some ty114.desc:=by kernel_rfl
theorem siz114:(Try.prog.info? 114).map (·.size) = some ty114.sz:=by kernel_rfl
theorem zer114:(Try.prog.info? 114).bind (·.zero) = some (ty114.zero.val fun _=>0):=by kernel_rfl
def ty118:TyX:={ desc:=.array 7 22,sz:=7,zero:=.agg [.ws .u64 7 fun _=>0],flat:=some (List.replicate 7 [some .u64]).flatten }
theorem und118:Try.prog.underlying 118 = some ty118.desc:=by kernel_rfl
theorem siz118:(Try.prog.info? 118).map (·.size) = some ty118.sz:=by kernel_rfl
theorem zer118:(Try.prog.info? 118).bind (·.zero) = some (ty118.zero.val fun _=>0):=by kernel_rfl
def ty120:TyX:={ desc:=.slice 22,sz:=1,zero:=.sc ((.rw (.slice none 0 0))),flat:=none }
theorem und120:Try.prog.underlying 120 = some ty120.desc:=by kernel_rfl
theorem siz120:(Try.prog.info? 120).map (·.size) = some ty120.sz:=by kernel_rfl
theorem zer120:(Try.prog.info? 120).bind (·.zero) = some (ty120.zero.val fun _=>0):=by kernel_rfl
def ty131:TyX:={ desc:=.array 0 16,sz:=0,zero:=.agg [],flat:=none }
theorem und131:Try.prog.underlying 131 = some ty131.desc:=by kernel_rfl
theorem siz131:(Try.prog.info? 131).map (·.size) = some ty131.sz:=by kernel_rfl
theorem zer131:(Try.prog.info? 131).bind (·.zero) = some (ty131.zero.val fun _=>0):=by kernel_rfl
def ty135:TyX:={ desc:=.int .u32,sz:=1,zero:=.sc ((.w .u32 0)),flat:=none }
theorem und135:Try.prog.underlying 135 = some ty135.desc:=by kernel_rfl
theorem siz135:(Try.prog.info? 135).map (·.size) = some ty135.sz:=by kernel_rfl
theorem zer135:(Try.prog.info? 135).bind (·.zero) = some (ty135.zero.val fun _=>0):=by kernel_rfl
def ty138:TyX:={ desc:=.func #[144,144] #[4] false,sz:=1,zero:=.sc ((.rw .nilFunc)),flat:=none }
theorem und138:Try.prog.underlying 138 = some ty138.desc:=by kernel_rfl
theorem siz138:(Try.prog.info? 138).map (·.size) = some ty138.sz:=by kernel_rfl
theorem zer138:(Try.prog.info? 138).bind (·.zero) = some (ty138.zero.val fun _=>0):=by kernel_rfl
def ty139:TyX:={ desc:=.pointer 5,sz:=1,zero:=.sc ((.rw (.pointer none))),flat:=none }
theorem und139:Try.prog.underlying 139 = some ty139.desc:=by kernel_rfl
theorem siz139:(Try.prog.info? 139).map (·.size) = some ty139.sz:=by kernel_rfl
theorem zer139:(Try.prog.info? 139).bind (·.zero) = some (ty139.zero.val fun _=>0):=by kernel_rfl
theorem eq22:EqOk Try.prog 1 22 false [some .u64]:=eqOk_int und22 siz22
theorem eq4:EqOk Try.prog 1 4 false [none]:=eqOk_bool und4 siz4
theorem eq23:EqOk Try.prog 2 23 true (List.replicate 6 [some .u64]).flatten:=eqOk_arr (n:=6) eq22 und23 siz23 siz22
theorem eq24:EqOk Try.prog 2 24 true (List.replicate 6 [some .u64]).flatten:=eqOk_arr (n:=6) eq22 und24 siz24 siz22
theorem eq45:EqOk Try.prog 2 45 true (List.replicate 6 [some .u64]).flatten:=eqOk_arr (n:=6) eq22 und45 siz45 siz22
theorem eq118:EqOk Try.prog 2 118 true (List.replicate 7 [some .u64]).flatten:=eqOk_arr (n:=7) eq22 und118 siz118 siz22
theorem eq25:EqOk Try.prog 3 25 true (List.replicate 2 (List.replicate 6 [some .u64]).flatten).flatten:=eqOk_arr (n:=2) eq24 und25 siz25 siz24
theorem eq26:EqOk Try.prog 3 26 true (List.replicate 2 (List.replicate 6 [some .u64]).flatten).flatten:=eqOk_arr (n:=2) eq24 und26 siz26 siz24
theorem eq40:EqOk Try.prog 3 40 true ((List.replicate 6 [some .u64]).flatten ++ ((List.replicate 6 [some .u64]).flatten ++ ([none] ++ []))):=eqOk_struct (D:=2) (fs:=match ty40.desc with | .struct fs=>fs | _=>#[]) (.cons (by decide) rfl (eq24.mono (by decide)) <| .cons (by decide) rfl (eq24.mono (by decide)) <| .cons (by decide) rfl (eq4.mono (by decide)) <| .nil _) und40 siz40 (by kernel_rfl)
theorem eq41:EqOk Try.prog 3 41 true ((List.replicate 6 [some .u64]).flatten ++ ((List.replicate 6 [some .u64]).flatten ++ ([none] ++ []))):=eqOk_struct (D:=2) (fs:=match ty41.desc with | .struct fs=>fs | _=>#[]) (.cons (by decide) rfl (eq24.mono (by decide)) <| .cons (by decide) rfl (eq24.mono (by decide)) <| .cons (by decide) rfl (eq4.mono (by decide)) <| .nil _) und41 siz41 (by kernel_rfl)
theorem eq46:EqOk Try.prog 3 46 true (List.replicate 2 (List.replicate 6 [some .u64]).flatten).flatten:=eqOk_arr (n:=2) eq45 und46 siz46 siz45
theorem eq47:EqOk Try.prog 3 47 true (List.replicate 2 (List.replicate 6 [some .u64]).flatten).flatten:=eqOk_arr (n:=2) eq45 und47 siz47 siz45
theorem eq77:EqOk Try.prog 3 77 true ((List.replicate 6 [some .u64]).flatten ++ ((List.replicate 6 [some .u64]).flatten ++ ([none] ++ []))):=eqOk_struct (D:=2) (fs:=match ty77.desc with | .struct fs=>fs | _=>#[]) (.cons (by decide) rfl (eq45.mono (by decide)) <| .cons (by decide) rfl (eq45.mono (by decide)) <| .cons (by decide) rfl (eq4.mono (by decide)) <| .nil _) und77 siz77 (by kernel_rfl)
theorem eq78:EqOk Try.prog 3 78 true ((List.replicate 6 [some .u64]).flatten ++ ((List.replicate 6 [some .u64]).flatten ++ ([none] ++ []))):=eqOk_struct (D:=2) (fs:=match ty78.desc with | .struct fs=>fs | _=>#[]) (.cons (by decide) rfl (eq45.mono (by decide)) <| .cons (by decide) rfl (eq45.mono (by decide)) <| .cons (by decide) rfl (eq4.mono (by decide)) <| .nil _) und78 siz78 (by kernel_rfl)
theorem eq101:EqOk Try.prog 3 101 true ((List.replicate 6 [some .u64]).flatten ++ ((List.replicate 6 [some .u64]).flatten ++ ((List.replicate 6 [some .u64]).flatten ++ []))):=eqOk_struct (D:=2) (fs:=match ty101.desc with | .struct fs=>fs | _=>#[]) (.cons (by decide) rfl (eq45.mono (by decide)) <| .cons (by decide) rfl (eq45.mono (by decide)) <| .cons (by decide) rfl (eq45.mono (by decide)) <| .nil _) und101 siz101 (by kernel_rfl)
theorem eq102:EqOk Try.prog 3 102 true ((List.replicate 6 [some .u64]).flatten ++ ((List.replicate 6 [some .u64]).flatten ++ ((List.replicate 6 [some .u64]).flatten ++ []))):=eqOk_struct (D:=2) (fs:=match ty102.desc with | .struct fs=>fs | _=>#[]) (.cons (by decide) rfl (eq45.mono (by decide)) <| .cons (by decide) rfl (eq45.mono (by decide)) <| .cons (by decide) rfl (eq45.mono (by decide)) <| .nil _) und102 siz102 (by kernel_rfl)
theorem eq27:EqOk Try.prog 4 27 true (List.replicate 6 (List.replicate 2 (List.replicate 6 [some .u64]).flatten).flatten).flatten:=eqOk_arr (n:=6) eq26 und27 siz27 siz26
theorem eq28:EqOk Try.prog 4 28 true (List.replicate 6 (List.replicate 2 (List.replicate 6 [some .u64]).flatten).flatten).flatten:=eqOk_arr (n:=6) eq26 und28 siz28 siz26
theorem eq42:EqOk Try.prog 4 42 true ((List.replicate 2 (List.replicate 6 [some .u64]).flatten).flatten ++ ((List.replicate 2 (List.replicate 6 [some .u64]).flatten).flatten ++ ([none] ++ []))):=eqOk_struct (D:=3) (fs:=match ty42.desc with | .struct fs=>fs | _=>#[]) (.cons (by decide) rfl (eq26.mono (by decide)) <| .cons (by decide) rfl (eq26.mono (by decide)) <| .cons (by decide) rfl (eq4.mono (by decide)) <| .nil _) und42 siz42 (by kernel_rfl)
theorem eq43:EqOk Try.prog 4 43 true ((List.replicate 2 (List.replicate 6 [some .u64]).flatten).flatten ++ ((List.replicate 2 (List.replicate 6 [some .u64]).flatten).flatten ++ ([none] ++ []))):=eqOk_struct (D:=3) (fs:=match ty43.desc with | .struct fs=>fs | _=>#[]) (.cons (by decide) rfl (eq26.mono (by decide)) <| .cons (by decide) rfl (eq26.mono (by decide)) <| .cons (by decide) rfl (eq4.mono (by decide)) <| .nil _) und43 siz43 (by kernel_rfl)
theorem eq48:EqOk Try.prog 4 48 true (List.replicate 6 (List.replicate 2 (List.replicate 6 [some .u64]).flatten).flatten).flatten:=eqOk_arr (n:=6) eq47 und48 siz48 siz47
theorem eq49:EqOk Try.prog 4 49 true (List.replicate 6 (List.replicate 2 (List.replicate 6 [some .u64]).flatten).flatten).flatten:=eqOk_arr (n:=6) eq47 und49 siz49 siz47
theorem eq64:EqOk Try.prog 4 64 true (List.replicate 3 (List.replicate 2 (List.replicate 6 [some .u64]).flatten).flatten).flatten:=eqOk_arr (n:=3) eq47 und64 siz64 siz47
theorem eq65:EqOk Try.prog 4 65 true (List.replicate 3 (List.replicate 2 (List.replicate 6 [some .u64]).flatten).flatten).flatten:=eqOk_arr (n:=3) eq47 und65 siz65 siz47
theorem eq86:EqOk Try.prog 4 86 true ((List.replicate 2 (List.replicate 6 [some .u64]).flatten).flatten ++ ((List.replicate 2 (List.replicate 6 [some .u64]).flatten).flatten ++ ([none] ++ []))):=eqOk_struct (D:=3) (fs:=match ty86.desc with | .struct fs=>fs | _=>#[]) (.cons (by decide) rfl (eq47.mono (by decide)) <| .cons (by decide) rfl (eq47.mono (by decide)) <| .cons (by decide) rfl (eq4.mono (by decide)) <| .nil _) und86 siz86 (by kernel_rfl)
theorem eq87:EqOk Try.prog 4 87 true ((List.replicate 2 (List.replicate 6 [some .u64]).flatten).flatten ++ ((List.replicate 2 (List.replicate 6 [some .u64]).flatten).flatten ++ ([none] ++ []))):=eqOk_struct (D:=3) (fs:=match ty87.desc with | .struct fs=>fs | _=>#[]) (.cons (by decide) rfl (eq47.mono (by decide)) <| .cons (by decide) rfl (eq47.mono (by decide)) <| .cons (by decide) rfl (eq4.mono (by decide)) <| .nil _) und87 siz87 (by kernel_rfl)
theorem eq107:EqOk Try.prog 4 107 true ((List.replicate 2 (List.replicate 6 [some .u64]).flatten).flatten ++ ((List.replicate 2 (List.replicate 6 [some .u64]).flatten).flatten ++ ((List.replicate 2 (List.replicate 6 [some .u64]).flatten).flatten ++ []))):=eqOk_struct (D:=3) (fs:=match ty107.desc with | .struct fs=>fs | _=>#[]) (.cons (by decide) rfl (eq47.mono (by decide)) <| .cons (by decide) rfl (eq47.mono (by decide)) <| .cons (by decide) rfl (eq47.mono (by decide)) <| .nil _) und107 siz107 (by kernel_rfl)
theorem eq108:EqOk Try.prog 4 108 true ((List.replicate 2 (List.replicate 6 [some .u64]).flatten).flatten ++ ((List.replicate 2 (List.replicate 6 [some .u64]).flatten).flatten ++ ((List.replicate 2 (List.replicate 6 [some .u64]).flatten).flatten ++ []))):=eqOk_struct (D:=3) (fs:=match ty108.desc with | .struct fs=>fs | _=>#[]) (.cons (by decide) rfl (eq47.mono (by decide)) <| .cons (by decide) rfl (eq47.mono (by decide)) <| .cons (by decide) rfl (eq47.mono (by decide)) <| .nil _) und108 siz108 (by kernel_rfl)
theorem eq92:EqOk Try.prog 5 92 true ((List.replicate 6 [some .u64]).flatten ++ ((List.replicate 6 [some .u64]).flatten ++ ((List.replicate 2 (List.replicate 6 [some .u64]).flatten).flatten ++ ((List.replicate 2 (List.replicate 6 [some .u64]).flatten).flatten ++ ((List.replicate 2 (List.replicate 6 [some .u64]).flatten).flatten ++ ((List.replicate 2 (List.replicate 6 [some .u64]).flatten).flatten ++ ((List.replicate 6 (List.replicate 2 (List.replicate 6 [some .u64]).flatten).flatten).flatten ++ []))))))):=eqOk_struct (D:=4) (fs:=match ty92.desc with | .struct fs=>fs | _=>#[]) (.cons (by decide) rfl (eq45.mono (by decide)) <| .cons (by decide) rfl (eq45.mono (by decide)) <| .cons (by decide) rfl (eq47.mono (by decide)) <| .cons (by decide) rfl (eq47.mono (by decide)) <| .cons (by decide) rfl (eq47.mono (by decide)) <| .cons (by decide) rfl (eq47.mono (by decide)) <| .cons (by decide) rfl (eq49.mono (by decide)) <| .nil _) und92 siz92 (by kernel_rfl)
theorem eq93:EqOk Try.prog 5 93 true ((List.replicate 6 [some .u64]).flatten ++ ((List.replicate 6 [some .u64]).flatten ++ ((List.replicate 2 (List.replicate 6 [some .u64]).flatten).flatten ++ ((List.replicate 2 (List.replicate 6 [some .u64]).flatten).flatten ++ ((List.replicate 2 (List.replicate 6 [some .u64]).flatten).flatten ++ ((List.replicate 2 (List.replicate 6 [some .u64]).flatten).flatten ++ ((List.replicate 6 (List.replicate 2 (List.replicate 6 [some .u64]).flatten).flatten).flatten ++ []))))))):=eqOk_struct (D:=4) (fs:=match ty93.desc with | .struct fs=>fs | _=>#[]) (.cons (by decide) rfl (eq45.mono (by decide)) <| .cons (by decide) rfl (eq45.mono (by decide)) <| .cons (by decide) rfl (eq47.mono (by decide)) <| .cons (by decide) rfl (eq47.mono (by decide)) <| .cons (by decide) rfl (eq47.mono (by decide)) <| .cons (by decide) rfl (eq47.mono (by decide)) <| .cons (by decide) rfl (eq49.mono (by decide)) <| .nil _) und93 siz93 (by kernel_rfl)
def ttL:List (Option TyX):=[none,none,some ty2,some ty3,some ty4,some ty5,none,none,none,some ty9,none,none,some ty12,none,none,none,none,none,none,none,none,none,some ty22,some ty23,some ty24,some ty25,some ty26,some ty27,some ty28,none,some ty30,none,none,none,none,none,some ty36,some ty37,none,none,some ty40,some ty41,some ty42,some ty43,none,some ty45,some ty46,some ty47,some ty48,some ty49,none,none,none,none,none,none,none,none,none,none,none,none,none,some ty63,some ty64,some ty65,none,none,none,none,none,some ty71,some ty72,some ty73,some ty74,none,none,some ty77,some ty78,none,some ty80,some ty81,some ty82,some ty83,none,none,some ty86,some ty87,none,none,some ty90,none,some ty92,some ty93,none,none,none,none,none,none,none,some ty101,some ty102,none,none,none,none,some ty107,some ty108,none,none,none,none,none,some ty114,none,none,none,some ty118,none,some ty120,none,none,none,none,none,none,none,none,none,none,some ty131,none,none,none,some ty135,none,none,some ty138,some ty139,none,none,none,none,none]
def tt:TT:=nthO ttL
theorem tt_ok:TTOk Try.prog tt:=ttOk_of (l:=ttL) (
 ⟨⟨und2,siz2,zer2,zok_of (by kernel_rfl),(fun sk h=>by cases h),by kernel_rfl,by kernel_rfl⟩,
 ⟨⟨und3,siz3,zer3,zok_of (by kernel_rfl),(fun sk h=>by cases h),by kernel_rfl,by kernel_rfl⟩,
 ⟨⟨und4,siz4,zer4,zok_of (by kernel_rfl),(fun sk h=>by cases h),by kernel_rfl,by kernel_rfl⟩,
 ⟨⟨und5,siz5,zer5,zok_of (by kernel_rfl),(fun sk h=>by cases h),by kernel_rfl,by kernel_rfl⟩,
 ⟨⟨und9,siz9,zer9,zok_of (by kernel_rfl),(fun sk h=>by cases h),by kernel_rfl,by kernel_rfl⟩,
 ⟨⟨und12,siz12,zer12,zok_of (by kernel_rfl),(fun sk h=>by cases h),by kernel_rfl,by kernel_rfl⟩,
 ⟨⟨und22,siz22,zer22,zok_of (by kernel_rfl),(fun sk h=>by cases h),by kernel_rfl,by kernel_rfl⟩,
 ⟨⟨und23,siz23,zer23,zok_of (by kernel_rfl),(fun sk h=>by cases h;exact ⟨by kernel_rfl,eq23.mono (by decide)⟩),by kernel_rfl,by kernel_rfl⟩,
 ⟨⟨und24,siz24,zer24,zok_of (by kernel_rfl),(fun sk h=>by cases h;exact ⟨by kernel_rfl,eq24.mono (by decide)⟩),by kernel_rfl,by kernel_rfl⟩,
 ⟨⟨und25,siz25,zer25,zok_of (by kernel_rfl),(fun sk h=>by cases h;exact ⟨by kernel_rfl,eq25.mono (by decide)⟩),by kernel_rfl,by kernel_rfl⟩,
 ⟨⟨und26,siz26,zer26,zok_of (by kernel_rfl),(fun sk h=>by cases h;exact ⟨by kernel_rfl,eq26.mono (by decide)⟩),by kernel_rfl,by kernel_rfl⟩,
 ⟨⟨und27,siz27,zer27,zok_of (by kernel_rfl),(fun sk h=>by cases h;exact ⟨by kernel_rfl,eq27.mono (by decide)⟩),by kernel_rfl,by kernel_rfl⟩,
 ⟨⟨und28,siz28,zer28,zok_of (by kernel_rfl),(fun sk h=>by cases h;exact ⟨by kernel_rfl,eq28.mono (by decide)⟩),by kernel_rfl,by kernel_rfl⟩,
 ⟨⟨und30,siz30,zer30,zok_of (by kernel_rfl),(fun sk h=>by cases h),by kernel_rfl,by kernel_rfl⟩,
 ⟨⟨und36,siz36,zer36,zok_of (by kernel_rfl),(fun sk h=>by cases h),by kernel_rfl,by kernel_rfl⟩,
 ⟨⟨und37,siz37,zer37,zok_of (by kernel_rfl),(fun sk h=>by cases h),by kernel_rfl,by kernel_rfl⟩,
 ⟨⟨und40,siz40,zer40,zok_of (by kernel_rfl),(fun sk h=>by cases h;exact ⟨by kernel_rfl,eq40.mono (by decide)⟩),by kernel_rfl,by kernel_rfl⟩,
 ⟨⟨und41,siz41,zer41,zok_of (by kernel_rfl),(fun sk h=>by cases h;exact ⟨by kernel_rfl,eq41.mono (by decide)⟩),by kernel_rfl,by kernel_rfl⟩,
 ⟨⟨und42,siz42,zer42,zok_of (by kernel_rfl),(fun sk h=>by cases h;exact ⟨by kernel_rfl,eq42.mono (by decide)⟩),by kernel_rfl,by kernel_rfl⟩,
 ⟨⟨und43,siz43,zer43,zok_of (by kernel_rfl),(fun sk h=>by cases h;exact ⟨by kernel_rfl,eq43.mono (by decide)⟩),by kernel_rfl,by kernel_rfl⟩,
 ⟨⟨und45,siz45,zer45,zok_of (by kernel_rfl),(fun sk h=>by cases h;exact ⟨by kernel_rfl,eq45.mono (by decide)⟩),by kernel_rfl,by kernel_rfl⟩,
 ⟨⟨und46,siz46,zer46,zok_of (by kernel_rfl),(fun sk h=>by cases h;exact ⟨by kernel_rfl,eq46.mono (by decide)⟩),by kernel_rfl,by kernel_rfl⟩,
 ⟨⟨und47,siz47,zer47,zok_of (by kernel_rfl),(fun sk h=>by cases h;exact ⟨by kernel_rfl,eq47.mono (by decide)⟩),by kernel_rfl,by kernel_rfl⟩,
 ⟨⟨und48,siz48,zer48,zok_of (by kernel_rfl),(fun sk h=>by cases h;exact ⟨by kernel_rfl,eq48.mono (by decide)⟩),by kernel_rfl,by kernel_rfl⟩,
 ⟨⟨und49,siz49,zer49,zok_of (by kernel_rfl),(fun sk h=>by cases h;exact ⟨by kernel_rfl,eq49.mono (by decide)⟩),by kernel_rfl,by kernel_rfl⟩,
 ⟨⟨und63,siz63,zer63,zok_of (by kernel_rfl),(fun sk h=>by cases h),by kernel_rfl,by kernel_rfl⟩,
 ⟨⟨und64,siz64,zer64,zok_of (by kernel_rfl),(fun sk h=>by cases h;exact ⟨by kernel_rfl,eq64.mono (by decide)⟩),by kernel_rfl,by kernel_rfl⟩,
 ⟨⟨und65,siz65,zer65,zok_of (by kernel_rfl),(fun sk h=>by cases h;exact ⟨by kernel_rfl,eq65.mono (by decide)⟩),by kernel_rfl,by kernel_rfl⟩,
 ⟨⟨und71,siz71,zer71,zok_of (by kernel_rfl),(fun sk h=>by cases h),by kernel_rfl,by kernel_rfl⟩,
 ⟨⟨und72,siz72,zer72,zok_of (by kernel_rfl),(fun sk h=>by cases h),by kernel_rfl,by kernel_rfl⟩,
 ⟨⟨und73,siz73,zer73,zok_of (by kernel_rfl),(fun sk h=>by cases h),by kernel_rfl,by kernel_rfl⟩,
 ⟨⟨und74,siz74,zer74,zok_of (by kernel_rfl),(fun sk h=>by cases h),by kernel_rfl,by kernel_rfl⟩,
 ⟨⟨und77,siz77,zer77,zok_of (by kernel_rfl),(fun sk h=>by cases h;exact ⟨by kernel_rfl,eq77.mono (by decide)⟩),by kernel_rfl,by kernel_rfl⟩,
 ⟨⟨und78,siz78,zer78,zok_of (by kernel_rfl),(fun sk h=>by cases h;exact ⟨by kernel_rfl,eq78.mono (by decide)⟩),by kernel_rfl,by kernel_rfl⟩,
 ⟨⟨und80,siz80,zer80,zok_of (by kernel_rfl),(fun sk h=>by cases h),by kernel_rfl,by kernel_rfl⟩,
 ⟨⟨und81,siz81,zer81,zok_of (by kernel_rfl),(fun sk h=>by cases h),by kernel_rfl,by kernel_rfl⟩,
 ⟨⟨und82,siz82,zer82,zok_of (by kernel_rfl),(fun sk h=>by cases h),by kernel_rfl,by kernel_rfl⟩,
 ⟨⟨und83,siz83,zer83,zok_of (by kernel_rfl),(fun sk h=>by cases h),by kernel_rfl,by kernel_rfl⟩,
 ⟨⟨und86,siz86,zer86,zok_of (by kernel_rfl),(fun sk h=>by cases h;exact ⟨by kernel_rfl,eq86.mono (by decide)⟩),by kernel_rfl,by kernel_rfl⟩,
 ⟨⟨und87,siz87,zer87,zok_of (by kernel_rfl),(fun sk h=>by cases h;exact ⟨by kernel_rfl,eq87.mono (by decide)⟩),by kernel_rfl,by kernel_rfl⟩,
 ⟨⟨und90,siz90,zer90,zok_of (by kernel_rfl),(fun sk h=>by cases h),by kernel_rfl,by kernel_rfl⟩,
 ⟨⟨und92,siz92,zer92,zok_of (by kernel_rfl),(fun sk h=>by cases h;exact ⟨by kernel_rfl,eq92.mono (by decide)⟩),by kernel_rfl,by kernel_rfl⟩,
 ⟨⟨und93,siz93,zer93,zok_of (by kernel_rfl),(fun sk h=>by cases h;exact ⟨by kernel_rfl,eq93.mono (by decide)⟩),by kernel_rfl,by kernel_rfl⟩,
 ⟨⟨und101,siz101,zer101,zok_of (by kernel_rfl),(fun sk h=>by cases h;exact ⟨by kernel_rfl,eq101.mono (by decide)⟩),by kernel_rfl,by kernel_rfl⟩,
 ⟨⟨und102,siz102,zer102,zok_of (by kernel_rfl),(fun sk h=>by cases h;exact ⟨by kernel_rfl,eq102.mono (by decide)⟩),by kernel_rfl,by kernel_rfl⟩,
 ⟨⟨und107,siz107,zer107,zok_of (by kernel_rfl),(fun sk h=>by cases h;exact ⟨by kernel_rfl,eq107.mono (by decide)⟩),by kernel_rfl,by kernel_rfl⟩,
 ⟨⟨und108,siz108,zer108,zok_of (by kernel_rfl),(fun sk h=>by cases h;exact ⟨by kernel_rfl,eq108.mono (by decide)⟩),by kernel_rfl,by kernel_rfl⟩,
 ⟨⟨und114,siz114,zer114,zok_of (by kernel_rfl),(fun sk h=>by cases h),by kernel_rfl,by kernel_rfl⟩,
 ⟨⟨und118,siz118,zer118,zok_of (by kernel_rfl),(fun sk h=>by cases h;exact ⟨by kernel_rfl,eq118.mono (by decide)⟩),by kernel_rfl,by kernel_rfl⟩,
 ⟨⟨und120,siz120,zer120,zok_of (by kernel_rfl),(fun sk h=>by cases h),by kernel_rfl,by kernel_rfl⟩,
 ⟨⟨und131,siz131,zer131,zok_of (by kernel_rfl),(fun sk h=>by cases h),by kernel_rfl,by kernel_rfl⟩,
 ⟨⟨und135,siz135,zer135,zok_of (by kernel_rfl),(fun sk h=>by cases h),by kernel_rfl,by kernel_rfl⟩,
 ⟨⟨und138,siz138,zer138,zok_of (by kernel_rfl),(fun sk h=>by cases h),by kernel_rfl,by kernel_rfl⟩,
 ⟨⟨und139,siz139,zer139,zok_of (by kernel_rfl),(fun sk h=>by cases h),by kernel_rfl,by kernel_rfl⟩,
 trivial⟩⟩⟩⟩⟩⟩⟩⟩⟩⟩⟩⟩⟩⟩⟩⟩⟩⟩⟩⟩⟩⟩⟩⟩⟩⟩⟩⟩⟩⟩⟩⟩⟩⟩⟩⟩⟩⟩⟩⟩⟩⟩⟩⟩⟩⟩⟩⟩⟩⟩⟩⟩⟩⟩)
theorem mixed:Try.prog.follows .mixedOrders = true:=Checked.mixed Try.checked
end Go.Proofs.Ytnjocbcjejpklaa
