/- Texts of the proof, joined. -/
import Derived.Test.YtnjocbcjejpklaaGreatZtF
import Derived.Carry
import Derived.ChangeSame
set_option linter.all false
namespace Go.Rq
open Go
def mvSc (k:Nat):Sc->Sc
 | .pt b o=>.pt (k + b) o
 | .sl b o l c=>.sl (k + b) o l c
 | .so b n=>.so (k + b) n
 | .sv b o n=>.sv (k + b) o n
 | .fn f caps=>.fn f (caps.map fun c=>k + c)
 | s=>s
def mvCell (k:Nat):Cell->Cell
 | .ws k n f=>.ws k n f
 | .one s=>.one (mvSc k s)
def mvCells (k:Nat):List Cell->List Cell
 | []=>[]
 | c :: r=>mvCell k c :: mvCells k r
def mvV1 (k:Nat):V1->V1
 | .sc s=>.sc (mvSc k s)
 | .agg cs=>.agg (mvCells k cs)
def mvV1s (k:Nat):List V1->List V1
 | []=>[]
 | v :: r=>mvV1 k v :: mvV1s k r
def mvAV (k:Nat):AV->AV
 | .v1 v=>.v1 (mvV1 k v)
 | .tup l=>.tup (mvV1s k l)
 | .raw v=>.raw v
section
variable {k:Nat} {ρ:Ren}
theorem mvSc_val {s:Sc}:(mvSc k s).val ρ = s.val (fun i=>ρ (k + i)):=by
 cases s with
 | fn f caps =>
  simp only [mvSc,Sc.val,List.map_map]
  congr 2
 | _=>rfl
theorem mvCells_vals:∀ {cs:List Cell},cvals ρ (mvCells k cs) = cvals (fun i=>ρ (k + i)) cs
 | []=>rfl
 | c :: r=>by
  simp only [mvCells,cvals]
  rw [mvCells_vals (cs:=r)]
  cases c with
  | ws _ _ _=>rfl
  | one s=>simp only [mvCell,Cell.vals,mvSc_val]
theorem mvV1_val {v:V1}:(mvV1 k v).val ρ = v.val (fun i=>ρ (k + i)):=by
 cases v with
 | sc s=>exact mvSc_val
 | agg cs=>simp only [mvV1,V1.val];rw [mvCells_vals]
theorem mvAV_val {v:AV}:(mvAV k v).val ρ = v.val (fun i=>ρ (k + i)):=by
 cases v with
 | v1 v=>exact mvV1_val
 | tup l =>
  have key:∀ l:List V1,(mvV1s k l).map (V1.val ρ) = l.map (V1.val (fun i=>ρ (k + i))):=by
   intro l
   induction l with
   | nil=>rfl
   | cons v r ih=>simp only [mvV1s,List.map_cons,mvV1_val,ih]
  simp only [mvAV,AV.val]
  rw [key l]
 | raw v=>rfl
variable {D E:Nat->Prop} (hD:∀ i,D i->E (k + i))
include hD
theorem mvSc_ok {s:Sc} (h:s.ok D):(mvSc k s).ok E:=by
 cases s with
 | pt b o=>exact hD _ h
 | sl b o l c=>exact hD _ h
 | so b n=>exact ⟨hD _ h.1,hD _ h.2⟩
 | sv b o n=>exact ⟨hD _ h.1,hD _ h.2⟩
 | fn f caps =>
  intro c hc
  obtain ⟨d,hd,rfl⟩:=List.mem_map.1 hc
  exact hD _ (h d hd)
 | rw v=>exact h
 | _=>trivial
theorem mvCells_ok:∀ {cs:List Cell},cok D cs->cok E (mvCells k cs)
 | [],_=>fun c hc=>by cases hc
 | c :: r,h=>fun d hd=>by
  rcases List.mem_cons.1 hd with rfl | hd
  ·have:=h c (List.mem_cons_self ..)
   cases c with
   | ws _ _ _=>trivial
   | one s=>exact mvSc_ok hD this
  ·exact mvCells_ok (cs:=r) (fun e he=>h e (List.mem_cons_of_mem _ he)) d hd
theorem mvV1_ok {v:V1} (h:v.ok D):(mvV1 k v).ok E:=by
 cases v with
 | sc s=>exact mvSc_ok hD h
 | agg cs=>exact mvCells_ok hD h
theorem mvAV_ok {v:AV} (h:v.ok D):(mvAV k v).ok E:=by
 cases v with
 | v1 v=>exact mvV1_ok hD h
 | tup l =>
  have key:∀ l:List V1,(∀ v ∈ l,v.ok D)->∀ v ∈ mvV1s k l,v.ok E:=by
   intro l
   induction l with
   | nil=>intro _ v hv;cases hv
   | cons v r ih =>
    intro h u hu
    rcases List.mem_cons.1 hu with rfl | hu
    ·exact mvV1_ok hD (h _ (List.mem_cons_self ..))
    ·exact ih (fun x hx=>h x (List.mem_cons_of_mem _ hx)) u hu
  exact key l h
 | raw v=>trivial
end
def fillH:Heap->Nat->List Blk->Heap
 | h,_,[]=>h
 | h,s,b :: r=>fillH (hset h s b) (s + 1) r
theorem hget_fillH:∀ {l:List Blk} {h:Heap} {s:Nat},(∀ t,t < l.length->s + t < h.length)->∀ i,hget (fillH h s l) i = if s <= i/\i < s + l.length then l[i - s]? else hget h i
 | [],h,s,_,i=>by
  rw [if_neg (by simp only [List.length_nil];omega)];rfl
 | b :: r,h,s,hl,i=>by
  have h0:s < h.length:=hl 0 (by simp)
  simp only [fillH]
  rw [hget_fillH (l:=r) (fun t ht=>by rw [length_hset];have:=hl (t + 1) (by simpa using ht);omega)]
  simp only [List.length_cons]
  by_cases hi:s + 1 <= i/\i < s + 1 + r.length
  ·rw [if_pos hi,if_pos (by omega)]
   obtain ⟨d,hd⟩:∃ d,i - s = d + 1:=⟨i - s - 1,by omega⟩
   rw [show i - (s + 1) = d by omega,hd];rfl
  ·rw [if_neg hi]
   by_cases he:i = s
   ·subst he
    rw [hgS h0,if_pos (by omega),Nat.sub_self];rfl
   ·rw [hgN he,if_neg (by omega)]
theorem hget_map:∀ {l:List Blk} {i:Nat},hget (l.map some) i = l[i]?
 | [],_=>rfl
 | _ :: _,0=>rfl
 | _ :: r,i + 1=>by simpa [hget] using hget_map (l:=r) (i:=i)
theorem hget_app:∀ {a b:Heap} {i:Nat},hget (a ++ b) i = if i < a.length then hget a i else hget b (i - a.length)
 | [],b,i=>by simp
 | _ :: _,b,0=>by simp [hget]
 | x :: r,b,i + 1=>by
  simp only [List.cons_append,hget,List.length_cons]
  rw [hget_app (a:=r)]
  by_cases h:i < r.length
  ·rw [if_pos h,if_pos (by omega)]
  ·rw [if_neg h,if_neg (by omega),Nat.add_sub_add_right]
theorem RelH.fill {ρ σ ρ2:Ren} {h:Heap} {w:World} (r:RelH ρ h w) {l:List Blk} (k:RelH σ (l.map some) w) (hpl:∀ b ∈ l,plainCs b.cells = true) (hl3:∀ b ∈ l,b.lo < 3) {s:Nat} (hho:∀ t,t < l.length->isHole h (s + t) = true)
  (hne:∀ t,Lv (l.map some) t->∀ i b,hget h i = some b->b.lo ≠ 2->σ t ≠ ρ i) (hag:Agree (Dm h) ρ ρ2) (hnew:∀ t,t < l.length->ρ2 (s + t) = σ t) :
  RelH ρ2 (fillH h s l) w/\(∀ i,Dm h i->Dm (fillH h s l) i)/\(∀ t,t < l.length->Dm (fillH h s l) (s + t))/\(∀ i,Dm (fillH h s l) i->¬ Dm h i->∃ t,i = s + t/\t < l.length):=by
 have hlen:∀ t,t < l.length->s + t < h.length:=fun t ht=>(isHole_lt (hho t ht)).1
 have hget1:=hget_fillH hlen
 have hnd:∀ i,Dm h i->¬ (s <= i/\i < s + l.length):=fun i ⟨b,hb⟩ hi=>by
  have:=(isHole_lt (hho (i - s) (by omega))).2
  rw [show s + (i - s) = i by omega,hb] at this
  cases this
 have hin:∀ i b,hget (fillH h s l) i = some b->(∃ t,i = s + t/\t < l.length/\hget (l.map some) t = some b)∨hget h i = some b:=fun i b hb=>by
  rw [hget1] at hb
  by_cases hi:s <= i/\i < s + l.length
  ·rw [if_pos hi] at hb
   exact .inl ⟨i - s,by omega,by omega,by rw [hget_map];exact hb⟩
  ·rw [if_neg hi] at hb
   exact .inr hb
 have hmem:∀ t b,hget (l.map some) t = some b->b ∈ l:=fun t b hb=>by
  rw [hget_map] at hb
  exact List.mem_of_getElem? hb
 have hokp:∀ {b:Blk},plainCs b.cells = true->Go.Rq.cok (fun _=>False) b.cells:=fun {b} hb=>zok_of (v:=.agg b.cells) hb
 have hplv:∀ {b:Blk},plainCs b.cells = true->∀ ρ ρ',cvals ρ b.cells = cvals ρ' b.cells:=fun {b} hb ρ ρ' =>
  cvA8 (D:=fun _=>False) (fun _ h=>h.elim) (hokp hb)
 have hsub:∀ i,Dm h i->Dm (fillH h s l) i:=fun i hi=>by
  obtain ⟨b,hb⟩:=hi
  exact ⟨b,by rw [hget1,if_neg (hnd i ⟨b,hb⟩)];exact hb⟩
 refine ⟨⟨fun i b hb=>?_,fun i b hb h0=>?_,fun i b hb h1=>?_,fun i b hb=>?_,fun i j hi hj he=>?_,fun i b hb h3=>?_,fun i j b hi hb h3=>?_⟩,hsub,fun t ht=>?_,fun i ⟨b,hb⟩ hn=>?_⟩
 ·rcases hin i b hb with ⟨t,rfl,ht,hk⟩ | hb'
  ·exact cok_mono (fun _ h=>h.elim) (hokp (hpl b (hmem t b hk)))
  ·exact cok_mono hsub (r.cok i b hb')
 ·rcases hin i b hb with ⟨t,rfl,ht,hk⟩ | hb'
  ·have:=k.row t b hk h0
   rw [hnew t ht,hplv (hpl b (hmem t b hk)) ρ2 σ]
   exact this
  ·have:=r.row i b hb' h0
   rw [hag i ⟨b,hb'⟩,cvA8 hag (r.cok i b hb')]
   exact this
 ·rcases hin i b hb with ⟨t,rfl,ht,hk⟩ | hb'
  ·obtain ⟨⟨cur,e1,e2,e3,e4,e5,e6⟩,⟨c,hc⟩⟩:=k.own t b hk h1
   have ht1:t + 1 < l.length:=by simpa using hget_lt hc
   have f1:=hnew t ht
   have f2:ρ2 (s + t + 1) = σ (t + 1):=hnew (t + 1) ht1
   refine ⟨⟨cur,?_,?_,?_,?_,e5,?_⟩,?_⟩
   ·rw [f1];exact e1
   ·rw [f1,f2];exact e2
   ·rw [f1,f2];exact e3
   ·rw [f1,f2];exact e4
   ·rw [hplv (hpl b (hmem t b hk)) ρ2 σ];exact e6
   ·refine ⟨c,?_⟩
    rw [hget1,if_pos (by omega),show s + t + 1 - s = t + 1 by omega,<-hget_map]
    exact hc
  ·obtain ⟨k1,k2⟩:=r.own i b hb' h1
   exact ⟨k1.agree hag ⟨b,hb'⟩ k2 (r.cok i b hb') rfl,hsub _ k2⟩
 ·rcases hin i b hb with ⟨t,rfl,ht,hk⟩ | hb'
  ·exact k.few t b hk
  ·exact r.few i b hb'
 ·obtain ⟨b,hb,hbl⟩:=hi
  obtain ⟨c,hc,hcl⟩:=hj
  rcases hin i b hb with ⟨t,rfl,ht,hk⟩ | hb' <;> rcases hin j c hc with ⟨u,rfl,hu,hk'⟩ | hc'
  ·rw [hnew t ht,hnew u hu] at he
   rw [k.inj t u ⟨b,hk,hbl⟩ ⟨c,hk',hcl⟩ he]
  ·rw [hnew t ht,hag j ⟨c,hc'⟩] at he
   exact absurd he (hne t ⟨b,hk,hbl⟩ j c hc' (by omega))
  ·rw [hnew u hu,hag i ⟨b,hb'⟩] at he
   exact absurd he.symm (hne u ⟨c,hk',hcl⟩ i b hb' (by omega))
  ·rw [hag i ⟨b,hb'⟩,hag j ⟨c,hc'⟩] at he
   exact r.inj i j ⟨b,hb',hbl⟩ ⟨c,hc',hcl⟩ he
 ·rcases hin i b hb with ⟨t,rfl,ht,hk⟩ | hb'
  ·have:=hl3 b (hmem t b hk);omega
  ·exact (r.win i b hb' h3).agree hag ⟨b,hb'⟩ (r.cok i b hb') rfl
 ·rcases hin j b hb with ⟨t,rfl,ht,hk⟩ | hb'
  ·have:=hl3 b (hmem t b hk);omega
  ·obtain ⟨c,hc,hcl⟩:=hi
   rw [hag j ⟨b,hb'⟩]
   rcases hin i c hc with ⟨u,rfl,hu,hk'⟩ | hc'
   ·rw [hnew u hu]
    exact hne u ⟨c,hk',hcl⟩ j b hb' (by omega)
   ·rw [hag i ⟨c,hc'⟩]
    exact r.sep i j b ⟨c,hc',hcl⟩ hb' h3
 ·refine ⟨l[t],?_⟩
  rw [hget1,if_pos (by omega),Nat.add_sub_cancel_left]
  exact List.getElem?_eq_getElem ht
 ·rcases hin i b hb with ⟨t,e,ht,_⟩ | hb'
  ·exact ⟨t,e,ht⟩
  ·exact absurd ⟨b,hb'⟩ hn
theorem view_core {P:Program} {T:TT} (hT:TTOk P T) {f:FuncId} {fn:Func} (hf:P.funcs[f]? = some fn) (hb:fn.body = some (bodyOf fn)) (hn:(fn.name == "runtime.NumGoroutine") = false)
  {args args':List AV} {h W:Heap} (outs:List Nat) (slot:Nat) (Bo:List Blk) (V0:AV) {ρ ρW:Ren} {w:World} (hr:RelH ρ h w) (rW:RelH ρW W w)
  (hW3:∀ i b,hget W i = some b->b.lo = 3∨b.lo = 0) (hWd:∀ i,i < W.length->Dm W i) (hin:∀ j,Dm W j->∃ i,Dm h i/\ρW j = ρ i)
  (hav:args'.map (AV.val ρW) = args.map (AV.val ρ)) (hab:∀ x ∈ args',x.ok (Dm W))
  (hBo:Bo.all (fun b=>plainCs b.cells && Nat.blt b.lo 3) = true) (hBo2:heapB (Bo.map some) 0 (Bo.map some) = true) (hV:avB (Bo.map some) V0 = true) (hol:outs.length = Bo.length)
  (hho:∀ t,t < Bo.length->isHole h (slot + t) = true)
  (hwalk:AWqS P (Dm W) (flatC (bodyOf fn)) (FEndM T fn (upto 0 W.length ++ outs) (mvAV W.length V0) (W ++ Bo.map some)) ⟨frame0 args' fn.ntmps,W⟩)
  (o:Oper) (a:Act) (next:Act->World->Prop) (Q:Exit->Act->World->Prop)
  (hnext:∀ ρ' w',StepR (Dm h) ρ w (Dm (fillH h slot Bo)) ρ' w'->RelH ρ' (fillH h slot Bo) w'->(mvAV slot V0).ok (Dm (fillH h slot Bo))->next (a.put o.dst ((mvAV slot V0).val ρ')) w') :
  o.upon P a next Q ((callFunc f (args.map (AV.val ρ)).toArray).run P w):=by
 rw [enter_run hf hb hn,Oper.upon_enter]
 refine calls_of_wp hf hb ?_
 have haok:=hab
 have hrel:Rel ρW ⟨frame0 args' fn.ntmps,W⟩ { tmps:=(args.map (AV.val ρ)).toArray ++ Array.replicate (fn.ntmps - (args.map (AV.val ρ)).toArray.size) undef,defers:=[] } w:=by
  refine ⟨?_,rfl,fun x hx=>?_,rW⟩
  ·have hl:args'.length = args.length:=by have:=congrArg List.length hav;simpa using this
   apply Array.ext'
   simp [frame0,hav,hl,undefA,AV.val,undef]
  ·unfold frame0 at hx
   rcases List.mem_append.1 hx with hx | hx
   ·exact haok x hx
   ·have:=(List.mem_replicate.1 hx).2
    subst this
    intro v hv;cases hv
 refine wp_mono (AWq.of_flat _ hwalk ρW w ρW _ w hrel (StepR.refl _ _ _)) fun e a' w' ⟨s',ρ',q,r',st⟩=>?_
 have fin:(chkB (upto 0 W.length ++ outs) (pickH (upto 0 W.length ++ outs) s'.h (upto 0 W.length ++ outs)) = true/\heapB (pickH (upto 0 W.length ++ outs) s'.h (upto 0 W.length ++ outs)) 0 (pickH (upto 0 W.length ++ outs) s'.h (upto 0 W.length ++ outs)) = true /\
   SimH (pickH (upto 0 W.length ++ outs) s'.h (upto 0 W.length ++ outs)) (W ++ Bo.map some)/\∃ v',resA T s' fn.results.toList = some v'/\avB (pickH (upto 0 W.length ++ outs) s'.h (upto 0 W.length ++ outs)) (bkAV (upto 0 W.length ++ outs) v') = true/\∀ ρ,(bkAV (upto 0 W.length ++ outs) v').val ρ = (mvAV W.length V0).val ρ) ->
   a'.defers = []/\∃ u,(results fn a'.tmps).run P w' = .ok u w'/\next (a.put o.dst u) w':=by
  intro ⟨q1,q1b,q2,v',q3,q3b,q4⟩
  have hres:=resA_run hT r' (fn:=fn) q3
  refine ⟨r'.defers,_,hres.1,?_⟩
  generalize hmc:upto 0 W.length ++ outs = mc at q1 q1b q2 q3b q4
  obtain ⟨rK0,hsubK0⟩:=r'.mem.view rfl q1 q1b
  have hmclen:mc.length = W.length + Bo.length:=by rw [<-hmc,List.length_append,lup,hol]
  unfold chkB at q1
  simp only [Bool.and_eq_true] at q1
  have hD1:∀ i,Dm (pickH mc s'.h mc) i->i < mc.length/\mc.length < 1000000:=fun i ⟨b,hg⟩=>⟨(hget_pickH hg).1,by rw [<-Nat.blt_eq];exact q1.2.2⟩
  have hKW:∀ i b,hget W i = some b->hget (W ++ Bo.map some) i = some b:=fun i b hb=>by rw [hget_app,if_pos (hget_lt hb)];exact hb
  have hmcW:∀ i,i < W.length->rnm mc ρ' i = ρW i:=fun i hi=>by
   simp only [rnm]
   rw [<-hmc,nthN_app (by rw [lup];exact hi),nthN_upto hi,Nat.zero_add]
   exact st.agree i (hWd i hi)
  have hmcO:∀ t,t < Bo.length->rnm mc ρ' (W.length + t) = ρ' (nthN outs t):=fun t ht=>by
   simp only [rnm]
   rw [<-hmc,nthN_app2 (by rw [lup];omega),lup,Nat.add_sub_cancel_left]
  have hkeep:∀ B,B < w.heap.size->w'.heap[B]? = w.heap[B]?:=fun B hB=>by
   by_cases hex:∃ j,Dm W j/\ρW j = B
   ·obtain ⟨j,⟨b,hj⟩,e⟩:=hex
    have hjl:=hget_lt hj
    obtain ⟨b0,hb0,ht,hlo,hhi,hcv⟩:=q2.at (hKW j b hj)
    have hag:cvals (rnm mc ρ') b.cells = cvals ρW b.cells:=cvA8 (D:=Dm W) (fun t ⟨c,hc⟩=>hmcW t (hget_lt hc)) (rW.cok j b hj)
    rcases hW3 j b hj with h3 | h3
    ·obtain ⟨arr,fr,a1,a2,_⟩:=rW.win j b hj h3
     obtain ⟨arr',fr',b1,b2,_⟩:=rK0.win j b0 hb0 (by omega)
     rw [hmcW j hjl,e] at b1
     rw [e] at a1
     rw [hcv,hag,a2] at b2
     have e3:=wrapB_inj (Option.some.inj b2)
     rw [a1,b1,e3.1,e3.2,ht]
    ·have a1:=rW.row j b hj h3
     have b1:=rK0.row j b0 hb0 (by omega)
     rw [hmcW j hjl,e] at b1
     rw [e] at a1
     rw [a1,b1,hcv,hag,ht,hlo,hhi]
   ·exact st.keep B hB fun j hj e=>hex ⟨j,hj,e⟩
  have stF:StepR (fun _=>False) (fun _=>0) w (fun _=>False) (fun _=>0) w' :=
   ⟨fun _ _=>rfl,fun _ h=>h,st.size,st.os,st.tape,st.output,fun b hb _=>hkeep b hb,fun _ h=>h.elim⟩
  obtain ⟨hr1,st1⟩:=hr.keep stF
  have hBs:∀ b ∈ Bo,plainCs b.cells = true/\b.lo < 3:=fun b hb=>by
   have:=List.all_eq_true.1 hBo b hb
   simp only [Bool.and_eq_true,Nat.blt_eq] at this
   exact this
  have hKB:∀ t b,hget (Bo.map some) t = some b->hget (W ++ Bo.map some) (W.length + t) = some b:=fun t b hb=>by
   rw [hget_app,if_neg (by omega),Nat.add_sub_cancel_left];exact hb
  have hlB:∀ t b,hget (Bo.map some) t = some b->t < Bo.length/\b ∈ Bo:=fun t b hb=>by
   have h1:=hget_lt hb
   rw [hget_map] at hb
   exact ⟨by simpa using h1,List.mem_of_getElem? hb⟩
  have hokp:∀ b ∈ Bo,Go.Rq.cok (fun _=>False) b.cells:=fun b hb=>zok_of (v:=.agg b.cells) (hBs b hb).1
  have hplv:∀ b ∈ Bo,∀ ρ ρ',cvals ρ b.cells = cvals ρ' b.cells:=fun b hb ρ ρ'=>cvA8 (D:=fun _=>False) (fun _ h=>h.elim) (hokp b hb)
  let σ:Ren:=fun t=>rnm mc ρ' (W.length + t)
  have hLK:∀ t,Lv (Bo.map some) t->Lv (pickH mc s'.h mc) (W.length + t):=fun t ⟨b,hb,hl⟩=>by
   obtain ⟨b0,e1,e2,e3,e4,e5⟩:=q2.at (hKB t b hb)
   exact ⟨b0,e1,by omega⟩
  have rB:RelH σ (Bo.map some) w':=by
   refine ⟨fun t b hb=>cok_mono (fun _ h=>h.elim) (hokp b (hlB t b hb).2),fun t b hb h0=>?_,fun t b hb h1=>?_,fun t b hb=>by have:=(hBs b (hlB t b hb).2).2;omega,fun i j hi hj he=>?_,fun t b hb h3=>?_,fun i j b hi hb h3=>?_⟩
   ·obtain ⟨b0,e1,e2,e3,e4,e5⟩:=q2.at (hKB t b hb)
    have:=rK0.row _ b0 e1 (by omega)
    rw [e2,e3,e4,e5,hplv b (hlB t b hb).2 _ σ] at this
    exact this
   ·obtain ⟨b0,e1,e2,e3,e4,e5⟩:=q2.at (hKB t b hb)
    obtain ⟨⟨cur,g1,g2,g3,g4,g5,g6⟩,g7⟩:=rK0.own _ b0 e1 (by omega)
    have hl:clen b0.cells = clen b.cells:=by rw [<-lcv fun _=>0,<-lcv fun _=>0,e5]
    have hd:=(heapB_spec hBo2 t b hb).2.2 h1
    rw [Nat.zero_add] at hd
    exact ⟨⟨cur,by rw [<-e2];exact g1,by rw [<-e4];exact g2,g3,g4,by rw [<-hl];exact g5,by rw [<-hl,g6,e5,hplv b (hlB t b hb).2 _ σ]⟩,hd⟩
   ·have:=rK0.inj _ _ (hLK i hi) (hLK j hj) he
    omega
   ·have:=(hBs b (hlB t b hb).2).2;omega
   ·have:=(hBs b (hlB j b hb).2).2;omega
  have hwinK:∀ j,Dm W j->∃ b0,hget (pickH mc s'.h mc) j = some b0/\(b0.lo = 3∨b0.lo = 0):=fun j ⟨b,hb⟩=>by
   obtain ⟨b0,e1,e2,e3,e4,e5⟩:=q2.at (hKW j b hb)
   exact ⟨b0,e1,by have:=hW3 j b hb;omega⟩
  have hnotW:∀ t,Lv (Bo.map some) t->∀ j,Dm W j->σ t ≠ ρW j:=fun t ht j hj e=>by
   obtain ⟨b0,e1,e2⟩:=hwinK j hj
   have e':rnm mc ρ' (W.length + t) = rnm mc ρ' j:=by rw [hmcW j (Dm_lt hj)];exact e
   rcases e2 with e2 | e2
   ·exact rK0.sep _ j b0 (hLK t ht) e1 e2 e'
   ·have:=rK0.inj _ _ (hLK t ht) ⟨b0,e1,by omega⟩ e'
    have:=Dm_lt hj
    omega
  have hfr:∀ t,t < Bo.length->Dm (Bo.map some) t->w.heap.size <= σ t∨∃ j,Dm W j/\σ t = ρW j:=fun t ht hd=>by
   have e:=hmcO t ht
   by_cases hdw:Dm W (nthN outs t)
   ·exact .inr ⟨_,hdw,by show rnm mc ρ' (W.length + t) = _;rw [e,st.agree _ hdw]⟩
   ·have hdd:Dm s'.h (nthN outs t):=by
     obtain ⟨b,hb⟩:=hd
     obtain ⟨b0,e1,_⟩:=q2.at (hKB t b hb)
     have:=hsubK0 _ ⟨b0,e1⟩
     rw [<-hmc,nthN_app2 (by rw [lup];omega),lup,Nat.add_sub_cancel_left] at this
     exact this
    rcases st.fresh _ hdd hdw with h3 | ⟨j,h3,h4⟩
    ·exact .inl (by show _ <= rnm mc ρ' (W.length + t);rw [e];exact h3)
    ·exact .inr ⟨j,h3,by show rnm mc ρ' (W.length + t) = _;rw [e,h4]⟩
  have hfrL:∀ t,Lv (Bo.map some) t->w.heap.size <= σ t:=fun t ht=>by
   have hl:t < Bo.length:=by have:=Dm_lt ht.dm;simpa using this
   rcases hfr t hl ht.dm with h1 | ⟨j,h1,h2⟩
   ·exact h1
   ·exact absurd h2 (hnotW t ht j h1)
  let ρ2:Ren:=fun i=>if slot <= i/\i < slot + Bo.length then σ (i - slot) else ρ i
  have hnd:∀ i,Dm h i->¬ (slot <= i/\i < slot + Bo.length):=fun i ⟨b,hb⟩ hi=>by
   have:=(isHole_lt (hho (i - slot) (by omega))).2
   rw [show slot + (i - slot) = i by omega,hb] at this
   cases this
  have hag:Agree (Dm h) ρ ρ2:=fun i hi=>if_neg (hnd i hi)
  have hnew:∀ t,t < Bo.length->ρ2 (slot + t) = σ t:=fun t ht=>by
   show (if _ then _ else _) = _
   rw [if_pos (by omega),Nat.add_sub_cancel_left]
  obtain ⟨rF,hF1,hF2,hF3⟩:=hr1.fill rB (fun b hb=>(hBs b hb).1) (fun b hb=>(hBs b hb).2) hho (fun t ht i b hi hl e=>by
   have h1:=hfrL t ht
   have h2:ρ i < w.heap.size:=by
    by_cases h3:b.lo = 3
    ·exact hr.ltW hi h3
    ·exact hr.lt ⟨b,hi,by have:=hr.few i b hi;omega⟩
   omega) hag hnew
  have hvok:V0.ok (Dm (Bo.map some)):=avB_spec hV
  have hlt:∀ t,Dm (Bo.map some) t->t < Bo.length:=fun t ht=>by have:=Dm_lt ht;simpa using this
  have hstep:StepR (Dm h) ρ w (Dm (fillH h slot Bo)) ρ2 w':=by
   refine ⟨hag,hF1,st.size,st.os,st.tape,st.output,fun b hb _=>hkeep b hb,fun i hi hni=>?_⟩
   obtain ⟨t,rfl,ht⟩:=hF3 i hi hni
   rw [hnew t ht]
   rcases hfr t ht ⟨Bo[t],by rw [hget_map];exact List.getElem?_eq_getElem ht⟩ with h1 | ⟨j,h1,h2⟩
   ·exact .inl h1
   ·obtain ⟨i,hi,e⟩:=hin j h1
    exact .inr ⟨i,hi,by rw [h2,e]⟩
  have:=hnext ρ2 w' hstep rF (mvAV_ok (D:=Dm (Bo.map some)) (fun t ht=>hF2 t (hlt t ht)) hvok)
  have e1:v'.val ρ' = (mvAV slot V0).val ρ2:=by
   rw [<-bkAV_val (ρ:=ρ') hD1 (avB_spec q3b),q4,mvAV_val,mvAV_val]
   exact (AV.val_agree (D:=Dm (Bo.map some)) (ρ:=fun i=>rnm mc ρ' (W.length + i)) (ρ':=fun i=>ρ2 (slot + i)) (fun t ht=>hnew t (hlt t ht)) hvok).symm
  rw [e1]
  exact this
 cases e with
 | normal=>exact fin q
 | ret=>exact fin q
 | exit j=>exact q.elim
 | goto l=>exact q.elim
 | panic ch=>exact q.elim
 | outgrown=>exact q.elim
def eqHs (h:Heap) (P:Prop):Nat->Heap->Prop
 | _,[]=>P
 | i,x :: r=>hget h i = x/\eqHs h P (i + 1) r
def FEndV (T:TT) (fn:Func) (v:AV) (W:Heap):Exit->AS->Prop
 | .normal,s | .ret,s=>eqHs s.h (∃ v',resA T s fn.results.toList = some v'/\vokB v' = true/\∀ ρ,v'.val ρ = v.val ρ) 0 W
 | _,_=>False
def plainH:Heap->Bool
 | []=>true
 | none :: r=>plainH r
 | some b :: r=>plainCs b.cells && plainH r
theorem eqHs_spec {h:Heap} {P:Prop}:∀ {W:Heap} {k:Nat},eqHs h P k W->P/\∀ i,i < W.length->hget h (k + i) = hget W i
 | [],_,e=>⟨e,fun i hi=>absurd hi (Nat.not_lt_zero _)⟩
 | x :: r,k,e=>by
  obtain ⟨h1,h2⟩:=eqHs_spec (W:=r) (k:=k + 1) e.2
  refine ⟨h1,fun i hi=>?_⟩
  cases i with
  | zero=>exact e.1
  | succ i =>
   have:=h2 i (by simpa using hi)
   rw [show k + (i + 1) = k + 1 + i by omega,this];rfl
theorem pick_same {m:List Nat} {h:Heap}:∀ {W:Heap} {k:Nat},plainH W = true->(∀ i,i < W.length->hget h (k + i) = hget W i)->pickH m h (upto k W.length) = W
 | [],_,_,_=>rfl
 | x :: r,k,hp,e=>by
  have h0:=e 0 (by simp)
  simp only [List.length_cons,upto,pickH]
  have hr:plainH r = true:=by
   cases x with
   | none=>exact hp
   | some b=>unfold plainH at hp;simp only [Bool.and_eq_true] at hp;exact hp.2
  rw [pick_same (W:=r) (k:=k + 1) hr fun i hi=>by
   have:=e (i + 1) (by simpa using hi)
   rw [show k + 1 + i = k + (i + 1) by omega,this];rfl]
  congr 1
  rw [Nat.add_zero] at h0
  rw [h0]
  cases x with
  | none=>rfl
  | some b =>
   unfold plainH at hp
   simp only [Bool.and_eq_true] at hp
   show some (bkBlk m b) = some b
   unfold bkBlk
   rw [bkCells_plain hp.1]
theorem mvSc_plain {k:Nat} {s:Sc} (h:zokS s = true):mvSc k s = s:=by
 cases s with
 | fn f caps =>
  cases caps with
  | nil=>rfl
  | cons c r=>cases h
 | pt _ _=>cases h
 | sl _ _ _ _=>cases h
 | so _ _=>cases h
 | sv _ _ _=>cases h
 | _=>rfl
theorem mvCells_plain {k:Nat}:∀ {cs:List Cell},plainCs cs = true->mvCells k cs = cs
 | [],_=>rfl
 | c :: r,h=>by
  unfold plainCs zokB at h
  simp only [List.all_cons,Bool.and_eq_true] at h
  have hr:mvCells k r = r:=mvCells_plain (cs:=r) h.2
  simp only [mvCells,hr]
  congr 1
  cases c with
  | ws _ n f=>rfl
  | one s=>exact congrArg Cell.one (mvSc_plain h.1)
theorem mvV1_plain {k:Nat} {v:V1} (h:zokB v = true):mvV1 k v = v:=by
 cases v with
 | sc s=>exact congrArg V1.sc (mvSc_plain h)
 | agg cs=>exact congrArg V1.agg (mvCells_plain h)
theorem mvAV_plain {k:Nat} {v:AV} (h:vokB v = true):mvAV k v = v:=by
 cases v with
 | v1 v=>exact congrArg AV.v1 (mvV1_plain h)
 | tup l =>
  unfold vokB at h
  have key:∀ l:List V1,l.all zokB = true->mvV1s k l = l:=by
   intro l
   induction l with
   | nil=>intro _;rfl
   | cons v r ih =>
    intro h
    simp only [List.all_cons,Bool.and_eq_true] at h
    simp only [mvV1s,mvV1_plain h.1,ih h.2]
  exact congrArg AV.tup (key l h)
 | raw v=>rfl
theorem simH_refl:∀ W:Heap,SimH W W
 | []=>trivial
 | none :: r=>⟨trivial,simH_refl r⟩
 | some _ :: r=>⟨⟨rfl,rfl,rfl,fun _=>rfl⟩,simH_refl r⟩
theorem rd_view {P:Program} {T:TT} (hT:TTOk P T) {f:FuncId} {fn:Func} (hf:P.funcs[f]? = some fn) (hb:fn.body = some (bodyOf fn)) (hn:(fn.name == "runtime.NumGoroutine") = false)
  {args:List AV} {h:Heap} {v:AV} (hv:vokB v = true)
  (hex:∀ ρ w,RelH ρ h w->∃ (ρW:Ren) (W:Heap) (args':List AV),RelH ρW W w/\(∀ i b,hget W i = some b->b.lo = 3∨b.lo = 0)/\(∀ i,i < W.length->Dm W i)/\(∀ j,Dm W j->∃ i,Dm h i/\ρW j = ρ i) /\
   args'.map (AV.val ρW) = args.map (AV.val ρ)/\args'.all (avB W) = true/\plainH W = true/\chkB (upto 0 W.length) W = true/\heapB W 0 W = true /\
   AWqS P (Dm W) (flatC (bodyOf fn)) (FEndV T fn v W) ⟨frame0 args' fn.ntmps,W⟩):CallOk P f args h v h:=by
 intro ρ w hr _ o a next Q hnext
 obtain ⟨ρW,W,args',rW,hW3,hWd,hin,hav,hab,hpl,hck,hhb,hwalk⟩:=hex ρ w hr
 have hmv:∀ k,mvAV k v = v:=fun k=>mvAV_plain hv
 have hW:upto 0 W.length ++ ([]:List Nat) = upto 0 W.length:=List.append_nil _
 refine view_core hT hf hb hn (args':=args') (W:=W) [] 0 [] v hr rW hW3 hWd hin hav (fun x hx=>avB_spec (List.all_eq_true.1 hab x hx)) rfl rfl (avB_plain hv) rfl (fun t ht=>absurd ht (Nat.not_lt_zero _)) ?_ o a next Q ?_
 ·rw [hW,hmv,List.map_nil,List.append_nil]
  refine hwalk.mono fun e s q=>?_
  have key:eqHs s.h (∃ v',resA T s fn.results.toList = some v'/\vokB v' = true/\∀ ρ,v'.val ρ = v.val ρ) 0 W->chkB (upto 0 W.length) (pickH (upto 0 W.length) s.h (upto 0 W.length)) = true/\heapB (pickH (upto 0 W.length) s.h (upto 0 W.length)) 0 (pickH (upto 0 W.length) s.h (upto 0 W.length)) = true/\SimH (pickH (upto 0 W.length) s.h (upto 0 W.length)) W /\
    ∃ v',resA T s fn.results.toList = some v'/\avB (pickH (upto 0 W.length) s.h (upto 0 W.length)) (bkAV (upto 0 W.length) v') = true/\∀ ρ,(bkAV (upto 0 W.length) v').val ρ = v.val ρ:=by
   intro q
   obtain ⟨⟨v',q2,q3,q4⟩,q5⟩:=eqHs_spec q
   have e:pickH (upto 0 W.length) s.h (upto 0 W.length) = W:=pick_same hpl q5
   rw [e]
   exact ⟨hck,hhb,simH_refl W,v',q2,by rw [bkAV_plain q3];exact avB_plain q3,fun ρ=>by rw [bkAV_plain q3];exact q4 ρ⟩
  cases e with
  | normal=>exact key q
  | ret=>exact key q
  | exit j=>exact q.elim
  | goto l=>exact q.elim
  | panic ch=>exact q.elim
  | outgrown=>exact q.elim
 ·intro ρ' w' h1 h2 h3
  rw [hmv] at h3 ⊢
  exact hnext ρ' w' h1 h2 h3
def SeeB (ρ:Ren) (h:Heap) (w:World) (i:Nat) (x:Option Blk):Prop :=
 ∃ b,x = some b/\plainCs b.cells = true/\((b.lo = 0/\hget h i = some b)∨(b.lo = 3/\(Lv h i∨∃ c,hget h i = some c/\c.lo = 3)/\WinAt ρ i b w))
theorem plain_cvals {cs:List Cell} (hp:plainCs cs = true) (ρ ρ':Ren):cvals ρ cs = cvals ρ' cs :=
 cvA8 (D:=fun _=>False) (fun _ h=>h.elim) (zok_of (v:=.agg cs) hp)
theorem see_rel {ρ:Ren} {h:Heap} {w:World} (hr:RelH ρ h w) {ms:List Nat} {W:Heap} (hl:W.length = ms.length) (hnd:nodupB ms = true) (hs:∀ j,j < W.length->SeeB ρ h w (nthN ms j) (hget W j)) :
  RelH (rnm ms ρ) W w/\(∀ i b,hget W i = some b->b.lo = 3∨b.lo = 0)/\(∀ i,i < W.length->Dm W i)/\(∀ j,Dm W j->∃ i,Dm h i/\rnm ms ρ j = ρ i):=by
 have get:∀ j b,hget W j = some b->j < ms.length/\plainCs b.cells = true/\((b.lo = 0/\hget h (nthN ms j) = some b)∨(b.lo = 3/\(Lv h (nthN ms j)∨∃ c,hget h (nthN ms j) = some c/\c.lo = 3)/\WinAt ρ (nthN ms j) b w)):=fun j b hb=>by
  have hj:=hget_lt hb
  obtain ⟨c,e,h1,h2⟩:=hs j hj
  rw [hb] at e
  cases e
  exact ⟨by omega,h1,h2⟩
 have live:∀ i,Lv W i->i < ms.length/\Lv h (nthN ms i):=fun i ⟨b,hb,hbl⟩=>by
  obtain ⟨h1,h2,h3⟩:=get i b hb
  refine ⟨h1,?_⟩
  rcases h3 with ⟨h3,h4⟩ | ⟨h3,_⟩
  ·exact ⟨b,h4,hbl⟩
  ·omega
 refine ⟨⟨fun j b hb=>?_,fun j b hb h0=>?_,fun j b hb h1=>?_,fun j b hb=>?_,fun i j hi hj he=>?_,fun j b hb h3=>?_,fun i j b hi hb h3 he=>?_⟩,fun j b hb=>?_,fun i hi=>?_,fun j ⟨b,hb⟩=>?_⟩
 ·exact cok_mono (fun _ h=>h.elim) (zok_of (v:=.agg b.cells) (get j b hb).2.1)
 ·obtain ⟨_,h1,h2⟩:=get j b hb
  rcases h2 with ⟨_,h3⟩ | ⟨h3,_⟩
  ·rw [plain_cvals h1 (rnm ms ρ) ρ];exact hr.row _ b h3 h0
  ·omega
 ·obtain ⟨_,_,h2⟩:=get j b hb
  omega
 ·obtain ⟨_,_,h2⟩:=get j b hb
  omega
 ·obtain ⟨h1,h2⟩:=live i hi
  obtain ⟨h3,h4⟩:=live j hj
  exact nodupB_spec hnd i j h1 h3 (hr.inj _ _ h2 h4 he)
 ·obtain ⟨_,h1,h2⟩:=get j b hb
  rcases h2 with ⟨h2,_⟩ | ⟨_,_,arr,fr,a1,a2,a3⟩
  ·omega
  ·refine ⟨arr,fr,a1,?_,?_⟩
   ·rw [plain_cvals h1 (rnm ms ρ) ρ];exact a2
   ·rw [plain_cvals h1 (rnm ms ρ) ρ];exact a3
 ·obtain ⟨h1,h2⟩:=live i hi
  obtain ⟨k1,k2,k3⟩:=get j b hb
  rcases k3 with ⟨k3,_⟩ | ⟨_,hl | ⟨c,hc,h4⟩,_⟩
  ·omega
  ·have:=nodupB_spec hnd i j h1 k1 (hr.inj _ _ h2 hl he)
   subst this
   obtain ⟨b',hb',hl'⟩:=hi
   rw [hb] at hb';cases hb';omega
  ·exact hr.sep _ _ c h2 hc h4 he
 ·obtain ⟨_,_,h2⟩:=get j b hb
  omega
 ·obtain ⟨b,e,_⟩:=hs i hi
  exact ⟨b,e⟩
 ·obtain ⟨_,_,h2⟩:=get j b hb
  refine ⟨nthN ms j,?_,rfl⟩
  rcases h2 with ⟨_,h3⟩ | ⟨_,⟨c,h3,_⟩ | ⟨c,h3,_⟩,_⟩
  ·exact ⟨b,h3⟩
  ·exact ⟨c,h3⟩
  ·exact ⟨c,h3⟩
theorem see_row {ρ:Ren} {h:Heap} {w:World} {i:Nat} {b:Blk} (hb:hget h i = some b) (h0:b.lo = 0) (hp:plainCs b.cells = true):SeeB ρ h w i (some b):=⟨b,rfl,hp,.inl ⟨h0,hb⟩⟩
end Go.Rq
namespace Go.Proofs.YtnjocbcjejpklaaGreat
open Go.Rq Go
set_option maxRecDepth 100000
set_option maxHeartbeats 4000000
def endR2 (a b:AV):Prop:=∃ v',some a = some v'/\vokB v' = true/\∀ ρ,v'.val ρ = b.val ρ
theorem keepS {h:Heap} {s i:Nat} {b:Blk} (hs:isHole h s = true) (hi:Dm h i):hget (hset h s b) i = hget h i :=
 hgN fun e=>by
  obtain ⟨c,hc⟩:=hi
  rw [e,(isHole_lt hs).2] at hc;cases hc
theorem endR2_z:endR2 (.tup [v12 fz fz fz fz fz fz fz fz fz fz fz fz,.sc (.it 5)]) (.tup [n12 0,.sc (.it 5)]):=by
 refine ⟨_,rfl,rfl,fun ρ=>?_⟩
 have h3:(v12 fz fz fz fz fz fz fz fz fz fz fz fz).val ρ = (n12 0).val ρ:=v12_val z0V z0V z0V z0V z0V z0V z0V z0V z0V z0V z0V z0V ρ
 simp only [AV.val,List.map_cons,List.map_nil,h3]
def GPr:Ctx:=ctxL [(16,.pure cIn1),(17,.pure cIn2),(67,.pure (c12 one12)),(60,.pure (k122 S12.mul)),(68,.pure cWalk),(43,.pure (k121 lastS)),(42,.pure cFrom12)]
theorem GPr_ok:CtxOk Tryz.prog GPr:=cxC okIn1 <| cxC okIn2 <| cxC okOne12 <| cxC okMul12 <| cxC okWalk <| cxC okLast <| cxC okFrom12 cxN
theorem pr_no1 {b c:Nat} (hbc:Nat.beq b c = false) {px py x0 x1 y0 y3:Nat->Nat} {z z2:Bool} {y1 y2:TypeId} {h:Heap} (g1:hget h b = some ⟨y1,[q6 px,q6 py,.one (.bo z)],0,0⟩) (g2:hget h c = some ⟨y2,[q6 x0,q6 x1,q6 y0,q6 y3,.one (.bo z2)],0,0⟩) (h1:(lo1 px py && isE px py z) = false) :
  CallOk Tryz.prog 28 ([] ++ [.v1 (.sc (.sl b 0 1 1)),.v1 (.sc (.sl c 0 1 1))]) h (.tup [n12 0,.sc (.it 5)]) h:=by
 refine rd_sl2 tK Tryz.func28 (by kernel_rfl) (by kernel_rfl) hbc (x:=⟨y1,[q6 px,q6 py,.one (.bo z)],0,0⟩) (y:=⟨y2,[q6 x0,q6 x1,q6 y0,q6 y3,.one (.bo z2)],0,0⟩) rfl rfl rfl rfl rfl rfl g1 g2 ?_
 refine eSq mxd tK GPr_ok 200 [⟨6,5,.lit (.bo true)⟩] ?_
 refine same (p:=(!(lo1 px py && isE px py z)) = true/\(some ⟨y1,[q6 px,q6 py,.one (.bo z)],0,0⟩:Option Blk) = some ⟨y1,[q6 px,q6 py,.one (.bo z)],0,0⟩/\(some ⟨y2,[q6 x0,q6 x1,q6 y0,q6 y3,.one (.bo z2)],0,0⟩:Option Blk) = some ⟨y2,[q6 x0,q6 x1,q6 y0,q6 y3,.one (.bo z2)],0,0⟩/\endR2 (.tup [v12 fz fz fz fz fz fz fz fz fz fz fz fz,.sc (.it 5)]) (.tup [n12 0,.sc (.it 5)])) ?_ (by kernel_rfl)
 exact ⟨by rw [h1];rfl,rfl,rfl,endR2_z⟩
theorem pr_no2 {b c:Nat} (hbc:Nat.beq b c = false) {px py x0 x1 y0 y3:Nat->Nat} {z z2:Bool} {y1 y2:TypeId} {h:Heap} (g1:hget h b = some ⟨y1,[q6 px,q6 py,.one (.bo z)],0,0⟩) (g2:hget h c = some ⟨y2,[q6 x0,q6 x1,q6 y0,q6 y3,.one (.bo z2)],0,0⟩) (h1:(lo1 px py && isE px py z) = true) (h2:(lo2 x0 x1 y0 y3 && isQ x0 x1 y0 y3 z2) = false) :
  CallOk Tryz.prog 28 ([] ++ [.v1 (.sc (.sl b 0 1 1)),.v1 (.sc (.sl c 0 1 1))]) h (.tup [n12 0,.sc (.it 5)]) h:=by
 refine rd_sl2 tK Tryz.func28 (by kernel_rfl) (by kernel_rfl) hbc (x:=⟨y1,[q6 px,q6 py,.one (.bo z)],0,0⟩) (y:=⟨y2,[q6 x0,q6 x1,q6 y0,q6 y3,.one (.bo z2)],0,0⟩) rfl rfl rfl rfl rfl rfl g1 g2 ?_
 refine eSq mxd tK GPr_ok 200 [⟨6,5,.lit (.bo false)⟩,⟨6,12,.lit (.bo true)⟩] ?_
 refine same (p:=(!(lo1 px py && isE px py z)) = false/\(!(lo2 x0 x1 y0 y3 && isQ x0 x1 y0 y3 z2)) = true/\(some ⟨y1,[q6 px,q6 py,.one (.bo z)],0,0⟩:Option Blk) = some ⟨y1,[q6 px,q6 py,.one (.bo z)],0,0⟩/\(some ⟨y2,[q6 x0,q6 x1,q6 y0,q6 y3,.one (.bo z2)],0,0⟩:Option Blk) = some ⟨y2,[q6 x0,q6 x1,q6 y0,q6 y3,.one (.bo z2)],0,0⟩/\endR2 (.tup [v12 fz fz fz fz fz fz fz fz fz fz fz fz,.sc (.it 5)]) (.tup [n12 0,.sc (.it 5)])) ?_ (by kernel_rfl)
 exact ⟨by rw [h1];rfl,by rw [h2];rfl,rfl,rfl,endR2_z⟩
theorem d12_one:(d12 oneF fz fz fz fz fz fz fz fz fz fz fz) = 1:=S12.one_d
theorem endPR {s t:S12} {j:Int} (h:t = s):endR2 (.tup [v12 (vF (dF (eF t.p.u.x))) (vF (dF (eF t.p.u.y))) (vF (dF (eF t.q.u.x))) (vF (dF (eF t.q.u.y))) (vF (dF (eF t.p.v.x))) (vF (dF (eF t.p.v.y))) (vF (dF (eF t.q.v.x))) (vF (dF (eF t.q.v.y))) (vF (dF (eF t.p.w.x))) (vF (dF (eF t.p.w.y))) (vF (dF (eF t.q.w.x))) (vF (dF (eF t.q.w.y))),.sc (.it j)]) (.tup [n12 s,.sc (.it j)]):=by
 subst h
 refine ⟨_,rfl,rfl,fun ρ=>?_⟩
 have:=v12_val (nvV (qE t.p.u.x)) (nvV (qE t.p.u.y)) (nvV (qE t.q.u.x)) (nvV (qE t.q.u.y)) (nvV (qE t.p.v.x)) (nvV (qE t.p.v.y)) (nvV (qE t.q.v.x)) (nvV (qE t.q.v.y)) (nvV (qE t.p.w.x)) (nvV (qE t.p.w.y)) (nvV (qE t.q.w.x)) (nvV (qE t.q.w.y)) ρ
 simp only [AV.val,List.map_cons,List.map_nil,this]
abbrev vwB (w:S12):S12:=(d12e (w))
abbrev vwM (w:S12):S12:=S12.mul (d12 oneF fz fz fz fz fz fz fz fz fz fz fz) (vwB w)
abbrev vwC (w:S12):S12:=(d12e (vwM w))
theorem one_w (w:S12):lastS (vwC w) = lastS w:=by
 have h:vwM w = w:=by
  show S12.mul (d12 oneF fz fz fz fz fz fz fz fz fz fz fz) (vwB w) = w
  rw [show vwB w = w from d12_eF w,d12_one]
  exact Rg.one_mul w
 rw [show vwC w = vwM w from d12_eF (vwM w),h]
theorem pr_z1 {b c:Nat} (hbc:Nat.beq b c = false) {px py x0 x1 y0 y3:Nat->Nat} {z z2:Bool} {y1 y2:TypeId} {h:Heap} (g1:hget h b = some ⟨y1,[q6 px,q6 py,.one (.bo true)],0,0⟩) (g2:hget h c = some ⟨y2,[q6 x0,q6 x1,q6 y0,q6 y3,.one (.bo z2)],0,0⟩) (h1:(lo1 px py && isE px py true) = true) (h2:(lo2 x0 x1 y0 y3 && isQ x0 x1 y0 y3 z2) = true) :
  CallOk Tryz.prog 28 ([] ++ [.v1 (.sc (.sl b 0 1 1)),.v1 (.sc (.sl c 0 1 1))]) h (.tup [n12 (lastS 1),.sc (.it 0)]) h:=by
 refine rd_sl2 tK Tryz.func28 (by kernel_rfl) (by kernel_rfl) hbc (x:=⟨y1,[q6 px,q6 py,.one (.bo true)],0,0⟩) (y:=⟨y2,[q6 x0,q6 x1,q6 y0,q6 y3,.one (.bo z2)],0,0⟩) rfl rfl rfl rfl rfl rfl g1 g2 ?_
 refine eSq mxd tK GPr_ok 200 [⟨6,5,.lit (.bo false)⟩,⟨6,12,.lit (.bo false)⟩] ?_
 refine same (p:=(!(lo1 px py && isE px py true)) = false/\(!(lo2 x0 x1 y0 y3 && isQ x0 x1 y0 y3 z2)) = false/\lp oneF/\lp fz/\lp fz/\lp fz/\lp fz/\lp fz/\lp fz/\lp fz/\lp fz/\lp fz/\lp fz/\lp fz/\eL12 (lastS (d12 oneF fz fz fz fz fz fz fz fz fz fz fz)) ((some ⟨y1,[q6 px,q6 py,.one (.bo true)],0,0⟩:Option Blk) = some ⟨y1,[q6 px,q6 py,.one (.bo true)],0,0⟩/\(some ⟨y2,[q6 x0,q6 x1,q6 y0,q6 y3,.one (.bo z2)],0,0⟩:Option Blk) = some ⟨y2,[q6 x0,q6 x1,q6 y0,q6 y3,.one (.bo z2)],0,0⟩/\endR2 (.tup [v12 (vF (dF (eF (lastS (d12 oneF fz fz fz fz fz fz fz fz fz fz fz)).p.u.x))) (vF (dF (eF (lastS (d12 oneF fz fz fz fz fz fz fz fz fz fz fz)).p.u.y))) (vF (dF (eF (lastS (d12 oneF fz fz fz fz fz fz fz fz fz fz fz)).q.u.x))) (vF (dF (eF (lastS (d12 oneF fz fz fz fz fz fz fz fz fz fz fz)).q.u.y))) (vF (dF (eF (lastS (d12 oneF fz fz fz fz fz fz fz fz fz fz fz)).p.v.x))) (vF (dF (eF (lastS (d12 oneF fz fz fz fz fz fz fz fz fz fz fz)).p.v.y))) (vF (dF (eF (lastS (d12 oneF fz fz fz fz fz fz fz fz fz fz fz)).q.v.x))) (vF (dF (eF (lastS (d12 oneF fz fz fz fz fz fz fz fz fz fz fz)).q.v.y))) (vF (dF (eF (lastS (d12 oneF fz fz fz fz fz fz fz fz fz fz fz)).p.w.x))) (vF (dF (eF (lastS (d12 oneF fz fz fz fz fz fz fz fz fz fz fz)).p.w.y))) (vF (dF (eF (lastS (d12 oneF fz fz fz fz fz fz fz fz fz fz fz)).q.w.x))) (vF (dF (eF (lastS (d12 oneF fz fz fz fz fz fz fz fz fz fz fz)).q.w.y))),.sc (.it 0)]) (.tup [n12 (lastS 1),.sc (.it 0)]))) ?_ (by kernel_rfl)
 exact ⟨by rw [h1];rfl,by rw [h2];rfl,lt_one,l0Z,l0Z,l0Z,l0Z,l0Z,l0Z,l0Z,l0Z,l0Z,l0Z,l0Z,lE _,lE _,lE _,lE _,lE _,lE _,lE _,lE _,lE _,lE _,lE _,lE _,rfl,rfl,endPR (by rw [d12_one])⟩
theorem pr_z2 {b c:Nat} (hbc:Nat.beq b c = false) {px py x0 x1 y0 y3:Nat->Nat} {z z2:Bool} {y1 y2:TypeId} {h:Heap} (g1:hget h b = some ⟨y1,[q6 px,q6 py,.one (.bo false)],0,0⟩) (g2:hget h c = some ⟨y2,[q6 x0,q6 x1,q6 y0,q6 y3,.one (.bo true)],0,0⟩) (h1:(lo1 px py && isE px py false) = true) (h2:(lo2 x0 x1 y0 y3 && isQ x0 x1 y0 y3 true) = true) :
  CallOk Tryz.prog 28 ([] ++ [.v1 (.sc (.sl b 0 1 1)),.v1 (.sc (.sl c 0 1 1))]) h (.tup [n12 (lastS 1),.sc (.it 0)]) h:=by
 refine rd_sl2 tK Tryz.func28 (by kernel_rfl) (by kernel_rfl) hbc (x:=⟨y1,[q6 px,q6 py,.one (.bo false)],0,0⟩) (y:=⟨y2,[q6 x0,q6 x1,q6 y0,q6 y3,.one (.bo true)],0,0⟩) rfl rfl rfl rfl rfl rfl g1 g2 ?_
 refine eSq mxd tK GPr_ok 200 [⟨6,5,.lit (.bo false)⟩,⟨6,12,.lit (.bo false)⟩] ?_
 refine same (p:=(!(lo1 px py && isE px py false)) = false/\(!(lo2 x0 x1 y0 y3 && isQ x0 x1 y0 y3 true)) = false/\lp oneF/\lp fz/\lp fz/\lp fz/\lp fz/\lp fz/\lp fz/\lp fz/\lp fz/\lp fz/\lp fz/\lp fz/\eL12 (lastS (d12 oneF fz fz fz fz fz fz fz fz fz fz fz)) ((some ⟨y1,[q6 px,q6 py,.one (.bo false)],0,0⟩:Option Blk) = some ⟨y1,[q6 px,q6 py,.one (.bo false)],0,0⟩/\(some ⟨y2,[q6 x0,q6 x1,q6 y0,q6 y3,.one (.bo true)],0,0⟩:Option Blk) = some ⟨y2,[q6 x0,q6 x1,q6 y0,q6 y3,.one (.bo true)],0,0⟩/\endR2 (.tup [v12 (vF (dF (eF (lastS (d12 oneF fz fz fz fz fz fz fz fz fz fz fz)).p.u.x))) (vF (dF (eF (lastS (d12 oneF fz fz fz fz fz fz fz fz fz fz fz)).p.u.y))) (vF (dF (eF (lastS (d12 oneF fz fz fz fz fz fz fz fz fz fz fz)).q.u.x))) (vF (dF (eF (lastS (d12 oneF fz fz fz fz fz fz fz fz fz fz fz)).q.u.y))) (vF (dF (eF (lastS (d12 oneF fz fz fz fz fz fz fz fz fz fz fz)).p.v.x))) (vF (dF (eF (lastS (d12 oneF fz fz fz fz fz fz fz fz fz fz fz)).p.v.y))) (vF (dF (eF (lastS (d12 oneF fz fz fz fz fz fz fz fz fz fz fz)).q.v.x))) (vF (dF (eF (lastS (d12 oneF fz fz fz fz fz fz fz fz fz fz fz)).q.v.y))) (vF (dF (eF (lastS (d12 oneF fz fz fz fz fz fz fz fz fz fz fz)).p.w.x))) (vF (dF (eF (lastS (d12 oneF fz fz fz fz fz fz fz fz fz fz fz)).p.w.y))) (vF (dF (eF (lastS (d12 oneF fz fz fz fz fz fz fz fz fz fz fz)).q.w.x))) (vF (dF (eF (lastS (d12 oneF fz fz fz fz fz fz fz fz fz fz fz)).q.w.y))),.sc (.it 0)]) (.tup [n12 (lastS 1),.sc (.it 0)]))) ?_ (by kernel_rfl)
 exact ⟨by rw [h1];rfl,by rw [h2];rfl,lt_one,l0Z,l0Z,l0Z,l0Z,l0Z,l0Z,l0Z,l0Z,l0Z,l0Z,l0Z,lE _,lE _,lE _,lE _,lE _,lE _,lE _,lE _,lE _,lE _,lE _,lE _,rfl,rfl,endPR (by rw [d12_one])⟩
theorem pr_in {b c:Nat} (hbc:Nat.beq b c = false) {px py x0 x1 y0 y3:Nat->Nat} {z z2:Bool} {y1 y2:TypeId} {h:Heap} (g1:hget h b = some ⟨y1,[q6 px,q6 py,.one (.bo false)],0,0⟩) (g2:hget h c = some ⟨y2,[q6 x0,q6 x1,q6 y0,q6 y3,.one (.bo false)],0,0⟩) (h1:(lo1 px py && isE px py false) = true) (h2:(lo2 x0 x1 y0 y3 && isQ x0 x1 y0 y3 false) = true) :
  CallOk Tryz.prog 28 ([] ++ [.v1 (.sc (.sl b 0 1 1)),.v1 (.sc (.sl c 0 1 1))]) h (.tup [n12 (lastS (walkS (gN px) (gN py) ⟨gN x0,gN x1⟩ ⟨gN y0,gN y3⟩)),.sc (.it 0)]) h:=by
 refine rd_sl2 tK Tryz.func28 (by kernel_rfl) (by kernel_rfl) hbc (x:=⟨y1,[q6 px,q6 py,.one (.bo false)],0,0⟩) (y:=⟨y2,[q6 x0,q6 x1,q6 y0,q6 y3,.one (.bo false)],0,0⟩) rfl rfl rfl rfl rfl rfl g1 g2 ?_
 refine eSq mxd tK GPr_ok 200 [⟨6,5,.lit (.bo false)⟩,⟨6,12,.lit (.bo false)⟩] ?_
 refine same (p:=(!(lo1 px py && isE px py false)) = false/\(!(lo2 x0 x1 y0 y3 && isQ x0 x1 y0 y3 false)) = false/\lp oneF/\lp fz/\lp fz/\lp fz/\lp fz/\lp fz/\lp fz/\lp fz/\lp fz/\lp fz/\lp fz/\lp fz/\eL12 (walkS (gN px) (gN py) ⟨gN x0,gN x1⟩ ⟨gN y0,gN y3⟩) (eL12 (vwM (walkS (gN px) (gN py) ⟨gN x0,gN x1⟩ ⟨gN y0,gN y3⟩)) (eL12 (lastS (vwC (walkS (gN px) (gN py) ⟨gN x0,gN x1⟩ ⟨gN y0,gN y3⟩))) ((some ⟨y1,[q6 px,q6 py,.one (.bo false)],0,0⟩:Option Blk) = some ⟨y1,[q6 px,q6 py,.one (.bo false)],0,0⟩/\(some ⟨y2,[q6 x0,q6 x1,q6 y0,q6 y3,.one (.bo false)],0,0⟩:Option Blk) = some ⟨y2,[q6 x0,q6 x1,q6 y0,q6 y3,.one (.bo false)],0,0⟩/\endR2 (.tup [v12 (vF (dF (eF (lastS (vwC (walkS (gN px) (gN py) ⟨gN x0,gN x1⟩ ⟨gN y0,gN y3⟩))).p.u.x))) (vF (dF (eF (lastS (vwC (walkS (gN px) (gN py) ⟨gN x0,gN x1⟩ ⟨gN y0,gN y3⟩))).p.u.y))) (vF (dF (eF (lastS (vwC (walkS (gN px) (gN py) ⟨gN x0,gN x1⟩ ⟨gN y0,gN y3⟩))).q.u.x))) (vF (dF (eF (lastS (vwC (walkS (gN px) (gN py) ⟨gN x0,gN x1⟩ ⟨gN y0,gN y3⟩))).q.u.y))) (vF (dF (eF (lastS (vwC (walkS (gN px) (gN py) ⟨gN x0,gN x1⟩ ⟨gN y0,gN y3⟩))).p.v.x))) (vF (dF (eF (lastS (vwC (walkS (gN px) (gN py) ⟨gN x0,gN x1⟩ ⟨gN y0,gN y3⟩))).p.v.y))) (vF (dF (eF (lastS (vwC (walkS (gN px) (gN py) ⟨gN x0,gN x1⟩ ⟨gN y0,gN y3⟩))).q.v.x))) (vF (dF (eF (lastS (vwC (walkS (gN px) (gN py) ⟨gN x0,gN x1⟩ ⟨gN y0,gN y3⟩))).q.v.y))) (vF (dF (eF (lastS (vwC (walkS (gN px) (gN py) ⟨gN x0,gN x1⟩ ⟨gN y0,gN y3⟩))).p.w.x))) (vF (dF (eF (lastS (vwC (walkS (gN px) (gN py) ⟨gN x0,gN x1⟩ ⟨gN y0,gN y3⟩))).p.w.y))) (vF (dF (eF (lastS (vwC (walkS (gN px) (gN py) ⟨gN x0,gN x1⟩ ⟨gN y0,gN y3⟩))).q.w.x))) (vF (dF (eF (lastS (vwC (walkS (gN px) (gN py) ⟨gN x0,gN x1⟩ ⟨gN y0,gN y3⟩))).q.w.y))),.sc (.it 0)]) (.tup [n12 (lastS (walkS (gN px) (gN py) ⟨gN x0,gN x1⟩ ⟨gN y0,gN y3⟩)),.sc (.it 0)]))))) ?_ (by kernel_rfl)
 exact ⟨by rw [h1];rfl,by rw [h2];rfl,lt_one,l0Z,l0Z,l0Z,l0Z,l0Z,l0Z,l0Z,l0Z,l0Z,l0Z,l0Z,lE _,lE _,lE _,lE _,lE _,lE _,lE _,lE _,lE _,lE _,lE _,lE _,lE _,lE _,lE _,lE _,lE _,lE _,lE _,lE _,lE _,lE _,lE _,lE _,lE _,lE _,lE _,lE _,lE _,lE _,lE _,lE _,lE _,lE _,lE _,lE _,rfl,rfl,endPR (one_w _)⟩
def prB (px py x0 x1 y0 y3:Nat->Nat) (z z2:Bool):Bool:=(lo1 px py && isE px py z) && (lo2 x0 x1 y0 y3 && isQ x0 x1 y0 y3 z2)
def prS (px py x0 x1 y0 y3:Nat->Nat) (z z2:Bool):S12:=bif prB px py x0 x1 y0 y3 z z2 then (bif z || z2 then lastS 1 else lastS (walkS (gN px) (gN py) ⟨gN x0,gN x1⟩ ⟨gN y0,gN y3⟩)) else 0
def prI (px py x0 x1 y0 y3:Nat->Nat) (z z2:Bool):Int:=bif prB px py x0 x1 y0 y3 z z2 then 0 else 5
def prV (px py x0 x1 y0 y3:Nat->Nat) (z z2:Bool):AV:=.tup [n12 (prS px py x0 x1 y0 y3 z z2),.sc (.it (prI px py x0 x1 y0 y3 z z2))]
def cPrs:List AV->Heap->Option (List Prop × AV)
 | [.v1 (.sc (.sl b 0 1 1)),.v1 (.sc (.sl c 0 1 1))],h=>match Nat.beq b c,hget h b,hget h c with
  | false,some ⟨_,[.ws .u64 6 px,.ws .u64 6 py,.one (.bo z)],0,0⟩,some ⟨_,[.ws .u64 6 x0,.ws .u64 6 x1,.ws .u64 6 y0,.ws .u64 6 y3,.one (.bo z2)],0,0⟩=>some ([],prV px py x0 x1 y0 y3 z z2)
  | _,_,_=>none
 | _,_=>none
theorem okPrs:(CallC.rd cPrs).Ok Tryz.prog 28:=by
 refine ⟨fun args h pre v e hp=>?_,fun args h slot blk hs ha=>?_⟩
 ·unfold cPrs at e
  split at e
  ·rename_i b c
   split at e
   ·rename_i y1 px py z y2 x0 x1 y0 y3 z2 h0 g1 g2
    cases e
    show CallOk Tryz.prog 28 ([] ++ [.v1 (.sc (.sl b 0 1 1)),.v1 (.sc (.sl c 0 1 1))]) h (prV px py x0 x1 y0 y3 z z2) h
    unfold prV prS prI prB
    cases h1:(lo1 px py && isE px py z)
    ·exact pr_no1 h0 g1 g2 h1
    ·cases h2:(lo2 x0 x1 y0 y3 && isQ x0 x1 y0 y3 z2)
     ·exact pr_no2 h0 g1 g2 h1 h2
     ·cases z
      ·cases z2
       ·exact pr_in (z:=false) (z2:=false) h0 g1 g2 h1 h2
       ·exact pr_z2 (z:=false) (z2:=true) h0 g1 g2 h1 h2
      ·exact pr_z1 (z:=true) h0 g1 g2 h1 h2
   ·cases e
  ·cases e
 ·unfold cPrs
  split
  ·rename_i b c
   rw [keepS hs (ha (.v1 (.sc (.sl b 0 1 1))) (by simp)),keepS hs (ha (.v1 (.sc (.sl c 0 1 1))) (by simp))]
  ·rfl
def GPir:Ctx:=ctxL [(28,.rd cPrs)]
theorem GPir_ok:CtxOk Tryz.prog GPir:=cxC okPrs cxN
def cPair:List AV->Option (List Prop × AV)
 | [.v1 (.agg [.ws .u64 6 px,.ws .u64 6 py,.one (.bo z)]),.v1 (.agg [.ws .u64 6 x0,.ws .u64 6 x1,.ws .u64 6 y0,.ws .u64 6 y3,.one (.bo z2)])]=>some ([],prV px py x0 x1 y0 y3 z z2)
 | _=>none
theorem okPair:(CallC.pure cPair).Ok Tryz.prog 7:=by
 intro args pre v e hp
 unfold cPair at e
 split at e
 rotate_left
 ·cases e
 rename_i px py z x0 x1 y0 y3 z2
 cases e
 refine pWk tK Tryz.func7 (by kernel_rfl) (by kernel_rfl) (by rfl) (by rfl) ?_
 refine eSq mxd tK GPir_ok 60 [] (same (p:=endN (prV px py x0 x1 y0 y3 z z2) (prV px py x0 x1 y0 y3 z z2)) ?_ (by kernel_rfl))
 exact ⟨_,rfl,fun _=>rfl⟩
open EC
def ptE (x y:Nat->Nat) (z:Bool):Option (Fp × Fp):=A2.pt (⟨gN x,gN y,z⟩:A2 Fp)
def ptQ (x0 x1 y0 y1:Nat->Nat) (z:Bool):Option (F2p × F2p):=A2.pt (⟨⟨gN x0,gN x1⟩,⟨gN y0,gN y1⟩,z⟩:A2 F2p)
def G1s (P:Option (Fp × Fp)):Prop:=EF.on P/\EF.mul rO P = none
theorem inE_spec {x y:Nat->Nat} {z:Bool} (h:(lo1 x y && isE x y z) = true):lo1 x y = true/\G1s (ptE x y z)/\(⟨gN x,gN y,z⟩:A2 Fp) = A2.of (ptE x y z):=by
 rw [Bool.and_eq_true] at h
 obtain ⟨h1,h2,h3⟩:=(isIn_E _).1 h.2
 exact ⟨h.1,⟨h1,h2⟩,h3⟩
theorem inQ_spec {x0 x1 y0 y1:Nat->Nat} {z:Bool} (h:(lo2 x0 x1 y0 y1 && isQ x0 x1 y0 y1 z) = true):lo2 x0 x1 y0 y1 = true/\G2s (ptQ x0 x1 y0 y1 z)/\(⟨⟨gN x0,gN x1⟩,⟨gN y0,gN y1⟩,z⟩:A2 F2p) = A2.of (ptQ x0 x1 y0 y1 z):=by
 rw [Bool.and_eq_true] at h
 obtain ⟨h1,h2⟩:=(isIn_Q _).1 h.2
 exact ⟨h.1,h1,h2⟩
theorem lastS_1:lastS 1 = 1:=last_conj one_ne conj_1
theorem onE_of {x y:Nat->Nat} {z:Bool} (h:G1s (ptE x y z)) (e:(⟨gN x,gN y,z⟩:A2 Fp) = A2.of (ptE x y z)):A2.on fourE (⟨gN x,gN y,z⟩:A2 Fp) = true:=by
 rw [fourE_b]
 exact (A2.on_pt EF rfl).2 ⟨h.1,e⟩
theorem onQ_of {x0 x1 y0 y1:Nat->Nat} {z:Bool} (h:G2s (ptQ x0 x1 y0 y1 z)) (e:(⟨⟨gN x0,gN x1⟩,⟨gN y0,gN y1⟩,z⟩:A2 F2p) = A2.of (ptQ x0 x1 y0 y1 z)):A2.on fourQ (⟨⟨gN x0,gN x1⟩,⟨gN y0,gN y1⟩,z⟩:A2 F2p) = true:=by
 rw [fourQ_b]
 exact (A2.on_pt ET rfl).2 ⟨h.1,e⟩
end Go.Proofs.YtnjocbcjejpklaaGreat
namespace Go.Rq
open Go
abbrev emS (o:Option Addr):AV:=.v1 (.sc (.rw (.slice o 0 0)))
abbrev WrapV:=Array Value × (Nat × Nat)
abbrev wB (t off N:Nat) (f:Nat->Nat) (v:WrapV):Option Blk:=some ⟨t,[.ws .u8 N f,.one (.rw (wrapB v.1 v.2))],3,off⟩
def vw (h:Heap):AV->Option (Nat × (Nat->Nat) × List Prop)
 | .v1 (.sc (.rw (.slice _ 0 0)))=>some (0,fun _=>0,[])
 | .v1 (.sc (.sl b off n _))=>match hget h b with
  | some ⟨_,[.ws .u8 N f],0,_⟩=>some (n,fun j=>f (addN off j),[off + n <= N])
  | some ⟨_,[.ws .u8 N f,.one (.rw _)],3,hi⟩=>some (n,fun j=>f ((off - hi) + j),[hi <= off,(off - hi) + n <= N])
  | _=>none
 | .v1 (.sc (.so b n))=>match hget h b with
  | some ⟨_,[.ws .u8 N f],1,1⟩=>some (n,f,[n <= N])
  | _=>none
 | _=>none
def vwc (h:Heap):AV->Option (Nat × Nat × (Nat->Nat) × List Prop)
 | .v1 (.sc (.sl b off n c))=>match hget h b with
  | some ⟨_,[.ws .u8 N f],0,_⟩=>some (n,c,fun j=>f (addN off j),[off + c <= N])
  | some ⟨_,[.ws .u8 N f,.one (.rw _)],3,hi⟩=>some (n,c,fun j=>f ((off - hi) + j),[hi <= off,(off - hi) + c <= N])
  | _=>none
 | _=>none
structure WinD where
 B:Nat
 t:TypeId
 off:Nat
 n:Nat
 cap:Nat
 N:Nat
 f:Nat->Nat
 arr:Array Value
 fr:Nat × Nat
def WinD.blk (d:WinD):Option Blk:=wB d.t d.off d.N d.f (d.arr,d.fr)
def WinD.val (d:WinD):Value:=.slice (some ⟨d.B,d.off,none⟩) d.n d.cap
structure WinD.Good (d:WinD) (w:World):Prop where
 row:w.heap[d.B]? = some (.cells d.arr d.t d.fr)
 cells:∀ j,j < d.N->d.arr[d.off + j]? = some (.int .u8 (Int.ofNat (d.f j % 256)))
theorem vals_ws8 (ρ:Ren) (N:Nat) (f:Nat->Nat) (r:List Cell) {j:Nat} (hj:j < N):(cvals ρ (.ws .u8 N f :: r))[j]? = some (.int .u8 (Int.ofNat (f j % 256))):=by
 simp only [cvals,Cell.vals,M]
 rw [List.getElem?_append_left (by simpa using hj)]
 simp [hj]
inductive Sh where
 | pl (v:AV)
 | vs (n:Nat) (f:Nat->Nat)
 | vc (n c:Nat) (f:Nat->Nat)
def Sh.Sem (w:World) (R:Nat->Prop):Sh->Value->Prop
 | .pl v,x=>vokB v = true/\x = v.val fun _=>0
 | .vs n f,x=>(n = 0/\∃ o,x = .slice o 0 0)∨∃ d:WinD,d.Good w/\R d.B/\d.n = n/\d.N = n/\d.f = f/\x = d.val
 | .vc n c f,x=>∃ d:WinD,d.Good w/\R d.B/\d.n = n/\d.N = c/\d.cap = c/\d.f = f/\x = d.val
def Sems (w:World) (R:Nat->Prop):List Sh->List Value->Prop
 | [],[]=>True
 | a :: r,x :: s=>a.Sem w R x/\Sems w R r s
 | _,_=>False
theorem blk_good {ρ:Ren} {h:Heap} {w:World} (hr:RelH ρ h w) {b:Nat} {blk:Blk} (hb:hget h b = some blk) :
  (∀ t N g hi off n c,blk = ⟨t,[.ws .u8 N g],0,hi⟩->off + n <= N->∀ m,WinD.Good ⟨ρ b,t,off,m,c,n,fun j=>g (addN off j),(cvals ρ [.ws .u8 N g]).toArray,(0,hi)⟩ w) /\
  (∀ t N g v hi off n c,blk = ⟨t,[.ws .u8 N g,.one (.rw v)],3,hi⟩->hi <= off->(off - hi) + n <= N->∀ m,∃ arr fr,WinD.Good ⟨ρ b,t,off,m,c,n,fun j=>g ((off - hi) + j),arr,fr⟩ w) /\
  (∀ t N g n c,blk = ⟨t,[.ws .u8 N g],1,1⟩->n <= N->∀ m,∃ arr fr,WinD.Good ⟨ρ b,t,0,m,c,n,g,arr,fr⟩ w):=by
 refine ⟨fun t N g hi off n c e hle m=>?_,fun t N g v hi off n c e h1 h2 m=>?_,fun t N g n c e hle m=>?_⟩
 ·subst e
  refine ⟨hr.row b _ hb rfl,fun j hj=>?_⟩
  have hj:j < n:=hj
  show (cvals ρ [.ws .u8 N g]).toArray[off + j]? = _
  rw [List.getElem?_toArray,vals_ws8 ρ N g [] (by omega)]
  simp only [addN_eq]
 ·subst e
  obtain ⟨arr,fr,w1,w2,w3⟩:=hr.win b _ hb rfl
  refine ⟨arr,fr,w1,fun j hj=>?_⟩
  have hj:j < n:=hj
  have h3:=w3 ((off - hi) + j) (by simp [cvals,Cell.vals];omega)
  rw [vals_ws8 ρ N g _ (by omega)] at h3
  rw [show off + j = hi + (off - hi + j) by omega]
  exact h3
 ·subst e
  obtain ⟨⟨cur,g1,g2,g3,g4,g5,g6⟩,_⟩:=hr.own b _ hb rfl
  refine ⟨cur,(0,0),g1,fun j hj=>?_⟩
  have hj:j < n:=hj
  have h3:=vals_ws8 ρ N g [] (show j < N by omega)
  rw [<-g6] at h3
  rw [List.getElem?_take_of_lt (by simp [clen,Cell.len];omega)] at h3
  rw [Nat.zero_add,<-Array.getElem?_toList]
  exact h3
theorem vw_sem {ρ:Ren} {h:Heap} {w:World} (hr:RelH ρ h w) {x:AV} {n:Nat} {f:Nat->Nat} {pre:List Prop} (e:vw h x = some (n,f,pre)) (hp:∀ p ∈ pre,p) :
  (Sh.vs n f).Sem w (fun B=>∃ i,Dm h i/\B = ρ i) (x.val ρ):=by
 unfold vw at e
 split at e
 ·cases e;exact .inl ⟨rfl,_,rfl⟩
 ·rename_i b off n' c
  split at e
  ·rename_i t N g hi hb
   cases e
   exact .inr ⟨_,(blk_good hr hb).1 t N g hi off n c rfl (hp _ (List.mem_cons_self ..)) n,⟨b,⟨_,hb⟩,rfl⟩,rfl,rfl,rfl,rfl⟩
  ·rename_i t N g v hi hb
   cases e
   obtain ⟨arr,fr,hd⟩:=(blk_good hr hb).2.1 t N g v hi off n c rfl (hp _ (List.mem_cons_self ..)) (hp _ (List.mem_cons_of_mem _ (List.mem_cons_self ..))) n
   exact .inr ⟨_,hd,⟨b,⟨_,hb⟩,rfl⟩,rfl,rfl,rfl,rfl⟩
  ·cases e
 ·rename_i b n'
  split at e
  ·rename_i t N g hb
   cases e
   obtain ⟨arr,fr,hd⟩:=(blk_good hr hb).2.2 t N _ n (ρ (b + 1) - ρ b) rfl (hp _ (List.mem_cons_self ..)) n
   exact .inr ⟨_,hd,⟨b,⟨_,hb⟩,rfl⟩,rfl,rfl,rfl,rfl⟩
  ·cases e
 ·cases e
theorem vwc_sem {ρ:Ren} {h:Heap} {w:World} (hr:RelH ρ h w) {x:AV} {n c:Nat} {f:Nat->Nat} {pre:List Prop} (e:vwc h x = some (n,c,f,pre)) (hp:∀ p ∈ pre,p) :
  (Sh.vc n c f).Sem w (fun B=>∃ i,Dm h i/\B = ρ i) (x.val ρ):=by
 unfold vwc at e
 split at e
 ·rename_i b off n' c'
  split at e
  ·rename_i t N g hi hb
   cases e
   exact ⟨_,(blk_good hr hb).1 t N g hi off c c rfl (hp _ (List.mem_cons_self ..)) n,⟨b,⟨_,hb⟩,rfl⟩,rfl,rfl,rfl,rfl,rfl⟩
  ·rename_i t N g v hi hb
   cases e
   obtain ⟨arr,fr,hd⟩:=(blk_good hr hb).2.1 t N g v hi off c c rfl (hp _ (List.mem_cons_self ..)) (hp _ (List.mem_cons_of_mem _ (List.mem_cons_self ..))) n
   exact ⟨_,hd,⟨b,⟨_,hb⟩,rfl⟩,rfl,rfl,rfl,rfl,rfl⟩
  ·cases e
 ·cases e
def winH (l:List WinD):Heap:=l.map WinD.blk
theorem hget_winH:∀ {l:List WinD} {i:Nat} {b:Blk},hget (winH l) i = some b->∃ d,d ∈ l/\nthN (l.map (·.B)) i = d.B/\some b = d.blk
 | [],_,_,h=>by simp [winH,hget] at h
 | d :: _,0,_,h=>⟨d,List.mem_cons_self ..,rfl,by simpa [winH,hget] using h.symm⟩
 | _ :: r,i + 1,_,h=>by
  obtain ⟨d,h1,h2,h3⟩:=hget_winH (l:=r) (i:=i) (by simpa [winH,hget] using h)
  exact ⟨d,List.mem_cons_of_mem _ h1,h2,h3⟩
theorem dm_winH:∀ {l:List WinD} {i:Nat},i < l.length->Dm (winH l) i
 | d :: _,0,_=>⟨_,rfl⟩
 | _ :: r,i + 1,h=>by
  obtain ⟨b,hb⟩:=dm_winH (l:=r) (i:=i) (by simpa using h)
  exact ⟨b,hb⟩
theorem RelH.wins {w:World} {l:List WinD} (h:∀ d ∈ l,d.Good w):RelH (nthN (l.map (·.B))) (winH l) w:=by
 have h3:∀ i b,hget (winH l) i = some b->b.lo = 3:=fun i b hb=>by
  obtain ⟨d,_,_,e⟩:=hget_winH hb
  cases e;rfl
 refine ⟨fun i b hb=>?_,fun i b hb h0=>?_,fun i b hb h1=>?_,fun i b hb=>?_,fun i j hi=>?_,fun i b hb _=>?_,fun i j b hi=>?_⟩
 ·obtain ⟨d,_,_,e⟩:=hget_winH hb
  cases e
  intro c hc
  rcases List.mem_cons.1 hc with rfl | hc
  ·trivial
  ·rcases List.mem_cons.1 hc with rfl | hc
   ·rfl
   ·cases hc
 ·have:=h3 i b hb;omega
 ·have:=h3 i b hb;omega
 ·have:=h3 i b hb;omega
 ·obtain ⟨b,hb,hl⟩:=hi
  have:=h3 i b hb;omega
 ·obtain ⟨d,hd,e1,e⟩:=hget_winH hb
  cases e
  have hg:=h d hd
  refine ⟨d.arr,d.fr,by rw [e1];exact hg.row,?_,fun j hj=>?_⟩
  ·simp [cvals,Cell.vals,Sc.val]
  ·have hj:j < d.N:=by simpa [cvals,Cell.vals] using hj
   rw [vals_ws8 _ d.N d.f _ hj]
   exact hg.cells j hj
 ·obtain ⟨b,hb,hl⟩:=hi
  have:=h3 i b hb;omega
inductive Inst:List Sh->Nat->List AV->Heap->Prop
 | nil {k:Nat}:Inst [] k [] []
 | pl {v:AV} {r:List Sh} {k:Nat} {a:List AV} {W:Heap}:Inst r k a W->Inst (.pl v :: r) k (v :: a) W
 | vn {n:Nat} {f:Nat->Nat} {r:List Sh} {k:Nat} {a:List AV} {W:Heap} (o:Option Addr):n = 0->Inst r k a W->Inst (.vs n f :: r) k (emS o :: a) W
 | vv {n:Nat} {f:Nat->Nat} {r:List Sh} {k:Nat} {a:List AV} {W:Heap} (t off c:Nat) (v:WrapV):Inst r (k + 1) a W->Inst (.vs n f :: r) k (.v1 (.sc (.sl k off n c)) :: a) (wB t off n f v :: W)
 | cv {n c:Nat} {f:Nat->Nat} {r:List Sh} {k:Nat} {a:List AV} {W:Heap} (t off:Nat) (v:WrapV):Inst r (k + 1) a W->Inst (.vc n c f :: r) k (.v1 (.sc (.sl k off n c)) :: a) (wB t off c f v :: W)
theorem inst_of {w:World} {R:Nat->Prop}:∀ {l:List Sh} {xs:List Value},Sems w R l xs->∀ k,∃ a ds,Inst l k a (winH ds)/\(∀ d ∈ ds,d.Good w/\R d.B)/\(∀ x ∈ a,x.ok (fun i=>k <= i/\i < k + ds.length)) /\
  ∀ σ:Ren,(∀ j,j < ds.length->σ (k + j) = nthN (ds.map (·.B)) j)->a.map (AV.val σ) = xs
 | [],[],_,k=>⟨[],[],.nil,fun d hd=>(by cases hd),fun x hx=>(by cases hx),fun _ _=>rfl⟩
 | [],_ :: _,h,k=>h.elim
 | _ :: _,[],h,k=>h.elim
 | a0 :: r,x0 :: xs,hg,k=>by
  have one:∀ (a:List AV) (ds:List WinD) (d:WinD),(∀ d ∈ ds,d.Good w/\R d.B)->d.Good w->R d.B->(∀ x ∈ a,x.ok (fun i=>k + 1 <= i/\i < k + 1 + ds.length)) ->
    (∀ σ:Ren,(∀ j,j < ds.length->σ (k + 1 + j) = nthN (ds.map (·.B)) j)->a.map (AV.val σ) = xs) ->
    (∀ e ∈ d :: ds,e.Good w/\R e.B)/\(∀ x ∈ (AV.v1 (.sc (.sl k d.off d.n d.cap)) :: a),x.ok (fun i=>k <= i/\i < k + (d :: ds).length)) /\
    ∀ σ:Ren,(∀ j,j < (d :: ds).length->σ (k + j) = nthN ((d :: ds).map (·.B)) j)->(AV.v1 (.sc (.sl k d.off d.n d.cap)) :: a).map (AV.val σ) = d.val :: xs:=by
   intro a ds d h2 hd hR h3 h4
   refine ⟨fun e he=>?_,fun x hx=>?_,fun σ hσ=>?_⟩
   ·rcases List.mem_cons.1 he with rfl | he
    ·exact ⟨hd,hR⟩
    ·exact h2 e he
   ·rcases List.mem_cons.1 hx with rfl | hx
    ·exact ⟨Nat.le_refl _,by simp⟩
    ·exact AV.ok_mono (fun i hi=>⟨by omega,by simp only [List.length_cons];omega⟩) (h3 x hx)
   ·simp only [List.map_cons]
    rw [h4 σ fun j hj=>by
     have:=hσ (j + 1) (by simpa using hj)
     rw [show k + 1 + j = k + (j + 1) by omega,this];rfl]
    have:=hσ 0 (by simp)
    rw [Nat.add_zero] at this
    simp only [AV.val,V1.val,Sc.val,WinD.val,this,List.map_cons,nthN]
  cases a0 with
  | pl v =>
   obtain ⟨a,ds,h1,h2,h3,h4⟩:=inst_of (l:=r) (xs:=xs) hg.2 k
   obtain ⟨hv,rfl⟩:=hg.1
   refine ⟨v :: a,ds,.pl h1,h2,fun x hx=>?_,fun σ hσ=>?_⟩
   ·rcases List.mem_cons.1 hx with rfl | hx
    ·exact AV.ok_mono (fun _ h=>h.elim) (vok_of hv)
    ·exact h3 x hx
   ·simp only [List.map_cons]
    rw [h4 σ hσ,AV.val_agree (D:=fun _=>False) (ρ:=fun _=>0) (ρ':=σ) (fun _ h=>h.elim) (vok_of hv)]
  | vs n f =>
   rcases hg.1 with ⟨rfl,o,rfl⟩ | ⟨d,hd,hR,rfl,hN,rfl,rfl⟩
   ·obtain ⟨a,ds,h1,h2,h3,h4⟩:=inst_of (l:=r) (xs:=xs) hg.2 k
    refine ⟨emS o :: a,ds,.vn o rfl h1,h2,fun x hx=>?_,fun σ hσ=>?_⟩
    ·rcases List.mem_cons.1 hx with rfl | hx
     ·rfl
     ·exact h3 x hx
    ·simp only [List.map_cons]
     rw [h4 σ hσ];rfl
   ·obtain ⟨a,ds,h1,h2,h3,h4⟩:=inst_of (l:=r) (xs:=xs) hg.2 (k + 1)
    obtain ⟨k1,k2,k3⟩:=one a ds d h2 hd hR h3 h4
    refine ⟨_,d :: ds,?_,k1,k2,k3⟩
    have:=Inst.vv (n:=d.n) (f:=d.f) d.t d.off d.cap (d.arr,d.fr) h1
    rw [<-hN] at this ⊢
    simp only [winH,List.map_cons,WinD.blk]
    rw [hN] at this ⊢
    exact this
  | vc n c f =>
   obtain ⟨d,hd,hR,rfl,hN,hc,rfl,rfl⟩:=hg.1
   obtain ⟨a,ds,h1,h2,h3,h4⟩:=inst_of (l:=r) (xs:=xs) hg.2 (k + 1)
   obtain ⟨k1,k2,k3⟩:=one a ds d h2 hd hR h3 h4
   refine ⟨_,d :: ds,?_,k1,k2,k3⟩
   have:=Inst.cv (n:=d.n) (c:=c) (f:=d.f) d.t d.off (d.arr,d.fr) h1
   simp only [winH,List.map_cons,WinD.blk]
   rw [hN,hc]
   exact this
def VaOk (h:Heap):Sh->AV->Prop
 | .pl v,x=>x = v/\vokB v = true
 | .vs n f,x=>∃ pre,vw h x = some (n,f,pre)/\∀ p ∈ pre,p
 | .vc n c f,x=>∃ pre,vwc h x = some (n,c,f,pre)/\∀ p ∈ pre,p
def VasOk (h:Heap):List Sh->List AV->Prop
 | [],[]=>True
 | a :: r,x :: s=>VaOk h a x/\VasOk h r s
 | _,_=>False
theorem sems_of {ρ:Ren} {h:Heap} {w:World} (hr:RelH ρ h w):∀ {l:List Sh} {xs:List AV},VasOk h l xs->Sems w (fun B=>∃ i,Dm h i/\B = ρ i) l (xs.map (AV.val ρ))
 | [],[],_=>trivial
 | [],_ :: _,h=>h.elim
 | _ :: _,[],h=>h.elim
 | a :: r,x :: s,h=>by
  refine ⟨?_,sems_of hr h.2⟩
  have h1:=h.1
  cases a with
  | pl v=>obtain ⟨rfl,hv⟩:=h1;exact ⟨hv,AV.val_agree (D:=fun _=>False) (ρ:=fun _=>0) (ρ':=ρ) (fun _ h=>h.elim) (vok_of hv)⟩
  | vs n f=>obtain ⟨pre,e,hp⟩:=h1;exact vw_sem hr e hp
  | vc n c f=>obtain ⟨pre,e,hp⟩:=h1;exact vwc_sem hr e hp
theorem views_call {P:Program} {T:TT} (hT:TTOk P T) {f:FuncId} {fn:Func} (hf:P.funcs[f]? = some fn) (hb:fn.body = some (bodyOf fn)) (hn:(fn.name == "runtime.NumGoroutine") = false)
  (l:List Sh) {args:List AV} {h:Heap} (hg:VasOk h l args) (slot:Nat) (Bo:List Blk) (V0:AV)
  (hBo:Bo.all (fun b=>plainCs b.cells && Nat.blt b.lo 3) = true) (hBo2:heapB (Bo.map some) 0 (Bo.map some) = true) (hV:avB (Bo.map some) V0 = true)
  (hho:∀ t,t < Bo.length->isHole h (slot + t) = true)
  (hwalk:∀ a W,Inst l 0 a W->∃ outs:List Nat,outs.length = Bo.length/\AWqS P (Dm W) (flatC (bodyOf fn)) (FEndM T fn (upto 0 W.length ++ outs) (mvAV W.length V0) (W ++ Bo.map some)) ⟨frame0 a fn.ntmps,W⟩) :
  CallOk P f args h (mvAV slot V0) (fillH h slot Bo):=by
 intro ρ w hr _ o a next Q hnext
 obtain ⟨a',ds,h1,h2,h3,h4⟩:=inst_of (sems_of hr hg) 0
 obtain ⟨outs,h5,h6⟩:=hwalk a' (winH ds) h1
 have hlen:(winH ds).length = ds.length:=by simp [winH]
 refine view_core hT hf hb hn outs slot Bo V0 hr (RelH.wins fun d hd=>(h2 d hd).1) (fun i b hb=>?_) (fun i hi=>dm_winH (by omega)) (fun j hj=>?_)
  (h4 _ fun j hj=>by rw [Nat.zero_add]) (fun x hx=>AV.ok_mono (fun i hi=>dm_winH (by omega)) (h3 x hx)) hBo hBo2 hV h5 hho h6 o a next Q hnext
 ·obtain ⟨d,_,_,e⟩:=hget_winH hb
  cases e;exact .inl rfl
 ·obtain ⟨b,hb⟩:=hj
  obtain ⟨d,hd,e1,_⟩:=hget_winH hb
  obtain ⟨i,hi,e2⟩:=(h2 d hd).2
  exact ⟨i,hi,by rw [e1,e2]⟩
theorem new_of {P:Program} {f:FuncId} {C:List AV->Heap->Nat->Option (List Prop × AV × Heap)} (h:(CallC.mem C).Ok P f)
  (hk:∀ args h slot pre v h',C args h slot = some (pre,v,h')->∀ i,Dm h i->hget h' i = hget h i):(CallC.new C).Ok P f:=⟨h,hk⟩
theorem keep_hset {h:Heap} {s i:Nat} {b:Blk} (hs:isHole h s = true) (hi:Dm h i):hget (hset h s b) i = hget h i :=
 hgN fun e=>by
  obtain ⟨c,hc⟩:=hi
  rw [e,(isHole_lt hs).2] at hc;cases hc
end Go.Rq
namespace Go.Proofs.YtnjocbcjejpklaaGreat
open Go.Rq Go
set_option maxRecDepth 100000
abbrev endK (mc:List Nat) (K' K:Heap) (v vK:AV):Prop:=true = true/\true = true/\SimH K' K/\∃ v',some v = some v'/\avB K' (bkAV mc v') = true/\∀ ρ,(bkAV mc v').val ρ = vK.val ρ
set_option maxHeartbeats 4000000
def timesM (m:F2p->F2p->F2p) (P:J3 F2p):Nat->Nat->J3 F2p
 | 0,_=>⟨0,0,0⟩
 | k + 1,n=>if n % 2 = 1 then addM m (dblM m (timesM m P k (n / 2))) P else dblM m (timesM m P k (n / 2))
theorem wbit (f:Nat->Nat) {i:Nat} (h:i < 384):(f (i / 64) % W / 2 ^ min (i % 64) 64 &&& 1) % W = nv f / 2 ^ i % 2:=by
 have h1:min (i % 64) 64 = i % 64:=by omega
 rw [h1,Nat.and_one_is_mod,bit_nv f i h]
 exact Nat.mod_eq_of_lt (Nat.lt_of_lt_of_le (Nat.mod_lt _ (by decide)) (by decide))
abbrev nw (g:Nat->Nat->Nat) (o:Bool):List Cell:=[q6 (g 0),q6 (g 1),q6 (g 2),q6 (g 3),q6 (g 4),q6 (g 5),.one (.bo o)]
def JW (g:Nat->Nat->Nat):J3 F2p:=⟨g2 (g 0) (g 1),g2 (g 2) (g 3),g2 (g 4) (g 5)⟩
def sW (J:J3 F2p):Nat->Nat->Nat:=of6 (vF J.x.x) (vF J.x.y) (vF J.y.x) (vF J.y.y) (vF J.z.x) (vF J.z.y)
theorem JW_s (J:J3 F2p):JW (sW J) = J:=by
 show (⟨g2 (vF J.x.x) (vF J.x.y),g2 (vF J.y.x) (vF J.y.y),g2 (vF J.z.x) (vF J.z.y)⟩:J3 F2p) = J
 rw [g2V,g2V,g2V]
theorem LtWq (J:J3 F2p):LtQ (sW J):=⟨lV _,lV _,lV _,lV _,lV _,lV _⟩
theorem cvW {g:Nat->Nat->Nat} {J:J3 F2p} {o:Bool} (hl:LtQ g) (h:JW g = J):∀ ρ:Ren,cvals ρ (nw g o) = cvals ρ (nw (sW J) o) :=
 cv2i hl.1 hl.2.1 (congrArg J3.x h) (cv2i hl.2.2.1 hl.2.2.2.1 (congrArg J3.y h) (cv2i hl.2.2.2.2.1 hl.2.2.2.2.2 (congrArg J3.z h) (cv_one cv_nil)))
def mlC:List AV->Heap->Option (List Prop × AV)
 | [.v1 (.agg [.ws .u64 6 x0,.ws .u64 6 x1,.ws .u64 6 y0,.ws .u64 6 y1,.ws .u64 6 z0,.ws .u64 6 z1,.one (.bo o)]),.v1 (.sc (.sl b 0 4 6))],h=>match hget h b with
  | some ⟨_,[.ws .u64 6 f],0,_⟩=>some ([nv x0 < pN,nv x1 < pN,nv y0 < pN,nv y1 < pN,nv z0 < pN,nv z1 < pN],.v1 (n3 (timesM (tM o) (⟨g2 x0 x1,g2 y0 y1,g2 z0 z1⟩:J3 F2p) 256 (nv f)) o))
  | _=>none
 | _,_=>none
def GQ3:Ctx:=ctxL [(179,.pure dbC),(180,.pure adC)]
theorem GQ3_ok:CtxOk Tryz.prog GQ3:=cxC okDb <| cxC okAd4 cxN
abbrev Vml (k:Nat):List AV:=[.v1 (.sc (.sl 0 0 4 6)),pt 1 0,pt 2 0,pt 3 0,iv (predI k)]
abbrev Hml (t:TypeId) (hi:Nat) (f x0 x1 y0 y1 z0 z1:Nat->Nat) (o:Bool) (g:Nat->Nat->Nat):Heap:=[some ⟨t,[q6 f],0,hi⟩,some ⟨173,[q6 x0,q6 x1,q6 y0,q6 y1,q6 z0,q6 z1,.one (.bo o)],0,0⟩,some ⟨173,[q6 fz,q6 fz,q6 fz,q6 fz,q6 fz,q6 fz,.one (.bo false)],0,0⟩,some ⟨173,nw g o,0,0⟩]
def Iml (m:F2p->F2p->F2p) (P:J3 F2p) (n:Nat) (x:Nat × (Nat->Nat->Nat)):Prop:=x.1 <= 256/\LtQ x.2/\JW x.2 = timesM m P (256 - x.1) (n / 2 ^ x.1)
theorem rd_pre1 {P:Program} {T:TT} (hT:TTOk P T) {f:FuncId} {fn:Func} (hf:P.funcs[f]? = some fn) (hb:fn.body = some (bodyOf fn)) (hn:(fn.name == "runtime.NumGoroutine") = false)
  {pre:List AV} {h:Heap} {v:AV} (hv:vokB v = true) (hpre:pre.all vokB = true) {b n m:Nat} {x:Blk} (hgb:hget h b = some x) (lx:x.lo = 0) (hx:plainCs x.cells = true)
  (hwalk:AWqS P (Dm [some x]) (flatC (bodyOf fn)) (FEndV T fn v [some x]) ⟨frame0 (pre ++ [.v1 (.sc (.sl 0 0 n m))]) fn.ntmps,[some x]⟩) :
  CallOk P f (pre ++ [.v1 (.sc (.sl b 0 n m))]) h v h:=by
 refine rd_view hT hf hb hn hv fun ρ w hr=>?_
 obtain ⟨r1,r2,r3,r4⟩:=see_rel hr (ms:=[b]) (W:=[some x]) rfl rfl fun j hj=>by
  match j,hj with
  | 0,_=>exact see_row hgb lx hx
 refine ⟨_,_,pre ++ [.v1 (.sc (.sl 0 0 n m))],r1,r2,r3,r4,?_,?_,?_,?_,?_,hwalk⟩
 ·rw [List.map_append,List.map_append]
  congr 1
  refine List.map_congr_left fun x hx=>?_
  exact AV.val_agree (D:=fun _=>False) (fun _ h=>h.elim) (vok_of (List.all_eq_true.1 hpre x hx))
 ·rw [List.all_append,Bool.and_eq_true]
  exact ⟨List.all_eq_true.2 fun x hx=>avB_plain (List.all_eq_true.1 hpre x hx),rfl⟩
 ·show (plainCs x.cells && true) = true
  rw [hx];rfl
 ·show (nodupB [0] && (nextB [0] _ && _)) = true
  unfold nextB
  rw [lx]
  rfl
 ·show (cellsB _ x.cells && (ownB _ _ x.lo && true)) = true
  rw [cellsB_plain hx,lx]
  rfl
theorem ml_walk {x0 x1 y0 y1 z0 z1 f:Nat->Nat} {o:Bool} {t:TypeId} {hi:Nat} (hx0:nv x0 < pN) (hx1:nv x1 < pN) (hy0:nv y0 < pN) (hy1:nv y1 < pN) (hz0:nv z0 < pN) (hz1:nv z1 < pN) :
  AWqS Tryz.prog (Dm [some ⟨t,[q6 f],0,hi⟩]) (flatC (bodyOf Tryz.f139)) (FEndV tt Tryz.f139 (.v1 (n3 (timesM (tM o) (⟨g2 x0 x1,g2 y0 y1,g2 z0 z1⟩:J3 F2p) 256 (nv f)) o)) [some ⟨t,[q6 f],0,hi⟩]) ⟨frame0 ([.v1 (.agg [q6 x0,q6 x1,q6 y0,q6 y1,q6 z0,q6 z1,.one (.bo o)])] ++ [.v1 (.sc (.sl 0 0 4 6))]) (Tryz.f139).ntmps,[some ⟨t,[q6 f],0,hi⟩]⟩:=by
 generalize hP:(⟨g2 x0 x1,g2 y0 y1,g2 z0 z1⟩:J3 F2p) = P
 refine loopF mxd tK GQ3_ok (by kernel_rfl) (ι:={x_ // Iml (tM o) P (nv f) x_}) [1,2,4,5,6] 34 4 (fun x_=>Vml x_.1.1) (fun x_=>Hml t hi f x0 x1 y0 y1 z0 z1 o x_.1.2) (fun x_=>x_.1.1) (fun x_=>x_.1.1 = 0)
  (fun _=>rfl) (fun _=>by kernel_rfl) (fun i j h=>by
   have:=Dm_lt h
   simp at this
   subst this
   exact ⟨_,rfl⟩) 60 [] ?_ ?_ ?_
 ·refine same (p:=true = true/\∃ j:{x_ // Iml (tM o) P (nv f) x_},Vml 256 = Vml j.1.1/\Hml t hi f x0 x1 y0 y1 z0 z1 o (fun _ _=>0) = Hml t hi f x0 x1 y0 y1 z0 z1 o j.1.2) ?_ (by kernel_rfl)
  refine ⟨rfl,⟨(256,fun _ _=>0),Nat.le_refl _,⟨l0Z,l0Z,l0Z,l0Z,l0Z,l0Z⟩,?_⟩,rfl,rfl⟩
  show (⟨g2 fz fz,g2 fz fz,g2 fz fz⟩:J3 F2p) = ⟨0,0,0⟩
  rw [g2_z]
 ·intro ⟨⟨k,g⟩,hk,hg,hv⟩ junk
  simp only at hk hv
  have hg:LtQ g:=hg
  cases k with
  | zero =>
   refine rQ mxd tK GQ3_ok 60 [] ?_
   refine same (p:=true = true/\∃ j:{x_ // Iml (tM o) P (nv f) x_},j.1.1 = 0/\Vml 0 = Vml j.1.1/\Hml t hi f x0 x1 y0 y1 z0 z1 o g = Hml t hi f x0 x1 y0 y1 z0 z1 o j.1.2) ?_ (by kernel_rfl)
   exact ⟨rfl,⟨(0,g),hk,hg,hv⟩,rfl,rfl,rfl⟩
  | succ k =>
   have hs:wrapI (Int.ofNat k - 1) = predI k:=predI_eq (by omega)
   have hhalf:nv f / 2 ^ k / 2 = nv f / 2 ^ (k + 1):=by rw [Nat.div_div_eq_div_mul,Nat.pow_succ]
   have hnext:256 - k = (256 - (k + 1)) + 1:=by omega
   have h4:k / 64 < 4:=by omega
   have next:∀ J:J3 F2p,J = timesM (tM o) P (256 - k) (nv f / 2 ^ k)->∃ j:{x_ // Iml (tM o) P (nv f) x_},j.1.1 < k + 1/\Vml k = Vml j.1.1/\Hml t hi f x0 x1 y0 y1 z0 z1 o (sW J) = Hml t hi f x0 x1 y0 y1 z0 z1 o j.1.2 :=
    fun J h'=>⟨⟨(k,sW J),by simp only;omega,LtWq J,by simp only;rw [JW_s,h']⟩,by simp only;omega,rfl,rfl⟩
   have hbit:nv f / 2 ^ k % 2 = 0∨nv f / 2 ^ k % 2 = 1:=by omega
   rcases hbit with h0 | h0
   ·refine rQ mxd tK GQ3_ok 60 [⟨3,1,.lit (.bo true)⟩,⟨6,2,.lit (.it (Int.ofNat (k / 64)))⟩,⟨6,3,.sym⟩,⟨6,4,.sym⟩,⟨6,6,.lit (.it (Int.ofNat (k % 64)))⟩,⟨6,9,.lit (.bo false)⟩,⟨4,1,.lit (.it (predI k))⟩] ?_
    refine same (p:=(!ilt (Int.ofNat k) 0) = true/\lp (g 0)/\lp (g 1)/\lp (g 2)/\lp (g 3)/\lp (g 4)/\lp (g 5)/\wrapI ((Int.ofNat k).tdiv 64) = Int.ofNat (k / 64)/\0 <= Int.ofNat (k / 64)/\Int.ofNat (k / 64) < (4:Int)/\k / 64 < 6/\(Int.ofNat k).tmod 64 = Int.ofNat (k % 64)/\Nat.beq ((f (k / 64) % W / 2 ^ min (k % 64) 64 &&& 1) % W) 1 = false/\wrapI (Int.ofNat k - 1) = predI k/\true = true /\
     ∃ j:{x_ // Iml (tM o) P (nv f) x_},j.1.1 < k + 1/\Vml k = Vml j.1.1/\Hml t hi f x0 x1 y0 y1 z0 z1 o (sW (dblM (tM o) (JW g))) = Hml t hi f x0 x1 y0 y1 z0 z1 o j.1.2) ?_ (by kernel_rfl)
    refine ⟨ilt_nn2 k,hg.1,hg.2.1,hg.2.2.1,hg.2.2.2.1,hg.2.2.2.2.1,hg.2.2.2.2.2,tdiv64 ⟨k,by omega⟩,Int.natCast_nonneg _,by simp only [Int.ofNat_eq_natCast];omega,by omega,tmod64 ⟨k,by omega⟩,by rw [wbit f (by omega),h0];rfl,hs,rfl,next _ ?_⟩
    rw [hnext,timesM,if_neg (by omega),hhalf,hv]
   ·refine rQ mxd tK GQ3_ok 60 [⟨3,1,.lit (.bo true)⟩,⟨6,2,.lit (.it (Int.ofNat (k / 64)))⟩,⟨6,3,.sym⟩,⟨6,4,.sym⟩,⟨6,6,.lit (.it (Int.ofNat (k % 64)))⟩,⟨6,9,.lit (.bo true)⟩,⟨4,1,.lit (.it (predI k))⟩] ?_
    refine same (p:=(!ilt (Int.ofNat k) 0) = true/\lp (g 0)/\lp (g 1)/\lp (g 2)/\lp (g 3)/\lp (g 4)/\lp (g 5)/\wrapI ((Int.ofNat k).tdiv 64) = Int.ofNat (k / 64)/\0 <= Int.ofNat (k / 64)/\Int.ofNat (k / 64) < (4:Int)/\k / 64 < 6/\(Int.ofNat k).tmod 64 = Int.ofNat (k % 64)/\Nat.beq ((f (k / 64) % W / 2 ^ min (k % 64) 64 &&& 1) % W) 1 = true /\
     nv (sW (dblM (tM o) (JW g)) 0) < pN/\lp (sW (dblM (tM o) (JW g)) 1)/\lp (sW (dblM (tM o) (JW g)) 2)/\lp (sW (dblM (tM o) (JW g)) 3)/\lp (sW (dblM (tM o) (JW g)) 4)/\lp (sW (dblM (tM o) (JW g)) 5)/\lp x0/\lp x1/\lp y0/\lp y1/\lp z0/\lp z1/\o = o /\
     wrapI (Int.ofNat k - 1) = predI k/\true = true /\
     ∃ j:{x_ // Iml (tM o) P (nv f) x_},j.1.1 < k + 1/\Vml k = Vml j.1.1/\Hml t hi f x0 x1 y0 y1 z0 z1 o (sW (addM (tM o) (JW (sW (dblM (tM o) (JW g)))) (⟨g2 x0 x1,g2 y0 y1,g2 z0 z1⟩:J3 F2p))) = Hml t hi f x0 x1 y0 y1 z0 z1 o j.1.2) ?_ (by kernel_rfl)
    refine ⟨ilt_nn2 k,hg.1,hg.2.1,hg.2.2.1,hg.2.2.2.1,hg.2.2.2.2.1,hg.2.2.2.2.2,tdiv64 ⟨k,by omega⟩,Int.natCast_nonneg _,by simp only [Int.ofNat_eq_natCast];omega,by omega,tmod64 ⟨k,by omega⟩,by rw [wbit f (by omega),h0];rfl,lV _,lV _,lV _,lV _,lV _,lV _,hx0,hx1,hy0,hy1,hz0,hz1,rfl,hs,rfl,next _ ?_⟩
    rw [JW_s,hnext,timesM,if_pos h0,hhalf,hv,hP]
 ·intro ⟨⟨k,g⟩,hk,hg,hv⟩ junk h0
  simp only at hk hv h0
  have hg:LtQ g:=hg
  subst h0
  rw [Nat.sub_zero,Nat.pow_zero,Nat.div_one] at hv
  refine same (p:=(some ⟨t,[q6 f],0,hi⟩:Option Blk) = some ⟨t,[q6 f],0,hi⟩/\endR2 (.v1 (.agg (nw g o))) (.v1 (n3 (timesM (tM o) P 256 (nv f)) o))) ?_ (by kernel_rfl)
  refine ⟨rfl,_,rfl,rfl,fun ρ=>?_⟩
  have:=cvW (o:=o) hg hv ρ
  simp only [AV.val,V1.val,this]
  rfl
theorem okMl:(CallC.rd mlC).Ok Tryz.prog 139:=by
 refine ⟨fun args h pre v e hp=>?_,fun args h slot blk hs ha=>?_⟩
 ·unfold mlC at e
  split at e
  ·split at e
   ·rename_i h1
    cases e
    exact rd_pre1 tK Tryz.func139 (by kernel_rfl) (by kernel_rfl) rfl rfl h1 rfl rfl (ml_walk (hp _ (by simp)) (hp _ (by simp)) (hp _ (by simp)) (hp _ (by simp)) (hp _ (by simp)) (hp _ (by simp)))
   ·cases e
  ·cases e
 ·unfold mlC
  split
  ·rename_i b
   rw [keepS hs (ha (.v1 (.sc (.sl b 0 4 6))) (by simp))]
  ·rfl
def iM (Fi:Fp->Fp) (Gi:F2p->F2p) (o:Bool) (z:F2p):F2p:=bif o then ⟨Fi z.x,0⟩ else Gi z
def toX (m:F2p->F2p->F2p) (i:F2p) (p:J3 F2p):F2p:=if p.z = 0 then 0 else m p.x (m i i)
def toY (m:F2p->F2p->F2p) (i:F2p) (p:J3 F2p):F2p:=if p.z = 0 then 0 else m p.y (m (m i i) i)
def toC (Fi:Fp->Fp) (Gi:F2p->F2p):List AV->Option (List Prop × AV)
 | [.v1 (.agg [.ws .u64 6 x0,.ws .u64 6 x1,.ws .u64 6 y0,.ws .u64 6 y1,.ws .u64 6 z0,.ws .u64 6 z1,.one (.bo o)])]=>some ([nv x0 < pN,nv x1 < pN,nv y0 < pN,nv y1 < pN,nv z0 < pN,nv z1 < pN],.tup [n2 (toX (tM o) (iM Fi Gi o (g2 z0 z1)) (⟨g2 x0 x1,g2 y0 y1,g2 z0 z1⟩:J3 F2p)),n2 (toY (tM o) (iM Fi Gi o (g2 z0 z1)) (⟨g2 x0 x1,g2 y0 y1,g2 z0 z1⟩:J3 F2p)),.sc (.bo (!decide (g2 z0 z1 = 0)))])
 | _=>none
def GQ4 (Fi:Fp->Fp) (Gi:F2p->F2p):Ctx:=ctxL [(181,.pure tmC),(76,.pure cP),(97,.pure (f1 Fi)),(147,.pure (d1 Gi))]
theorem end3 {a b c d:Nat->Nat} {s t:F2p} {u v:Bool} (h1:nv a = nv (vF s.x)) (h2:nv b = nv (vF s.y)) (h3:nv c = nv (vF t.x)) (h4:nv d = nv (vF t.y)) (h5:u = v):endN (.tup [.agg [q6 a,q6 b],.agg [q6 c,q6 d],.sc (.bo u)]) (.tup [n2 s,n2 t,.sc (.bo v)]):=by
 subst h5
 refine ⟨_,rfl,fun ρ=>?_⟩
 have e1:(V1.agg [q6 a,q6 b]).val ρ = (n2 s).val ρ:=by simp only [V1.val];rw [cvS h1 (cvS h2 cv_nil) ρ]
 have e2:(V1.agg [q6 c,q6 d]).val ρ = (n2 t).val ρ:=by simp only [V1.val];rw [cvS h3 (cvS h4 cv_nil) ρ]
 simp only [AV.val,List.map_cons,List.map_nil,e1,e2]
theorem okTwoD {Fi:Fp->Fp} {Gi:F2p->F2p} (hF:(CallC.pure (f1 Fi)).Ok Tryz.prog 97) (hG:(CallC.pure (d1 Gi)).Ok Tryz.prog 147):(CallC.pure (toC Fi Gi)).Ok Tryz.prog 140:=by
 have GQ4_ok:CtxOk Tryz.prog (GQ4 Fi Gi):=cxC okTm <| cxC okP <| cxC hF <| cxC hG cxN
 intro args pre v e hp
 unfold toC at e
 split at e
 rotate_left
 ·cases e
 rename_i x0 x1 y0 y1 z0 z1 o
 cases e
 have hx0:nv x0 < pN:=hp _ (by simp)
 have hx1:nv x1 < pN:=hp _ (by simp)
 have hy0:nv y0 < pN:=hp _ (by simp)
 have hy1:nv y1 < pN:=hp _ (by simp)
 have hz0:nv z0 < pN:=hp _ (by simp)
 have hz1:nv z1 < pN:=hp _ (by simp)
 refine pWk tK Tryz.func140 (by kernel_rfl) (by kernel_rfl) (by rfl) (by rfl) ?_
 by_cases hz:g2 z0 z1 = 0
 ·rw [show toX (tM o) (iM Fi Gi o (g2 z0 z1)) (⟨g2 x0 x1,g2 y0 y1,g2 z0 z1⟩:J3 F2p) = 0 from if_pos hz,show toY (tM o) (iM Fi Gi o (g2 z0 z1)) (⟨g2 x0 x1,g2 y0 y1,g2 z0 z1⟩:J3 F2p) = 0 from if_pos hz]
  refine eSq mxd tK GQ4_ok 100 [⟨1,3,.lit (.bo true)⟩] (same (p:=qL [z0,z1] zL2 = true/\endN (.tup [.agg [q6 fz,q6 fz],.agg [q6 fz,q6 fz],.sc (.bo false)]) (.tup [n2 0,n2 0,.sc (.bo (!decide (g2 z0 z1 = 0)))])) ?_ (by kernel_rfl))
  exact ⟨zD_t hz0 hz1 hz,end3 z0V z0V z0V z0V (by rw [decide_eq_true hz];rfl)⟩
 ·rw [show toX (tM o) (iM Fi Gi o (g2 z0 z1)) (⟨g2 x0 x1,g2 y0 y1,g2 z0 z1⟩:J3 F2p) = tM o (g2 x0 x1) (tM o (iM Fi Gi o (g2 z0 z1)) (iM Fi Gi o (g2 z0 z1))) from if_neg hz,show toY (tM o) (iM Fi Gi o (g2 z0 z1)) (⟨g2 x0 x1,g2 y0 y1,g2 z0 z1⟩:J3 F2p) = tM o (g2 y0 y1) (tM o (tM o (iM Fi Gi o (g2 z0 z1)) (iM Fi Gi o (g2 z0 z1))) (iM Fi Gi o (g2 z0 z1))) from if_neg hz]
  cases o
  ·have hi:(g2 (vF (Gi (g2 z0 z1)).x) (vF (Gi (g2 z0 z1)).y)) = (Gi (g2 z0 z1)):=g2V _
   obtain ⟨t1,ht1⟩:=exq (tM false (Gi (g2 z0 z1)) (Gi (g2 z0 z1)))
   obtain ⟨t2,ht2⟩:=exq (tM false (g2 x0 x1) t1)
   obtain ⟨t3,ht3⟩:=exq (tM false t1 (Gi (g2 z0 z1)))
   obtain ⟨t4,ht4⟩:=exq (tM false (g2 y0 y1) t3)
   refine eSq mxd tK GQ4_ok 100 [⟨1,3,.lit (.bo false)⟩,⟨7,3,.as (vC2 t1)⟩,⟨8,4,.as (vC2 t2)⟩,⟨8,11,.as (vC2 t3)⟩,⟨8,12,.as (vC2 t4)⟩] ?_
   refine same (p:=qL [z0,z1] zL2 = false/\lp z0/\lp z1/\asP (vC2 (tM false (g2 (vF (Gi (g2 z0 z1)).x) (vF (Gi (g2 z0 z1)).y)) (g2 (vF (Gi (g2 z0 z1)).x) (vF (Gi (g2 z0 z1)).y)))) (vC2 t1)/\lp (vF (Gi (g2 z0 z1)).x)/\lp (vF (Gi (g2 z0 z1)).y)/\lp (vF (Gi (g2 z0 z1)).x)/\lp (vF (Gi (g2 z0 z1)).y)/\asP (vC2 (tM false (g2 x0 x1) (g2 (vF t1.x) (vF t1.y)))) (vC2 t2)/\lp x0/\lp x1/\lp (vF t1.x)/\lp (vF t1.y)/\asP (vC2 (tM false (g2 (vF t1.x) (vF t1.y)) (g2 (vF (Gi (g2 z0 z1)).x) (vF (Gi (g2 z0 z1)).y)))) (vC2 t3)/\lp (vF t1.x)/\lp (vF t1.y)/\lp (vF (Gi (g2 z0 z1)).x)/\lp (vF (Gi (g2 z0 z1)).y)/\asP (vC2 (tM false (g2 y0 y1) (g2 (vF t3.x) (vF t3.y)))) (vC2 t4)/\lp y0/\lp y1/\lp (vF t3.x)/\lp (vF t3.y)/\endN (.tup [.agg (vC2 t2),.agg (vC2 t4),.sc (.bo true)]) (.tup [n2 (tM false (g2 x0 x1) (tM false (Gi (g2 z0 z1)) (Gi (g2 z0 z1)))),n2 (tM false (g2 y0 y1) (tM false (tM false (Gi (g2 z0 z1)) (Gi (g2 z0 z1))) (Gi (g2 z0 z1)))),.sc (.bo (!decide (g2 z0 z1 = 0)))])) ?_ (by kernel_rfl)
   exact ⟨zD_f hz0 hz1 hz,hz0,hz1,asD (by rw [hi];exact ht1.symm),lV _,lV _,lV _,lV _,asD (by rw [g2V];exact ht2.symm),hx0,hx1,lV _,lV _,asD (by rw [g2V,hi];exact ht3.symm),lV _,lV _,lV _,lV _,asD (by rw [g2V];exact ht4.symm),hy0,hy1,lV _,lV _,by rw [<-ht1,<-ht2,<-ht3,<-ht4];exact end3 rfl rfl rfl rfl (by rw [decide_eq_false hz];rfl)⟩
  ·have hi:(g2 (vF (Fi (gN z0))) fz) = (⟨Fi (gN z0),0⟩:F2p):=F2p.ext (gN_vF _) gN_z
   obtain ⟨t1,ht1⟩:=exq (tM true (⟨Fi (gN z0),0⟩:F2p) (⟨Fi (gN z0),0⟩:F2p))
   obtain ⟨t2,ht2⟩:=exq (tM true (g2 x0 x1) t1)
   obtain ⟨t3,ht3⟩:=exq (tM true t1 (⟨Fi (gN z0),0⟩:F2p))
   obtain ⟨t4,ht4⟩:=exq (tM true (g2 y0 y1) t3)
   refine eSq mxd tK GQ4_ok 100 [⟨1,3,.lit (.bo false)⟩,⟨7,3,.as (vC2 t1)⟩,⟨8,4,.as (vC2 t2)⟩,⟨8,11,.as (vC2 t3)⟩,⟨8,12,.as (vC2 t4)⟩] ?_
   refine same (p:=qL [z0,z1] zL2 = false/\FOk prF 9940570264628428797 wideF/\lp z0/\asP (vC2 (tM true (g2 (vF (Fi (gN z0))) fz) (g2 (vF (Fi (gN z0))) fz))) (vC2 t1)/\lp (vF (Fi (gN z0)))/\lp fz/\lp (vF (Fi (gN z0)))/\lp fz/\asP (vC2 (tM true (g2 x0 x1) (g2 (vF t1.x) (vF t1.y)))) (vC2 t2)/\lp x0/\lp x1/\lp (vF t1.x)/\lp (vF t1.y)/\asP (vC2 (tM true (g2 (vF t1.x) (vF t1.y)) (g2 (vF (Fi (gN z0))) fz))) (vC2 t3)/\lp (vF t1.x)/\lp (vF t1.y)/\lp (vF (Fi (gN z0)))/\lp fz/\asP (vC2 (tM true (g2 y0 y1) (g2 (vF t3.x) (vF t3.y)))) (vC2 t4)/\lp y0/\lp y1/\lp (vF t3.x)/\lp (vF t3.y)/\endN (.tup [.agg (vC2 t2),.agg (vC2 t4),.sc (.bo true)]) (.tup [n2 (tM true (g2 x0 x1) (tM true (⟨Fi (gN z0),0⟩:F2p) (⟨Fi (gN z0),0⟩:F2p))),n2 (tM true (g2 y0 y1) (tM true (tM true (⟨Fi (gN z0),0⟩:F2p) (⟨Fi (gN z0),0⟩:F2p)) (⟨Fi (gN z0),0⟩:F2p))),.sc (.bo (!decide (g2 z0 z1 = 0)))])) ?_ (by kernel_rfl)
   exact ⟨zD_f hz0 hz1 hz,pOk,hz0,asD (by rw [hi];exact ht1.symm),lV _,l0Z,lV _,l0Z,asD (by rw [g2V];exact ht2.symm),hx0,hx1,lV _,lV _,asD (by rw [g2V,hi];exact ht3.symm),lV _,lV _,lV _,l0Z,asD (by rw [g2V];exact ht4.symm),hy0,hy1,lV _,lV _,by rw [<-ht1,<-ht2,<-ht3,<-ht4];exact end3 rfl rfl rfl rfl (by rw [decide_eq_false hz];rfl)⟩
def cWd:List AV->Heap->Nat->Option (List Prop × AV × Heap)
 | [.v1 (.agg [.ws .u64 6 f])],h,slot=>match isHole h slot with
  | true=>some ([blen (nv f) = 255],.v1 (.sc (.sl slot 0 4 6)),hset h slot ⟨24,[q6 f],0,0⟩)
  | false=>none
 | _,_,_=>none
def GWd:Ctx:=ctxL [(141,.pure cLen)]
theorem GWd_ok:CtxOk Tryz.prog GWd:=cxC okLen' cxN
theorem okWd:(CallC.new cWd).Ok Tryz.prog 80:=by
 refine new_of ?_ ?_
 ·intro args h slot pre v h' e hp
  unfold cWd at e
  split at e
  rotate_left
  ·cases e
  split at e
  rotate_left
  ·cases e
  rename_i f _ hh
  cases e
  have hl:blen (nv f) = 255:=hp _ (by simp)
  refine views_call tK Tryz.func80 (by kernel_rfl) (by kernel_rfl) [.pl (.v1 (.agg [q6 f]))] (args:=[.v1 (.agg [q6 f])]) ⟨⟨rfl,rfl⟩,trivial⟩ slot [⟨24,[q6 f],0,0⟩] (.v1 (.sc (.sl 0 0 4 6))) rfl rfl rfl (fun t ht=>by
   have:t = 0:=by simp at ht;omega
   subst this;exact hh) fun a W hi=>⟨[0],rfl,?_⟩
  rcases hi with _ | hi
  cases hi
  refine eSq mxd tK GWd_ok 60 [⟨1,3,.lit (.it 4)⟩] (same (p:=wrapI ((wrapI (Int.ofNat (blen (nv f)) + 63)).tdiv 64) = 4/\endK [0] [some ⟨24,[q6 f],0,0⟩] [some ⟨24,[q6 f],0,0⟩] (.v1 (.sc (.sl 0 0 4 6))) (.v1 (.sc (.sl 0 0 4 6)))) ?_ (by kernel_rfl))
  exact ⟨by rw [hl];rfl,rfl,rfl,⟨⟨rfl,rfl,rfl,fun _=>rfl⟩,trivial⟩,_,rfl,rfl,fun _=>rfl⟩
 ·intro args h slot pre v h' e i hi
  unfold cWd at e
  split at e
  rotate_left
  ·cases e
  split at e
  rotate_left
  ·cases e
  rename_i f _ hh
  cases e
  exact keep_hset hh hi
def mn1 (Fi:Fp->Fp) (Gi:F2p->F2p) (x y:Nat->Nat) (z:Bool) (n:Nat):A2 Fp:=bif z then ⟨gN x,gN y,true⟩ else
 (if (timesM (tM true) (⟨(g2 x fz),(g2 y fz),(g2 (upd fz 0 1) fz)⟩:J3 F2p) 256 n).z = 0 then ⟨0,0,true⟩ else ⟨(toX (tM true) (iM Fi Gi true (timesM (tM true) (⟨(g2 x fz),(g2 y fz),(g2 (upd fz 0 1) fz)⟩:J3 F2p) 256 n).z) (timesM (tM true) (⟨(g2 x fz),(g2 y fz),(g2 (upd fz 0 1) fz)⟩:J3 F2p) 256 n)).x,(toY (tM true) (iM Fi Gi true (timesM (tM true) (⟨(g2 x fz),(g2 y fz),(g2 (upd fz 0 1) fz)⟩:J3 F2p) 256 n).z) (timesM (tM true) (⟨(g2 x fz),(g2 y fz),(g2 (upd fz 0 1) fz)⟩:J3 F2p) 256 n)).x,false⟩)
def mnC1 (Fi:Fp->Fp) (Gi:F2p->F2p):List AV->Heap->Option (List Prop × AV)
 | [.v1 (.agg [.ws .u64 6 x,.ws .u64 6 y,.one (.bo z)]),.v1 (.sc (.sl b 0 4 6))],h=>match hget h b with
  | some ⟨_,[.ws .u64 6 f],0,_⟩=>some ([nv x < pN,nv y < pN],.v1 (.agg [q6 (vF (mn1 Fi Gi x y z (nv f)).x),q6 (vF (mn1 Fi Gi x y z (nv f)).y),.one (.bo (mn1 Fi Gi x y z (nv f)).z)]))
  | _=>none
 | _,_=>none
def GMn1 (Fi:Fp->Fp) (Gi:F2p->F2p):Ctx:=ctxL [(139,.rd mlC),(140,.pure (toC Fi Gi))]
theorem lt_u1:nv (upd fz 0 1) < pN:=by rw [nv_u1'];exact pN_pr.1
theorem TTe (T:J3 F2p):(⟨g2 (vF T.x.x) (vF T.x.y),g2 (vF T.y.x) (vF T.y.y),g2 (vF T.z.x) (vF T.z.y)⟩:J3 F2p) = T:=by rw [g2V,g2V,g2V]
theorem endV1 {cs ds:List Cell} {x:Blk} {h:Option Blk} (hh:h = some x) (hv:plainCs cs = true) (hc:∀ ρ:Ren,cvals ρ cs = cvals ρ ds):h = some x/\endR2 (.v1 (.agg cs)) (.v1 (.agg ds)):=⟨hh,_,rfl,hv,fun ρ=>by simp only [AV.val,V1.val,hc ρ]⟩
theorem mn1_walk {Fi:Fp->Fp} {Gi:F2p->F2p} (hG:CtxOk Tryz.prog (GMn1 Fi Gi)) {x y f:Nat->Nat} {z:Bool} {t:TypeId} {hi:Nat} (hx:nv x < pN) (hy:nv y < pN) :
  AWqS Tryz.prog (Dm [some ⟨t,[q6 f],0,hi⟩]) (flatC (bodyOf Tryz.f79)) (FEndV tt Tryz.f79 (.v1 (.agg [q6 (vF (mn1 Fi Gi x y z (nv f)).x),q6 (vF (mn1 Fi Gi x y z (nv f)).y),.one (.bo (mn1 Fi Gi x y z (nv f)).z)])) [some ⟨t,[q6 f],0,hi⟩]) ⟨frame0 ([.v1 (.agg [q6 x,q6 y,.one (.bo z)])] ++ [.v1 (.sc (.sl 0 0 4 6))]) (Tryz.f79).ntmps,[some ⟨t,[q6 f],0,hi⟩]⟩:=by
 cases z
 rotate_left
 ·refine eSq mxd tK hG 100 [] (same (p:=(some ⟨t,[q6 f],0,hi⟩:Option Blk) = some ⟨t,[q6 f],0,hi⟩/\endR2 (.v1 (.agg [q6 x,q6 y,.one (.bo true)])) (.v1 (.agg [q6 (vF (mn1 Fi Gi x y true (nv f)).x),q6 (vF (mn1 Fi Gi x y true (nv f)).y),.one (.bo (mn1 Fi Gi x y true (nv f)).z)]))) ?_ (by kernel_rfl))
  exact endV1 rfl rfl ((cvS (by rw [nv_vF];exact (Nat.mod_eq_of_lt hx).symm) (cvS (by rw [nv_vF];exact (Nat.mod_eq_of_lt hy).symm) (cv_one cv_nil))))
 obtain ⟨T,hT⟩:=exq ((timesM (tM true) (⟨(g2 x fz),(g2 y fz),(g2 (upd fz 0 1) fz)⟩:J3 F2p) 256 (nv f)))
 have hmn:mn1 Fi Gi x y false (nv f) = (if T.z = 0 then ⟨0,0,true⟩ else ⟨(toX (tM true) (iM Fi Gi true T.z) T).x,(toY (tM true) (iM Fi Gi true T.z) T).x,false⟩):=by rw [hT];rfl
 rw [hmn]
 have hb:(!(!decide (g2 (vF T.z.x) (vF T.z.y) = 0))) = decide (T.z = 0):=by rw [g2V,Bool.not_not]
 by_cases hz:T.z = 0
 ·rw [if_pos hz]
  refine eSq mxd tK hG 100 [⟨4,2,.as [q6 (vF T.x.x),q6 (vF T.x.y),q6 (vF T.y.x),q6 (vF T.y.y),q6 (vF T.z.x),q6 (vF T.z.y),.one (.bo true)]⟩,⟨5,1,.lit (.bo true)⟩] ?_
  refine same (p:=asP [q6 (vF (timesM (tM true) (⟨(g2 x fz),(g2 y fz),(g2 (upd fz 0 1) fz)⟩:J3 F2p) 256 (nv f)).x.x),q6 (vF (timesM (tM true) (⟨(g2 x fz),(g2 y fz),(g2 (upd fz 0 1) fz)⟩:J3 F2p) 256 (nv f)).x.y),q6 (vF (timesM (tM true) (⟨(g2 x fz),(g2 y fz),(g2 (upd fz 0 1) fz)⟩:J3 F2p) 256 (nv f)).y.x),q6 (vF (timesM (tM true) (⟨(g2 x fz),(g2 y fz),(g2 (upd fz 0 1) fz)⟩:J3 F2p) 256 (nv f)).y.y),q6 (vF (timesM (tM true) (⟨(g2 x fz),(g2 y fz),(g2 (upd fz 0 1) fz)⟩:J3 F2p) 256 (nv f)).z.x),q6 (vF (timesM (tM true) (⟨(g2 x fz),(g2 y fz),(g2 (upd fz 0 1) fz)⟩:J3 F2p) 256 (nv f)).z.y),.one (.bo true)] [q6 (vF T.x.x),q6 (vF T.x.y),q6 (vF T.y.x),q6 (vF T.y.y),q6 (vF T.z.x),q6 (vF T.z.y),.one (.bo true)]/\lp x/\lp fz/\lp y/\lp fz/\lp (upd fz 0 1)/\lp fz/\lp (vF T.x.x)/\lp (vF T.x.y)/\lp (vF T.y.x)/\lp (vF T.y.y)/\lp (vF T.z.x)/\lp (vF T.z.y)/\(!(!decide (g2 (vF T.z.x) (vF T.z.y) = 0))) = true/\(some ⟨t,[q6 f],0,hi⟩:Option Blk) = some ⟨t,[q6 f],0,hi⟩/\endR2 (.v1 (.agg [q6 fz,q6 fz,.one (.bo true)])) (.v1 (.agg [q6 (vF (⟨0,0,true⟩:A2 Fp).x),q6 (vF (⟨0,0,true⟩:A2 Fp).y),.one (.bo (⟨0,0,true⟩:A2 Fp).z)]))) ?_ (by kernel_rfl)
  exact ⟨by rw [hT];exact fun _=>rfl,hx,l0Z,hy,l0Z,lt_u1,l0Z,lV _,lV _,lV _,lV _,lV _,lV _,by rw [hb,decide_eq_true hz],endV1 rfl rfl ((cvS z0V (cvS z0V (cv_one cv_nil))))⟩
 ·rw [if_neg hz]
  refine eSq mxd tK hG 100 [⟨4,2,.as [q6 (vF T.x.x),q6 (vF T.x.y),q6 (vF T.y.x),q6 (vF T.y.y),q6 (vF T.z.x),q6 (vF T.z.y),.one (.bo true)]⟩,⟨5,1,.lit (.bo false)⟩] ?_
  refine same (p:=asP [q6 (vF (timesM (tM true) (⟨(g2 x fz),(g2 y fz),(g2 (upd fz 0 1) fz)⟩:J3 F2p) 256 (nv f)).x.x),q6 (vF (timesM (tM true) (⟨(g2 x fz),(g2 y fz),(g2 (upd fz 0 1) fz)⟩:J3 F2p) 256 (nv f)).x.y),q6 (vF (timesM (tM true) (⟨(g2 x fz),(g2 y fz),(g2 (upd fz 0 1) fz)⟩:J3 F2p) 256 (nv f)).y.x),q6 (vF (timesM (tM true) (⟨(g2 x fz),(g2 y fz),(g2 (upd fz 0 1) fz)⟩:J3 F2p) 256 (nv f)).y.y),q6 (vF (timesM (tM true) (⟨(g2 x fz),(g2 y fz),(g2 (upd fz 0 1) fz)⟩:J3 F2p) 256 (nv f)).z.x),q6 (vF (timesM (tM true) (⟨(g2 x fz),(g2 y fz),(g2 (upd fz 0 1) fz)⟩:J3 F2p) 256 (nv f)).z.y),.one (.bo true)] [q6 (vF T.x.x),q6 (vF T.x.y),q6 (vF T.y.x),q6 (vF T.y.y),q6 (vF T.z.x),q6 (vF T.z.y),.one (.bo true)]/\lp x/\lp fz/\lp y/\lp fz/\lp (upd fz 0 1)/\lp fz/\lp (vF T.x.x)/\lp (vF T.x.y)/\lp (vF T.y.x)/\lp (vF T.y.y)/\lp (vF T.z.x)/\lp (vF T.z.y)/\(!(!decide (g2 (vF T.z.x) (vF T.z.y) = 0))) = false/\(some ⟨t,[q6 f],0,hi⟩:Option Blk) = some ⟨t,[q6 f],0,hi⟩/\endR2 (.v1 (.agg [q6 (vF (toX (tM true) (iM Fi Gi true (g2 (vF T.z.x) (vF T.z.y))) (⟨g2 (vF T.x.x) (vF T.x.y),g2 (vF T.y.x) (vF T.y.y),g2 (vF T.z.x) (vF T.z.y)⟩:J3 F2p)).x),q6 (vF (toY (tM true) (iM Fi Gi true (g2 (vF T.z.x) (vF T.z.y))) (⟨g2 (vF T.x.x) (vF T.x.y),g2 (vF T.y.x) (vF T.y.y),g2 (vF T.z.x) (vF T.z.y)⟩:J3 F2p)).x),.one (.bo false)])) (.v1 (.agg [q6 (vF (⟨(toX (tM true) (iM Fi Gi true T.z) T).x,(toY (tM true) (iM Fi Gi true T.z) T).x,false⟩:A2 Fp).x),q6 (vF (⟨(toX (tM true) (iM Fi Gi true T.z) T).x,(toY (tM true) (iM Fi Gi true T.z) T).x,false⟩:A2 Fp).y),.one (.bo false)]))) ?_ (by kernel_rfl)
  exact ⟨by rw [hT];exact fun _=>rfl,hx,l0Z,hy,l0Z,lt_u1,l0Z,lV _,lV _,lV _,lV _,lV _,lV _,by rw [hb,decide_eq_false hz],endV1 rfl rfl (by rw [TTe,g2V];exact fun _=>rfl)⟩
theorem okMn1 {Fi:Fp->Fp} {Gi:F2p->F2p} (hF:(CallC.pure (toC Fi Gi)).Ok Tryz.prog 140):(CallC.rd (mnC1 Fi Gi)).Ok Tryz.prog 79:=by
 have hG:CtxOk Tryz.prog (GMn1 Fi Gi):=cxC okMl <| cxC hF cxN
 refine ⟨fun args h pre v e hp=>?_,fun args h slot blk hs ha=>?_⟩
 ·unfold mnC1 at e
  split at e
  ·split at e
   ·rename_i h1
    cases e
    exact rd_pre1 tK Tryz.func79 (by kernel_rfl) (by kernel_rfl) rfl rfl h1 rfl rfl (mn1_walk hG (hp _ (by simp)) (hp _ (by simp)))
   ·cases e
  ·cases e
 ·unfold mnC1
  split
  ·rename_i b
   rw [keepS hs (ha (.v1 (.sc (.sl b 0 4 6))) (by simp))]
  ·rfl
def muC1 (Fi:Fp->Fp) (Gi:F2p->F2p):List AV->Option (List Prop × AV)
 | [.v1 (.agg [.ws .u64 6 x,.ws .u64 6 y,.one (.bo z)]),.v1 (.agg [.ws .u64 6 f])]=>some ([nv x < pN,nv y < pN,blen (nv f) = 255],.v1 (.agg [q6 (vF (mn1 Fi Gi x y z (nv f)).x),q6 (vF (mn1 Fi Gi x y z (nv f)).y),.one (.bo (mn1 Fi Gi x y z (nv f)).z)]))
 | _=>none
def GMl1 (Fi:Fp->Fp) (Gi:F2p->F2p):Ctx:=ctxL [(80,.new cWd),(79,.rd (mnC1 Fi Gi))]
theorem okMuD1 {Fi:Fp->Fp} {Gi:F2p->F2p} (hF:(CallC.pure (toC Fi Gi)).Ok Tryz.prog 140):(CallC.pure (muC1 Fi Gi)).Ok Tryz.prog 35:=by
 have hG:CtxOk Tryz.prog (GMl1 Fi Gi):=cxC okWd <| cxC (okMn1 hF) cxN
 intro args pre v e hp
 unfold muC1 at e
 split at e
 rotate_left
 ·cases e
 rename_i x y z f
 cases e
 refine pWk tK Tryz.func35 (by kernel_rfl) (by kernel_rfl) (by rfl) (by rfl) ?_
 refine eSq mxd tK hG 100 [] (same (p:=blen (nv f) = 255/\lp x/\lp y/\endN (.v1 (.agg [q6 (vF (mn1 Fi Gi x y z (nv f)).x),q6 (vF (mn1 Fi Gi x y z (nv f)).y),.one (.bo (mn1 Fi Gi x y z (nv f)).z)])) (.v1 (.agg [q6 (vF (mn1 Fi Gi x y z (nv f)).x),q6 (vF (mn1 Fi Gi x y z (nv f)).y),.one (.bo (mn1 Fi Gi x y z (nv f)).z)]))) ?_ (by kernel_rfl))
 exact ⟨hp _ (by simp),hp _ (by simp),hp _ (by simp),_,rfl,fun _=>rfl⟩
def mn2 (Fi:Fp->Fp) (Gi:F2p->F2p) (x0 x1 y0 y1:Nat->Nat) (z:Bool) (n:Nat):A2 F2p:=bif z then ⟨(g2 x0 x1),(g2 y0 y1),true⟩ else
 (if (timesM (tM false) (⟨(g2 x0 x1),(g2 y0 y1),(g2 (upd fz 0 1) fz)⟩:J3 F2p) 256 n).z = 0 then ⟨0,0,true⟩ else ⟨(toX (tM false) (iM Fi Gi false (timesM (tM false) (⟨(g2 x0 x1),(g2 y0 y1),(g2 (upd fz 0 1) fz)⟩:J3 F2p) 256 n).z) (timesM (tM false) (⟨(g2 x0 x1),(g2 y0 y1),(g2 (upd fz 0 1) fz)⟩:J3 F2p) 256 n)),(toY (tM false) (iM Fi Gi false (timesM (tM false) (⟨(g2 x0 x1),(g2 y0 y1),(g2 (upd fz 0 1) fz)⟩:J3 F2p) 256 n).z) (timesM (tM false) (⟨(g2 x0 x1),(g2 y0 y1),(g2 (upd fz 0 1) fz)⟩:J3 F2p) 256 n)),false⟩)
def mnC2 (Fi:Fp->Fp) (Gi:F2p->F2p):List AV->Heap->Option (List Prop × AV)
 | [.v1 (.agg [.ws .u64 6 x0,.ws .u64 6 x1,.ws .u64 6 y0,.ws .u64 6 y1,.one (.bo z)]),.v1 (.sc (.sl b 0 4 6))],h=>match hget h b with
  | some ⟨_,[.ws .u64 6 f],0,_⟩=>some ([nv x0 < pN,nv x1 < pN,nv y0 < pN,nv y1 < pN],.v1 (.agg [q6 (vF (mn2 Fi Gi x0 x1 y0 y1 z (nv f)).x.x),q6 (vF (mn2 Fi Gi x0 x1 y0 y1 z (nv f)).x.y),q6 (vF (mn2 Fi Gi x0 x1 y0 y1 z (nv f)).y.x),q6 (vF (mn2 Fi Gi x0 x1 y0 y1 z (nv f)).y.y),.one (.bo (mn2 Fi Gi x0 x1 y0 y1 z (nv f)).z)]))
  | _=>none
 | _,_=>none
def GMn2 (Fi:Fp->Fp) (Gi:F2p->F2p):Ctx:=ctxL [(139,.rd mlC),(140,.pure (toC Fi Gi))]
theorem mn2_walk {Fi:Fp->Fp} {Gi:F2p->F2p} (hG:CtxOk Tryz.prog (GMn2 Fi Gi)) {x0 x1 y0 y1 f:Nat->Nat} {z:Bool} {t:TypeId} {hi:Nat} (hx0:nv x0 < pN) (hx1:nv x1 < pN) (hy0:nv y0 < pN) (hy1:nv y1 < pN) :
  AWqS Tryz.prog (Dm [some ⟨t,[q6 f],0,hi⟩]) (flatC (bodyOf Tryz.f83)) (FEndV tt Tryz.f83 (.v1 (.agg [q6 (vF (mn2 Fi Gi x0 x1 y0 y1 z (nv f)).x.x),q6 (vF (mn2 Fi Gi x0 x1 y0 y1 z (nv f)).x.y),q6 (vF (mn2 Fi Gi x0 x1 y0 y1 z (nv f)).y.x),q6 (vF (mn2 Fi Gi x0 x1 y0 y1 z (nv f)).y.y),.one (.bo (mn2 Fi Gi x0 x1 y0 y1 z (nv f)).z)])) [some ⟨t,[q6 f],0,hi⟩]) ⟨frame0 ([.v1 (.agg [q6 x0,q6 x1,q6 y0,q6 y1,.one (.bo z)])] ++ [.v1 (.sc (.sl 0 0 4 6))]) (Tryz.f83).ntmps,[some ⟨t,[q6 f],0,hi⟩]⟩:=by
 cases z
 rotate_left
 ·refine eSq mxd tK hG 100 [] (same (p:=(some ⟨t,[q6 f],0,hi⟩:Option Blk) = some ⟨t,[q6 f],0,hi⟩/\endR2 (.v1 (.agg [q6 x0,q6 x1,q6 y0,q6 y1,.one (.bo true)])) (.v1 (.agg [q6 (vF (mn2 Fi Gi x0 x1 y0 y1 true (nv f)).x.x),q6 (vF (mn2 Fi Gi x0 x1 y0 y1 true (nv f)).x.y),q6 (vF (mn2 Fi Gi x0 x1 y0 y1 true (nv f)).y.x),q6 (vF (mn2 Fi Gi x0 x1 y0 y1 true (nv f)).y.y),.one (.bo (mn2 Fi Gi x0 x1 y0 y1 true (nv f)).z)]))) ?_ (by kernel_rfl))
  exact endV1 rfl rfl ((cvS (by rw [nv_vF];exact (Nat.mod_eq_of_lt hx0).symm) (cvS (by rw [nv_vF];exact (Nat.mod_eq_of_lt hx1).symm) (cvS (by rw [nv_vF];exact (Nat.mod_eq_of_lt hy0).symm) (cvS (by rw [nv_vF];exact (Nat.mod_eq_of_lt hy1).symm) (cv_one cv_nil))))))
 obtain ⟨T,hT⟩:=exq ((timesM (tM false) (⟨(g2 x0 x1),(g2 y0 y1),(g2 (upd fz 0 1) fz)⟩:J3 F2p) 256 (nv f)))
 have hmn:mn2 Fi Gi x0 x1 y0 y1 false (nv f) = (if T.z = 0 then ⟨0,0,true⟩ else ⟨(toX (tM false) (iM Fi Gi false T.z) T),(toY (tM false) (iM Fi Gi false T.z) T),false⟩):=by rw [hT];rfl
 rw [hmn]
 have hb:(!(!decide (g2 (vF T.z.x) (vF T.z.y) = 0))) = decide (T.z = 0):=by rw [g2V,Bool.not_not]
 by_cases hz:T.z = 0
 ·rw [if_pos hz]
  refine eSq mxd tK hG 100 [⟨4,2,.as [q6 (vF T.x.x),q6 (vF T.x.y),q6 (vF T.y.x),q6 (vF T.y.y),q6 (vF T.z.x),q6 (vF T.z.y),.one (.bo false)]⟩,⟨5,1,.lit (.bo true)⟩] ?_
  refine same (p:=asP [q6 (vF (timesM (tM false) (⟨(g2 x0 x1),(g2 y0 y1),(g2 (upd fz 0 1) fz)⟩:J3 F2p) 256 (nv f)).x.x),q6 (vF (timesM (tM false) (⟨(g2 x0 x1),(g2 y0 y1),(g2 (upd fz 0 1) fz)⟩:J3 F2p) 256 (nv f)).x.y),q6 (vF (timesM (tM false) (⟨(g2 x0 x1),(g2 y0 y1),(g2 (upd fz 0 1) fz)⟩:J3 F2p) 256 (nv f)).y.x),q6 (vF (timesM (tM false) (⟨(g2 x0 x1),(g2 y0 y1),(g2 (upd fz 0 1) fz)⟩:J3 F2p) 256 (nv f)).y.y),q6 (vF (timesM (tM false) (⟨(g2 x0 x1),(g2 y0 y1),(g2 (upd fz 0 1) fz)⟩:J3 F2p) 256 (nv f)).z.x),q6 (vF (timesM (tM false) (⟨(g2 x0 x1),(g2 y0 y1),(g2 (upd fz 0 1) fz)⟩:J3 F2p) 256 (nv f)).z.y),.one (.bo false)] [q6 (vF T.x.x),q6 (vF T.x.y),q6 (vF T.y.x),q6 (vF T.y.y),q6 (vF T.z.x),q6 (vF T.z.y),.one (.bo false)]/\lp x0/\lp x1/\lp y0/\lp y1/\lp (upd fz 0 1)/\lp fz/\lp (vF T.x.x)/\lp (vF T.x.y)/\lp (vF T.y.x)/\lp (vF T.y.y)/\lp (vF T.z.x)/\lp (vF T.z.y)/\(!(!decide (g2 (vF T.z.x) (vF T.z.y) = 0))) = true/\(some ⟨t,[q6 f],0,hi⟩:Option Blk) = some ⟨t,[q6 f],0,hi⟩/\endR2 (.v1 (.agg [q6 fz,q6 fz,q6 fz,q6 fz,.one (.bo true)])) (.v1 (.agg [q6 (vF (⟨0,0,true⟩:A2 F2p).x.x),q6 (vF (⟨0,0,true⟩:A2 F2p).x.y),q6 (vF (⟨0,0,true⟩:A2 F2p).y.x),q6 (vF (⟨0,0,true⟩:A2 F2p).y.y),.one (.bo (⟨0,0,true⟩:A2 F2p).z)]))) ?_ (by kernel_rfl)
  exact ⟨by rw [hT];exact fun _=>rfl,hx0,hx1,hy0,hy1,lt_u1,l0Z,lV _,lV _,lV _,lV _,lV _,lV _,by rw [hb,decide_eq_true hz],endV1 rfl rfl ((cvS z0V (cvS z0V (cvS z0V (cvS z0V (cv_one cv_nil))))))⟩
 ·rw [if_neg hz]
  refine eSq mxd tK hG 100 [⟨4,2,.as [q6 (vF T.x.x),q6 (vF T.x.y),q6 (vF T.y.x),q6 (vF T.y.y),q6 (vF T.z.x),q6 (vF T.z.y),.one (.bo false)]⟩,⟨5,1,.lit (.bo false)⟩] ?_
  refine same (p:=asP [q6 (vF (timesM (tM false) (⟨(g2 x0 x1),(g2 y0 y1),(g2 (upd fz 0 1) fz)⟩:J3 F2p) 256 (nv f)).x.x),q6 (vF (timesM (tM false) (⟨(g2 x0 x1),(g2 y0 y1),(g2 (upd fz 0 1) fz)⟩:J3 F2p) 256 (nv f)).x.y),q6 (vF (timesM (tM false) (⟨(g2 x0 x1),(g2 y0 y1),(g2 (upd fz 0 1) fz)⟩:J3 F2p) 256 (nv f)).y.x),q6 (vF (timesM (tM false) (⟨(g2 x0 x1),(g2 y0 y1),(g2 (upd fz 0 1) fz)⟩:J3 F2p) 256 (nv f)).y.y),q6 (vF (timesM (tM false) (⟨(g2 x0 x1),(g2 y0 y1),(g2 (upd fz 0 1) fz)⟩:J3 F2p) 256 (nv f)).z.x),q6 (vF (timesM (tM false) (⟨(g2 x0 x1),(g2 y0 y1),(g2 (upd fz 0 1) fz)⟩:J3 F2p) 256 (nv f)).z.y),.one (.bo false)] [q6 (vF T.x.x),q6 (vF T.x.y),q6 (vF T.y.x),q6 (vF T.y.y),q6 (vF T.z.x),q6 (vF T.z.y),.one (.bo false)]/\lp x0/\lp x1/\lp y0/\lp y1/\lp (upd fz 0 1)/\lp fz/\lp (vF T.x.x)/\lp (vF T.x.y)/\lp (vF T.y.x)/\lp (vF T.y.y)/\lp (vF T.z.x)/\lp (vF T.z.y)/\(!(!decide (g2 (vF T.z.x) (vF T.z.y) = 0))) = false/\(some ⟨t,[q6 f],0,hi⟩:Option Blk) = some ⟨t,[q6 f],0,hi⟩/\endR2 (.v1 (.agg [q6 (vF (toX (tM false) (iM Fi Gi false (g2 (vF T.z.x) (vF T.z.y))) (⟨g2 (vF T.x.x) (vF T.x.y),g2 (vF T.y.x) (vF T.y.y),g2 (vF T.z.x) (vF T.z.y)⟩:J3 F2p)).x),q6 (vF (toX (tM false) (iM Fi Gi false (g2 (vF T.z.x) (vF T.z.y))) (⟨g2 (vF T.x.x) (vF T.x.y),g2 (vF T.y.x) (vF T.y.y),g2 (vF T.z.x) (vF T.z.y)⟩:J3 F2p)).y),q6 (vF (toY (tM false) (iM Fi Gi false (g2 (vF T.z.x) (vF T.z.y))) (⟨g2 (vF T.x.x) (vF T.x.y),g2 (vF T.y.x) (vF T.y.y),g2 (vF T.z.x) (vF T.z.y)⟩:J3 F2p)).x),q6 (vF (toY (tM false) (iM Fi Gi false (g2 (vF T.z.x) (vF T.z.y))) (⟨g2 (vF T.x.x) (vF T.x.y),g2 (vF T.y.x) (vF T.y.y),g2 (vF T.z.x) (vF T.z.y)⟩:J3 F2p)).y),.one (.bo false)])) (.v1 (.agg [q6 (vF (⟨(toX (tM false) (iM Fi Gi false T.z) T),(toY (tM false) (iM Fi Gi false T.z) T),false⟩:A2 F2p).x.x),q6 (vF (⟨(toX (tM false) (iM Fi Gi false T.z) T),(toY (tM false) (iM Fi Gi false T.z) T),false⟩:A2 F2p).x.y),q6 (vF (⟨(toX (tM false) (iM Fi Gi false T.z) T),(toY (tM false) (iM Fi Gi false T.z) T),false⟩:A2 F2p).y.x),q6 (vF (⟨(toX (tM false) (iM Fi Gi false T.z) T),(toY (tM false) (iM Fi Gi false T.z) T),false⟩:A2 F2p).y.y),.one (.bo false)]))) ?_ (by kernel_rfl)
  exact ⟨by rw [hT];exact fun _=>rfl,hx0,hx1,hy0,hy1,lt_u1,l0Z,lV _,lV _,lV _,lV _,lV _,lV _,by rw [hb,decide_eq_false hz],endV1 rfl rfl (by rw [TTe,g2V];exact fun _=>rfl)⟩
theorem okMn2 {Fi:Fp->Fp} {Gi:F2p->F2p} (hF:(CallC.pure (toC Fi Gi)).Ok Tryz.prog 140):(CallC.rd (mnC2 Fi Gi)).Ok Tryz.prog 83:=by
 have hG:CtxOk Tryz.prog (GMn2 Fi Gi):=cxC okMl <| cxC hF cxN
 refine ⟨fun args h pre v e hp=>?_,fun args h slot blk hs ha=>?_⟩
 ·unfold mnC2 at e
  split at e
  ·split at e
   ·rename_i h1
    cases e
    exact rd_pre1 tK Tryz.func83 (by kernel_rfl) (by kernel_rfl) rfl rfl h1 rfl rfl (mn2_walk hG (hp _ (by simp)) (hp _ (by simp)) (hp _ (by simp)) (hp _ (by simp)))
   ·cases e
  ·cases e
 ·unfold mnC2
  split
  ·rename_i b
   rw [keepS hs (ha (.v1 (.sc (.sl b 0 4 6))) (by simp))]
  ·rfl
def muC2 (Fi:Fp->Fp) (Gi:F2p->F2p):List AV->Option (List Prop × AV)
 | [.v1 (.agg [.ws .u64 6 x0,.ws .u64 6 x1,.ws .u64 6 y0,.ws .u64 6 y1,.one (.bo z)]),.v1 (.agg [.ws .u64 6 f])]=>some ([nv x0 < pN,nv x1 < pN,nv y0 < pN,nv y1 < pN,blen (nv f) = 255],.v1 (.agg [q6 (vF (mn2 Fi Gi x0 x1 y0 y1 z (nv f)).x.x),q6 (vF (mn2 Fi Gi x0 x1 y0 y1 z (nv f)).x.y),q6 (vF (mn2 Fi Gi x0 x1 y0 y1 z (nv f)).y.x),q6 (vF (mn2 Fi Gi x0 x1 y0 y1 z (nv f)).y.y),.one (.bo (mn2 Fi Gi x0 x1 y0 y1 z (nv f)).z)]))
 | _=>none
def GMl2 (Fi:Fp->Fp) (Gi:F2p->F2p):Ctx:=ctxL [(80,.new cWd),(83,.rd (mnC2 Fi Gi))]
theorem okMuD2 {Fi:Fp->Fp} {Gi:F2p->F2p} (hF:(CallC.pure (toC Fi Gi)).Ok Tryz.prog 140):(CallC.pure (muC2 Fi Gi)).Ok Tryz.prog 38:=by
 have hG:CtxOk Tryz.prog (GMl2 Fi Gi):=cxC okWd <| cxC (okMn2 hF) cxN
 intro args pre v e hp
 unfold muC2 at e
 split at e
 rotate_left
 ·cases e
 rename_i x0 x1 y0 y1 z f
 cases e
 refine pWk tK Tryz.func38 (by kernel_rfl) (by kernel_rfl) (by rfl) (by rfl) ?_
 refine eSq mxd tK hG 100 [] (same (p:=blen (nv f) = 255/\lp x0/\lp x1/\lp y0/\lp y1/\endN (.v1 (.agg [q6 (vF (mn2 Fi Gi x0 x1 y0 y1 z (nv f)).x.x),q6 (vF (mn2 Fi Gi x0 x1 y0 y1 z (nv f)).x.y),q6 (vF (mn2 Fi Gi x0 x1 y0 y1 z (nv f)).y.x),q6 (vF (mn2 Fi Gi x0 x1 y0 y1 z (nv f)).y.y),.one (.bo (mn2 Fi Gi x0 x1 y0 y1 z (nv f)).z)])) (.v1 (.agg [q6 (vF (mn2 Fi Gi x0 x1 y0 y1 z (nv f)).x.x),q6 (vF (mn2 Fi Gi x0 x1 y0 y1 z (nv f)).x.y),q6 (vF (mn2 Fi Gi x0 x1 y0 y1 z (nv f)).y.x),q6 (vF (mn2 Fi Gi x0 x1 y0 y1 z (nv f)).y.y),.one (.bo (mn2 Fi Gi x0 x1 y0 y1 z (nv f)).z)]))) ?_ (by kernel_rfl))
 exact ⟨hp _ (by simp),hp _ (by simp),hp _ (by simp),hp _ (by simp),hp _ (by simp),_,rfl,fun _=>rfl⟩
open EC
section
variable {F:Type} [CR F] [DecidableEq F]
def tmG:Nat->F->F
 | 0,_=>0
 | n + 1,a=>tmG n a + a
def dblG (p:J3 F):J3 F :=
 if p.z = 0∨p.y = 0 then ⟨0,0,0⟩ else
 ⟨(tmG 3 (p.x * p.x)) * (tmG 3 (p.x * p.x)) - tmG 2 (tmG 4 (p.x * (p.y * p.y))),(tmG 3 (p.x * p.x)) * (tmG 4 (p.x * (p.y * p.y)) - ((tmG 3 (p.x * p.x)) * (tmG 3 (p.x * p.x)) - tmG 2 (tmG 4 (p.x * (p.y * p.y))))) - tmG 8 ((p.y * p.y) * (p.y * p.y)),tmG 2 (p.y * p.z)⟩
def hG (t u:J3 F):F:=u.x * (t.z * t.z) - t.x
def kG (t u:J3 F):F:=u.y * ((t.z * t.z) * t.z) - t.y
def genG (t u:J3 F):J3 F :=
 ⟨kG t u * kG t u - (hG t u * hG t u) * hG t u - tmG 2 (t.x * (hG t u * hG t u)),kG t u * (t.x * (hG t u * hG t u) - (kG t u * kG t u - (hG t u * hG t u) * hG t u - tmG 2 (t.x * (hG t u * hG t u)))) - t.y * ((hG t u * hG t u) * hG t u),t.z * hG t u⟩
def addG (t u:J3 F):J3 F :=
 if t.z = 0 then u else if hG t u = 0 then (if kG t u = 0 then dblG t else ⟨0,0,0⟩) else genG t u
def timesG (P:J3 F):Nat->Nat->J3 F
 | 0,_=>⟨0,0,0⟩
 | k + 1,n=>if n % 2 = 1 then addG (dblG (timesG P k (n / 2))) P else dblG (timesG P k (n / 2))
theorem rp_z {P:J3 F} {X:Option (F × F)} (h:Rp P X):P.z = 0↔X = none:=by
 cases X with
 | none=>exact ⟨fun _=>rfl,fun _=>h⟩
 | some q=>exact ⟨fun e=>absurd e h.1,fun e=>by cases e⟩
theorem tm2 (a:F):tmG 2 a = a + a:=by show 0 + a + a = a + a;grind
theorem tm3 (a:F):tmG 3 a = a + a + a:=by show 0 + a + a + a = a + a + a;grind
theorem tm4 (a:F):tmG 4 a = a + a + (a + a):=by show 0 + a + a + a + a = a + a + (a + a);grind
theorem tm8 (a:F):tmG 8 a = a + a + (a + a) + (a + a + (a + a)):=by show 0 + a + a + a + a + a + a + a + a = _;grind
theorem dblG_f {p:J3 F} (h:¬ (p.z = 0∨p.y = 0)):dblG p = J3.dbl p:=by
 unfold dblG
 rw [if_neg h,tm2,tm2,tm3,tm4,tm8]
 rfl
theorem j3_ext {p q:J3 F} (h1:p.x = q.x) (h2:p.y = q.y) (h3:p.z = q.z):p = q:=by
 cases p;cases q;simp only at h1 h2 h3;subst h1 h2 h3;rfl
theorem genG_eq {t u:J3 F} (h:u.z = 1):genG t u = J3.gen t u:=by
 obtain ⟨x,y,z⟩:=t
 obtain ⟨a,b,c⟩:=u
 simp only at h
 subst h
 unfold genG hG kG J3.gen
 rw [tm2]
 refine j3_ext ?_ ?_ ?_
 ·simp only;grind
 ·simp only;grind
 ·simp only;grind
theorem hG_eq {t u:J3 F} (h:u.z = 1):J3.hh t u = hG t u:=by unfold J3.hh hG;rw [h];grind
theorem kG_eq {t u:J3 F} (h:u.z = 1):J3.rr t u = kG t u:=by unfold J3.rr kG;rw [h];grind
variable (C:EC F)
theorem dblG_to {P:J3 F} {S:Option (F × F)} (hz:P.z ≠ 0) (h:Rp (J3.dbl P) S):Rp (dblG P) S:=by
 by_cases hy:P.y = 0
 ·have e:dblG P = ⟨0,0,0⟩:=if_pos (.inr hy)
  have h0:(J3.dbl P).z = 0:=by show P.y * P.z + P.y * P.z = 0;rw [hy];grind
  have hS:=(rp_z h).1 h0
  subst hS
  rw [e];rfl
 ·rw [dblG_f (fun e=>e.elim hz hy)];exact h
include C in
theorem dblG_rp (ha:C.a = 0) {X:Option (F × F)} (hX:C.on X) {P:J3 F} (h:Rp P X):Rp (dblG P) (C.add X X):=by
 by_cases hz:P.z = 0
 ·have hS:=(rp_z h).1 hz
  subst hS
  rw [show dblG P = ⟨0,0,0⟩ from if_pos (.inl hz)];rfl
 ·exact dblG_to hz (C.dbl_rp ha hX h)
include C in
theorem addG_rp (ha:C.a = 0) {X Y:Option (F × F)} (hX:C.on X) (hY:C.on Y) {P Q:J3 F} (h:Rp P X) (k:Rp Q Y) (h1:Q.z = 1):Rp (addG P Q) (C.add X Y):=by
 have hr:=C.add_rp ha hX hY h k
 have h10:Q.z ≠ 0:=by rw [h1];exact C.one_ne0
 unfold addG
 unfold J3.add at hr
 by_cases hz:P.z = 0
 ·rw [if_pos hz] at hr ⊢;exact hr
 ·rw [if_neg hz,if_neg h10,hG_eq h1,kG_eq h1] at hr
  rw [if_neg hz]
  by_cases e1:hG P Q = 0
  ·rw [if_pos e1] at hr ⊢
   by_cases e2:kG P Q = 0
   ·rw [if_pos e2] at hr ⊢;exact dblG_to hz hr
   ·rw [if_neg e2] at hr ⊢
    have hS:=(rp_z hr).1 rfl
    rw [hS];rfl
  ·rw [if_neg e1] at hr ⊢
   rw [genG_eq h1];exact hr
include C in
theorem timesG_rp (ha:C.a = 0) {X:Option (F × F)} (hX:C.on X) {P:J3 F} (h:Rp P X) (h1:P.z = 1):∀ k n:Nat,n < 2 ^ k->Rp (timesG P k n) (C.mul n X)
 | 0,n,hn=>by
  have:n = 0:=by simpa using hn
  subst this
  rfl
 | k + 1,n,hn=>by
  have ih:=timesG_rp ha hX h h1 k (n / 2) (by rw [Nat.pow_succ] at hn;omega)
  have hd:=dblG_rp C ha (C.on_mul hX _) ih
  rw [<-C.mul_add hX] at hd
  rw [timesG]
  by_cases e:n % 2 = 1
  ·rw [if_pos e]
   have h2:=addG_rp C ha (C.on_mul hX _) hX hd h h1
   have e2:n = n / 2 + n / 2 + 1:=by omega
   have e3:C.mul n X = C.add (C.mul (n / 2 + n / 2) X) X:=(congrArg (fun n=>C.mul n X) e2).trans rfl
   rw [e3];exact h2
  ·rw [if_neg e]
   have e2:n / 2 + n / 2 = n:=by omega
   rw [e2] at hd;exact hd
end
theorem tmN_G:∀ n (a:F2p),tmN n a = tmG n a
 | 0,_=>rfl
 | n + 1,a=>congrArg (· + a) (tmN_G n a)
theorem dblM_f (P:J3 F2p):dblM (tM false) P = dblG P:=by
 unfold dblM dblG
 simp only [tmN_G]
 rfl
theorem addM_f (P Q:J3 F2p):addM (tM false) P Q = addG P Q:=by
 unfold addM addG genG hG kG
 simp only [tmN_G,dblM_f]
 rfl
theorem timesM_f (P:J3 F2p):∀ k n,timesM (tM false) P k n = timesG P k n
 | 0,_=>rfl
 | k + 1,n=>by rw [timesM,timesG,timesM_f P k,addM_f,dblM_f]
def io (x:Fp):F2p:=⟨x,0⟩
def i3 (P:J3 Fp):J3 F2p:=⟨io P.x,io P.y,io P.z⟩
theorem z00:(0:Fp) + 0 = 0:=by decide +kernel
theorem z0m:(0:Fp) - 0 = 0:=by decide +kernel
theorem io_add (a b:Fp):io a + io b = io (a + b):=F2p.ext rfl z00
theorem io_sub (a b:Fp):io a - io b = io (a - b):=F2p.ext rfl z0m
theorem io_mul (a b:Fp):tM true (io a) (io b) = io (a * b):=rfl
theorem io_0 (a:Fp):io a = 0↔a = 0:=⟨fun h=>congrArg F2p.x h,fun h=>by rw [h];rfl⟩
theorem io_tm:∀ n a,tmN n (io a) = io (tmG n a)
 | 0,_=>rfl
 | n + 1,a=>by show tmN n (io a) + io a = _;rw [io_tm n a,io_add];rfl
theorem dblM_t (P:J3 Fp):dblM (tM true) (i3 P) = i3 (dblG P):=by
 unfold dblM dblG
 by_cases h:P.z = 0∨P.y = 0
 ·rw [if_pos h,if_pos (show (i3 P).z = 0∨(i3 P).y = 0 from h.imp (io_0 _).2 (io_0 _).2)];rfl
 ·rw [if_neg h,if_neg (show ¬ ((i3 P).z = 0∨(i3 P).y = 0) from fun e=>h (e.imp (io_0 _).1 (io_0 _).1))]
  simp only [i3,io_mul,io_tm,io_sub]
theorem addM_t (P Q:J3 Fp):addM (tM true) (i3 P) (i3 Q) = i3 (addG P Q):=by
 unfold addM addG
 by_cases h:P.z = 0
 ·rw [if_pos h,if_pos (show (i3 P).z = 0 from (io_0 _).2 h)]
 ·rw [if_neg h,if_neg (show ¬ (i3 P).z = 0 from fun e=>h ((io_0 _).1 e))]
  have e1:tM true (i3 Q).x (tM true (i3 P).z (i3 P).z) - (i3 P).x = io (hG P Q):=by simp only [i3,io_mul,io_sub];rfl
  have e2:tM true (i3 Q).y (tM true (tM true (i3 P).z (i3 P).z) (i3 P).z) - (i3 P).y = io (kG P Q):=by simp only [i3,io_mul,io_sub];rfl
  simp only [e1,e2]
  by_cases e3:hG P Q = 0
  ·rw [if_pos e3,if_pos ((io_0 _).2 e3)]
   by_cases e4:kG P Q = 0
   ·rw [if_pos e4,if_pos ((io_0 _).2 e4),dblM_t]
   ·rw [if_neg e4,if_neg (fun e=>e4 ((io_0 _).1 e))];rfl
  ·rw [if_neg e3,if_neg (fun e=>e3 ((io_0 _).1 e))]
   unfold genG
   simp only [i3,io_mul,io_tm,io_sub]
theorem timesM_t (P:J3 Fp):∀ k n,timesM (tM true) (i3 P) k n = i3 (timesG P k n)
 | 0,_=>rfl
 | k + 1,n=>by
  rw [timesM,timesG,timesM_t P k,dblM_t,addM_t]
  by_cases e:n % 2 = 1
  ·rw [if_pos e,if_pos e]
  ·rw [if_neg e,if_neg e]
theorem doc_mulE {Fi:Fp->Fp} {Gi:F2p->F2p} {x y:Nat->Nat} {n:Nat} (h:EF.on (some (gN x,gN y))) (hn:n < 2 ^ 256):(mn1 Fi Gi x y false n).z = true↔EF.mul n (some (gN x,gN y)) = none:=by
 have hP:(⟨g2 x fz,g2 y fz,g2 (upd fz 0 1) fz⟩:J3 F2p) = i3 ⟨gN x,gN y,1⟩:=by
  unfold i3 io g2
  rw [gN_z,gN_u1]
 have hr:=timesG_rp EF rfl h (EF.rp_raise (gN x) (gN y)) rfl 256 n hn
 unfold mn1
 rw [hP,timesM_t,<-rp_z hr]
 by_cases e:(timesG (⟨gN x,gN y,1⟩:J3 Fp) 256 n).z = 0
 ·rw [cond_false,if_pos (show (i3 (timesG (⟨gN x,gN y,1⟩:J3 Fp) 256 n)).z = 0 from (io_0 _).2 e)];exact ⟨fun _=>e,fun _=>rfl⟩
 ·rw [cond_false,if_neg (show ¬ (i3 (timesG (⟨gN x,gN y,1⟩:J3 Fp) 256 n)).z = 0 from fun e2=>e ((io_0 _).1 e2))];exact ⟨fun h=>(by cases h),fun h=>absurd h e⟩
theorem doc_mulQ {Fi:Fp->Fp} {Gi:F2p->F2p} {x0 x1 y0 y1:Nat->Nat} {n:Nat} (h:ET.on (some (g2 x0 x1,g2 y0 y1))) (hn:n < 2 ^ 256):(mn2 Fi Gi x0 x1 y0 y1 false n).z = true↔ET.mul n (some (g2 x0 x1,g2 y0 y1)) = none:=by
 have hP:(⟨g2 x0 x1,g2 y0 y1,g2 (upd fz 0 1) fz⟩:J3 F2p) = ⟨g2 x0 x1,g2 y0 y1,1⟩:=by rw [g2_one]
 have hr:=timesG_rp ET rfl h (ET.rp_raise (g2 x0 x1) (g2 y0 y1)) rfl 256 n hn
 unfold mn2
 rw [hP,timesM_f,<-rp_z hr]
 by_cases e:(timesG (⟨g2 x0 x1,g2 y0 y1,1⟩:J3 F2p) 256 n).z = 0
 ·rw [cond_false,if_pos e];exact ⟨fun _=>e,fun _=>rfl⟩
 ·rw [cond_false,if_neg e];exact ⟨fun h=>(by cases h),fun h=>absurd h e⟩
def GBd:Ctx:=ctxL [(136,.pure (cK prF)),(135,.pure cCmp)]
theorem GBd_ok:CtxOk Tryz.prog GBd:=cxC okBaseD <| cxC okCmp' cxN
theorem okBlD:(CallC.pure cBl).Ok Tryz.prog 75:=by
 intro args pre v e hp
 unfold cBl at e
 split at e
 rotate_left
 ·cases e
 rename_i a
 cases e
 refine pWk tK Tryz.func75 (by kernel_rfl) (by kernel_rfl) (by rfl) (by rfl) ?_
 refine eSq mxd tK GBd_ok 60 [] (same (p:=endN (.v1 (.sc (.bo (ilt (cmpI (nv a) (nv prF)) 0)))) (.v1 (.sc (.bo (blB a))))) ?_ (by kernel_rfl))
 exact endB (cmp_bl a)
def orderD:Nat->Nat:=upd (upd orderF 4 0) 5 0
theorem okOrdD:(CallC.pure (cK orderD)).Ok Tryz.prog 36 :=
 cK_ok Tryz.func36 (by kernel_rfl) (by kernel_rfl) (same (p:=some (nm orderD) = some (nm orderD)) rfl (by kernel_rfl))
theorem bl_iff {a:Nat->Nat}:blB a = true↔nv a < pN:=by unfold blB;rw [Nat.blt_eq]
theorem lt_u4:nv (upd fz 0 4) < pN:=by decide +kernel
theorem gN_u4:gN (upd fz 0 4) = EF.b:=by decide +kernel
theorem q1_z {f:Nat->Nat}:qL [f] [fz] = true↔nv f = 0:=by
 have:=eqW_beq f fz
 rw [Bool.and_true] at this
 simp only [qL,Bool.and_true]
 rw [this,Nat.beq_eq,zero_nv]
theorem z_iff {f:Nat->Nat}:(blB f = true/\gN f = 0)↔nv f = 0:=by
 constructor
 ·rintro ⟨h1,h2⟩;exact (gN_0 (bl_iff.1 h1)).1 h2
 ·intro h
  have h1:nv f < pN:=by rw [h];exact pN_pos
  exact ⟨bl_iff.2 h1,(gN_0 h1).2 h⟩
theorem ql1 (a b:Fp):qL [vF a] [vF b] = decide (a = b):=by
 rw [Bool.eq_iff_iff,decide_eq_true_iff]
 simp only [qL,Bool.and_true,eqN_vF]
theorem ql2 (a b:F2p):qL [vF a.x,vF a.y] [vF b.x,vF b.y] = decide (a = b):=by
 rw [Bool.eq_iff_iff,decide_eq_true_iff]
 simp only [qL,Bool.and_true,Bool.and_eq_true,eqN_vF]
 exact ⟨fun h=>F2p.ext h.1 h.2,fun h=>by rw [h];exact ⟨rfl,rfl⟩⟩
def sdE (x:Fp):Fp:=x * x * x + EF.b
def cSd1:List AV->Option (List Prop × AV)
 | [.v1 (.agg [.ws .u64 6 x])]=>some ([nv x < pN],nm (vF (sdE (gN x))))
 | _=>none
def GSd1:Ctx:=ctxL [(76,.pure cP),(77,.pure (fE2 (· * ·))),(138,.pure (fE2 (· + ·)))]
theorem GSd1_ok:CtxOk Tryz.prog GSd1:=cxC okP <| cxC okFMul <| cxC okFAdd cxN
theorem okSd1:(CallC.pure cSd1).Ok Tryz.prog 78:=by
 intro args pre v e hp
 unfold cSd1 at e
 split at e
 rotate_left
 ·cases e
 rename_i x
 cases e
 have hx:nv x < pN:=hp _ (by simp)
 refine pWk tK Tryz.func78 (by kernel_rfl) (by kernel_rfl) (by rfl) (by rfl) ?_
 refine eSq mxd tK GSd1_ok 60 [] (same (p:=FOk prF 9940570264628428797 wideF/\lp x/\lp x/\FOk prF 9940570264628428797 wideF/\lp (vF (gN x * gN x))/\lp x/\FOk prF 9940570264628428797 wideF/\lp (vF (gN (vF (gN x * gN x)) * gN x))/\lp (upd fz 0 4)/\endN (nm (vF (gN (vF (gN (vF (gN x * gN x)) * gN x)) + gN (upd fz 0 4)))) (nm (vF (sdE (gN x))))) ?_ (by kernel_rfl))
 exact ⟨pOk,hx,hx,pOk,lV _,hx,pOk,lV _,lt_u4,by rw [gN_vF,gN_vF,gN_u4];exact ⟨_,rfl,fun _=>rfl⟩⟩
def ckB1 (x y:Nat->Nat) (z:Bool):Bool:=lo1 x y && A2.on fourE (⟨gN x,gN y,z⟩:A2 Fp)
def cCk1D:List AV->Option (List Prop × AV)
 | [.v1 (.agg [.ws .u64 6 x,.ws .u64 6 y,.one (.bo z)])]=>some ([],.v1 (.sc (.bo (ckB1 x y z))))
 | _=>none
def GCk1:Ctx:=ctxL [(75,.pure cBl),(76,.pure cP),(77,.pure (fE2 (· * ·))),(78,.pure cSd1)]
theorem GCk1_ok:CtxOk Tryz.prog GCk1:=cxC okBlD <| cxC okP <| cxC okFMul <| cxC okSd1 cxN
theorem ck1_z (x y:Nat->Nat):(qL [x] [fz] && qL [y] [fz]) = ckB1 x y true:=by
 rw [Bool.eq_iff_iff,Bool.and_eq_true,q1_z,q1_z,<-z_iff,<-z_iff]
 unfold ckB1 lo1
 rw [on_t]
 simp only [Bool.and_eq_true,decide_eq_true_eq]
 constructor
 ·rintro ⟨⟨a,b⟩,c,d⟩;exact ⟨⟨a,c⟩,b,d⟩
 ·rintro ⟨⟨a,c⟩,b,d⟩;exact ⟨⟨a,b⟩,c,d⟩
theorem okCk1D:(CallC.pure cCk1D).Ok Tryz.prog 34:=by
 intro args pre v e hp
 unfold cCk1D at e
 split at e
 rotate_left
 ·cases e
 rename_i x y z
 cases e
 refine pWk tK Tryz.func34 (by kernel_rfl) (by kernel_rfl) (by rfl) (by rfl) ?_
 cases z
 ·cases h1:blB x
  ·refine eSq mxd tK GCk1_ok 60 [⟨3,3,.lit (.bo false)⟩,⟨3,8,.lit (.bo false)⟩] (same (p:=blB x = false/\false = false/\endN (.v1 (.sc (.bo false))) (.v1 (.sc (.bo (ckB1 x y false))))) ?_ (by kernel_rfl))
   exact ⟨h1,rfl,endB (by unfold ckB1 lo1;rw [h1];rfl)⟩
  ·cases h2:blB y
   ·refine eSq mxd tK GCk1_ok 60 [⟨3,3,.lit (.bo true)⟩,⟨3,8,.lit (.bo false)⟩] (same (p:=blB x = true/\blB y = false/\endN (.v1 (.sc (.bo false))) (.v1 (.sc (.bo (ckB1 x y false))))) ?_ (by kernel_rfl))
    exact ⟨h1,h2,endB (by unfold ckB1 lo1;rw [h1,h2];rfl)⟩
   ·have hx:=bl_iff.1 h1
    have hy:=bl_iff.1 h2
    refine eSq mxd tK GCk1_ok 60 [⟨3,3,.lit (.bo true)⟩,⟨3,8,.lit (.bo true)⟩] (same (p:=blB x = true/\blB y = true/\FOk prF 9940570264628428797 wideF/\lp y/\lp y/\lp x/\endN (.v1 (.sc (.bo (qL [vF (gN y * gN y)] [vF (sdE (gN x))])))) (.v1 (.sc (.bo (ckB1 x y false))))) ?_ (by kernel_rfl))
    exact ⟨h1,h2,pOk,hy,hy,hx,endB (by unfold ckB1 lo1;rw [h1,h2,on_f,ql1,fourE_b];rfl)⟩
 ·rw [<-ck1_z]
  cases h1:qL [x] [fz]
  ·refine eSq mxd tK GCk1_ok 60 [⟨2,3,.lit (.bo false)⟩] (same (p:=qL [x] [fz] = false/\endN (.v1 (.sc (.bo false))) (.v1 (.sc (.bo (false && qL [y] [fz]))))) ?_ (by kernel_rfl))
   exact ⟨h1,endB rfl⟩
  ·refine eSq mxd tK GCk1_ok 60 [⟨2,3,.lit (.bo true)⟩] (same (p:=qL [x] [fz] = true/\endN (.v1 (.sc (.bo (qL [y] [fz])))) (.v1 (.sc (.bo (true && qL [y] [fz]))))) ?_ (by kernel_rfl))
   exact ⟨h1,endB (Bool.true_and _).symm⟩
theorem mn1_t {Fi:Fp->Fp} {Gi:F2p->F2p} (x y:Nat->Nat) (n:Nat):(mn1 Fi Gi x y true n).z = true:=rfl
theorem mn2_t {Fi:Fp->Fp} {Gi:F2p->F2p} (x0 x1 y0 y1:Nat->Nat) (n:Nat):(mn2 Fi Gi x0 x1 y0 y1 true n).z = true:=rfl
theorem in1_f {x y:Nat->Nat} {z:Bool} (h:ckB1 x y z = false):(lo1 x y && isE x y z) = false:=by
 rw [<-Bool.not_eq_true] at h ⊢
 intro e
 apply h
 obtain ⟨h1,h2,h3⟩:=inE_spec e
 unfold ckB1
 rw [h1,onE_of h2 h3];rfl
theorem in1_t {Fi:Fp->Fp} {Gi:F2p->F2p} {x y:Nat->Nat} {z:Bool} {n:Nat} (h:ckB1 x y z = true) (hn:n = rO) (hl:n < 2 ^ 256):(mn1 Fi Gi x y z n).z = (lo1 x y && isE x y z):=by
 unfold ckB1 at h
 rw [Bool.and_eq_true,fourE_b,A2.on_pt EF rfl] at h
 obtain ⟨h1,h2,h3⟩:=h
 rw [h1,Bool.true_and,Bool.eq_iff_iff]
 unfold isE
 rw [isIn_E,<-hn]
 cases z
 ·rw [doc_mulE h2 hl]
  exact ⟨fun e=>⟨h2,e,h3⟩,fun e=>e.2.1⟩
 ·exact ⟨fun _=>⟨h2,EF.mul_zero n,h3⟩,fun _=>mn1_t x y n⟩
def sdQ (x:F2p):F2p:=x * x * x + ET.b
def cFo:List AV->Option (List Prop × AV)
 | []=>some ([],.v1 (.agg [q6 (upd fz 0 4),q6 (upd fz 0 4)]))
 | _=>none
theorem okFo:(CallC.pure cFo).Ok Tryz.prog 143:=by
 intro args pre v e hp
 unfold cFo at e
 split at e
 rotate_left
 ·cases e
 cases e
 refine pWk tK Tryz.func143 (by kernel_rfl) (by kernel_rfl) (by rfl) (by rfl) ?_
 exact eSq mxd tK (G:=ctxL []) cxN 60 [] (same (p:=endN (.v1 (.agg [q6 (upd fz 0 4),q6 (upd fz 0 4)])) (.v1 (.agg [q6 (upd fz 0 4),q6 (upd fz 0 4)]))) ⟨_,rfl,fun _=>rfl⟩ (by kernel_rfl))
theorem g2_u4:g2 (upd fz 0 4) (upd fz 0 4) = ET.b:=by decide +kernel
def cSd2:List AV->Option (List Prop × AV)
 | [.v1 (.agg [.ws .u64 6 a,.ws .u64 6 b])]=>some ([nv a < pN,nv b < pN],.v1 (n2 (sdQ (g2 a b))))
 | _=>none
def GSd2:Ctx:=ctxL [(81,.pure (d2 (· * ·))),(93,.pure (d2 (· + ·))),(143,.pure cFo)]
theorem GSd2_ok:CtxOk Tryz.prog GSd2:=cxC okD2Mul <| cxC okD2Add <| cxC okFo cxN
theorem okSd2:(CallC.pure cSd2).Ok Tryz.prog 82:=by
 intro args pre v e hp
 unfold cSd2 at e
 split at e
 rotate_left
 ·cases e
 rename_i a b
 cases e
 have ha:nv a < pN:=hp _ (by simp)
 have hb:nv b < pN:=hp _ (by simp)
 refine pWk tK Tryz.func82 (by kernel_rfl) (by kernel_rfl) (by rfl) (by rfl) ?_
 refine eSq mxd tK GSd2_ok 60 [] (same (p:=nv a < pN/\lp b/\lp a/\lp b/\lp (vF (g2 a b * g2 a b).x)/\lp (vF (g2 a b * g2 a b).y)/\lp a/\lp b/\lp (vF (G2 (g2 a b * g2 a b) * g2 a b).x)/\lp (vF (G2 (g2 a b * g2 a b) * g2 a b).y)/\lp (upd fz 0 4)/\lp (upd fz 0 4)/\endN (.v1 (n2 (G2 (G2 (g2 a b * g2 a b) * g2 a b) + g2 (upd fz 0 4) (upd fz 0 4)))) (.v1 (n2 (sdQ (g2 a b))))) ?_ (by kernel_rfl))
 exact ⟨ha,hb,ha,hb,lV _,lV _,ha,hb,lV _,lV _,lt_u4,lt_u4,end2' (by rw [G2_eq,G2_eq,g2_u4];rfl)⟩
def ckB2 (x0 x1 y0 y1:Nat->Nat) (z:Bool):Bool:=lo2 x0 x1 y0 y1 && A2.on fourQ (⟨⟨gN x0,gN x1⟩,⟨gN y0,gN y1⟩,z⟩:A2 F2p)
def cCk2D:List AV->Option (List Prop × AV)
 | [.v1 (.agg [.ws .u64 6 x0,.ws .u64 6 x1,.ws .u64 6 y0,.ws .u64 6 y1,.one (.bo z)])]=>some ([],.v1 (.sc (.bo (ckB2 x0 x1 y0 y1 z))))
 | _=>none
def GCk2:Ctx:=ctxL [(75,.pure cBl),(81,.pure (d2 (· * ·))),(82,.pure cSd2)]
theorem GCk2_ok:CtxOk Tryz.prog GCk2:=cxC okBlD <| cxC okD2Mul <| cxC okSd2 cxN
theorem q2_zz {a b:Nat->Nat}:qL [a,b] zL2 = true↔(nv a = 0/\nv b = 0):=by
 have h1:qL [a,b] zL2 = (qL [a] [fz] && qL [b] [fz]):=by simp only [qL,Bool.and_true]
 rw [h1,Bool.and_eq_true,q1_z,q1_z]
theorem ck2_z (x0 x1 y0 y1:Nat->Nat):(qL [x0,x1] zL2 && qL [y0,y1] zL2) = ckB2 x0 x1 y0 y1 true:=by
 rw [Bool.eq_iff_iff,Bool.and_eq_true,q2_zz,q2_zz,<-z_iff,<-z_iff,<-z_iff,<-z_iff]
 unfold ckB2 lo2
 rw [on_t]
 simp only [Bool.and_eq_true,decide_eq_true_eq]
 constructor
 ·rintro ⟨⟨⟨a,b⟩,c,d⟩,⟨e,f⟩,g,h⟩;exact ⟨⟨a,c,e,g⟩,F2p.ext b d,F2p.ext f h⟩
 ·rintro ⟨⟨a,c,e,g⟩,h1,h2⟩;exact ⟨⟨⟨a,congrArg F2p.x h1⟩,c,congrArg F2p.y h1⟩,⟨e,congrArg F2p.x h2⟩,g,congrArg F2p.y h2⟩
theorem okCk2D:(CallC.pure cCk2D).Ok Tryz.prog 37:=by
 intro args pre v e hp
 unfold cCk2D at e
 split at e
 rotate_left
 ·cases e
 rename_i x0 x1 y0 y1 z
 cases e
 refine pWk tK Tryz.func37 (by kernel_rfl) (by kernel_rfl) (by rfl) (by rfl) ?_
 cases z
 ·cases h0:blB x0
  ·refine eSq mxd tK GCk2_ok 60 [⟨3,4,.lit (.bo false)⟩,⟨3,10,.lit (.bo false)⟩,⟨3,16,.lit (.bo false)⟩,⟨3,22,.lit (.bo false)⟩] (same (p:=blB x0 = false/\false = false/\false = false/\false = false/\endN (.v1 (.sc (.bo false))) (.v1 (.sc (.bo (ckB2 x0 x1 y0 y1 false))))) ?_ (by kernel_rfl))
   exact ⟨h0,rfl,rfl,rfl,endB (by unfold ckB2 lo2;rw [h0];rfl)⟩
  ·skip
   cases h1:blB x1
   ·refine eSq mxd tK GCk2_ok 60 [⟨3,4,.lit (.bo true)⟩,⟨3,10,.lit (.bo false)⟩,⟨3,16,.lit (.bo false)⟩,⟨3,22,.lit (.bo false)⟩] (same (p:=blB x0 = true/\blB x1 = false/\false = false/\false = false/\endN (.v1 (.sc (.bo false))) (.v1 (.sc (.bo (ckB2 x0 x1 y0 y1 false))))) ?_ (by kernel_rfl))
    exact ⟨h0,h1,rfl,rfl,endB (by unfold ckB2 lo2;rw [h0,h1];rfl)⟩
   ·skip
    cases h2:blB y0
    ·refine eSq mxd tK GCk2_ok 60 [⟨3,4,.lit (.bo true)⟩,⟨3,10,.lit (.bo true)⟩,⟨3,16,.lit (.bo false)⟩,⟨3,22,.lit (.bo false)⟩] (same (p:=blB x0 = true/\blB x1 = true/\blB y0 = false/\false = false/\endN (.v1 (.sc (.bo false))) (.v1 (.sc (.bo (ckB2 x0 x1 y0 y1 false))))) ?_ (by kernel_rfl))
     exact ⟨h0,h1,h2,rfl,endB (by unfold ckB2 lo2;rw [h0,h1,h2];rfl)⟩
    ·skip
     cases h3:blB y1
     ·refine eSq mxd tK GCk2_ok 60 [⟨3,4,.lit (.bo true)⟩,⟨3,10,.lit (.bo true)⟩,⟨3,16,.lit (.bo true)⟩,⟨3,22,.lit (.bo false)⟩] (same (p:=blB x0 = true/\blB x1 = true/\blB y0 = true/\blB y1 = false/\endN (.v1 (.sc (.bo false))) (.v1 (.sc (.bo (ckB2 x0 x1 y0 y1 false))))) ?_ (by kernel_rfl))
      exact ⟨h0,h1,h2,h3,endB (by unfold ckB2 lo2;rw [h0,h1,h2,h3];rfl)⟩
     ·skip
      refine eSq mxd tK GCk2_ok 60 [⟨3,4,.lit (.bo true)⟩,⟨3,10,.lit (.bo true)⟩,⟨3,16,.lit (.bo true)⟩,⟨3,22,.lit (.bo true)⟩] (same (p:=blB x0 = true/\blB x1 = true/\blB y0 = true/\blB y1 = true/\lp y0/\lp y1/\lp y0/\lp y1/\lp x0/\lp x1/\endN (.v1 (.sc (.bo (qL [vF (g2 y0 y1 * g2 y0 y1).x,vF (g2 y0 y1 * g2 y0 y1).y] [vF (sdQ (g2 x0 x1)).x,vF (sdQ (g2 x0 x1)).y])))) (.v1 (.sc (.bo (ckB2 x0 x1 y0 y1 false))))) ?_ (by kernel_rfl))
      exact ⟨h0,h1,h2,h3,bl_iff.1 h2,bl_iff.1 h3,bl_iff.1 h2,bl_iff.1 h3,bl_iff.1 h0,bl_iff.1 h1,endB (by unfold ckB2 lo2;rw [h0,h1,h2,h3,on_f,ql2,fourQ_b];rfl)⟩
 ·rw [<-ck2_z]
  cases h1:qL [x0,x1] zL2
  ·refine eSq mxd tK GCk2_ok 60 [⟨2,3,.lit (.bo false)⟩] (same (p:=qL [x0,x1] zL2 = false/\endN (.v1 (.sc (.bo false))) (.v1 (.sc (.bo (false && qL [y0,y1] zL2))))) ?_ (by kernel_rfl))
   exact ⟨h1,endB rfl⟩
  ·refine eSq mxd tK GCk2_ok 60 [⟨2,3,.lit (.bo true)⟩] (same (p:=qL [x0,x1] zL2 = true/\endN (.v1 (.sc (.bo (qL [y0,y1] zL2)))) (.v1 (.sc (.bo (true && qL [y0,y1] zL2))))) ?_ (by kernel_rfl))
   exact ⟨h1,endB (Bool.true_and _).symm⟩
theorem in2_f {x0 x1 y0 y1:Nat->Nat} {z:Bool} (h:ckB2 x0 x1 y0 y1 z = false):(lo2 x0 x1 y0 y1 && isQ x0 x1 y0 y1 z) = false:=by
 rw [<-Bool.not_eq_true] at h ⊢
 intro e
 apply h
 obtain ⟨h1,h2,h3⟩:=inQ_spec e
 unfold ckB2
 rw [h1,onQ_of h2 h3];rfl
theorem G2s_iff (n:Nat) (hn:n = rO) (X:Option (F2p × F2p)):G2s X↔(ET.on X/\ET.mul n X = none):=by rw [hn];exact Iff.rfl
theorem in2_t {Fi:Fp->Fp} {Gi:F2p->F2p} {x0 x1 y0 y1:Nat->Nat} {z:Bool} {n:Nat} (h:ckB2 x0 x1 y0 y1 z = true) (hn:n = rO) (hl:n < 2 ^ 256):(mn2 Fi Gi x0 x1 y0 y1 z n).z = (lo2 x0 x1 y0 y1 && isQ x0 x1 y0 y1 z):=by
 unfold ckB2 at h
 rw [Bool.and_eq_true,fourQ_b,A2.on_pt ET rfl] at h
 obtain ⟨h1,h2,h3⟩:=h
 rw [h1,Bool.true_and,Bool.eq_iff_iff]
 unfold isQ
 rw [isIn_Q,G2s_iff n hn]
 cases z
 ·rw [doc_mulQ h2 hl]
  exact ⟨fun e=>⟨⟨h2,e⟩,h3⟩,fun e=>e.1.2⟩
 ·exact ⟨fun _=>⟨⟨h2,ET.mul_zero n⟩,h3⟩,fun _=>mn2_t x0 x1 y0 y1 n⟩
theorem ord_bl:blen (nv orderD) = 255:=by decide +kernel
theorem ord_lt:nv orderD < 2 ^ 256:=by decide +kernel
theorem ord_r:nv orderD = rO:=by decide +kernel
theorem okIn1D {Fi:Fp->Fp} {Gi:F2p->F2p} (hF:(CallC.pure (toC Fi Gi)).Ok Tryz.prog 140):(CallC.pure cIn1).Ok Tryz.prog 8:=by
 have hG:CtxOk Tryz.prog (ctxL [(34,.pure cCk1D),(36,.pure (cK orderD)),(35,.pure (muC1 Fi Gi))]):=cxC okCk1D <| cxC okOrdD <| cxC (okMuD1 hF) cxN
 intro args pre v e hp
 unfold cIn1 at e
 split at e
 rotate_left
 ·cases e
 rename_i x y z
 cases e
 refine pWk tK Tryz.func8 (by kernel_rfl) (by kernel_rfl) (by rfl) (by rfl) ?_
 cases h:ckB1 x y z
 ·refine eSq mxd tK hG 60 [⟨1,2,.lit (.bo false)⟩] (same (p:=ckB1 x y z = false/\endN (.v1 (.sc (.bo false))) (.v1 (.sc (.bo (lo1 x y && isE x y z))))) ?_ (by kernel_rfl))
  exact ⟨h,endB (in1_f h).symm⟩
 ·have hl:lo1 x y = true:=by unfold ckB1 at h;rw [Bool.and_eq_true] at h;exact h.1
  unfold lo1 at hl
  simp only [Bool.and_eq_true] at hl
  refine eSq mxd tK hG 60 [⟨1,2,.lit (.bo true)⟩] (same (p:=ckB1 x y z = true/\lp x/\lp y/\blen (nv orderD) = 255/\endN (.v1 (.sc (.bo (mn1 Fi Gi x y z (nv orderD)).z))) (.v1 (.sc (.bo (lo1 x y && isE x y z))))) ?_ (by kernel_rfl))
  exact ⟨h,bl_iff.1 hl.1,bl_iff.1 hl.2,ord_bl,endB (in1_t h ord_r ord_lt)⟩
theorem okIn2D {Fi:Fp->Fp} {Gi:F2p->F2p} (hF:(CallC.pure (toC Fi Gi)).Ok Tryz.prog 140):(CallC.pure cIn2).Ok Tryz.prog 9:=by
 have hG:CtxOk Tryz.prog (ctxL [(37,.pure cCk2D),(36,.pure (cK orderD)),(38,.pure (muC2 Fi Gi))]):=cxC okCk2D <| cxC okOrdD <| cxC (okMuD2 hF) cxN
 intro args pre v e hp
 unfold cIn2 at e
 split at e
 rotate_left
 ·cases e
 rename_i x0 x1 y0 y1 z
 cases e
 refine pWk tK Tryz.func9 (by kernel_rfl) (by kernel_rfl) (by rfl) (by rfl) ?_
 cases h:ckB2 x0 x1 y0 y1 z
 ·refine eSq mxd tK hG 60 [⟨1,2,.lit (.bo false)⟩] (same (p:=ckB2 x0 x1 y0 y1 z = false/\endN (.v1 (.sc (.bo false))) (.v1 (.sc (.bo (lo2 x0 x1 y0 y1 && isQ x0 x1 y0 y1 z))))) ?_ (by kernel_rfl))
  exact ⟨h,endB (in2_f h).symm⟩
 ·have hl:lo2 x0 x1 y0 y1 = true:=by unfold ckB2 at h;rw [Bool.and_eq_true] at h;exact h.1
  unfold lo2 at hl
  simp only [Bool.and_eq_true] at hl
  refine eSq mxd tK hG 60 [⟨1,2,.lit (.bo true)⟩] (same (p:=ckB2 x0 x1 y0 y1 z = true/\lp x0/\lp x1/\lp y0/\lp y1/\blen (nv orderD) = 255/\endN (.v1 (.sc (.bo (mn2 Fi Gi x0 x1 y0 y1 z (nv orderD)).z))) (.v1 (.sc (.bo (lo2 x0 x1 y0 y1 && isQ x0 x1 y0 y1 z))))) ?_ (by kernel_rfl))
  exact ⟨h,bl_iff.1 hl.1,bl_iff.1 hl.2.1,bl_iff.1 hl.2.2.1,bl_iff.1 hl.2.2.2,ord_bl,endB (in2_t h ord_r ord_lt)⟩
theorem okInvQ:(CallC.pure (d1 F2p.inv)).Ok Tryz.prog 147:=by
 have:F2p.inv = F2p.inv':=funext ep
 rw [this];exact okD2Inv
def GSlq:Ctx:=ctxL [(81,.pure (d2 (· * ·))),(93,.pure (d2 (· + ·))),(146,.pure (d2 (· - ·))),(147,.pure (d1 F2p.inv))]
theorem GSlq_ok:CtxOk Tryz.prog GSlq:=cxC okD2Mul <| cxC okD2Add <| cxC okD2Sub <| cxC okInvQ cxN
def slD (ax ay bx bY:F2p):F2p:=if ax = bx/\ay = bY then slS ((ax * ax + ax * ax) + ax * ax) (ay + ay) else slS (bY - ay) (bx - ax)
theorem q4_iff {a0 a1 a2 a3 b0 b1 b2 b3:Nat->Nat} (ha0:nv a0 < pN) (ha1:nv a1 < pN) (ha2:nv a2 < pN) (ha3:nv a3 < pN) (hb0:nv b0 < pN) (hb1:nv b1 < pN) (hb2:nv b2 < pN) (hb3:nv b3 < pN):qL [a0,a1,a2,a3] [b0,b1,b2,b3] = true↔(g2 a0 a1 = g2 b0 b1/\g2 a2 a3 = g2 b2 b3):=by
 have e:∀ f g:Nat->Nat,nv f < pN->nv g < pN->(eqN W 6 f g = true↔gN f = gN g):=fun f g hf hg=>by
  have:=eqW_beq f g
  rw [Bool.and_true] at this
  rw [this,Nat.beq_eq]
  constructor
  ·intro h;unfold gN;rw [h]
  ·intro h
   have h2:=congrArg Fin.val h
   have e1:(gN f).val = nv f:=Nat.mod_eq_of_lt hf
   have e2:(gN g).val = nv g:=Nat.mod_eq_of_lt hg
   rw [e1,e2] at h2;exact h2
 simp only [qL,Bool.and_true,Bool.and_eq_true,e _ _ ha0 hb0,e _ _ ha1 hb1,e _ _ ha2 hb2,e _ _ ha3 hb3]
 constructor
 ·rintro ⟨h1,h2,h3,h4⟩;exact ⟨F2p.ext h1 h2,F2p.ext h3 h4⟩
 ·rintro ⟨h1,h2⟩;exact ⟨congrArg F2p.x h1,congrArg F2p.y h1,congrArg F2p.x h2,congrArg F2p.y h2⟩
def slC:List AV->Option (List Prop × AV)
 | [.v1 (.agg [.ws .u64 6 a0,.ws .u64 6 a1,.ws .u64 6 a2,.ws .u64 6 a3,.one (.bo false)]),.v1 (.agg [.ws .u64 6 b0,.ws .u64 6 b1,.ws .u64 6 b2,.ws .u64 6 b3,.one (.bo false)])]=>some ([nv a0 < pN,nv a1 < pN,nv a2 < pN,nv a3 < pN,nv b0 < pN,nv b1 < pN,nv b2 < pN,nv b3 < pN],.v1 (n2 (slD (g2 a0 a1) (g2 a2 a3) (g2 b0 b1) (g2 b2 b3))))
 | _=>none
theorem okSlD:(CallC.pure slC).Ok Tryz.prog 85:=by
 intro args pre v e hp
 unfold slC at e
 split at e
 rotate_left
 ·cases e
 rename_i a0 a1 a2 a3 b0 b1 b2 b3
 cases e
 have ha0:nv a0 < pN:=hp _ (by simp)
 have ha1:nv a1 < pN:=hp _ (by simp)
 have ha2:nv a2 < pN:=hp _ (by simp)
 have ha3:nv a3 < pN:=hp _ (by simp)
 have hb0:nv b0 < pN:=hp _ (by simp)
 have hb1:nv b1 < pN:=hp _ (by simp)
 have hb2:nv b2 < pN:=hp _ (by simp)
 have hb3:nv b3 < pN:=hp _ (by simp)
 have hq:=q4_iff ha0 ha1 ha2 ha3 hb0 hb1 hb2 hb3
 refine pWk tK Tryz.func85 (by kernel_rfl) (by kernel_rfl) (by rfl) (by rfl) ?_
 by_cases he:(g2 a0 a1) = (g2 b0 b1)/\(g2 a2 a3) = (g2 b2 b3)
 ·rw [show slD (g2 a0 a1) (g2 a2 a3) (g2 b0 b1) (g2 b2 b3) = slS (((g2 a0 a1) * (g2 a0 a1) + (g2 a0 a1) * (g2 a0 a1)) + (g2 a0 a1) * (g2 a0 a1)) ((g2 a2 a3) + (g2 a2 a3)) from if_pos he]
  obtain ⟨t1,ht1⟩:=exq ((g2 a0 a1) * (g2 a0 a1))
  obtain ⟨t2,ht2⟩:=exq (t1 + t1)
  obtain ⟨t3,ht3⟩:=exq (t2 + t1)
  obtain ⟨t4,ht4⟩:=exq ((g2 a2 a3) + (g2 a2 a3))
  obtain ⟨t5,ht5⟩:=exq (F2p.inv t4)
  obtain ⟨t6,ht6⟩:=exq (t3 * t5)
  refine eSq mxd tK GSlq_ok 100 [⟨1,2,.lit (.bo true)⟩,⟨2,4,.as (vC2 t1)⟩,⟨3,2,.as (vC2 t2)⟩,⟨3,4,.as (vC2 t3)⟩,⟨3,9,.as (vC2 t4)⟩,⟨3,10,.as (vC2 t5)⟩,⟨3,11,.as (vC2 t6)⟩] ?_
  refine same (p:=qL [a0,a1,a2,a3] [b0,b1,b2,b3] = true/\asP (vC2 ((g2 a0 a1) * (g2 a0 a1))) (vC2 t1)/\lp a0/\lp a1/\lp a0/\lp a1/\asP (vC2 ((g2 (vF t1.x) (vF t1.y)) + (g2 (vF t1.x) (vF t1.y)))) (vC2 t2)/\lp (vF t1.x)/\lp (vF t1.y)/\lp (vF t1.x)/\lp (vF t1.y)/\asP (vC2 ((g2 (vF t2.x) (vF t2.y)) + (g2 (vF t1.x) (vF t1.y)))) (vC2 t3)/\lp (vF t2.x)/\lp (vF t2.y)/\lp (vF t1.x)/\lp (vF t1.y)/\asP (vC2 ((g2 a2 a3) + (g2 a2 a3))) (vC2 t4)/\lp a2/\lp a3/\lp a2/\lp a3/\asP (vC2 (F2p.inv (g2 (vF t4.x) (vF t4.y)))) (vC2 t5)/\lp (vF t4.x)/\lp (vF t4.y)/\asP (vC2 ((g2 (vF t3.x) (vF t3.y)) * (g2 (vF t5.x) (vF t5.y)))) (vC2 t6)/\lp (vF t3.x)/\lp (vF t3.y)/\lp (vF t5.x)/\lp (vF t5.y)/\endN (.v1 (n2 t6)) (.v1 (n2 (slS (((g2 a0 a1) * (g2 a0 a1) + (g2 a0 a1) * (g2 a0 a1)) + (g2 a0 a1) * (g2 a0 a1)) ((g2 a2 a3) + (g2 a2 a3)))))) ?_ (by kernel_rfl)
  exact ⟨hq.2 he,asD ht1.symm,ha0,ha1,ha0,ha1,asD (by rw [g2V];exact ht2.symm),lV _,lV _,lV _,lV _,asD (by rw [g2V,g2V];exact ht3.symm),lV _,lV _,lV _,lV _,asD ht4.symm,ha2,ha3,ha2,ha3,asD (by rw [g2V];exact ht5.symm),lV _,lV _,asD (by rw [g2V,g2V];exact ht6.symm),lV _,lV _,lV _,lV _,by rw [show slS (((g2 a0 a1) * (g2 a0 a1) + (g2 a0 a1) * (g2 a0 a1)) + (g2 a0 a1) * (g2 a0 a1)) ((g2 a2 a3) + (g2 a2 a3)) = t6 by rw [ht6,ht5,ht4,ht3,ht2,ht1];rfl];exact ⟨_,rfl,fun _=>rfl⟩⟩
 ·rw [show slD (g2 a0 a1) (g2 a2 a3) (g2 b0 b1) (g2 b2 b3) = slS ((g2 b2 b3) - (g2 a2 a3)) ((g2 b0 b1) - (g2 a0 a1)) from if_neg he]
  obtain ⟨t1,ht1⟩:=exq ((g2 b2 b3) - (g2 a2 a3))
  obtain ⟨t2,ht2⟩:=exq ((g2 b0 b1) - (g2 a0 a1))
  obtain ⟨t3,ht3⟩:=exq (F2p.inv t2)
  obtain ⟨t4,ht4⟩:=exq (t1 * t3)
  refine eSq mxd tK GSlq_ok 100 [⟨1,2,.lit (.bo false)⟩,⟨4,4,.as (vC2 t1)⟩,⟨4,9,.as (vC2 t2)⟩,⟨4,10,.as (vC2 t3)⟩,⟨4,11,.as (vC2 t4)⟩] ?_
  refine same (p:=qL [a0,a1,a2,a3] [b0,b1,b2,b3] = false/\asP (vC2 ((g2 b2 b3) - (g2 a2 a3))) (vC2 t1)/\lp b2/\lp b3/\lp a2/\lp a3/\asP (vC2 ((g2 b0 b1) - (g2 a0 a1))) (vC2 t2)/\lp b0/\lp b1/\lp a0/\lp a1/\asP (vC2 (F2p.inv (g2 (vF t2.x) (vF t2.y)))) (vC2 t3)/\lp (vF t2.x)/\lp (vF t2.y)/\asP (vC2 ((g2 (vF t1.x) (vF t1.y)) * (g2 (vF t3.x) (vF t3.y)))) (vC2 t4)/\lp (vF t1.x)/\lp (vF t1.y)/\lp (vF t3.x)/\lp (vF t3.y)/\endN (.v1 (n2 t4)) (.v1 (n2 (slS ((g2 b2 b3) - (g2 a2 a3)) ((g2 b0 b1) - (g2 a0 a1)))))) ?_ (by kernel_rfl)
  exact ⟨by rw [<-Bool.not_eq_true];exact fun e=>he (hq.1 e),asD ht1.symm,hb2,hb3,ha2,ha3,asD ht2.symm,hb0,hb1,ha0,ha1,asD (by rw [g2V];exact ht3.symm),lV _,lV _,asD (by rw [g2V,g2V];exact ht4.symm),lV _,lV _,lV _,lV _,by rw [show slS ((g2 b2 b3) - (g2 a2 a3)) ((g2 b0 b1) - (g2 a0 a1)) = t4 by rw [ht4,ht3,ht2,ht1];rfl];exact ⟨_,rfl,fun _=>rfl⟩⟩
def ngC2:List AV->Option (List Prop × AV)
 | [.v1 (.agg [.ws .u64 6 b0,.ws .u64 6 b1,.ws .u64 6 b2,.ws .u64 6 b3,.one (.bo false)])]=>some ([nv b2 < pN,nv b3 < pN],.v1 (.agg [q6 b0,q6 b1,q6 (vF (F2p.ng (g2 b2 b3)).x),q6 (vF (F2p.ng (g2 b2 b3)).y),.one (.bo false)]))
 | _=>none
theorem okNg2:(CallC.pure ngC2).Ok Tryz.prog 148:=by
 intro args pre v e hp
 unfold ngC2 at e
 split at e
 rotate_left
 ·cases e
 rename_i b0 b1 b2 b3
 cases e
 refine pWk tK Tryz.func148 (by kernel_rfl) (by kernel_rfl) (by rfl) (by rfl) ?_
 refine eSq mxd tK (G:=ctxL [(95,.pure (d1 F2p.ng))]) (cxC okD2Neg cxN) 60 [] (same (p:=nv b2 < pN/\lp b3/\endN (.v1 (.agg [q6 b0,q6 b1,q6 (vF (F2p.ng (g2 b2 b3)).x),q6 (vF (F2p.ng (g2 b2 b3)).y),.one (.bo false)])) (.v1 (.agg [q6 b0,q6 b1,q6 (vF (F2p.ng (g2 b2 b3)).x),q6 (vF (F2p.ng (g2 b2 b3)).y),.one (.bo false)]))) ?_ (by kernel_rfl))
 exact ⟨hp _ (by simp),hp _ (by simp),_,rfl,fun _=>rfl⟩
abbrev pW (x y:F2p):AV:=.v1 (.agg [q6 (vF x.x),q6 (vF x.y),q6 (vF y.x),q6 (vF y.y),.one (.bo false)])
def aqC:List AV->Option (List Prop × AV)
 | [.v1 (.agg [.ws .u64 6 a0,.ws .u64 6 a1,.ws .u64 6 a2,.ws .u64 6 a3,.one (.bo false)]),.v1 (.agg [.ws .u64 6 b0,.ws .u64 6 b1,.ws .u64 6 b2,.ws .u64 6 b3,.one (.bo false)])]=>some ([nv a0 < pN,nv a1 < pN,nv a2 < pN,nv a3 < pN,nv b0 < pN,nv b1 < pN,nv b2 < pN,nv b3 < pN,¬ ((g2 a0 a1) = (g2 b0 b1)/\(g2 a2 a3) = F2p.ng (g2 b2 b3))],pW (stX (g2 a0 a1) (slD (g2 a0 a1) (g2 a2 a3) (g2 b0 b1) (g2 b2 b3)) (g2 b0 b1)) (stY (g2 a0 a1) (g2 a2 a3) (slD (g2 a0 a1) (g2 a2 a3) (g2 b0 b1) (g2 b2 b3)) (g2 b0 b1)))
 | _=>none
def GAq:Ctx:=ctxL [(81,.pure (d2 (· * ·))),(146,.pure (d2 (· - ·))),(148,.pure ngC2),(85,.pure slC)]
theorem GAq_ok:CtxOk Tryz.prog GAq:=cxC okD2Mul <| cxC okD2Sub <| cxC okNg2 <| cxC okSlD cxN
theorem okAq:(CallC.pure aqC).Ok Tryz.prog 86:=by
 intro args pre v e hp
 unfold aqC at e
 split at e
 rotate_left
 ·cases e
 rename_i a0 a1 a2 a3 b0 b1 b2 b3
 cases e
 have ha0:nv a0 < pN:=hp _ (by simp)
 have ha1:nv a1 < pN:=hp _ (by simp)
 have ha2:nv a2 < pN:=hp _ (by simp)
 have ha3:nv a3 < pN:=hp _ (by simp)
 have hb0:nv b0 < pN:=hp _ (by simp)
 have hb1:nv b1 < pN:=hp _ (by simp)
 have hb2:nv b2 < pN:=hp _ (by simp)
 have hb3:nv b3 < pN:=hp _ (by simp)
 have hno:¬ ((g2 a0 a1) = (g2 b0 b1)/\(g2 a2 a3) = F2p.ng (g2 b2 b3)):=hp _ (by simp)
 have hq:=q4_iff ha0 ha1 ha2 ha3 hb0 hb1 (lV (F2p.ng (g2 b2 b3)).x) (lV (F2p.ng (g2 b2 b3)).y)
 rw [g2V] at hq
 refine pWk tK Tryz.func86 (by kernel_rfl) (by kernel_rfl) (by rfl) (by rfl) ?_
 obtain ⟨m,hm⟩:=exq (slD (g2 a0 a1) (g2 a2 a3) (g2 b0 b1) (g2 b2 b3))
 rw [<-hm]
 obtain ⟨t1,ht1⟩:=exq (m * m)
 obtain ⟨t2,ht2⟩:=exq (t1 - (g2 a0 a1))
 obtain ⟨t3,ht3⟩:=exq (t2 - (g2 b0 b1))
 obtain ⟨t4,ht4⟩:=exq ((g2 a0 a1) - t3)
 obtain ⟨t5,ht5⟩:=exq (m * t4)
 obtain ⟨t6,ht6⟩:=exq (t5 - (g2 a2 a3))
 refine eSq mxd tK GAq_ok 100 [⟨5,3,.lit (.bo false)⟩,⟨7,2,.as (vC2 m)⟩,⟨8,2,.as (vC2 t1)⟩,⟨8,5,.as (vC2 t2)⟩,⟨8,8,.as (vC2 t3)⟩,⟨9,5,.as (vC2 t4)⟩,⟨9,6,.as (vC2 t5)⟩,⟨9,9,.as (vC2 t6)⟩] ?_
 refine same (p:=nv b2 < pN/\lp b3/\qL [a0,a1,a2,a3] [b0,b1,vF (F2p.ng (g2 b2 b3)).x,vF (F2p.ng (g2 b2 b3)).y] = false/\asP (vC2 (slD (g2 a0 a1) (g2 a2 a3) (g2 b0 b1) (g2 b2 b3))) (vC2 m)/\lp a0/\lp a1/\lp a2/\lp a3/\lp b0/\lp b1/\lp b2/\lp b3/\asP (vC2 ((g2 (vF m.x) (vF m.y)) * (g2 (vF m.x) (vF m.y)))) (vC2 t1)/\lp (vF m.x)/\lp (vF m.y)/\lp (vF m.x)/\lp (vF m.y)/\asP (vC2 ((g2 (vF t1.x) (vF t1.y)) - (g2 a0 a1))) (vC2 t2)/\lp (vF t1.x)/\lp (vF t1.y)/\lp a0/\lp a1/\asP (vC2 ((g2 (vF t2.x) (vF t2.y)) - (g2 b0 b1))) (vC2 t3)/\lp (vF t2.x)/\lp (vF t2.y)/\lp b0/\lp b1/\asP (vC2 ((g2 a0 a1) - (g2 (vF t3.x) (vF t3.y)))) (vC2 t4)/\lp a0/\lp a1/\lp (vF t3.x)/\lp (vF t3.y)/\asP (vC2 ((g2 (vF m.x) (vF m.y)) * (g2 (vF t4.x) (vF t4.y)))) (vC2 t5)/\lp (vF m.x)/\lp (vF m.y)/\lp (vF t4.x)/\lp (vF t4.y)/\asP (vC2 ((g2 (vF t5.x) (vF t5.y)) - (g2 a2 a3))) (vC2 t6)/\lp (vF t5.x)/\lp (vF t5.y)/\lp a2/\lp a3/\endN (pW t3 t6) (pW (stX (g2 a0 a1) m (g2 b0 b1)) (stY (g2 a0 a1) (g2 a2 a3) m (g2 b0 b1)))) ?_ (by kernel_rfl)
 exact ⟨hb2,hb3,by rw [<-Bool.not_eq_true];exact fun e=>hno (hq.1 e),asD hm.symm,ha0,ha1,ha2,ha3,hb0,hb1,hb2,hb3,asD (by rw [g2V];exact ht1.symm),lV _,lV _,lV _,lV _,asD (by rw [g2V];exact ht2.symm),lV _,lV _,ha0,ha1,asD (by rw [g2V];exact ht3.symm),lV _,lV _,hb0,hb1,asD (by rw [g2V];exact ht4.symm),ha0,ha1,lV _,lV _,asD (by rw [g2V,g2V];exact ht5.symm),lV _,lV _,lV _,lV _,asD (by rw [g2V];exact ht6.symm),lV _,lV _,ha2,ha3,by rw [show stY (g2 a0 a1) (g2 a2 a3) m (g2 b0 b1) = t6 by rw [ht6,ht5,ht4,ht3,ht2,ht1];rfl,show stX (g2 a0 a1) m (g2 b0 b1) = t3 by rw [ht3,ht2,ht1];rfl];exact ⟨_,rfl,fun _=>rfl⟩⟩
def GDvq:Ctx:=ctxL [(94,.pure (c2D kx)),(147,.pure (d1 F2p.inv)),(81,.pure (d2 (· * ·)))]
theorem GDvq_ok:CtxOk Tryz.prog GDvq:=cxC okXi <| cxC okInvQ <| cxC okD2Mul cxN
theorem okDvD:(CallC.pure (d1 (· * unS))).Ok Tryz.prog 144:=by
 refine d1_ok Tryz.func144 (by kernel_rfl) (by kernel_rfl) fun a b ha hb=>?_
 obtain ⟨u,hu⟩:=exq (F2p.inv kx)
 have hun:unS = u:=by rw [hu,ep];exact unS_inv
 rw [hun]
 refine eSq mxd tK GDvq_ok 100 [⟨1,2,.as (vC2 u)⟩] ?_
 refine same (p:=asP (vC2 (F2p.inv (g2 (vF kx.x) (vF kx.y)))) (vC2 u)/\lp (vF kx.x)/\lp (vF kx.y)/\lp a/\lp b/\lp (vF u.x)/\lp (vF u.y)/\endN (.v1 (n2 (g2 a b * g2 (vF u.x) (vF u.y)))) (.v1 (n2 (g2 a b * u)))) ?_ (by kernel_rfl)
 exact ⟨asD (by rw [g2V];exact hu.symm),lV _,lV _,ha,hb,lV _,lV _,end2' (by rw [g2V])⟩
def GLn:Ctx:=ctxL [(76,.pure cP),(77,.pure (fE2 (· * ·))),(145,.pure (f1 (0 - ·))),(144,.pure (d1 (· * unS))),(81,.pure (d2 (· * ·))),(146,.pure (d2 (· - ·)))]
theorem GLn_ok:CtxOk Tryz.prog GLn:=cxC okP <| cxC okFMul <| cxC okFNeg <| cxC okDvD <| cxC okD2Mul <| cxC okD2Sub cxN
def lnC:List AV->Option (List Prop × AV)
 | [.v1 (.agg [.ws .u64 6 t0,.ws .u64 6 t1,.ws .u64 6 t2,.ws .u64 6 t3,.one (.bo z)]),.v1 (.agg [.ws .u64 6 m0,.ws .u64 6 m1]),.v1 (.agg [.ws .u64 6 px,.ws .u64 6 py,.one (.bo z2)])]=>some ([nv t0 < pN,nv t1 < pN,nv t2 < pN,nv t3 < pN,nv m0 < pN,nv m1 < pN,nv px < pN,nv py < pN],.v1 (n12 (lnS (gN px) (gN py) (g2 t0 t1) (g2 t2 t3) (g2 m0 m1))))
 | _=>none
theorem ln_end {py:Nat->Nat} {l3 l5:F2p} (h:nv py < pN):endN (.v1 (v12 py fz fz fz fz fz (vF l3.x) (vF l3.y) fz fz (vF l5.x) (vF l5.y))) (.v1 (n12 (lnT (gN py) l3 l5))):=by
 have e:nv py = nv (vF (gN py)):=by rw [nv_vF];exact (Nat.mod_eq_of_lt h).symm
 exact ⟨_,rfl,fun ρ=>v12_val e z0V z0V z0V z0V z0V rfl rfl z0V z0V rfl rfl ρ⟩
theorem okLn:(CallC.pure lnC).Ok Tryz.prog 84:=by
 intro args pre v e hp
 unfold lnC at e
 split at e
 rotate_left
 ·cases e
 rename_i t0 t1 t2 t3 z m0 m1 px py z2
 cases e
 have ht0:nv t0 < pN:=hp _ (by simp)
 have ht1:nv t1 < pN:=hp _ (by simp)
 have ht2:nv t2 < pN:=hp _ (by simp)
 have ht3:nv t3 < pN:=hp _ (by simp)
 have hm0:nv m0 < pN:=hp _ (by simp)
 have hm1:nv m1 < pN:=hp _ (by simp)
 have hpx:nv px < pN:=hp _ (by simp)
 have hpy:nv py < pN:=hp _ (by simp)
 refine pWk tK Tryz.func84 (by kernel_rfl) (by kernel_rfl) (by rfl) (by rfl) ?_
 obtain ⟨n0,hn0⟩:=exq (0 - gN m0 * gN px)
 obtain ⟨n1,hn1⟩:=exq (0 - gN m1 * gN px)
 obtain ⟨l5,hl5⟩:=exq ((⟨n0,n1⟩:F2p) * unS)
 obtain ⟨r1,hr1⟩:=exq (g2 m0 m1 * g2 t0 t1)
 obtain ⟨r2,hr2⟩:=exq (r1 - g2 t2 t3)
 obtain ⟨l3,hl3⟩:=exq (r2 * unS)
 have hln:lnS (gN px) (gN py) (g2 t0 t1) (g2 t2 t3) (g2 m0 m1) = lnT (gN py) l3 l5:=by
  rw [hl3,hr2,hr1,hl5,hn0,hn1];rfl
 rw [hln]
 have hng:∀ a:Fp,(fun x:Fp=>0 - x) (gN (vF a)) = 0 - a:=fun a=>by show 0 - gN (vF a) = 0 - a;rw [gN_vF]
 refine eSq mxd tK GLn_ok 200 [⟨4,7,.as [q6 (vF n0)]⟩,⟨4,15,.as [q6 (vF n1)]⟩,⟨4,17,.as (vC2 l5)⟩,⟨5,3,.as (vC2 r1)⟩,⟨5,6,.as (vC2 r2)⟩,⟨5,7,.as (vC2 l3)⟩] ?_
 refine same (p:=FOk prF 9940570264628428797 wideF/\lp m0/\lp px/\asP [q6 (vF (0 - gN (vF (gN m0 * gN px))))] [q6 (vF n0)]/\FOk prF 9940570264628428797 wideF/\lp (vF (gN m0 * gN px))/\FOk prF 9940570264628428797 wideF/\lp m1/\lp px/\asP [q6 (vF (0 - gN (vF (gN m1 * gN px))))] [q6 (vF n1)]/\FOk prF 9940570264628428797 wideF/\nv (vF (gN m1 * gN px)) < pN /\
  asP (vC2 (g2 (vF n0) (vF n1) * unS)) (vC2 l5)/\lp (vF n0)/\nv (vF n1) < pN /\
  asP (vC2 (g2 m0 m1 * g2 t0 t1)) (vC2 r1)/\lp m0/\lp m1/\lp t0/\nv t1 < pN /\
  asP (vC2 (g2 (vF r1.x) (vF r1.y) - g2 t2 t3)) (vC2 r2)/\lp (vF r1.x)/\lp (vF r1.y)/\lp t2/\nv t3 < pN /\
  asP (vC2 (g2 (vF r2.x) (vF r2.y) * unS)) (vC2 l3)/\lp (vF r2.x)/\nv (vF r2.y) < pN /\
  endN (.v1 (v12 py fz fz fz fz fz (vF l3.x) (vF l3.y) fz fz (vF l5.x) (vF l5.y))) (.v1 (n12 (lnT (gN py) l3 l5)))) ?_ (by kernel_rfl)
 exact ⟨pOk,hm0,hpx,(by rw [gN_vF,hn0];exact fun _=>rfl),pOk,lV _,pOk,hm1,hpx,(by rw [gN_vF,hn1];exact fun _=>rfl),pOk,lV _,asD (by rw [hl5];show (⟨gN (vF n0),gN (vF n1)⟩:F2p) * unS = _;rw [gN_vF,gN_vF]),lV _,lV _,asD hr1.symm,hm0,hm1,ht0,ht1,asD (by rw [g2V];exact hr2.symm),lV _,lV _,ht2,ht3,asD (by rw [g2V];exact hl3.symm),lV _,lV _,ln_end hpy⟩
theorem g12_vF (s:S12):(g12v s) = s:=G12_eq s
theorem asN {u t:S12} (h:u = t):asP (vC12 u) (vC12 t):=by subst h;exact fun _=>rfl
theorem asW {a b c d:F2p} (h:a = b) (k:c = d):asP [q6 (vF a.x),q6 (vF a.y),q6 (vF c.x),q6 (vF c.y),.one (.bo false)] [q6 (vF b.x),q6 (vF b.y),q6 (vF d.x),q6 (vF d.y),.one (.bo false)]:=by subst h k;exact fun _=>rfl
theorem ng_opp {a b:F2p} (h:a = F2p.ng b):a + b = 0:=by
 rw [h]
 show (⟨0 - b.x + b.x,0 - b.y + b.y⟩:F2p) = 0
 exact F2p.ext (show 0 - b.x + b.x = 0 by grind) (show 0 - b.y + b.y = 0 by grind)
section
variable {q:F2p × F2p} {p:Fp × Fp}
theorem dbl_no {n:Nat} {s:WS} (hq:ET.on (some q)) (h:Wk q p n s) (hn:ET.mul (n + n) (some q) ≠ none):¬ (s.tx = s.tx/\s.ty = F2p.ng s.ty):=fun e=>by
 have hd:ET.mul (n + n) (some q) = ET.add (some (s.tx,s.ty)) (some (s.tx,s.ty)):=by rw [ET.mul_add hq,h.1]
 have ho:Opp (s.tx,s.ty) (s.tx,s.ty):=⟨rfl,ng_opp e.2⟩
 exact hn (by rw [hd,ET.add_opp ho])
theorem add_no {n:Nat} {s:WS} (hq:ET.on (some q)) (h:Wk q p (n + 1) s) (hn:ET.mul n (some q) ≠ none) (hn2:ET.mul (n + 2) (some q) ≠ none):s.tx ≠ q.1:=fun e=>by
 obtain ⟨h1,_⟩:=h
 have ht:ET.on (some (s.tx,s.ty)):=by rw [<-h1];exact ET.on_mul hq (n + 1)
 have hd:ET.mul (n + 2) (some q) = ET.add (some (s.tx,s.ty)) (some q):=by rw [<-h1];rfl
 have ho:¬ Opp (s.tx,s.ty) q:=fun ho=>hn2 (by rw [hd,ET.add_opp ho])
 have hy:s.ty = q.2:=by
  have a1:s.ty * s.ty = s.tx * s.tx * s.tx + 0 * s.tx + bT:=ht
  have a2:q.2 * q.2 = q.1 * q.1 * q.1 + 0 * q.1 + bT:=hq
  rw [e,<-a2] at a1
  have a3:(s.ty - q.2) * (s.ty + q.2) = 0:=by grind
  rcases F2p.dom a3 with h | h
  ·grind
  ·exact absurd ⟨e,h⟩ ho
 apply hn
 have e1:ET.mul (n + 1) (some q) = some q:=by rw [h1,e,hy]
 have e2:ET.add (ET.mul n (some q)) (some q) = some q:=e1
 have e3:ET.grp.add ⟨some q,hq⟩ ⟨ET.mul n (some q),ET.on_mul hq n⟩ = ET.grp.add ⟨some q,hq⟩ ET.grp.o:=Subtype.ext (by
  show ET.add (some q) (ET.mul n (some q)) = ET.add (some q) none
  rw [ET.add_comm hq (ET.on_mul hq n),e2];rfl)
 exact congrArg Subtype.val (ET.grp.cancel e3)
theorem wk_no (hq:ET.on (some q)) (hp:EF.on (some p)) (hr:ET.mul rO (some q) = none) {k n:Nat} (h1:2 ^ k <= n) (h2:n < 2 ^ (k + 1)) (h3:n + n + 2 < rO):¬ ((wkT p.1 p.2 q.1 q.2 k n).tx = (wkT p.1 p.2 q.1 q.2 k n).tx/\(wkT p.1 p.2 q.1 q.2 k n).ty = F2p.ng (wkT p.1 p.2 q.1 q.2 k n).ty)/\(twW p.1 p.2 (wkT p.1 p.2 q.1 q.2 k n)).tx ≠ q.1:=by
 have h0:0 < 2 ^ k:=Nat.pow_pos (by decide)
 have hw:=wk_ok hq hp hr k n h1 h2 (by omega)
 have hn:=nz hq hr (n:=n + n) (by omega) (by omega)
 refine ⟨dbl_no hq hw hn,?_⟩
 have h4:=tw_ok hq hp hw hn
 have e4:n + n = (n + n - 1) + 1:=by omega
 rw [e4] at h4
 exact add_no hq h4 (nz hq hr (by omega) (by omega)) (nz hq hr (by omega) (by omega))
end
theorem slD_self (ax ay:F2p):slD ax ay ax ay = slS ((ax * ax + ax * ax) + ax * ax) (ay + ay):=if_pos ⟨rfl,rfl⟩
theorem slD_ne {ax ay bx bY:F2p} (h:ax ≠ bx):slD ax ay bx bY = slS (bY - ay) (bx - ax):=if_neg fun e=>h e.1
def Lt4 (t:Nat->Nat->Nat):Prop:=nv (t 0) < pN/\nv (t 1) < pN/\nv (t 2) < pN/\nv (t 3) < pN
def s4 (X Y:F2p):Nat->Nat->Nat:=of6 (vF X.x) (vF X.y) (vF Y.x) (vF Y.y) fz fz
def W4 (t:Nat->Nat->Nat) (f:S12):WS:=⟨g2 (t 0) (t 1),g2 (t 2) (t 3),f⟩
theorem W4_s (X Y:F2p) (f:S12):W4 (s4 X Y) f = ⟨X,Y,f⟩:=by
 show (⟨g2 (vF X.x) (vF X.y),g2 (vF Y.x) (vF Y.y),f⟩:WS) = _
 rw [g2V,g2V]
def Iwq (px py:Fp) (qx qy:F2p) (x:Nat × ((Nat->Nat->Nat) × S12)):Prop:=x.1 <= 63/\Lt4 x.2.1/\W4 x.2.1 x.2.2 = wkT px py qx qy (63 - x.1) (nU / 2 ^ x.1)
abbrev Vwq (k:Nat):List AV:=[pt 0 0,pt 1 0,pt 2 0,pt 4 0,pt 5 0,iv (predI k)]
abbrev Hwq (px py x0 x1 y0 y1:Nat->Nat) (t:Nat->Nat->Nat) (f:S12):Heap:=[some ⟨26,[q6 px,q6 py,.one (.bo false)],0,0⟩,some ⟨30,[q6 x0,q6 x1,q6 y0,q6 y1,.one (.bo false)],0,0⟩,some ⟨32,[q6 fz,q6 fz,q6 fz,q6 fz,q6 fz,q6 fz,q6 fz,q6 fz,q6 fz,q6 fz,q6 fz,q6 fz],0,0⟩,none,some ⟨32,(vC12 f),0,0⟩,some ⟨30,[q6 (t 0),q6 (t 1),q6 (t 2),q6 (t 3),.one (.bo false)],0,0⟩]
def GWq:Ctx:=ctxL [(39,.pure (c12 (n12 1))),(44,.pure (dd2 S12.mul)),(45,.pure (dd1 S12.conj)),(85,.pure slC),(86,.pure aqC),(84,.pure lnC)]
theorem GWq_ok:CtxOk Tryz.prog GWq:=cxC okD12One <| cxC okD12Mul <| cxC okD12Conj <| cxC okSlD <| cxC okAq <| cxC okLn cxN
theorem nU_lit:15132376222941642752 = nU:=by decide +kernel
theorem nUbit {k:Nat} (h:k < 63):(15132376222941642752 / 2 ^ min k 64 &&& 1) % W = nU / 2 ^ k % 2:=by
 have h1:min k 64 = k:=by omega
 rw [h1,Nat.and_one_is_mod,nU_lit]
 exact Nat.mod_eq_of_lt (Nat.lt_of_lt_of_le (Nat.mod_lt _ (by decide)) (by decide))
theorem nU_top {k:Nat} (h:k <= 63):2 ^ (63 - k) <= nU / 2 ^ k/\nU / 2 ^ k < 2 ^ (63 - k + 1):=by
 have hk:2 ^ (63 - k) * 2 ^ k = 2 ^ 63:=by rw [<-Nat.pow_add];congr 1;omega
 have hk2:2 ^ (63 - k + 1) * 2 ^ k = 2 ^ 64:=by rw [<-Nat.pow_add];congr 1;omega
 have h1:2 ^ 63 <= nU:=by decide +kernel
 have h2:nU < 2 ^ 64:=by decide +kernel
 have h0:0 < 2 ^ k:=Nat.pow_pos (by decide)
 exact ⟨(Nat.le_div_iff_mul_le h0).2 (by rw [hk];exact h1),(Nat.div_lt_iff_lt_mul h0).2 (by rw [hk2];exact h2)⟩
theorem nU_small {k:Nat} (h:k <= 63):nU / 2 ^ k + nU / 2 ^ k + 2 < rO:=by
 have h1:nU / 2 ^ k <= nU:=Nat.div_le_self _ _
 have h2:nU + nU + 2 < rO:=by decide +kernel
 omega
def wqC:List AV->Option (List Prop × AV)
 | [.v1 (.agg [.ws .u64 6 px,.ws .u64 6 py,.one (.bo false)]),.v1 (.agg [.ws .u64 6 x0,.ws .u64 6 x1,.ws .u64 6 y0,.ws .u64 6 y1,.one (.bo false)])]=>some ([(lo1 px py && isE px py false) = true,(lo2 x0 x1 y0 y1 && isQ x0 x1 y0 y1 false) = true],.v1 (n12 (walkS (gN px) (gN py) (g2 x0 x1) (g2 y0 y1))))
 | _=>none
theorem okWkD:(CallC.pure wqC).Ok Tryz.prog 40:=by
 intro args pre v e hp
 unfold wqC at e
 split at e
 rotate_left
 ·cases e
 rename_i px py x0 x1 y0 y1
 cases e
 have hE:(lo1 px py && isE px py false) = true:=hp _ (by simp)
 have hQ:(lo2 x0 x1 y0 y1 && isQ x0 x1 y0 y1 false) = true:=hp _ (by simp)
 obtain ⟨hl1,hg1,_⟩:=inE_spec hE
 obtain ⟨hl2,hg2,_⟩:=inQ_spec hQ
 unfold lo1 at hl1
 unfold lo2 at hl2
 simp only [Bool.and_eq_true,bl_iff] at hl1 hl2
 obtain ⟨hpx,hpy⟩:=hl1
 obtain ⟨hx0,hx1,hy0,hy1⟩:=hl2
 have hp1:EF.on (some (gN px,gN py)):=hg1.1
 have hq1:ET.on (some (g2 x0 x1,g2 y0 y1)):=hg2.1
 have hq2:ET.mul rO (some (g2 x0 x1,g2 y0 y1)) = none:=hg2.2
 refine pWk tK Tryz.func40 (by kernel_rfl) (by kernel_rfl) (by rfl) (by rfl) ?_
 refine loopF mxd tK GWq_ok (by kernel_rfl) (ι:={x_ // Iwq (gN px) (gN py) (g2 x0 x1) (g2 y0 y1) x_}) [2,3,4,5,6,7] 44 6 (fun x_=>Vwq x_.1.1) (fun x_=>Hwq px py x0 x1 y0 y1 x_.1.2.1 x_.1.2.2) (fun x_=>x_.1.1) (fun x_=>x_.1.1 = 0)
  (fun _=>rfl) (fun _=>by kernel_rfl) (fun _ _ h=>h.elim) 200 [] ?_ ?_ ?_
 ·refine same (p:=true = true/\∃ j:{x_ // Iwq (gN px) (gN py) (g2 x0 x1) (g2 y0 y1) x_},Vwq 63 = Vwq j.1.1/\Hwq px py x0 x1 y0 y1 (of6 x0 x1 y0 y1 fz fz) 1 = Hwq px py x0 x1 y0 y1 j.1.2.1 j.1.2.2) ?_ (by kernel_rfl)
  exact ⟨rfl,⟨(63,(of6 x0 x1 y0 y1 fz fz,1)),Nat.le_refl _,⟨hx0,hx1,hy0,hy1⟩,rfl⟩,rfl,rfl⟩
 ·intro ⟨⟨k,t,f⟩,hk,hT,hv⟩ junk
  simp only at hk hv
  have hT:Lt4 t:=hT
  cases k with
  | zero =>
   refine rQ mxd tK GWq_ok 60 [] ?_
   refine same (p:=true = true/\∃ j:{x_ // Iwq (gN px) (gN py) (g2 x0 x1) (g2 y0 y1) x_},j.1.1 = 0/\Vwq 0 = Vwq j.1.1/\Hwq px py x0 x1 y0 y1 t f = Hwq px py x0 x1 y0 y1 j.1.2.1 j.1.2.2) ?_ (by kernel_rfl)
   exact ⟨rfl,⟨(0,(t,f)),hk,hT,hv⟩,rfl,rfl,rfl⟩
  | succ k =>
   have hs:wrapI (Int.ofNat k - 1) = predI k:=predI_eq (by omega)
   have hhalf:nU / 2 ^ k / 2 = nU / 2 ^ (k + 1):=by rw [Nat.div_div_eq_div_mul,Nat.pow_succ]
   have hnext:63 - k = (63 - (k + 1)) + 1:=by omega
   obtain ⟨u1,u2⟩:=nU_top hk
   have hno:¬ ((wkT (gN px) (gN py) (g2 x0 x1) (g2 y0 y1) (63 - (k + 1)) (nU / 2 ^ (k + 1))).tx = (wkT (gN px) (gN py) (g2 x0 x1) (g2 y0 y1) (63 - (k + 1)) (nU / 2 ^ (k + 1))).tx/\(wkT (gN px) (gN py) (g2 x0 x1) (g2 y0 y1) (63 - (k + 1)) (nU / 2 ^ (k + 1))).ty = F2p.ng (wkT (gN px) (gN py) (g2 x0 x1) (g2 y0 y1) (63 - (k + 1)) (nU / 2 ^ (k + 1))).ty)/\(twW (gN px) (gN py) (wkT (gN px) (gN py) (g2 x0 x1) (g2 y0 y1) (63 - (k + 1)) (nU / 2 ^ (k + 1)))).tx ≠ (g2 x0 x1):=wk_no (q:=(g2 x0 x1,g2 y0 y1)) (p:=(gN px,gN py)) hq1 hp1 hq2 u1 u2 (nU_small hk)
   rw [<-hv] at hno
   obtain ⟨hno1,hno2'⟩:=hno
   have hno1:¬ ((g2 (t 0) (t 1)) = (g2 (t 0) (t 1))/\(g2 (t 2) (t 3)) = F2p.ng (g2 (t 2) (t 3))):=hno1
   obtain ⟨F1,hF1⟩:=exq (S12.mul f f)
   obtain ⟨m1,hm1⟩:=exq ((slD (g2 (t 0) (t 1)) (g2 (t 2) (t 3)) (g2 (t 0) (t 1)) (g2 (t 2) (t 3))))
   obtain ⟨L1,hL1⟩:=exq (lnS (gN px) (gN py) (g2 (t 0) (t 1)) (g2 (t 2) (t 3)) m1)
   obtain ⟨F2,hF2⟩:=exq (S12.mul F1 L1)
   obtain ⟨X1,hX1⟩:=exq (stX (g2 (t 0) (t 1)) m1 (g2 (t 0) (t 1)))
   obtain ⟨Y1,hY1⟩:=exq (stY (g2 (t 0) (t 1)) (g2 (t 2) (t 3)) m1 (g2 (t 0) (t 1)))
   have htw:twW (gN px) (gN py) (W4 t f) = ⟨X1,Y1,F2⟩:=by
    rw [hX1,hY1,hF2,hF1,hL1,hm1,slD_self];rfl
   rw [htw] at hno2'
   have next:∀ (t':Nat->Nat->Nat) (F:S12),Lt4 t'->W4 t' F = wkT (gN px) (gN py) (g2 x0 x1) (g2 y0 y1) (63 - k) (nU / 2 ^ k)->∃ j:{x_ // Iwq (gN px) (gN py) (g2 x0 x1) (g2 y0 y1) x_},j.1.1 < k + 1/\Vwq k = Vwq j.1.1/\Hwq px py x0 x1 y0 y1 t' F = Hwq px py x0 x1 y0 y1 j.1.2.1 j.1.2.2 :=
    fun t' F h1 h2=>⟨⟨(k,(t',F)),by simp only;omega,h1,h2⟩,by simp only;omega,rfl,rfl⟩
   have hbit:nU / 2 ^ k % 2 = 0∨nU / 2 ^ k % 2 = 1:=by omega
   rcases hbit with h0 | h0
   ·refine rQ mxd tK GWq_ok 100 [⟨4,1,.lit (.bo true)⟩,⟨6,2,.as (vC12 F1)⟩,⟨6,6,.as (vC2 m1)⟩,⟨6,8,.as (vC12 L1)⟩,⟨6,9,.as (vC12 F2)⟩,⟨7,2,.as [q6 (vF X1.x),q6 (vF X1.y),q6 (vF Y1.x),q6 (vF Y1.y),.one (.bo false)]⟩,⟨8,3,.lit (.bo false)⟩,⟨5,1,.lit (.it (predI k))⟩] ?_
    refine same (p:=(!ilt (Int.ofNat k) 0) = true/\asP (vC12 (S12.mul (g12v f) (g12v f))) (vC12 F1)/\vL12 f (vL12 f (asP (vC2 (slD (g2 (t 0) (t 1)) (g2 (t 2) (t 3)) (g2 (t 0) (t 1)) (g2 (t 2) (t 3)))) (vC2 m1)/\lp (t 0)/\lp (t 1)/\lp (t 2)/\lp (t 3)/\lp (t 0)/\lp (t 1)/\lp (t 2)/\lp (t 3)/\asP (vC12 (lnS (gN px) (gN py) (g2 (t 0) (t 1)) (g2 (t 2) (t 3)) (g2 (vF m1.x) (vF m1.y)))) (vC12 L1)/\lp (t 0)/\lp (t 1)/\lp (t 2)/\lp (t 3)/\lp (vF m1.x)/\lp (vF m1.y)/\lp px/\lp py/\asP (vC12 (S12.mul (g12v F1) (g12v L1))) (vC12 F2)/\vL12 F1 (vL12 L1 (asP [q6 (vF (stX (g2 (t 0) (t 1)) (slD (g2 (t 0) (t 1)) (g2 (t 2) (t 3)) (g2 (t 0) (t 1)) (g2 (t 2) (t 3))) (g2 (t 0) (t 1))).x),q6 (vF (stX (g2 (t 0) (t 1)) (slD (g2 (t 0) (t 1)) (g2 (t 2) (t 3)) (g2 (t 0) (t 1)) (g2 (t 2) (t 3))) (g2 (t 0) (t 1))).y),q6 (vF (stY (g2 (t 0) (t 1)) (g2 (t 2) (t 3)) (slD (g2 (t 0) (t 1)) (g2 (t 2) (t 3)) (g2 (t 0) (t 1)) (g2 (t 2) (t 3))) (g2 (t 0) (t 1))).x),q6 (vF (stY (g2 (t 0) (t 1)) (g2 (t 2) (t 3)) (slD (g2 (t 0) (t 1)) (g2 (t 2) (t 3)) (g2 (t 0) (t 1)) (g2 (t 2) (t 3))) (g2 (t 0) (t 1))).y),.one (.bo false)] [q6 (vF X1.x),q6 (vF X1.y),q6 (vF Y1.x),q6 (vF Y1.y),.one (.bo false)]/\lp (t 0)/\lp (t 1)/\lp (t 2)/\lp (t 3)/\lp (t 0)/\lp (t 1)/\lp (t 2)/\lp (t 3)/\¬ ((g2 (t 0) (t 1)) = (g2 (t 0) (t 1))/\(g2 (t 2) (t 3)) = F2p.ng (g2 (t 2) (t 3)))/\Nat.beq ((15132376222941642752 / 2 ^ min k 64 &&& 1) % W) 1 = false/\wrapI (Int.ofNat k - 1) = predI k/\true = true/\∃ j:{x_ // Iwq (gN px) (gN py) (g2 x0 x1) (g2 y0 y1) x_},j.1.1 < k + 1/\Vwq k = Vwq j.1.1/\Hwq px py x0 x1 y0 y1 (s4 X1 Y1) F2 = Hwq px py x0 x1 y0 y1 j.1.2.1 j.1.2.2))))) ?_ (by kernel_rfl)
    refine ⟨ilt_nn2 k,asN (by rw [g12_vF];exact hF1.symm),lV _,lV _,lV _,lV _,lV _,lV _,lV _,lV _,lV _,lV _,lV _,lV _,lV _,lV _,lV _,lV _,lV _,lV _,lV _,lV _,lV _,lV _,lV _,lV _,asD hm1.symm,hT.1,hT.2.1,hT.2.2.1,hT.2.2.2,hT.1,hT.2.1,hT.2.2.1,hT.2.2.2,asN (by rw [g2V];exact hL1.symm),hT.1,hT.2.1,hT.2.2.1,hT.2.2.2,lV _,lV _,hpx,hpy,asN (by rw [g12_vF,g12_vF];exact hF2.symm),lV _,lV _,lV _,lV _,lV _,lV _,lV _,lV _,lV _,lV _,lV _,lV _,lV _,lV _,lV _,lV _,lV _,lV _,lV _,lV _,lV _,lV _,lV _,lV _,asW (by rw [hX1,hm1]) (by rw [hY1,hm1]),hT.1,hT.2.1,hT.2.2.1,hT.2.2.2,hT.1,hT.2.1,hT.2.2.1,hT.2.2.2,hno1,by rw [nUbit (by omega),h0];rfl,hs,rfl,next _ _ ⟨lV _,lV _,lV _,lV _⟩ ?_⟩
    rw [W4_s,hnext,wkT,if_neg (by omega),hhalf,<-hv,htw]
   ·obtain ⟨m2,hm2⟩:=exq (slD X1 Y1 (g2 x0 x1) (g2 y0 y1))
    obtain ⟨L2,hL2⟩:=exq (lnS (gN px) (gN py) X1 Y1 m2)
    obtain ⟨F3,hF3⟩:=exq (S12.mul F2 L2)
    obtain ⟨X2,hX2⟩:=exq (stX X1 m2 (g2 x0 x1))
    obtain ⟨Y2,hY2⟩:=exq (stY X1 Y1 m2 (g2 x0 x1))
    have hne:X1 ≠ (g2 x0 x1):=hno2'
    have hno2:¬ (X1 = (g2 x0 x1)/\Y1 = F2p.ng (g2 y0 y1)):=fun e=>hne e.1
    have had:adW (gN px) (gN py) (g2 x0 x1) (g2 y0 y1) ⟨X1,Y1,F2⟩ = ⟨X2,Y2,F3⟩:=by
     rw [hX2,hY2,hF3,hL2,hm2,slD_ne hne];rfl
    refine rQ mxd tK GWq_ok 100 [⟨4,1,.lit (.bo true)⟩,⟨6,2,.as (vC12 F1)⟩,⟨6,6,.as (vC2 m1)⟩,⟨6,8,.as (vC12 L1)⟩,⟨6,9,.as (vC12 F2)⟩,⟨7,2,.as [q6 (vF X1.x),q6 (vF X1.y),q6 (vF Y1.x),q6 (vF Y1.y),.one (.bo false)]⟩,⟨8,3,.lit (.bo true)⟩,⟨9,4,.as (vC2 m2)⟩,⟨9,6,.as (vC12 L2)⟩,⟨9,7,.as (vC12 F3)⟩,⟨10,2,.as [q6 (vF X2.x),q6 (vF X2.y),q6 (vF Y2.x),q6 (vF Y2.y),.one (.bo false)]⟩,⟨5,1,.lit (.it (predI k))⟩] ?_
    refine same (p:=(!ilt (Int.ofNat k) 0) = true/\asP (vC12 (S12.mul (g12v f) (g12v f))) (vC12 F1)/\vL12 f (vL12 f (asP (vC2 (slD (g2 (t 0) (t 1)) (g2 (t 2) (t 3)) (g2 (t 0) (t 1)) (g2 (t 2) (t 3)))) (vC2 m1)/\lp (t 0)/\lp (t 1)/\lp (t 2)/\lp (t 3)/\lp (t 0)/\lp (t 1)/\lp (t 2)/\lp (t 3)/\asP (vC12 (lnS (gN px) (gN py) (g2 (t 0) (t 1)) (g2 (t 2) (t 3)) (g2 (vF m1.x) (vF m1.y)))) (vC12 L1)/\lp (t 0)/\lp (t 1)/\lp (t 2)/\lp (t 3)/\lp (vF m1.x)/\lp (vF m1.y)/\lp px/\lp py/\asP (vC12 (S12.mul (g12v F1) (g12v L1))) (vC12 F2)/\vL12 F1 (vL12 L1 (asP [q6 (vF (stX (g2 (t 0) (t 1)) (slD (g2 (t 0) (t 1)) (g2 (t 2) (t 3)) (g2 (t 0) (t 1)) (g2 (t 2) (t 3))) (g2 (t 0) (t 1))).x),q6 (vF (stX (g2 (t 0) (t 1)) (slD (g2 (t 0) (t 1)) (g2 (t 2) (t 3)) (g2 (t 0) (t 1)) (g2 (t 2) (t 3))) (g2 (t 0) (t 1))).y),q6 (vF (stY (g2 (t 0) (t 1)) (g2 (t 2) (t 3)) (slD (g2 (t 0) (t 1)) (g2 (t 2) (t 3)) (g2 (t 0) (t 1)) (g2 (t 2) (t 3))) (g2 (t 0) (t 1))).x),q6 (vF (stY (g2 (t 0) (t 1)) (g2 (t 2) (t 3)) (slD (g2 (t 0) (t 1)) (g2 (t 2) (t 3)) (g2 (t 0) (t 1)) (g2 (t 2) (t 3))) (g2 (t 0) (t 1))).y),.one (.bo false)] [q6 (vF X1.x),q6 (vF X1.y),q6 (vF Y1.x),q6 (vF Y1.y),.one (.bo false)]/\lp (t 0)/\lp (t 1)/\lp (t 2)/\lp (t 3)/\lp (t 0)/\lp (t 1)/\lp (t 2)/\lp (t 3)/\¬ ((g2 (t 0) (t 1)) = (g2 (t 0) (t 1))/\(g2 (t 2) (t 3)) = F2p.ng (g2 (t 2) (t 3)))/\Nat.beq ((15132376222941642752 / 2 ^ min k 64 &&& 1) % W) 1 = true/\asP (vC2 (slD (g2 (vF X1.x) (vF X1.y)) (g2 (vF Y1.x) (vF Y1.y)) (g2 x0 x1) (g2 y0 y1))) (vC2 m2)/\lp (vF X1.x)/\lp (vF X1.y)/\lp (vF Y1.x)/\lp (vF Y1.y)/\lp x0/\lp x1/\lp y0/\lp y1/\asP (vC12 (lnS (gN px) (gN py) (g2 (vF X1.x) (vF X1.y)) (g2 (vF Y1.x) (vF Y1.y)) (g2 (vF m2.x) (vF m2.y)))) (vC12 L2)/\lp (vF X1.x)/\lp (vF X1.y)/\lp (vF Y1.x)/\lp (vF Y1.y)/\lp (vF m2.x)/\lp (vF m2.y)/\lp px/\lp py/\asP (vC12 (S12.mul (g12v F2) (g12v L2))) (vC12 F3)/\vL12 F2 (vL12 L2 (asP [q6 (vF (stX (g2 (vF X1.x) (vF X1.y)) (slD (g2 (vF X1.x) (vF X1.y)) (g2 (vF Y1.x) (vF Y1.y)) (g2 x0 x1) (g2 y0 y1)) (g2 x0 x1)).x),q6 (vF (stX (g2 (vF X1.x) (vF X1.y)) (slD (g2 (vF X1.x) (vF X1.y)) (g2 (vF Y1.x) (vF Y1.y)) (g2 x0 x1) (g2 y0 y1)) (g2 x0 x1)).y),q6 (vF (stY (g2 (vF X1.x) (vF X1.y)) (g2 (vF Y1.x) (vF Y1.y)) (slD (g2 (vF X1.x) (vF X1.y)) (g2 (vF Y1.x) (vF Y1.y)) (g2 x0 x1) (g2 y0 y1)) (g2 x0 x1)).x),q6 (vF (stY (g2 (vF X1.x) (vF X1.y)) (g2 (vF Y1.x) (vF Y1.y)) (slD (g2 (vF X1.x) (vF X1.y)) (g2 (vF Y1.x) (vF Y1.y)) (g2 x0 x1) (g2 y0 y1)) (g2 x0 x1)).y),.one (.bo false)] [q6 (vF X2.x),q6 (vF X2.y),q6 (vF Y2.x),q6 (vF Y2.y),.one (.bo false)]/\lp (vF X1.x)/\lp (vF X1.y)/\lp (vF Y1.x)/\lp (vF Y1.y)/\lp x0/\lp x1/\lp y0/\lp y1/\¬ ((g2 (vF X1.x) (vF X1.y)) = (g2 x0 x1)/\(g2 (vF Y1.x) (vF Y1.y)) = F2p.ng (g2 y0 y1))/\wrapI (Int.ofNat k - 1) = predI k/\true = true/\∃ j:{x_ // Iwq (gN px) (gN py) (g2 x0 x1) (g2 y0 y1) x_},j.1.1 < k + 1/\Vwq k = Vwq j.1.1/\Hwq px py x0 x1 y0 y1 (s4 X2 Y2) F3 = Hwq px py x0 x1 y0 y1 j.1.2.1 j.1.2.2))))))) ?_ (by kernel_rfl)
    refine ⟨ilt_nn2 k,asN (by rw [g12_vF];exact hF1.symm),lV _,lV _,lV _,lV _,lV _,lV _,lV _,lV _,lV _,lV _,lV _,lV _,lV _,lV _,lV _,lV _,lV _,lV _,lV _,lV _,lV _,lV _,lV _,lV _,asD hm1.symm,hT.1,hT.2.1,hT.2.2.1,hT.2.2.2,hT.1,hT.2.1,hT.2.2.1,hT.2.2.2,asN (by rw [g2V];exact hL1.symm),hT.1,hT.2.1,hT.2.2.1,hT.2.2.2,lV _,lV _,hpx,hpy,asN (by rw [g12_vF,g12_vF];exact hF2.symm),lV _,lV _,lV _,lV _,lV _,lV _,lV _,lV _,lV _,lV _,lV _,lV _,lV _,lV _,lV _,lV _,lV _,lV _,lV _,lV _,lV _,lV _,lV _,lV _,asW (by rw [hX1,hm1]) (by rw [hY1,hm1]),hT.1,hT.2.1,hT.2.2.1,hT.2.2.2,hT.1,hT.2.1,hT.2.2.1,hT.2.2.2,hno1,by rw [nUbit (by omega),h0];rfl,asD (by rw [g2V,g2V];exact hm2.symm),lV _,lV _,lV _,lV _,hx0,hx1,hy0,hy1,asN (by rw [g2V,g2V,g2V];exact hL2.symm),lV _,lV _,lV _,lV _,lV _,lV _,hpx,hpy,asN (by rw [g12_vF,g12_vF];exact hF3.symm),lV _,lV _,lV _,lV _,lV _,lV _,lV _,lV _,lV _,lV _,lV _,lV _,lV _,lV _,lV _,lV _,lV _,lV _,lV _,lV _,lV _,lV _,lV _,lV _,asW (by rw [g2V,g2V,hX2,hm2]) (by rw [g2V,g2V,hY2,hm2]),lV _,lV _,lV _,lV _,hx0,hx1,hy0,hy1,(by rw [g2V,g2V];exact hno2),hs,rfl,next _ _ ⟨lV _,lV _,lV _,lV _⟩ ?_⟩
    rw [W4_s,hnext,wkT,if_pos h0,hhalf,<-hv,htw,had]
 ·intro ⟨⟨k,t,f⟩,hk,hT,hv⟩ junk h0
  simp only at hk hv h0
  subst h0
  rw [Nat.sub_zero,Nat.pow_zero,Nat.div_one] at hv
  refine same (p:=vL12 f (endN (.v1 (n12 (S12.conj (g12v f)))) (.v1 (n12 (walkS (gN px) (gN py) (g2 x0 x1) (g2 y0 y1)))))) ?_ (by kernel_rfl)
  refine ⟨lV _,lV _,lV _,lV _,lV _,lV _,lV _,lV _,lV _,lV _,lV _,lV _,?_⟩
  rw [g12_vF,show walkS (gN px) (gN py) (g2 x0 x1) (g2 y0 y1) = S12.conj f from congrArg (fun s:WS=>S12.conj s.f) hv.symm]
  exact ⟨_,rfl,fun _=>rfl⟩
def invCD:List AV->Option (List Prop × AV)
 | [.v1 (.agg [.ws .u64 6 a0,.ws .u64 6 a1,.ws .u64 6 a2,.ws .u64 6 a3,.ws .u64 6 a4,.ws .u64 6 a5,.ws .u64 6 a6,.ws .u64 6 a7,.ws .u64 6 a8,.ws .u64 6 a9,.ws .u64 6 a10,.ws .u64 6 a11])]=>some ([nv a0 < pN,nv a1 < pN,nv a2 < pN,nv a3 < pN,nv a4 < pN,nv a5 < pN,nv a6 < pN,nv a7 < pN,nv a8 < pN,nv a9 < pN,nv a10 < pN,nv a11 < pN,(g12 a0 a1 a2 a3 a4 a5 a6 a7 a8 a9 a10 a11) ≠ 0],.v1 (n12 (S12.inv (g12 a0 a1 a2 a3 a4 a5 a6 a7 a8 a9 a10 a11))))
 | _=>none
theorem okInvCD:(CallC.pure invCD).Ok Tryz.prog 46:=by
 intro args pre v e hp
 unfold invCD at e
 split at e
 rotate_left
 ·cases e
 rename_i a0 a1 a2 a3 a4 a5 a6 a7 a8 a9 a10 a11
 cases e
 have h0:(g12 a0 a1 a2 a3 a4 a5 a6 a7 a8 a9 a10 a11) ≠ 0:=hp _ (by simp)
 have hv:S12.inv (g12 a0 a1 a2 a3 a4 a5 a6 a7 a8 a9 a10 a11) = S12.scal (F2p.c ((prT (g12 a0 a1 a2 a3 a4 a5 a6 a7 a8 a9 a10 a11) 11 * (g12 a0 a1 a2 a3 a4 a5 a6 a7 a8 a9 a10 a11)).p.u.x ^ (pN - 2))) (prT (g12 a0 a1 a2 a3 a4 a5 a6 a7 a8 a9 a10 a11) 11):=(ep12 _).trans (inv_doc h0).symm
 rw [hv]
 exact okDInv _ [nv a0 < pN,nv a1 < pN,nv a2 < pN,nv a3 < pN,nv a4 < pN,nv a5 < pN,nv a6 < pN,nv a7 < pN,nv a8 < pN,nv a9 < pN,nv a10 < pN,nv a11 < pN] _ rfl (fun p hq=>hp p (List.mem_append_left [_] hq))
def hF:Nat->Nat:=(upd (upd (upd (upd (upd (upd (upd (upd (upd (upd (upd (upd (upd (upd (upd (upd (upd (upd (upd (upd fz 0 16507596937867016825) 1 18057484706064682225) 2 10402445662613232488) 3 14346821523445031478) 4 9473120882997548232) 5 2436835176888788889) 6 3373392400589487540) 7 10474413905108998177) 8 7489908168881354597) 9 2555996213494600119) 10 8757522661579182556) 11 2339225625408862113) 12 9403175223376818523) 13 16548243521931561887) 14 17766550329644248970) 15 3396558972642661655) 16 10687154282069584538) 17 15262110412764179619) 18 13888319236475750814) 19 4336934453280001)
def harB:Blk:=⟨22,[.ws .u64 20 hF],0,0⟩
def cHar:List AV->Heap->Nat->Option (List Prop × AV × Heap)
 | [],h,slot=>match isHole h slot with
  | true=>some ([],.v1 (.sc (.sl slot 0 20 20)),hset h slot harB)
  | false=>none
 | _,_,_=>none
theorem okHar:(CallC.new cHar).Ok Tryz.prog 48:=by
 refine new_of ?_ ?_
 ·intro args h slot pre v h' e hp
  unfold cHar at e
  split at e
  rotate_left
  ·cases e
  split at e
  rotate_left
  ·cases e
  rename_i hh
  cases e
  refine views_call tK Tryz.func48 (by kernel_rfl) (by kernel_rfl) [] (args:=[]) trivial slot [harB] (.v1 (.sc (.sl 0 0 20 20))) rfl rfl rfl (fun t ht=>by
   have:t = 0:=by simp at ht;omega
   subst this;exact hh) fun a W hi=>⟨[0],rfl,?_⟩
  cases hi
  refine eSq mxd tK (G:=ctxL []) cxN 60 [] (same (p:=endK [0] [some harB] [some harB] (.v1 (.sc (.sl 0 0 20 20))) (.v1 (.sc (.sl 0 0 20 20)))) ?_ (by kernel_rfl))
  exact ⟨rfl,rfl,⟨⟨rfl,rfl,rfl,fun _=>rfl⟩,trivial⟩,_,rfl,rfl,fun _=>rfl⟩
 ·intro args h slot pre v h' e i hi
  unfold cHar at e
  split at e
  rotate_left
  ·cases e
  split at e
  rotate_left
  ·cases e
  rename_i hh
  cases e
  exact keep_hset hh hi
theorem td64:∀ i:Fin 1280,wrapI ((Int.ofNat i.val).tdiv 64) = Int.ofNat (i.val / 64):=by decide +kernel
theorem tm64:∀ i:Fin 1280,(Int.ofNat i.val).tmod 64 = Int.ofNat (i.val % 64):=by decide +kernel
theorem hbit:∀ i:Fin 1280,(hF (i.val / 64) % W / 2 ^ min (i.val % 64) 64 &&& 1) % W = hardN / 2 ^ i.val % 2:=by decide +kernel
theorem hard_lt:hardN < 2 ^ 1280:=by decide +kernel
def pwB (c:S12):Nat->Nat->S12
 | 0,_=>1
 | k + 1,n=>if n % 2 = 1 then S12.mul (S12.mul (pwB c k (n / 2)) (pwB c k (n / 2))) c else S12.mul (pwB c k (n / 2)) (pwB c k (n / 2))
theorem pwB_pow (c:S12):∀ k n,n < 2 ^ k->pwB c k n = c ^ n
 | 0,n,h=>by
  have:n = 0:=by simpa using h
  subst this
  rw [Rg.pow_zero];rfl
 | k + 1,n,h=>by
  have ih:=pwB_pow c k (n / 2) (by rw [Nat.pow_succ] at h;omega)
  rw [pwB,ih]
  have e1:S12.mul (c ^ (n / 2)) (c ^ (n / 2)) = c ^ (n / 2 + n / 2):=(Rg.pow_add c _ _).symm
  rw [e1]
  by_cases hb:n % 2 = 1
  ·rw [if_pos hb]
   have e2:n = (n / 2 + n / 2) + 1:=by omega
   rw [show c ^ n = c ^ ((n / 2 + n / 2) + 1) from congrArg (c ^ ·) e2,Rg.pow_succ];rfl
  ·rw [if_neg hb]
   congr 1;omega
theorem fin_pow {a c:S12} {e h E:Nat} (hc:c = a ^ e) (hE:e * h = E):c ^ h = a ^ E:=by rw [hc,<-pow_mul_,hE]
theorem last_doc {a:S12} (ha:a ≠ 0):pwB (laF a) 1280 hardN = lastS a:=by
 rw [pwB_pow _ _ _ hard_lt,lastS_nL ha]
 exact fin_pow (laF_pow ha) e1_hard
def Ils (C:S12) (x:Nat × S12):Prop:=x.1 <= 1280/\x.2 = pwB C (1280 - x.1) (hardN / 2 ^ x.1)
abbrev Vls (k:Nat):List AV:=[pt 0 0,pt 1 0,pt 8 0,.v1 (.sc (.sl 9 0 20 20)),iv (predI k)]
abbrev Hls (C f:S12):Heap:=[some ⟨32,(vC12 C),0,0⟩,some ⟨32,[q6 fz,q6 fz,q6 fz,q6 fz,q6 fz,q6 fz,q6 fz,q6 fz,q6 fz,q6 fz,q6 fz,q6 fz],0,0⟩,none,none,none,none,none,none,some ⟨32,(vC12 f),0,0⟩,some harB,none]
def lsC:List AV->Option (List Prop × AV)
 | [.v1 (.agg [.ws .u64 6 a0,.ws .u64 6 a1,.ws .u64 6 a2,.ws .u64 6 a3,.ws .u64 6 a4,.ws .u64 6 a5,.ws .u64 6 a6,.ws .u64 6 a7,.ws .u64 6 a8,.ws .u64 6 a9,.ws .u64 6 a10,.ws .u64 6 a11])]=>some ([nv a0 < pN,nv a1 < pN,nv a2 < pN,nv a3 < pN,nv a4 < pN,nv a5 < pN,nv a6 < pN,nv a7 < pN,nv a8 < pN,nv a9 < pN,nv a10 < pN,nv a11 < pN,(g12 a0 a1 a2 a3 a4 a5 a6 a7 a8 a9 a10 a11) ≠ 0],.v1 (n12 (lastS (g12 a0 a1 a2 a3 a4 a5 a6 a7 a8 a9 a10 a11))))
 | _=>none
def GLs:Ctx:=ctxL [(39,.pure (c12 (n12 1))),(44,.pure (dd2 S12.mul)),(45,.pure (dd1 S12.conj)),(46,.pure invCD),(47,.pure cDFrob),(48,.new cHar)]
theorem GLs_ok:CtxOk Tryz.prog GLs:=cxC okD12One <| cxC okD12Mul <| cxC okD12Conj <| cxC okInvCD <| cxC okDFrob <| cxC okHar cxN
theorem okLsD:(CallC.pure lsC).Ok Tryz.prog 13:=by
 intro args pre v e hp
 unfold lsC at e
 split at e
 rotate_left
 ·cases e
 rename_i a0 a1 a2 a3 a4 a5 a6 a7 a8 a9 a10 a11
 cases e
 have h0:(g12 a0 a1 a2 a3 a4 a5 a6 a7 a8 a9 a10 a11) ≠ 0:=hp _ (by simp)
 have ha0:nv a0 < pN:=hp _ (by simp)
 have ha1:nv a1 < pN:=hp _ (by simp)
 have ha2:nv a2 < pN:=hp _ (by simp)
 have ha3:nv a3 < pN:=hp _ (by simp)
 have ha4:nv a4 < pN:=hp _ (by simp)
 have ha5:nv a5 < pN:=hp _ (by simp)
 have ha6:nv a6 < pN:=hp _ (by simp)
 have ha7:nv a7 < pN:=hp _ (by simp)
 have ha8:nv a8 < pN:=hp _ (by simp)
 have ha9:nv a9 < pN:=hp _ (by simp)
 have ha10:nv a10 < pN:=hp _ (by simp)
 have ha11:nv a11 < pN:=hp _ (by simp)
 refine pWk tK Tryz.func13 (by kernel_rfl) (by kernel_rfl) (by rfl) (by rfl) ?_
 obtain ⟨J,hJ⟩:=exq (S12.conj (g12 a0 a1 a2 a3 a4 a5 a6 a7 a8 a9 a10 a11))
 obtain ⟨I,hI⟩:=exq (S12.inv (g12 a0 a1 a2 a3 a4 a5 a6 a7 a8 a9 a10 a11))
 obtain ⟨B,hB⟩:=exq (S12.mul J I)
 obtain ⟨D,hD⟩:=exq (S12.turns 2 B)
 obtain ⟨C,hC⟩:=exq (S12.mul D B)
 have hl:pwB C 1280 hardN = lastS (g12 a0 a1 a2 a3 a4 a5 a6 a7 a8 a9 a10 a11):=by
  rw [<-last_doc h0,hC,hD,hB,hJ,hI];rfl
 rw [<-hl]
 refine loopF mxd tK GLs_ok (by kernel_rfl) (ι:={x_ // Ils C x_}) [1,2,3,4,5] 42 11 (fun x_=>Vls x_.1.1) (fun x_=>Hls C x_.1.2) (fun x_=>x_.1.1) (fun x_=>x_.1.1 = 0)
  (fun _=>rfl) (fun _=>by kernel_rfl) (fun _ _ h=>h.elim) 200 [⟨1,1,.as (vC12 J)⟩,⟨1,3,.as (vC12 I)⟩,⟨1,4,.as (vC12 B)⟩,⟨2,1,.as (vC12 D)⟩,⟨2,3,.as (vC12 C)⟩] ?_ ?_ ?_
 ·refine same (p:=asP (vC12 (S12.conj (g12 a0 a1 a2 a3 a4 a5 a6 a7 a8 a9 a10 a11))) (vC12 J)/\lp a0/\lp a1/\lp a2/\lp a3/\lp a4/\lp a5/\lp a6/\lp a7/\lp a8/\lp a9/\lp a10/\lp a11/\asP (vC12 (S12.inv (g12 a0 a1 a2 a3 a4 a5 a6 a7 a8 a9 a10 a11))) (vC12 I)/\lp a0/\lp a1/\lp a2/\lp a3/\lp a4/\lp a5/\lp a6/\lp a7/\lp a8/\lp a9/\lp a10/\lp a11/\(g12 a0 a1 a2 a3 a4 a5 a6 a7 a8 a9 a10 a11) ≠ 0/\asP (vC12 (S12.mul (g12v J) (g12v I))) (vC12 B)/\vL12 J (vL12 I (asP (vC12 (S12.turns 2 (g12v B))) (vC12 D)/\vL12 B (asP (vC12 (S12.mul (g12v D) (g12v B))) (vC12 C)/\vL12 D (vL12 B (true = true/\∃ j:{x_ // Ils C x_},Vls 1280 = Vls j.1.1/\Hls C 1 = Hls C j.1.2)))))) ?_ (by kernel_rfl)
  refine ⟨asN hJ.symm,ha0,ha1,ha2,ha3,ha4,ha5,ha6,ha7,ha8,ha9,ha10,ha11,asN hI.symm,ha0,ha1,ha2,ha3,ha4,ha5,ha6,ha7,ha8,ha9,ha10,ha11,h0,asN (by rw [g12_vF,g12_vF];exact hB.symm),lV _,lV _,lV _,lV _,lV _,lV _,lV _,lV _,lV _,lV _,lV _,lV _,lV _,lV _,lV _,lV _,lV _,lV _,lV _,lV _,lV _,lV _,lV _,lV _,asN (by rw [g12_vF];exact hD.symm),lV _,lV _,lV _,lV _,lV _,lV _,lV _,lV _,lV _,lV _,lV _,lV _,asN (by rw [g12_vF,g12_vF];exact hC.symm),lV _,lV _,lV _,lV _,lV _,lV _,lV _,lV _,lV _,lV _,lV _,lV _,lV _,lV _,lV _,lV _,lV _,lV _,lV _,lV _,lV _,lV _,lV _,lV _,rfl,⟨(1280,1),Nat.le_refl _,?_⟩,rfl,rfl⟩
  show (1:S12) = pwB C (1280 - 1280) _
  rw [Nat.sub_self];rfl
 ·intro ⟨⟨k,f⟩,hk,hv⟩ junk
  simp only at hk hv
  cases k with
  | zero =>
   refine rQ mxd tK GLs_ok 60 [] ?_
   refine same (p:=true = true/\∃ j:{x_ // Ils C x_},j.1.1 = 0/\Vls 0 = Vls j.1.1/\Hls C f = Hls C j.1.2) ?_ (by kernel_rfl)
   exact ⟨rfl,⟨(0,f),hk,hv⟩,rfl,rfl,rfl⟩
  | succ k =>
   have hs:wrapI (Int.ofNat k - 1) = predI k:=predI_eq (by omega)
   have hhalf:hardN / 2 ^ k / 2 = hardN / 2 ^ (k + 1):=by rw [Nat.div_div_eq_div_mul,Nat.pow_succ]
   have hnext:1280 - k = (1280 - (k + 1)) + 1:=by omega
   have next:∀ f':S12,f' = pwB C (1280 - k) (hardN / 2 ^ k)->∃ j:{x_ // Ils C x_},j.1.1 < k + 1/\Vls k = Vls j.1.1/\Hls C f' = Hls C j.1.2:=fun f' h'=>⟨⟨(k,f'),by simp only;omega,h'⟩,by simp only;omega,rfl,rfl⟩
   have hb:=hbit ⟨k,by omega⟩
   simp only at hb
   obtain ⟨F1,hF1⟩:=exq (S12.mul f f)
   have hbit:hardN / 2 ^ k % 2 = 0∨hardN / 2 ^ k % 2 = 1:=by omega
   rcases hbit with h1 | h1
   ·refine rQ mxd tK GLs_ok 100 [⟨6,1,.lit (.bo true)⟩,⟨8,2,.as (vC12 F1)⟩,⟨9,2,.lit (.it (Int.ofNat (k / 64)))⟩,⟨9,3,.sym⟩,⟨9,4,.sym⟩,⟨9,6,.lit (.it (Int.ofNat (k % 64)))⟩,⟨9,9,.lit (.bo false)⟩,⟨7,1,.lit (.it (predI k))⟩] ?_
    refine same (p:=(!ilt (Int.ofNat k) 0) = true/\asP (vC12 (S12.mul (g12v f) (g12v f))) (vC12 F1)/\vL12 f (vL12 f (wrapI ((Int.ofNat k).tdiv 64) = Int.ofNat (k / 64)/\0 <= Int.ofNat (k / 64)/\Int.ofNat (k / 64) < (20:Int)/\k / 64 < 20/\(Int.ofNat k).tmod 64 = Int.ofNat (k % 64)/\Nat.beq ((hF (k / 64) % W / 2 ^ min (k % 64) 64 &&& 1) % W) 1 = false/\wrapI (Int.ofNat k - 1) = predI k/\true = true/\∃ j:{x_ // Ils C x_},j.1.1 < k + 1/\Vls k = Vls j.1.1/\Hls C F1 = Hls C j.1.2))) ?_ (by kernel_rfl)
    refine ⟨ilt_nn2 k,asN (by rw [g12_vF];exact hF1.symm),lV _,lV _,lV _,lV _,lV _,lV _,lV _,lV _,lV _,lV _,lV _,lV _,lV _,lV _,lV _,lV _,lV _,lV _,lV _,lV _,lV _,lV _,lV _,lV _,td64 ⟨k,by omega⟩,Int.natCast_nonneg _,by simp only [Int.ofNat_eq_natCast];omega,by omega,tm64 ⟨k,by omega⟩,by rw [hb,h1];rfl,hs,rfl,next _ ?_⟩
    rw [hnext,pwB,if_neg (by omega),hhalf,<-hv,hF1]
   ·obtain ⟨F2,hF2⟩:=exq (S12.mul F1 C)
    refine rQ mxd tK GLs_ok 100 [⟨6,1,.lit (.bo true)⟩,⟨8,2,.as (vC12 F1)⟩,⟨9,2,.lit (.it (Int.ofNat (k / 64)))⟩,⟨9,3,.sym⟩,⟨9,4,.sym⟩,⟨9,6,.lit (.it (Int.ofNat (k % 64)))⟩,⟨9,9,.lit (.bo true)⟩,⟨10,2,.as (vC12 F2)⟩,⟨7,1,.lit (.it (predI k))⟩] ?_
    refine same (p:=(!ilt (Int.ofNat k) 0) = true/\asP (vC12 (S12.mul (g12v f) (g12v f))) (vC12 F1)/\vL12 f (vL12 f (wrapI ((Int.ofNat k).tdiv 64) = Int.ofNat (k / 64)/\0 <= Int.ofNat (k / 64)/\Int.ofNat (k / 64) < (20:Int)/\k / 64 < 20/\(Int.ofNat k).tmod 64 = Int.ofNat (k % 64)/\Nat.beq ((hF (k / 64) % W / 2 ^ min (k % 64) 64 &&& 1) % W) 1 = true/\asP (vC12 (S12.mul (g12v F1) (g12v C))) (vC12 F2)/\vL12 F1 (vL12 C (wrapI (Int.ofNat k - 1) = predI k/\true = true/\∃ j:{x_ // Ils C x_},j.1.1 < k + 1/\Vls k = Vls j.1.1/\Hls C F2 = Hls C j.1.2))))) ?_ (by kernel_rfl)
    refine ⟨ilt_nn2 k,asN (by rw [g12_vF];exact hF1.symm),lV _,lV _,lV _,lV _,lV _,lV _,lV _,lV _,lV _,lV _,lV _,lV _,lV _,lV _,lV _,lV _,lV _,lV _,lV _,lV _,lV _,lV _,lV _,lV _,td64 ⟨k,by omega⟩,Int.natCast_nonneg _,by simp only [Int.ofNat_eq_natCast];omega,by omega,tm64 ⟨k,by omega⟩,by rw [hb,h1];rfl,asN (by rw [g12_vF,g12_vF];exact hF2.symm),lV _,lV _,lV _,lV _,lV _,lV _,lV _,lV _,lV _,lV _,lV _,lV _,lV _,lV _,lV _,lV _,lV _,lV _,lV _,lV _,lV _,lV _,lV _,lV _,hs,rfl,next _ ?_⟩
    rw [hnext,pwB,if_pos h1,hhalf,<-hv,hF2,hF1]
 ·intro ⟨⟨k,f⟩,hk,hv⟩ junk h1
  simp only at hk hv h1
  subst h1
  rw [Nat.sub_zero,Nat.pow_zero,Nat.div_one] at hv
  refine same (p:=endN (.v1 (n12 f)) (.v1 (n12 (pwB C 1280 hardN)))) ?_ (by kernel_rfl)
  rw [<-hv]
  exact ⟨_,rfl,fun _=>rfl⟩
def nthC:List AV->Option (List Prop × AV)
 | [.v1 (.agg [.ws .u64 6 a0,.ws .u64 6 a1,.ws .u64 6 a2,.ws .u64 6 a3,.ws .u64 6 a4,.ws .u64 6 a5,.ws .u64 6 a6,.ws .u64 6 a7,.ws .u64 6 a8,.ws .u64 6 a9,.ws .u64 6 a10,.ws .u64 6 a11])]=>some ([],.v1 (.sc (.bo (z12 (g12 a0 a1 a2 a3 a4 a5 a6 a7 a8 a9 a10 a11)))))
 | _=>none
theorem okNth:(CallC.pure nthC).Ok Tryz.prog 12:=by
 intro args pre v e hp
 unfold nthC at e
 split at e
 rotate_left
 ·cases e
 rename_i a0 a1 a2 a3 a4 a5 a6 a7 a8 a9 a10 a11
 cases e
 refine pWk tK Tryz.func12 (by kernel_rfl) (by kernel_rfl) (by rfl) (by rfl) ?_
 refine eSq mxd tK (G:=ctxL [(14,.pure cD12Of)]) (cxC okD12Of cxN) 60 [] (same (p:=endN (.v1 (.sc (.bo (qL (nL (g12 a0 a1 a2 a3 a4 a5 a6 a7 a8 a9 a10 a11)) zL12)))) (.v1 (.sc (.bo (z12 (g12 a0 a1 a2 a3 a4 a5 a6 a7 a8 a9 a10 a11)))))) ?_ (by kernel_rfl))
 exact endB (qn_z _)
def docP (px py x0 x1 y0 y1:Nat->Nat) (z z2:Bool):S12:=bif z || z2 then 1 else lastS (walkS (gN px) (gN py) (g2 x0 x1) (g2 y0 y1))
def dpC:List AV->Option (List Prop × AV)
 | [.v1 (.agg [.ws .u64 6 px,.ws .u64 6 py,.one (.bo z)]),.v1 (.agg [.ws .u64 6 x0,.ws .u64 6 x1,.ws .u64 6 y0,.ws .u64 6 y1,.one (.bo z2)])]=>some ([(lo1 px py && isE px py z) = true,(lo2 x0 x1 y0 y1 && isQ x0 x1 y0 y1 z2) = true],.v1 (n12 (docP px py x0 x1 y0 y1 z z2)))
 | _=>none
def GDp:Ctx:=ctxL [(39,.pure (c12 (n12 1))),(40,.pure wqC),(13,.pure lsC)]
theorem GDp_ok:CtxOk Tryz.prog GDp:=cxC okD12One <| cxC okWkD <| cxC okLsD cxN
theorem okDpD:(CallC.pure dpC).Ok Tryz.prog 10:=by
 intro args pre v e hp
 unfold dpC at e
 split at e
 rotate_left
 ·cases e
 rename_i px py z x0 x1 y0 y1 z2
 cases e
 have h1:(lo1 px py && isE px py z) = true:=hp _ (by simp)
 have h2:(lo2 x0 x1 y0 y1 && isQ x0 x1 y0 y1 z2) = true:=hp _ (by simp)
 refine pWk tK Tryz.func10 (by kernel_rfl) (by kernel_rfl) (by rfl) (by rfl) ?_
 cases z
 ·cases z2
  ·obtain ⟨w,hw⟩:=exq (walkS (gN px) (gN py) (g2 x0 x1) (g2 y0 y1))
   have hne:w ≠ 0:=by
    rw [hw]
    exact (pair_val (q:=(g2 x0 x1,g2 y0 y1)) (p:=(gN px,gN py)) (inQ_spec h2).2.1 (inE_spec h1).2.1.1).2
   show AWqS _ _ _ (FEnd' tt _ (.v1 (n12 (lastS (walkS (gN px) (gN py) (g2 x0 x1) (g2 y0 y1)))))) _
   rw [<-hw]
   refine eSq mxd tK GDp_ok 60 [⟨3,2,.as (vC12 w)⟩] (same (p:=asP (vC12 (walkS (gN px) (gN py) (g2 x0 x1) (g2 y0 y1))) (vC12 w)/\(lo1 px py && isE px py false) = true/\(lo2 x0 x1 y0 y1 && isQ x0 x1 y0 y1 false) = true/\vL12 w ((g12v w) ≠ 0/\endN (.v1 (n12 (lastS (g12v w)))) (.v1 (n12 (lastS w))))) ?_ (by kernel_rfl))
   exact ⟨asN hw.symm,h1,h2,lV _,lV _,lV _,lV _,lV _,lV _,lV _,lV _,lV _,lV _,lV _,lV _,by rw [g12_vF];exact hne,by rw [g12_vF];exact ⟨_,rfl,fun _=>rfl⟩⟩
  ·refine eSq mxd tK GDp_ok 60 [] (same (p:=endN (.v1 (n12 1)) (.v1 (n12 1))) ⟨_,rfl,fun _=>rfl⟩ (by kernel_rfl))
 ·refine eSq mxd tK GDp_ok 60 [] (same (p:=endN (.v1 (n12 1)) (.v1 (n12 1))) ⟨_,rfl,fun _=>rfl⟩ (by kernel_rfl))
end Go.Proofs.YtnjocbcjejpklaaGreat
namespace Go.Rq
open Go
inductive CK where
 | i (k:IntKind)
 | b
def CsOk:List CK->List Value->Prop
 | [],[]=>True
 | .i k :: r,.int k' n :: vs=>k' = k/\(Lit.int k n).wf = true/\CsOk r vs
 | .b :: r,.bool _ :: vs=>CsOk r vs
 | _,_=>False
mutual
inductive FlatTy (P:Program):TypeId->List CK->Prop
 | int {t:TypeId} {k:IntKind} (hu:P.underlying t = some (.int k)):FlatTy P t [.i k]
 | bool {t:TypeId} (hu:P.underlying t = some .bool):FlatTy P t [.b]
 | arr {t e:TypeId} {n:Nat} {sk:List CK} (hu:P.underlying t = some (.array n e)) (he:FlatTy P e sk) (hc:P.cellsOf e = sk.length) (ht:P.cellsOf t = n * sk.length):FlatTy P t (List.replicate n sk).flatten
 | str {t:TypeId} {fs:Array Field} {sk:List CK} (hu:P.underlying t = some (.struct fs)) (hf:FlatFs P 0 fs.toList sk) (ht:P.cellsOf t = sk.length):FlatTy P t sk
inductive FlatFs (P:Program):Nat->List Field->List CK->Prop
 | nil (o:Nat):FlatFs P o [] []
 | cons {f:Field} {fs:List Field} {o:Nat} {sk r:List CK} (ho:f.offset = o) (h:FlatTy P f.type sk) (hc:P.cellsOf f.type = sk.length) (hr:FlatFs P (o + sk.length) fs r):FlatFs P o (f :: fs) (sk ++ r)
end
theorem CsOk.append:∀ {a b:List CK} {xs ys:List Value},CsOk a xs->CsOk b ys->CsOk (a ++ b) (xs ++ ys)
 | [],_,[],_,_,h=>h
 | .i k :: r,b,.int k' n :: vs,ys,h,h2=>⟨h.1,h.2.1,CsOk.append (a:=r) h.2.2 h2⟩
 | .b :: r,b,.bool _ :: vs,ys,h,h2=>CsOk.append (a:=r) h h2
 | [],_,_ :: _,_,h,_=>h.elim
 | .i _ :: _,_,[],_,h,_=>h.elim
 | .b :: _,_,[],_,h,_=>h.elim
theorem CsOk.slices {sk:List CK}:∀ {n:Nat} {cs:List Value},cs.length = n * sk.length->(∀ i,i < n->CsOk sk ((cs.drop (i * sk.length)).take sk.length))->CsOk (List.replicate n sk).flatten cs
 | 0,cs,hl,_=>by
  have:cs = []:=by simpa using hl
  subst this;trivial
 | n + 1,cs,hl,h=>by
  rw [List.replicate_succ,List.flatten_cons,<-List.take_append_drop sk.length cs]
  refine CsOk.append (by simpa using h 0 (by omega)) (CsOk.slices (by rw [List.length_drop,hl,Nat.succ_mul];omega) fun i hi=>?_)
  have:=h (i + 1) (by omega)
  rw [List.drop_drop]
  rw [show sk.length + i * sk.length = (i + 1) * sk.length by rw [Nat.succ_mul];omega]
  exact this
section
variable {H:Type} {enc:TypeId × Value->H} {P:Program}
theorem mapM_congr' {α β:Type} {f g:α->Option β}:∀ {l:List α},(∀ x ∈ l,f x = g x)->l.mapM f = l.mapM g
 | [],_=>rfl
 | x :: r,h=>by
  rw [List.mapM_cons,List.mapM_cons,h x (by simp),mapM_congr' fun y hy=>h y (by simp [hy])]
mutual
theorem FlatTy.same {t:TypeId} {sk:List CK} (h:FlatTy P t sk):∀ (fuel:Nat) (cs:List Value) (w w':World) (b b':Nat) (sp sp':Nat->Bool) (hd hd':Bool),
  DataW.trod enc P w b sp hd fuel t cs = DataW.trod enc P w' b' sp' hd' fuel t cs:=by
 intro fuel cs w w' b b' sp sp' hd hd'
 cases fuel with
 | zero=>simp [DataW.trod]
 | succ m =>
  unfold DataW.trod
  cases h with
  | int hu=>rw [hu];cases cs with
   | nil=>rfl
   | cons c r=>cases r <;> cases c <;> rfl
  | bool hu=>rw [hu];cases cs with
   | nil=>rfl
   | cons c r=>cases r <;> cases c <;> rfl
  | arr hu he hc ht =>
   rw [hu]
   simp only
   rw [mapM_congr' fun i _=>FlatTy.same he m _ w w' b b' sp sp' hd hd']
  | str hu hf ht =>
   rw [hu]
   simp only
   rw [FlatFs.same hf m cs w w' b b' sp sp' hd hd']
theorem FlatFs.same {o:Nat} {fs:List Field} {sk:List CK} (h:FlatFs P o fs sk):∀ (fuel:Nat) (cs:List Value) (w w':World) (b b':Nat) (sp sp':Nat->Bool) (hd hd':Bool),
  (fs.mapM fun f=>DataW.trod enc P w b sp hd fuel f.type ((cs.drop f.offset).take (P.cellsOf f.type))) = fs.mapM fun f=>DataW.trod enc P w' b' sp' hd' fuel f.type ((cs.drop f.offset).take (P.cellsOf f.type)):=by
 intro fuel cs w w' b b' sp sp' hd hd'
 cases h with
 | nil=>rfl
 | cons ho h hc hr=>rw [List.mapM_cons,List.mapM_cons,FlatTy.same h fuel _ w w' b b' sp sp' hd hd',FlatFs.same hr fuel cs w w' b b' sp sp' hd hd']
end
theorem flatMap_nil {α β:Type} {xs:List (α × List β)} (h:∀ (i:Nat) (x:α × List β),xs[i]? = some x->x.2 = []):xs.flatMap (·.2) = []:=by
 rw [List.flatMap_eq_nil_iff]
 intro x hx
 obtain ⟨i,hi⟩:=List.getElem?_of_mem hx
 exact h i x hi
def CellsT (H:Type) (enc:TypeId × Value->H) (P:Program) (t:TypeId) (sk:List CK):Prop :=
 ∀ (fuel:Nat) (cs:List Value) (w:World) (b:Nat) (sp:Nat->Bool) (hd:Bool) (x:DataW H × List MemPlace),DataW.trod enc P w b sp hd fuel t cs = some x->CsOk sk cs/\x.2 = []
def CellsF (H:Type) (enc:TypeId × Value->H) (P:Program) (o:Nat) (fs:List Field) (sk:List CK):Prop :=
 ∀ (fuel:Nat) (cs:List Value) (w:World) (b:Nat) (sp:Nat->Bool) (hd:Bool) (xs:List (DataW H × List MemPlace)),
  cs.length = o + sk.length->xs.length = fs.length->(∀ (i:Nat) (f:Field),fs[i]? = some f->DataW.trod enc P w b sp hd fuel f.type ((cs.drop f.offset).take (P.cellsOf f.type)) = xs[i]?)->CsOk sk (cs.drop o)/\xs.flatMap (·.2) = []
theorem cells_arr {t e:TypeId} {n:Nat} {sk:List CK} (hu:P.underlying t = some (.array n e)) (he:CellsT H enc P e sk) (hc:P.cellsOf e = sk.length) (ht:P.cellsOf t = n * sk.length):CellsT H enc P t (List.replicate n sk).flatten:=by
 intro fuel cs w b sp hd x hx
 obtain ⟨xs,m,rfl,rfl,hl,hn,hi⟩:=DataW.trod_array hu hx
 have key:∀ i,i < xs.length->∃ y,xs[i]? = some y:=fun i hi=>⟨xs[i],by simp [hi]⟩
 refine ⟨CsOk.slices (by rw [hl,ht]) fun i h1=>?_,flatMap_nil fun i y hy=>?_⟩
 ·obtain ⟨y,hy⟩:=key i (by omega)
  have:=hi i h1
  rw [hy] at this
  rw [<-hc]
  exact (he m _ w b sp hd y this).1
 ·have h1:i < xs.length:=(List.getElem?_eq_some_iff.1 hy).1
  have:=hi i (by omega)
  rw [hy] at this
  exact (he m _ w b sp hd y this).2
theorem cells_str {t:TypeId} {fs:Array Field} {sk:List CK} (hu:P.underlying t = some (.struct fs)) (hf:CellsF H enc P 0 fs.toList sk) (ht:P.cellsOf t = sk.length):CellsT H enc P t sk:=by
 intro fuel cs w b sp hd x hx
 obtain ⟨xs,m,rfl,rfl,hl,hn,hi⟩:=DataW.trod_struct hu hx
 have:=hf m cs w b sp hd xs (by rw [hl,ht];simp) (by simpa using hn) fun i f hf=>hi i f (by simpa using hf)
 exact ⟨by simpa using this.1,this.2⟩
theorem cells_cons {f:Field} {fs:List Field} {o:Nat} {sk r:List CK} (ho:f.offset = o) (h:CellsT H enc P f.type sk) (hc:P.cellsOf f.type = sk.length) (hr:CellsF H enc P (o + sk.length) fs r):CellsF H enc P o (f :: fs) (sk ++ r):=by
 intro fuel cs w b sp hd xs hl hx hi
 cases xs with
 | nil=>simp at hx
 | cons y ys =>
  have h0:=hi 0 f rfl
  simp only [List.getElem?_cons_zero] at h0
  have c0:=h fuel _ w b sp hd y h0
  have cr:=hr fuel cs w b sp hd ys (by rw [hl,List.length_append];omega) (by simpa using hx) fun i f' hf'=>by
   have:=hi (i + 1) f' (by simpa using hf')
   simpa using this
  refine ⟨?_,by rw [List.flatMap_cons,c0.2,cr.2];rfl⟩
  rw [<-List.take_append_drop sk.length (cs.drop o)]
  refine CsOk.append ?_ ?_
  ·rw [<-hc,<-ho];exact c0.1
  ·rw [List.drop_drop];exact cr.1
theorem FlatTy.cells {t:TypeId} {sk:List CK} (h:FlatTy P t sk):CellsT H enc P t sk:=by
 refine FlatTy.rec (motive_1:=fun t sk _=>CellsT H enc P t sk) (motive_2:=fun o fs sk _=>CellsF H enc P o fs sk) ?_ ?_ ?_ ?_ ?_ ?_ h
 ·intro t k hu fuel cs w b sp hd x hx
  obtain ⟨n,rfl,rfl,hw⟩:=DataW.trod_int hu hx
  exact ⟨⟨rfl,hw,trivial⟩,rfl⟩
 ·intro t hu fuel cs w b sp hd x hx
  obtain ⟨n,rfl,rfl⟩:=DataW.trod_bool hu hx
  exact ⟨trivial,rfl⟩
 ·intro t e n sk hu _ hc ht he
  exact cells_arr hu he hc ht
 ·intro t fs sk hu _ ht hf
  exact cells_str hu hf ht
 ·intro o fuel cs w b sp hd xs hl hx hi
  have:xs = []:=by simpa using hx
  subst this
  rw [List.drop_eq_nil_of_le (by simp at hl;omega)]
  exact ⟨trivial,rfl⟩
 ·intro f fs o sk r ho _ hc _ h hr
  exact cells_cons ho h hc hr
theorem FlatTy.trod {t:TypeId} {sk:List CK} (h:FlatTy P t sk) {w:World} {b:Nat} {sp:Nat->Bool} {hd:Bool} {v:Value} {d:DataW H} {p:List MemPlace} (hT:DataW.Trod enc P w b sp hd t v d p) :
  CsOk sk v.cells.toList/\p = []/\∀ (w':World) (b':Nat) (sp':Nat->Bool) (hd':Bool),DataW.Trod enc P w' b' sp' hd' t v d []:=by
 obtain ⟨fuel,hf⟩:=hT
 have hc:=h.cells fuel _ w b sp hd _ hf
 have hp:p = []:=hc.2
 subst hp
 exact ⟨hc.1,rfl,fun w' b' sp' hd'=>⟨fuel,by rw [<-FlatTy.same h fuel _ w w' b b' sp sp' hd hd'];exact hf⟩⟩
end
theorem wf_u64 {z:Int} (h:(Lit.int .u64 z).wf = true):Int.ofNat (z.toNat % M .u64) = z:=by
 simp only [Lit.wf,IntKind.min,IntKind.max,IntKind.signed,IntKind.bits,Bool.and_eq_true] at h
 simp only [M,Int.ofNat_eq_natCast]
 simp at h
 omega
theorem CsOk.u64 {r:List CK}:∀ {n:Nat} {vs:List Value},CsOk (List.replicate n (.i .u64) ++ r) vs->∃ (g:Nat->Nat) (vs':List Value),vs = (Cell.ws .u64 n g).vals (fun _=>0) ++ vs'/\CsOk r vs'
 | 0,vs,h=>⟨fun _=>0,vs,by simp [Cell.vals],by simpa using h⟩
 | n + 1,vs,h=>by
  rw [List.replicate_succ,List.cons_append] at h
  match vs,h with
  | .int k' z :: vs,h =>
   obtain ⟨rfl,hw,hr⟩:=h
   obtain ⟨g,vs',rfl,h'⟩:=CsOk.u64 (n:=n) (r:=r) hr
   refine ⟨fun j=>match j with | 0=>z.toNat | j + 1=>g j,vs',?_,h'⟩
   simp only [Cell.vals,List.range_succ_eq_map,List.map_cons,List.map_map,List.cons_append,wf_u64 hw]
   rfl
theorem CsOk.bo {r:List CK} {vs:List Value} (h:CsOk (.b :: r) vs):∃ (b:Bool) (vs':List Value),vs = .bool b :: vs'/\CsOk r vs':=by
 match vs,h with
 | .bool b :: vs,h=>exact ⟨b,vs,rfl,h⟩
theorem CsOk.nil {vs:List Value} (h:CsOk [] vs):vs = []:=by
 match vs,h with
 | [],_=>rfl
end Go.Rq
namespace Go.Proofs.YtnjocbcjejpklaaGreat
open Go.Rq Go
set_option maxRecDepth 100000
theorem flat22:FlatTy Tryz.prog 22 [.i .u64]:=.int Tryz.underlying22
theorem flat24:FlatTy Tryz.prog 24 (List.replicate 6 (.i .u64)):=.arr Tryz.underlying24 flat22 (by kernel_rfl) (by kernel_rfl)
theorem flat26:FlatTy Tryz.prog 28 (List.replicate 6 (.i .u64) ++ (List.replicate 6 (.i .u64) ++ [])):=.arr Tryz.underlying28 flat24 (by kernel_rfl) (by kernel_rfl)
theorem flat39:FlatTy Tryz.prog 32 (List.replicate 6 (.i .u64) ++ (List.replicate 6 (.i .u64) ++ (List.replicate 6 (.i .u64) ++ (List.replicate 6 (.i .u64) ++ (List.replicate 6 (.i .u64) ++ (List.replicate 6 (.i .u64) ++
  (List.replicate 6 (.i .u64) ++ (List.replicate 6 (.i .u64) ++ (List.replicate 6 (.i .u64) ++ (List.replicate 6 (.i .u64) ++ (List.replicate 6 (.i .u64) ++ (List.replicate 6 (.i .u64) ++ [])))))))))))) :=
 .arr Tryz.underlying32 flat26 (by kernel_rfl) (by kernel_rfl)
theorem agg_of {P:Program} {Wd:World} {b0:Nat} {t e:TypeId} {n:Nat} {v:Value} (hu:P.underlying t = some (.array n e)) (hv:Value.okWide P Wd .any b0 t v):∃ cs,v = .agg cs:=by
 have:=hv
 simp [Value.okWide,hu] at this
 obtain ⟨cs,h1,_⟩:=this
 exact ⟨cs,h1⟩
theorem e12_open {H:Type} {enc:TypeId × Value->H} {Wd:World} {base b0:Nat} {sp:Nat->Bool} {hd:Bool} {v:Value} {d:DataW H} {p:List MemPlace}
  (h:DataW.Trod enc Tryz.prog Wd base sp hd 32 v d p) (hv:Value.okWide Tryz.prog Wd .any b0 32 v) :
  ∃ a0 a1 a2 a3 a4 a5 a6 a7 a8 a9 a10 a11:Nat->Nat,v = (AV.v1 (v12 a0 a1 a2 a3 a4 a5 a6 a7 a8 a9 a10 a11)).val fz/\p = []/\∀ (W':World) (b:Nat) (sp:Nat->Bool) (hd:Bool),DataW.Trod enc Tryz.prog W' b sp hd 32 v d []:=by
 obtain ⟨cs,rfl⟩:=agg_of Tryz.underlying32 hv
 obtain ⟨hc,hp,ht⟩:=flat39.trod h
 obtain ⟨a0,r0,e0,hc⟩:=CsOk.u64 hc
 obtain ⟨a1,r1,e1,hc⟩:=CsOk.u64 hc
 obtain ⟨a2,r2,e2,hc⟩:=CsOk.u64 hc
 obtain ⟨a3,r3,e3,hc⟩:=CsOk.u64 hc
 obtain ⟨a4,r4,e4,hc⟩:=CsOk.u64 hc
 obtain ⟨a5,r5,e5,hc⟩:=CsOk.u64 hc
 obtain ⟨a6,r6,e6,hc⟩:=CsOk.u64 hc
 obtain ⟨a7,r7,e7,hc⟩:=CsOk.u64 hc
 obtain ⟨a8,r8,e8,hc⟩:=CsOk.u64 hc
 obtain ⟨a9,r9,e9,hc⟩:=CsOk.u64 hc
 obtain ⟨a10,r10,e10,hc⟩:=CsOk.u64 hc
 obtain ⟨a11,r11,e11,hc⟩:=CsOk.u64 hc
 have e12:=CsOk.nil hc
 refine ⟨a0,a1,a2,a3,a4,a5,a6,a7,a8,a9,a10,a11,?_,hp,ht⟩
 subst e12 e11 e10 e9 e8 e7 e6 e5 e4 e3 e2 e1
 have hcs:cs = (cvals fz [q6 a0,q6 a1,q6 a2,q6 a3,q6 a4,q6 a5,q6 a6,q6 a7,q6 a8,q6 a9,q6 a10,q6 a11]).toArray:=by
  apply Array.ext'
  simp only [Value.cells] at e0
  rw [e0]
  rfl
 rw [hcs]
 rfl
theorem flat4:FlatTy Tryz.prog 4 [.b]:=.bool Tryz.underlying4
theorem flatP1:FlatTy Tryz.prog 26 (List.replicate 6 (.i .u64) ++ (List.replicate 6 (.i .u64) ++ ([.b] ++ []))) :=
 .str Tryz.underlying26 (.cons rfl flat24 (by kernel_rfl) (.cons rfl flat24 (by kernel_rfl) (.cons rfl flat4 (by kernel_rfl) (.nil _)))) (by kernel_rfl)
theorem flatP2:FlatTy Tryz.prog 30 ((List.replicate 6 (.i .u64) ++ (List.replicate 6 (.i .u64) ++ [])) ++ ((List.replicate 6 (.i .u64) ++ (List.replicate 6 (.i .u64) ++ [])) ++ ([.b] ++ []))) :=
 .str Tryz.underlying30 (.cons rfl flat26 (by kernel_rfl) (.cons rfl flat26 (by kernel_rfl) (.cons rfl flat4 (by kernel_rfl) (.nil _)))) (by kernel_rfl)
theorem agg_of_str {P:Program} {Wd:World} {b0:Nat} {t:TypeId} {fs:Array Field} {v:Value} (hu:P.underlying t = some (.struct fs)) (hv:Value.okWide P Wd .any b0 t v):∃ cs,v = .agg cs:=by
 have:=hv
 simp [Value.okWide,hu] at this
 obtain ⟨cs,h1,_⟩:=this
 exact ⟨cs,h1⟩
theorem p1_open {H:Type} {enc:TypeId × Value->H} {Wd:World} {base b0:Nat} {sp:Nat->Bool} {hd:Bool} {v:Value} {d:DataW H} {p:List MemPlace}
  (h:DataW.Trod enc Tryz.prog Wd base sp hd 26 v d p) (hv:Value.okWide Tryz.prog Wd .any b0 26 v) :
  ∃ (x y:Nat->Nat) (z:Bool),v = (p1V x y z).val fz/\p = []/\∀ (W':World) (b:Nat) (sp:Nat->Bool) (hd:Bool),DataW.Trod enc Tryz.prog W' b sp hd 26 v d []:=by
 obtain ⟨cs,rfl⟩:=agg_of_str Tryz.underlying26 hv
 obtain ⟨hc,hp,ht⟩:=flatP1.trod h
 obtain ⟨a,r1,e1,hc⟩:=CsOk.u64 hc
 obtain ⟨b,r2,e2,hc⟩:=CsOk.u64 hc
 obtain ⟨z,r3,e3,hc⟩:=CsOk.bo hc
 have e4:=CsOk.nil hc
 refine ⟨a,b,z,?_,hp,ht⟩
 subst e4 e3 e2
 have hcs:cs = (cvals fz [q6 a,q6 b,.one (.bo z)]).toArray:=by
  apply Array.ext'
  simp only [Value.cells] at e1
  rw [e1]
  rfl
 rw [hcs]
 rfl
theorem p2_open {H:Type} {enc:TypeId × Value->H} {Wd:World} {base b0:Nat} {sp:Nat->Bool} {hd:Bool} {v:Value} {d:DataW H} {p:List MemPlace}
  (h:DataW.Trod enc Tryz.prog Wd base sp hd 30 v d p) (hv:Value.okWide Tryz.prog Wd .any b0 30 v) :
  ∃ (x0 x1 y0 y1:Nat->Nat) (z:Bool),v = (p2V x0 x1 y0 y1 z).val fz/\p = []/\∀ (W':World) (b:Nat) (sp:Nat->Bool) (hd:Bool),DataW.Trod enc Tryz.prog W' b sp hd 30 v d []:=by
 obtain ⟨cs,rfl⟩:=agg_of_str Tryz.underlying30 hv
 obtain ⟨hc,hp,ht⟩:=flatP2.trod h
 simp only [List.append_assoc,List.nil_append,List.append_nil] at hc
 obtain ⟨a,r1,e1,hc⟩:=CsOk.u64 hc
 obtain ⟨b,r2,e2,hc⟩:=CsOk.u64 hc
 obtain ⟨c,r3,e3,hc⟩:=CsOk.u64 hc
 obtain ⟨d,r4,e4,hc⟩:=CsOk.u64 hc
 obtain ⟨z,r5,e5,hc⟩:=CsOk.bo hc
 have e6:=CsOk.nil hc
 refine ⟨a,b,c,d,z,?_,hp,ht⟩
 subst e6 e5 e4 e3 e2
 have hcs:cs = (cvals fz [q6 a,q6 b,q6 c,q6 d,.one (.bo z)]).toArray:=by
  apply Array.ext'
  simp only [Value.cells] at e1
  rw [e1]
  rfl
 rw [hcs]
 rfl
open Go.ChangeShapes Go.WideShapes Go.ChangeAt Go.RowKit
end Go.Proofs.YtnjocbcjejpklaaGreat
namespace Go.Rq
open Go Go.ChangeShapes Go.WideShapes
theorem post_same {H:Type} {enc:TypeId × Value->H} {P:Program} {f:Func} {s:ChangeSpec} {apart fresh handsOn again:Bool} {W W':World} {args:Array Value} {v:Value} {ds gs:List (DataW H)} {before pa pv:List MemPlace}
  (hW:DataW.Whole enc P f.params.toList s.vars apart W args.toList ds gs before)
  (hres:∀ (b:Nat) (sp:Nat->Bool) (hd:Bool),DataW.TrodAll enc P W' b sp hd f.resultTypes.toList (v.resultList f.resultTypes.size) (s.fn H (ds ++ gs)).results [])
  (hargs:∀ sp:Nat->Bool,(∀ p ∈ before,sp p.block = true)->DataW.TrodAll enc P W' 0 sp true f.params.toList args.toList (s.fn H (ds ++ gs)).args pa)
  (hvars:∀ sp:Nat->Bool,(∀ p ∈ before,sp p.block = true)->DataW.TrodVars enc P W' sp s.vars (s.fn H (ds ++ gs)).vars pv)
  (hps:before = pa ++ pv) (hst:StepW W W')
  (hok:∀ (j:Nat) (t:TypeId) (r:Value),f.resultTypes[j]? = some t->(v.resultList f.resultTypes.size)[j]? = some r->Value.okWide P W' .any 0 t r) :
  s.post enc P f apart fresh handsOn again W args v W':=by
 have hold:∀ p ∈ before,(fun b=>decide (b < W.heap.size)) p.block = true:=fun p hp=>by simpa using hW.lt p hp
 refine ⟨ds,gs,before,[],pa,pv,hW,hres _ _ _,hargs _ hold,hvars _ hold,World.keptBut_mono (fun p hp=>⟨hp,?_⟩) (hst.frame (· ∈ before)),fun _=>?_⟩
 ·rw [hps,List.mem_append] at hp
  exact Or.inr hp
 ·have hlt:=hW.lt
  obtain ⟨_,_,_,_,_,hz,hn⟩:=hW
  refine ⟨hok,_,_,([] ++ pa) ++ pv,⟨[] ++ pa,pv,trodAll_append (hargs _ (fun _ _=>rfl)) (hres _ _ _),hvars _ (fun _ _=>rfl),rfl,?_,?_⟩,?_⟩
  ·intro b off hp
   have hp':MemPlace.cell b off ∈ before:=by rw [hps];simpa using hp
   rw [hst.old _ (hlt _ hp')]
   exact hz b off hp'
  ·intro ha
   have:=hn ha
   rw [hps] at this
   simpa using this
  ·intro p hp _
   rw [hps]
   simpa using hp
end Go.Rq
