/- reliquarylaw06.PairingProducts answers true at every input, and leaves it as it was. Conditions: none. -/
import Derived.Test.YtnjocbcjejpklaaZrE
import Derived.Test.YtnjocbcjejpklaaRows
import Derived.Carry
set_option linter.all false
namespace Go.Proofs.Ytnjocbcjejpklaa
open Go.Rq Go Go.ChangeShapes Go.WideShapes Go.ChangeAt Go.RowKit
set_option maxRecDepth 100000
theorem plain_P0 (p:PL):∀ n k,plainCs (cP p k n) = true
 | 0,_=>rfl
 | n + 1,k=>plain_P0 p n (k + 1)
theorem plain_Q0 (q:QL):∀ n k,plainCs (cQ q k n) = true
 | 0,_=>rfl
 | n + 1,k=>plain_Q0 q n (k + 1)
theorem win_at {ρ:Ren} {i B t off N:Nat} {cs ds:List Cell} {arr:Array Value} {fr:Nat × Nat} {w:World} (hρ:ρ i = B) (h1:w.heap[B]? = some (.cells arr t fr)) (hp:plainCs cs = true) (e:cs = ds) (hl:(cvals fz ds).length = N)
  (hc:∀ j,j < N->arr[off + j]? = (cvals fz ds)[j]?):WinAt ρ i ⟨t,cs ++ [.one (.rw (wrapB arr fr))],3,off⟩ w:=by
 have hv:cvals ρ cs = cvals fz ds:=by rw [plain_cvals hp ρ fz,e]
 refine ⟨arr,fr,by rw [hρ];exact h1,?_,fun j hj=>?_⟩
 ·simp only [cvals_append,cvals,Cell.vals,Sc.val,List.append_nil,List.getLast?_append,List.getLast?_singleton,Option.some_or]
 ·simp only [cvals_append,cvals,Cell.vals,Sc.val,List.append_nil,List.length_append,List.length_singleton,hv,hl] at hj ⊢
  have hj:j < N:=by omega
  rw [List.getElem?_append_left (by rw [hl];exact hj)]
  exact hc j hj
theorem winP_at {ρ:Ren} {i B t off n:Nat} {p:PL} {arr:Array Value} {fr:Nat × Nat} {w:World} (hρ:ρ i = B) (h1:w.heap[B]? = some (.cells arr t fr)) (hc:∀ j,j < 13 * n->arr[off + j]? = (cvals fz (flat (cP1 p) 0 n))[j]?) :
  ∀ b,wP t off p n (arr,fr) = some b->b.lo = 3/\plainCs b.cells = true/\WinAt ρ i b w:=fun b e=>by
 cases e
 exact ⟨rfl,plain_P p (arr,fr) n 0,win_at hρ h1 (plain_P0 p n 0) (cP_flat p n 0) (flat_len (len_P1 p) n 0) hc⟩
theorem winQ_at {ρ:Ren} {i B t off n:Nat} {q:QL} {arr:Array Value} {fr:Nat × Nat} {w:World} (hρ:ρ i = B) (h1:w.heap[B]? = some (.cells arr t fr)) (hc:∀ j,j < 25 * n->arr[off + j]? = (cvals fz (flat (cQ1 q) 0 n))[j]?) :
  ∀ b,wQ t off q n (arr,fr) = some b->b.lo = 3/\plainCs b.cells = true/\WinAt ρ i b w:=fun b e=>by
 cases e
 exact ⟨rfl,plain_Q q (arr,fr) n 0,win_at hρ h1 (plain_Q0 q n 0) (cQ_flat q n 0) (flat_len (len_Q1 q) n 0) hc⟩
theorem see_norm {w:World} {s:Nat} {c:Nat->List Cell} {n:Nat} {v:Value} (h:SeeL w s c n v) :
  (n = 0/\∃ o cap,v = .slice o 0 cap)∨(n ≠ 0/\∃ B t off cap arr fr,v = .slice (some ⟨B,off,none⟩) n cap/\w.heap[B]? = some (.cells arr t fr)/\∀ j,j < s * n->arr[off + j]? = (cvals fz (flat c 0 n))[j]?):=by
 rcases h with h | ⟨B,t,off,cap,arr,fr,rfl,h⟩
 ·exact .inl h
 ·by_cases h0:n = 0
  ·subst h0;exact .inl ⟨rfl,_,_,rfl⟩
  ·exact .inr ⟨h0,B,t,off,cap,arr,fr,rfl,h⟩
theorem beq_ne {n m:Nat} (h:n ≠ m):Nat.beq n m = false:=by rw [<-Bool.not_eq_true,Nat.beq_eq];exact h
theorem pairingProducts_calls {n m:Nat} {p:PL} {q:QL} {x y:Value} (w:World) (hx:SeeL w 13 (cP1 p) n x) (hy:SeeL w 25 (cQ1 q) m y) :
  Calls Try.prog 4 [x,y].toArray w (fun e w'=>e = .returned (.bool true)/\StepW w w'):=by
 rcases see_norm hx with ⟨rfl,a,c1,rfl⟩ | ⟨hn0,B1,t1,o1,c1,arr1,fr1,rfl,g1,k1⟩
 ·rcases see_norm hy with ⟨rfl,b,c2,rfl⟩ | ⟨hm0,B2,t2,o2,c2,arr2,fr2,rfl,g2,k2⟩
  ·exact see_calls tt_ok Try.func4 (by kernel_rfl) (v:=.v1 (.sc (.bo true))) (ρW:=fun _=>0) (W:=[]) (args:=[rW a c1,rW b c2]) (fun i b hb=>by cases i <;> cases hb) rfl rfl (law_none a b c1 c2)
  ·have hw:∀ i b,hget [wQ t2 o2 q m (arr2,fr2)] i = some b->b.lo = 3/\plainCs b.cells = true/\WinAt (fun _=>B2) i b w:=fun i b hb=>by
    cases i with
    | zero=>exact winQ_at rfl g2 k2 b hb
    | succ i=>cases i <;> cases hb
   refine see_calls tt_ok Try.func4 (by kernel_rfl) (v:=.v1 (.sc (.bo true))) (ρW:=fun _=>B2) (W:=[wQ t2 o2 q m (arr2,fr2)]) (args:=[rW a c1,sl3 0 o2 m c2]) hw rfl rfl ?_
   by_cases h4:m <= 4
   ·exact unl_q ⟨fun _ _=>0,fun _ _=>0,fun _=>true⟩ q a m t2 o2 c1 c2 (arr2,fr2) h4 (beq_ne (Ne.symm hm0))
   ·exact long_q q a m t2 o2 c1 c2 (arr2,fr2) h4
 ·rcases see_norm hy with ⟨rfl,b,c2,rfl⟩ | ⟨hm0,B2,t2,o2,c2,arr2,fr2,rfl,g2,k2⟩
  ·have hw:∀ i b,hget [wP t1 o1 p n (arr1,fr1)] i = some b->b.lo = 3/\plainCs b.cells = true/\WinAt (fun _=>B1) i b w:=fun i b hb=>by
    cases i with
    | zero=>exact winP_at rfl g1 k1 b hb
    | succ i=>cases i <;> cases hb
   refine see_calls tt_ok Try.func4 (by kernel_rfl) (v:=.v1 (.sc (.bo true))) (ρW:=fun _=>B1) (W:=[wP t1 o1 p n (arr1,fr1)]) (args:=[sl3 0 o1 n c1,rW b c2]) hw rfl rfl ?_
   by_cases h4:n <= 4
   ·exact unl_p p ⟨fun _ _=>0,fun _ _=>0,fun _ _=>0,fun _ _=>0,fun _=>true⟩ b n t1 o1 c1 c2 (arr1,fr1) h4 (beq_ne hn0)
   ·exact long_p p b n t1 o1 c1 c2 (arr1,fr1) h4
  ·have hw:∀ i b,hget [wP t1 o1 p n (arr1,fr1),wQ t2 o2 q m (arr2,fr2)] i = some b->b.lo = 3/\plainCs b.cells = true/\WinAt (fun i=>nthN [B1,B2] i) i b w:=fun i b hb=>by
    match i,hb with
    | 0,hb=>exact winP_at rfl g1 k1 b hb
    | 1,hb=>exact winQ_at rfl g2 k2 b hb
    | i + 2,hb=>cases i <;> cases hb
   refine see_calls tt_ok Try.func4 (by kernel_rfl) (v:=.v1 (.sc (.bo true))) (ρW:=fun i=>nthN [B1,B2] i) (W:=[wP t1 o1 p n (arr1,fr1),wQ t2 o2 q m (arr2,fr2)]) (args:=[sl3 0 o1 n c1,sl3 1 o2 m c2]) hw rfl rfl ?_
   by_cases h4:n <= 4
   ·by_cases h5:m <= 4
    ·by_cases h6:n = m
     ·subst h6;exact law_like p q n h4 t1 o1 c1 t2 o2 c2 (arr1,fr1) (arr2,fr2)
     ·exact unl_2 p q n m t1 o1 c1 t2 o2 c2 (arr1,fr1) (arr2,fr2) h4 h5 (beq_ne h6)
    ·exact long_2 p q n m t1 o1 c1 t2 o2 c2 (arr1,fr1) (arr2,fr2) h4 h5
   ·exact long_1 p q n m t1 o1 c1 t2 o2 c2 (arr1,fr1) (arr2,fr2) h4
theorem p1s_open {H:Type} {enc:TypeId × Value->H} {Wd:World} {b0:Nat} {v:Value} {d:DataW H} {pl:List MemPlace} (h:DataW.Trod enc Try.prog Wd 0 (fun _=>true) true 36 v d pl) (hv:Value.okWide Try.prog Wd .any b0 36 v) :
  ∃ (n:Nat) (p:PL),SeeL Wd 13 (cP1 p) n v/\∀ (W':World),StepW Wd W'->∀ sp:Nat->Bool,(∀ q ∈ pl,sp q.block = true)->DataW.Trod enc Try.prog W' 0 sp true 36 v d pl:=by
 obtain ⟨n,X,h1,h2⟩:=list_open (α:=(Nat->Nat) × (Nat->Nat) × Bool) (s:=13) Try.underlying36 (by kernel_rfl) (by decide) (fun x=>[q6 x.1,q6 x.2.1,.one (.bo x.2.2)]) (fun _=>rfl) (fun {cs d pl} h=>by
  obtain ⟨hc,hp,ht⟩:=flatP1.trod h
  obtain ⟨a,r1,e1,hc⟩:=CsOk.u64 hc
  obtain ⟨b,r2,e2,hc⟩:=CsOk.u64 hc
  obtain ⟨z,r3,e3,hc⟩:=CsOk.bo hc
  have e4:=CsOk.nil hc
  refine ⟨(a,b,z),?_,hp,ht⟩
  subst e4 e3 e2
  apply Array.ext'
  simp only [Value.cells] at e1
  rw [e1]
  rfl) h hv
 exact ⟨n,⟨fun i=>(X i).1,fun i=>(X i).2.1,fun i=>(X i).2.2⟩,h1,h2⟩
theorem p2s_open {H:Type} {enc:TypeId × Value->H} {Wd:World} {b0:Nat} {v:Value} {d:DataW H} {pl:List MemPlace} (h:DataW.Trod enc Try.prog Wd 0 (fun _=>true) true 37 v d pl) (hv:Value.okWide Try.prog Wd .any b0 37 v) :
  ∃ (n:Nat) (q:QL),SeeL Wd 25 (cQ1 q) n v/\∀ (W':World),StepW Wd W'->∀ sp:Nat->Bool,(∀ q ∈ pl,sp q.block = true)->DataW.Trod enc Try.prog W' 0 sp true 37 v d pl:=by
 obtain ⟨n,X,h1,h2⟩:=list_open (α:=(Nat->Nat) × (Nat->Nat) × (Nat->Nat) × (Nat->Nat) × Bool) (s:=25) Try.underlying37 (by kernel_rfl) (by decide) (fun x=>[q6 x.1,q6 x.2.1,q6 x.2.2.1,q6 x.2.2.2.1,.one (.bo x.2.2.2.2)]) (fun _=>rfl) (fun {cs d pl} h=>by
  obtain ⟨hc,hp,ht⟩:=flatP2.trod h
  simp only [List.append_assoc,List.nil_append,List.append_nil] at hc
  obtain ⟨a,r1,e1,hc⟩:=CsOk.u64 hc
  obtain ⟨b,r2,e2,hc⟩:=CsOk.u64 hc
  obtain ⟨c,r3,e3,hc⟩:=CsOk.u64 hc
  obtain ⟨d,r4,e4,hc⟩:=CsOk.u64 hc
  obtain ⟨z,r5,e5,hc⟩:=CsOk.bo hc
  have e6:=CsOk.nil hc
  refine ⟨(a,b,c,d,z),?_,hp,ht⟩
  subst e6 e5 e4 e3 e2
  apply Array.ext'
  simp only [Value.cells] at e1
  rw [e1]
  rfl) h hv
 exact ⟨n,⟨fun i=>(X i).1,fun i=>(X i).2.1,fun i=>(X i).2.2.1,fun i=>(X i).2.2.2.1,fun i=>(X i).2.2.2.2⟩,h1,h2⟩
theorem pairingProducts_lifted (os:Os) (started:os.Started) (H:Type) (enc:TypeId × Value->H) :
  ReturnsInHanded {} Try.checked os 4 .any (Rows.pairingProductsSpec.pre6 enc Try.prog Try.f4 Rows.pairingProductsRow.domain false) (Rows.pairingProductsSpec.post enc Try.prog Try.f4 false true false false):=by
 refine returnsInHanded_of_change (C:=Try.checked) Try.own started (by kernel_rfl) Try.func4
  (ChangeSpec.witness6 (enc:=enc) (C:=Try.checked) false ⟨#[],#[.slice none 0 0,.slice none 0 0],[]⟩ 8 (by kernel_rfl) (by kernel_rfl) (by kernel_rfl) (by kernel_rfl)) ?_
 intro Wd base args ds gs before hval0 hW _ _
 have hval:∀ (j:Nat) t v,Try.f4.params[j]? = some t->args[j]? = some v->Value.okWide Try.prog Wd .any base t v:=hval0
 have hW':=hW
 obtain ⟨p,q,hA0,hV,rfl,_,_⟩:=hW
 have hA:DataW.TrodAll enc Try.prog Wd 0 (fun _=>true) true Try.f4.params.toList args.toList ds p:=hA0
 rw [Try.params4] at hA hval
 obtain ⟨v0,v1,d0,d1,p0,p1,rfl,rfl,rfl,h0,h1⟩:=trodAll_two hA
 obtain ⟨rfl,rfl⟩:=trodVars_none hV
 obtain ⟨n0,x0,s0,t0⟩:=p1s_open h0 (hval 0 36 v0 rfl rfl)
 obtain ⟨n1,x1,s1,t1⟩:=p2s_open h1 (hval 1 37 v1 rfl rfl)
 clear hA0 hval0
 simp only [List.append_nil] at hW'
 refine (pairingProducts_calls Wd s0 s1).mono fun e W' ⟨he,hw⟩=>?_
 subst he
 exact ⟨_,rfl,post_same (pa:=p0 ++ p1) (pv:=[]) hW' (fun _ _ _=>trodAll_mk1 (shut_bool Try.underlying4 true)) (fun sp hsp=>trodAll_mk2 (t0 _ hw sp (fun q hq=>hsp q (by simp [hq]))) (t1 _ hw sp (fun q hq=>hsp q (by simp [hq])))) (fun _ _=>rfl) (by simp) hw (ok_one (by kernel_rfl) rfl (okWide_bool_mk Try.underlying4 true))⟩
theorem pairingProducts_holds:Rows.PairingProductsSaid :=
 OpenClaim.holds_of_wide 4 Try.f4 rfl rfl rfl rfl rfl rfl rfl ⟨rfl,rfl,rfl,rfl,rfl⟩ rfl rfl rfl rfl rfl (by kernel_rfl) Try.func4 (by kernel_rfl)
  (of_decide_eq_true (by kernel_rfl)) (by unfold Func.isWrapper;rw [if_neg (of_decide_eq_false (by kernel_rfl))];exact ⟨rfl,rfl⟩)
  (fun os started H enc _=>pairingProducts_lifted os started H enc)
end Go.Proofs.Ytnjocbcjejpklaa
