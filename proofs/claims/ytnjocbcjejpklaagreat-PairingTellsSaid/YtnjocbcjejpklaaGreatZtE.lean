/- Texts of the proof, joined. -/
import Derived.Test.YtnjocbcjejpklaaGreatZtD
set_option linter.all false
namespace Go.Proofs.YtnjocbcjejpklaaGreat
open Go.Rq Go
set_option maxRecDepth 100000
def of12 (a0 a1 a2 a3 a4 a5 a6 a7 a8 a9 a10 a11:Nat->Nat):Nat->Nat->Nat
 | 0=>a0
 | 1=>a1
 | 2=>a2
 | 3=>a3
 | 4=>a4
 | 5=>a5
 | 6=>a6
 | 7=>a7
 | 8=>a8
 | 9=>a9
 | 10=>a10
 | _=>a11
def sel12 (s:S12):Nat->Nat->Nat:=of12 (eF s.p.u.x) (eF s.p.u.y) (eF s.q.u.x) (eF s.q.u.y) (eF s.p.v.x) (eF s.p.v.y) (eF s.q.v.x) (eF s.q.v.y) (eF s.p.w.x) (eF s.p.w.y) (eF s.q.w.x) (eF s.q.w.y)
abbrev cs12 (g:Nat->Nat->Nat):List Cell:=[q6 (g 0),q6 (g 1),q6 (g 2),q6 (g 3),q6 (g 4),q6 (g 5),q6 (g 6),q6 (g 7),q6 (g 8),q6 (g 9),q6 (g 10),q6 (g 11)]
abbrev D12 (g:Nat->Nat->Nat):S12:=d12 (g 0) (g 1) (g 2) (g 3) (g 4) (g 5) (g 6) (g 7) (g 8) (g 9) (g 10) (g 11)
abbrev b12 (g:Nat->Nat->Nat):Option Blk:=some ⟨71,cs12 g,0,0⟩
def Lt12 (g:Nat->Nat->Nat):Prop:=∀ i,i < 12->nv (g i) < pN
theorem D12_sel (s:S12):D12 (sel12 s) = s:=by
 simp only [D12,sel12,of12,d12,d6,qE]
theorem lt_of12 {a0 a1 a2 a3 a4 a5 a6 a7 a8 a9 a10 a11:Nat->Nat} (h0:nv a0 < pN) (h1:nv a1 < pN) (h2:nv a2 < pN) (h3:nv a3 < pN) (h4:nv a4 < pN) (h5:nv a5 < pN) (h6:nv a6 < pN) (h7:nv a7 < pN) (h8:nv a8 < pN) (h9:nv a9 < pN) (h10:nv a10 < pN) (h11:nv a11 < pN):Lt12 (of12 a0 a1 a2 a3 a4 a5 a6 a7 a8 a9 a10 a11):=by
 intro i hi
 have:i = 0∨i = 1∨i = 2∨i = 3∨i = 4∨i = 5∨i = 6∨i = 7∨i = 8∨i = 9∨i = 10∨i = 11:=by omega
 rcases this with rfl | rfl | rfl | rfl | rfl | rfl | rfl | rfl | rfl | rfl | rfl | rfl
 ·exact h0
 ·exact h1
 ·exact h2
 ·exact h3
 ·exact h4
 ·exact h5
 ·exact h6
 ·exact h7
 ·exact h8
 ·exact h9
 ·exact h10
 ·exact h11
theorem lt_sel (s:S12):Lt12 (sel12 s):=lt_of12 (lE _) (lE _) (lE _) (lE _) (lE _) (lE _) (lE _) (lE _) (lE _) (lE _) (lE _) (lE _)
theorem endN_12 {g:Nat->Nat->Nat} {s:S12} (h:Lt12 g) (e:D12 g = s):endN (.v1 (.agg (cs12 g))) (.v1 (e12 s)):=by
 subst e
 exact ⟨_,rfl,v12_val (nv_of (h 0 (by decide)) rfl) (nv_of (h 1 (by decide)) rfl) (nv_of (h 2 (by decide)) rfl) (nv_of (h 3 (by decide)) rfl) (nv_of (h 4 (by decide)) rfl) (nv_of (h 5 (by decide)) rfl) (nv_of (h 6 (by decide)) rfl) (nv_of (h 7 (by decide)) rfl) (nv_of (h 8 (by decide)) rfl) (nv_of (h 9 (by decide)) rfl) (nv_of (h 10 (by decide)) rfl) (nv_of (h 11 (by decide)) rfl)⟩
theorem tw_x {a b c d:Nat->Nat} {K:F2p} (h2:dF c = K.x) (h3:dF d = K.y):dF (eF (mul2x (dF (eF (cj2x (dF a) (dF b)))) (dF (eF (cj2y (dF a) (dF b)))) (dF c) (dF d))) = (F2p.cj ⟨dF a,dF b⟩ * K).x:=by
 rw [qE,qE,qE,h2,h3];rfl
theorem tw_y {a b c d:Nat->Nat} {K:F2p} (h2:dF c = K.x) (h3:dF d = K.y):dF (eF (mul2y (dF (eF (cj2x (dF a) (dF b)))) (dF (eF (cj2y (dF a) (dF b)))) (dF c) (dF d))) = (F2p.cj ⟨dF a,dF b⟩ * K).y:=by
 rw [qE,qE,qE,h2,h3];rfl
abbrev nw12 (g:Nat->Nat->Nat):Nat->Nat->Nat:=of12 (eF (mul2x (dF (eF (cj2x (dF (g 0)) (dF (g 1))))) (dF (eF (cj2y (dF (g 0)) (dF (g 1))))) (dF tuF0) (dF tuF1))) (eF (mul2y (dF (eF (cj2x (dF (g 0)) (dF (g 1))))) (dF (eF (cj2y (dF (g 0)) (dF (g 1))))) (dF tuF0) (dF tuF1))) (eF (mul2x (dF (eF (cj2x (dF (g 2)) (dF (g 3))))) (dF (eF (cj2y (dF (g 2)) (dF (g 3))))) (dF tuF2) (dF tuF3))) (eF (mul2y (dF (eF (cj2x (dF (g 2)) (dF (g 3))))) (dF (eF (cj2y (dF (g 2)) (dF (g 3))))) (dF tuF2) (dF tuF3))) (eF (mul2x (dF (eF (cj2x (dF (g 4)) (dF (g 5))))) (dF (eF (cj2y (dF (g 4)) (dF (g 5))))) (dF tuF4) (dF tuF5))) (eF (mul2y (dF (eF (cj2x (dF (g 4)) (dF (g 5))))) (dF (eF (cj2y (dF (g 4)) (dF (g 5))))) (dF tuF4) (dF tuF5))) (eF (mul2x (dF (eF (cj2x (dF (g 6)) (dF (g 7))))) (dF (eF (cj2y (dF (g 6)) (dF (g 7))))) (dF tuF6) (dF tuF7))) (eF (mul2y (dF (eF (cj2x (dF (g 6)) (dF (g 7))))) (dF (eF (cj2y (dF (g 6)) (dF (g 7))))) (dF tuF6) (dF tuF7))) (eF (mul2x (dF (eF (cj2x (dF (g 8)) (dF (g 9))))) (dF (eF (cj2y (dF (g 8)) (dF (g 9))))) (dF tuF8) (dF tuF9))) (eF (mul2y (dF (eF (cj2x (dF (g 8)) (dF (g 9))))) (dF (eF (cj2y (dF (g 8)) (dF (g 9))))) (dF tuF8) (dF tuF9))) (eF (mul2x (dF (eF (cj2x (dF (g 10)) (dF (g 11))))) (dF (eF (cj2y (dF (g 10)) (dF (g 11))))) (dF tuF10) (dF tuF11))) (eF (mul2y (dF (eF (cj2x (dF (g 10)) (dF (g 11))))) (dF (eF (cj2y (dF (g 10)) (dF (g 11))))) (dF tuF10) (dF tuF11)))
theorem nw_lt (g:Nat->Nat->Nat):Lt12 (nw12 g):=lt_of12 (lE _) (lE _) (lE _) (lE _) (lE _) (lE _) (lE _) (lE _) (lE _) (lE _) (lE _) (lE _)
theorem nw_d (g:Nat->Nat->Nat):D12 (nw12 g) = (D12 g).turn:=by
 exact S12.ext (S6.ext (F2p.ext (tw_x tu_d0 tu_d1) (tw_y tu_d0 tu_d1)) (F2p.ext (tw_x tu_d4 tu_d5) (tw_y tu_d4 tu_d5)) (F2p.ext (tw_x tu_d8 tu_d9) (tw_y tu_d8 tu_d9))) (S6.ext (F2p.ext (tw_x tu_d2 tu_d3) (tw_y tu_d2 tu_d3)) (F2p.ext (tw_x tu_d6 tu_d7) (tw_y tu_d6 tu_d7)) (F2p.ext (tw_x tu_d10 tu_d11) (tw_y tu_d10 tu_d11)))
def cFr (args:List AV):Option (List Prop × AV) :=
 match args with
 | [.v1 (.agg [.ws .u64 6 a0,.ws .u64 6 a1,.ws .u64 6 a2,.ws .u64 6 a3,.ws .u64 6 a4,.ws .u64 6 a5,.ws .u64 6 a6,.ws .u64 6 a7,.ws .u64 6 a8,.ws .u64 6 a9,.ws .u64 6 a10,.ws .u64 6 a11]),.v1 (.sc (.it (.ofNat n)))]=>some ([n <= 12,nv a0 < pN,nv a1 < pN,nv a2 < pN,nv a3 < pN,nv a4 < pN,nv a5 < pN,nv a6 < pN,nv a7 < pN,nv a8 < pN,nv a9 < pN,nv a10 < pN,nv a11 < pN],.v1 (e12 (S12.turns n (d12 a0 a1 a2 a3 a4 a5 a6 a7 a8 a9 a10 a11))))
 | _=>none
def GFr:Ctx:=ctxL [(150,.pure (c12 tu12)),(151,.pure (q1 cj2x cj2y)),(112,.pure (q2 mul2x mul2y))]
theorem GFr_ok:CtxOk Tryz.prog GFr:=cxC okTurned <| cxC okConj2 <| cxC okMul2 cxN
abbrev zz12:Nat->Nat->Nat:=fun _ _=>0
abbrev tuG:Nat->Nat->Nat:=of12 tuF0 tuF1 tuF2 tuF3 tuF4 tuF5 tuF6 tuF7 tuF8 tuF9 tuF10 tuF11
def VFr (n k:Nat):List AV:=[pt 0 0,pt 1 0,pt 3 0,iv (Int.ofNat n),iv (Int.ofNat k)]
def HFr (g:Nat->Nat->Nat):Heap:=[b12 g,b12 zz12,none,b12 tuG]
def InvFr (n:Nat) (z:S12) (x:Nat × (Nat->Nat->Nat)):Prop:=x.1 <= n/\Lt12 x.2/\D12 x.2 = S12.turns x.1 z
theorem okFrob:(CallC.pure cFr).Ok Tryz.prog 91:=by
 intro args pre v e hp
 unfold cFr at e
 split at e
 ·rename_i a0 a1 a2 a3 a4 a5 a6 a7 a8 a9 a10 a11 n
  cases e
  have hn:n <= 12:=hp _ (by simp)
  have h0:nv a0 < pN:=hp _ (by simp)
  have h1:nv a1 < pN:=hp _ (by simp)
  have h2:nv a2 < pN:=hp _ (by simp)
  have h3:nv a3 < pN:=hp _ (by simp)
  have h4:nv a4 < pN:=hp _ (by simp)
  have h5:nv a5 < pN:=hp _ (by simp)
  have h6:nv a6 < pN:=hp _ (by simp)
  have h7:nv a7 < pN:=hp _ (by simp)
  have h8:nv a8 < pN:=hp _ (by simp)
  have h9:nv a9 < pN:=hp _ (by simp)
  have h10:nv a10 < pN:=hp _ (by simp)
  have h11:nv a11 < pN:=hp _ (by simp)
  refine pWk tK Tryz.func91 (by kernel_rfl) (by kernel_rfl) (by rfl) (by rfl) ?_
  refine loopF mxd tK GFr_ok (by kernel_rfl) (ι:={x // InvFr n (d12 a0 a1 a2 a3 a4 a5 a6 a7 a8 a9 a10 a11) x}) [2,4,5,8,9] 27 4 (fun x=>VFr n x.1.1) (fun x=>HFr x.1.2) (fun x=>n - x.1.1) (fun x=>x.1.1 = n)
   (fun _=>rfl) (fun _=>by kernel_rfl) (fun _ _ h=>h.elim) 100 [] ?_ ?_ ?_
  ·refine same (p:=true = true/\∃ j:{x // InvFr n (d12 a0 a1 a2 a3 a4 a5 a6 a7 a8 a9 a10 a11) x},VFr n 0 = VFr n j.1.1/\HFr (of12 a0 a1 a2 a3 a4 a5 a6 a7 a8 a9 a10 a11) = HFr j.1.2) ?_ (by kernel_rfl)
   exact ⟨rfl,⟨(0,of12 a0 a1 a2 a3 a4 a5 a6 a7 a8 a9 a10 a11),Nat.zero_le _,lt_of12 h0 h1 h2 h3 h4 h5 h6 h7 h8 h9 h10 h11,rfl⟩,rfl,rfl⟩
  ·intro ⟨⟨k,g⟩,hk,hg,hd⟩ junk
   simp only at hk hg hd
   by_cases hlt:k < n
   ·have hge:ilt (Int.ofNat k) (Int.ofNat n) = true:=by rw [ilt_iff];exact Int.ofNat_lt.2 hlt
    have hs:wrapI (Int.ofNat k + 1) = Int.ofNat (k + 1):=by show wrapI (Int.ofNat (k + 1)) = _;exact wrapI_small (by omega)
    refine rQ mxd tK GFr_ok 200 [⟨3,0,.lit (.bo true)⟩,⟨9,0,.lit (.it (Int.ofNat (k + 1)))⟩] ?_
    refine same (p:=ilt (Int.ofNat k) (Int.ofNat n) = true/\lp (g 0)/\lp (g 1)/\lp (eF (cj2x (dF (g 0)) (dF (g 1))))/\lp (eF (cj2y (dF (g 0)) (dF (g 1))))/\lp tuF0/\lp tuF1/\lp (g 2)/\lp (g 3)/\lp (eF (cj2x (dF (g 2)) (dF (g 3))))/\lp (eF (cj2y (dF (g 2)) (dF (g 3))))/\lp tuF2/\lp tuF3/\lp (g 4)/\lp (g 5)/\lp (eF (cj2x (dF (g 4)) (dF (g 5))))/\lp (eF (cj2y (dF (g 4)) (dF (g 5))))/\lp tuF4/\lp tuF5/\lp (g 6)/\lp (g 7)/\lp (eF (cj2x (dF (g 6)) (dF (g 7))))/\lp (eF (cj2y (dF (g 6)) (dF (g 7))))/\lp tuF6/\lp tuF7/\lp (g 8)/\lp (g 9)/\lp (eF (cj2x (dF (g 8)) (dF (g 9))))/\lp (eF (cj2y (dF (g 8)) (dF (g 9))))/\lp tuF8/\lp tuF9/\lp (g 10)/\lp (g 11)/\lp (eF (cj2x (dF (g 10)) (dF (g 11))))/\lp (eF (cj2y (dF (g 10)) (dF (g 11))))/\lp tuF10/\lp tuF11/\wrapI (Int.ofNat k + 1) = Int.ofNat (k + 1)/\true = true /\
     ∃ j:{x // InvFr n (d12 a0 a1 a2 a3 a4 a5 a6 a7 a8 a9 a10 a11) x},n - j.1.1 < n - k/\VFr n (k + 1) = VFr n j.1.1/\HFr (nw12 g) = HFr j.1.2) ?_ (by kernel_rfl)
    exact ⟨hge,hg 0 (by decide),hg 1 (by decide),lE _,lE _,tu_lt0,tu_lt1,hg 2 (by decide),hg 3 (by decide),lE _,lE _,tu_lt2,tu_lt3,hg 4 (by decide),hg 5 (by decide),lE _,lE _,tu_lt4,tu_lt5,hg 6 (by decide),hg 7 (by decide),lE _,lE _,tu_lt6,tu_lt7,hg 8 (by decide),hg 9 (by decide),lE _,lE _,tu_lt8,tu_lt9,hg 10 (by decide),hg 11 (by decide),lE _,lE _,tu_lt10,tu_lt11,hs,rfl,⟨(k + 1,nw12 g),hlt,nw_lt g,by simp only [nw_d,hd];rfl⟩,by simp only;omega,rfl,rfl⟩
   ·have hge:ilt (Int.ofNat k) (Int.ofNat n) = false:=by rw [<-Bool.not_eq_true,ilt_iff];exact fun h=>hlt (Int.ofNat_lt.1 h)
    refine rQ mxd tK GFr_ok 200 [⟨3,0,.lit (.bo false)⟩] ?_
    refine same (p:=ilt (Int.ofNat k) (Int.ofNat n) = false/\true = true/\∃ j:{x // InvFr n (d12 a0 a1 a2 a3 a4 a5 a6 a7 a8 a9 a10 a11) x},j.1.1 = n/\VFr n k = VFr n j.1.1/\HFr g = HFr j.1.2) ?_ (by kernel_rfl)
    exact ⟨hge,rfl,⟨(k,g),hk,hg,hd⟩,by simp only;omega,rfl,rfl⟩
  ·intro ⟨⟨k,g⟩,hk,hg,hd⟩ junk h0
   simp only at hk hg hd h0
   subst h0
   refine same (p:=endN (.v1 (.agg (cs12 g))) (.v1 (e12 (S12.turns k (d12 a0 a1 a2 a3 a4 a5 a6 a7 a8 a9 a10 a11))))) ?_ (by kernel_rfl)
   exact endN_12 hg hd
 ·cases e
theorem S12.one_d:D12 (of12 oneF fz fz fz fz fz fz fz fz fz fz fz) = 1:=by
 simp only [D12,d12,d6,of12,dF_one,dF_zero]
 rfl
theorem lt_one12:Lt12 (of12 oneF fz fz fz fz fz fz fz fz fz fz fz):=lt_of12 (by rw [one_enc];exact enc_lt 1) zlt zlt zlt zlt zlt zlt zlt zlt zlt zlt zlt
def cPw (args:List AV):Option (List Prop × AV) :=
 match args with
 | [.v1 (.agg [.ws .u64 6 a0,.ws .u64 6 a1,.ws .u64 6 a2,.ws .u64 6 a3,.ws .u64 6 a4,.ws .u64 6 a5,.ws .u64 6 a6,.ws .u64 6 a7,.ws .u64 6 a8,.ws .u64 6 a9,.ws .u64 6 a10,.ws .u64 6 a11]),.v1 (.agg [.ws .u64 6 e])]=>some ([nv a0 < pN,nv a1 < pN,nv a2 < pN,nv a3 < pN,nv a4 < pN,nv a5 < pN,nv a6 < pN,nv a7 < pN,nv a8 < pN,nv a9 < pN,nv a10 < pN,nv a11 < pN],.v1 (e12 (d12 a0 a1 a2 a3 a4 a5 a6 a7 a8 a9 a10 a11 ^ nv e)))
 | _=>none
def GPw:Ctx:=ctxL [(67,.pure (c12 one12)),(60,.pure (k122 S12.mul))]
theorem GPw_ok:CtxOk Tryz.prog GPw:=cxC okOne12 <| cxC okMul12 cxN
abbrev bv (b:Bool):AV:=.v1 (.sc (.bo b))
def VPw (k:Nat) (b:Bool):List AV:=[pt 0 0,pt 1 0,pt 2 0,pt 4 0,bv b,iv (predI k)]
def HPw (a:Nat->Nat->Nat) (e:Nat->Nat) (g:Nat->Nat->Nat):Heap:=[b12 a,nb e,b12 zz12,none,b12 g]
structure PwD where
 k:Nat
 b:Bool
 g:Nat->Nat->Nat
structure InvPw (z:S12) (e:Nat) (x:PwD):Prop where
 hk:x.k <= 384
 hg:Lt12 x.g
 hd:D12 x.g = z ^ (e / 2 ^ x.k)
 hb:x.b = false->e / 2 ^ x.k = 0
theorem InvPw.of {z:S12} {e k:Nat} {b:Bool} {g:Nat->Nat->Nat} (hk:k <= 384) (hg:Lt12 g) (hd:D12 g = z ^ (e / 2 ^ k)) (hb:e / 2 ^ k = 0):InvPw z e ⟨k,b,g⟩:=⟨hk,hg,hd,fun _=>hb⟩
abbrev m12 (x y:Nat->Nat->Nat):Nat->Nat->Nat:=sel12 (S12.mul (D12 x) (D12 y))
theorem okPow12:(CallC.pure cPw).Ok Tryz.prog 63:=by
 intro args pre v e hp
 unfold cPw at e
 split at e
 ·rename_i a0 a1 a2 a3 a4 a5 a6 a7 a8 a9 a10 a11 e
  cases e
  rename_i e
  have h0:nv a0 < pN:=hp _ (by simp)
  have h1:nv a1 < pN:=hp _ (by simp)
  have h2:nv a2 < pN:=hp _ (by simp)
  have h3:nv a3 < pN:=hp _ (by simp)
  have h4:nv a4 < pN:=hp _ (by simp)
  have h5:nv a5 < pN:=hp _ (by simp)
  have h6:nv a6 < pN:=hp _ (by simp)
  have h7:nv a7 < pN:=hp _ (by simp)
  have h8:nv a8 < pN:=hp _ (by simp)
  have h9:nv a9 < pN:=hp _ (by simp)
  have h10:nv a10 < pN:=hp _ (by simp)
  have h11:nv a11 < pN:=hp _ (by simp)
  refine pWk tK Tryz.func63 (by kernel_rfl) (by kernel_rfl) (by rfl) (by rfl) ?_
  obtain ⟨a,ha⟩:∃ a,a = of12 a0 a1 a2 a3 a4 a5 a6 a7 a8 a9 a10 a11:=⟨_,rfl⟩
  have la:Lt12 a:=by rw [ha];exact lt_of12 h0 h1 h2 h3 h4 h5 h6 h7 h8 h9 h10 h11
  have da:d12 a0 a1 a2 a3 a4 a5 a6 a7 a8 a9 a10 a11 = D12 a:=by rw [ha];rfl
  have cv:(AV.v1 (.agg [q6 a0,q6 a1,q6 a2,q6 a3,q6 a4,q6 a5,q6 a6,q6 a7,q6 a8,q6 a9,q6 a10,q6 a11])) = .v1 (.agg (cs12 a)):=by rw [ha];rfl
  rw [da,cv]
  refine loopF mxd tK GPw_ok (by kernel_rfl) (ι:={x // InvPw (D12 a) (nv e) x}) [2,3,4,5,6,7] 32 5 (fun x=>VPw x.1.k x.1.b) (fun x=>HPw a e x.1.g) (fun x=>x.1.k) (fun x=>x.1.k = 0)
   (fun _=>rfl) (fun _=>by kernel_rfl) (fun _ _ h=>h.elim) 100 [] ?_ ?_ ?_
  ·refine same (p:=true = true/\∃ j:{x // InvPw (D12 a) (nv e) x},VPw E false = VPw j.1.k j.1.b/\HPw a e (of12 oneF fz fz fz fz fz fz fz fz fz fz fz) = HPw a e j.1.g) ?_ (by kernel_rfl)
   have h0:nv e / 2 ^ E = 0:=Nat.div_eq_of_lt (by rw [<-R_pow];exact nv_lt e)
   have hi:InvPw (D12 a) (nv e) ⟨E,false,of12 oneF fz fz fz fz fz fz fz fz fz fz fz⟩:=InvPw.of (Nat.le_of_eq E_eq) lt_one12 (by rw [h0,Rg.pow_zero];exact S12.one_d) h0
   exact ⟨rfl,⟨_,hi⟩,rfl,rfl⟩
  ·intro ⟨⟨k,b,g⟩,⟨hk,hg,hd,hb⟩⟩ junk
   simp only at hk hg hd hb
   cases k with
   | zero =>
    refine rQ mxd tK GPw_ok 60 [] ?_
    refine same (p:=true = true/\∃ j:{x // InvPw (D12 a) (nv e) x},j.1.k = 0/\VPw 0 b = VPw j.1.k j.1.b/\HPw a e g = HPw a e j.1.g) ?_ (by kernel_rfl)
    exact ⟨rfl,⟨⟨0,b,g⟩,hk,hg,hd,hb⟩,rfl,rfl,rfl⟩
   | succ k =>
    have hk:k < 384:=by omega
    have h64:k / 64 < 6:=by omega
    have hge:(!ilt (Int.ofNat k) 0) = true:=by rw [ilt_not (by simp)];rfl
    have hs:wrapI (Int.ofNat k - 1) = predI k:=predI_eq (by omega)
    have hn:=div_next (nv e) k
    have next:∀ (b':Bool) (g':Nat->Nat->Nat),Lt12 g'->D12 g' = D12 a ^ (nv e / 2 ^ k)->(b' = false->nv e / 2 ^ k = 0)->∃ j:{x // InvPw (D12 a) (nv e) x},j.1.k < k + 1/\VPw k b' = VPw j.1.k j.1.b/\HPw a e g' = HPw a e j.1.g :=
     fun b' g' l' d' z'=>⟨⟨⟨k,b',g'⟩,Nat.le_of_lt hk,l',d',z'⟩,Nat.lt_succ_self k,rfl,rfl⟩
    have sq:S12.mul (D12 g) (D12 g) = D12 a ^ (2 * (nv e / 2 ^ (k + 1))):=by rw [hd,Nat.two_mul,Rg.pow_add];rfl
    have d2:∀ x:S12,S12.mul x (D12 a) = x * D12 a:=fun _=>rfl
    cases hbit:Nat.beq (nv e / 2 ^ k % 2) 1
    ·have h0:nv e / 2 ^ k % 2 = 0:=by
      have:nv e / 2 ^ k % 2 ≠ 1:=fun e'=>by rw [<-Nat.beq_eq,hbit] at e';cases e'
      omega
     rw [h0,Nat.add_zero] at hn
     cases b
     ·refine rQ mxd tK GPw_ok 100 [⟨4,1,.lit (.bo true)⟩,⟨6,1,.lit (.it (Int.ofNat (k/64)))⟩,⟨6,2,.sym⟩,⟨6,3,.sym⟩,⟨6,5,.lit (.it (Int.ofNat (k%64)))⟩,⟨9,1,.lit (.bo false)⟩,⟨5,1,.lit (.it (predI k))⟩] ?_
      refine same (p:=(!ilt (Int.ofNat k) 0) = true/\wrapI ((Int.ofNat k).tdiv 64) = Int.ofNat (k / 64)/\ix (k / 64) 6 ((Int.ofNat k).tmod 64 = Int.ofNat (k % 64) /\
       Nat.beq ((e (k / 64) % W / 2 ^ min (k % 64) 64 &&& 1) % W) (1 % W) = false/\wrapI (Int.ofNat k - 1) = predI k/\true = true /\
       ∃ j:{x // InvPw (D12 a) (nv e) x},j.1.k < k + 1/\VPw k false = VPw j.1.k j.1.b/\HPw a e g = HPw a e j.1.g)) ?_ (by kernel_rfl)
      refine ⟨hge,tdiv64 ⟨k,hk⟩,ix_of h64 ⟨tmod64 ⟨k,hk⟩,by rw [bit_beq e hk,hbit],hs,rfl,next _ _ hg ?_ ?_⟩⟩
      ·rw [hd,hn,hb rfl,Nat.mul_zero]
      ·intro _;rw [hn,hb rfl]
     ·refine rQ mxd tK GPw_ok 100 [⟨4,1,.lit (.bo true)⟩,⟨6,1,.lit (.it (Int.ofNat (k/64)))⟩,⟨6,2,.sym⟩,⟨6,3,.sym⟩,⟨6,5,.lit (.it (Int.ofNat (k%64)))⟩,⟨9,1,.lit (.bo false)⟩,⟨5,1,.lit (.it (predI k))⟩] ?_
      refine same (p:=(!ilt (Int.ofNat k) 0) = true/\wrapI ((Int.ofNat k).tdiv 64) = Int.ofNat (k / 64)/\ix (k / 64) 6 ((Int.ofNat k).tmod 64 = Int.ofNat (k % 64)/\lp (g 0)/\lp (g 1)/\lp (g 2)/\lp (g 3)/\lp (g 4)/\lp (g 5)/\lp (g 6)/\lp (g 7)/\lp (g 8)/\lp (g 9)/\lp (g 10)/\lp (g 11)/\lp (g 0)/\lp (g 1)/\lp (g 2)/\lp (g 3)/\lp (g 4)/\lp (g 5)/\lp (g 6)/\lp (g 7)/\lp (g 8)/\lp (g 9)/\lp (g 10)/\lp (g 11) /\
       Nat.beq ((e (k / 64) % W / 2 ^ min (k % 64) 64 &&& 1) % W) (1 % W) = false/\wrapI (Int.ofNat k - 1) = predI k/\true = true /\
       ∃ j:{x // InvPw (D12 a) (nv e) x},j.1.k < k + 1/\VPw k true = VPw j.1.k j.1.b/\HPw a e (m12 g g) = HPw a e j.1.g)) ?_ (by kernel_rfl)
      refine ⟨hge,tdiv64 ⟨k,hk⟩,ix_of h64 ⟨tmod64 ⟨k,hk⟩,hg 0 (by decide),hg 1 (by decide),hg 2 (by decide),hg 3 (by decide),hg 4 (by decide),hg 5 (by decide),hg 6 (by decide),hg 7 (by decide),hg 8 (by decide),hg 9 (by decide),hg 10 (by decide),hg 11 (by decide),hg 0 (by decide),hg 1 (by decide),hg 2 (by decide),hg 3 (by decide),hg 4 (by decide),hg 5 (by decide),hg 6 (by decide),hg 7 (by decide),hg 8 (by decide),hg 9 (by decide),hg 10 (by decide),hg 11 (by decide),by rw [bit_beq e hk,hbit],hs,rfl,next _ _ (lt_sel _) ?_ ?_⟩⟩
      ·rw [D12_sel,sq,hn]
      ·intro h;cases h
    ·have h0:nv e / 2 ^ k % 2 = 1:=by rw [Nat.beq_eq] at hbit;exact hbit
     rw [h0] at hn
     cases b
     ·refine rQ mxd tK GPw_ok 100 [⟨4,1,.lit (.bo true)⟩,⟨6,1,.lit (.it (Int.ofNat (k/64)))⟩,⟨6,2,.sym⟩,⟨6,3,.sym⟩,⟨6,5,.lit (.it (Int.ofNat (k%64)))⟩,⟨9,1,.lit (.bo true)⟩,⟨5,1,.lit (.it (predI k))⟩] ?_
      refine same (p:=(!ilt (Int.ofNat k) 0) = true/\wrapI ((Int.ofNat k).tdiv 64) = Int.ofNat (k / 64)/\ix (k / 64) 6 ((Int.ofNat k).tmod 64 = Int.ofNat (k % 64) /\
       Nat.beq ((e (k / 64) % W / 2 ^ min (k % 64) 64 &&& 1) % W) (1 % W) = true/\lp (g 0)/\lp (g 1)/\lp (g 2)/\lp (g 3)/\lp (g 4)/\lp (g 5)/\lp (g 6)/\lp (g 7)/\lp (g 8)/\lp (g 9)/\lp (g 10)/\lp (g 11)/\lp (a 0)/\lp (a 1)/\lp (a 2)/\lp (a 3)/\lp (a 4)/\lp (a 5)/\lp (a 6)/\lp (a 7)/\lp (a 8)/\lp (a 9)/\lp (a 10)/\lp (a 11)/\wrapI (Int.ofNat k - 1) = predI k/\true = true /\
       ∃ j:{x // InvPw (D12 a) (nv e) x},j.1.k < k + 1/\VPw k true = VPw j.1.k j.1.b/\HPw a e (m12 g a) = HPw a e j.1.g)) ?_ (by kernel_rfl)
      refine ⟨hge,tdiv64 ⟨k,hk⟩,ix_of h64 ⟨tmod64 ⟨k,hk⟩,by rw [bit_beq e hk,hbit],hg 0 (by decide),hg 1 (by decide),hg 2 (by decide),hg 3 (by decide),hg 4 (by decide),hg 5 (by decide),hg 6 (by decide),hg 7 (by decide),hg 8 (by decide),hg 9 (by decide),hg 10 (by decide),hg 11 (by decide),la 0 (by decide),la 1 (by decide),la 2 (by decide),la 3 (by decide),la 4 (by decide),la 5 (by decide),la 6 (by decide),la 7 (by decide),la 8 (by decide),la 9 (by decide),la 10 (by decide),la 11 (by decide),hs,rfl,next _ _ (lt_sel _) ?_ ?_⟩⟩
      ·rw [D12_sel,d2,hd,hn,hb rfl,Nat.mul_zero,Nat.zero_add,Rg.pow_zero,Rg.pow_one,Rg.one_mul]
      ·intro h;cases h
     ·refine rQ mxd tK GPw_ok 100 [⟨4,1,.lit (.bo true)⟩,⟨6,1,.lit (.it (Int.ofNat (k/64)))⟩,⟨6,2,.sym⟩,⟨6,3,.sym⟩,⟨6,5,.lit (.it (Int.ofNat (k%64)))⟩,⟨9,1,.lit (.bo true)⟩,⟨5,1,.lit (.it (predI k))⟩] ?_
      refine same (p:=(!ilt (Int.ofNat k) 0) = true/\wrapI ((Int.ofNat k).tdiv 64) = Int.ofNat (k / 64)/\ix (k / 64) 6 ((Int.ofNat k).tmod 64 = Int.ofNat (k % 64)/\lp (g 0)/\lp (g 1)/\lp (g 2)/\lp (g 3)/\lp (g 4)/\lp (g 5)/\lp (g 6)/\lp (g 7)/\lp (g 8)/\lp (g 9)/\lp (g 10)/\lp (g 11)/\lp (g 0)/\lp (g 1)/\lp (g 2)/\lp (g 3)/\lp (g 4)/\lp (g 5)/\lp (g 6)/\lp (g 7)/\lp (g 8)/\lp (g 9)/\lp (g 10)/\lp (g 11) /\
       Nat.beq ((e (k / 64) % W / 2 ^ min (k % 64) 64 &&& 1) % W) (1 % W) = true/\lp ((m12 g g) 0)/\lp ((m12 g g) 1)/\lp ((m12 g g) 2)/\lp ((m12 g g) 3)/\lp ((m12 g g) 4)/\lp ((m12 g g) 5)/\lp ((m12 g g) 6)/\lp ((m12 g g) 7)/\lp ((m12 g g) 8)/\lp ((m12 g g) 9)/\lp ((m12 g g) 10)/\lp ((m12 g g) 11)/\lp (a 0)/\lp (a 1)/\lp (a 2)/\lp (a 3)/\lp (a 4)/\lp (a 5)/\lp (a 6)/\lp (a 7)/\lp (a 8)/\lp (a 9)/\lp (a 10)/\lp (a 11)/\wrapI (Int.ofNat k - 1) = predI k/\true = true /\
       ∃ j:{x // InvPw (D12 a) (nv e) x},j.1.k < k + 1/\VPw k true = VPw j.1.k j.1.b/\HPw a e (m12 (m12 g g) a) = HPw a e j.1.g)) ?_ (by kernel_rfl)
      refine ⟨hge,tdiv64 ⟨k,hk⟩,ix_of h64 ⟨tmod64 ⟨k,hk⟩,hg 0 (by decide),hg 1 (by decide),hg 2 (by decide),hg 3 (by decide),hg 4 (by decide),hg 5 (by decide),hg 6 (by decide),hg 7 (by decide),hg 8 (by decide),hg 9 (by decide),hg 10 (by decide),hg 11 (by decide),hg 0 (by decide),hg 1 (by decide),hg 2 (by decide),hg 3 (by decide),hg 4 (by decide),hg 5 (by decide),hg 6 (by decide),hg 7 (by decide),hg 8 (by decide),hg 9 (by decide),hg 10 (by decide),hg 11 (by decide),by rw [bit_beq e hk,hbit],lt_sel _ 0 (by decide),lt_sel _ 1 (by decide),lt_sel _ 2 (by decide),lt_sel _ 3 (by decide),lt_sel _ 4 (by decide),lt_sel _ 5 (by decide),lt_sel _ 6 (by decide),lt_sel _ 7 (by decide),lt_sel _ 8 (by decide),lt_sel _ 9 (by decide),lt_sel _ 10 (by decide),lt_sel _ 11 (by decide),la 0 (by decide),la 1 (by decide),la 2 (by decide),la 3 (by decide),la 4 (by decide),la 5 (by decide),la 6 (by decide),la 7 (by decide),la 8 (by decide),la 9 (by decide),la 10 (by decide),la 11 (by decide),hs,rfl,next _ _ (lt_sel _) ?_ ?_⟩⟩
      ·rw [D12_sel,D12_sel,d2,sq,hn];exact (Rg.pow_succ _ _).symm
      ·intro h;cases h
  ·intro ⟨⟨k,b,g⟩,⟨hk,hg,hd,hb⟩⟩ junk h0
   simp only at hk hg hd h0
   subst h0
   refine same (p:=endN (.v1 (.agg (cs12 g))) (.v1 (e12 (D12 a ^ nv e)))) ?_ (by kernel_rfl)
   rw [Nat.pow_zero,Nat.div_one] at hd
   exact endN_12 hg hd
 ·cases e
theorem dG12 (a0 a1 a2 a3 a4 a5 a6 a7 a8 a9 a10 a11:Nat->Nat):d12 (eF (gN a0)) (eF (gN a1)) (eF (gN a2)) (eF (gN a3)) (eF (gN a4)) (eF (gN a5)) (eF (gN a6)) (eF (gN a7)) (eF (gN a8)) (eF (gN a9)) (eF (gN a10)) (eF (gN a11)) = g12 a0 a1 a2 a3 a4 a5 a6 a7 a8 a9 a10 a11:=by simp only [d12,d6,qE]
theorem tmod_low (n:Int):-12 < n.tmod 12:=by
 cases n with
 | ofNat k =>
  have h:(Int.ofNat k).tmod 12 = Int.ofNat (k % 12):=rfl
  rw [h];simp only [Int.ofNat_eq_natCast];omega
 | negSucc k =>
  have h:(Int.negSucc k).tmod 12 = -(((k + 1) % 12:Nat):Int):=rfl
  rw [h];omega
def mq (n:Int):Nat:=((n.tmod 12 + 12).tmod 12).toNat
theorem mq_lt (n:Int):mq n < 12:=by
 unfold mq
 have h1:=Int.tmod_lt_of_pos n (show (0:Int) < 12 by omega)
 have h2:=tmod_low n
 rw [Int.tmod_eq_emod_of_nonneg (by omega)]
 omega
def z12 (s:S12):Bool:=Nat.beq s.p.u.x.val 0 && (Nat.beq s.p.u.y.val 0 && (Nat.beq s.q.u.x.val 0 && (Nat.beq s.q.u.y.val 0 && (Nat.beq s.p.v.x.val 0 && (Nat.beq s.p.v.y.val 0 && (Nat.beq s.q.v.x.val 0 && (Nat.beq s.q.v.y.val 0 && (Nat.beq s.p.w.x.val 0 && (Nat.beq s.p.w.y.val 0 && (Nat.beq s.q.w.x.val 0 && (Nat.beq s.q.w.y.val 0)))))))))))
theorem z12_iff (s:S12):z12 s = true↔s = 0:=by
 unfold z12
 simp only [Bool.and_eq_true,Nat.beq_eq]
 constructor
 ·intro ⟨h0,h1,h2,h3,h4,h5,h6,h7,h8,h9,h10,h11⟩
  exact S12.ext (S6.ext (F2p.ext (Fin.ext h0) (Fin.ext h1)) (F2p.ext (Fin.ext h4) (Fin.ext h5)) (F2p.ext (Fin.ext h8) (Fin.ext h9))) (S6.ext (F2p.ext (Fin.ext h2) (Fin.ext h3)) (F2p.ext (Fin.ext h6) (Fin.ext h7)) (F2p.ext (Fin.ext h10) (Fin.ext h11)))
 ·intro h
  subst h
  exact ⟨rfl,rfl,rfl,rfl,rfl,rfl,rfl,rfl,rfl,rfl,rfl,rfl⟩
def invE (s:S12):Int:=bif z12 s then 6 else 0
theorem eqz (x:Fp):eqN W 6 (eF x) fz = Nat.beq x.val 0:=by
 have h:=eqW_beq (eF x) fz
 rw [Bool.and_true,zero_nv,nv_eF,enc_ne] at h
 exact h
theorem endPI {s t:S12} {c:V1} {i j:Int} (h:t = s) (e:c = v12 (vF (dF (eF t.p.u.x))) (vF (dF (eF t.p.u.y))) (vF (dF (eF t.q.u.x))) (vF (dF (eF t.q.u.y))) (vF (dF (eF t.p.v.x))) (vF (dF (eF t.p.v.y))) (vF (dF (eF t.q.v.x))) (vF (dF (eF t.q.v.y))) (vF (dF (eF t.p.w.x))) (vF (dF (eF t.p.w.y))) (vF (dF (eF t.q.w.x))) (vF (dF (eF t.q.w.y)))) (k:i = j):endN (.tup [c,.sc (.it i)]) (.tup [n12 s,.sc (.it j)]):=by
 subst h;subst e;subst k
 refine ⟨_,rfl,fun ρ=>?_⟩
 have:=v12_val (nvV (qE t.p.u.x)) (nvV (qE t.p.u.y)) (nvV (qE t.q.u.x)) (nvV (qE t.q.u.y)) (nvV (qE t.p.v.x)) (nvV (qE t.p.v.y)) (nvV (qE t.q.v.x)) (nvV (qE t.q.v.y)) (nvV (qE t.p.w.x)) (nvV (qE t.p.w.y)) (nvV (qE t.q.w.x)) (nvV (qE t.q.w.y)) ρ
 simp only [AV.val,List.map_cons,List.map_nil,this]
abbrev g2 (a b:Nat->Nat):F2p:=⟨gN a,gN b⟩
abbrev n2 (s:F2p):V1:=.agg (vC2 s)
abbrev G2 (s:F2p):F2p:=g2 (vF s.x) (vF s.y)
theorem G2_eq (s:F2p):G2 s = s:=F2p.ext (gN_vF _) (gN_vF _)
abbrev G12 (s:S12):S12:=g12 (vF s.p.u.x) (vF s.p.u.y) (vF s.q.u.x) (vF s.q.u.y) (vF s.p.v.x) (vF s.p.v.y) (vF s.q.v.x) (vF s.q.v.y) (vF s.p.w.x) (vF s.p.w.y) (vF s.q.w.x) (vF s.q.w.y)
theorem G12_eq (s:S12):G12 s = s:=by simp only [G12,g12,gN_vF]
def u1 (F:F2p->F2p):List AV->Option (List Prop × AV)
 | [.v1 (.agg [.ws .u64 6 a,.ws .u64 6 b])]=>some ([],.v1 (n2 (F (g2 a b))))
 | _=>none
def F2p.ng (a:F2p):F2p:=⟨0 - a.x,0 - a.y⟩
def qL:List (Nat->Nat)->List (Nat->Nat)->Bool
 | a :: r,b :: s=>eqN W 6 a b && qL r s
 | _,_=>true
abbrev nL (s:S12):List (Nat->Nat):=[vF s.p.u.x,vF s.p.u.y,vF s.q.u.x,vF s.q.u.y,vF s.p.v.x,vF s.p.v.y,vF s.q.v.x,vF s.q.v.y,vF s.p.w.x,vF s.p.w.y,vF s.q.w.x,vF s.q.w.y]
theorem eqN_vF (x y:Fp):eqN W 6 (vF x) (vF y) = true↔x = y:=by
 have:=eqW_beq (vF x) (vF y)
 rw [Bool.and_true] at this
 rw [this,Nat.beq_eq,nv_vF,nv_vF]
 exact ⟨fun h=>Fin.ext h,fun h=>by rw [h]⟩
theorem eqN_vFz (x:Fp):eqN W 6 (vF x) fz = Nat.beq x.val 0:=by
 have:=eqW_beq (vF x) fz
 rw [Bool.and_true] at this
 rw [this,nv_vF,zero_nv]
theorem qn_of {s t:S12} (h:s = t):qL (nL s) (nL t) = true:=by
 subst h
 simp only [qL,(eqN_vF _ _).2 rfl,Bool.and_true]
theorem qn_not {s t:S12} (h:s = t):(!qL (nL s) (nL t)) = false:=by rw [qn_of h];rfl
abbrev zL2:List (Nat->Nat):=[fz,fz]
abbrev zL12:List (Nat->Nat):=[fz,fz,fz,fz,fz,fz,fz,fz,fz,fz,fz,fz]
theorem qn_z (s:S12):qL (nL s) zL12 = z12 s:=by
 simp only [qL,Bool.and_true,eqN_vFz];rfl
theorem ePow_eq (x:Fp):∀ n,ePow x n = x ^ n
 | 0=>(Rg.pow_zero x).symm
 | n + 1=>by rw [Rg.pow_succ,<-ePow_eq x n];rfl
abbrev endT:Prop:=∃ v',some (AV.v1 (.sc (.bo true))) = some v'/\∀ ρ,v'.val ρ = (AV.v1 (.sc (.bo true))).val ρ
theorem endT_ok:endT:=⟨_,rfl,fun _=>rfl⟩
theorem gN_z:gN fz = 0:=by unfold gN;rw [zero_nv];rfl
theorem eInv_mul {x:Fp} (h:x ≠ 0):x * eInv x = 1:=by unfold eInv;rw [ePow_eq];exact fp_inv h
theorem hf_mul:(1 + 1) * hf = 1:=eInv_mul fun e=>absurd (congrArg Fin.val e) (by decide)
theorem two_ne {x:Fp} (h:x ≠ 0):x + x ≠ 0:=fun e=>h (cr_dbl e hf_mul)
def d1 (F:F2p->F2p):List AV->Option (List Prop × AV)
 | [.v1 (.agg [.ws .u64 6 a,.ws .u64 6 b])]=>some ([nv a < pN,nv b < pN],.v1 (n2 (F (g2 a b))))
 | _=>none
def d2 (F:F2p->F2p->F2p):List AV->Option (List Prop × AV)
 | [.v1 (.agg [.ws .u64 6 a,.ws .u64 6 b]),.v1 (.agg [.ws .u64 6 c,.ws .u64 6 d])]=>some ([nv a < pN,nv b < pN,nv c < pN,nv d < pN],.v1 (n2 (F (g2 a b) (g2 c d))))
 | _=>none
theorem d1_ok {F:F2p->F2p} {f:FuncId} {fn:Func} (hf:Tryz.prog.funcs[f]? = some fn) (hb:fn.body = some (bodyOf fn)) (hn:(fn.name == "runtime.NumGoroutine") = false)
  (h:∀ a b:Nat->Nat,nv a < pN->nv b < pN->AWqS Tryz.prog (fun _=>False) (flatC (bodyOf fn)) (FEnd' tt fn (.v1 (n2 (F (g2 a b))))) ⟨frame0 [f2 a b] fn.ntmps,[]⟩):(CallC.pure (d1 F)).Ok Tryz.prog f:=by
 intro args pre v e hp
 unfold d1 at e
 split at e
 ·rename_i a b
  cases e
  exact pWk tK hf hb hn (by rfl) (by rfl) (h a b (hp _ (by simp)) (hp _ (by simp)))
 ·cases e
theorem d2_ok {F:F2p->F2p->F2p} {f:FuncId} {fn:Func} (hf:Tryz.prog.funcs[f]? = some fn) (hb:fn.body = some (bodyOf fn)) (hn:(fn.name == "runtime.NumGoroutine") = false)
  (h:∀ a b c d:Nat->Nat,nv a < pN->nv b < pN->nv c < pN->nv d < pN->AWqS Tryz.prog (fun _=>False) (flatC (bodyOf fn)) (FEnd' tt fn (.v1 (n2 (F (g2 a b) (g2 c d))))) ⟨frame0 [f2 a b,f2 c d] fn.ntmps,[]⟩):(CallC.pure (d2 F)).Ok Tryz.prog f:=by
 intro args pre v e hp
 unfold d2 at e
 split at e
 ·rename_i a b c d
  cases e
  exact pWk tK hf hb hn (by rfl) (by rfl) (h a b c d (hp _ (by simp)) (hp _ (by simp)) (hp _ (by simp)) (hp _ (by simp)))
 ·cases e
theorem end2 {x y:Nat->Nat} {s:F2p} (h:nv x < pN) (k:nv y < pN) (e:(⟨gN x,gN y⟩:F2p) = s):endN (f2 x y) (.v1 (n2 s)):=by
 subst e
 exact ⟨_,rfl,f2_val (vF_gN h).symm (vF_gN k).symm⟩
theorem cr_in {α:Type} [CR α] (b i:α):0 - b * i = (0 - b) * i:=by grind
def GD5:Ctx:=ctxL [(76,.pure cP),(98,.pure cFOf),(138,.pure (fE2 (· + ·))),(145,.pure (f1 (0 - ·))),(142,.pure (fE2 (· - ·))),(77,.pure (fE2 (· * ·))),(97,.pure (f1 fun x=>x ^ (pN - 2))),(156,.pure cFPow)]
theorem GD5_ok:CtxOk Tryz.prog GD5:=cxC okP <| cxC okFOf <| cxC okFAdd <| cxC okFNeg <| cxC okFSub <| cxC okFMul <| cxC okFInv <| cxC okFPow cxN
def cD2Of:List AV->Option (List Prop × AV)
 | [.v1 (.agg [.ws .u64 6 a,.ws .u64 6 b])]=>some ([],.v1 (n2 (g2 a b)))
 | _=>none
theorem okD2Of:(CallC.pure cD2Of).Ok Tryz.prog 49:=by
 intro args pre v e _
 unfold cD2Of at e
 split at e
 ·rename_i a b
  cases e
  refine pWk tK Tryz.func49 (by kernel_rfl) (by kernel_rfl) (by rfl) (by rfl) ?_
  refine eSq mxd tK GD5_ok 100 [] ?_
  exact same (p:=FOk prF 9940570264628428797 wideF/\FOk prF 9940570264628428797 wideF/\endN (f2 (vF (gN a)) (vF (gN b))) (.v1 (n2 (g2 a b)))) ⟨pOk,pOk,_,rfl,fun _=>rfl⟩ (by kernel_rfl)
 ·cases e
theorem okD2Add:(CallC.pure (d2 (· + ·))).Ok Tryz.prog 93:=by
 refine d2_ok Tryz.func93 (by kernel_rfl) (by kernel_rfl) fun a b c d ha hb hc hd=>?_
 refine eSq mxd tK GD5_ok 100 [] ?_
 refine same (p:=FOk prF 9940570264628428797 wideF/\lp a/\lp c/\FOk prF 9940570264628428797 wideF/\lp b/\lp d/\endN (f2 (vF (gN a + gN c)) (vF (gN b + gN d))) (.v1 (n2 ((· + ·) (g2 a b) (g2 c d))))) ?_ (by kernel_rfl)
 exact ⟨pOk,ha,hc,pOk,hb,hd,end2 (lV _) (lV _) (by simp only [gN_vF];rfl)⟩
theorem okD2Neg:(CallC.pure (d1 F2p.ng)).Ok Tryz.prog 95:=by
 refine d1_ok Tryz.func95 (by kernel_rfl) (by kernel_rfl) fun a b ha hb=>?_
 refine eSq mxd tK GD5_ok 100 [] ?_
 refine same (p:=FOk prF 9940570264628428797 wideF/\lp a/\FOk prF 9940570264628428797 wideF/\lp b/\endN (f2 (vF (0 - gN a)) (vF (0 - gN b))) (.v1 (n2 (F2p.ng (g2 a b))))) ?_ (by kernel_rfl)
 exact ⟨pOk,ha,pOk,hb,end2 (lV _) (lV _) (by simp only [gN_vF];rfl)⟩
theorem okD2Conj:(CallC.pure (d1 F2p.cj)).Ok Tryz.prog 155:=by
 refine d1_ok Tryz.func155 (by kernel_rfl) (by kernel_rfl) fun a b ha hb=>?_
 refine eSq mxd tK GD5_ok 100 [] ?_
 refine same (p:=FOk prF 9940570264628428797 wideF/\lp b/\endN (f2 a (vF (0 - gN b))) (.v1 (n2 (F2p.cj (g2 a b))))) ?_ (by kernel_rfl)
 exact ⟨pOk,hb,end2 ha (lV _) (by simp only [gN_vF];rfl)⟩
theorem okD2Mul:(CallC.pure (d2 (· * ·))).Ok Tryz.prog 81:=by
 refine d2_ok Tryz.func81 (by kernel_rfl) (by kernel_rfl) fun a b c d ha hb hc hd=>?_
 refine eSq mxd tK GD5_ok 100 [] ?_
 refine same (p:=FOk prF 9940570264628428797 wideF/\lp a/\lp c/\FOk prF 9940570264628428797 wideF/\lp b/\lp d/\FOk prF 9940570264628428797 wideF/\lp (vF (gN a * gN c))/\lp (vF (gN b * gN d))/\FOk prF 9940570264628428797 wideF/\lp a/\lp d/\FOk prF 9940570264628428797 wideF/\lp b/\lp c/\FOk prF 9940570264628428797 wideF/\lp (vF (gN a * gN d))/\lp (vF (gN b * gN c))/\endN (f2 (vF (gN (vF (gN a * gN c)) - gN (vF (gN b * gN d)))) (vF (gN (vF (gN a * gN d)) + gN (vF (gN b * gN c))))) (.v1 (n2 ((· * ·) (g2 a b) (g2 c d))))) ?_ (by kernel_rfl)
 exact ⟨pOk,ha,hc,pOk,hb,hd,pOk,lV _,lV _,pOk,ha,hd,pOk,hb,hc,pOk,lV _,lV _,end2 (lV _) (lV _) (by simp only [gN_vF];rfl)⟩
theorem F2p.ng_eq (x y:F2p):x + F2p.ng y = x - y:=F2p.ext (cr_an _ _) (cr_an _ _)
def GD6:Ctx:=ctxL [(93,.pure (d2 (· + ·))),(95,.pure (d1 F2p.ng))]
theorem GD6_ok:CtxOk Tryz.prog GD6:=cxC okD2Add <| cxC okD2Neg cxN
theorem end2' {s t:F2p} (e:s = t):endN (.v1 (n2 s)) (.v1 (n2 t)):=by subst e;exact ⟨_,rfl,fun _=>rfl⟩
theorem okD2Sub:(CallC.pure (d2 (· - ·))).Ok Tryz.prog 146:=by
 refine d2_ok Tryz.func146 (by kernel_rfl) (by kernel_rfl) fun a b c d ha hb hc hd=>?_
 refine eSq mxd tK GD6_ok 100 [] ?_
 refine same (p:=nv c < pN/\lp d/\lp a/\lp b/\lp (vF (F2p.ng (g2 c d)).x)/\lp (vF (F2p.ng (g2 c d)).y)/\endN (.v1 (n2 (g2 a b + G2 (F2p.ng (g2 c d))))) (.v1 (n2 (g2 a b - g2 c d)))) ?_ (by kernel_rfl)
 exact ⟨hc,hd,ha,hb,lV _,lV _,end2' (by rw [G2_eq,F2p.ng_eq])⟩
theorem okD2Inv:(CallC.pure (d1 F2p.inv')).Ok Tryz.prog 147:=by
 refine d1_ok Tryz.func147 (by kernel_rfl) (by kernel_rfl) fun a b ha hb=>?_
 refine eSq mxd tK GD5_ok 100 [] ?_
 refine same (p:=FOk prF 9940570264628428797 wideF/\lp a/\lp a/\FOk prF 9940570264628428797 wideF/\lp b/\lp b/\FOk prF 9940570264628428797 wideF/\lp (vF (gN a * gN a))/\lp (vF (gN b * gN b))/\FOk prF 9940570264628428797 wideF/\lp (vF (gN (vF (gN a * gN a)) + gN (vF (gN b * gN b))))/\FOk prF 9940570264628428797 wideF/\lp a/\nv (vF (gN (vF (gN (vF (gN a * gN a)) + gN (vF (gN b * gN b)))) ^ (pN - 2))) < pN/\FOk prF 9940570264628428797 wideF/\lp b/\nv (vF (gN (vF (gN (vF (gN a * gN a)) + gN (vF (gN b * gN b)))) ^ (pN - 2))) < pN/\FOk prF 9940570264628428797 wideF/\nv (vF (gN b * gN (vF (gN (vF (gN (vF (gN a * gN a)) + gN (vF (gN b * gN b)))) ^ (pN - 2))))) < pN/\endN (f2 (vF (gN a * gN (vF (gN (vF (gN (vF (gN a * gN a)) + gN (vF (gN b * gN b)))) ^ (pN - 2))))) (vF (0 - gN (vF (gN b * gN (vF (gN (vF (gN (vF (gN a * gN a)) + gN (vF (gN b * gN b)))) ^ (pN - 2)))))))) (.v1 (n2 (F2p.inv' (g2 a b))))) ?_ (by kernel_rfl)
 exact ⟨pOk,ha,ha,pOk,hb,hb,pOk,lV _,lV _,pOk,lV _,pOk,ha,lV _,pOk,hb,lV _,pOk,lV _,end2 (lV _) (lV _) (by simp only [gN_vF];exact F2p.ext rfl (cr_in _ _))⟩
abbrev b2 (a b:Nat->Nat):Option Blk:=some ⟨28,[q6 a,q6 b],0,0⟩
def dd1 (F:S12->S12):List AV->Option (List Prop × AV)
 | [.v1 (.agg [.ws .u64 6 a0,.ws .u64 6 a1,.ws .u64 6 a2,.ws .u64 6 a3,.ws .u64 6 a4,.ws .u64 6 a5,.ws .u64 6 a6,.ws .u64 6 a7,.ws .u64 6 a8,.ws .u64 6 a9,.ws .u64 6 a10,.ws .u64 6 a11])]=>some ([nv a0 < pN,nv a1 < pN,nv a2 < pN,nv a3 < pN,nv a4 < pN,nv a5 < pN,nv a6 < pN,nv a7 < pN,nv a8 < pN,nv a9 < pN,nv a10 < pN,nv a11 < pN],.v1 (n12 (F (g12 a0 a1 a2 a3 a4 a5 a6 a7 a8 a9 a10 a11))))
 | _=>none
def dd2 (F:S12->S12->S12):List AV->Option (List Prop × AV)
 | [.v1 (.agg [.ws .u64 6 a0,.ws .u64 6 a1,.ws .u64 6 a2,.ws .u64 6 a3,.ws .u64 6 a4,.ws .u64 6 a5,.ws .u64 6 a6,.ws .u64 6 a7,.ws .u64 6 a8,.ws .u64 6 a9,.ws .u64 6 a10,.ws .u64 6 a11]),.v1 (.agg [.ws .u64 6 b0,.ws .u64 6 b1,.ws .u64 6 b2,.ws .u64 6 b3,.ws .u64 6 b4,.ws .u64 6 b5,.ws .u64 6 b6,.ws .u64 6 b7,.ws .u64 6 b8,.ws .u64 6 b9,.ws .u64 6 b10,.ws .u64 6 b11])]=>some ([nv a0 < pN,nv a1 < pN,nv a2 < pN,nv a3 < pN,nv a4 < pN,nv a5 < pN,nv a6 < pN,nv a7 < pN,nv a8 < pN,nv a9 < pN,nv a10 < pN,nv a11 < pN,nv b0 < pN,nv b1 < pN,nv b2 < pN,nv b3 < pN,nv b4 < pN,nv b5 < pN,nv b6 < pN,nv b7 < pN,nv b8 < pN,nv b9 < pN,nv b10 < pN,nv b11 < pN],.v1 (n12 (F (g12 a0 a1 a2 a3 a4 a5 a6 a7 a8 a9 a10 a11) (g12 b0 b1 b2 b3 b4 b5 b6 b7 b8 b9 b10 b11))))
 | _=>none
theorem dd1_ok {F:S12->S12} {f:FuncId} {fn:Func} (hf:Tryz.prog.funcs[f]? = some fn) (hb:fn.body = some (bodyOf fn)) (hn:(fn.name == "runtime.NumGoroutine") = false)
  (h:∀ a0 a1 a2 a3 a4 a5 a6 a7 a8 a9 a10 a11:Nat->Nat,nv a0 < pN->nv a1 < pN->nv a2 < pN->nv a3 < pN->nv a4 < pN->nv a5 < pN->nv a6 < pN->nv a7 < pN->nv a8 < pN->nv a9 < pN->nv a10 < pN->nv a11 < pN->AWqS Tryz.prog (fun _=>False) (flatC (bodyOf fn)) (FEnd' tt fn (.v1 (n12 (F (g12 a0 a1 a2 a3 a4 a5 a6 a7 a8 a9 a10 a11))))) ⟨frame0 [.v1 (v12 a0 a1 a2 a3 a4 a5 a6 a7 a8 a9 a10 a11)] fn.ntmps,[]⟩):(CallC.pure (dd1 F)).Ok Tryz.prog f:=by
 intro args pre v e hp
 unfold dd1 at e
 split at e
 ·rename_i a0 a1 a2 a3 a4 a5 a6 a7 a8 a9 a10 a11
  cases e
  exact pWk tK hf hb hn (by rfl) (by rfl) (h a0 a1 a2 a3 a4 a5 a6 a7 a8 a9 a10 a11 (hp _ (by simp)) (hp _ (by simp)) (hp _ (by simp)) (hp _ (by simp)) (hp _ (by simp)) (hp _ (by simp)) (hp _ (by simp)) (hp _ (by simp)) (hp _ (by simp)) (hp _ (by simp)) (hp _ (by simp)) (hp _ (by simp)))
 ·cases e
theorem dd2_ok {F:S12->S12->S12} {f:FuncId} {fn:Func} (hf:Tryz.prog.funcs[f]? = some fn) (hb:fn.body = some (bodyOf fn)) (hn:(fn.name == "runtime.NumGoroutine") = false)
  (h:∀ a0 a1 a2 a3 a4 a5 a6 a7 a8 a9 a10 a11 b0 b1 b2 b3 b4 b5 b6 b7 b8 b9 b10 b11:Nat->Nat,nv a0 < pN->nv a1 < pN->nv a2 < pN->nv a3 < pN->nv a4 < pN->nv a5 < pN->nv a6 < pN->nv a7 < pN->nv a8 < pN->nv a9 < pN->nv a10 < pN->nv a11 < pN->nv b0 < pN->nv b1 < pN->nv b2 < pN->nv b3 < pN->nv b4 < pN->nv b5 < pN->nv b6 < pN->nv b7 < pN->nv b8 < pN->nv b9 < pN->nv b10 < pN->nv b11 < pN->AWqS Tryz.prog (fun _=>False) (flatC (bodyOf fn)) (FEnd' tt fn (.v1 (n12 (F (g12 a0 a1 a2 a3 a4 a5 a6 a7 a8 a9 a10 a11) (g12 b0 b1 b2 b3 b4 b5 b6 b7 b8 b9 b10 b11))))) ⟨frame0 [.v1 (v12 a0 a1 a2 a3 a4 a5 a6 a7 a8 a9 a10 a11),.v1 (v12 b0 b1 b2 b3 b4 b5 b6 b7 b8 b9 b10 b11)] fn.ntmps,[]⟩):(CallC.pure (dd2 F)).Ok Tryz.prog f:=by
 intro args pre v e hp
 unfold dd2 at e
 split at e
 ·rename_i a0 a1 a2 a3 a4 a5 a6 a7 a8 a9 a10 a11 b0 b1 b2 b3 b4 b5 b6 b7 b8 b9 b10 b11
  cases e
  exact pWk tK hf hb hn (by rfl) (by rfl) (h a0 a1 a2 a3 a4 a5 a6 a7 a8 a9 a10 a11 b0 b1 b2 b3 b4 b5 b6 b7 b8 b9 b10 b11 (hp _ (by simp)) (hp _ (by simp)) (hp _ (by simp)) (hp _ (by simp)) (hp _ (by simp)) (hp _ (by simp)) (hp _ (by simp)) (hp _ (by simp)) (hp _ (by simp)) (hp _ (by simp)) (hp _ (by simp)) (hp _ (by simp)) (hp _ (by simp)) (hp _ (by simp)) (hp _ (by simp)) (hp _ (by simp)) (hp _ (by simp)) (hp _ (by simp)) (hp _ (by simp)) (hp _ (by simp)) (hp _ (by simp)) (hp _ (by simp)) (hp _ (by simp)) (hp _ (by simp)))
 ·cases e
def S12.cjd (z:S12):S12:=⟨z.p,⟨F2p.ng z.q.u,F2p.ng z.q.v,F2p.ng z.q.w⟩⟩
theorem S12.cjd_eq (z:S12):S12.cjd z = S12.conj z:=rfl
def cD12Of:List AV->Option (List Prop × AV)
 | [.v1 (.agg [.ws .u64 6 a0,.ws .u64 6 a1,.ws .u64 6 a2,.ws .u64 6 a3,.ws .u64 6 a4,.ws .u64 6 a5,.ws .u64 6 a6,.ws .u64 6 a7,.ws .u64 6 a8,.ws .u64 6 a9,.ws .u64 6 a10,.ws .u64 6 a11])]=>some ([],.v1 (n12 (g12 a0 a1 a2 a3 a4 a5 a6 a7 a8 a9 a10 a11)))
 | _=>none
def GDa:Ctx:=ctxL [(49,.pure cD2Of),(93,.pure (d2 (· + ·))),(95,.pure (d1 F2p.ng))]
theorem GDa_ok:CtxOk Tryz.prog GDa:=cxC okD2Of <| cxC okD2Add <| cxC okD2Neg cxN
theorem okD12Of:(CallC.pure cD12Of).Ok Tryz.prog 14:=by
 intro args pre v e _
 unfold cD12Of at e
 split at e
 ·rename_i a0 a1 a2 a3 a4 a5 a6 a7 a8 a9 a10 a11
  cases e
  refine pWk tK Tryz.func14 (by kernel_rfl) (by kernel_rfl) (by rfl) (by rfl) ?_
  refine eSq mxd tK GDa_ok 200 [] ?_
  exact same (p:=endN (.v1 (n12 (g12 a0 a1 a2 a3 a4 a5 a6 a7 a8 a9 a10 a11))) (.v1 (n12 (g12 a0 a1 a2 a3 a4 a5 a6 a7 a8 a9 a10 a11)))) ⟨_,rfl,fun _=>rfl⟩ (by kernel_rfl)
 ·cases e
theorem v12K {x:Nat->Nat} (h:nv x < pN):nv x = nv (vF (gN x)):=(vF_gN h).symm
theorem okD12One:(CallC.pure (c12 (n12 1))).Ok Tryz.prog 39:=by
 intro args pre v e _
 unfold c12 at e
 split at e
 ·cases e
  refine pWk tK Tryz.func39 (by kernel_rfl) (by kernel_rfl) (by rfl) (by rfl) ?_
  refine eSq mxd tK GDa_ok 60 [] ?_
  refine same (p:=endN (.v1 (v12 (upd fz 0 1) fz fz fz fz fz fz fz fz fz fz fz)) (.v1 (n12 1))) ?_ (by kernel_rfl)
  have h1:nv (upd fz 0 1) = nv (vF 1):=by rw [nv_u1',nv_vF];rfl
  exact ⟨_,rfl,v12_val h1 z0V z0V z0V z0V z0V z0V z0V z0V z0V z0V z0V⟩
 ·cases e
def c2D (s:F2p):List AV->Option (List Prop × AV)
 | []=>some ([],.v1 (n2 s))
 | _=>none
theorem okXi:(CallC.pure (c2D kx)).Ok Tryz.prog 94:=by
 intro args pre v e _
 unfold c2D at e
 split at e
 ·cases e
  refine pWk tK Tryz.func94 (by kernel_rfl) (by kernel_rfl) (by rfl) (by rfl) ?_
  refine eSq mxd tK GDa_ok 60 [] ?_
  refine same (p:=endN (f2 (upd fz 0 1) (upd fz 0 1)) (.v1 (n2 kx))) ?_ (by kernel_rfl)
  have h1:nv (upd fz 0 1) = nv (vF 1):=by rw [nv_u1',nv_vF];rfl
  exact ⟨_,rfl,f2_val h1 h1⟩
 ·cases e
theorem okD12Conj:(CallC.pure (dd1 S12.conj)).Ok Tryz.prog 45:=by
 refine dd1_ok Tryz.func45 (by kernel_rfl) (by kernel_rfl) fun a0 a1 a2 a3 a4 a5 a6 a7 a8 a9 a10 a11 ha0 ha1 ha2 ha3 ha4 ha5 ha6 ha7 ha8 ha9 ha10 ha11=>?_
 refine eSq mxd tK GDa_ok 200 [] ?_
 refine same (p:=nv a2 < pN/\lp a3/\lp a6/\lp a7/\lp a10/\lp a11/\endN (.v1 (v12 a0 a1 (vF (S12.cjd (g12 a0 a1 a2 a3 a4 a5 a6 a7 a8 a9 a10 a11)).q.u.x) (vF (S12.cjd (g12 a0 a1 a2 a3 a4 a5 a6 a7 a8 a9 a10 a11)).q.u.y) a4 a5 (vF (S12.cjd (g12 a0 a1 a2 a3 a4 a5 a6 a7 a8 a9 a10 a11)).q.v.x) (vF (S12.cjd (g12 a0 a1 a2 a3 a4 a5 a6 a7 a8 a9 a10 a11)).q.v.y) a8 a9 (vF (S12.cjd (g12 a0 a1 a2 a3 a4 a5 a6 a7 a8 a9 a10 a11)).q.w.x) (vF (S12.cjd (g12 a0 a1 a2 a3 a4 a5 a6 a7 a8 a9 a10 a11)).q.w.y))) (.v1 (n12 (S12.conj (g12 a0 a1 a2 a3 a4 a5 a6 a7 a8 a9 a10 a11))))) ?_ (by kernel_rfl)
 rw [<-S12.cjd_eq]
 exact ⟨ha2,ha3,ha6,ha7,ha10,ha11,_,rfl,v12_val (v12K ha0) (v12K ha1) rfl rfl (v12K ha4) (v12K ha5) rfl rfl (v12K ha8) (v12K ha9) rfl rfl⟩
def tv (g:Nat->Nat->Nat) (j:Nat):F2p:=g2 (g (2 * j)) (g (2 * j + 1))
def up2 (g:Nat->Nat->Nat) (m:Nat) (x y:Nat->Nat):Nat->Nat->Nat:=fun n=>bif Nat.beq n (2 * m) then x else bif Nat.beq n (2 * m + 1) then y else g n
theorem tv_same (g:Nat->Nat->Nat) (m:Nat) (x y:Nat->Nat):tv (up2 g m x y) m = g2 x y:=by
 unfold tv up2
 have h1:Nat.beq (2 * m) (2 * m) = true:=by rw [Nat.beq_eq]
 have h2:Nat.beq (2 * m + 1) (2 * m) = false:=by rw [<-Bool.not_eq_true,Nat.beq_eq];omega
 have h3:Nat.beq (2 * m + 1) (2 * m + 1) = true:=by rw [Nat.beq_eq]
 rw [h1,h2,h3];rfl
theorem tv_ne (g:Nat->Nat->Nat) {m j:Nat} (h:j ≠ m) (x y:Nat->Nat):tv (up2 g m x y) j = tv g j:=by
 unfold tv up2
 have h1:Nat.beq (2 * j) (2 * m) = false:=by rw [<-Bool.not_eq_true,Nat.beq_eq];omega
 have h2:Nat.beq (2 * j) (2 * m + 1) = false:=by rw [<-Bool.not_eq_true,Nat.beq_eq];omega
 have h3:Nat.beq (2 * j + 1) (2 * m) = false:=by rw [<-Bool.not_eq_true,Nat.beq_eq];omega
 have h4:Nat.beq (2 * j + 1) (2 * m + 1) = false:=by rw [<-Bool.not_eq_true,Nat.beq_eq];omega
 rw [h1,h2,h3,h4];rfl
def LtN (n:Nat) (g:Nat->Nat->Nat):Prop:=∀ i,i < n->nv (g i) < pN
theorem LtN.up {n m:Nat} {g:Nat->Nat->Nat} {x y:Nat->Nat} (h:LtN n g) (hx:nv x < pN) (hy:nv y < pN):LtN n (up2 g m x y):=by
 intro i hi
 unfold up2
 cases Nat.beq i (2 * m)
 ·cases Nat.beq i (2 * m + 1)
  ·exact h i hi
  ·exact hy
 ·exact hx
def cst (A B:Nat->F2p) (i k:Nat) (t:Nat->F2p):Nat->F2p:=fun j=>bif Nat.beq j (i + k) then t j + A i * B k else t j
def cin (A B:Nat->F2p) (i:Nat) (t:Nat->F2p):Nat->Nat->F2p
 | 0=>t
 | k + 1=>cst A B i k (cin A B i t k)
def cout (A B:Nat->F2p):Nat->Nat->F2p
 | 0=>fun _=>0
 | i + 1=>cin A B i (cout A B i) 6
theorem st_yes {A B t:Nat->F2p} {i k:Nat} {g:Nat->Nat->Nat} {x y:Nat->Nat} (h:∀ j,j < 11->tv g j = cin A B i t k j) (hk:i + k < 11) (hx:g2 x y = tv g (i + k) + A i * B k) :
  ∀ j,j < 11->tv (up2 g (i + k) x y) j = cin A B i t (k + 1) j:=by
 intro j hj
 show _ = bif Nat.beq j (i + k) then cin A B i t k j + A i * B k else cin A B i t k j
 by_cases e:j = i + k
 ·subst e
  have h1:Nat.beq (i + k) (i + k) = true:=by rw [Nat.beq_eq]
  rw [tv_same,hx,h _ hj,h1,cond_true]
 ·have h1:Nat.beq j (i + k) = false:=by rw [<-Bool.not_eq_true,Nat.beq_eq];exact e
  rw [tv_ne g e,h _ hj,h1,cond_false]
theorem st_no {A B t:Nat->F2p} {i k:Nat} {g:Nat->Nat->Nat} (h:∀ j,j < 11->tv g j = cin A B i t k j) (hx:A i * B k = 0) :
  ∀ j,j < 11->tv g j = cin A B i t (k + 1) j:=by
 intro j hj
 show _ = bif Nat.beq j (i + k) then cin A B i t k j + A i * B k else cin A B i t k j
 rw [hx,Rg.add_zero,h _ hj]
 cases Nat.beq j (i + k) <;> rfl
def res (c:Nat->F2p) (j:Nat):F2p:=bif Nat.blt j 5 then c j + c (j + 6) * kx else c j
abbrev cs22 (g:Nat->Nat->Nat):List Cell:=[q6 (g 0),q6 (g 1),q6 (g 2),q6 (g 3),q6 (g 4),q6 (g 5),q6 (g 6),q6 (g 7),q6 (g 8),q6 (g 9),q6 (g 10),q6 (g 11),q6 (g 12),q6 (g 13),q6 (g 14),q6 (g 15),q6 (g 16),q6 (g 17),q6 (g 18),q6 (g 19),q6 (g 20),q6 (g 21)]
abbrev b22 (g:Nat->Nat->Nat):Option Blk:=some ⟨133,cs22 g,0,0⟩
abbrev bE12 (g:Nat->Nat->Nat):Option Blk:=some ⟨32,cs12 g,0,0⟩
def VDo (i:Nat):List AV:=[pt 0 0,pt 1 0,pt 2 0,pt 3 0,iv (Int.ofNat i)]
def VDi (i k:Nat):List AV:=[pt 0 0,pt 1 0,pt 2 0,pt 3 0,iv (Int.ofNat i),iv (Int.ofNat k)]
def HDo (a b g:Nat->Nat->Nat):Heap:=[bE12 a,bE12 b,bE12 zz12,b22 g]
def VDr (i:Nat):List AV:=[pt 2 0,pt 3 0,pt 4 0,iv (Int.ofNat i)]
def HDr (a b g o:Nat->Nat->Nat):Heap:=[bE12 a,bE12 b,bE12 zz12,b22 g,bE12 o]
def InvDo (A B:Nat->F2p) (x:Nat × (Nat->Nat->Nat)):Prop:=x.1 <= 6/\LtN 22 x.2/\∀ j,j < 11->tv x.2 j = cout A B x.1 j
def InvDi (A B:Nat->F2p) (i:Nat) (x:Nat × (Nat->Nat->Nat)):Prop:=x.1 <= 6/\LtN 22 x.2/\∀ j,j < 11->tv x.2 j = cin A B i (cout A B i) x.1 j
def InvDr (c:Nat->F2p) (x:Nat × (Nat->Nat->Nat)):Prop:=x.1 <= 6/\LtN 12 x.2/\∀ j,j < x.1->tv x.2 j = res c j
theorem qz {x y:Nat->Nat} (hx:nv x < pN) (hy:nv y < pN):qL [x,y] zL2 = z2 (gN x) (gN y):=by
 have e:∀ f:Nat->Nat,nv f < pN->eqN W 6 f fz = Nat.beq (gN f).val 0:=fun f hf=>by
  have h1:=eqW_beq f fz
  rw [Bool.and_true,zero_nv] at h1
  rw [h1,<-vF_gN hf,nv_vF]
 show (eqN W 6 x fz && (eqN W 6 y fz && true)) = _
 rw [e x hx,e y hy,Bool.and_true];rfl
theorem z2_eq {s:F2p} (h:z2 s.x s.y = true):s = 0:=by
 obtain ⟨h1,h2⟩:=(z2_iff s.x s.y).1 h
 exact F2p.ext h1 h2
theorem D12g (a:Nat->Nat->Nat):g12 (a 0) (a 1) (a 2) (a 3) (a 4) (a 5) (a 6) (a 7) (a 8) (a 9) (a 10) (a 11) = ⟨⟨tv a 0,tv a 2,tv a 4⟩,⟨tv a 1,tv a 3,tv a 5⟩⟩:=rfl
theorem res_mul {a b o:Nat->Nat->Nat} (h:∀ j,j < 6->tv o j = res (cout (tv a) (tv b) 6) j) :
  g12 (o 0) (o 1) (o 2) (o 3) (o 4) (o 5) (o 6) (o 7) (o 8) (o 9) (o 10) (o 11) = S12.mul (g12 (a 0) (a 1) (a 2) (a 3) (a 4) (a 5) (a 6) (a 7) (a 8) (a 9) (a 10) (a 11)) (g12 (b 0) (b 1) (b 2) (b 3) (b 4) (b 5) (b 6) (b 7) (b 8) (b 9) (b 10) (b 11)):=by
 rw [D12g o,D12g a,D12g b,h 0 (by omega),h 1 (by omega),h 2 (by omega),h 3 (by omega),h 4 (by omega),h 5 (by omega)]
 generalize tv a = A
 generalize tv b = B
 have r0:res (cout A B 6) 0 = (0 + A 0 * B 0) + (((((0 + A 1 * B 5) + A 2 * B 4) + A 3 * B 3) + A 4 * B 2) + A 5 * B 1) * kx:=rfl
 have r1:res (cout A B 6) 1 = ((0 + A 0 * B 1) + A 1 * B 0) + ((((0 + A 2 * B 5) + A 3 * B 4) + A 4 * B 3) + A 5 * B 2) * kx:=rfl
 have r2:res (cout A B 6) 2 = (((0 + A 0 * B 2) + A 1 * B 1) + A 2 * B 0) + (((0 + A 3 * B 5) + A 4 * B 4) + A 5 * B 3) * kx:=rfl
 have r3:res (cout A B 6) 3 = ((((0 + A 0 * B 3) + A 1 * B 2) + A 2 * B 1) + A 3 * B 0) + ((0 + A 4 * B 5) + A 5 * B 4) * kx:=rfl
 have r4:res (cout A B 6) 4 = (((((0 + A 0 * B 4) + A 1 * B 3) + A 2 * B 2) + A 3 * B 1) + A 4 * B 0) + (0 + A 5 * B 5) * kx:=rfl
 have r5:res (cout A B 6) 5 = ((((((0 + A 0 * B 5) + A 1 * B 4) + A 2 * B 3) + A 3 * B 2) + A 4 * B 1) + A 5 * B 0):=rfl
 refine S12.ext (S6.ext ?_ ?_ ?_) (S6.ext ?_ ?_ ?_)
 ·show res (cout A B 6) 0 = (A 0 * B 0 + xi (A 2 * B 4 + A 4 * B 2)) + xi (A 1 * B 5 + A 5 * B 1 + A 3 * B 3)
  rw [r0]
  try simp only [xi_mul]
  generalize kx = k
  grind
 ·show res (cout A B 6) 2 = (A 0 * B 2 + A 2 * B 0 + xi (A 4 * B 4)) + (A 1 * B 1 + xi (A 3 * B 5 + A 5 * B 3))
  rw [r2]
  try simp only [xi_mul]
  generalize kx = k
  grind
 ·show res (cout A B 6) 4 = (A 0 * B 4 + A 4 * B 0 + A 2 * B 2) + (A 1 * B 3 + A 3 * B 1 + xi (A 5 * B 5))
  rw [r4]
  try simp only [xi_mul]
  generalize kx = k
  grind
 ·show res (cout A B 6) 1 = (A 0 * B 1 + xi (A 2 * B 5 + A 4 * B 3)) + (A 1 * B 0 + xi (A 3 * B 4 + A 5 * B 2))
  rw [r1]
  try simp only [xi_mul]
  generalize kx = k
  grind
 ·show res (cout A B 6) 3 = (A 0 * B 3 + A 2 * B 1 + xi (A 4 * B 5)) + (A 1 * B 2 + A 3 * B 0 + xi (A 5 * B 4))
  rw [r3]
  try simp only [xi_mul]
  generalize kx = k
  grind
 ·show res (cout A B 6) 5 = (A 0 * B 5 + A 4 * B 1 + A 2 * B 3) + (A 1 * B 4 + A 5 * B 0 + A 3 * B 2)
  rw [r5]
  try simp only [xi_mul]
  generalize kx = k
  grind
def GDm:Ctx:=ctxL [(81,.pure (d2 (· * ·))),(93,.pure (d2 (· + ·))),(94,.pure (c2D kx))]
theorem gDk:CtxOk Tryz.prog GDm:=cxC okD2Mul <| cxC okD2Add <| cxC okXi cxN
theorem cr_zl {α:Type} [CR α] (x:α):0 * x = 0:=by grind
theorem mulI0 {a b:Nat->Nat->Nat} (ha:LtN 12 a) (hb:LtN 12 b) {g:Nat->Nat->Nat} (hg:LtN 22 g) (ht:∀ j,j < 11->tv g j = cout (tv a) (tv b) 0 j) {Q:Exit->AS->Prop} (junk:Nat->Value) :
  AWq Tryz.prog (fun _=>False) (loopOf (atK 0 (flatC (bodyOf Tryz.f44)))) (RoundE (loopId (atK 0 (flatC (bodyOf Tryz.f44)))) [2,3,4,5,6] 79 4 (fun x:{x // InvDo (tv a) (tv b) x}=>VDo x.1.1) (fun x=>HDo a b x.1.2) (fun x=>6 - x.1.1) ⟨(0,g),by simp,hg,ht⟩ (fun x=>x.1.1 = 6) Q) ⟨mkT [2,3,4,5,6] (VDo 0) 79 junk,HDo a b g⟩:=by
 refine nestF mxd tK gDk (l:=flatC (loopOf (atL (flatC (bodyOf Tryz.f44))))) (lB:=flatC (blkOf (atB (flatC (loopOf (atL (flatC (bodyOf Tryz.f44)))))))) (by kernel_rfl) rfl (by kernel_rfl) rfl
  (ι:={x // InvDi (tv a) (tv b) 0 x}) [2,3,4,5,6,7] 79 4 (fun x=>VDi 0 x.1.1) (fun x=>HDo a b x.1.2) (fun x=>6 - x.1.1) (fun x=>x.1.1 = 6)
  (fun _=>rfl) (fun _=>by kernel_rfl) (fun _ _ h=>h.elim) 200 [] [] [] ?_ ?_ ?_
 ·refine same (p:=true = true/\∃ j:{x // InvDi (tv a) (tv b) 0 x},VDi 0 0 = VDi 0 j.1.1/\HDo a b g = HDo a b j.1.2) ?_ (by kernel_rfl)
  exact ⟨rfl,⟨(0,g),by simp,hg,ht⟩,rfl,rfl⟩
 ·intro ⟨⟨k,g⟩,hk,hg,ht⟩ junk
  simp only at hk hg ht
  have hA:=qz (ha 0 (by decide)) (ha 1 (by decide))
  rcases (show k = 0∨k = 1∨k = 2∨k = 3∨k = 4∨k = 5∨k = 6 by omega) with rfl | rfl | rfl | rfl | rfl | rfl | rfl
  ·have hB:=qz (hb 0 (by decide)) (hb 1 (by decide))
   cases h1:z2 (gN (a 0)) (gN (a 1))
   ·cases h2:z2 (gN (b 0)) (gN (b 1))
    ·refine rQ mxd tK gDk 200 [⟨8,4,.lit (.bo true)⟩,⟨8,10,.lit (.bo true)⟩] ?_
     refine same (p:=(!qL [a 0,a 1] zL2) = true/\(!qL [b 0,b 1] zL2) = true/\lp (a 0)/\lp (a 1)/\lp (b 0)/\lp (b 1)/\lp (g 0)/\lp (g 1)/\lp (vF (tv a 0 * tv b 0).x)/\lp (vF (tv a 0 * tv b 0).y)/\true = true /\
      ∃ j:{x // InvDi (tv a) (tv b) 0 x},6 - j.1.1 < 6 - 0/\VDi 0 (0 + 1) = VDi 0 j.1.1/\HDo a b (up2 g (0 + 0) (vF (tv g 0 + G2 (tv a 0 * tv b 0)).x) (vF (tv g 0 + G2 (tv a 0 * tv b 0)).y)) = HDo a b j.1.2) ?_ (by kernel_rfl)
     exact ⟨by rw [hA,h1];rfl,by rw [hB,h2];rfl,ha _ (by decide),ha _ (by decide),hb _ (by decide),hb _ (by decide),hg _ (by decide),hg _ (by decide),lV _,lV _,rfl,⟨(_,_),by simp only;omega,hg.up (lV _) (lV _),st_yes ht (by decide) ((G2_eq _).trans (by rw [G2_eq]))⟩,by simp only;omega,rfl,rfl⟩
    ·refine rQ mxd tK gDk 200 [⟨8,4,.lit (.bo true)⟩,⟨8,10,.lit (.bo false)⟩] ?_
     refine same (p:=(!qL [a 0,a 1] zL2) = true/\(!qL [b 0,b 1] zL2) = false/\true = true/\∃ j:{x // InvDi (tv a) (tv b) 0 x},6 - j.1.1 < 6 - 0/\VDi 0 (0 + 1) = VDi 0 j.1.1/\HDo a b g = HDo a b j.1.2) ?_ (by kernel_rfl)
     exact ⟨by rw [hA,h1];rfl,by rw [hB,h2];rfl,rfl,⟨(0 + 1,g),by simp only;omega,hg,st_no ht (by rw [show tv b 0 = 0 from z2_eq h2];exact cr_z _)⟩,by simp only;omega,rfl,rfl⟩
   ·refine rQ mxd tK gDk 200 [⟨8,4,.lit (.bo false)⟩] ?_
    refine same (p:=(!qL [a 0,a 1] zL2) = false/\true = true/\∃ j:{x // InvDi (tv a) (tv b) 0 x},6 - j.1.1 < 6 - 0/\VDi 0 (0 + 1) = VDi 0 j.1.1/\HDo a b g = HDo a b j.1.2) ?_ (by kernel_rfl)
    exact ⟨by rw [hA,h1];rfl,rfl,⟨(0 + 1,g),by simp only;omega,hg,st_no ht (by rw [show tv a 0 = 0 from z2_eq h1];exact cr_zl _)⟩,by simp only;omega,rfl,rfl⟩
  ·have hB:=qz (hb 2 (by decide)) (hb 3 (by decide))
   cases h1:z2 (gN (a 0)) (gN (a 1))
   ·cases h2:z2 (gN (b 2)) (gN (b 3))
    ·refine rQ mxd tK gDk 200 [⟨8,4,.lit (.bo true)⟩,⟨8,10,.lit (.bo true)⟩] ?_
     refine same (p:=(!qL [a 0,a 1] zL2) = true/\(!qL [b 2,b 3] zL2) = true/\lp (a 0)/\lp (a 1)/\lp (b 2)/\lp (b 3)/\lp (g 2)/\lp (g 3)/\lp (vF (tv a 0 * tv b 1).x)/\lp (vF (tv a 0 * tv b 1).y)/\true = true /\
      ∃ j:{x // InvDi (tv a) (tv b) 0 x},6 - j.1.1 < 6 - 1/\VDi 0 (1 + 1) = VDi 0 j.1.1/\HDo a b (up2 g (0 + 1) (vF (tv g 1 + G2 (tv a 0 * tv b 1)).x) (vF (tv g 1 + G2 (tv a 0 * tv b 1)).y)) = HDo a b j.1.2) ?_ (by kernel_rfl)
     exact ⟨by rw [hA,h1];rfl,by rw [hB,h2];rfl,ha _ (by decide),ha _ (by decide),hb _ (by decide),hb _ (by decide),hg _ (by decide),hg _ (by decide),lV _,lV _,rfl,⟨(_,_),by simp only;omega,hg.up (lV _) (lV _),st_yes ht (by decide) ((G2_eq _).trans (by rw [G2_eq]))⟩,by simp only;omega,rfl,rfl⟩
    ·refine rQ mxd tK gDk 200 [⟨8,4,.lit (.bo true)⟩,⟨8,10,.lit (.bo false)⟩] ?_
     refine same (p:=(!qL [a 0,a 1] zL2) = true/\(!qL [b 2,b 3] zL2) = false/\true = true/\∃ j:{x // InvDi (tv a) (tv b) 0 x},6 - j.1.1 < 6 - 1/\VDi 0 (1 + 1) = VDi 0 j.1.1/\HDo a b g = HDo a b j.1.2) ?_ (by kernel_rfl)
     exact ⟨by rw [hA,h1];rfl,by rw [hB,h2];rfl,rfl,⟨(1 + 1,g),by simp only;omega,hg,st_no ht (by rw [show tv b 1 = 0 from z2_eq h2];exact cr_z _)⟩,by simp only;omega,rfl,rfl⟩
   ·refine rQ mxd tK gDk 200 [⟨8,4,.lit (.bo false)⟩] ?_
    refine same (p:=(!qL [a 0,a 1] zL2) = false/\true = true/\∃ j:{x // InvDi (tv a) (tv b) 0 x},6 - j.1.1 < 6 - 1/\VDi 0 (1 + 1) = VDi 0 j.1.1/\HDo a b g = HDo a b j.1.2) ?_ (by kernel_rfl)
    exact ⟨by rw [hA,h1];rfl,rfl,⟨(1 + 1,g),by simp only;omega,hg,st_no ht (by rw [show tv a 0 = 0 from z2_eq h1];exact cr_zl _)⟩,by simp only;omega,rfl,rfl⟩
  ·have hB:=qz (hb 4 (by decide)) (hb 5 (by decide))
   cases h1:z2 (gN (a 0)) (gN (a 1))
   ·cases h2:z2 (gN (b 4)) (gN (b 5))
    ·refine rQ mxd tK gDk 200 [⟨8,4,.lit (.bo true)⟩,⟨8,10,.lit (.bo true)⟩] ?_
     refine same (p:=(!qL [a 0,a 1] zL2) = true/\(!qL [b 4,b 5] zL2) = true/\lp (a 0)/\lp (a 1)/\lp (b 4)/\lp (b 5)/\lp (g 4)/\lp (g 5)/\lp (vF (tv a 0 * tv b 2).x)/\lp (vF (tv a 0 * tv b 2).y)/\true = true /\
      ∃ j:{x // InvDi (tv a) (tv b) 0 x},6 - j.1.1 < 6 - 2/\VDi 0 (2 + 1) = VDi 0 j.1.1/\HDo a b (up2 g (0 + 2) (vF (tv g 2 + G2 (tv a 0 * tv b 2)).x) (vF (tv g 2 + G2 (tv a 0 * tv b 2)).y)) = HDo a b j.1.2) ?_ (by kernel_rfl)
     exact ⟨by rw [hA,h1];rfl,by rw [hB,h2];rfl,ha _ (by decide),ha _ (by decide),hb _ (by decide),hb _ (by decide),hg _ (by decide),hg _ (by decide),lV _,lV _,rfl,⟨(_,_),by simp only;omega,hg.up (lV _) (lV _),st_yes ht (by decide) ((G2_eq _).trans (by rw [G2_eq]))⟩,by simp only;omega,rfl,rfl⟩
    ·refine rQ mxd tK gDk 200 [⟨8,4,.lit (.bo true)⟩,⟨8,10,.lit (.bo false)⟩] ?_
     refine same (p:=(!qL [a 0,a 1] zL2) = true/\(!qL [b 4,b 5] zL2) = false/\true = true/\∃ j:{x // InvDi (tv a) (tv b) 0 x},6 - j.1.1 < 6 - 2/\VDi 0 (2 + 1) = VDi 0 j.1.1/\HDo a b g = HDo a b j.1.2) ?_ (by kernel_rfl)
     exact ⟨by rw [hA,h1];rfl,by rw [hB,h2];rfl,rfl,⟨(2 + 1,g),by simp only;omega,hg,st_no ht (by rw [show tv b 2 = 0 from z2_eq h2];exact cr_z _)⟩,by simp only;omega,rfl,rfl⟩
   ·refine rQ mxd tK gDk 200 [⟨8,4,.lit (.bo false)⟩] ?_
    refine same (p:=(!qL [a 0,a 1] zL2) = false/\true = true/\∃ j:{x // InvDi (tv a) (tv b) 0 x},6 - j.1.1 < 6 - 2/\VDi 0 (2 + 1) = VDi 0 j.1.1/\HDo a b g = HDo a b j.1.2) ?_ (by kernel_rfl)
    exact ⟨by rw [hA,h1];rfl,rfl,⟨(2 + 1,g),by simp only;omega,hg,st_no ht (by rw [show tv a 0 = 0 from z2_eq h1];exact cr_zl _)⟩,by simp only;omega,rfl,rfl⟩
  ·have hB:=qz (hb 6 (by decide)) (hb 7 (by decide))
   cases h1:z2 (gN (a 0)) (gN (a 1))
   ·cases h2:z2 (gN (b 6)) (gN (b 7))
    ·refine rQ mxd tK gDk 200 [⟨8,4,.lit (.bo true)⟩,⟨8,10,.lit (.bo true)⟩] ?_
     refine same (p:=(!qL [a 0,a 1] zL2) = true/\(!qL [b 6,b 7] zL2) = true/\lp (a 0)/\lp (a 1)/\lp (b 6)/\lp (b 7)/\lp (g 6)/\lp (g 7)/\lp (vF (tv a 0 * tv b 3).x)/\lp (vF (tv a 0 * tv b 3).y)/\true = true /\
      ∃ j:{x // InvDi (tv a) (tv b) 0 x},6 - j.1.1 < 6 - 3/\VDi 0 (3 + 1) = VDi 0 j.1.1/\HDo a b (up2 g (0 + 3) (vF (tv g 3 + G2 (tv a 0 * tv b 3)).x) (vF (tv g 3 + G2 (tv a 0 * tv b 3)).y)) = HDo a b j.1.2) ?_ (by kernel_rfl)
     exact ⟨by rw [hA,h1];rfl,by rw [hB,h2];rfl,ha _ (by decide),ha _ (by decide),hb _ (by decide),hb _ (by decide),hg _ (by decide),hg _ (by decide),lV _,lV _,rfl,⟨(_,_),by simp only;omega,hg.up (lV _) (lV _),st_yes ht (by decide) ((G2_eq _).trans (by rw [G2_eq]))⟩,by simp only;omega,rfl,rfl⟩
    ·refine rQ mxd tK gDk 200 [⟨8,4,.lit (.bo true)⟩,⟨8,10,.lit (.bo false)⟩] ?_
     refine same (p:=(!qL [a 0,a 1] zL2) = true/\(!qL [b 6,b 7] zL2) = false/\true = true/\∃ j:{x // InvDi (tv a) (tv b) 0 x},6 - j.1.1 < 6 - 3/\VDi 0 (3 + 1) = VDi 0 j.1.1/\HDo a b g = HDo a b j.1.2) ?_ (by kernel_rfl)
     exact ⟨by rw [hA,h1];rfl,by rw [hB,h2];rfl,rfl,⟨(3 + 1,g),by simp only;omega,hg,st_no ht (by rw [show tv b 3 = 0 from z2_eq h2];exact cr_z _)⟩,by simp only;omega,rfl,rfl⟩
   ·refine rQ mxd tK gDk 200 [⟨8,4,.lit (.bo false)⟩] ?_
    refine same (p:=(!qL [a 0,a 1] zL2) = false/\true = true/\∃ j:{x // InvDi (tv a) (tv b) 0 x},6 - j.1.1 < 6 - 3/\VDi 0 (3 + 1) = VDi 0 j.1.1/\HDo a b g = HDo a b j.1.2) ?_ (by kernel_rfl)
    exact ⟨by rw [hA,h1];rfl,rfl,⟨(3 + 1,g),by simp only;omega,hg,st_no ht (by rw [show tv a 0 = 0 from z2_eq h1];exact cr_zl _)⟩,by simp only;omega,rfl,rfl⟩
  ·have hB:=qz (hb 8 (by decide)) (hb 9 (by decide))
   cases h1:z2 (gN (a 0)) (gN (a 1))
   ·cases h2:z2 (gN (b 8)) (gN (b 9))
    ·refine rQ mxd tK gDk 200 [⟨8,4,.lit (.bo true)⟩,⟨8,10,.lit (.bo true)⟩] ?_
     refine same (p:=(!qL [a 0,a 1] zL2) = true/\(!qL [b 8,b 9] zL2) = true/\lp (a 0)/\lp (a 1)/\lp (b 8)/\lp (b 9)/\lp (g 8)/\lp (g 9)/\lp (vF (tv a 0 * tv b 4).x)/\lp (vF (tv a 0 * tv b 4).y)/\true = true /\
      ∃ j:{x // InvDi (tv a) (tv b) 0 x},6 - j.1.1 < 6 - 4/\VDi 0 (4 + 1) = VDi 0 j.1.1/\HDo a b (up2 g (0 + 4) (vF (tv g 4 + G2 (tv a 0 * tv b 4)).x) (vF (tv g 4 + G2 (tv a 0 * tv b 4)).y)) = HDo a b j.1.2) ?_ (by kernel_rfl)
     exact ⟨by rw [hA,h1];rfl,by rw [hB,h2];rfl,ha _ (by decide),ha _ (by decide),hb _ (by decide),hb _ (by decide),hg _ (by decide),hg _ (by decide),lV _,lV _,rfl,⟨(_,_),by simp only;omega,hg.up (lV _) (lV _),st_yes ht (by decide) ((G2_eq _).trans (by rw [G2_eq]))⟩,by simp only;omega,rfl,rfl⟩
    ·refine rQ mxd tK gDk 200 [⟨8,4,.lit (.bo true)⟩,⟨8,10,.lit (.bo false)⟩] ?_
     refine same (p:=(!qL [a 0,a 1] zL2) = true/\(!qL [b 8,b 9] zL2) = false/\true = true/\∃ j:{x // InvDi (tv a) (tv b) 0 x},6 - j.1.1 < 6 - 4/\VDi 0 (4 + 1) = VDi 0 j.1.1/\HDo a b g = HDo a b j.1.2) ?_ (by kernel_rfl)
     exact ⟨by rw [hA,h1];rfl,by rw [hB,h2];rfl,rfl,⟨(4 + 1,g),by simp only;omega,hg,st_no ht (by rw [show tv b 4 = 0 from z2_eq h2];exact cr_z _)⟩,by simp only;omega,rfl,rfl⟩
   ·refine rQ mxd tK gDk 200 [⟨8,4,.lit (.bo false)⟩] ?_
    refine same (p:=(!qL [a 0,a 1] zL2) = false/\true = true/\∃ j:{x // InvDi (tv a) (tv b) 0 x},6 - j.1.1 < 6 - 4/\VDi 0 (4 + 1) = VDi 0 j.1.1/\HDo a b g = HDo a b j.1.2) ?_ (by kernel_rfl)
    exact ⟨by rw [hA,h1];rfl,rfl,⟨(4 + 1,g),by simp only;omega,hg,st_no ht (by rw [show tv a 0 = 0 from z2_eq h1];exact cr_zl _)⟩,by simp only;omega,rfl,rfl⟩
  ·have hB:=qz (hb 10 (by decide)) (hb 11 (by decide))
   cases h1:z2 (gN (a 0)) (gN (a 1))
   ·cases h2:z2 (gN (b 10)) (gN (b 11))
    ·refine rQ mxd tK gDk 200 [⟨8,4,.lit (.bo true)⟩,⟨8,10,.lit (.bo true)⟩] ?_
     refine same (p:=(!qL [a 0,a 1] zL2) = true/\(!qL [b 10,b 11] zL2) = true/\lp (a 0)/\lp (a 1)/\lp (b 10)/\lp (b 11)/\lp (g 10)/\lp (g 11)/\lp (vF (tv a 0 * tv b 5).x)/\lp (vF (tv a 0 * tv b 5).y)/\true = true /\
      ∃ j:{x // InvDi (tv a) (tv b) 0 x},6 - j.1.1 < 6 - 5/\VDi 0 (5 + 1) = VDi 0 j.1.1/\HDo a b (up2 g (0 + 5) (vF (tv g 5 + G2 (tv a 0 * tv b 5)).x) (vF (tv g 5 + G2 (tv a 0 * tv b 5)).y)) = HDo a b j.1.2) ?_ (by kernel_rfl)
     exact ⟨by rw [hA,h1];rfl,by rw [hB,h2];rfl,ha _ (by decide),ha _ (by decide),hb _ (by decide),hb _ (by decide),hg _ (by decide),hg _ (by decide),lV _,lV _,rfl,⟨(_,_),by simp only;omega,hg.up (lV _) (lV _),st_yes ht (by decide) ((G2_eq _).trans (by rw [G2_eq]))⟩,by simp only;omega,rfl,rfl⟩
    ·refine rQ mxd tK gDk 200 [⟨8,4,.lit (.bo true)⟩,⟨8,10,.lit (.bo false)⟩] ?_
     refine same (p:=(!qL [a 0,a 1] zL2) = true/\(!qL [b 10,b 11] zL2) = false/\true = true/\∃ j:{x // InvDi (tv a) (tv b) 0 x},6 - j.1.1 < 6 - 5/\VDi 0 (5 + 1) = VDi 0 j.1.1/\HDo a b g = HDo a b j.1.2) ?_ (by kernel_rfl)
     exact ⟨by rw [hA,h1];rfl,by rw [hB,h2];rfl,rfl,⟨(5 + 1,g),by simp only;omega,hg,st_no ht (by rw [show tv b 5 = 0 from z2_eq h2];exact cr_z _)⟩,by simp only;omega,rfl,rfl⟩
   ·refine rQ mxd tK gDk 200 [⟨8,4,.lit (.bo false)⟩] ?_
    refine same (p:=(!qL [a 0,a 1] zL2) = false/\true = true/\∃ j:{x // InvDi (tv a) (tv b) 0 x},6 - j.1.1 < 6 - 5/\VDi 0 (5 + 1) = VDi 0 j.1.1/\HDo a b g = HDo a b j.1.2) ?_ (by kernel_rfl)
    exact ⟨by rw [hA,h1];rfl,rfl,⟨(5 + 1,g),by simp only;omega,hg,st_no ht (by rw [show tv a 0 = 0 from z2_eq h1];exact cr_zl _)⟩,by simp only;omega,rfl,rfl⟩
  ·refine rQ mxd tK gDk 100 [] ?_
   refine same (p:=true = true/\∃ j:{x // InvDi (tv a) (tv b) 0 x},j.1.1 = 6/\VDi 0 6 = VDi 0 j.1.1/\HDo a b g = HDo a b j.1.2) ?_ (by kernel_rfl)
   exact ⟨rfl,⟨(6,g),hk,hg,ht⟩,rfl,rfl,rfl⟩
 ·intro ⟨⟨k,g⟩,hk,hg,ht⟩ junk h66
  simp only at hk hg ht h66
  subst h66
  refine same (p:=true = true/\∃ j:{x // InvDo (tv a) (tv b) x},6 - j.1.1 < 6 - 0/\VDo (0 + 1) = VDo j.1.1/\HDo a b g = HDo a b j.1.2) ?_ (by kernel_rfl)
  exact ⟨rfl,⟨(0 + 1,g),by simp only;omega,hg,ht⟩,by simp only;omega,rfl,rfl⟩
theorem mulI1 {a b:Nat->Nat->Nat} (ha:LtN 12 a) (hb:LtN 12 b) {g:Nat->Nat->Nat} (hg:LtN 22 g) (ht:∀ j,j < 11->tv g j = cout (tv a) (tv b) 1 j) {Q:Exit->AS->Prop} (junk:Nat->Value) :
  AWq Tryz.prog (fun _=>False) (loopOf (atK 0 (flatC (bodyOf Tryz.f44)))) (RoundE (loopId (atK 0 (flatC (bodyOf Tryz.f44)))) [2,3,4,5,6] 79 4 (fun x:{x // InvDo (tv a) (tv b) x}=>VDo x.1.1) (fun x=>HDo a b x.1.2) (fun x=>6 - x.1.1) ⟨(1,g),by simp,hg,ht⟩ (fun x=>x.1.1 = 6) Q) ⟨mkT [2,3,4,5,6] (VDo 1) 79 junk,HDo a b g⟩:=by
 refine nestF mxd tK gDk (l:=flatC (loopOf (atL (flatC (bodyOf Tryz.f44))))) (lB:=flatC (blkOf (atB (flatC (loopOf (atL (flatC (bodyOf Tryz.f44)))))))) (by kernel_rfl) rfl (by kernel_rfl) rfl
  (ι:={x // InvDi (tv a) (tv b) 1 x}) [2,3,4,5,6,7] 79 4 (fun x=>VDi 1 x.1.1) (fun x=>HDo a b x.1.2) (fun x=>6 - x.1.1) (fun x=>x.1.1 = 6)
  (fun _=>rfl) (fun _=>by kernel_rfl) (fun _ _ h=>h.elim) 200 [] [] [] ?_ ?_ ?_
 ·refine same (p:=true = true/\∃ j:{x // InvDi (tv a) (tv b) 1 x},VDi 1 0 = VDi 1 j.1.1/\HDo a b g = HDo a b j.1.2) ?_ (by kernel_rfl)
  exact ⟨rfl,⟨(0,g),by simp,hg,ht⟩,rfl,rfl⟩
 ·intro ⟨⟨k,g⟩,hk,hg,ht⟩ junk
  simp only at hk hg ht
  have hA:=qz (ha 2 (by decide)) (ha 3 (by decide))
  rcases (show k = 0∨k = 1∨k = 2∨k = 3∨k = 4∨k = 5∨k = 6 by omega) with rfl | rfl | rfl | rfl | rfl | rfl | rfl
  ·have hB:=qz (hb 0 (by decide)) (hb 1 (by decide))
   cases h1:z2 (gN (a 2)) (gN (a 3))
   ·cases h2:z2 (gN (b 0)) (gN (b 1))
    ·refine rQ mxd tK gDk 200 [⟨8,4,.lit (.bo true)⟩,⟨8,10,.lit (.bo true)⟩] ?_
     refine same (p:=(!qL [a 2,a 3] zL2) = true/\(!qL [b 0,b 1] zL2) = true/\lp (a 2)/\lp (a 3)/\lp (b 0)/\lp (b 1)/\lp (g 2)/\lp (g 3)/\lp (vF (tv a 1 * tv b 0).x)/\lp (vF (tv a 1 * tv b 0).y)/\true = true /\
      ∃ j:{x // InvDi (tv a) (tv b) 1 x},6 - j.1.1 < 6 - 0/\VDi 1 (0 + 1) = VDi 1 j.1.1/\HDo a b (up2 g (1 + 0) (vF (tv g 1 + G2 (tv a 1 * tv b 0)).x) (vF (tv g 1 + G2 (tv a 1 * tv b 0)).y)) = HDo a b j.1.2) ?_ (by kernel_rfl)
     exact ⟨by rw [hA,h1];rfl,by rw [hB,h2];rfl,ha _ (by decide),ha _ (by decide),hb _ (by decide),hb _ (by decide),hg _ (by decide),hg _ (by decide),lV _,lV _,rfl,⟨(_,_),by simp only;omega,hg.up (lV _) (lV _),st_yes ht (by decide) ((G2_eq _).trans (by rw [G2_eq]))⟩,by simp only;omega,rfl,rfl⟩
    ·refine rQ mxd tK gDk 200 [⟨8,4,.lit (.bo true)⟩,⟨8,10,.lit (.bo false)⟩] ?_
     refine same (p:=(!qL [a 2,a 3] zL2) = true/\(!qL [b 0,b 1] zL2) = false/\true = true/\∃ j:{x // InvDi (tv a) (tv b) 1 x},6 - j.1.1 < 6 - 0/\VDi 1 (0 + 1) = VDi 1 j.1.1/\HDo a b g = HDo a b j.1.2) ?_ (by kernel_rfl)
     exact ⟨by rw [hA,h1];rfl,by rw [hB,h2];rfl,rfl,⟨(0 + 1,g),by simp only;omega,hg,st_no ht (by rw [show tv b 0 = 0 from z2_eq h2];exact cr_z _)⟩,by simp only;omega,rfl,rfl⟩
   ·refine rQ mxd tK gDk 200 [⟨8,4,.lit (.bo false)⟩] ?_
    refine same (p:=(!qL [a 2,a 3] zL2) = false/\true = true/\∃ j:{x // InvDi (tv a) (tv b) 1 x},6 - j.1.1 < 6 - 0/\VDi 1 (0 + 1) = VDi 1 j.1.1/\HDo a b g = HDo a b j.1.2) ?_ (by kernel_rfl)
    exact ⟨by rw [hA,h1];rfl,rfl,⟨(0 + 1,g),by simp only;omega,hg,st_no ht (by rw [show tv a 1 = 0 from z2_eq h1];exact cr_zl _)⟩,by simp only;omega,rfl,rfl⟩
  ·have hB:=qz (hb 2 (by decide)) (hb 3 (by decide))
   cases h1:z2 (gN (a 2)) (gN (a 3))
   ·cases h2:z2 (gN (b 2)) (gN (b 3))
    ·refine rQ mxd tK gDk 200 [⟨8,4,.lit (.bo true)⟩,⟨8,10,.lit (.bo true)⟩] ?_
     refine same (p:=(!qL [a 2,a 3] zL2) = true/\(!qL [b 2,b 3] zL2) = true/\lp (a 2)/\lp (a 3)/\lp (b 2)/\lp (b 3)/\lp (g 4)/\lp (g 5)/\lp (vF (tv a 1 * tv b 1).x)/\lp (vF (tv a 1 * tv b 1).y)/\true = true /\
      ∃ j:{x // InvDi (tv a) (tv b) 1 x},6 - j.1.1 < 6 - 1/\VDi 1 (1 + 1) = VDi 1 j.1.1/\HDo a b (up2 g (1 + 1) (vF (tv g 2 + G2 (tv a 1 * tv b 1)).x) (vF (tv g 2 + G2 (tv a 1 * tv b 1)).y)) = HDo a b j.1.2) ?_ (by kernel_rfl)
     exact ⟨by rw [hA,h1];rfl,by rw [hB,h2];rfl,ha _ (by decide),ha _ (by decide),hb _ (by decide),hb _ (by decide),hg _ (by decide),hg _ (by decide),lV _,lV _,rfl,⟨(_,_),by simp only;omega,hg.up (lV _) (lV _),st_yes ht (by decide) ((G2_eq _).trans (by rw [G2_eq]))⟩,by simp only;omega,rfl,rfl⟩
    ·refine rQ mxd tK gDk 200 [⟨8,4,.lit (.bo true)⟩,⟨8,10,.lit (.bo false)⟩] ?_
     refine same (p:=(!qL [a 2,a 3] zL2) = true/\(!qL [b 2,b 3] zL2) = false/\true = true/\∃ j:{x // InvDi (tv a) (tv b) 1 x},6 - j.1.1 < 6 - 1/\VDi 1 (1 + 1) = VDi 1 j.1.1/\HDo a b g = HDo a b j.1.2) ?_ (by kernel_rfl)
     exact ⟨by rw [hA,h1];rfl,by rw [hB,h2];rfl,rfl,⟨(1 + 1,g),by simp only;omega,hg,st_no ht (by rw [show tv b 1 = 0 from z2_eq h2];exact cr_z _)⟩,by simp only;omega,rfl,rfl⟩
   ·refine rQ mxd tK gDk 200 [⟨8,4,.lit (.bo false)⟩] ?_
    refine same (p:=(!qL [a 2,a 3] zL2) = false/\true = true/\∃ j:{x // InvDi (tv a) (tv b) 1 x},6 - j.1.1 < 6 - 1/\VDi 1 (1 + 1) = VDi 1 j.1.1/\HDo a b g = HDo a b j.1.2) ?_ (by kernel_rfl)
    exact ⟨by rw [hA,h1];rfl,rfl,⟨(1 + 1,g),by simp only;omega,hg,st_no ht (by rw [show tv a 1 = 0 from z2_eq h1];exact cr_zl _)⟩,by simp only;omega,rfl,rfl⟩
  ·have hB:=qz (hb 4 (by decide)) (hb 5 (by decide))
   cases h1:z2 (gN (a 2)) (gN (a 3))
   ·cases h2:z2 (gN (b 4)) (gN (b 5))
    ·refine rQ mxd tK gDk 200 [⟨8,4,.lit (.bo true)⟩,⟨8,10,.lit (.bo true)⟩] ?_
     refine same (p:=(!qL [a 2,a 3] zL2) = true/\(!qL [b 4,b 5] zL2) = true/\lp (a 2)/\lp (a 3)/\lp (b 4)/\lp (b 5)/\lp (g 6)/\lp (g 7)/\lp (vF (tv a 1 * tv b 2).x)/\lp (vF (tv a 1 * tv b 2).y)/\true = true /\
      ∃ j:{x // InvDi (tv a) (tv b) 1 x},6 - j.1.1 < 6 - 2/\VDi 1 (2 + 1) = VDi 1 j.1.1/\HDo a b (up2 g (1 + 2) (vF (tv g 3 + G2 (tv a 1 * tv b 2)).x) (vF (tv g 3 + G2 (tv a 1 * tv b 2)).y)) = HDo a b j.1.2) ?_ (by kernel_rfl)
     exact ⟨by rw [hA,h1];rfl,by rw [hB,h2];rfl,ha _ (by decide),ha _ (by decide),hb _ (by decide),hb _ (by decide),hg _ (by decide),hg _ (by decide),lV _,lV _,rfl,⟨(_,_),by simp only;omega,hg.up (lV _) (lV _),st_yes ht (by decide) ((G2_eq _).trans (by rw [G2_eq]))⟩,by simp only;omega,rfl,rfl⟩
    ·refine rQ mxd tK gDk 200 [⟨8,4,.lit (.bo true)⟩,⟨8,10,.lit (.bo false)⟩] ?_
     refine same (p:=(!qL [a 2,a 3] zL2) = true/\(!qL [b 4,b 5] zL2) = false/\true = true/\∃ j:{x // InvDi (tv a) (tv b) 1 x},6 - j.1.1 < 6 - 2/\VDi 1 (2 + 1) = VDi 1 j.1.1/\HDo a b g = HDo a b j.1.2) ?_ (by kernel_rfl)
     exact ⟨by rw [hA,h1];rfl,by rw [hB,h2];rfl,rfl,⟨(2 + 1,g),by simp only;omega,hg,st_no ht (by rw [show tv b 2 = 0 from z2_eq h2];exact cr_z _)⟩,by simp only;omega,rfl,rfl⟩
   ·refine rQ mxd tK gDk 200 [⟨8,4,.lit (.bo false)⟩] ?_
    refine same (p:=(!qL [a 2,a 3] zL2) = false/\true = true/\∃ j:{x // InvDi (tv a) (tv b) 1 x},6 - j.1.1 < 6 - 2/\VDi 1 (2 + 1) = VDi 1 j.1.1/\HDo a b g = HDo a b j.1.2) ?_ (by kernel_rfl)
    exact ⟨by rw [hA,h1];rfl,rfl,⟨(2 + 1,g),by simp only;omega,hg,st_no ht (by rw [show tv a 1 = 0 from z2_eq h1];exact cr_zl _)⟩,by simp only;omega,rfl,rfl⟩
  ·have hB:=qz (hb 6 (by decide)) (hb 7 (by decide))
   cases h1:z2 (gN (a 2)) (gN (a 3))
   ·cases h2:z2 (gN (b 6)) (gN (b 7))
    ·refine rQ mxd tK gDk 200 [⟨8,4,.lit (.bo true)⟩,⟨8,10,.lit (.bo true)⟩] ?_
     refine same (p:=(!qL [a 2,a 3] zL2) = true/\(!qL [b 6,b 7] zL2) = true/\lp (a 2)/\lp (a 3)/\lp (b 6)/\lp (b 7)/\lp (g 8)/\lp (g 9)/\lp (vF (tv a 1 * tv b 3).x)/\lp (vF (tv a 1 * tv b 3).y)/\true = true /\
      ∃ j:{x // InvDi (tv a) (tv b) 1 x},6 - j.1.1 < 6 - 3/\VDi 1 (3 + 1) = VDi 1 j.1.1/\HDo a b (up2 g (1 + 3) (vF (tv g 4 + G2 (tv a 1 * tv b 3)).x) (vF (tv g 4 + G2 (tv a 1 * tv b 3)).y)) = HDo a b j.1.2) ?_ (by kernel_rfl)
     exact ⟨by rw [hA,h1];rfl,by rw [hB,h2];rfl,ha _ (by decide),ha _ (by decide),hb _ (by decide),hb _ (by decide),hg _ (by decide),hg _ (by decide),lV _,lV _,rfl,⟨(_,_),by simp only;omega,hg.up (lV _) (lV _),st_yes ht (by decide) ((G2_eq _).trans (by rw [G2_eq]))⟩,by simp only;omega,rfl,rfl⟩
    ·refine rQ mxd tK gDk 200 [⟨8,4,.lit (.bo true)⟩,⟨8,10,.lit (.bo false)⟩] ?_
     refine same (p:=(!qL [a 2,a 3] zL2) = true/\(!qL [b 6,b 7] zL2) = false/\true = true/\∃ j:{x // InvDi (tv a) (tv b) 1 x},6 - j.1.1 < 6 - 3/\VDi 1 (3 + 1) = VDi 1 j.1.1/\HDo a b g = HDo a b j.1.2) ?_ (by kernel_rfl)
     exact ⟨by rw [hA,h1];rfl,by rw [hB,h2];rfl,rfl,⟨(3 + 1,g),by simp only;omega,hg,st_no ht (by rw [show tv b 3 = 0 from z2_eq h2];exact cr_z _)⟩,by simp only;omega,rfl,rfl⟩
   ·refine rQ mxd tK gDk 200 [⟨8,4,.lit (.bo false)⟩] ?_
    refine same (p:=(!qL [a 2,a 3] zL2) = false/\true = true/\∃ j:{x // InvDi (tv a) (tv b) 1 x},6 - j.1.1 < 6 - 3/\VDi 1 (3 + 1) = VDi 1 j.1.1/\HDo a b g = HDo a b j.1.2) ?_ (by kernel_rfl)
    exact ⟨by rw [hA,h1];rfl,rfl,⟨(3 + 1,g),by simp only;omega,hg,st_no ht (by rw [show tv a 1 = 0 from z2_eq h1];exact cr_zl _)⟩,by simp only;omega,rfl,rfl⟩
  ·have hB:=qz (hb 8 (by decide)) (hb 9 (by decide))
   cases h1:z2 (gN (a 2)) (gN (a 3))
   ·cases h2:z2 (gN (b 8)) (gN (b 9))
    ·refine rQ mxd tK gDk 200 [⟨8,4,.lit (.bo true)⟩,⟨8,10,.lit (.bo true)⟩] ?_
     refine same (p:=(!qL [a 2,a 3] zL2) = true/\(!qL [b 8,b 9] zL2) = true/\lp (a 2)/\lp (a 3)/\lp (b 8)/\lp (b 9)/\lp (g 10)/\lp (g 11)/\lp (vF (tv a 1 * tv b 4).x)/\lp (vF (tv a 1 * tv b 4).y)/\true = true /\
      ∃ j:{x // InvDi (tv a) (tv b) 1 x},6 - j.1.1 < 6 - 4/\VDi 1 (4 + 1) = VDi 1 j.1.1/\HDo a b (up2 g (1 + 4) (vF (tv g 5 + G2 (tv a 1 * tv b 4)).x) (vF (tv g 5 + G2 (tv a 1 * tv b 4)).y)) = HDo a b j.1.2) ?_ (by kernel_rfl)
     exact ⟨by rw [hA,h1];rfl,by rw [hB,h2];rfl,ha _ (by decide),ha _ (by decide),hb _ (by decide),hb _ (by decide),hg _ (by decide),hg _ (by decide),lV _,lV _,rfl,⟨(_,_),by simp only;omega,hg.up (lV _) (lV _),st_yes ht (by decide) ((G2_eq _).trans (by rw [G2_eq]))⟩,by simp only;omega,rfl,rfl⟩
    ·refine rQ mxd tK gDk 200 [⟨8,4,.lit (.bo true)⟩,⟨8,10,.lit (.bo false)⟩] ?_
     refine same (p:=(!qL [a 2,a 3] zL2) = true/\(!qL [b 8,b 9] zL2) = false/\true = true/\∃ j:{x // InvDi (tv a) (tv b) 1 x},6 - j.1.1 < 6 - 4/\VDi 1 (4 + 1) = VDi 1 j.1.1/\HDo a b g = HDo a b j.1.2) ?_ (by kernel_rfl)
     exact ⟨by rw [hA,h1];rfl,by rw [hB,h2];rfl,rfl,⟨(4 + 1,g),by simp only;omega,hg,st_no ht (by rw [show tv b 4 = 0 from z2_eq h2];exact cr_z _)⟩,by simp only;omega,rfl,rfl⟩
   ·refine rQ mxd tK gDk 200 [⟨8,4,.lit (.bo false)⟩] ?_
    refine same (p:=(!qL [a 2,a 3] zL2) = false/\true = true/\∃ j:{x // InvDi (tv a) (tv b) 1 x},6 - j.1.1 < 6 - 4/\VDi 1 (4 + 1) = VDi 1 j.1.1/\HDo a b g = HDo a b j.1.2) ?_ (by kernel_rfl)
    exact ⟨by rw [hA,h1];rfl,rfl,⟨(4 + 1,g),by simp only;omega,hg,st_no ht (by rw [show tv a 1 = 0 from z2_eq h1];exact cr_zl _)⟩,by simp only;omega,rfl,rfl⟩
  ·have hB:=qz (hb 10 (by decide)) (hb 11 (by decide))
   cases h1:z2 (gN (a 2)) (gN (a 3))
   ·cases h2:z2 (gN (b 10)) (gN (b 11))
    ·refine rQ mxd tK gDk 200 [⟨8,4,.lit (.bo true)⟩,⟨8,10,.lit (.bo true)⟩] ?_
     refine same (p:=(!qL [a 2,a 3] zL2) = true/\(!qL [b 10,b 11] zL2) = true/\lp (a 2)/\lp (a 3)/\lp (b 10)/\lp (b 11)/\lp (g 12)/\lp (g 13)/\lp (vF (tv a 1 * tv b 5).x)/\lp (vF (tv a 1 * tv b 5).y)/\true = true /\
      ∃ j:{x // InvDi (tv a) (tv b) 1 x},6 - j.1.1 < 6 - 5/\VDi 1 (5 + 1) = VDi 1 j.1.1/\HDo a b (up2 g (1 + 5) (vF (tv g 6 + G2 (tv a 1 * tv b 5)).x) (vF (tv g 6 + G2 (tv a 1 * tv b 5)).y)) = HDo a b j.1.2) ?_ (by kernel_rfl)
     exact ⟨by rw [hA,h1];rfl,by rw [hB,h2];rfl,ha _ (by decide),ha _ (by decide),hb _ (by decide),hb _ (by decide),hg _ (by decide),hg _ (by decide),lV _,lV _,rfl,⟨(_,_),by simp only;omega,hg.up (lV _) (lV _),st_yes ht (by decide) ((G2_eq _).trans (by rw [G2_eq]))⟩,by simp only;omega,rfl,rfl⟩
    ·refine rQ mxd tK gDk 200 [⟨8,4,.lit (.bo true)⟩,⟨8,10,.lit (.bo false)⟩] ?_
     refine same (p:=(!qL [a 2,a 3] zL2) = true/\(!qL [b 10,b 11] zL2) = false/\true = true/\∃ j:{x // InvDi (tv a) (tv b) 1 x},6 - j.1.1 < 6 - 5/\VDi 1 (5 + 1) = VDi 1 j.1.1/\HDo a b g = HDo a b j.1.2) ?_ (by kernel_rfl)
     exact ⟨by rw [hA,h1];rfl,by rw [hB,h2];rfl,rfl,⟨(5 + 1,g),by simp only;omega,hg,st_no ht (by rw [show tv b 5 = 0 from z2_eq h2];exact cr_z _)⟩,by simp only;omega,rfl,rfl⟩
   ·refine rQ mxd tK gDk 200 [⟨8,4,.lit (.bo false)⟩] ?_
    refine same (p:=(!qL [a 2,a 3] zL2) = false/\true = true/\∃ j:{x // InvDi (tv a) (tv b) 1 x},6 - j.1.1 < 6 - 5/\VDi 1 (5 + 1) = VDi 1 j.1.1/\HDo a b g = HDo a b j.1.2) ?_ (by kernel_rfl)
    exact ⟨by rw [hA,h1];rfl,rfl,⟨(5 + 1,g),by simp only;omega,hg,st_no ht (by rw [show tv a 1 = 0 from z2_eq h1];exact cr_zl _)⟩,by simp only;omega,rfl,rfl⟩
  ·refine rQ mxd tK gDk 100 [] ?_
   refine same (p:=true = true/\∃ j:{x // InvDi (tv a) (tv b) 1 x},j.1.1 = 6/\VDi 1 6 = VDi 1 j.1.1/\HDo a b g = HDo a b j.1.2) ?_ (by kernel_rfl)
   exact ⟨rfl,⟨(6,g),hk,hg,ht⟩,rfl,rfl,rfl⟩
 ·intro ⟨⟨k,g⟩,hk,hg,ht⟩ junk h66
  simp only at hk hg ht h66
  subst h66
  refine same (p:=true = true/\∃ j:{x // InvDo (tv a) (tv b) x},6 - j.1.1 < 6 - 1/\VDo (1 + 1) = VDo j.1.1/\HDo a b g = HDo a b j.1.2) ?_ (by kernel_rfl)
  exact ⟨rfl,⟨(1 + 1,g),by simp only;omega,hg,ht⟩,by simp only;omega,rfl,rfl⟩
theorem mulI2 {a b:Nat->Nat->Nat} (ha:LtN 12 a) (hb:LtN 12 b) {g:Nat->Nat->Nat} (hg:LtN 22 g) (ht:∀ j,j < 11->tv g j = cout (tv a) (tv b) 2 j) {Q:Exit->AS->Prop} (junk:Nat->Value) :
  AWq Tryz.prog (fun _=>False) (loopOf (atK 0 (flatC (bodyOf Tryz.f44)))) (RoundE (loopId (atK 0 (flatC (bodyOf Tryz.f44)))) [2,3,4,5,6] 79 4 (fun x:{x // InvDo (tv a) (tv b) x}=>VDo x.1.1) (fun x=>HDo a b x.1.2) (fun x=>6 - x.1.1) ⟨(2,g),by simp,hg,ht⟩ (fun x=>x.1.1 = 6) Q) ⟨mkT [2,3,4,5,6] (VDo 2) 79 junk,HDo a b g⟩:=by
 refine nestF mxd tK gDk (l:=flatC (loopOf (atL (flatC (bodyOf Tryz.f44))))) (lB:=flatC (blkOf (atB (flatC (loopOf (atL (flatC (bodyOf Tryz.f44)))))))) (by kernel_rfl) rfl (by kernel_rfl) rfl
  (ι:={x // InvDi (tv a) (tv b) 2 x}) [2,3,4,5,6,7] 79 4 (fun x=>VDi 2 x.1.1) (fun x=>HDo a b x.1.2) (fun x=>6 - x.1.1) (fun x=>x.1.1 = 6)
  (fun _=>rfl) (fun _=>by kernel_rfl) (fun _ _ h=>h.elim) 200 [] [] [] ?_ ?_ ?_
 ·refine same (p:=true = true/\∃ j:{x // InvDi (tv a) (tv b) 2 x},VDi 2 0 = VDi 2 j.1.1/\HDo a b g = HDo a b j.1.2) ?_ (by kernel_rfl)
  exact ⟨rfl,⟨(0,g),by simp,hg,ht⟩,rfl,rfl⟩
 ·intro ⟨⟨k,g⟩,hk,hg,ht⟩ junk
  simp only at hk hg ht
  have hA:=qz (ha 4 (by decide)) (ha 5 (by decide))
  rcases (show k = 0∨k = 1∨k = 2∨k = 3∨k = 4∨k = 5∨k = 6 by omega) with rfl | rfl | rfl | rfl | rfl | rfl | rfl
  ·have hB:=qz (hb 0 (by decide)) (hb 1 (by decide))
   cases h1:z2 (gN (a 4)) (gN (a 5))
   ·cases h2:z2 (gN (b 0)) (gN (b 1))
    ·refine rQ mxd tK gDk 200 [⟨8,4,.lit (.bo true)⟩,⟨8,10,.lit (.bo true)⟩] ?_
     refine same (p:=(!qL [a 4,a 5] zL2) = true/\(!qL [b 0,b 1] zL2) = true/\lp (a 4)/\lp (a 5)/\lp (b 0)/\lp (b 1)/\lp (g 4)/\lp (g 5)/\lp (vF (tv a 2 * tv b 0).x)/\lp (vF (tv a 2 * tv b 0).y)/\true = true /\
      ∃ j:{x // InvDi (tv a) (tv b) 2 x},6 - j.1.1 < 6 - 0/\VDi 2 (0 + 1) = VDi 2 j.1.1/\HDo a b (up2 g (2 + 0) (vF (tv g 2 + G2 (tv a 2 * tv b 0)).x) (vF (tv g 2 + G2 (tv a 2 * tv b 0)).y)) = HDo a b j.1.2) ?_ (by kernel_rfl)
     exact ⟨by rw [hA,h1];rfl,by rw [hB,h2];rfl,ha _ (by decide),ha _ (by decide),hb _ (by decide),hb _ (by decide),hg _ (by decide),hg _ (by decide),lV _,lV _,rfl,⟨(_,_),by simp only;omega,hg.up (lV _) (lV _),st_yes ht (by decide) ((G2_eq _).trans (by rw [G2_eq]))⟩,by simp only;omega,rfl,rfl⟩
    ·refine rQ mxd tK gDk 200 [⟨8,4,.lit (.bo true)⟩,⟨8,10,.lit (.bo false)⟩] ?_
     refine same (p:=(!qL [a 4,a 5] zL2) = true/\(!qL [b 0,b 1] zL2) = false/\true = true/\∃ j:{x // InvDi (tv a) (tv b) 2 x},6 - j.1.1 < 6 - 0/\VDi 2 (0 + 1) = VDi 2 j.1.1/\HDo a b g = HDo a b j.1.2) ?_ (by kernel_rfl)
     exact ⟨by rw [hA,h1];rfl,by rw [hB,h2];rfl,rfl,⟨(0 + 1,g),by simp only;omega,hg,st_no ht (by rw [show tv b 0 = 0 from z2_eq h2];exact cr_z _)⟩,by simp only;omega,rfl,rfl⟩
   ·refine rQ mxd tK gDk 200 [⟨8,4,.lit (.bo false)⟩] ?_
    refine same (p:=(!qL [a 4,a 5] zL2) = false/\true = true/\∃ j:{x // InvDi (tv a) (tv b) 2 x},6 - j.1.1 < 6 - 0/\VDi 2 (0 + 1) = VDi 2 j.1.1/\HDo a b g = HDo a b j.1.2) ?_ (by kernel_rfl)
    exact ⟨by rw [hA,h1];rfl,rfl,⟨(0 + 1,g),by simp only;omega,hg,st_no ht (by rw [show tv a 2 = 0 from z2_eq h1];exact cr_zl _)⟩,by simp only;omega,rfl,rfl⟩
  ·have hB:=qz (hb 2 (by decide)) (hb 3 (by decide))
   cases h1:z2 (gN (a 4)) (gN (a 5))
   ·cases h2:z2 (gN (b 2)) (gN (b 3))
    ·refine rQ mxd tK gDk 200 [⟨8,4,.lit (.bo true)⟩,⟨8,10,.lit (.bo true)⟩] ?_
     refine same (p:=(!qL [a 4,a 5] zL2) = true/\(!qL [b 2,b 3] zL2) = true/\lp (a 4)/\lp (a 5)/\lp (b 2)/\lp (b 3)/\lp (g 6)/\lp (g 7)/\lp (vF (tv a 2 * tv b 1).x)/\lp (vF (tv a 2 * tv b 1).y)/\true = true /\
      ∃ j:{x // InvDi (tv a) (tv b) 2 x},6 - j.1.1 < 6 - 1/\VDi 2 (1 + 1) = VDi 2 j.1.1/\HDo a b (up2 g (2 + 1) (vF (tv g 3 + G2 (tv a 2 * tv b 1)).x) (vF (tv g 3 + G2 (tv a 2 * tv b 1)).y)) = HDo a b j.1.2) ?_ (by kernel_rfl)
     exact ⟨by rw [hA,h1];rfl,by rw [hB,h2];rfl,ha _ (by decide),ha _ (by decide),hb _ (by decide),hb _ (by decide),hg _ (by decide),hg _ (by decide),lV _,lV _,rfl,⟨(_,_),by simp only;omega,hg.up (lV _) (lV _),st_yes ht (by decide) ((G2_eq _).trans (by rw [G2_eq]))⟩,by simp only;omega,rfl,rfl⟩
    ·refine rQ mxd tK gDk 200 [⟨8,4,.lit (.bo true)⟩,⟨8,10,.lit (.bo false)⟩] ?_
     refine same (p:=(!qL [a 4,a 5] zL2) = true/\(!qL [b 2,b 3] zL2) = false/\true = true/\∃ j:{x // InvDi (tv a) (tv b) 2 x},6 - j.1.1 < 6 - 1/\VDi 2 (1 + 1) = VDi 2 j.1.1/\HDo a b g = HDo a b j.1.2) ?_ (by kernel_rfl)
     exact ⟨by rw [hA,h1];rfl,by rw [hB,h2];rfl,rfl,⟨(1 + 1,g),by simp only;omega,hg,st_no ht (by rw [show tv b 1 = 0 from z2_eq h2];exact cr_z _)⟩,by simp only;omega,rfl,rfl⟩
   ·refine rQ mxd tK gDk 200 [⟨8,4,.lit (.bo false)⟩] ?_
    refine same (p:=(!qL [a 4,a 5] zL2) = false/\true = true/\∃ j:{x // InvDi (tv a) (tv b) 2 x},6 - j.1.1 < 6 - 1/\VDi 2 (1 + 1) = VDi 2 j.1.1/\HDo a b g = HDo a b j.1.2) ?_ (by kernel_rfl)
    exact ⟨by rw [hA,h1];rfl,rfl,⟨(1 + 1,g),by simp only;omega,hg,st_no ht (by rw [show tv a 2 = 0 from z2_eq h1];exact cr_zl _)⟩,by simp only;omega,rfl,rfl⟩
  ·have hB:=qz (hb 4 (by decide)) (hb 5 (by decide))
   cases h1:z2 (gN (a 4)) (gN (a 5))
   ·cases h2:z2 (gN (b 4)) (gN (b 5))
    ·refine rQ mxd tK gDk 200 [⟨8,4,.lit (.bo true)⟩,⟨8,10,.lit (.bo true)⟩] ?_
     refine same (p:=(!qL [a 4,a 5] zL2) = true/\(!qL [b 4,b 5] zL2) = true/\lp (a 4)/\lp (a 5)/\lp (b 4)/\lp (b 5)/\lp (g 8)/\lp (g 9)/\lp (vF (tv a 2 * tv b 2).x)/\lp (vF (tv a 2 * tv b 2).y)/\true = true /\
      ∃ j:{x // InvDi (tv a) (tv b) 2 x},6 - j.1.1 < 6 - 2/\VDi 2 (2 + 1) = VDi 2 j.1.1/\HDo a b (up2 g (2 + 2) (vF (tv g 4 + G2 (tv a 2 * tv b 2)).x) (vF (tv g 4 + G2 (tv a 2 * tv b 2)).y)) = HDo a b j.1.2) ?_ (by kernel_rfl)
     exact ⟨by rw [hA,h1];rfl,by rw [hB,h2];rfl,ha _ (by decide),ha _ (by decide),hb _ (by decide),hb _ (by decide),hg _ (by decide),hg _ (by decide),lV _,lV _,rfl,⟨(_,_),by simp only;omega,hg.up (lV _) (lV _),st_yes ht (by decide) ((G2_eq _).trans (by rw [G2_eq]))⟩,by simp only;omega,rfl,rfl⟩
    ·refine rQ mxd tK gDk 200 [⟨8,4,.lit (.bo true)⟩,⟨8,10,.lit (.bo false)⟩] ?_
     refine same (p:=(!qL [a 4,a 5] zL2) = true/\(!qL [b 4,b 5] zL2) = false/\true = true/\∃ j:{x // InvDi (tv a) (tv b) 2 x},6 - j.1.1 < 6 - 2/\VDi 2 (2 + 1) = VDi 2 j.1.1/\HDo a b g = HDo a b j.1.2) ?_ (by kernel_rfl)
     exact ⟨by rw [hA,h1];rfl,by rw [hB,h2];rfl,rfl,⟨(2 + 1,g),by simp only;omega,hg,st_no ht (by rw [show tv b 2 = 0 from z2_eq h2];exact cr_z _)⟩,by simp only;omega,rfl,rfl⟩
   ·refine rQ mxd tK gDk 200 [⟨8,4,.lit (.bo false)⟩] ?_
    refine same (p:=(!qL [a 4,a 5] zL2) = false/\true = true/\∃ j:{x // InvDi (tv a) (tv b) 2 x},6 - j.1.1 < 6 - 2/\VDi 2 (2 + 1) = VDi 2 j.1.1/\HDo a b g = HDo a b j.1.2) ?_ (by kernel_rfl)
    exact ⟨by rw [hA,h1];rfl,rfl,⟨(2 + 1,g),by simp only;omega,hg,st_no ht (by rw [show tv a 2 = 0 from z2_eq h1];exact cr_zl _)⟩,by simp only;omega,rfl,rfl⟩
  ·have hB:=qz (hb 6 (by decide)) (hb 7 (by decide))
   cases h1:z2 (gN (a 4)) (gN (a 5))
   ·cases h2:z2 (gN (b 6)) (gN (b 7))
    ·refine rQ mxd tK gDk 200 [⟨8,4,.lit (.bo true)⟩,⟨8,10,.lit (.bo true)⟩] ?_
     refine same (p:=(!qL [a 4,a 5] zL2) = true/\(!qL [b 6,b 7] zL2) = true/\lp (a 4)/\lp (a 5)/\lp (b 6)/\lp (b 7)/\lp (g 10)/\lp (g 11)/\lp (vF (tv a 2 * tv b 3).x)/\lp (vF (tv a 2 * tv b 3).y)/\true = true /\
      ∃ j:{x // InvDi (tv a) (tv b) 2 x},6 - j.1.1 < 6 - 3/\VDi 2 (3 + 1) = VDi 2 j.1.1/\HDo a b (up2 g (2 + 3) (vF (tv g 5 + G2 (tv a 2 * tv b 3)).x) (vF (tv g 5 + G2 (tv a 2 * tv b 3)).y)) = HDo a b j.1.2) ?_ (by kernel_rfl)
     exact ⟨by rw [hA,h1];rfl,by rw [hB,h2];rfl,ha _ (by decide),ha _ (by decide),hb _ (by decide),hb _ (by decide),hg _ (by decide),hg _ (by decide),lV _,lV _,rfl,⟨(_,_),by simp only;omega,hg.up (lV _) (lV _),st_yes ht (by decide) ((G2_eq _).trans (by rw [G2_eq]))⟩,by simp only;omega,rfl,rfl⟩
    ·refine rQ mxd tK gDk 200 [⟨8,4,.lit (.bo true)⟩,⟨8,10,.lit (.bo false)⟩] ?_
     refine same (p:=(!qL [a 4,a 5] zL2) = true/\(!qL [b 6,b 7] zL2) = false/\true = true/\∃ j:{x // InvDi (tv a) (tv b) 2 x},6 - j.1.1 < 6 - 3/\VDi 2 (3 + 1) = VDi 2 j.1.1/\HDo a b g = HDo a b j.1.2) ?_ (by kernel_rfl)
     exact ⟨by rw [hA,h1];rfl,by rw [hB,h2];rfl,rfl,⟨(3 + 1,g),by simp only;omega,hg,st_no ht (by rw [show tv b 3 = 0 from z2_eq h2];exact cr_z _)⟩,by simp only;omega,rfl,rfl⟩
   ·refine rQ mxd tK gDk 200 [⟨8,4,.lit (.bo false)⟩] ?_
    refine same (p:=(!qL [a 4,a 5] zL2) = false/\true = true/\∃ j:{x // InvDi (tv a) (tv b) 2 x},6 - j.1.1 < 6 - 3/\VDi 2 (3 + 1) = VDi 2 j.1.1/\HDo a b g = HDo a b j.1.2) ?_ (by kernel_rfl)
    exact ⟨by rw [hA,h1];rfl,rfl,⟨(3 + 1,g),by simp only;omega,hg,st_no ht (by rw [show tv a 2 = 0 from z2_eq h1];exact cr_zl _)⟩,by simp only;omega,rfl,rfl⟩
  ·have hB:=qz (hb 8 (by decide)) (hb 9 (by decide))
   cases h1:z2 (gN (a 4)) (gN (a 5))
   ·cases h2:z2 (gN (b 8)) (gN (b 9))
    ·refine rQ mxd tK gDk 200 [⟨8,4,.lit (.bo true)⟩,⟨8,10,.lit (.bo true)⟩] ?_
     refine same (p:=(!qL [a 4,a 5] zL2) = true/\(!qL [b 8,b 9] zL2) = true/\lp (a 4)/\lp (a 5)/\lp (b 8)/\lp (b 9)/\lp (g 12)/\lp (g 13)/\lp (vF (tv a 2 * tv b 4).x)/\lp (vF (tv a 2 * tv b 4).y)/\true = true /\
      ∃ j:{x // InvDi (tv a) (tv b) 2 x},6 - j.1.1 < 6 - 4/\VDi 2 (4 + 1) = VDi 2 j.1.1/\HDo a b (up2 g (2 + 4) (vF (tv g 6 + G2 (tv a 2 * tv b 4)).x) (vF (tv g 6 + G2 (tv a 2 * tv b 4)).y)) = HDo a b j.1.2) ?_ (by kernel_rfl)
     exact ⟨by rw [hA,h1];rfl,by rw [hB,h2];rfl,ha _ (by decide),ha _ (by decide),hb _ (by decide),hb _ (by decide),hg _ (by decide),hg _ (by decide),lV _,lV _,rfl,⟨(_,_),by simp only;omega,hg.up (lV _) (lV _),st_yes ht (by decide) ((G2_eq _).trans (by rw [G2_eq]))⟩,by simp only;omega,rfl,rfl⟩
    ·refine rQ mxd tK gDk 200 [⟨8,4,.lit (.bo true)⟩,⟨8,10,.lit (.bo false)⟩] ?_
     refine same (p:=(!qL [a 4,a 5] zL2) = true/\(!qL [b 8,b 9] zL2) = false/\true = true/\∃ j:{x // InvDi (tv a) (tv b) 2 x},6 - j.1.1 < 6 - 4/\VDi 2 (4 + 1) = VDi 2 j.1.1/\HDo a b g = HDo a b j.1.2) ?_ (by kernel_rfl)
     exact ⟨by rw [hA,h1];rfl,by rw [hB,h2];rfl,rfl,⟨(4 + 1,g),by simp only;omega,hg,st_no ht (by rw [show tv b 4 = 0 from z2_eq h2];exact cr_z _)⟩,by simp only;omega,rfl,rfl⟩
   ·refine rQ mxd tK gDk 200 [⟨8,4,.lit (.bo false)⟩] ?_
    refine same (p:=(!qL [a 4,a 5] zL2) = false/\true = true/\∃ j:{x // InvDi (tv a) (tv b) 2 x},6 - j.1.1 < 6 - 4/\VDi 2 (4 + 1) = VDi 2 j.1.1/\HDo a b g = HDo a b j.1.2) ?_ (by kernel_rfl)
    exact ⟨by rw [hA,h1];rfl,rfl,⟨(4 + 1,g),by simp only;omega,hg,st_no ht (by rw [show tv a 2 = 0 from z2_eq h1];exact cr_zl _)⟩,by simp only;omega,rfl,rfl⟩
  ·have hB:=qz (hb 10 (by decide)) (hb 11 (by decide))
   cases h1:z2 (gN (a 4)) (gN (a 5))
   ·cases h2:z2 (gN (b 10)) (gN (b 11))
    ·refine rQ mxd tK gDk 200 [⟨8,4,.lit (.bo true)⟩,⟨8,10,.lit (.bo true)⟩] ?_
     refine same (p:=(!qL [a 4,a 5] zL2) = true/\(!qL [b 10,b 11] zL2) = true/\lp (a 4)/\lp (a 5)/\lp (b 10)/\lp (b 11)/\lp (g 14)/\lp (g 15)/\lp (vF (tv a 2 * tv b 5).x)/\lp (vF (tv a 2 * tv b 5).y)/\true = true /\
      ∃ j:{x // InvDi (tv a) (tv b) 2 x},6 - j.1.1 < 6 - 5/\VDi 2 (5 + 1) = VDi 2 j.1.1/\HDo a b (up2 g (2 + 5) (vF (tv g 7 + G2 (tv a 2 * tv b 5)).x) (vF (tv g 7 + G2 (tv a 2 * tv b 5)).y)) = HDo a b j.1.2) ?_ (by kernel_rfl)
     exact ⟨by rw [hA,h1];rfl,by rw [hB,h2];rfl,ha _ (by decide),ha _ (by decide),hb _ (by decide),hb _ (by decide),hg _ (by decide),hg _ (by decide),lV _,lV _,rfl,⟨(_,_),by simp only;omega,hg.up (lV _) (lV _),st_yes ht (by decide) ((G2_eq _).trans (by rw [G2_eq]))⟩,by simp only;omega,rfl,rfl⟩
    ·refine rQ mxd tK gDk 200 [⟨8,4,.lit (.bo true)⟩,⟨8,10,.lit (.bo false)⟩] ?_
     refine same (p:=(!qL [a 4,a 5] zL2) = true/\(!qL [b 10,b 11] zL2) = false/\true = true/\∃ j:{x // InvDi (tv a) (tv b) 2 x},6 - j.1.1 < 6 - 5/\VDi 2 (5 + 1) = VDi 2 j.1.1/\HDo a b g = HDo a b j.1.2) ?_ (by kernel_rfl)
     exact ⟨by rw [hA,h1];rfl,by rw [hB,h2];rfl,rfl,⟨(5 + 1,g),by simp only;omega,hg,st_no ht (by rw [show tv b 5 = 0 from z2_eq h2];exact cr_z _)⟩,by simp only;omega,rfl,rfl⟩
   ·refine rQ mxd tK gDk 200 [⟨8,4,.lit (.bo false)⟩] ?_
    refine same (p:=(!qL [a 4,a 5] zL2) = false/\true = true/\∃ j:{x // InvDi (tv a) (tv b) 2 x},6 - j.1.1 < 6 - 5/\VDi 2 (5 + 1) = VDi 2 j.1.1/\HDo a b g = HDo a b j.1.2) ?_ (by kernel_rfl)
    exact ⟨by rw [hA,h1];rfl,rfl,⟨(5 + 1,g),by simp only;omega,hg,st_no ht (by rw [show tv a 2 = 0 from z2_eq h1];exact cr_zl _)⟩,by simp only;omega,rfl,rfl⟩
  ·refine rQ mxd tK gDk 100 [] ?_
   refine same (p:=true = true/\∃ j:{x // InvDi (tv a) (tv b) 2 x},j.1.1 = 6/\VDi 2 6 = VDi 2 j.1.1/\HDo a b g = HDo a b j.1.2) ?_ (by kernel_rfl)
   exact ⟨rfl,⟨(6,g),hk,hg,ht⟩,rfl,rfl,rfl⟩
 ·intro ⟨⟨k,g⟩,hk,hg,ht⟩ junk h66
  simp only at hk hg ht h66
  subst h66
  refine same (p:=true = true/\∃ j:{x // InvDo (tv a) (tv b) x},6 - j.1.1 < 6 - 2/\VDo (2 + 1) = VDo j.1.1/\HDo a b g = HDo a b j.1.2) ?_ (by kernel_rfl)
  exact ⟨rfl,⟨(2 + 1,g),by simp only;omega,hg,ht⟩,by simp only;omega,rfl,rfl⟩
theorem mulI3 {a b:Nat->Nat->Nat} (ha:LtN 12 a) (hb:LtN 12 b) {g:Nat->Nat->Nat} (hg:LtN 22 g) (ht:∀ j,j < 11->tv g j = cout (tv a) (tv b) 3 j) {Q:Exit->AS->Prop} (junk:Nat->Value) :
  AWq Tryz.prog (fun _=>False) (loopOf (atK 0 (flatC (bodyOf Tryz.f44)))) (RoundE (loopId (atK 0 (flatC (bodyOf Tryz.f44)))) [2,3,4,5,6] 79 4 (fun x:{x // InvDo (tv a) (tv b) x}=>VDo x.1.1) (fun x=>HDo a b x.1.2) (fun x=>6 - x.1.1) ⟨(3,g),by simp,hg,ht⟩ (fun x=>x.1.1 = 6) Q) ⟨mkT [2,3,4,5,6] (VDo 3) 79 junk,HDo a b g⟩:=by
 refine nestF mxd tK gDk (l:=flatC (loopOf (atL (flatC (bodyOf Tryz.f44))))) (lB:=flatC (blkOf (atB (flatC (loopOf (atL (flatC (bodyOf Tryz.f44)))))))) (by kernel_rfl) rfl (by kernel_rfl) rfl
  (ι:={x // InvDi (tv a) (tv b) 3 x}) [2,3,4,5,6,7] 79 4 (fun x=>VDi 3 x.1.1) (fun x=>HDo a b x.1.2) (fun x=>6 - x.1.1) (fun x=>x.1.1 = 6)
  (fun _=>rfl) (fun _=>by kernel_rfl) (fun _ _ h=>h.elim) 200 [] [] [] ?_ ?_ ?_
 ·refine same (p:=true = true/\∃ j:{x // InvDi (tv a) (tv b) 3 x},VDi 3 0 = VDi 3 j.1.1/\HDo a b g = HDo a b j.1.2) ?_ (by kernel_rfl)
  exact ⟨rfl,⟨(0,g),by simp,hg,ht⟩,rfl,rfl⟩
 ·intro ⟨⟨k,g⟩,hk,hg,ht⟩ junk
  simp only at hk hg ht
  have hA:=qz (ha 6 (by decide)) (ha 7 (by decide))
  rcases (show k = 0∨k = 1∨k = 2∨k = 3∨k = 4∨k = 5∨k = 6 by omega) with rfl | rfl | rfl | rfl | rfl | rfl | rfl
  ·have hB:=qz (hb 0 (by decide)) (hb 1 (by decide))
   cases h1:z2 (gN (a 6)) (gN (a 7))
   ·cases h2:z2 (gN (b 0)) (gN (b 1))
    ·refine rQ mxd tK gDk 200 [⟨8,4,.lit (.bo true)⟩,⟨8,10,.lit (.bo true)⟩] ?_
     refine same (p:=(!qL [a 6,a 7] zL2) = true/\(!qL [b 0,b 1] zL2) = true/\lp (a 6)/\lp (a 7)/\lp (b 0)/\lp (b 1)/\lp (g 6)/\lp (g 7)/\lp (vF (tv a 3 * tv b 0).x)/\lp (vF (tv a 3 * tv b 0).y)/\true = true /\
      ∃ j:{x // InvDi (tv a) (tv b) 3 x},6 - j.1.1 < 6 - 0/\VDi 3 (0 + 1) = VDi 3 j.1.1/\HDo a b (up2 g (3 + 0) (vF (tv g 3 + G2 (tv a 3 * tv b 0)).x) (vF (tv g 3 + G2 (tv a 3 * tv b 0)).y)) = HDo a b j.1.2) ?_ (by kernel_rfl)
     exact ⟨by rw [hA,h1];rfl,by rw [hB,h2];rfl,ha _ (by decide),ha _ (by decide),hb _ (by decide),hb _ (by decide),hg _ (by decide),hg _ (by decide),lV _,lV _,rfl,⟨(_,_),by simp only;omega,hg.up (lV _) (lV _),st_yes ht (by decide) ((G2_eq _).trans (by rw [G2_eq]))⟩,by simp only;omega,rfl,rfl⟩
    ·refine rQ mxd tK gDk 200 [⟨8,4,.lit (.bo true)⟩,⟨8,10,.lit (.bo false)⟩] ?_
     refine same (p:=(!qL [a 6,a 7] zL2) = true/\(!qL [b 0,b 1] zL2) = false/\true = true/\∃ j:{x // InvDi (tv a) (tv b) 3 x},6 - j.1.1 < 6 - 0/\VDi 3 (0 + 1) = VDi 3 j.1.1/\HDo a b g = HDo a b j.1.2) ?_ (by kernel_rfl)
     exact ⟨by rw [hA,h1];rfl,by rw [hB,h2];rfl,rfl,⟨(0 + 1,g),by simp only;omega,hg,st_no ht (by rw [show tv b 0 = 0 from z2_eq h2];exact cr_z _)⟩,by simp only;omega,rfl,rfl⟩
   ·refine rQ mxd tK gDk 200 [⟨8,4,.lit (.bo false)⟩] ?_
    refine same (p:=(!qL [a 6,a 7] zL2) = false/\true = true/\∃ j:{x // InvDi (tv a) (tv b) 3 x},6 - j.1.1 < 6 - 0/\VDi 3 (0 + 1) = VDi 3 j.1.1/\HDo a b g = HDo a b j.1.2) ?_ (by kernel_rfl)
    exact ⟨by rw [hA,h1];rfl,rfl,⟨(0 + 1,g),by simp only;omega,hg,st_no ht (by rw [show tv a 3 = 0 from z2_eq h1];exact cr_zl _)⟩,by simp only;omega,rfl,rfl⟩
  ·have hB:=qz (hb 2 (by decide)) (hb 3 (by decide))
   cases h1:z2 (gN (a 6)) (gN (a 7))
   ·cases h2:z2 (gN (b 2)) (gN (b 3))
    ·refine rQ mxd tK gDk 200 [⟨8,4,.lit (.bo true)⟩,⟨8,10,.lit (.bo true)⟩] ?_
     refine same (p:=(!qL [a 6,a 7] zL2) = true/\(!qL [b 2,b 3] zL2) = true/\lp (a 6)/\lp (a 7)/\lp (b 2)/\lp (b 3)/\lp (g 8)/\lp (g 9)/\lp (vF (tv a 3 * tv b 1).x)/\lp (vF (tv a 3 * tv b 1).y)/\true = true /\
      ∃ j:{x // InvDi (tv a) (tv b) 3 x},6 - j.1.1 < 6 - 1/\VDi 3 (1 + 1) = VDi 3 j.1.1/\HDo a b (up2 g (3 + 1) (vF (tv g 4 + G2 (tv a 3 * tv b 1)).x) (vF (tv g 4 + G2 (tv a 3 * tv b 1)).y)) = HDo a b j.1.2) ?_ (by kernel_rfl)
     exact ⟨by rw [hA,h1];rfl,by rw [hB,h2];rfl,ha _ (by decide),ha _ (by decide),hb _ (by decide),hb _ (by decide),hg _ (by decide),hg _ (by decide),lV _,lV _,rfl,⟨(_,_),by simp only;omega,hg.up (lV _) (lV _),st_yes ht (by decide) ((G2_eq _).trans (by rw [G2_eq]))⟩,by simp only;omega,rfl,rfl⟩
    ·refine rQ mxd tK gDk 200 [⟨8,4,.lit (.bo true)⟩,⟨8,10,.lit (.bo false)⟩] ?_
     refine same (p:=(!qL [a 6,a 7] zL2) = true/\(!qL [b 2,b 3] zL2) = false/\true = true/\∃ j:{x // InvDi (tv a) (tv b) 3 x},6 - j.1.1 < 6 - 1/\VDi 3 (1 + 1) = VDi 3 j.1.1/\HDo a b g = HDo a b j.1.2) ?_ (by kernel_rfl)
     exact ⟨by rw [hA,h1];rfl,by rw [hB,h2];rfl,rfl,⟨(1 + 1,g),by simp only;omega,hg,st_no ht (by rw [show tv b 1 = 0 from z2_eq h2];exact cr_z _)⟩,by simp only;omega,rfl,rfl⟩
   ·refine rQ mxd tK gDk 200 [⟨8,4,.lit (.bo false)⟩] ?_
    refine same (p:=(!qL [a 6,a 7] zL2) = false/\true = true/\∃ j:{x // InvDi (tv a) (tv b) 3 x},6 - j.1.1 < 6 - 1/\VDi 3 (1 + 1) = VDi 3 j.1.1/\HDo a b g = HDo a b j.1.2) ?_ (by kernel_rfl)
    exact ⟨by rw [hA,h1];rfl,rfl,⟨(1 + 1,g),by simp only;omega,hg,st_no ht (by rw [show tv a 3 = 0 from z2_eq h1];exact cr_zl _)⟩,by simp only;omega,rfl,rfl⟩
  ·have hB:=qz (hb 4 (by decide)) (hb 5 (by decide))
   cases h1:z2 (gN (a 6)) (gN (a 7))
   ·cases h2:z2 (gN (b 4)) (gN (b 5))
    ·refine rQ mxd tK gDk 200 [⟨8,4,.lit (.bo true)⟩,⟨8,10,.lit (.bo true)⟩] ?_
     refine same (p:=(!qL [a 6,a 7] zL2) = true/\(!qL [b 4,b 5] zL2) = true/\lp (a 6)/\lp (a 7)/\lp (b 4)/\lp (b 5)/\lp (g 10)/\lp (g 11)/\lp (vF (tv a 3 * tv b 2).x)/\lp (vF (tv a 3 * tv b 2).y)/\true = true /\
      ∃ j:{x // InvDi (tv a) (tv b) 3 x},6 - j.1.1 < 6 - 2/\VDi 3 (2 + 1) = VDi 3 j.1.1/\HDo a b (up2 g (3 + 2) (vF (tv g 5 + G2 (tv a 3 * tv b 2)).x) (vF (tv g 5 + G2 (tv a 3 * tv b 2)).y)) = HDo a b j.1.2) ?_ (by kernel_rfl)
     exact ⟨by rw [hA,h1];rfl,by rw [hB,h2];rfl,ha _ (by decide),ha _ (by decide),hb _ (by decide),hb _ (by decide),hg _ (by decide),hg _ (by decide),lV _,lV _,rfl,⟨(_,_),by simp only;omega,hg.up (lV _) (lV _),st_yes ht (by decide) ((G2_eq _).trans (by rw [G2_eq]))⟩,by simp only;omega,rfl,rfl⟩
    ·refine rQ mxd tK gDk 200 [⟨8,4,.lit (.bo true)⟩,⟨8,10,.lit (.bo false)⟩] ?_
     refine same (p:=(!qL [a 6,a 7] zL2) = true/\(!qL [b 4,b 5] zL2) = false/\true = true/\∃ j:{x // InvDi (tv a) (tv b) 3 x},6 - j.1.1 < 6 - 2/\VDi 3 (2 + 1) = VDi 3 j.1.1/\HDo a b g = HDo a b j.1.2) ?_ (by kernel_rfl)
     exact ⟨by rw [hA,h1];rfl,by rw [hB,h2];rfl,rfl,⟨(2 + 1,g),by simp only;omega,hg,st_no ht (by rw [show tv b 2 = 0 from z2_eq h2];exact cr_z _)⟩,by simp only;omega,rfl,rfl⟩
   ·refine rQ mxd tK gDk 200 [⟨8,4,.lit (.bo false)⟩] ?_
    refine same (p:=(!qL [a 6,a 7] zL2) = false/\true = true/\∃ j:{x // InvDi (tv a) (tv b) 3 x},6 - j.1.1 < 6 - 2/\VDi 3 (2 + 1) = VDi 3 j.1.1/\HDo a b g = HDo a b j.1.2) ?_ (by kernel_rfl)
    exact ⟨by rw [hA,h1];rfl,rfl,⟨(2 + 1,g),by simp only;omega,hg,st_no ht (by rw [show tv a 3 = 0 from z2_eq h1];exact cr_zl _)⟩,by simp only;omega,rfl,rfl⟩
  ·have hB:=qz (hb 6 (by decide)) (hb 7 (by decide))
   cases h1:z2 (gN (a 6)) (gN (a 7))
   ·cases h2:z2 (gN (b 6)) (gN (b 7))
    ·refine rQ mxd tK gDk 200 [⟨8,4,.lit (.bo true)⟩,⟨8,10,.lit (.bo true)⟩] ?_
     refine same (p:=(!qL [a 6,a 7] zL2) = true/\(!qL [b 6,b 7] zL2) = true/\lp (a 6)/\lp (a 7)/\lp (b 6)/\lp (b 7)/\lp (g 12)/\lp (g 13)/\lp (vF (tv a 3 * tv b 3).x)/\lp (vF (tv a 3 * tv b 3).y)/\true = true /\
      ∃ j:{x // InvDi (tv a) (tv b) 3 x},6 - j.1.1 < 6 - 3/\VDi 3 (3 + 1) = VDi 3 j.1.1/\HDo a b (up2 g (3 + 3) (vF (tv g 6 + G2 (tv a 3 * tv b 3)).x) (vF (tv g 6 + G2 (tv a 3 * tv b 3)).y)) = HDo a b j.1.2) ?_ (by kernel_rfl)
     exact ⟨by rw [hA,h1];rfl,by rw [hB,h2];rfl,ha _ (by decide),ha _ (by decide),hb _ (by decide),hb _ (by decide),hg _ (by decide),hg _ (by decide),lV _,lV _,rfl,⟨(_,_),by simp only;omega,hg.up (lV _) (lV _),st_yes ht (by decide) ((G2_eq _).trans (by rw [G2_eq]))⟩,by simp only;omega,rfl,rfl⟩
    ·refine rQ mxd tK gDk 200 [⟨8,4,.lit (.bo true)⟩,⟨8,10,.lit (.bo false)⟩] ?_
     refine same (p:=(!qL [a 6,a 7] zL2) = true/\(!qL [b 6,b 7] zL2) = false/\true = true/\∃ j:{x // InvDi (tv a) (tv b) 3 x},6 - j.1.1 < 6 - 3/\VDi 3 (3 + 1) = VDi 3 j.1.1/\HDo a b g = HDo a b j.1.2) ?_ (by kernel_rfl)
     exact ⟨by rw [hA,h1];rfl,by rw [hB,h2];rfl,rfl,⟨(3 + 1,g),by simp only;omega,hg,st_no ht (by rw [show tv b 3 = 0 from z2_eq h2];exact cr_z _)⟩,by simp only;omega,rfl,rfl⟩
   ·refine rQ mxd tK gDk 200 [⟨8,4,.lit (.bo false)⟩] ?_
    refine same (p:=(!qL [a 6,a 7] zL2) = false/\true = true/\∃ j:{x // InvDi (tv a) (tv b) 3 x},6 - j.1.1 < 6 - 3/\VDi 3 (3 + 1) = VDi 3 j.1.1/\HDo a b g = HDo a b j.1.2) ?_ (by kernel_rfl)
    exact ⟨by rw [hA,h1];rfl,rfl,⟨(3 + 1,g),by simp only;omega,hg,st_no ht (by rw [show tv a 3 = 0 from z2_eq h1];exact cr_zl _)⟩,by simp only;omega,rfl,rfl⟩
  ·have hB:=qz (hb 8 (by decide)) (hb 9 (by decide))
   cases h1:z2 (gN (a 6)) (gN (a 7))
   ·cases h2:z2 (gN (b 8)) (gN (b 9))
    ·refine rQ mxd tK gDk 200 [⟨8,4,.lit (.bo true)⟩,⟨8,10,.lit (.bo true)⟩] ?_
     refine same (p:=(!qL [a 6,a 7] zL2) = true/\(!qL [b 8,b 9] zL2) = true/\lp (a 6)/\lp (a 7)/\lp (b 8)/\lp (b 9)/\lp (g 14)/\lp (g 15)/\lp (vF (tv a 3 * tv b 4).x)/\lp (vF (tv a 3 * tv b 4).y)/\true = true /\
      ∃ j:{x // InvDi (tv a) (tv b) 3 x},6 - j.1.1 < 6 - 4/\VDi 3 (4 + 1) = VDi 3 j.1.1/\HDo a b (up2 g (3 + 4) (vF (tv g 7 + G2 (tv a 3 * tv b 4)).x) (vF (tv g 7 + G2 (tv a 3 * tv b 4)).y)) = HDo a b j.1.2) ?_ (by kernel_rfl)
     exact ⟨by rw [hA,h1];rfl,by rw [hB,h2];rfl,ha _ (by decide),ha _ (by decide),hb _ (by decide),hb _ (by decide),hg _ (by decide),hg _ (by decide),lV _,lV _,rfl,⟨(_,_),by simp only;omega,hg.up (lV _) (lV _),st_yes ht (by decide) ((G2_eq _).trans (by rw [G2_eq]))⟩,by simp only;omega,rfl,rfl⟩
    ·refine rQ mxd tK gDk 200 [⟨8,4,.lit (.bo true)⟩,⟨8,10,.lit (.bo false)⟩] ?_
     refine same (p:=(!qL [a 6,a 7] zL2) = true/\(!qL [b 8,b 9] zL2) = false/\true = true/\∃ j:{x // InvDi (tv a) (tv b) 3 x},6 - j.1.1 < 6 - 4/\VDi 3 (4 + 1) = VDi 3 j.1.1/\HDo a b g = HDo a b j.1.2) ?_ (by kernel_rfl)
     exact ⟨by rw [hA,h1];rfl,by rw [hB,h2];rfl,rfl,⟨(4 + 1,g),by simp only;omega,hg,st_no ht (by rw [show tv b 4 = 0 from z2_eq h2];exact cr_z _)⟩,by simp only;omega,rfl,rfl⟩
   ·refine rQ mxd tK gDk 200 [⟨8,4,.lit (.bo false)⟩] ?_
    refine same (p:=(!qL [a 6,a 7] zL2) = false/\true = true/\∃ j:{x // InvDi (tv a) (tv b) 3 x},6 - j.1.1 < 6 - 4/\VDi 3 (4 + 1) = VDi 3 j.1.1/\HDo a b g = HDo a b j.1.2) ?_ (by kernel_rfl)
    exact ⟨by rw [hA,h1];rfl,rfl,⟨(4 + 1,g),by simp only;omega,hg,st_no ht (by rw [show tv a 3 = 0 from z2_eq h1];exact cr_zl _)⟩,by simp only;omega,rfl,rfl⟩
  ·have hB:=qz (hb 10 (by decide)) (hb 11 (by decide))
   cases h1:z2 (gN (a 6)) (gN (a 7))
   ·cases h2:z2 (gN (b 10)) (gN (b 11))
    ·refine rQ mxd tK gDk 200 [⟨8,4,.lit (.bo true)⟩,⟨8,10,.lit (.bo true)⟩] ?_
     refine same (p:=(!qL [a 6,a 7] zL2) = true/\(!qL [b 10,b 11] zL2) = true/\lp (a 6)/\lp (a 7)/\lp (b 10)/\lp (b 11)/\lp (g 16)/\lp (g 17)/\lp (vF (tv a 3 * tv b 5).x)/\lp (vF (tv a 3 * tv b 5).y)/\true = true /\
      ∃ j:{x // InvDi (tv a) (tv b) 3 x},6 - j.1.1 < 6 - 5/\VDi 3 (5 + 1) = VDi 3 j.1.1/\HDo a b (up2 g (3 + 5) (vF (tv g 8 + G2 (tv a 3 * tv b 5)).x) (vF (tv g 8 + G2 (tv a 3 * tv b 5)).y)) = HDo a b j.1.2) ?_ (by kernel_rfl)
     exact ⟨by rw [hA,h1];rfl,by rw [hB,h2];rfl,ha _ (by decide),ha _ (by decide),hb _ (by decide),hb _ (by decide),hg _ (by decide),hg _ (by decide),lV _,lV _,rfl,⟨(_,_),by simp only;omega,hg.up (lV _) (lV _),st_yes ht (by decide) ((G2_eq _).trans (by rw [G2_eq]))⟩,by simp only;omega,rfl,rfl⟩
    ·refine rQ mxd tK gDk 200 [⟨8,4,.lit (.bo true)⟩,⟨8,10,.lit (.bo false)⟩] ?_
     refine same (p:=(!qL [a 6,a 7] zL2) = true/\(!qL [b 10,b 11] zL2) = false/\true = true/\∃ j:{x // InvDi (tv a) (tv b) 3 x},6 - j.1.1 < 6 - 5/\VDi 3 (5 + 1) = VDi 3 j.1.1/\HDo a b g = HDo a b j.1.2) ?_ (by kernel_rfl)
     exact ⟨by rw [hA,h1];rfl,by rw [hB,h2];rfl,rfl,⟨(5 + 1,g),by simp only;omega,hg,st_no ht (by rw [show tv b 5 = 0 from z2_eq h2];exact cr_z _)⟩,by simp only;omega,rfl,rfl⟩
   ·refine rQ mxd tK gDk 200 [⟨8,4,.lit (.bo false)⟩] ?_
    refine same (p:=(!qL [a 6,a 7] zL2) = false/\true = true/\∃ j:{x // InvDi (tv a) (tv b) 3 x},6 - j.1.1 < 6 - 5/\VDi 3 (5 + 1) = VDi 3 j.1.1/\HDo a b g = HDo a b j.1.2) ?_ (by kernel_rfl)
    exact ⟨by rw [hA,h1];rfl,rfl,⟨(5 + 1,g),by simp only;omega,hg,st_no ht (by rw [show tv a 3 = 0 from z2_eq h1];exact cr_zl _)⟩,by simp only;omega,rfl,rfl⟩
  ·refine rQ mxd tK gDk 100 [] ?_
   refine same (p:=true = true/\∃ j:{x // InvDi (tv a) (tv b) 3 x},j.1.1 = 6/\VDi 3 6 = VDi 3 j.1.1/\HDo a b g = HDo a b j.1.2) ?_ (by kernel_rfl)
   exact ⟨rfl,⟨(6,g),hk,hg,ht⟩,rfl,rfl,rfl⟩
 ·intro ⟨⟨k,g⟩,hk,hg,ht⟩ junk h66
  simp only at hk hg ht h66
  subst h66
  refine same (p:=true = true/\∃ j:{x // InvDo (tv a) (tv b) x},6 - j.1.1 < 6 - 3/\VDo (3 + 1) = VDo j.1.1/\HDo a b g = HDo a b j.1.2) ?_ (by kernel_rfl)
  exact ⟨rfl,⟨(3 + 1,g),by simp only;omega,hg,ht⟩,by simp only;omega,rfl,rfl⟩
theorem mulI4 {a b:Nat->Nat->Nat} (ha:LtN 12 a) (hb:LtN 12 b) {g:Nat->Nat->Nat} (hg:LtN 22 g) (ht:∀ j,j < 11->tv g j = cout (tv a) (tv b) 4 j) {Q:Exit->AS->Prop} (junk:Nat->Value) :
  AWq Tryz.prog (fun _=>False) (loopOf (atK 0 (flatC (bodyOf Tryz.f44)))) (RoundE (loopId (atK 0 (flatC (bodyOf Tryz.f44)))) [2,3,4,5,6] 79 4 (fun x:{x // InvDo (tv a) (tv b) x}=>VDo x.1.1) (fun x=>HDo a b x.1.2) (fun x=>6 - x.1.1) ⟨(4,g),by simp,hg,ht⟩ (fun x=>x.1.1 = 6) Q) ⟨mkT [2,3,4,5,6] (VDo 4) 79 junk,HDo a b g⟩:=by
 refine nestF mxd tK gDk (l:=flatC (loopOf (atL (flatC (bodyOf Tryz.f44))))) (lB:=flatC (blkOf (atB (flatC (loopOf (atL (flatC (bodyOf Tryz.f44)))))))) (by kernel_rfl) rfl (by kernel_rfl) rfl
  (ι:={x // InvDi (tv a) (tv b) 4 x}) [2,3,4,5,6,7] 79 4 (fun x=>VDi 4 x.1.1) (fun x=>HDo a b x.1.2) (fun x=>6 - x.1.1) (fun x=>x.1.1 = 6)
  (fun _=>rfl) (fun _=>by kernel_rfl) (fun _ _ h=>h.elim) 200 [] [] [] ?_ ?_ ?_
 ·refine same (p:=true = true/\∃ j:{x // InvDi (tv a) (tv b) 4 x},VDi 4 0 = VDi 4 j.1.1/\HDo a b g = HDo a b j.1.2) ?_ (by kernel_rfl)
  exact ⟨rfl,⟨(0,g),by simp,hg,ht⟩,rfl,rfl⟩
 ·intro ⟨⟨k,g⟩,hk,hg,ht⟩ junk
  simp only at hk hg ht
  have hA:=qz (ha 8 (by decide)) (ha 9 (by decide))
  rcases (show k = 0∨k = 1∨k = 2∨k = 3∨k = 4∨k = 5∨k = 6 by omega) with rfl | rfl | rfl | rfl | rfl | rfl | rfl
  ·have hB:=qz (hb 0 (by decide)) (hb 1 (by decide))
   cases h1:z2 (gN (a 8)) (gN (a 9))
   ·cases h2:z2 (gN (b 0)) (gN (b 1))
    ·refine rQ mxd tK gDk 200 [⟨8,4,.lit (.bo true)⟩,⟨8,10,.lit (.bo true)⟩] ?_
     refine same (p:=(!qL [a 8,a 9] zL2) = true/\(!qL [b 0,b 1] zL2) = true/\lp (a 8)/\lp (a 9)/\lp (b 0)/\lp (b 1)/\lp (g 8)/\lp (g 9)/\lp (vF (tv a 4 * tv b 0).x)/\lp (vF (tv a 4 * tv b 0).y)/\true = true /\
      ∃ j:{x // InvDi (tv a) (tv b) 4 x},6 - j.1.1 < 6 - 0/\VDi 4 (0 + 1) = VDi 4 j.1.1/\HDo a b (up2 g (4 + 0) (vF (tv g 4 + G2 (tv a 4 * tv b 0)).x) (vF (tv g 4 + G2 (tv a 4 * tv b 0)).y)) = HDo a b j.1.2) ?_ (by kernel_rfl)
     exact ⟨by rw [hA,h1];rfl,by rw [hB,h2];rfl,ha _ (by decide),ha _ (by decide),hb _ (by decide),hb _ (by decide),hg _ (by decide),hg _ (by decide),lV _,lV _,rfl,⟨(_,_),by simp only;omega,hg.up (lV _) (lV _),st_yes ht (by decide) ((G2_eq _).trans (by rw [G2_eq]))⟩,by simp only;omega,rfl,rfl⟩
    ·refine rQ mxd tK gDk 200 [⟨8,4,.lit (.bo true)⟩,⟨8,10,.lit (.bo false)⟩] ?_
     refine same (p:=(!qL [a 8,a 9] zL2) = true/\(!qL [b 0,b 1] zL2) = false/\true = true/\∃ j:{x // InvDi (tv a) (tv b) 4 x},6 - j.1.1 < 6 - 0/\VDi 4 (0 + 1) = VDi 4 j.1.1/\HDo a b g = HDo a b j.1.2) ?_ (by kernel_rfl)
     exact ⟨by rw [hA,h1];rfl,by rw [hB,h2];rfl,rfl,⟨(0 + 1,g),by simp only;omega,hg,st_no ht (by rw [show tv b 0 = 0 from z2_eq h2];exact cr_z _)⟩,by simp only;omega,rfl,rfl⟩
   ·refine rQ mxd tK gDk 200 [⟨8,4,.lit (.bo false)⟩] ?_
    refine same (p:=(!qL [a 8,a 9] zL2) = false/\true = true/\∃ j:{x // InvDi (tv a) (tv b) 4 x},6 - j.1.1 < 6 - 0/\VDi 4 (0 + 1) = VDi 4 j.1.1/\HDo a b g = HDo a b j.1.2) ?_ (by kernel_rfl)
    exact ⟨by rw [hA,h1];rfl,rfl,⟨(0 + 1,g),by simp only;omega,hg,st_no ht (by rw [show tv a 4 = 0 from z2_eq h1];exact cr_zl _)⟩,by simp only;omega,rfl,rfl⟩
  ·have hB:=qz (hb 2 (by decide)) (hb 3 (by decide))
   cases h1:z2 (gN (a 8)) (gN (a 9))
   ·cases h2:z2 (gN (b 2)) (gN (b 3))
    ·refine rQ mxd tK gDk 200 [⟨8,4,.lit (.bo true)⟩,⟨8,10,.lit (.bo true)⟩] ?_
     refine same (p:=(!qL [a 8,a 9] zL2) = true/\(!qL [b 2,b 3] zL2) = true/\lp (a 8)/\lp (a 9)/\lp (b 2)/\lp (b 3)/\lp (g 10)/\lp (g 11)/\lp (vF (tv a 4 * tv b 1).x)/\lp (vF (tv a 4 * tv b 1).y)/\true = true /\
      ∃ j:{x // InvDi (tv a) (tv b) 4 x},6 - j.1.1 < 6 - 1/\VDi 4 (1 + 1) = VDi 4 j.1.1/\HDo a b (up2 g (4 + 1) (vF (tv g 5 + G2 (tv a 4 * tv b 1)).x) (vF (tv g 5 + G2 (tv a 4 * tv b 1)).y)) = HDo a b j.1.2) ?_ (by kernel_rfl)
     exact ⟨by rw [hA,h1];rfl,by rw [hB,h2];rfl,ha _ (by decide),ha _ (by decide),hb _ (by decide),hb _ (by decide),hg _ (by decide),hg _ (by decide),lV _,lV _,rfl,⟨(_,_),by simp only;omega,hg.up (lV _) (lV _),st_yes ht (by decide) ((G2_eq _).trans (by rw [G2_eq]))⟩,by simp only;omega,rfl,rfl⟩
    ·refine rQ mxd tK gDk 200 [⟨8,4,.lit (.bo true)⟩,⟨8,10,.lit (.bo false)⟩] ?_
     refine same (p:=(!qL [a 8,a 9] zL2) = true/\(!qL [b 2,b 3] zL2) = false/\true = true/\∃ j:{x // InvDi (tv a) (tv b) 4 x},6 - j.1.1 < 6 - 1/\VDi 4 (1 + 1) = VDi 4 j.1.1/\HDo a b g = HDo a b j.1.2) ?_ (by kernel_rfl)
     exact ⟨by rw [hA,h1];rfl,by rw [hB,h2];rfl,rfl,⟨(1 + 1,g),by simp only;omega,hg,st_no ht (by rw [show tv b 1 = 0 from z2_eq h2];exact cr_z _)⟩,by simp only;omega,rfl,rfl⟩
   ·refine rQ mxd tK gDk 200 [⟨8,4,.lit (.bo false)⟩] ?_
    refine same (p:=(!qL [a 8,a 9] zL2) = false/\true = true/\∃ j:{x // InvDi (tv a) (tv b) 4 x},6 - j.1.1 < 6 - 1/\VDi 4 (1 + 1) = VDi 4 j.1.1/\HDo a b g = HDo a b j.1.2) ?_ (by kernel_rfl)
    exact ⟨by rw [hA,h1];rfl,rfl,⟨(1 + 1,g),by simp only;omega,hg,st_no ht (by rw [show tv a 4 = 0 from z2_eq h1];exact cr_zl _)⟩,by simp only;omega,rfl,rfl⟩
  ·have hB:=qz (hb 4 (by decide)) (hb 5 (by decide))
   cases h1:z2 (gN (a 8)) (gN (a 9))
   ·cases h2:z2 (gN (b 4)) (gN (b 5))
    ·refine rQ mxd tK gDk 200 [⟨8,4,.lit (.bo true)⟩,⟨8,10,.lit (.bo true)⟩] ?_
     refine same (p:=(!qL [a 8,a 9] zL2) = true/\(!qL [b 4,b 5] zL2) = true/\lp (a 8)/\lp (a 9)/\lp (b 4)/\lp (b 5)/\lp (g 12)/\lp (g 13)/\lp (vF (tv a 4 * tv b 2).x)/\lp (vF (tv a 4 * tv b 2).y)/\true = true /\
      ∃ j:{x // InvDi (tv a) (tv b) 4 x},6 - j.1.1 < 6 - 2/\VDi 4 (2 + 1) = VDi 4 j.1.1/\HDo a b (up2 g (4 + 2) (vF (tv g 6 + G2 (tv a 4 * tv b 2)).x) (vF (tv g 6 + G2 (tv a 4 * tv b 2)).y)) = HDo a b j.1.2) ?_ (by kernel_rfl)
     exact ⟨by rw [hA,h1];rfl,by rw [hB,h2];rfl,ha _ (by decide),ha _ (by decide),hb _ (by decide),hb _ (by decide),hg _ (by decide),hg _ (by decide),lV _,lV _,rfl,⟨(_,_),by simp only;omega,hg.up (lV _) (lV _),st_yes ht (by decide) ((G2_eq _).trans (by rw [G2_eq]))⟩,by simp only;omega,rfl,rfl⟩
    ·refine rQ mxd tK gDk 200 [⟨8,4,.lit (.bo true)⟩,⟨8,10,.lit (.bo false)⟩] ?_
     refine same (p:=(!qL [a 8,a 9] zL2) = true/\(!qL [b 4,b 5] zL2) = false/\true = true/\∃ j:{x // InvDi (tv a) (tv b) 4 x},6 - j.1.1 < 6 - 2/\VDi 4 (2 + 1) = VDi 4 j.1.1/\HDo a b g = HDo a b j.1.2) ?_ (by kernel_rfl)
     exact ⟨by rw [hA,h1];rfl,by rw [hB,h2];rfl,rfl,⟨(2 + 1,g),by simp only;omega,hg,st_no ht (by rw [show tv b 2 = 0 from z2_eq h2];exact cr_z _)⟩,by simp only;omega,rfl,rfl⟩
   ·refine rQ mxd tK gDk 200 [⟨8,4,.lit (.bo false)⟩] ?_
    refine same (p:=(!qL [a 8,a 9] zL2) = false/\true = true/\∃ j:{x // InvDi (tv a) (tv b) 4 x},6 - j.1.1 < 6 - 2/\VDi 4 (2 + 1) = VDi 4 j.1.1/\HDo a b g = HDo a b j.1.2) ?_ (by kernel_rfl)
    exact ⟨by rw [hA,h1];rfl,rfl,⟨(2 + 1,g),by simp only;omega,hg,st_no ht (by rw [show tv a 4 = 0 from z2_eq h1];exact cr_zl _)⟩,by simp only;omega,rfl,rfl⟩
  ·have hB:=qz (hb 6 (by decide)) (hb 7 (by decide))
   cases h1:z2 (gN (a 8)) (gN (a 9))
   ·cases h2:z2 (gN (b 6)) (gN (b 7))
    ·refine rQ mxd tK gDk 200 [⟨8,4,.lit (.bo true)⟩,⟨8,10,.lit (.bo true)⟩] ?_
     refine same (p:=(!qL [a 8,a 9] zL2) = true/\(!qL [b 6,b 7] zL2) = true/\lp (a 8)/\lp (a 9)/\lp (b 6)/\lp (b 7)/\lp (g 14)/\lp (g 15)/\lp (vF (tv a 4 * tv b 3).x)/\lp (vF (tv a 4 * tv b 3).y)/\true = true /\
      ∃ j:{x // InvDi (tv a) (tv b) 4 x},6 - j.1.1 < 6 - 3/\VDi 4 (3 + 1) = VDi 4 j.1.1/\HDo a b (up2 g (4 + 3) (vF (tv g 7 + G2 (tv a 4 * tv b 3)).x) (vF (tv g 7 + G2 (tv a 4 * tv b 3)).y)) = HDo a b j.1.2) ?_ (by kernel_rfl)
     exact ⟨by rw [hA,h1];rfl,by rw [hB,h2];rfl,ha _ (by decide),ha _ (by decide),hb _ (by decide),hb _ (by decide),hg _ (by decide),hg _ (by decide),lV _,lV _,rfl,⟨(_,_),by simp only;omega,hg.up (lV _) (lV _),st_yes ht (by decide) ((G2_eq _).trans (by rw [G2_eq]))⟩,by simp only;omega,rfl,rfl⟩
    ·refine rQ mxd tK gDk 200 [⟨8,4,.lit (.bo true)⟩,⟨8,10,.lit (.bo false)⟩] ?_
     refine same (p:=(!qL [a 8,a 9] zL2) = true/\(!qL [b 6,b 7] zL2) = false/\true = true/\∃ j:{x // InvDi (tv a) (tv b) 4 x},6 - j.1.1 < 6 - 3/\VDi 4 (3 + 1) = VDi 4 j.1.1/\HDo a b g = HDo a b j.1.2) ?_ (by kernel_rfl)
     exact ⟨by rw [hA,h1];rfl,by rw [hB,h2];rfl,rfl,⟨(3 + 1,g),by simp only;omega,hg,st_no ht (by rw [show tv b 3 = 0 from z2_eq h2];exact cr_z _)⟩,by simp only;omega,rfl,rfl⟩
   ·refine rQ mxd tK gDk 200 [⟨8,4,.lit (.bo false)⟩] ?_
    refine same (p:=(!qL [a 8,a 9] zL2) = false/\true = true/\∃ j:{x // InvDi (tv a) (tv b) 4 x},6 - j.1.1 < 6 - 3/\VDi 4 (3 + 1) = VDi 4 j.1.1/\HDo a b g = HDo a b j.1.2) ?_ (by kernel_rfl)
    exact ⟨by rw [hA,h1];rfl,rfl,⟨(3 + 1,g),by simp only;omega,hg,st_no ht (by rw [show tv a 4 = 0 from z2_eq h1];exact cr_zl _)⟩,by simp only;omega,rfl,rfl⟩
  ·have hB:=qz (hb 8 (by decide)) (hb 9 (by decide))
   cases h1:z2 (gN (a 8)) (gN (a 9))
   ·cases h2:z2 (gN (b 8)) (gN (b 9))
    ·refine rQ mxd tK gDk 200 [⟨8,4,.lit (.bo true)⟩,⟨8,10,.lit (.bo true)⟩] ?_
     refine same (p:=(!qL [a 8,a 9] zL2) = true/\(!qL [b 8,b 9] zL2) = true/\lp (a 8)/\lp (a 9)/\lp (b 8)/\lp (b 9)/\lp (g 16)/\lp (g 17)/\lp (vF (tv a 4 * tv b 4).x)/\lp (vF (tv a 4 * tv b 4).y)/\true = true /\
      ∃ j:{x // InvDi (tv a) (tv b) 4 x},6 - j.1.1 < 6 - 4/\VDi 4 (4 + 1) = VDi 4 j.1.1/\HDo a b (up2 g (4 + 4) (vF (tv g 8 + G2 (tv a 4 * tv b 4)).x) (vF (tv g 8 + G2 (tv a 4 * tv b 4)).y)) = HDo a b j.1.2) ?_ (by kernel_rfl)
     exact ⟨by rw [hA,h1];rfl,by rw [hB,h2];rfl,ha _ (by decide),ha _ (by decide),hb _ (by decide),hb _ (by decide),hg _ (by decide),hg _ (by decide),lV _,lV _,rfl,⟨(_,_),by simp only;omega,hg.up (lV _) (lV _),st_yes ht (by decide) ((G2_eq _).trans (by rw [G2_eq]))⟩,by simp only;omega,rfl,rfl⟩
    ·refine rQ mxd tK gDk 200 [⟨8,4,.lit (.bo true)⟩,⟨8,10,.lit (.bo false)⟩] ?_
     refine same (p:=(!qL [a 8,a 9] zL2) = true/\(!qL [b 8,b 9] zL2) = false/\true = true/\∃ j:{x // InvDi (tv a) (tv b) 4 x},6 - j.1.1 < 6 - 4/\VDi 4 (4 + 1) = VDi 4 j.1.1/\HDo a b g = HDo a b j.1.2) ?_ (by kernel_rfl)
     exact ⟨by rw [hA,h1];rfl,by rw [hB,h2];rfl,rfl,⟨(4 + 1,g),by simp only;omega,hg,st_no ht (by rw [show tv b 4 = 0 from z2_eq h2];exact cr_z _)⟩,by simp only;omega,rfl,rfl⟩
   ·refine rQ mxd tK gDk 200 [⟨8,4,.lit (.bo false)⟩] ?_
    refine same (p:=(!qL [a 8,a 9] zL2) = false/\true = true/\∃ j:{x // InvDi (tv a) (tv b) 4 x},6 - j.1.1 < 6 - 4/\VDi 4 (4 + 1) = VDi 4 j.1.1/\HDo a b g = HDo a b j.1.2) ?_ (by kernel_rfl)
    exact ⟨by rw [hA,h1];rfl,rfl,⟨(4 + 1,g),by simp only;omega,hg,st_no ht (by rw [show tv a 4 = 0 from z2_eq h1];exact cr_zl _)⟩,by simp only;omega,rfl,rfl⟩
  ·have hB:=qz (hb 10 (by decide)) (hb 11 (by decide))
   cases h1:z2 (gN (a 8)) (gN (a 9))
   ·cases h2:z2 (gN (b 10)) (gN (b 11))
    ·refine rQ mxd tK gDk 200 [⟨8,4,.lit (.bo true)⟩,⟨8,10,.lit (.bo true)⟩] ?_
     refine same (p:=(!qL [a 8,a 9] zL2) = true/\(!qL [b 10,b 11] zL2) = true/\lp (a 8)/\lp (a 9)/\lp (b 10)/\lp (b 11)/\lp (g 18)/\lp (g 19)/\lp (vF (tv a 4 * tv b 5).x)/\lp (vF (tv a 4 * tv b 5).y)/\true = true /\
      ∃ j:{x // InvDi (tv a) (tv b) 4 x},6 - j.1.1 < 6 - 5/\VDi 4 (5 + 1) = VDi 4 j.1.1/\HDo a b (up2 g (4 + 5) (vF (tv g 9 + G2 (tv a 4 * tv b 5)).x) (vF (tv g 9 + G2 (tv a 4 * tv b 5)).y)) = HDo a b j.1.2) ?_ (by kernel_rfl)
     exact ⟨by rw [hA,h1];rfl,by rw [hB,h2];rfl,ha _ (by decide),ha _ (by decide),hb _ (by decide),hb _ (by decide),hg _ (by decide),hg _ (by decide),lV _,lV _,rfl,⟨(_,_),by simp only;omega,hg.up (lV _) (lV _),st_yes ht (by decide) ((G2_eq _).trans (by rw [G2_eq]))⟩,by simp only;omega,rfl,rfl⟩
    ·refine rQ mxd tK gDk 200 [⟨8,4,.lit (.bo true)⟩,⟨8,10,.lit (.bo false)⟩] ?_
     refine same (p:=(!qL [a 8,a 9] zL2) = true/\(!qL [b 10,b 11] zL2) = false/\true = true/\∃ j:{x // InvDi (tv a) (tv b) 4 x},6 - j.1.1 < 6 - 5/\VDi 4 (5 + 1) = VDi 4 j.1.1/\HDo a b g = HDo a b j.1.2) ?_ (by kernel_rfl)
     exact ⟨by rw [hA,h1];rfl,by rw [hB,h2];rfl,rfl,⟨(5 + 1,g),by simp only;omega,hg,st_no ht (by rw [show tv b 5 = 0 from z2_eq h2];exact cr_z _)⟩,by simp only;omega,rfl,rfl⟩
   ·refine rQ mxd tK gDk 200 [⟨8,4,.lit (.bo false)⟩] ?_
    refine same (p:=(!qL [a 8,a 9] zL2) = false/\true = true/\∃ j:{x // InvDi (tv a) (tv b) 4 x},6 - j.1.1 < 6 - 5/\VDi 4 (5 + 1) = VDi 4 j.1.1/\HDo a b g = HDo a b j.1.2) ?_ (by kernel_rfl)
    exact ⟨by rw [hA,h1];rfl,rfl,⟨(5 + 1,g),by simp only;omega,hg,st_no ht (by rw [show tv a 4 = 0 from z2_eq h1];exact cr_zl _)⟩,by simp only;omega,rfl,rfl⟩
  ·refine rQ mxd tK gDk 100 [] ?_
   refine same (p:=true = true/\∃ j:{x // InvDi (tv a) (tv b) 4 x},j.1.1 = 6/\VDi 4 6 = VDi 4 j.1.1/\HDo a b g = HDo a b j.1.2) ?_ (by kernel_rfl)
   exact ⟨rfl,⟨(6,g),hk,hg,ht⟩,rfl,rfl,rfl⟩
 ·intro ⟨⟨k,g⟩,hk,hg,ht⟩ junk h66
  simp only at hk hg ht h66
  subst h66
  refine same (p:=true = true/\∃ j:{x // InvDo (tv a) (tv b) x},6 - j.1.1 < 6 - 4/\VDo (4 + 1) = VDo j.1.1/\HDo a b g = HDo a b j.1.2) ?_ (by kernel_rfl)
  exact ⟨rfl,⟨(4 + 1,g),by simp only;omega,hg,ht⟩,by simp only;omega,rfl,rfl⟩
theorem mulI5 {a b:Nat->Nat->Nat} (ha:LtN 12 a) (hb:LtN 12 b) {g:Nat->Nat->Nat} (hg:LtN 22 g) (ht:∀ j,j < 11->tv g j = cout (tv a) (tv b) 5 j) {Q:Exit->AS->Prop} (junk:Nat->Value) :
  AWq Tryz.prog (fun _=>False) (loopOf (atK 0 (flatC (bodyOf Tryz.f44)))) (RoundE (loopId (atK 0 (flatC (bodyOf Tryz.f44)))) [2,3,4,5,6] 79 4 (fun x:{x // InvDo (tv a) (tv b) x}=>VDo x.1.1) (fun x=>HDo a b x.1.2) (fun x=>6 - x.1.1) ⟨(5,g),by simp,hg,ht⟩ (fun x=>x.1.1 = 6) Q) ⟨mkT [2,3,4,5,6] (VDo 5) 79 junk,HDo a b g⟩:=by
 refine nestF mxd tK gDk (l:=flatC (loopOf (atL (flatC (bodyOf Tryz.f44))))) (lB:=flatC (blkOf (atB (flatC (loopOf (atL (flatC (bodyOf Tryz.f44)))))))) (by kernel_rfl) rfl (by kernel_rfl) rfl
  (ι:={x // InvDi (tv a) (tv b) 5 x}) [2,3,4,5,6,7] 79 4 (fun x=>VDi 5 x.1.1) (fun x=>HDo a b x.1.2) (fun x=>6 - x.1.1) (fun x=>x.1.1 = 6)
  (fun _=>rfl) (fun _=>by kernel_rfl) (fun _ _ h=>h.elim) 200 [] [] [] ?_ ?_ ?_
 ·refine same (p:=true = true/\∃ j:{x // InvDi (tv a) (tv b) 5 x},VDi 5 0 = VDi 5 j.1.1/\HDo a b g = HDo a b j.1.2) ?_ (by kernel_rfl)
  exact ⟨rfl,⟨(0,g),by simp,hg,ht⟩,rfl,rfl⟩
 ·intro ⟨⟨k,g⟩,hk,hg,ht⟩ junk
  simp only at hk hg ht
  have hA:=qz (ha 10 (by decide)) (ha 11 (by decide))
  rcases (show k = 0∨k = 1∨k = 2∨k = 3∨k = 4∨k = 5∨k = 6 by omega) with rfl | rfl | rfl | rfl | rfl | rfl | rfl
  ·have hB:=qz (hb 0 (by decide)) (hb 1 (by decide))
   cases h1:z2 (gN (a 10)) (gN (a 11))
   ·cases h2:z2 (gN (b 0)) (gN (b 1))
    ·refine rQ mxd tK gDk 200 [⟨8,4,.lit (.bo true)⟩,⟨8,10,.lit (.bo true)⟩] ?_
     refine same (p:=(!qL [a 10,a 11] zL2) = true/\(!qL [b 0,b 1] zL2) = true/\lp (a 10)/\lp (a 11)/\lp (b 0)/\lp (b 1)/\lp (g 10)/\lp (g 11)/\lp (vF (tv a 5 * tv b 0).x)/\lp (vF (tv a 5 * tv b 0).y)/\true = true /\
      ∃ j:{x // InvDi (tv a) (tv b) 5 x},6 - j.1.1 < 6 - 0/\VDi 5 (0 + 1) = VDi 5 j.1.1/\HDo a b (up2 g (5 + 0) (vF (tv g 5 + G2 (tv a 5 * tv b 0)).x) (vF (tv g 5 + G2 (tv a 5 * tv b 0)).y)) = HDo a b j.1.2) ?_ (by kernel_rfl)
     exact ⟨by rw [hA,h1];rfl,by rw [hB,h2];rfl,ha _ (by decide),ha _ (by decide),hb _ (by decide),hb _ (by decide),hg _ (by decide),hg _ (by decide),lV _,lV _,rfl,⟨(_,_),by simp only;omega,hg.up (lV _) (lV _),st_yes ht (by decide) ((G2_eq _).trans (by rw [G2_eq]))⟩,by simp only;omega,rfl,rfl⟩
    ·refine rQ mxd tK gDk 200 [⟨8,4,.lit (.bo true)⟩,⟨8,10,.lit (.bo false)⟩] ?_
     refine same (p:=(!qL [a 10,a 11] zL2) = true/\(!qL [b 0,b 1] zL2) = false/\true = true/\∃ j:{x // InvDi (tv a) (tv b) 5 x},6 - j.1.1 < 6 - 0/\VDi 5 (0 + 1) = VDi 5 j.1.1/\HDo a b g = HDo a b j.1.2) ?_ (by kernel_rfl)
     exact ⟨by rw [hA,h1];rfl,by rw [hB,h2];rfl,rfl,⟨(0 + 1,g),by simp only;omega,hg,st_no ht (by rw [show tv b 0 = 0 from z2_eq h2];exact cr_z _)⟩,by simp only;omega,rfl,rfl⟩
   ·refine rQ mxd tK gDk 200 [⟨8,4,.lit (.bo false)⟩] ?_
    refine same (p:=(!qL [a 10,a 11] zL2) = false/\true = true/\∃ j:{x // InvDi (tv a) (tv b) 5 x},6 - j.1.1 < 6 - 0/\VDi 5 (0 + 1) = VDi 5 j.1.1/\HDo a b g = HDo a b j.1.2) ?_ (by kernel_rfl)
    exact ⟨by rw [hA,h1];rfl,rfl,⟨(0 + 1,g),by simp only;omega,hg,st_no ht (by rw [show tv a 5 = 0 from z2_eq h1];exact cr_zl _)⟩,by simp only;omega,rfl,rfl⟩
  ·have hB:=qz (hb 2 (by decide)) (hb 3 (by decide))
   cases h1:z2 (gN (a 10)) (gN (a 11))
   ·cases h2:z2 (gN (b 2)) (gN (b 3))
    ·refine rQ mxd tK gDk 200 [⟨8,4,.lit (.bo true)⟩,⟨8,10,.lit (.bo true)⟩] ?_
     refine same (p:=(!qL [a 10,a 11] zL2) = true/\(!qL [b 2,b 3] zL2) = true/\lp (a 10)/\lp (a 11)/\lp (b 2)/\lp (b 3)/\lp (g 12)/\lp (g 13)/\lp (vF (tv a 5 * tv b 1).x)/\lp (vF (tv a 5 * tv b 1).y)/\true = true /\
      ∃ j:{x // InvDi (tv a) (tv b) 5 x},6 - j.1.1 < 6 - 1/\VDi 5 (1 + 1) = VDi 5 j.1.1/\HDo a b (up2 g (5 + 1) (vF (tv g 6 + G2 (tv a 5 * tv b 1)).x) (vF (tv g 6 + G2 (tv a 5 * tv b 1)).y)) = HDo a b j.1.2) ?_ (by kernel_rfl)
     exact ⟨by rw [hA,h1];rfl,by rw [hB,h2];rfl,ha _ (by decide),ha _ (by decide),hb _ (by decide),hb _ (by decide),hg _ (by decide),hg _ (by decide),lV _,lV _,rfl,⟨(_,_),by simp only;omega,hg.up (lV _) (lV _),st_yes ht (by decide) ((G2_eq _).trans (by rw [G2_eq]))⟩,by simp only;omega,rfl,rfl⟩
    ·refine rQ mxd tK gDk 200 [⟨8,4,.lit (.bo true)⟩,⟨8,10,.lit (.bo false)⟩] ?_
     refine same (p:=(!qL [a 10,a 11] zL2) = true/\(!qL [b 2,b 3] zL2) = false/\true = true/\∃ j:{x // InvDi (tv a) (tv b) 5 x},6 - j.1.1 < 6 - 1/\VDi 5 (1 + 1) = VDi 5 j.1.1/\HDo a b g = HDo a b j.1.2) ?_ (by kernel_rfl)
     exact ⟨by rw [hA,h1];rfl,by rw [hB,h2];rfl,rfl,⟨(1 + 1,g),by simp only;omega,hg,st_no ht (by rw [show tv b 1 = 0 from z2_eq h2];exact cr_z _)⟩,by simp only;omega,rfl,rfl⟩
   ·refine rQ mxd tK gDk 200 [⟨8,4,.lit (.bo false)⟩] ?_
    refine same (p:=(!qL [a 10,a 11] zL2) = false/\true = true/\∃ j:{x // InvDi (tv a) (tv b) 5 x},6 - j.1.1 < 6 - 1/\VDi 5 (1 + 1) = VDi 5 j.1.1/\HDo a b g = HDo a b j.1.2) ?_ (by kernel_rfl)
    exact ⟨by rw [hA,h1];rfl,rfl,⟨(1 + 1,g),by simp only;omega,hg,st_no ht (by rw [show tv a 5 = 0 from z2_eq h1];exact cr_zl _)⟩,by simp only;omega,rfl,rfl⟩
  ·have hB:=qz (hb 4 (by decide)) (hb 5 (by decide))
   cases h1:z2 (gN (a 10)) (gN (a 11))
   ·cases h2:z2 (gN (b 4)) (gN (b 5))
    ·refine rQ mxd tK gDk 200 [⟨8,4,.lit (.bo true)⟩,⟨8,10,.lit (.bo true)⟩] ?_
     refine same (p:=(!qL [a 10,a 11] zL2) = true/\(!qL [b 4,b 5] zL2) = true/\lp (a 10)/\lp (a 11)/\lp (b 4)/\lp (b 5)/\lp (g 14)/\lp (g 15)/\lp (vF (tv a 5 * tv b 2).x)/\lp (vF (tv a 5 * tv b 2).y)/\true = true /\
      ∃ j:{x // InvDi (tv a) (tv b) 5 x},6 - j.1.1 < 6 - 2/\VDi 5 (2 + 1) = VDi 5 j.1.1/\HDo a b (up2 g (5 + 2) (vF (tv g 7 + G2 (tv a 5 * tv b 2)).x) (vF (tv g 7 + G2 (tv a 5 * tv b 2)).y)) = HDo a b j.1.2) ?_ (by kernel_rfl)
     exact ⟨by rw [hA,h1];rfl,by rw [hB,h2];rfl,ha _ (by decide),ha _ (by decide),hb _ (by decide),hb _ (by decide),hg _ (by decide),hg _ (by decide),lV _,lV _,rfl,⟨(_,_),by simp only;omega,hg.up (lV _) (lV _),st_yes ht (by decide) ((G2_eq _).trans (by rw [G2_eq]))⟩,by simp only;omega,rfl,rfl⟩
    ·refine rQ mxd tK gDk 200 [⟨8,4,.lit (.bo true)⟩,⟨8,10,.lit (.bo false)⟩] ?_
     refine same (p:=(!qL [a 10,a 11] zL2) = true/\(!qL [b 4,b 5] zL2) = false/\true = true/\∃ j:{x // InvDi (tv a) (tv b) 5 x},6 - j.1.1 < 6 - 2/\VDi 5 (2 + 1) = VDi 5 j.1.1/\HDo a b g = HDo a b j.1.2) ?_ (by kernel_rfl)
     exact ⟨by rw [hA,h1];rfl,by rw [hB,h2];rfl,rfl,⟨(2 + 1,g),by simp only;omega,hg,st_no ht (by rw [show tv b 2 = 0 from z2_eq h2];exact cr_z _)⟩,by simp only;omega,rfl,rfl⟩
   ·refine rQ mxd tK gDk 200 [⟨8,4,.lit (.bo false)⟩] ?_
    refine same (p:=(!qL [a 10,a 11] zL2) = false/\true = true/\∃ j:{x // InvDi (tv a) (tv b) 5 x},6 - j.1.1 < 6 - 2/\VDi 5 (2 + 1) = VDi 5 j.1.1/\HDo a b g = HDo a b j.1.2) ?_ (by kernel_rfl)
    exact ⟨by rw [hA,h1];rfl,rfl,⟨(2 + 1,g),by simp only;omega,hg,st_no ht (by rw [show tv a 5 = 0 from z2_eq h1];exact cr_zl _)⟩,by simp only;omega,rfl,rfl⟩
  ·have hB:=qz (hb 6 (by decide)) (hb 7 (by decide))
   cases h1:z2 (gN (a 10)) (gN (a 11))
   ·cases h2:z2 (gN (b 6)) (gN (b 7))
    ·refine rQ mxd tK gDk 200 [⟨8,4,.lit (.bo true)⟩,⟨8,10,.lit (.bo true)⟩] ?_
     refine same (p:=(!qL [a 10,a 11] zL2) = true/\(!qL [b 6,b 7] zL2) = true/\lp (a 10)/\lp (a 11)/\lp (b 6)/\lp (b 7)/\lp (g 16)/\lp (g 17)/\lp (vF (tv a 5 * tv b 3).x)/\lp (vF (tv a 5 * tv b 3).y)/\true = true /\
      ∃ j:{x // InvDi (tv a) (tv b) 5 x},6 - j.1.1 < 6 - 3/\VDi 5 (3 + 1) = VDi 5 j.1.1/\HDo a b (up2 g (5 + 3) (vF (tv g 8 + G2 (tv a 5 * tv b 3)).x) (vF (tv g 8 + G2 (tv a 5 * tv b 3)).y)) = HDo a b j.1.2) ?_ (by kernel_rfl)
     exact ⟨by rw [hA,h1];rfl,by rw [hB,h2];rfl,ha _ (by decide),ha _ (by decide),hb _ (by decide),hb _ (by decide),hg _ (by decide),hg _ (by decide),lV _,lV _,rfl,⟨(_,_),by simp only;omega,hg.up (lV _) (lV _),st_yes ht (by decide) ((G2_eq _).trans (by rw [G2_eq]))⟩,by simp only;omega,rfl,rfl⟩
    ·refine rQ mxd tK gDk 200 [⟨8,4,.lit (.bo true)⟩,⟨8,10,.lit (.bo false)⟩] ?_
     refine same (p:=(!qL [a 10,a 11] zL2) = true/\(!qL [b 6,b 7] zL2) = false/\true = true/\∃ j:{x // InvDi (tv a) (tv b) 5 x},6 - j.1.1 < 6 - 3/\VDi 5 (3 + 1) = VDi 5 j.1.1/\HDo a b g = HDo a b j.1.2) ?_ (by kernel_rfl)
     exact ⟨by rw [hA,h1];rfl,by rw [hB,h2];rfl,rfl,⟨(3 + 1,g),by simp only;omega,hg,st_no ht (by rw [show tv b 3 = 0 from z2_eq h2];exact cr_z _)⟩,by simp only;omega,rfl,rfl⟩
   ·refine rQ mxd tK gDk 200 [⟨8,4,.lit (.bo false)⟩] ?_
    refine same (p:=(!qL [a 10,a 11] zL2) = false/\true = true/\∃ j:{x // InvDi (tv a) (tv b) 5 x},6 - j.1.1 < 6 - 3/\VDi 5 (3 + 1) = VDi 5 j.1.1/\HDo a b g = HDo a b j.1.2) ?_ (by kernel_rfl)
    exact ⟨by rw [hA,h1];rfl,rfl,⟨(3 + 1,g),by simp only;omega,hg,st_no ht (by rw [show tv a 5 = 0 from z2_eq h1];exact cr_zl _)⟩,by simp only;omega,rfl,rfl⟩
  ·have hB:=qz (hb 8 (by decide)) (hb 9 (by decide))
   cases h1:z2 (gN (a 10)) (gN (a 11))
   ·cases h2:z2 (gN (b 8)) (gN (b 9))
    ·refine rQ mxd tK gDk 200 [⟨8,4,.lit (.bo true)⟩,⟨8,10,.lit (.bo true)⟩] ?_
     refine same (p:=(!qL [a 10,a 11] zL2) = true/\(!qL [b 8,b 9] zL2) = true/\lp (a 10)/\lp (a 11)/\lp (b 8)/\lp (b 9)/\lp (g 18)/\lp (g 19)/\lp (vF (tv a 5 * tv b 4).x)/\lp (vF (tv a 5 * tv b 4).y)/\true = true /\
      ∃ j:{x // InvDi (tv a) (tv b) 5 x},6 - j.1.1 < 6 - 4/\VDi 5 (4 + 1) = VDi 5 j.1.1/\HDo a b (up2 g (5 + 4) (vF (tv g 9 + G2 (tv a 5 * tv b 4)).x) (vF (tv g 9 + G2 (tv a 5 * tv b 4)).y)) = HDo a b j.1.2) ?_ (by kernel_rfl)
     exact ⟨by rw [hA,h1];rfl,by rw [hB,h2];rfl,ha _ (by decide),ha _ (by decide),hb _ (by decide),hb _ (by decide),hg _ (by decide),hg _ (by decide),lV _,lV _,rfl,⟨(_,_),by simp only;omega,hg.up (lV _) (lV _),st_yes ht (by decide) ((G2_eq _).trans (by rw [G2_eq]))⟩,by simp only;omega,rfl,rfl⟩
    ·refine rQ mxd tK gDk 200 [⟨8,4,.lit (.bo true)⟩,⟨8,10,.lit (.bo false)⟩] ?_
     refine same (p:=(!qL [a 10,a 11] zL2) = true/\(!qL [b 8,b 9] zL2) = false/\true = true/\∃ j:{x // InvDi (tv a) (tv b) 5 x},6 - j.1.1 < 6 - 4/\VDi 5 (4 + 1) = VDi 5 j.1.1/\HDo a b g = HDo a b j.1.2) ?_ (by kernel_rfl)
     exact ⟨by rw [hA,h1];rfl,by rw [hB,h2];rfl,rfl,⟨(4 + 1,g),by simp only;omega,hg,st_no ht (by rw [show tv b 4 = 0 from z2_eq h2];exact cr_z _)⟩,by simp only;omega,rfl,rfl⟩
   ·refine rQ mxd tK gDk 200 [⟨8,4,.lit (.bo false)⟩] ?_
    refine same (p:=(!qL [a 10,a 11] zL2) = false/\true = true/\∃ j:{x // InvDi (tv a) (tv b) 5 x},6 - j.1.1 < 6 - 4/\VDi 5 (4 + 1) = VDi 5 j.1.1/\HDo a b g = HDo a b j.1.2) ?_ (by kernel_rfl)
    exact ⟨by rw [hA,h1];rfl,rfl,⟨(4 + 1,g),by simp only;omega,hg,st_no ht (by rw [show tv a 5 = 0 from z2_eq h1];exact cr_zl _)⟩,by simp only;omega,rfl,rfl⟩
  ·have hB:=qz (hb 10 (by decide)) (hb 11 (by decide))
   cases h1:z2 (gN (a 10)) (gN (a 11))
   ·cases h2:z2 (gN (b 10)) (gN (b 11))
    ·refine rQ mxd tK gDk 200 [⟨8,4,.lit (.bo true)⟩,⟨8,10,.lit (.bo true)⟩] ?_
     refine same (p:=(!qL [a 10,a 11] zL2) = true/\(!qL [b 10,b 11] zL2) = true/\lp (a 10)/\lp (a 11)/\lp (b 10)/\lp (b 11)/\lp (g 20)/\lp (g 21)/\lp (vF (tv a 5 * tv b 5).x)/\lp (vF (tv a 5 * tv b 5).y)/\true = true /\
      ∃ j:{x // InvDi (tv a) (tv b) 5 x},6 - j.1.1 < 6 - 5/\VDi 5 (5 + 1) = VDi 5 j.1.1/\HDo a b (up2 g (5 + 5) (vF (tv g 10 + G2 (tv a 5 * tv b 5)).x) (vF (tv g 10 + G2 (tv a 5 * tv b 5)).y)) = HDo a b j.1.2) ?_ (by kernel_rfl)
     exact ⟨by rw [hA,h1];rfl,by rw [hB,h2];rfl,ha _ (by decide),ha _ (by decide),hb _ (by decide),hb _ (by decide),hg _ (by decide),hg _ (by decide),lV _,lV _,rfl,⟨(_,_),by simp only;omega,hg.up (lV _) (lV _),st_yes ht (by decide) ((G2_eq _).trans (by rw [G2_eq]))⟩,by simp only;omega,rfl,rfl⟩
    ·refine rQ mxd tK gDk 200 [⟨8,4,.lit (.bo true)⟩,⟨8,10,.lit (.bo false)⟩] ?_
     refine same (p:=(!qL [a 10,a 11] zL2) = true/\(!qL [b 10,b 11] zL2) = false/\true = true/\∃ j:{x // InvDi (tv a) (tv b) 5 x},6 - j.1.1 < 6 - 5/\VDi 5 (5 + 1) = VDi 5 j.1.1/\HDo a b g = HDo a b j.1.2) ?_ (by kernel_rfl)
     exact ⟨by rw [hA,h1];rfl,by rw [hB,h2];rfl,rfl,⟨(5 + 1,g),by simp only;omega,hg,st_no ht (by rw [show tv b 5 = 0 from z2_eq h2];exact cr_z _)⟩,by simp only;omega,rfl,rfl⟩
   ·refine rQ mxd tK gDk 200 [⟨8,4,.lit (.bo false)⟩] ?_
    refine same (p:=(!qL [a 10,a 11] zL2) = false/\true = true/\∃ j:{x // InvDi (tv a) (tv b) 5 x},6 - j.1.1 < 6 - 5/\VDi 5 (5 + 1) = VDi 5 j.1.1/\HDo a b g = HDo a b j.1.2) ?_ (by kernel_rfl)
    exact ⟨by rw [hA,h1];rfl,rfl,⟨(5 + 1,g),by simp only;omega,hg,st_no ht (by rw [show tv a 5 = 0 from z2_eq h1];exact cr_zl _)⟩,by simp only;omega,rfl,rfl⟩
  ·refine rQ mxd tK gDk 100 [] ?_
   refine same (p:=true = true/\∃ j:{x // InvDi (tv a) (tv b) 5 x},j.1.1 = 6/\VDi 5 6 = VDi 5 j.1.1/\HDo a b g = HDo a b j.1.2) ?_ (by kernel_rfl)
   exact ⟨rfl,⟨(6,g),hk,hg,ht⟩,rfl,rfl,rfl⟩
 ·intro ⟨⟨k,g⟩,hk,hg,ht⟩ junk h66
  simp only at hk hg ht h66
  subst h66
  refine same (p:=true = true/\∃ j:{x // InvDo (tv a) (tv b) x},6 - j.1.1 < 6 - 5/\VDo (5 + 1) = VDo j.1.1/\HDo a b g = HDo a b j.1.2) ?_ (by kernel_rfl)
  exact ⟨rfl,⟨(5 + 1,g),by simp only;omega,hg,ht⟩,by simp only;omega,rfl,rfl⟩
theorem mulR {a b g:Nat->Nat->Nat} (hg:LtN 22 g) (c:Nat->F2p) (hc:∀ j,j < 11->tv g j = c j) {Q:Exit->AS->Prop} (junk:Nat->Value) {i:Nat} {o:Nat->Nat->Nat} (hi:InvDr c (i,o)) :
  AWq Tryz.prog (fun _=>False) (loopOf (atK 0 (postK 0 (flatC (bodyOf Tryz.f44))))) (RoundE (loopId (atK 0 (postK 0 (flatC (bodyOf Tryz.f44))))) [4,5,8,9] 79 5 (fun x:{x // InvDr c x}=>VDr x.1.1) (fun x=>HDr a b g x.1.2) (fun x=>6 - x.1.1) ⟨(i,o),hi⟩ (fun x=>x.1.1 = 6) Q) ⟨mkT [4,5,8,9] (VDr i) 79 junk,HDr a b g o⟩:=by
 obtain ⟨h6,ho,ht⟩:=hi
 simp only at h6 ho ht
 have lk:nv (vF kx.x) < pN/\nv (vF kx.y) < pN:=⟨lV _,lV _⟩
 have nxt:∀ {i:Nat} {o':Nat->Nat->Nat},i < 6->(∀ j,j < i->tv o j = res c j)->(∀ j,j ≠ i->tv o' j = tv o j)->tv o' i = res c i->∀ j,j < i + 1->tv o' j = res c j:=by
  intro i o' _ h1 h2 h3 j hj
  by_cases e:j = i
  ·subst e;exact h3
  ·rw [h2 j e];exact h1 j (by omega)
 rcases (show i = 0∨i = 1∨i = 2∨i = 3∨i = 4∨i = 5∨i = 6 by omega) with rfl | rfl | rfl | rfl | rfl | rfl | rfl
 ·have hB:=qz (hg 12 (by decide)) (hg 13 (by decide))
  cases h2:z2 (gN (g 12)) (gN (g 13))
  ·refine rQ mxd tK gDk 200 [⟨15,8,.lit (.bo true)⟩] ?_
   refine same (p:=(!qL [g 12,g 13] zL2) = true/\lp (g 12)/\lp (g 13)/\lp (vF kx.x)/\lp (vF kx.y)/\lp (g 0)/\lp (g 1)/\lp (vF (tv g 6 * G2 kx).x)/\lp (vF (tv g 6 * G2 kx).y)/\true = true /\
    ∃ j:{x // InvDr c x},6 - j.1.1 < 6 - 0/\VDr (0 + 1) = VDr j.1.1/\HDr a b g (up2 (up2 o 0 (g 0) (g 1)) 0 (vF (tv g 0 + G2 (tv g 6 * G2 kx)).x) (vF (tv g 0 + G2 (tv g 6 * G2 kx)).y)) = HDr a b g j.1.2) ?_ (by kernel_rfl)
   refine ⟨by rw [hB,h2];rfl,hg _ (by decide),hg _ (by decide),lk.1,lk.2,hg _ (by decide),hg _ (by decide),lV _,lV _,rfl,⟨(0 + 1,(up2 (up2 o 0 (g 0) (g 1)) 0 (vF (tv g 0 + G2 (tv g 6 * G2 kx)).x) (vF (tv g 0 + G2 (tv g 6 * G2 kx)).y))),by simp only;omega,(ho.up (hg _ (by decide)) (hg _ (by decide))).up (lV _) (lV _),nxt (by decide) ht (fun j e=>by rw [tv_ne _ e,tv_ne _ e]) ?_⟩,by simp only;omega,rfl,rfl⟩
   rw [tv_same]
   refine (G2_eq _).trans ?_
   rw [G2_eq,G2_eq,hc 0 (by decide),hc 6 (by decide)]
   rfl
  ·refine rQ mxd tK gDk 200 [⟨15,8,.lit (.bo false)⟩] ?_
   refine same (p:=(!qL [g 12,g 13] zL2) = false/\true = true/\∃ j:{x // InvDr c x},6 - j.1.1 < 6 - 0/\VDr (0 + 1) = VDr j.1.1/\HDr a b g (up2 o 0 (g 0) (g 1)) = HDr a b g j.1.2) ?_ (by kernel_rfl)
   refine ⟨by rw [hB,h2];rfl,rfl,⟨(0 + 1,(up2 o 0 (g 0) (g 1))),by simp only;omega,ho.up (hg _ (by decide)) (hg _ (by decide)),nxt (by decide) ht (fun j e=>by rw [tv_ne _ e]) ?_⟩,by simp only;omega,rfl,rfl⟩
   rw [tv_same]
   show tv g 0 = c 0 + c 6 * kx
   rw [<-hc 6 (by decide),show tv g 6 = 0 from z2_eq h2,cr_zl,Rg.add_zero,hc 0 (by decide)]
 ·have hB:=qz (hg 14 (by decide)) (hg 15 (by decide))
  cases h2:z2 (gN (g 14)) (gN (g 15))
  ·refine rQ mxd tK gDk 200 [⟨15,8,.lit (.bo true)⟩] ?_
   refine same (p:=(!qL [g 14,g 15] zL2) = true/\lp (g 14)/\lp (g 15)/\lp (vF kx.x)/\lp (vF kx.y)/\lp (g 2)/\lp (g 3)/\lp (vF (tv g 7 * G2 kx).x)/\lp (vF (tv g 7 * G2 kx).y)/\true = true /\
    ∃ j:{x // InvDr c x},6 - j.1.1 < 6 - 1/\VDr (1 + 1) = VDr j.1.1/\HDr a b g (up2 (up2 o 1 (g 2) (g 3)) 1 (vF (tv g 1 + G2 (tv g 7 * G2 kx)).x) (vF (tv g 1 + G2 (tv g 7 * G2 kx)).y)) = HDr a b g j.1.2) ?_ (by kernel_rfl)
   refine ⟨by rw [hB,h2];rfl,hg _ (by decide),hg _ (by decide),lk.1,lk.2,hg _ (by decide),hg _ (by decide),lV _,lV _,rfl,⟨(1 + 1,(up2 (up2 o 1 (g 2) (g 3)) 1 (vF (tv g 1 + G2 (tv g 7 * G2 kx)).x) (vF (tv g 1 + G2 (tv g 7 * G2 kx)).y))),by simp only;omega,(ho.up (hg _ (by decide)) (hg _ (by decide))).up (lV _) (lV _),nxt (by decide) ht (fun j e=>by rw [tv_ne _ e,tv_ne _ e]) ?_⟩,by simp only;omega,rfl,rfl⟩
   rw [tv_same]
   refine (G2_eq _).trans ?_
   rw [G2_eq,G2_eq,hc 1 (by decide),hc 7 (by decide)]
   rfl
  ·refine rQ mxd tK gDk 200 [⟨15,8,.lit (.bo false)⟩] ?_
   refine same (p:=(!qL [g 14,g 15] zL2) = false/\true = true/\∃ j:{x // InvDr c x},6 - j.1.1 < 6 - 1/\VDr (1 + 1) = VDr j.1.1/\HDr a b g (up2 o 1 (g 2) (g 3)) = HDr a b g j.1.2) ?_ (by kernel_rfl)
   refine ⟨by rw [hB,h2];rfl,rfl,⟨(1 + 1,(up2 o 1 (g 2) (g 3))),by simp only;omega,ho.up (hg _ (by decide)) (hg _ (by decide)),nxt (by decide) ht (fun j e=>by rw [tv_ne _ e]) ?_⟩,by simp only;omega,rfl,rfl⟩
   rw [tv_same]
   show tv g 1 = c 1 + c 7 * kx
   rw [<-hc 7 (by decide),show tv g 7 = 0 from z2_eq h2,cr_zl,Rg.add_zero,hc 1 (by decide)]
 ·have hB:=qz (hg 16 (by decide)) (hg 17 (by decide))
  cases h2:z2 (gN (g 16)) (gN (g 17))
  ·refine rQ mxd tK gDk 200 [⟨15,8,.lit (.bo true)⟩] ?_
   refine same (p:=(!qL [g 16,g 17] zL2) = true/\lp (g 16)/\lp (g 17)/\lp (vF kx.x)/\lp (vF kx.y)/\lp (g 4)/\lp (g 5)/\lp (vF (tv g 8 * G2 kx).x)/\lp (vF (tv g 8 * G2 kx).y)/\true = true /\
    ∃ j:{x // InvDr c x},6 - j.1.1 < 6 - 2/\VDr (2 + 1) = VDr j.1.1/\HDr a b g (up2 (up2 o 2 (g 4) (g 5)) 2 (vF (tv g 2 + G2 (tv g 8 * G2 kx)).x) (vF (tv g 2 + G2 (tv g 8 * G2 kx)).y)) = HDr a b g j.1.2) ?_ (by kernel_rfl)
   refine ⟨by rw [hB,h2];rfl,hg _ (by decide),hg _ (by decide),lk.1,lk.2,hg _ (by decide),hg _ (by decide),lV _,lV _,rfl,⟨(2 + 1,(up2 (up2 o 2 (g 4) (g 5)) 2 (vF (tv g 2 + G2 (tv g 8 * G2 kx)).x) (vF (tv g 2 + G2 (tv g 8 * G2 kx)).y))),by simp only;omega,(ho.up (hg _ (by decide)) (hg _ (by decide))).up (lV _) (lV _),nxt (by decide) ht (fun j e=>by rw [tv_ne _ e,tv_ne _ e]) ?_⟩,by simp only;omega,rfl,rfl⟩
   rw [tv_same]
   refine (G2_eq _).trans ?_
   rw [G2_eq,G2_eq,hc 2 (by decide),hc 8 (by decide)]
   rfl
  ·refine rQ mxd tK gDk 200 [⟨15,8,.lit (.bo false)⟩] ?_
   refine same (p:=(!qL [g 16,g 17] zL2) = false/\true = true/\∃ j:{x // InvDr c x},6 - j.1.1 < 6 - 2/\VDr (2 + 1) = VDr j.1.1/\HDr a b g (up2 o 2 (g 4) (g 5)) = HDr a b g j.1.2) ?_ (by kernel_rfl)
   refine ⟨by rw [hB,h2];rfl,rfl,⟨(2 + 1,(up2 o 2 (g 4) (g 5))),by simp only;omega,ho.up (hg _ (by decide)) (hg _ (by decide)),nxt (by decide) ht (fun j e=>by rw [tv_ne _ e]) ?_⟩,by simp only;omega,rfl,rfl⟩
   rw [tv_same]
   show tv g 2 = c 2 + c 8 * kx
   rw [<-hc 8 (by decide),show tv g 8 = 0 from z2_eq h2,cr_zl,Rg.add_zero,hc 2 (by decide)]
 ·have hB:=qz (hg 18 (by decide)) (hg 19 (by decide))
  cases h2:z2 (gN (g 18)) (gN (g 19))
  ·refine rQ mxd tK gDk 200 [⟨15,8,.lit (.bo true)⟩] ?_
   refine same (p:=(!qL [g 18,g 19] zL2) = true/\lp (g 18)/\lp (g 19)/\lp (vF kx.x)/\lp (vF kx.y)/\lp (g 6)/\lp (g 7)/\lp (vF (tv g 9 * G2 kx).x)/\lp (vF (tv g 9 * G2 kx).y)/\true = true /\
    ∃ j:{x // InvDr c x},6 - j.1.1 < 6 - 3/\VDr (3 + 1) = VDr j.1.1/\HDr a b g (up2 (up2 o 3 (g 6) (g 7)) 3 (vF (tv g 3 + G2 (tv g 9 * G2 kx)).x) (vF (tv g 3 + G2 (tv g 9 * G2 kx)).y)) = HDr a b g j.1.2) ?_ (by kernel_rfl)
   refine ⟨by rw [hB,h2];rfl,hg _ (by decide),hg _ (by decide),lk.1,lk.2,hg _ (by decide),hg _ (by decide),lV _,lV _,rfl,⟨(3 + 1,(up2 (up2 o 3 (g 6) (g 7)) 3 (vF (tv g 3 + G2 (tv g 9 * G2 kx)).x) (vF (tv g 3 + G2 (tv g 9 * G2 kx)).y))),by simp only;omega,(ho.up (hg _ (by decide)) (hg _ (by decide))).up (lV _) (lV _),nxt (by decide) ht (fun j e=>by rw [tv_ne _ e,tv_ne _ e]) ?_⟩,by simp only;omega,rfl,rfl⟩
   rw [tv_same]
   refine (G2_eq _).trans ?_
   rw [G2_eq,G2_eq,hc 3 (by decide),hc 9 (by decide)]
   rfl
  ·refine rQ mxd tK gDk 200 [⟨15,8,.lit (.bo false)⟩] ?_
   refine same (p:=(!qL [g 18,g 19] zL2) = false/\true = true/\∃ j:{x // InvDr c x},6 - j.1.1 < 6 - 3/\VDr (3 + 1) = VDr j.1.1/\HDr a b g (up2 o 3 (g 6) (g 7)) = HDr a b g j.1.2) ?_ (by kernel_rfl)
   refine ⟨by rw [hB,h2];rfl,rfl,⟨(3 + 1,(up2 o 3 (g 6) (g 7))),by simp only;omega,ho.up (hg _ (by decide)) (hg _ (by decide)),nxt (by decide) ht (fun j e=>by rw [tv_ne _ e]) ?_⟩,by simp only;omega,rfl,rfl⟩
   rw [tv_same]
   show tv g 3 = c 3 + c 9 * kx
   rw [<-hc 9 (by decide),show tv g 9 = 0 from z2_eq h2,cr_zl,Rg.add_zero,hc 3 (by decide)]
 ·have hB:=qz (hg 20 (by decide)) (hg 21 (by decide))
  cases h2:z2 (gN (g 20)) (gN (g 21))
  ·refine rQ mxd tK gDk 200 [⟨15,8,.lit (.bo true)⟩] ?_
   refine same (p:=(!qL [g 20,g 21] zL2) = true/\lp (g 20)/\lp (g 21)/\lp (vF kx.x)/\lp (vF kx.y)/\lp (g 8)/\lp (g 9)/\lp (vF (tv g 10 * G2 kx).x)/\lp (vF (tv g 10 * G2 kx).y)/\true = true /\
    ∃ j:{x // InvDr c x},6 - j.1.1 < 6 - 4/\VDr (4 + 1) = VDr j.1.1/\HDr a b g (up2 (up2 o 4 (g 8) (g 9)) 4 (vF (tv g 4 + G2 (tv g 10 * G2 kx)).x) (vF (tv g 4 + G2 (tv g 10 * G2 kx)).y)) = HDr a b g j.1.2) ?_ (by kernel_rfl)
   refine ⟨by rw [hB,h2];rfl,hg _ (by decide),hg _ (by decide),lk.1,lk.2,hg _ (by decide),hg _ (by decide),lV _,lV _,rfl,⟨(4 + 1,(up2 (up2 o 4 (g 8) (g 9)) 4 (vF (tv g 4 + G2 (tv g 10 * G2 kx)).x) (vF (tv g 4 + G2 (tv g 10 * G2 kx)).y))),by simp only;omega,(ho.up (hg _ (by decide)) (hg _ (by decide))).up (lV _) (lV _),nxt (by decide) ht (fun j e=>by rw [tv_ne _ e,tv_ne _ e]) ?_⟩,by simp only;omega,rfl,rfl⟩
   rw [tv_same]
   refine (G2_eq _).trans ?_
   rw [G2_eq,G2_eq,hc 4 (by decide),hc 10 (by decide)]
   rfl
  ·refine rQ mxd tK gDk 200 [⟨15,8,.lit (.bo false)⟩] ?_
   refine same (p:=(!qL [g 20,g 21] zL2) = false/\true = true/\∃ j:{x // InvDr c x},6 - j.1.1 < 6 - 4/\VDr (4 + 1) = VDr j.1.1/\HDr a b g (up2 o 4 (g 8) (g 9)) = HDr a b g j.1.2) ?_ (by kernel_rfl)
   refine ⟨by rw [hB,h2];rfl,rfl,⟨(4 + 1,(up2 o 4 (g 8) (g 9))),by simp only;omega,ho.up (hg _ (by decide)) (hg _ (by decide)),nxt (by decide) ht (fun j e=>by rw [tv_ne _ e]) ?_⟩,by simp only;omega,rfl,rfl⟩
   rw [tv_same]
   show tv g 4 = c 4 + c 10 * kx
   rw [<-hc 10 (by decide),show tv g 10 = 0 from z2_eq h2,cr_zl,Rg.add_zero,hc 4 (by decide)]
 ·refine rQ mxd tK gDk 200 [] ?_
  refine same (p:=true = true/\∃ j:{x // InvDr c x},6 - j.1.1 < 6 - 5/\VDr (5 + 1) = VDr j.1.1/\HDr a b g (up2 o 5 (g 10) (g 11)) = HDr a b g j.1.2) ?_ (by kernel_rfl)
  refine ⟨rfl,⟨(5 + 1,(up2 o 5 (g 10) (g 11))),by simp only;omega,ho.up (hg _ (by decide)) (hg _ (by decide)),nxt (by decide) ht (fun j e=>by rw [tv_ne _ e]) ?_⟩,by simp only;omega,rfl,rfl⟩
  rw [tv_same]
  show tv g 5 = c 5
  rw [hc 5 (by decide)]
 ·refine rQ mxd tK gDk 100 [] ?_
  refine same (p:=true = true/\∃ j:{x // InvDr c x},j.1.1 = 6/\VDr 6 = VDr j.1.1/\HDr a b g o = HDr a b g j.1.2) ?_ (by kernel_rfl)
  exact ⟨rfl,⟨(6,o),h6,ho,ht⟩,rfl,rfl,rfl⟩
theorem okD12Mul:(CallC.pure (dd2 S12.mul)).Ok Tryz.prog 44:=by
 refine dd2_ok Tryz.func44 (by kernel_rfl) (by kernel_rfl) fun a0 a1 a2 a3 a4 a5 a6 a7 a8 a9 a10 a11 b0 b1 b2 b3 b4 b5 b6 b7 b8 b9 b10 b11 ha0 ha1 ha2 ha3 ha4 ha5 ha6 ha7 ha8 ha9 ha10 ha11 hb0 hb1 hb2 hb3 hb4 hb5 hb6 hb7 hb8 hb9 hb10 hb11=>?_
 obtain ⟨a,ea⟩:∃ a,a = of12 a0 a1 a2 a3 a4 a5 a6 a7 a8 a9 a10 a11:=⟨_,rfl⟩
 obtain ⟨b,eb⟩:∃ b,b = of12 b0 b1 b2 b3 b4 b5 b6 b7 b8 b9 b10 b11:=⟨_,rfl⟩
 have la:LtN 12 a:=by rw [ea];exact lt_of12 ha0 ha1 ha2 ha3 ha4 ha5 ha6 ha7 ha8 ha9 ha10 ha11
 have lb:LtN 12 b:=by rw [eb];exact lt_of12 hb0 hb1 hb2 hb3 hb4 hb5 hb6 hb7 hb8 hb9 hb10 hb11
 have da:g12 a0 a1 a2 a3 a4 a5 a6 a7 a8 a9 a10 a11 = g12 (a 0) (a 1) (a 2) (a 3) (a 4) (a 5) (a 6) (a 7) (a 8) (a 9) (a 10) (a 11):=by rw [ea];rfl
 have db:g12 b0 b1 b2 b3 b4 b5 b6 b7 b8 b9 b10 b11 = g12 (b 0) (b 1) (b 2) (b 3) (b 4) (b 5) (b 6) (b 7) (b 8) (b 9) (b 10) (b 11):=by rw [eb];rfl
 have ca:(AV.v1 (v12 a0 a1 a2 a3 a4 a5 a6 a7 a8 a9 a10 a11)) = .v1 (.agg (cs12 a)):=by rw [ea];rfl
 have cb:(AV.v1 (v12 b0 b1 b2 b3 b4 b5 b6 b7 b8 b9 b10 b11)) = .v1 (.agg (cs12 b)):=by rw [eb];rfl
 rw [da,db,ca,cb]
 refine loopK mxd tK gDk 0 (by kernel_rfl) (ι:={x // InvDo (tv a) (tv b) x}) [2,3,4,5,6] 79 4 (fun x=>VDo x.1.1) (fun x=>HDo a b x.1.2) (fun x=>6 - x.1.1) (fun x=>x.1.1 = 6)
  (fun _=>rfl) (fun _=>by kernel_rfl) (fun _ _ h=>h.elim) 100 [] ?_ ?_ ?_
 ·refine same (p:=true = true/\∃ j:{x // InvDo (tv a) (tv b) x},VDo 0 = VDo j.1.1/\HDo a b zz12 = HDo a b j.1.2) ?_ (by kernel_rfl)
  refine ⟨rfl,⟨(0,zz12),by simp,fun i hi=>zlt,fun j hj=>?_⟩,rfl,rfl⟩
  exact F2p.ext gN_z gN_z
 ·intro ⟨⟨i,g⟩,hi,hg,ht⟩ junk
  simp only at hi hg ht
  rcases (show i = 0∨i = 1∨i = 2∨i = 3∨i = 4∨i = 5∨i = 6 by omega) with rfl | rfl | rfl | rfl | rfl | rfl | rfl
  ·exact mulI0 la lb hg ht junk
  ·exact mulI1 la lb hg ht junk
  ·exact mulI2 la lb hg ht junk
  ·exact mulI3 la lb hg ht junk
  ·exact mulI4 la lb hg ht junk
  ·exact mulI5 la lb hg ht junk
  ·refine rQ mxd tK gDk 100 [] ?_
   refine same (p:=true = true/\∃ j:{x // InvDo (tv a) (tv b) x},j.1.1 = 6/\VDo 6 = VDo j.1.1/\HDo a b g = HDo a b j.1.2) ?_ (by kernel_rfl)
   exact ⟨rfl,⟨(6,g),hi,hg,ht⟩,rfl,rfl,rfl⟩
 ·intro ⟨⟨i,g⟩,hi,hg,ht⟩ junk h6
  simp only at hi hg ht h6
  subst h6
  refine loopK mxd tK gDk 0 (by kernel_rfl) (ι:={x // InvDr (cout (tv a) (tv b) 6) x}) [4,5,8,9] 79 5 (fun x=>VDr x.1.1) (fun x=>HDr a b g x.1.2) (fun x=>6 - x.1.1) (fun x=>x.1.1 = 6)
   (fun _=>rfl) (fun _=>by kernel_rfl) (fun _ _ h=>h.elim) 100 [] ?_ ?_ ?_
  ·refine same (p:=true = true/\∃ j:{x // InvDr (cout (tv a) (tv b) 6) x},VDr 0 = VDr j.1.1/\HDr a b g zz12 = HDr a b g j.1.2) ?_ (by kernel_rfl)
   exact ⟨rfl,⟨(0,zz12),by simp,fun i hi=>zlt,fun j hj=>by simp at hj⟩,rfl,rfl⟩
  ·intro ⟨⟨i,o⟩,hio⟩ junk
   exact mulR hg _ ht junk hio
  ·intro ⟨⟨i,o⟩,hi,ho,hr⟩ junk h6
   simp only at hi ho hr h6
   subst h6
   refine eSq mxd tK gDk 100 [] ?_
   refine same (p:=endN (.v1 (.agg (cs12 o))) (.v1 (n12 (S12.mul (g12 (a 0) (a 1) (a 2) (a 3) (a 4) (a 5) (a 6) (a 7) (a 8) (a 9) (a 10) (a 11)) (g12 (b 0) (b 1) (b 2) (b 3) (b 4) (b 5) (b 6) (b 7) (b 8) (b 9) (b 10) (b 11)))))) ?_ (by kernel_rfl)
   rw [<-res_mul hr]
   exact ⟨_,rfl,v12_val (v12K (ho 0 (by decide))) (v12K (ho 1 (by decide))) (v12K (ho 2 (by decide))) (v12K (ho 3 (by decide))) (v12K (ho 4 (by decide))) (v12K (ho 5 (by decide))) (v12K (ho 6 (by decide))) (v12K (ho 7 (by decide))) (v12K (ho 8 (by decide))) (v12K (ho 9 (by decide))) (v12K (ho 10 (by decide))) (v12K (ho 11 (by decide)))⟩
def cPw2 (F:F2p->Nat->F2p):List AV->Option (List Prop × AV)
 | [.v1 (.agg [.ws .u64 6 a,.ws .u64 6 b]),.v1 (.agg [.ws .u64 6 e])]=>some ([nv a < pN,nv b < pN],.v1 (n2 (F (g2 a b) (nv e))))
 | _=>none
def GPa:Ctx:=ctxL [(81,.pure (d2 (· * ·))),(141,.pure cLen),(182,.pure cBit)]
theorem GPa_ok:CtxOk Tryz.prog GPa:=cxC okD2Mul <| cxC okLen' <| cxC okBit' cxN
def VPa (k:Nat):List AV:=[pt 0 0,pt 1 0,pt 2 0,pt 3 0,iv (predI k)]
def HPa (a b e x y:Nat->Nat):Heap:=[b2 a b,nb e,b2 fz fz,b2 x y]
structure PaD where
 k:Nat
 x:Nat->Nat
 y:Nat->Nat
structure InvPa (z:F2p) (e:Nat) (d:PaD):Prop where
 hk:d.k <= 384
 hx:nv d.x < pN
 hy:nv d.y < pN
 hd:g2 d.x d.y = z ^ (e / 2 ^ d.k)
theorem g2_one:g2 (upd fz 0 1) fz = 1:=F2p.ext gN_u1 gN_z
theorem okPower2:(CallC.pure (cPw2 fun x n=>x ^ n)).Ok Tryz.prog 154:=by
 intro args pre v hh hp
 unfold cPw2 at hh
 split at hh
 ·rename_i a b e
  cases hh
  have ha:nv a < pN:=hp _ (by simp)
  have hb:nv b < pN:=hp _ (by simp)
  have hbl:=blen_le e
  refine pWk tK Tryz.func154 (by kernel_rfl) (by kernel_rfl) (by rfl) (by rfl) ?_
  refine loopF mxd tK GPa_ok (by kernel_rfl) (ι:={x // InvPa (g2 a b) (nv e) x}) [2,3,4,5,6] 28 4 (fun x=>VPa x.1.k) (fun x=>HPa a b e x.1.x x.1.y) (fun x=>x.1.k) (fun x=>x.1.k = 0)
   (fun _=>rfl) (fun _=>by kernel_rfl) (fun _ _ h=>h.elim) 60 [⟨2,2,.lit (.it (predI (blen (nv e))))⟩] ?_ ?_ ?_
  ·refine same (p:=wrapI (Int.ofNat (blen (nv e)) - 1) = predI (blen (nv e))/\true = true /\
    ∃ j:{x // InvPa (g2 a b) (nv e) x},VPa (blen (nv e)) = VPa j.1.k/\HPa a b e (upd fz 0 1) fz = HPa a b e j.1.x j.1.y) ?_ (by kernel_rfl)
   exact ⟨predI_eq (by omega),rfl,⟨⟨blen (nv e),(upd fz 0 1),fz⟩,hbl,by rw [nv_u1'];exact pN_pr.1,zlt,by rw [g2_one];exact pwS0⟩,rfl,rfl⟩
  ·intro ⟨⟨k,x,y⟩,⟨hk,hx,hy,ho⟩⟩ junk
   simp only at hk hx hy ho
   cases k with
   | zero =>
    refine rQ mxd tK GPa_ok 60 [] ?_
    refine same (p:=true = true/\∃ j:{x // InvPa (g2 a b) (nv e) x},j.1.k = 0/\VPa 0 = VPa j.1.k/\HPa a b e x y = HPa a b e j.1.x j.1.y) ?_ (by kernel_rfl)
    exact ⟨rfl,⟨⟨0,x,y⟩,hk,hx,hy,ho⟩,rfl,rfl,rfl⟩
   | succ k =>
    have hge:(!ilt (Int.ofNat k) 0) = true:=by rw [ilt_nn'];rfl
    have hs:wrapI (Int.ofNat k - 1) = predI k:=predI_eq (by omega)
    have next:∀ z:F2p,z = g2 a b ^ (nv e / 2 ^ k)->∃ j:{x // InvPa (g2 a b) (nv e) x},j.1.k < k + 1/\VPa k = VPa j.1.k/\HPa a b e (vF z.x) (vF z.y) = HPa a b e j.1.x j.1.y :=
     fun z h'=>⟨⟨⟨k,vF z.x,vF z.y⟩,by simp only;omega,lV _,lV _,(G2_eq z).trans h'⟩,by simp only;omega,rfl,rfl⟩
    have hbit:nv e / 2 ^ k % 2 = 0∨nv e / 2 ^ k % 2 = 1:=by omega
    rcases hbit with h0 | h0
    ·refine rQ mxd tK GPa_ok 60 [⟨3,1,.lit (.bo true)⟩,⟨6,3,.lit (.bo false)⟩,⟨4,1,.lit (.it (predI k))⟩] ?_
     refine same (p:=(!ilt (Int.ofNat k) 0) = true/\lp x/\lp y/\lp x/\lp y/\ieq (Int.ofNat (nv e / 2 ^ k % 2)) 1 = false/\wrapI (Int.ofNat k - 1) = predI k/\true = true /\
      ∃ j:{x // InvPa (g2 a b) (nv e) x},j.1.k < k + 1/\VPa k = VPa j.1.k/\HPa a b e (vF (g2 x y * g2 x y).x) (vF (g2 x y * g2 x y).y) = HPa a b e j.1.x j.1.y) ?_ (by kernel_rfl)
     exact ⟨hge,hx,hy,hx,hy,by rw [h0];rfl,hs,rfl,next _ (pw0 ho h0)⟩
    ·refine rQ mxd tK GPa_ok 60 [⟨3,1,.lit (.bo true)⟩,⟨6,3,.lit (.bo true)⟩,⟨4,1,.lit (.it (predI k))⟩] ?_
     refine same (p:=(!ilt (Int.ofNat k) 0) = true/\lp x/\lp y/\lp x/\lp y/\ieq (Int.ofNat (nv e / 2 ^ k % 2)) 1 = true/\lp (vF (g2 x y * g2 x y).x)/\lp (vF (g2 x y * g2 x y).y)/\lp a/\lp b/\wrapI (Int.ofNat k - 1) = predI k/\true = true /\
      ∃ j:{x // InvPa (g2 a b) (nv e) x},j.1.k < k + 1/\VPa k = VPa j.1.k/\HPa a b e (vF (G2 (g2 x y * g2 x y) * g2 a b).x) (vF (G2 (g2 x y * g2 x y) * g2 a b).y) = HPa a b e j.1.x j.1.y) ?_ (by kernel_rfl)
     exact ⟨hge,hx,hy,hx,hy,by rw [h0];rfl,lV _,lV _,ha,hb,hs,rfl,next _ (by rw [G2_eq];exact pw1 ho h0)⟩
  ·intro ⟨⟨k,x,y⟩,⟨hk,hx,hy,ho⟩⟩ junk h0
   simp only at hk hx hy ho h0
   subst h0
   refine same (p:=endN (f2 x y) (.v1 (n2 (g2 a b ^ nv e)))) ?_ (by kernel_rfl)
   rw [Nat.pow_zero,Nat.div_one] at ho
   exact end2 hx hy ho
 ·cases hh
theorem S12.mul_eq (x y:S12):S12.mul x y = x * y:=rfl
def nG12 (s:S12):Nat->Nat->Nat:=of12 (vF s.p.u.x) (vF s.p.u.y) (vF s.q.u.x) (vF s.q.u.y) (vF s.p.v.x) (vF s.p.v.y) (vF s.q.v.x) (vF s.q.v.y) (vF s.p.w.x) (vF s.p.w.y) (vF s.q.w.x) (vF s.q.w.y)
theorem nG12_lt (s:S12):LtN 12 (nG12 s):=lt_of12 (lV _) (lV _) (lV _) (lV _) (lV _) (lV _) (lV _) (lV _) (lV _) (lV _) (lV _) (lV _)
abbrev gv (g:Nat->Nat->Nat):S12:=g12 (g 0) (g 1) (g 2) (g 3) (g 4) (g 5) (g 6) (g 7) (g 8) (g 9) (g 10) (g 11)
theorem gv_n (s:S12):gv (nG12 s) = s:=G12_eq s
abbrev tE:Nat->Nat:=wd (dQ (nv (wd ((nv prF + R - nv (upd fz 0 1)) % R))) (nv (upd fz 0 6)))
theorem nv_tE:nv tE = (pN - 1) / 6:=by
 have hs:=pN_small
 have h1:=pN_pr.1
 have h6:nv (upd fz 0 6) = 6:=by kernel_rfl
 have hd:∀ x,dQ x 6 = x / 6:=fun x=>rfl
 unfold tE
 rw [h6,hd,nv_u1',nv_prime,<-less_gen (N:=1) (a:=pN) (by omega) pN_lt,nv_wd,nv_wd,Nat.mod_eq_of_lt (show pN - 1 < R by omega),Nat.mod_eq_of_lt (show (pN - 1) / 6 < R by omega)]
def tgG (c:F2p):Nat->F2p
 | 0=>g2 (upd fz 0 1) fz * G2 c
 | k + 1=>G2 (tgG c k) * G2 c
theorem okDTurn_of {F:F2p->Nat->F2p} (hF:(CallC.pure (cPw2 F)).Ok Tryz.prog 154) (hc:F (G2 kx) (nv tE) = tuK1):(CallC.pure (dd1 S12.turn)).Ok Tryz.prog 96:=by
 have GTn_ok:CtxOk Tryz.prog (ctxL [(136,.pure (cK prF)),(152,.pure cSub),(153,.pure cDiv2),(94,.pure (c2D kx)),(154,.pure (cPw2 F)),(155,.pure (d1 F2p.cj)),(81,.pure (d2 (· * ·)))]) :=
  cxC okBaseD <| cxC okSub' <| cxC (okDiv2_of okDiv') <| cxC okXi <| cxC hF <| cxC okD2Conj <| cxC okD2Mul cxN
 refine dd1_ok Tryz.func96 (by kernel_rfl) (by kernel_rfl) fun a0 a1 a2 a3 a4 a5 a6 a7 a8 a9 a10 a11 ha0 ha1 ha2 ha3 ha4 ha5 ha6 ha7 ha8 ha9 ha10 ha11=>?_
 have t0:g2 (upd fz 0 1) fz = tuK0:=g2_one.trans S12.tu_0.symm
 have hl:nv (upd fz 0 1) < pN:=by rw [nv_u1'];exact pN_pr.1
 refine eSq mxd tK GTn_ok 400 [] ?_
 refine same (p:=nv (vF kx.x) < pN/\lp (vF kx.y)/\lp a0/\lp a1/\lp (vF (F2p.cj (g2 a0 a1)).x)/\lp (vF (F2p.cj (g2 a0 a1)).y)/\lp (upd fz 0 1)/\lp fz/\lp (upd fz 0 1)/\lp fz/\lp (vF (F (G2 kx) (nv tE)).x)/\lp (vF (F (G2 kx) (nv tE)).y)/\lp a2/\lp a3/\lp (vF (F2p.cj (g2 a2 a3)).x)/\lp (vF (F2p.cj (g2 a2 a3)).y)/\lp (vF (tgG (F (G2 kx) (nv tE)) 0).x)/\lp (vF (tgG (F (G2 kx) (nv tE)) 0).y)/\lp (vF (tgG (F (G2 kx) (nv tE)) 0).x)/\lp (vF (tgG (F (G2 kx) (nv tE)) 0).y)/\lp (vF (F (G2 kx) (nv tE)).x)/\lp (vF (F (G2 kx) (nv tE)).y)/\lp a4/\lp a5/\lp (vF (F2p.cj (g2 a4 a5)).x)/\lp (vF (F2p.cj (g2 a4 a5)).y)/\lp (vF (tgG (F (G2 kx) (nv tE)) 1).x)/\lp (vF (tgG (F (G2 kx) (nv tE)) 1).y)/\lp (vF (tgG (F (G2 kx) (nv tE)) 1).x)/\lp (vF (tgG (F (G2 kx) (nv tE)) 1).y)/\lp (vF (F (G2 kx) (nv tE)).x)/\lp (vF (F (G2 kx) (nv tE)).y)/\lp a6/\lp a7/\lp (vF (F2p.cj (g2 a6 a7)).x)/\lp (vF (F2p.cj (g2 a6 a7)).y)/\lp (vF (tgG (F (G2 kx) (nv tE)) 2).x)/\lp (vF (tgG (F (G2 kx) (nv tE)) 2).y)/\lp (vF (tgG (F (G2 kx) (nv tE)) 2).x)/\lp (vF (tgG (F (G2 kx) (nv tE)) 2).y)/\lp (vF (F (G2 kx) (nv tE)).x)/\lp (vF (F (G2 kx) (nv tE)).y)/\lp a8/\lp a9/\lp (vF (F2p.cj (g2 a8 a9)).x)/\lp (vF (F2p.cj (g2 a8 a9)).y)/\lp (vF (tgG (F (G2 kx) (nv tE)) 3).x)/\lp (vF (tgG (F (G2 kx) (nv tE)) 3).y)/\lp (vF (tgG (F (G2 kx) (nv tE)) 3).x)/\lp (vF (tgG (F (G2 kx) (nv tE)) 3).y)/\lp (vF (F (G2 kx) (nv tE)).x)/\lp (vF (F (G2 kx) (nv tE)).y)/\lp a10/\lp a11/\lp (vF (F2p.cj (g2 a10 a11)).x)/\lp (vF (F2p.cj (g2 a10 a11)).y)/\lp (vF (tgG (F (G2 kx) (nv tE)) 4).x)/\lp (vF (tgG (F (G2 kx) (nv tE)) 4).y)/\lp (vF (tgG (F (G2 kx) (nv tE)) 4).x)/\lp (vF (tgG (F (G2 kx) (nv tE)) 4).y)/\lp (vF (F (G2 kx) (nv tE)).x)/\lp (vF (F (G2 kx) (nv tE)).y)/\endN (.v1 (v12 (vF (G2 (F2p.cj (g2 a0 a1)) * (g2 (upd fz 0 1) fz)).x) (vF (G2 (F2p.cj (g2 a0 a1)) * (g2 (upd fz 0 1) fz)).y) (vF (G2 (F2p.cj (g2 a2 a3)) * (G2 (tgG (F (G2 kx) (nv tE)) 0))).x) (vF (G2 (F2p.cj (g2 a2 a3)) * (G2 (tgG (F (G2 kx) (nv tE)) 0))).y) (vF (G2 (F2p.cj (g2 a4 a5)) * (G2 (tgG (F (G2 kx) (nv tE)) 1))).x) (vF (G2 (F2p.cj (g2 a4 a5)) * (G2 (tgG (F (G2 kx) (nv tE)) 1))).y) (vF (G2 (F2p.cj (g2 a6 a7)) * (G2 (tgG (F (G2 kx) (nv tE)) 2))).x) (vF (G2 (F2p.cj (g2 a6 a7)) * (G2 (tgG (F (G2 kx) (nv tE)) 2))).y) (vF (G2 (F2p.cj (g2 a8 a9)) * (G2 (tgG (F (G2 kx) (nv tE)) 3))).x) (vF (G2 (F2p.cj (g2 a8 a9)) * (G2 (tgG (F (G2 kx) (nv tE)) 3))).y) (vF (G2 (F2p.cj (g2 a10 a11)) * (G2 (tgG (F (G2 kx) (nv tE)) 4))).x) (vF (G2 (F2p.cj (g2 a10 a11)) * (G2 (tgG (F (G2 kx) (nv tE)) 4))).y))) (.v1 (n12 (S12.turn (g12 a0 a1 a2 a3 a4 a5 a6 a7 a8 a9 a10 a11))))) ?_ (by kernel_rfl)
 rw [hc]
 have g0:tgG tuK1 0 = tuK1:=by show g2 (upd fz 0 1) fz * G2 tuK1 = tuK1;rw [G2_eq,g2_one];exact Rg.one_mul _
 have g1:tgG tuK1 1 = tuK2:=by show G2 (tgG tuK1 0) * G2 tuK1 = tuK2;rw [G2_eq,G2_eq,g0];exact S12.tu_2
 have g2':tgG tuK1 2 = tuK3:=by show G2 (tgG tuK1 1) * G2 tuK1 = tuK3;rw [G2_eq,G2_eq,g1,Rg.mul_comm];exact S12.tu_3
 have g3:tgG tuK1 3 = tuK4:=by show G2 (tgG tuK1 2) * G2 tuK1 = tuK4;rw [G2_eq,G2_eq,g2',Rg.mul_comm];exact S12.tu_4
 have g4:tgG tuK1 4 = tuK5:=by show G2 (tgG tuK1 3) * G2 tuK1 = tuK5;rw [G2_eq,G2_eq,g3,Rg.mul_comm];exact S12.tu_5
 rw [t0]
 simp only [G2_eq,g0,g1,g2',g3,g4]
 exact ⟨lV _,lV _,ha0,ha1,lV _,lV _,hl,zlt,hl,zlt,lV _,lV _,ha2,ha3,lV _,lV _,lV _,lV _,lV _,lV _,lV _,lV _,ha4,ha5,lV _,lV _,lV _,lV _,lV _,lV _,lV _,lV _,ha6,ha7,lV _,lV _,lV _,lV _,lV _,lV _,lV _,lV _,ha8,ha9,lV _,lV _,lV _,lV _,lV _,lV _,lV _,lV _,ha10,ha11,lV _,lV _,lV _,lV _,lV _,lV _,lV _,lV _,_,rfl,fun _=>rfl⟩
theorem okDTurn:(CallC.pure (dd1 S12.turn)).Ok Tryz.prog 96:=okDTurn_of okPower2 (by rw [G2_eq,nv_tE];exact kx_pow)
theorem cr_fx {α:Type} [CR α] {a t:α} (e:a * t = a):a * (t - 1) = 0:=by grind
theorem cr_fy {α:Type} [CR α] {y:α} (e:0 - y = y):y + y = 0:=by grind
theorem cr_pt {α:Type} [CR α] (a b c:α):a * b * c = a * c * b:=by grind
theorem cr_uq2 {α:Type} [CR α] {a b s:α} (h:a * s = 1) (k:s * b = 1):a = b:=by
 have:a = a * (s * b):=by rw [k,Rg.mul_one]
 rw [this,<-Rg.mul_assoc,h,Rg.one_mul]
def cDFrob:List AV->Option (List Prop × AV)
 | [.v1 (.agg [.ws .u64 6 a0,.ws .u64 6 a1,.ws .u64 6 a2,.ws .u64 6 a3,.ws .u64 6 a4,.ws .u64 6 a5,.ws .u64 6 a6,.ws .u64 6 a7,.ws .u64 6 a8,.ws .u64 6 a9,.ws .u64 6 a10,.ws .u64 6 a11]),.v1 (.sc (.it n))]=>some ([nv a0 < pN,nv a1 < pN,nv a2 < pN,nv a3 < pN,nv a4 < pN,nv a5 < pN,nv a6 < pN,nv a7 < pN,nv a8 < pN,nv a9 < pN,nv a10 < pN,nv a11 < pN],.v1 (n12 (S12.turns (mq n) (g12 a0 a1 a2 a3 a4 a5 a6 a7 a8 a9 a10 a11))))
 | _=>none
def GFd:Ctx:=ctxL [(96,.pure (dd1 S12.turn))]
theorem GFd_ok:CtxOk Tryz.prog GFd:=cxC okDTurn cxN
def VFd (k:Nat):List AV:=[iv (Int.ofNat k),pt 0 0,pt 1 0]
def HFd (g:Nat->Nat->Nat):Heap:=[bE12 g,bE12 zz12]
structure InvFd (z:S12) (m:Nat) (d:Nat × (Nat->Nat->Nat)):Prop where
 hk:d.1 <= m
 hg:LtN 12 d.2
 hd:gv d.2 = S12.turns (m - d.1) z
theorem frob_walk {z:S12} {a:Nat->Nat->Nat} {n:Int} (la:LtN 12 a) (hz:gv a = z) {hs:List Hint} {pre:List Prop}
  (hm:mq n < 12)
  (st:evS Tryz.prog tt GFd 100 (preL (flatC (bodyOf Tryz.f47))) (fun e s _=>StartE [1,2,4] 18 2 (fun x:{x // InvFd z (mq n) x}=>VFd x.1.1) (fun x=>HFd x.1.2) (FEnd' tt Tryz.f47 (.v1 (n12 (S12.turns (mq n) z)))) e s) ⟨frame0 [.v1 (.agg (cs12 a)),.v1 (.sc (.it n))] Tryz.f47.ntmps,[]⟩ hs) :
  AWqS Tryz.prog (fun _=>False) (flatC (bodyOf Tryz.f47)) (FEnd' tt Tryz.f47 (.v1 (n12 (S12.turns (mq n) z)))) ⟨frame0 [.v1 (.agg (cs12 a)),.v1 (.sc (.it n))] Tryz.f47.ntmps,[]⟩:=by
 refine loopF mxd tK GFd_ok (by kernel_rfl) (ι:={x // InvFd z (mq n) x}) [1,2,4] 18 2 (fun x=>VFd x.1.1) (fun x=>HFd x.1.2) (fun x=>x.1.1) (fun x=>x.1.1 = 0)
  (fun _=>rfl) (fun _=>by kernel_rfl) (fun _ _ h=>h.elim) 100 hs st ?_ ?_
 ·intro ⟨⟨k,g⟩,⟨hk,hg,hd⟩⟩ junk
  simp only at hk hg hd
  cases k with
  | zero =>
   refine rQ mxd tK GFd_ok 60 [] ?_
   refine same (p:=true = true/\∃ j:{x // InvFd z (mq n) x},j.1.1 = 0/\VFd 0 = VFd j.1.1/\HFd g = HFd j.1.2) ?_ (by kernel_rfl)
   exact ⟨rfl,⟨(0,g),hk,hg,hd⟩,rfl,rfl,rfl⟩
  | succ k =>
   have hgt:ilt 0 (Int.ofNat (k + 1)) = true:=by rw [ilt_iff];simp only [Int.ofNat_eq_natCast];omega
   have hs:wrapI (Int.ofNat (k + 1) - 1) = Int.ofNat k:=by
    have:Int.ofNat (k + 1) - 1 = Int.ofNat k:=by simp only [Int.ofNat_eq_natCast];omega
    rw [this];exact wrapI_small (by omega)
   refine rQ mxd tK GFd_ok 100 [⟨4,1,.lit (.bo true)⟩,⟨5,1,.lit (.it (Int.ofNat k))⟩] ?_
   refine same (p:=ilt 0 (Int.ofNat (k + 1)) = true/\lp (g 0)/\lp (g 1)/\lp (g 2)/\lp (g 3)/\lp (g 4)/\lp (g 5)/\lp (g 6)/\lp (g 7)/\lp (g 8)/\lp (g 9)/\lp (g 10)/\lp (g 11)/\wrapI (Int.ofNat (k + 1) - 1) = Int.ofNat k/\true = true /\
    ∃ j:{x // InvFd z (mq n) x},j.1.1 < k + 1/\VFd k = VFd j.1.1/\HFd (nG12 (S12.turn (gv g))) = HFd j.1.2) ?_ (by kernel_rfl)
   refine ⟨hgt,hg 0 (by decide),hg 1 (by decide),hg 2 (by decide),hg 3 (by decide),hg 4 (by decide),hg 5 (by decide),hg 6 (by decide),hg 7 (by decide),hg 8 (by decide),hg 9 (by decide),hg 10 (by decide),hg 11 (by decide),hs,rfl,⟨(k,nG12 (S12.turn (gv g))),by simp only;omega,nG12_lt _,?_⟩,by simp only;omega,rfl,rfl⟩
   rw [gv_n,hd,show mq n - k = (mq n - (k + 1)) + 1 by omega]
   rfl
 ·intro ⟨⟨k,g⟩,⟨hk,hg,hd⟩⟩ junk h0
  simp only at hk hg hd h0
  subst h0
  refine same (p:=endN (.v1 (.agg (cs12 g))) (.v1 (n12 (S12.turns (mq n) z)))) ?_ (by kernel_rfl)
  rw [Nat.sub_zero] at hd
  rw [<-hd]
  exact ⟨_,rfl,v12_val (v12K (hg 0 (by decide))) (v12K (hg 1 (by decide))) (v12K (hg 2 (by decide))) (v12K (hg 3 (by decide))) (v12K (hg 4 (by decide))) (v12K (hg 5 (by decide))) (v12K (hg 6 (by decide))) (v12K (hg 7 (by decide))) (v12K (hg 8 (by decide))) (v12K (hg 9 (by decide))) (v12K (hg 10 (by decide))) (v12K (hg 11 (by decide)))⟩
theorem mq_neg {n:Int} (h:n.tmod 12 < 0):wrapI (n.tmod 12 + 12) = Int.ofNat (mq n):=by
 have h2:=tmod_low n
 unfold mq
 rw [wrapI_id (by omega) (by omega),Int.tmod_eq_emod_of_nonneg (a:=n.tmod 12 + 12) (by omega)]
 simp only [Int.ofNat_eq_natCast]
 omega
theorem mq_pos {n:Int} (h:¬ n.tmod 12 < 0):n.tmod 12 = Int.ofNat (mq n):=by
 have h1:=Int.tmod_lt_of_pos n (show (0:Int) < 12 by omega)
 unfold mq
 rw [Int.tmod_eq_emod_of_nonneg (a:=n.tmod 12 + 12) (by omega)]
 simp only [Int.ofNat_eq_natCast]
 omega
theorem okDFrob:(CallC.pure cDFrob).Ok Tryz.prog 47:=by
 intro args pre v e hp
 unfold cDFrob at e
 split at e
 ·rename_i a0 a1 a2 a3 a4 a5 a6 a7 a8 a9 a10 a11 n
  cases e
  have ha0:nv a0 < pN:=hp _ (by simp)
  have ha1:nv a1 < pN:=hp _ (by simp)
  have ha2:nv a2 < pN:=hp _ (by simp)
  have ha3:nv a3 < pN:=hp _ (by simp)
  have ha4:nv a4 < pN:=hp _ (by simp)
  have ha5:nv a5 < pN:=hp _ (by simp)
  have ha6:nv a6 < pN:=hp _ (by simp)
  have ha7:nv a7 < pN:=hp _ (by simp)
  have ha8:nv a8 < pN:=hp _ (by simp)
  have ha9:nv a9 < pN:=hp _ (by simp)
  have ha10:nv a10 < pN:=hp _ (by simp)
  have ha11:nv a11 < pN:=hp _ (by simp)
  refine pWk tK Tryz.func47 (by kernel_rfl) (by kernel_rfl) (by rfl) (by rfl) ?_
  obtain ⟨a,ea⟩:∃ a,a = of12 a0 a1 a2 a3 a4 a5 a6 a7 a8 a9 a10 a11:=⟨_,rfl⟩
  have la:LtN 12 a:=by rw [ea];exact lt_of12 ha0 ha1 ha2 ha3 ha4 ha5 ha6 ha7 ha8 ha9 ha10 ha11
  have da:g12 a0 a1 a2 a3 a4 a5 a6 a7 a8 a9 a10 a11 = gv a:=by rw [ea];rfl
  have ca:(AV.v1 (.agg [q6 a0,q6 a1,q6 a2,q6 a3,q6 a4,q6 a5,q6 a6,q6 a7,q6 a8,q6 a9,q6 a10,q6 a11])) = .v1 (.agg (cs12 a)):=by rw [ea];rfl
  rw [da,ca]
  have inv:InvFd (gv a) (mq n) (mq n,a):=⟨Nat.le_refl _,la,by simp only;rw [Nat.sub_self];rfl⟩
  by_cases hneg:n.tmod 12 < 0
  ·refine frob_walk (hs:=[⟨2,1,.lit (.bo true)⟩,⟨3,1,.lit (.it (Int.ofNat (mq n)))⟩]) (pre:=[]) la rfl (mq_lt n) ?_
   refine same (p:=ilt (n.tmod 12) 0 = true/\wrapI (n.tmod 12 + 12) = Int.ofNat (mq n)/\true = true/\∃ j:{x // InvFd (gv a) (mq n) x},VFd (mq n) = VFd j.1.1/\HFd a = HFd j.1.2) ?_ (by kernel_rfl)
   exact ⟨by rw [ilt_iff];exact hneg,mq_neg hneg,rfl,⟨_,inv⟩,rfl,rfl⟩
  ·refine frob_walk (hs:=[⟨1,1,.lit (.it (Int.ofNat (mq n)))⟩,⟨2,1,.lit (.bo false)⟩]) (pre:=[]) la rfl (mq_lt n) ?_
   refine same (p:=n.tmod 12 = Int.ofNat (mq n)/\ilt (Int.ofNat (mq n)) 0 = false/\true = true/\∃ j:{x // InvFd (gv a) (mq n) x},VFd (mq n) = VFd j.1.1/\HFd a = HFd j.1.2) ?_ (by kernel_rfl)
   exact ⟨mq_pos hneg,ilt_nn' _,rfl,⟨_,inv⟩,rfl,rfl⟩
 ·cases e
def prT (s:S12):Nat->S12
 | 0=>1
 | j + 1=>prT s j * S12.turns (j + 1) s
def S12.c1 (x:Fp):S12:=S12.c (F2p.c x)
theorem fixed {z:S12} (h:S12.turn z = z):∃ x,z = S12.c1 x:=by
 have h2:S12.tw2 z = z:=by rw [<-S12.two_turn,h,h]
 have k:∀ a t:F2p,a * S12.sk t = a->S12.sk t - 1 ≠ 0->a = 0:=fun a t e n=>(F2p.dom (cr_fx e)).resolve_right n
 have n1:S12.sk tuK1 - 1 ≠ 0:=fun e=>absurd (congrArg (fun q:F2p=>q.x.val) e) (by decide)
 have n2:S12.sk tuK2 - 1 ≠ 0:=fun e=>absurd (congrArg (fun q:F2p=>q.x.val) e) (by decide)
 have n3:S12.sk tuK3 - 1 ≠ 0:=fun e=>absurd (congrArg (fun q:F2p=>q.x.val) e) (by decide)
 have n4:S12.sk tuK4 - 1 ≠ 0:=fun e=>absurd (congrArg (fun q:F2p=>q.x.val) e) (by decide)
 have n5:S12.sk tuK5 - 1 ≠ 0:=fun e=>absurd (congrArg (fun q:F2p=>q.x.val) e) (by decide)
 have q1:=k _ _ (congrArg (fun s:S12=>s.q.u) h2) n1
 have q2:=k _ _ (congrArg (fun s:S12=>s.p.v) h2) n2
 have q3:=k _ _ (congrArg (fun s:S12=>s.q.v) h2) n3
 have q4:=k _ _ (congrArg (fun s:S12=>s.p.w) h2) n4
 have q5:=k _ _ (congrArg (fun s:S12=>s.q.w) h2) n5
 have h0:z.p.u.cj * tuK0 = z.p.u:=congrArg (fun s:S12=>s.p.u) h
 rw [S12.tu_0,Rg.mul_one] at h0
 have hy:0 - z.p.u.y = z.p.u.y:=congrArg F2p.y h0
 have y0:z.p.u.y = 0:=Classical.byContradiction fun hne=>two_ne hne (cr_fy hy)
 exact ⟨z.p.u.x,S12.ext (S6.ext (F2p.ext rfl y0) q2 q4) (S6.ext q1 q3 q5)⟩
theorem prT_turn (s:S12):∀ j,S12.turn (prT s j * s) = prT s j * S12.turns (j + 1) s
 | 0=>by
  show S12.turn (1 * s) = 1 * S12.turn s
  rw [Rg.one_mul,Rg.one_mul]
 | j + 1=>by
  show S12.turn (prT s j * S12.turns (j + 1) s * s) = prT s j * S12.turns (j + 1) s * S12.turn (S12.turns (j + 1) s)
  have e:prT s j * S12.turns (j + 1) s * s = prT s j * s * S12.turns (j + 1) s:=cr_pt _ _ _
  rw [e,S12.turn_mul,prT_turn s j]
theorem norm_fixed (s:S12):S12.turn (prT s 11 * s) = prT s 11 * s:=by
 rw [prT_turn s 11,S12.turns_twelve]
theorem pow_ne {s:S12} (h:s ≠ 0):∀ n:Nat,s ^ n ≠ 0:=fun n=>by
 induction n with
 | zero=>rw [Rg.pow_zero];exact fun e=>one_ne_0 (congrArg (fun q:S12=>q.p.u.x) e)
 | succ n ih=>rw [Rg.pow_succ];exact fun e=>by rcases S12.dom e with e | e <;> contradiction
theorem turn_ne {s:S12} (h:s ≠ 0):S12.turn s ≠ 0:=by
 have hp:=pow_ne h pN
 rw [S12.frob] at hp
 exact hp
theorem turns_ne {s:S12} (h:s ≠ 0):∀ n,S12.turns n s ≠ 0
 | 0=>h
 | n + 1=>turn_ne (turns_ne h n)
theorem prT_ne {s:S12} (h:s ≠ 0):∀ j,prT s j ≠ 0
 | 0=>fun e=>one_ne_0 (congrArg (fun q:S12=>q.p.u.x) e)
 | j + 1=>fun e=>by rcases S12.dom e with e | e;exact prT_ne h j e;exact turns_ne h _ e
theorem c1_mul (x y:Fp):S12.c1 x * S12.c1 y = S12.c1 (x * y):=by unfold S12.c1;rw [<-S12.c_mul,<-F2p.c_mul]
theorem inv_doc {s:S12} (h:s ≠ 0):S12.scal (F2p.c ((prT s 11 * s).p.u.x ^ (pN - 2))) (prT s 11) = S12.inv' s:=by
 obtain ⟨x,hx⟩:=fixed (norm_fixed s)
 have hx0:x ≠ 0:=fun e=>by
  have:prT s 11 * s = 0:=by rw [hx,e];rfl
  rcases S12.dom this with e | e
  ·exact prT_ne h 11 e
  ·exact h e
 have hn:(prT s 11 * s).p.u.x = x:=by rw [hx];rfl
 rw [hn,<-S12.c_scal]
 have h1:S12.c (F2p.c (x ^ (pN - 2))) * prT s 11 * s = 1:=by
  rw [Rg.mul_assoc,hx]
  show S12.c1 _ * S12.c1 x = 1
  rw [c1_mul,Rg.mul_comm (x ^ (pN - 2)),fp_inv hx0];rfl
 have h2:=S12.mul_inv h
 exact cr_uq2 h1 h2
def cDInv (D:Nat):List AV->Option (List Prop × AV)
 | [.v1 (.agg [.ws .u64 6 a0,.ws .u64 6 a1,.ws .u64 6 a2,.ws .u64 6 a3,.ws .u64 6 a4,.ws .u64 6 a5,.ws .u64 6 a6,.ws .u64 6 a7,.ws .u64 6 a8,.ws .u64 6 a9,.ws .u64 6 a10,.ws .u64 6 a11])]=>some ([nv a0 < pN,nv a1 < pN,nv a2 < pN,nv a3 < pN,nv a4 < pN,nv a5 < pN,nv a6 < pN,nv a7 < pN,nv a8 < pN,nv a9 < pN,nv a10 < pN,nv a11 < pN],.v1 (n12 (S12.scal (F2p.c ((prT (g12 a0 a1 a2 a3 a4 a5 a6 a7 a8 a9 a10 a11) 11 * g12 a0 a1 a2 a3 a4 a5 a6 a7 a8 a9 a10 a11).p.u.x ^ (pN - 2))) (prT (g12 a0 a1 a2 a3 a4 a5 a6 a7 a8 a9 a10 a11) 11))))
 | _=>none
def VDv (k:Nat):List AV:=[pt 0 0,pt 1 0,pt 3 0,pt 4 0,iv (Int.ofNat k)]
def HDv (a o x:Nat->Nat->Nat):Heap:=[bE12 a,bE12 zz12,none,bE12 o,bE12 x]
structure DvD where
 k:Nat
 o:Nat->Nat->Nat
 x:Nat->Nat->Nat
structure InvDv (s:S12) (d:DvD):Prop where
 hk:d.k <= 11
 lo:LtN 12 d.o
 lx:LtN 12 d.x
 ho:gv d.o = prT s d.k
 hx:gv d.x = S12.turns d.k s
def GDv:Ctx:=ctxL [(96,.pure (dd1 S12.turn)),(44,.pure (dd2 S12.mul)),(39,.pure (c12 (n12 1))),(76,.pure cP),(97,.pure (f1 fun x=>x ^ (pN - 2))),(81,.pure (d2 (· * ·)))]
theorem GDv_ok:CtxOk Tryz.prog GDv:=cxC okDTurn <| cxC okD12Mul <| cxC okD12One <| cxC okP <| cxC okFInv <| cxC okD2Mul cxN
theorem okDInv:(CallC.pure (cDInv 0)).Ok Tryz.prog 46:=by
 intro args pre v e hp
 unfold cDInv at e
 split at e
 ·rename_i a0 a1 a2 a3 a4 a5 a6 a7 a8 a9 a10 a11
  cases e
  have ha0:nv a0 < pN:=hp _ (by simp)
  have ha1:nv a1 < pN:=hp _ (by simp)
  have ha2:nv a2 < pN:=hp _ (by simp)
  have ha3:nv a3 < pN:=hp _ (by simp)
  have ha4:nv a4 < pN:=hp _ (by simp)
  have ha5:nv a5 < pN:=hp _ (by simp)
  have ha6:nv a6 < pN:=hp _ (by simp)
  have ha7:nv a7 < pN:=hp _ (by simp)
  have ha8:nv a8 < pN:=hp _ (by simp)
  have ha9:nv a9 < pN:=hp _ (by simp)
  have ha10:nv a10 < pN:=hp _ (by simp)
  have ha11:nv a11 < pN:=hp _ (by simp)
  refine pWk tK Tryz.func46 (by kernel_rfl) (by kernel_rfl) (by rfl) (by rfl) ?_
  obtain ⟨a,ea⟩:∃ a,a = of12 a0 a1 a2 a3 a4 a5 a6 a7 a8 a9 a10 a11:=⟨_,rfl⟩
  have la:LtN 12 a:=by rw [ea];exact lt_of12 ha0 ha1 ha2 ha3 ha4 ha5 ha6 ha7 ha8 ha9 ha10 ha11
  have da:g12 a0 a1 a2 a3 a4 a5 a6 a7 a8 a9 a10 a11 = gv a:=by rw [ea];rfl
  have ca:(AV.v1 (.agg [q6 a0,q6 a1,q6 a2,q6 a3,q6 a4,q6 a5,q6 a6,q6 a7,q6 a8,q6 a9,q6 a10,q6 a11])) = .v1 (.agg (cs12 a)):=by rw [ea];rfl
  rw [da,ca]
  refine loopK mxd tK GDv_ok 0 (by kernel_rfl) (ι:={x // InvDv (gv a) x}) [1,2,3,4,5] 42 5 (fun x=>VDv x.1.k) (fun x=>HDv a x.1.o x.1.x) (fun x=>11 - x.1.k) (fun x=>x.1.k = 11)
   (fun _=>rfl) (fun _=>by kernel_rfl) (fun _ _ h=>h.elim) 100 [] ?_ ?_ ?_
  ·refine same (p:=true = true/\∃ j:{x // InvDv (gv a) x},VDv 0 = VDv j.1.k/\HDv a (nG12 1) a = HDv a j.1.o j.1.x) ?_ (by kernel_rfl)
   exact ⟨rfl,⟨⟨0,nG12 1,a⟩,by simp,nG12_lt 1,la,gv_n 1,rfl⟩,rfl,rfl⟩
  ·intro ⟨⟨k,o,x⟩,⟨hk,lo,lx,ho,hx⟩⟩ junk
   simp only at hk lo lx ho hx
   by_cases hlt:k < 11
   ·have hge:ilt (Int.ofNat k) 11 = true:=by rw [ilt_iff];simp only [Int.ofNat_eq_natCast];omega
    have hs:wrapI (Int.ofNat k + 1) = Int.ofNat (k + 1):=wrapI_succ (by omega)
    refine rQ mxd tK GDv_ok 200 [⟨4,1,.lit (.bo true)⟩,⟨5,1,.lit (.it (Int.ofNat (k + 1)))⟩] ?_
    refine same (p:=ilt (Int.ofNat k) 11 = true/\lp (x 0)/\lp (x 1)/\lp (x 2)/\lp (x 3)/\lp (x 4)/\lp (x 5)/\lp (x 6)/\lp (x 7)/\lp (x 8)/\lp (x 9)/\lp (x 10)/\lp (x 11)/\lp (o 0)/\lp (o 1)/\lp (o 2)/\lp (o 3)/\lp (o 4)/\lp (o 5)/\lp (o 6)/\lp (o 7)/\lp (o 8)/\lp (o 9)/\lp (o 10)/\lp (o 11)/\vL12 (S12.turn (gv x)) (wrapI (Int.ofNat k + 1) = Int.ofNat (k + 1)/\true = true /\
     ∃ j:{x // InvDv (gv a) x},11 - j.1.k < 11 - k/\VDv (k + 1) = VDv j.1.k/\HDv a (nG12 (S12.mul (gv o) (G12 (S12.turn (gv x))))) (nG12 (S12.turn (gv x))) = HDv a j.1.o j.1.x)) ?_ (by kernel_rfl)
    refine ⟨hge,lx 0 (by decide),lx 1 (by decide),lx 2 (by decide),lx 3 (by decide),lx 4 (by decide),lx 5 (by decide),lx 6 (by decide),lx 7 (by decide),lx 8 (by decide),lx 9 (by decide),lx 10 (by decide),lx 11 (by decide),lo 0 (by decide),lo 1 (by decide),lo 2 (by decide),lo 3 (by decide),lo 4 (by decide),lo 5 (by decide),lo 6 (by decide),lo 7 (by decide),lo 8 (by decide),lo 9 (by decide),lo 10 (by decide),lo 11 (by decide),lV _,lV _,lV _,lV _,lV _,lV _,lV _,lV _,lV _,lV _,lV _,lV _,hs,rfl,⟨⟨k + 1,nG12 (S12.mul (gv o) (G12 (S12.turn (gv x)))),nG12 (S12.turn (gv x))⟩,by simp only;omega,nG12_lt _,nG12_lt _,?_,?_⟩,by simp only;omega,rfl,rfl⟩
    ·simp only;rw [gv_n,G12_eq,S12.mul_eq,ho,hx];rfl
    ·simp only;rw [gv_n,hx];rfl
   ·have hge:ilt (Int.ofNat k) 11 = false:=by rw [<-Bool.not_eq_true,ilt_iff];simp only [Int.ofNat_eq_natCast];omega
    refine rQ mxd tK GDv_ok 100 [⟨4,1,.lit (.bo false)⟩] ?_
    refine same (p:=ilt (Int.ofNat k) 11 = false/\true = true/\∃ j:{x // InvDv (gv a) x},j.1.k = 11/\VDv k = VDv j.1.k/\HDv a o x = HDv a j.1.o j.1.x) ?_ (by kernel_rfl)
    exact ⟨hge,rfl,⟨⟨k,o,x⟩,hk,lo,lx,ho,hx⟩,by simp only;omega,rfl,rfl⟩
  ·intro ⟨⟨k,o,x⟩,⟨hk,lo,lx,ho,hx⟩⟩ junk h11
   simp only at hk lo lx ho hx h11
   subst h11
   refine eSq mxd tK GDv_ok 300 [] ?_
   refine same (p:=nv (o 0) < pN/\lp (o 1)/\lp (o 2)/\lp (o 3)/\lp (o 4)/\lp (o 5)/\lp (o 6)/\lp (o 7)/\lp (o 8)/\lp (o 9)/\lp (o 10)/\lp (o 11)/\lp (a 0)/\lp (a 1)/\lp (a 2)/\lp (a 3)/\lp (a 4)/\lp (a 5)/\lp (a 6)/\lp (a 7)/\lp (a 8)/\lp (a 9)/\lp (a 10)/\lp (a 11)/\FOk prF 9940570264628428797 wideF/\lp (vF (S12.mul (gv o) (gv a)).p.u.x)/\lp (o 0)/\lp (o 1)/\lp (vF (gN (vF (S12.mul (gv o) (gv a)).p.u.x) ^ (pN - 2)))/\lp fz/\lp (o 2)/\lp (o 3)/\lp (vF (gN (vF (S12.mul (gv o) (gv a)).p.u.x) ^ (pN - 2)))/\lp fz/\lp (o 4)/\lp (o 5)/\lp (vF (gN (vF (S12.mul (gv o) (gv a)).p.u.x) ^ (pN - 2)))/\lp fz/\lp (o 6)/\lp (o 7)/\lp (vF (gN (vF (S12.mul (gv o) (gv a)).p.u.x) ^ (pN - 2)))/\lp fz/\lp (o 8)/\lp (o 9)/\lp (vF (gN (vF (S12.mul (gv o) (gv a)).p.u.x) ^ (pN - 2)))/\lp fz/\lp (o 10)/\lp (o 11)/\lp (vF (gN (vF (S12.mul (gv o) (gv a)).p.u.x) ^ (pN - 2)))/\lp fz/\endN (.v1 (v12 (vF (tv o 0 * g2 (vF (gN (vF (S12.mul (gv o) (gv a)).p.u.x) ^ (pN - 2))) fz).x) (vF (tv o 0 * g2 (vF (gN (vF (S12.mul (gv o) (gv a)).p.u.x) ^ (pN - 2))) fz).y) (vF (tv o 1 * g2 (vF (gN (vF (S12.mul (gv o) (gv a)).p.u.x) ^ (pN - 2))) fz).x) (vF (tv o 1 * g2 (vF (gN (vF (S12.mul (gv o) (gv a)).p.u.x) ^ (pN - 2))) fz).y) (vF (tv o 2 * g2 (vF (gN (vF (S12.mul (gv o) (gv a)).p.u.x) ^ (pN - 2))) fz).x) (vF (tv o 2 * g2 (vF (gN (vF (S12.mul (gv o) (gv a)).p.u.x) ^ (pN - 2))) fz).y) (vF (tv o 3 * g2 (vF (gN (vF (S12.mul (gv o) (gv a)).p.u.x) ^ (pN - 2))) fz).x) (vF (tv o 3 * g2 (vF (gN (vF (S12.mul (gv o) (gv a)).p.u.x) ^ (pN - 2))) fz).y) (vF (tv o 4 * g2 (vF (gN (vF (S12.mul (gv o) (gv a)).p.u.x) ^ (pN - 2))) fz).x) (vF (tv o 4 * g2 (vF (gN (vF (S12.mul (gv o) (gv a)).p.u.x) ^ (pN - 2))) fz).y) (vF (tv o 5 * g2 (vF (gN (vF (S12.mul (gv o) (gv a)).p.u.x) ^ (pN - 2))) fz).x) (vF (tv o 5 * g2 (vF (gN (vF (S12.mul (gv o) (gv a)).p.u.x) ^ (pN - 2))) fz).y))) (.v1 (n12 (S12.scal (F2p.c ((prT (gv a) 11 * gv a).p.u.x ^ (pN - 2))) (prT (gv a) 11))))) ?_ (by kernel_rfl)
   have hI:g2 (vF (gN (vF (S12.mul (gv o) (gv a)).p.u.x) ^ (pN - 2))) fz = F2p.c ((prT (gv a) 11 * gv a).p.u.x ^ (pN - 2)):=by
    refine F2p.ext ?_ gN_z
    show gN (vF (gN (vF (S12.mul (gv o) (gv a)).p.u.x) ^ (pN - 2))) = (prT (gv a) 11 * gv a).p.u.x ^ (pN - 2)
    rw [gN_vF,gN_vF,S12.mul_eq,ho]
   rw [hI,<-ho]
   generalize (F2p.c (((gv o) * gv a).p.u.x ^ (pN - 2))) = d
   have hm:∀ j,tv o j * d = d * tv o j:=fun j=>Rg.mul_comm _ _
   simp only [hm]
   exact ⟨lo 0 (by decide),lo 1 (by decide),lo 2 (by decide),lo 3 (by decide),lo 4 (by decide),lo 5 (by decide),lo 6 (by decide),lo 7 (by decide),lo 8 (by decide),lo 9 (by decide),lo 10 (by decide),lo 11 (by decide),la 0 (by decide),la 1 (by decide),la 2 (by decide),la 3 (by decide),la 4 (by decide),la 5 (by decide),la 6 (by decide),la 7 (by decide),la 8 (by decide),la 9 (by decide),la 10 (by decide),la 11 (by decide),pOk,lV _,lo 0 (by decide),lo 1 (by decide),lV _,zlt,lo 2 (by decide),lo 3 (by decide),lV _,zlt,lo 4 (by decide),lo 5 (by decide),lV _,zlt,lo 6 (by decide),lo 7 (by decide),lV _,zlt,lo 8 (by decide),lo 9 (by decide),lV _,zlt,lo 10 (by decide),lo 11 (by decide),lV _,zlt,_,rfl,fun _=>rfl⟩
 ·cases e
end Go.Proofs.YtnjocbcjejpklaaGreat
namespace Go.Rq
open Go
structure J3 (F:Type) where
 x:F
 y:F
 z:F
namespace J3
variable {F:Type} [CR F]
def dbl (p:J3 F):J3 F :=
 let yy:=p.y * p.y
 let s1:=p.x * yy
 let s2:=s1 + s1
 let s:=s2 + s2
 let m1:=p.x * p.x
 let m:=(m1 + m1) + m1
 let x:=m * m - (s + s)
 let e1:=yy * yy
 let e2:=e1 + e1
 let e3:=e2 + e2
 let z1:=p.y * p.z
 ⟨x,m * (s - x) - (e3 + e3),z1 + z1⟩
def nil:J3 F:=⟨1,1,0⟩
def gen (p q:J3 F):J3 F :=
 let pp:=p.z * p.z
 let qq:=q.z * q.z
 let u:=p.x * qq
 let v:=q.x * pp
 let s:=p.y * (qq * q.z)
 let t:=q.y * (pp * p.z)
 let h:=v - u
 let r:=t - s
 let hh:=h * h
 let hhh:=hh * h
 let w:=u * hh
 let x:=(r * r - hhh) - (w + w)
 ⟨x,r * (w - x) - s * hhh,h * (p.z * q.z)⟩
def hh (p q:J3 F):F:=q.x * (p.z * p.z) - p.x * (q.z * q.z)
def rr (p q:J3 F):F:=q.y * ((p.z * p.z) * p.z) - p.y * ((q.z * q.z) * q.z)
variable [DecidableEq F]
def add (p q:J3 F):J3 F:=if p.z = 0 then q else if q.z = 0 then p else if hh p q = 0 then (if rr p q = 0 then dbl p else nil) else gen p q
def times (p:J3 F):Nat->Nat->J3 F
 | 0,_=>nil
 | k + 1,n=>if n % 2 = 1 then add (dbl (times p k (n / 2))) p else dbl (times p k (n / 2))
end J3
structure A2 (F:Type) where
 x:F
 y:F
 z:Bool
namespace A2
variable {F:Type} [CR F] [DecidableEq F]
def on (b:F) (p:A2 F):Bool:=bif p.z then (decide (p.x = 0) && decide (p.y = 0)) else decide (p.y * p.y = p.x * p.x * p.x + b)
def raise (p:A2 F):J3 F:=bif p.z then J3.nil else ⟨p.x,p.y,1⟩
def lower (inv:F->F) (p:J3 F):A2 F:=if p.z = 0 then ⟨0,0,true⟩ else ⟨p.x * (inv p.z * inv p.z),p.y * ((inv p.z * inv p.z) * inv p.z),false⟩
def mulJ (p:A2 F) (n:Nat):J3 F:=J3.times (raise p) (blen n) n
def isIn (b:F) (r:Nat) (p:A2 F):Bool:=on b p && decide ((mulJ p r).z = 0)
end A2
instance:DecidableEq F2p:=fun a b =>
 if h1:a.x = b.x then (if h2:a.y = b.y then .isTrue (F2p.ext h1 h2) else .isFalse fun e=>h2 (by rw [e])) else .isFalse fun e=>h1 (by rw [e])
end Go.Rq
namespace Go.Proofs.YtnjocbcjejpklaaGreat
open Go.Rq Go
set_option maxRecDepth 100000
def asP (u cs:List Cell):Prop:=∀ ρ:Ren,(V1.agg u).val ρ = (V1.agg cs).val ρ
theorem cv_nil:∀ ρ:Ren,cvals ρ [] = cvals ρ []:=fun _=>rfl
theorem cvS {f g:Nat->Nat} {cs ds:List Cell} (h:nv f = nv g) (r:∀ ρ:Ren,cvals ρ cs = cvals ρ ds):∀ ρ:Ren,cvals ρ (q6 f :: cs) = cvals ρ (q6 g :: ds):=fun ρ=>by
 have e:=nm_val h ρ
 simp only [AV.val,V1.val,cvals,List.append_nil] at e
 simp only [cvals]
 rw [r ρ]
 congr 1
 exact congrArg Array.toList (Value.agg.inj e)
theorem cv_one {s:Sc} {cs ds:List Cell} (r:∀ ρ:Ren,cvals ρ cs = cvals ρ ds):∀ ρ:Ren,cvals ρ (.one s :: cs) = cvals ρ (.one s :: ds):=fun ρ=>by
 simp only [cvals];rw [r ρ]
theorem endC {cs ds:List Cell} (h:∀ ρ:Ren,cvals ρ cs = cvals ρ ds):endN (.v1 (.agg cs)) (.v1 (.agg ds)):=⟨_,rfl,fun ρ=>by simp only [AV.val,V1.val,h ρ]⟩
theorem l0Z:nv fz < pN:=by rw [zero_nv];exact pN_pos
theorem enc_0:enc 0 = 0:=(enc_of pN_pos (by rw [ofN_zero];show (0:Fp) = 0 * rr;rw [Fin.mul_comm];exact (Rg.mul_zero rr).symm)).symm
theorem dF_0:dF fz = 0:=by
 unfold dF
 rw [zero_nv,<-enc_0,dec_enc]
theorem nv_eF0:nv (eF 0) = 0:=by rw [nv_eF,enc_0]
theorem nv_one1:nv oneF = nv (eF 1):=by rw [one_enc,nv_eF]
theorem lt_one:nv oneF < pN:=by rw [one_enc];exact enc_lt 1
theorem nv_d {a:Nat->Nat} (h:nv a < pN):nv a = nv (eF (dF a)):=(eF_dF h).symm
theorem dF_inj {a b:Nat->Nat} (ha:nv a < pN) (hb:nv b < pN) (e:dF a = dF b):nv a = nv b:=by rw [nv_d ha,nv_d hb,e]
theorem eqE {a b:Nat->Nat} (ha:nv a < pN) (hb:nv b < pN):(eqN W 6 a b && true) = decide (dF a = dF b):=by
 rw [eqW_beq,Bool.eq_iff_iff,Nat.beq_eq,decide_eq_true_eq]
 exact ⟨fun e=>by unfold dF;rw [e],dF_inj ha hb⟩
theorem eqE_t {a b:Nat->Nat} (ha:nv a < pN) (hb:nv b < pN) (e:dF a = dF b):(eqN W 6 a b && true) = true:=by rw [eqE ha hb,e];exact decide_eq_true rfl
theorem eqE_f {a b:Nat->Nat} (ha:nv a < pN) (hb:nv b < pN) (e:dF a ≠ dF b):(eqN W 6 a b && true) = false:=by rw [eqE ha hb];exact decide_eq_false e
theorem zE_t {a:Nat->Nat} (ha:nv a < pN) (e:dF a = 0):(eqN W 6 a fz && true) = true:=eqE_t ha l0Z (by rw [e,dF_0])
theorem zE_f {a:Nat->Nat} (ha:nv a < pN) (e:dF a ≠ 0):(eqN W 6 a fz && true) = false:=eqE_f ha l0Z (by rw [dF_0];exact e)
theorem eqQ {a b c d:Nat->Nat} (ha:nv a < pN) (hb:nv b < pN) (hc:nv c < pN) (hd:nv d < pN):(eqN W 6 a c && (eqN W 6 b d && true)) = decide ((⟨dF a,dF b⟩:F2p) = ⟨dF c,dF d⟩):=by
 rw [eqE hb hd]
 have:=eqE ha hc
 rw [Bool.and_true] at this
 rw [this,Bool.eq_iff_iff,Bool.and_eq_true,decide_eq_true_eq,decide_eq_true_eq,decide_eq_true_eq,F2p.mk.injEq]
theorem eqQ_t {a b c d:Nat->Nat} (ha:nv a < pN) (hb:nv b < pN) (hc:nv c < pN) (hd:nv d < pN) (e:(⟨dF a,dF b⟩:F2p) = ⟨dF c,dF d⟩):(eqN W 6 a c && (eqN W 6 b d && true)) = true:=by rw [eqQ ha hb hc hd];exact decide_eq_true e
theorem eqQ_f {a b c d:Nat->Nat} (ha:nv a < pN) (hb:nv b < pN) (hc:nv c < pN) (hd:nv d < pN) (e:(⟨dF a,dF b⟩:F2p) ≠ ⟨dF c,dF d⟩):(eqN W 6 a c && (eqN W 6 b d && true)) = false:=by rw [eqQ ha hb hc hd];exact decide_eq_false e
theorem zQ_t {a b:Nat->Nat} (ha:nv a < pN) (hb:nv b < pN) (e:(⟨dF a,dF b⟩:F2p) = 0):(eqN W 6 a fz && (eqN W 6 b fz && true)) = true:=eqQ_t ha hb l0Z l0Z (by rw [e,dF_0];rfl)
theorem zQ_f {a b:Nat->Nat} (ha:nv a < pN) (hb:nv b < pN) (e:(⟨dF a,dF b⟩:F2p) ≠ 0):(eqN W 6 a fz && (eqN W 6 b fz && true)) = false:=eqQ_f ha hb l0Z l0Z (by rw [dF_0];exact e)
def F2p.sc (a:F2p) (n:Fp):F2p:=⟨a.x * n,a.y * n⟩
def F2p.ng' (a:F2p):F2p:=⟨0 - a.x,0 - a.y⟩
abbrev cells12 (s:S12):List Cell:=(eC12 s)
theorem d12_eF (s:S12):d12 (eF s.p.u.x) (eF s.p.u.y) (eF s.q.u.x) (eF s.q.u.y) (eF s.p.v.x) (eF s.p.v.y) (eF s.q.v.x) (eF s.q.v.y) (eF s.p.w.x) (eF s.p.w.y) (eF s.q.w.x) (eF s.q.w.y) = s:=by
 unfold d12 d6
 simp only [qE]
theorem asE {f g:Nat->Nat} (h:f = g):asP [q6 f] [q6 g]:=fun ρ=>by rw [h]
theorem asQ {f g f' g':Nat->Nat} (h:f = g) (h':f' = g'):asP [q6 f,q6 f'] [q6 g,q6 g']:=fun ρ=>by rw [h,h']
section
variable {A B C D:Nat->Nat}
theorem aME {s u t:Fp} (a:dF A = s) (b:dF B = u) (h:t = s * u):asP [q6 (eF (eMul (dF A) (dF B)))] [q6 (eF t)]:=asE (by rw [a,b,h];rfl)
theorem as_addE {s u t:Fp} (a:dF A = s) (b:dF B = u) (h:t = s + u):asP [q6 (eF (eAdd (dF A) (dF B)))] [q6 (eF t)]:=asE (by rw [a,b,h];rfl)
theorem as_subE {s u t:Fp} (a:dF A = s) (b:dF B = u) (h:t = s - u):asP [q6 (eF (eSub (dF A) (dF B)))] [q6 (eF t)]:=asE (by rw [a,b,h];rfl)
theorem as_invE {s t:Fp} (a:dF A = s) (h:t = eInv s):asP [q6 (eF (eInv (dF A)))] [q6 (eF t)]:=asE (by rw [a,h])
theorem aMQ {s u t:F2p} (a:dF A = s.x) (b:dF B = s.y) (c:dF C = u.x) (d:dF D = u.y) (h:t = s * u):asP (eD4 mul2x mul2y (dF A) (dF B) (dF C) (dF D)) (eC2 t):=asQ (by rw [a,b,c,d,h];rfl) (by rw [a,b,c,d,h];rfl)
theorem as_addQ {s u t:F2p} (a:dF A = s.x) (b:dF B = s.y) (c:dF C = u.x) (d:dF D = u.y) (h:t = s + u):asP (eD4 add2x add2y (dF A) (dF B) (dF C) (dF D)) (eC2 t):=asQ (by rw [a,b,c,d,h];rfl) (by rw [a,b,c,d,h];rfl)
theorem as_subQ {s u t:F2p} (a:dF A = s.x) (b:dF B = s.y) (c:dF C = u.x) (d:dF D = u.y) (h:t = s - u):asP (eD4 sub2x sub2y (dF A) (dF B) (dF C) (dF D)) (eC2 t):=asQ (by rw [a,b,c,d,h];rfl) (by rw [a,b,c,d,h];rfl)
theorem as_invQ {s t:F2p} (a:dF A = s.x) (b:dF B = s.y) (h:t = F2p.inv s):asP [q6 (eF (inv2x (dF A) (dF B))),q6 (eF (inv2y (dF A) (dF B)))] (eC2 t):=asQ (by rw [a,b,h];rfl) (by rw [a,b,h];rfl)
theorem as_negQ {s t:F2p} (a:dF A = s.x) (b:dF B = s.y) (h:t = F2p.ng' s):asP [q6 (eF (neg2x (dF A) (dF B))),q6 (eF (neg2y (dF A) (dF B)))] (eC2 t):=asQ (by rw [a,b,h];rfl) (by rw [a,b,h];rfl)
theorem as_scaleQ {s t:F2p} {n:Fp} (a:dF A = s.x) (b:dF B = s.y) (c:dF C = n) (h:t = F2p.sc s n):asP [q6 (eF (sc2x (dF A) (dF B) (dF C))),q6 (eF (sc2y (dF A) (dF B) (dF C)))] (eC2 t):=asQ (by rw [a,b,c,h];rfl) (by rw [a,b,c,h];rfl)
end
def of3 (a b c:Nat->Nat):Nat->Nat->Nat
 | 0=>a
 | 1=>b
 | _=>c
def of6 (a b c d e f:Nat->Nat):Nat->Nat->Nat
 | 0=>a
 | 1=>b
 | 2=>c
 | 3=>d
 | 4=>e
 | _=>f
abbrev csE (g:Nat->Nat->Nat):List Cell:=[q6 (g 0),q6 (g 1),q6 (g 2)]
abbrev csQ (g:Nat->Nat->Nat):List Cell:=[q6 (g 0),q6 (g 1),q6 (g 2),q6 (g 3),q6 (g 4),q6 (g 5)]
def JvE (g:Nat->Nat->Nat):J3 Fp:=⟨dF (g 0),dF (g 1),dF (g 2)⟩
def JvQ (g:Nat->Nat->Nat):J3 F2p:=⟨⟨dF (g 0),dF (g 1)⟩,⟨dF (g 2),dF (g 3)⟩,⟨dF (g 4),dF (g 5)⟩⟩
def selE (p:J3 Fp):Nat->Nat->Nat:=of3 (eF p.x) (eF p.y) (eF p.z)
def selQ (p:J3 F2p):Nat->Nat->Nat:=of6 (eF p.x.x) (eF p.x.y) (eF p.y.x) (eF p.y.y) (eF p.z.x) (eF p.z.y)
theorem JvE_sel (p:J3 Fp):JvE (selE p) = p:=by
 show (⟨dF (eF p.x),dF (eF p.y),dF (eF p.z)⟩:J3 Fp) = p
 rw [qE,qE,qE]
theorem JvQ_sel (p:J3 F2p):JvQ (selQ p) = p:=by
 show (⟨⟨dF (eF p.x.x),dF (eF p.x.y)⟩,⟨dF (eF p.y.x),dF (eF p.y.y)⟩,⟨dF (eF p.z.x),dF (eF p.z.y)⟩⟩:J3 F2p) = p
 rw [qE,qE,qE,qE,qE,qE]
def LtE (g:Nat->Nat->Nat):Prop:=nv (g 0) < pN/\nv (g 1) < pN/\nv (g 2) < pN
def LtQ (g:Nat->Nat->Nat):Prop:=nv (g 0) < pN/\nv (g 1) < pN/\nv (g 2) < pN/\nv (g 3) < pN/\nv (g 4) < pN/\nv (g 5) < pN
theorem LtE_of {a b c:Nat->Nat} (ha:nv a < pN) (hb:nv b < pN) (hc:nv c < pN):LtE (of3 a b c):=⟨ha,hb,hc⟩
theorem LtQ_of {a b c d e f:Nat->Nat} (ha:nv a < pN) (hb:nv b < pN) (hc:nv c < pN) (hd:nv d < pN) (he:nv e < pN) (hf:nv f < pN):LtQ (of6 a b c d e f):=⟨ha,hb,hc,hd,he,hf⟩
theorem on_f {F:Type} [CR F] [DecidableEq F] (b x y:F):A2.on b ⟨x,y,false⟩ = decide (y * y = x * x * x + b):=rfl
theorem on_t {F:Type} [CR F] [DecidableEq F] (b x y:F):A2.on b ⟨x,y,true⟩ = (decide (x = 0) && decide (y = 0)):=rfl
theorem JvE_of {a b c:Nat->Nat}:JvE (of3 a b c) = ⟨dF a,dF b,dF c⟩:=rfl
theorem JvQ_of {a b c d e f:Nat->Nat}:JvQ (of6 a b c d e f) = ⟨⟨dF a,dF b⟩,⟨dF c,dF d⟩,⟨dF e,dF f⟩⟩:=rfl
theorem LtE_sel (p:J3 Fp):LtE (selE p):=⟨lE _,lE _,lE _⟩
theorem LtQ_sel (p:J3 F2p):LtQ (selQ p):=⟨lE _,lE _,lE _,lE _,lE _,lE _⟩
theorem one_Q:(⟨dF oneF,dF fz⟩:F2p) = 1:=by rw [dF_one,dF_0];rfl
theorem zero_Q:(⟨dF fz,dF fz⟩:F2p) = 0:=by rw [dF_0];rfl
theorem blen_le' (e:Nat->Nat):blen (nv e) <= 384:=by
 have:=nv_lt e;rw [R_pow] at this
 have:=blen_lt this;rw [E_eq] at this;exact this
theorem ilt_nn2 (k:Nat):(!ilt (Int.ofNat k) 0) = true:=by rw [ilt_not (by simp)];rfl
theorem endB {b c:Bool} (h:b = c):endN (.v1 (.sc (.bo b))) (.v1 (.sc (.bo c))):=⟨_,rfl,fun _=>by rw [h]⟩
theorem nilQ:(J3.nil:J3 F2p) = ⟨1,1,0⟩:=rfl
theorem nilE:(J3.nil:J3 Fp) = ⟨1,1,0⟩:=rfl
theorem q1x:nv oneF = nv (eF (1:F2p).x):=by rw [F2p.one_x];exact nv_one1
theorem q1y:nv fz = nv (eF (1:F2p).y):=by rw [F2p.one_y,nv_eF0,zero_nv]
theorem q0x:nv fz = nv (eF (0:F2p).x):=by rw [F2p.zero_x,nv_eF0,zero_nv]
theorem q0y:nv fz = nv (eF (0:F2p).y):=by rw [F2p.zero_y,nv_eF0,zero_nv]
theorem e0x:nv fz = nv (eF 0):=by rw [nv_eF0,zero_nv]
theorem nv_t {s t:Fp} (h:s = t):nv (eF s) = nv (eF t):=by rw [h]
theorem nv_tx {s t:F2p} (h:s = t):nv (eF s.x) = nv (eF t.x):=by rw [h]
theorem nv_ty {s t:F2p} (h:s = t):nv (eF s.y) = nv (eF t.y):=by rw [h]
set_option maxHeartbeats 4000000
def tM (o:Bool) (a b:F2p):F2p:=bif o then ⟨a.x * b.x,0⟩ else a * b
def tmN:Nat->F2p->F2p
 | 0,_=>0
 | n + 1,a=>tmN n a + a
def dblM (m:F2p->F2p->F2p) (p:J3 F2p):J3 F2p :=
 if p.z = 0∨p.y = 0 then ⟨0,0,0⟩ else
 let yy:=m p.y p.y
 let s:=tmN 4 (m p.x yy)
 let k:=tmN 3 (m p.x p.x)
 let x:=m k k - tmN 2 s
 ⟨x,m k (s - x) - tmN 8 (m yy yy),tmN 2 (m p.y p.z)⟩
def addM (m:F2p->F2p->F2p) (t u:J3 F2p):J3 F2p :=
 if t.z = 0 then u else
 let zz:=m t.z t.z
 let h:=m u.x zz - t.x
 let k:=m u.y (m zz t.z) - t.y
 if h = 0 then (if k = 0 then dblM m t else ⟨0,0,0⟩) else
 let hh:=m h h
 let hhh:=m hh h
 let v:=m t.x hh
 let x:=m k k - hhh - tmN 2 v
 ⟨x,m k (v - x) - m t.y hhh,m t.z h⟩
theorem asD {u t:F2p} (h:u = t):asP (vC2 u) (vC2 t):=by subst h;exact fun _=>rfl
theorem gN_0 {f:Nat->Nat} (h:nv f < pN):gN f = 0↔nv f = 0:=by
 constructor
 ·intro e
  have:=congrArg Fin.val e
  have h2:(gN f).val = nv f:=by show nv f % pN = nv f;exact Nat.mod_eq_of_lt h
  rw [h2] at this
  exact this
 ·intro e
  unfold gN;rw [e];rfl
theorem eqz_iff {f:Nat->Nat} (h:nv f < pN):eqN W 6 f fz = true↔gN f = 0:=by
 rw [gN_0 h]
 have:=eqW_beq f fz
 rw [Bool.and_true] at this
 rw [this,Nat.beq_eq,zero_nv]
theorem zD_iff {a b:Nat->Nat} (ha:nv a < pN) (hb:nv b < pN):qL [a,b] zL2 = true↔g2 a b = 0:=by
 simp only [qL,Bool.and_true,Bool.and_eq_true,eqz_iff ha,eqz_iff hb]
 constructor
 ·rintro ⟨h1,h2⟩;exact F2p.ext h1 h2
 ·intro h;exact ⟨congrArg F2p.x h,congrArg F2p.y h⟩
theorem zD_t {a b:Nat->Nat} (ha:nv a < pN) (hb:nv b < pN) (h:g2 a b = 0):qL [a,b] zL2 = true:=(zD_iff ha hb).2 h
theorem zD_f {a b:Nat->Nat} (ha:nv a < pN) (hb:nv b < pN) (h:g2 a b ≠ 0):qL [a,b] zL2 = false:=by
 rw [<-Bool.not_eq_true];exact fun e=>h ((zD_iff ha hb).1 e)
theorem g2_z:g2 fz fz = 0:=F2p.ext gN_z gN_z
theorem g2V (s:F2p):g2 (vF s.x) (vF s.y) = s:=G2_eq s
theorem cv2i {a b:Nat->Nat} {t:F2p} {cs ds:List Cell} (ha:nv a < pN) (hb:nv b < pN) (h:g2 a b = t) (r:∀ ρ:Ren,cvals ρ cs = cvals ρ ds):∀ ρ:Ren,cvals ρ (q6 a :: q6 b :: cs) = cvals ρ (q6 (vF t.x) :: q6 (vF t.y) :: ds):=by
 subst h
 exact cvS (by rw [nv_vF];exact (Nat.mod_eq_of_lt ha).symm) (cvS (by rw [nv_vF];exact (Nat.mod_eq_of_lt hb).symm) r)
def tmC:List AV->Option (List Prop × AV)
 | [.v1 (.agg [.ws .u64 6 x0,.ws .u64 6 x1,.ws .u64 6 y0,.ws .u64 6 y1,.ws .u64 6 z0,.ws .u64 6 z1,.one (.bo o)]),.v1 (.agg [.ws .u64 6 a,.ws .u64 6 b]),.v1 (.agg [.ws .u64 6 c,.ws .u64 6 d])]=>some ([nv a < pN,nv b < pN,nv c < pN,nv d < pN],.v1 (n2 (tM o (g2 a b) (g2 c d))))
 | _=>none
def GQm:Ctx:=ctxL [(76,.pure cP),(77,.pure (fE2 (· * ·))),(81,.pure (d2 (· * ·)))]
theorem GQm_ok:CtxOk Tryz.prog GQm:=cxC okP <| cxC okFMul <| cxC okD2Mul cxN
theorem okTm:(CallC.pure tmC).Ok Tryz.prog 181:=by
 intro args pre v e hp
 unfold tmC at e
 split at e
 rotate_left
 ·cases e
 rename_i x0 x1 y0 y1 z0 z1 o a b c d
 cases e
 have ha:nv a < pN:=hp _ (by simp)
 have hb:nv b < pN:=hp _ (by simp)
 have hc:nv c < pN:=hp _ (by simp)
 have hd:nv d < pN:=hp _ (by simp)
 refine pWk tK Tryz.func181 (by kernel_rfl) (by kernel_rfl) (by rfl) (by rfl) ?_
 cases o
 ·refine eSq mxd tK GQm_ok 60 [] (same (p:=nv a < pN/\lp b/\lp c/\lp d/\endN (.v1 (n2 (g2 a b * g2 c d))) (.v1 (n2 (tM false (g2 a b) (g2 c d))))) ?_ (by kernel_rfl))
  exact ⟨ha,hb,hc,hd,_,rfl,fun _=>rfl⟩
 ·refine eSq mxd tK GQm_ok 60 [] (same (p:=FOk prF 9940570264628428797 wideF/\lp a/\lp c/\endN (.v1 (.agg [q6 (vF (gN a * gN c)),q6 fz])) (.v1 (n2 (tM true (g2 a b) (g2 c d))))) ?_ (by kernel_rfl))
  exact ⟨pOk,ha,hc,endC (cvS rfl (cvS z0V cv_nil))⟩
def GQt:Ctx:=ctxL [(93,.pure (d2 (· + ·)))]
theorem GQt_ok:CtxOk Tryz.prog GQt:=cxC okD2Add cxN
def tiC:List AV->Option (List Prop × AV)
 | [.v1 (.agg [.ws .u64 6 a,.ws .u64 6 b]),.v1 (.sc (.it (.ofNat n)))]=>some ([nv a < pN,nv b < pN,n = 2∨n = 3∨n = 4∨n = 8],.v1 (n2 (tmN n (g2 a b))))
 | _=>none
theorem okTi4:(CallC.pure tiC).Ok Tryz.prog 187:=by
 intro args pre v e hp
 unfold tiC at e
 split at e
 rotate_left
 ·cases e
 rename_i a b n
 cases e
 have ha:nv a < pN:=hp _ (by simp)
 have hb:nv b < pN:=hp _ (by simp)
 have hn:n = 2∨n = 3∨n = 4∨n = 8:=hp _ (by simp)
 rcases hn with rfl | rfl | rfl | rfl
 ·obtain ⟨t1,ht1⟩:=exq (0 + g2 a b)
  obtain ⟨t2,ht2⟩:=exq (t1 + g2 a b)
  refine pWk tK Tryz.func187 (by kernel_rfl) (by kernel_rfl) (by rfl) (by rfl) ?_
  refine eSq mxd tK GQt_ok 100 [⟨4,2,.as (vC2 t1)⟩,⟨4,2,.as (vC2 t2)⟩] ?_
  refine same (p:=asP (vC2 ((g2 fz fz) + g2 a b)) (vC2 t1)/\lp fz/\lp fz/\lp a/\lp b/\asP (vC2 ((g2 (vF t1.x) (vF t1.y)) + g2 a b)) (vC2 t2)/\lp (vF t1.x)/\lp (vF t1.y)/\lp a/\lp b/\endN (.v1 (.agg (vC2 t2))) (.v1 (n2 (tmN 2 (g2 a b))))) ?_ (by kernel_rfl)
  exact ⟨asD (by rw [g2_z];exact ht1.symm),l0Z,l0Z,ha,hb,asD (by rw [g2V];exact ht2.symm),lV _,lV _,ha,hb,by rw [show tmN 2 (g2 a b) = t2 by rw [ht2,ht1];rfl];exact ⟨_,rfl,fun _=>rfl⟩⟩
 ·obtain ⟨t1,ht1⟩:=exq (0 + g2 a b)
  obtain ⟨t2,ht2⟩:=exq (t1 + g2 a b)
  obtain ⟨t3,ht3⟩:=exq (t2 + g2 a b)
  refine pWk tK Tryz.func187 (by kernel_rfl) (by kernel_rfl) (by rfl) (by rfl) ?_
  refine eSq mxd tK GQt_ok 100 [⟨4,2,.as (vC2 t1)⟩,⟨4,2,.as (vC2 t2)⟩,⟨4,2,.as (vC2 t3)⟩] ?_
  refine same (p:=asP (vC2 ((g2 fz fz) + g2 a b)) (vC2 t1)/\lp fz/\lp fz/\lp a/\lp b/\asP (vC2 ((g2 (vF t1.x) (vF t1.y)) + g2 a b)) (vC2 t2)/\lp (vF t1.x)/\lp (vF t1.y)/\lp a/\lp b/\asP (vC2 ((g2 (vF t2.x) (vF t2.y)) + g2 a b)) (vC2 t3)/\lp (vF t2.x)/\lp (vF t2.y)/\lp a/\lp b/\endN (.v1 (.agg (vC2 t3))) (.v1 (n2 (tmN 3 (g2 a b))))) ?_ (by kernel_rfl)
  exact ⟨asD (by rw [g2_z];exact ht1.symm),l0Z,l0Z,ha,hb,asD (by rw [g2V];exact ht2.symm),lV _,lV _,ha,hb,asD (by rw [g2V];exact ht3.symm),lV _,lV _,ha,hb,by rw [show tmN 3 (g2 a b) = t3 by rw [ht3,ht2,ht1];rfl];exact ⟨_,rfl,fun _=>rfl⟩⟩
 ·obtain ⟨t1,ht1⟩:=exq (0 + g2 a b)
  obtain ⟨t2,ht2⟩:=exq (t1 + g2 a b)
  obtain ⟨t3,ht3⟩:=exq (t2 + g2 a b)
  obtain ⟨t4,ht4⟩:=exq (t3 + g2 a b)
  refine pWk tK Tryz.func187 (by kernel_rfl) (by kernel_rfl) (by rfl) (by rfl) ?_
  refine eSq mxd tK GQt_ok 100 [⟨4,2,.as (vC2 t1)⟩,⟨4,2,.as (vC2 t2)⟩,⟨4,2,.as (vC2 t3)⟩,⟨4,2,.as (vC2 t4)⟩] ?_
  refine same (p:=asP (vC2 ((g2 fz fz) + g2 a b)) (vC2 t1)/\lp fz/\lp fz/\lp a/\lp b/\asP (vC2 ((g2 (vF t1.x) (vF t1.y)) + g2 a b)) (vC2 t2)/\lp (vF t1.x)/\lp (vF t1.y)/\lp a/\lp b/\asP (vC2 ((g2 (vF t2.x) (vF t2.y)) + g2 a b)) (vC2 t3)/\lp (vF t2.x)/\lp (vF t2.y)/\lp a/\lp b/\asP (vC2 ((g2 (vF t3.x) (vF t3.y)) + g2 a b)) (vC2 t4)/\lp (vF t3.x)/\lp (vF t3.y)/\lp a/\lp b/\endN (.v1 (.agg (vC2 t4))) (.v1 (n2 (tmN 4 (g2 a b))))) ?_ (by kernel_rfl)
  exact ⟨asD (by rw [g2_z];exact ht1.symm),l0Z,l0Z,ha,hb,asD (by rw [g2V];exact ht2.symm),lV _,lV _,ha,hb,asD (by rw [g2V];exact ht3.symm),lV _,lV _,ha,hb,asD (by rw [g2V];exact ht4.symm),lV _,lV _,ha,hb,by rw [show tmN 4 (g2 a b) = t4 by rw [ht4,ht3,ht2,ht1];rfl];exact ⟨_,rfl,fun _=>rfl⟩⟩
 ·obtain ⟨t1,ht1⟩:=exq (0 + g2 a b)
  obtain ⟨t2,ht2⟩:=exq (t1 + g2 a b)
  obtain ⟨t3,ht3⟩:=exq (t2 + g2 a b)
  obtain ⟨t4,ht4⟩:=exq (t3 + g2 a b)
  obtain ⟨t5,ht5⟩:=exq (t4 + g2 a b)
  obtain ⟨t6,ht6⟩:=exq (t5 + g2 a b)
  obtain ⟨t7,ht7⟩:=exq (t6 + g2 a b)
  obtain ⟨t8,ht8⟩:=exq (t7 + g2 a b)
  refine pWk tK Tryz.func187 (by kernel_rfl) (by kernel_rfl) (by rfl) (by rfl) ?_
  refine eSq mxd tK GQt_ok 100 [⟨4,2,.as (vC2 t1)⟩,⟨4,2,.as (vC2 t2)⟩,⟨4,2,.as (vC2 t3)⟩,⟨4,2,.as (vC2 t4)⟩,⟨4,2,.as (vC2 t5)⟩,⟨4,2,.as (vC2 t6)⟩,⟨4,2,.as (vC2 t7)⟩,⟨4,2,.as (vC2 t8)⟩] ?_
  refine same (p:=asP (vC2 ((g2 fz fz) + g2 a b)) (vC2 t1)/\lp fz/\lp fz/\lp a/\lp b/\asP (vC2 ((g2 (vF t1.x) (vF t1.y)) + g2 a b)) (vC2 t2)/\lp (vF t1.x)/\lp (vF t1.y)/\lp a/\lp b/\asP (vC2 ((g2 (vF t2.x) (vF t2.y)) + g2 a b)) (vC2 t3)/\lp (vF t2.x)/\lp (vF t2.y)/\lp a/\lp b/\asP (vC2 ((g2 (vF t3.x) (vF t3.y)) + g2 a b)) (vC2 t4)/\lp (vF t3.x)/\lp (vF t3.y)/\lp a/\lp b/\asP (vC2 ((g2 (vF t4.x) (vF t4.y)) + g2 a b)) (vC2 t5)/\lp (vF t4.x)/\lp (vF t4.y)/\lp a/\lp b/\asP (vC2 ((g2 (vF t5.x) (vF t5.y)) + g2 a b)) (vC2 t6)/\lp (vF t5.x)/\lp (vF t5.y)/\lp a/\lp b/\asP (vC2 ((g2 (vF t6.x) (vF t6.y)) + g2 a b)) (vC2 t7)/\lp (vF t6.x)/\lp (vF t6.y)/\lp a/\lp b/\asP (vC2 ((g2 (vF t7.x) (vF t7.y)) + g2 a b)) (vC2 t8)/\lp (vF t7.x)/\lp (vF t7.y)/\lp a/\lp b/\endN (.v1 (.agg (vC2 t8))) (.v1 (n2 (tmN 8 (g2 a b))))) ?_ (by kernel_rfl)
  exact ⟨asD (by rw [g2_z];exact ht1.symm),l0Z,l0Z,ha,hb,asD (by rw [g2V];exact ht2.symm),lV _,lV _,ha,hb,asD (by rw [g2V];exact ht3.symm),lV _,lV _,ha,hb,asD (by rw [g2V];exact ht4.symm),lV _,lV _,ha,hb,asD (by rw [g2V];exact ht5.symm),lV _,lV _,ha,hb,asD (by rw [g2V];exact ht6.symm),lV _,lV _,ha,hb,asD (by rw [g2V];exact ht7.symm),lV _,lV _,ha,hb,asD (by rw [g2V];exact ht8.symm),lV _,lV _,ha,hb,by rw [show tmN 8 (g2 a b) = t8 by rw [ht8,ht7,ht6,ht5,ht4,ht3,ht2,ht1];rfl];exact ⟨_,rfl,fun _=>rfl⟩⟩
def GQ1:Ctx:=ctxL [(181,.pure tmC),(187,.pure tiC),(146,.pure (d2 (· - ·)))]
theorem GQ1_ok:CtxOk Tryz.prog GQ1:=cxC okTm <| cxC okTi4 <| cxC okD2Sub cxN
def n3 (p:J3 F2p) (o:Bool):V1:=.agg [q6 (vF p.x.x),q6 (vF p.x.y),q6 (vF p.y.x),q6 (vF p.y.y),q6 (vF p.z.x),q6 (vF p.z.y),.one (.bo o)]
def dbC:List AV->Option (List Prop × AV)
 | [.v1 (.agg [.ws .u64 6 x0,.ws .u64 6 x1,.ws .u64 6 y0,.ws .u64 6 y1,.ws .u64 6 z0,.ws .u64 6 z1,.one (.bo o)])]=>some ([nv x0 < pN,nv x1 < pN,nv y0 < pN,nv y1 < pN,nv z0 < pN,nv z1 < pN],.v1 (n3 (dblM (tM o) (⟨g2 x0 x1,g2 y0 y1,g2 z0 z1⟩:J3 F2p)) o))
 | _=>none
theorem okDb:(CallC.pure dbC).Ok Tryz.prog 179:=by
 intro args pre v e hp
 unfold dbC at e
 split at e
 rotate_left
 ·cases e
 rename_i x0 x1 y0 y1 z0 z1 o
 cases e
 have hx0:nv x0 < pN:=hp _ (by simp)
 have hx1:nv x1 < pN:=hp _ (by simp)
 have hy0:nv y0 < pN:=hp _ (by simp)
 have hy1:nv y1 < pN:=hp _ (by simp)
 have hz0:nv z0 < pN:=hp _ (by simp)
 have hz1:nv z1 < pN:=hp _ (by simp)
 refine pWk tK Tryz.func179 (by kernel_rfl) (by kernel_rfl) (by rfl) (by rfl) ?_
 by_cases hz:g2 z0 z1 = 0
 ·rw [show dblM (tM o) (⟨g2 x0 x1,g2 y0 y1,g2 z0 z1⟩:J3 F2p) = ⟨0,0,0⟩ from if_pos (.inl hz)]
  refine eSq mxd tK GQ1_ok 100 [⟨1,3,.lit (.bo true)⟩] (same (p:=qL [z0,z1] zL2 = true/\endN (.v1 (.agg [q6 fz,q6 fz,q6 fz,q6 fz,q6 fz,q6 fz,.one (.bo o)])) (.v1 (n3 ⟨0,0,0⟩ o))) ?_ (by kernel_rfl))
  exact ⟨zD_t hz0 hz1 hz,endC (cvS z0V (cvS z0V (cvS z0V (cvS z0V (cvS z0V (cvS z0V (cv_one cv_nil)))))))⟩
 by_cases hy:g2 y0 y1 = 0
 ·rw [show dblM (tM o) (⟨g2 x0 x1,g2 y0 y1,g2 z0 z1⟩:J3 F2p) = ⟨0,0,0⟩ from if_pos (.inr hy)]
  refine eSq mxd tK GQ1_ok 100 [⟨1,3,.lit (.bo false)⟩,⟨1,8,.lit (.bo true)⟩] (same (p:=qL [z0,z1] zL2 = false/\qL [y0,y1] zL2 = true/\endN (.v1 (.agg [q6 fz,q6 fz,q6 fz,q6 fz,q6 fz,q6 fz,.one (.bo o)])) (.v1 (n3 ⟨0,0,0⟩ o))) ?_ (by kernel_rfl))
  exact ⟨zD_f hz0 hz1 hz,zD_t hy0 hy1 hy,endC (cvS z0V (cvS z0V (cvS z0V (cvS z0V (cvS z0V (cvS z0V (cv_one cv_nil)))))))⟩
 obtain ⟨t1,ht1⟩:=exq (tM o (g2 y0 y1) (g2 y0 y1))
 obtain ⟨t2,ht2⟩:=exq (tM o (g2 x0 x1) t1)
 obtain ⟨t3,ht3⟩:=exq (tmN 4 t2)
 obtain ⟨t4,ht4⟩:=exq (tM o (g2 x0 x1) (g2 x0 x1))
 obtain ⟨t5,ht5⟩:=exq (tmN 3 t4)
 obtain ⟨t6,ht6⟩:=exq (tM o t5 t5)
 obtain ⟨t7,ht7⟩:=exq (tmN 2 t3)
 obtain ⟨t8,ht8⟩:=exq (t6 - t7)
 obtain ⟨t9,ht9⟩:=exq (t3 - t8)
 obtain ⟨t10,ht10⟩:=exq (tM o t5 t9)
 obtain ⟨t11,ht11⟩:=exq (tM o t1 t1)
 obtain ⟨t12,ht12⟩:=exq (tmN 8 t11)
 obtain ⟨t13,ht13⟩:=exq (t10 - t12)
 obtain ⟨t14,ht14⟩:=exq (tM o (g2 y0 y1) (g2 z0 z1))
 obtain ⟨t15,ht15⟩:=exq (tmN 2 t14)
 have hD:dblM (tM o) (⟨g2 x0 x1,g2 y0 y1,g2 z0 z1⟩:J3 F2p) = ⟨t8,t13,t15⟩:=by
  refine (if_neg (fun h=>h.elim hz hy)).trans ?_
  rw [ht15,ht14,ht13,ht12,ht11,ht10,ht9,ht8,ht7,ht6,ht5,ht4,ht3,ht2,ht1]
 refine eSq mxd tK GQ1_ok 100 [⟨1,3,.lit (.bo false)⟩,⟨1,8,.lit (.bo false)⟩,⟨3,5,.as (vC2 t1)⟩,⟨4,4,.as (vC2 t2)⟩,⟨4,5,.as (vC2 t3)⟩,⟨5,5,.as (vC2 t4)⟩,⟨5,6,.as (vC2 t5)⟩,⟨6,3,.as (vC2 t6)⟩,⟨6,5,.as (vC2 t7)⟩,⟨6,6,.as (vC2 t8)⟩,⟨7,4,.as (vC2 t9)⟩,⟨7,5,.as (vC2 t10)⟩,⟨7,9,.as (vC2 t11)⟩,⟨7,10,.as (vC2 t12)⟩,⟨7,11,.as (vC2 t13)⟩,⟨8,7,.as (vC2 t14)⟩,⟨8,8,.as (vC2 t15)⟩] ?_
 refine same (p:=qL [z0,z1] zL2 = false/\qL [y0,y1] zL2 = false/\asP (vC2 (tM o (g2 y0 y1) (g2 y0 y1))) (vC2 t1)/\lp y0/\lp y1/\lp y0/\lp y1/\asP (vC2 (tM o (g2 x0 x1) (g2 (vF t1.x) (vF t1.y)))) (vC2 t2)/\lp x0/\lp x1/\lp (vF t1.x)/\lp (vF t1.y)/\asP (vC2 (tmN 4 (g2 (vF t2.x) (vF t2.y)))) (vC2 t3)/\lp (vF t2.x)/\lp (vF t2.y)/\(4 = 2∨4 = 3∨4 = 4∨4 = 8)/\asP (vC2 (tM o (g2 x0 x1) (g2 x0 x1))) (vC2 t4)/\lp x0/\lp x1/\lp x0/\lp x1/\asP (vC2 (tmN 3 (g2 (vF t4.x) (vF t4.y)))) (vC2 t5)/\lp (vF t4.x)/\lp (vF t4.y)/\(3 = 2∨3 = 3∨3 = 4∨3 = 8)/\asP (vC2 (tM o (g2 (vF t5.x) (vF t5.y)) (g2 (vF t5.x) (vF t5.y)))) (vC2 t6)/\lp (vF t5.x)/\lp (vF t5.y)/\lp (vF t5.x)/\lp (vF t5.y)/\asP (vC2 (tmN 2 (g2 (vF t3.x) (vF t3.y)))) (vC2 t7)/\lp (vF t3.x)/\lp (vF t3.y)/\(2 = 2∨2 = 3∨2 = 4∨2 = 8)/\asP (vC2 ((g2 (vF t6.x) (vF t6.y)) - (g2 (vF t7.x) (vF t7.y)))) (vC2 t8)/\lp (vF t6.x)/\lp (vF t6.y)/\lp (vF t7.x)/\lp (vF t7.y)/\asP (vC2 ((g2 (vF t3.x) (vF t3.y)) - (g2 (vF t8.x) (vF t8.y)))) (vC2 t9)/\lp (vF t3.x)/\lp (vF t3.y)/\lp (vF t8.x)/\lp (vF t8.y)/\asP (vC2 (tM o (g2 (vF t5.x) (vF t5.y)) (g2 (vF t9.x) (vF t9.y)))) (vC2 t10)/\lp (vF t5.x)/\lp (vF t5.y)/\lp (vF t9.x)/\lp (vF t9.y)/\asP (vC2 (tM o (g2 (vF t1.x) (vF t1.y)) (g2 (vF t1.x) (vF t1.y)))) (vC2 t11)/\lp (vF t1.x)/\lp (vF t1.y)/\lp (vF t1.x)/\lp (vF t1.y)/\asP (vC2 (tmN 8 (g2 (vF t11.x) (vF t11.y)))) (vC2 t12)/\lp (vF t11.x)/\lp (vF t11.y)/\(8 = 2∨8 = 3∨8 = 4∨8 = 8)/\asP (vC2 ((g2 (vF t10.x) (vF t10.y)) - (g2 (vF t12.x) (vF t12.y)))) (vC2 t13)/\lp (vF t10.x)/\lp (vF t10.y)/\lp (vF t12.x)/\lp (vF t12.y)/\asP (vC2 (tM o (g2 y0 y1) (g2 z0 z1))) (vC2 t14)/\lp y0/\lp y1/\lp z0/\lp z1/\asP (vC2 (tmN 2 (g2 (vF t14.x) (vF t14.y)))) (vC2 t15)/\lp (vF t14.x)/\lp (vF t14.y)/\(2 = 2∨2 = 3∨2 = 4∨2 = 8)/\endN (.v1 (.agg [q6 (vF t8.x),q6 (vF t8.y),q6 (vF t13.x),q6 (vF t13.y),q6 (vF t15.x),q6 (vF t15.y),.one (.bo o)])) (.v1 (n3 (dblM (tM o) (⟨g2 x0 x1,g2 y0 y1,g2 z0 z1⟩:J3 F2p)) o))) ?_ (by kernel_rfl)
 exact ⟨zD_f hz0 hz1 hz,zD_f hy0 hy1 hy,asD ht1.symm,hy0,hy1,hy0,hy1,asD (by rw [g2V];exact ht2.symm),hx0,hx1,lV _,lV _,asD (by rw [g2V];exact ht3.symm),lV _,lV _,by decide,asD ht4.symm,hx0,hx1,hx0,hx1,asD (by rw [g2V];exact ht5.symm),lV _,lV _,by decide,asD (by rw [g2V];exact ht6.symm),lV _,lV _,lV _,lV _,asD (by rw [g2V];exact ht7.symm),lV _,lV _,by decide,asD (by rw [g2V,g2V];exact ht8.symm),lV _,lV _,lV _,lV _,asD (by rw [g2V,g2V];exact ht9.symm),lV _,lV _,lV _,lV _,asD (by rw [g2V,g2V];exact ht10.symm),lV _,lV _,lV _,lV _,asD (by rw [g2V];exact ht11.symm),lV _,lV _,lV _,lV _,asD (by rw [g2V];exact ht12.symm),lV _,lV _,by decide,asD (by rw [g2V,g2V];exact ht13.symm),lV _,lV _,lV _,lV _,asD ht14.symm,hy0,hy1,hz0,hz1,asD (by rw [g2V];exact ht15.symm),lV _,lV _,by decide,by rw [hD];exact ⟨_,rfl,fun _=>rfl⟩⟩
def GQ2:Ctx:=ctxL [(181,.pure tmC),(187,.pure tiC),(146,.pure (d2 (· - ·))),(179,.pure dbC)]
theorem GQ2_ok:CtxOk Tryz.prog GQ2:=cxC okTm <| cxC okTi4 <| cxC okD2Sub <| cxC okDb cxN
def adC:List AV->Option (List Prop × AV)
 | [.v1 (.agg [.ws .u64 6 x0,.ws .u64 6 x1,.ws .u64 6 y0,.ws .u64 6 y1,.ws .u64 6 z0,.ws .u64 6 z1,.one (.bo o)]),.v1 (.agg [.ws .u64 6 u0,.ws .u64 6 u1,.ws .u64 6 v0,.ws .u64 6 v1,.ws .u64 6 w0,.ws .u64 6 w1,.one (.bo q)])]=>some ([nv x0 < pN,nv x1 < pN,nv y0 < pN,nv y1 < pN,nv z0 < pN,nv z1 < pN,nv u0 < pN,nv u1 < pN,nv v0 < pN,nv v1 < pN,nv w0 < pN,nv w1 < pN,o = q],.v1 (n3 (addM (tM o) (⟨g2 x0 x1,g2 y0 y1,g2 z0 z1⟩:J3 F2p) (⟨g2 u0 u1,g2 v0 v1,g2 w0 w1⟩:J3 F2p)) o))
 | _=>none
theorem okAd4:(CallC.pure adC).Ok Tryz.prog 180:=by
 intro args pre v e hp
 unfold adC at e
 split at e
 rotate_left
 ·cases e
 rename_i x0 x1 y0 y1 z0 z1 o u0 u1 v0 v1 w0 w1 q
 cases e
 have hx0:nv x0 < pN:=hp _ (by simp)
 have hx1:nv x1 < pN:=hp _ (by simp)
 have hy0:nv y0 < pN:=hp _ (by simp)
 have hy1:nv y1 < pN:=hp _ (by simp)
 have hz0:nv z0 < pN:=hp _ (by simp)
 have hz1:nv z1 < pN:=hp _ (by simp)
 have hu0:nv u0 < pN:=hp _ (by simp)
 have hu1:nv u1 < pN:=hp _ (by simp)
 have hv0:nv v0 < pN:=hp _ (by simp)
 have hv1:nv v1 < pN:=hp _ (by simp)
 have hw0:nv w0 < pN:=hp _ (by simp)
 have hw1:nv w1 < pN:=hp _ (by simp)
 have ho:o = q:=hp (o = q) (by simp)
 subst ho
 refine pWk tK Tryz.func180 (by kernel_rfl) (by kernel_rfl) (by rfl) (by rfl) ?_
 by_cases hz:g2 z0 z1 = 0
 ·rw [show addM (tM o) (⟨g2 x0 x1,g2 y0 y1,g2 z0 z1⟩:J3 F2p) (⟨g2 u0 u1,g2 v0 v1,g2 w0 w1⟩:J3 F2p) = (⟨g2 u0 u1,g2 v0 v1,g2 w0 w1⟩:J3 F2p) from if_pos hz]
  refine eSq mxd tK GQ2_ok 100 [⟨1,3,.lit (.bo true)⟩] (same (p:=qL [z0,z1] zL2 = true/\endN (.v1 (.agg [q6 u0,q6 u1,q6 v0,q6 v1,q6 w0,q6 w1,.one (.bo o)])) (.v1 (n3 (⟨g2 u0 u1,g2 v0 v1,g2 w0 w1⟩:J3 F2p) o))) ?_ (by kernel_rfl))
  exact ⟨zD_t hz0 hz1 hz,endC (cv2i hu0 hu1 rfl (cv2i hv0 hv1 rfl (cv2i hw0 hw1 rfl (cv_one cv_nil))))⟩
 obtain ⟨t1,ht1⟩:=exq (tM o (g2 z0 z1) (g2 z0 z1))
 obtain ⟨t2,ht2⟩:=exq (tM o (g2 u0 u1) t1)
 obtain ⟨t3,ht3⟩:=exq (tM o t1 (g2 z0 z1))
 obtain ⟨t4,ht4⟩:=exq (tM o (g2 v0 v1) t3)
 obtain ⟨t5,ht5⟩:=exq (t2 - (g2 x0 x1))
 obtain ⟨t6,ht6⟩:=exq (t4 - (g2 y0 y1))
 have hA:addM (tM o) (⟨g2 x0 x1,g2 y0 y1,g2 z0 z1⟩:J3 F2p) (⟨g2 u0 u1,g2 v0 v1,g2 w0 w1⟩:J3 F2p) = (if t5 = 0 then (if t6 = 0 then dblM (tM o) (⟨g2 x0 x1,g2 y0 y1,g2 z0 z1⟩:J3 F2p) else ⟨0,0,0⟩) else ⟨tM o t6 t6 - tM o (tM o t5 t5) t5 - tmN 2 (tM o (g2 x0 x1) (tM o t5 t5)),tM o t6 (tM o (g2 x0 x1) (tM o t5 t5) - (tM o t6 t6 - tM o (tM o t5 t5) t5 - tmN 2 (tM o (g2 x0 x1) (tM o t5 t5)))) - tM o (g2 y0 y1) (tM o (tM o t5 t5) t5),tM o (g2 z0 z1) t5⟩):=by
  refine (if_neg hz).trans ?_
  rw [ht6,ht5,ht4,ht3,ht2,ht1]
 by_cases e1:t5 = 0
 ·by_cases e2:t6 = 0
  ·rw [hA,if_pos e1,if_pos e2]
   refine eSq mxd tK GQ2_ok 100 [⟨1,3,.lit (.bo false)⟩,⟨3,5,.as (vC2 t1)⟩,⟨4,4,.as (vC2 t2)⟩,⟨5,7,.as (vC2 t3)⟩,⟨5,8,.as (vC2 t4)⟩,⟨6,3,.as (vC2 t5)⟩,⟨7,3,.as (vC2 t6)⟩,⟨8,2,.lit (.bo true)⟩,⟨9,2,.lit (.bo true)⟩] ?_
   refine same (p:=qL [z0,z1] zL2 = false/\asP (vC2 (tM o (g2 z0 z1) (g2 z0 z1))) (vC2 t1)/\lp z0/\lp z1/\lp z0/\lp z1/\asP (vC2 (tM o (g2 u0 u1) (g2 (vF t1.x) (vF t1.y)))) (vC2 t2)/\lp u0/\lp u1/\lp (vF t1.x)/\lp (vF t1.y)/\asP (vC2 (tM o (g2 (vF t1.x) (vF t1.y)) (g2 z0 z1))) (vC2 t3)/\lp (vF t1.x)/\lp (vF t1.y)/\lp z0/\lp z1/\asP (vC2 (tM o (g2 v0 v1) (g2 (vF t3.x) (vF t3.y)))) (vC2 t4)/\lp v0/\lp v1/\lp (vF t3.x)/\lp (vF t3.y)/\asP (vC2 ((g2 (vF t2.x) (vF t2.y)) - (g2 x0 x1))) (vC2 t5)/\lp (vF t2.x)/\lp (vF t2.y)/\lp x0/\lp x1/\asP (vC2 ((g2 (vF t4.x) (vF t4.y)) - (g2 y0 y1))) (vC2 t6)/\lp (vF t4.x)/\lp (vF t4.y)/\lp y0/\lp y1/\qL [(vF t5.x),(vF t5.y)] zL2 = true/\qL [(vF t6.x),(vF t6.y)] zL2 = true/\lp x0/\lp x1/\lp y0/\lp y1/\lp z0/\lp z1/\endN (.v1 (n3 (dblM (tM o) (⟨g2 x0 x1,g2 y0 y1,g2 z0 z1⟩:J3 F2p)) o)) (.v1 (n3 (dblM (tM o) (⟨g2 x0 x1,g2 y0 y1,g2 z0 z1⟩:J3 F2p)) o))) ?_ (by kernel_rfl)
   exact ⟨zD_f hz0 hz1 hz,asD ht1.symm,hz0,hz1,hz0,hz1,asD (by rw [g2V];exact ht2.symm),hu0,hu1,lV _,lV _,asD (by rw [g2V];exact ht3.symm),lV _,lV _,hz0,hz1,asD (by rw [g2V];exact ht4.symm),hv0,hv1,lV _,lV _,asD (by rw [g2V];exact ht5.symm),lV _,lV _,hx0,hx1,asD (by rw [g2V];exact ht6.symm),lV _,lV _,hy0,hy1,zD_t (lV _) (lV _) (by rw [g2V];exact e1),zD_t (lV _) (lV _) (by rw [g2V];exact e2),hx0,hx1,hy0,hy1,hz0,hz1,_,rfl,fun _=>rfl⟩
  ·rw [hA,if_pos e1,if_neg e2]
   refine eSq mxd tK GQ2_ok 100 [⟨1,3,.lit (.bo false)⟩,⟨3,5,.as (vC2 t1)⟩,⟨4,4,.as (vC2 t2)⟩,⟨5,7,.as (vC2 t3)⟩,⟨5,8,.as (vC2 t4)⟩,⟨6,3,.as (vC2 t5)⟩,⟨7,3,.as (vC2 t6)⟩,⟨8,2,.lit (.bo true)⟩,⟨9,2,.lit (.bo false)⟩] ?_
   refine same (p:=qL [z0,z1] zL2 = false/\asP (vC2 (tM o (g2 z0 z1) (g2 z0 z1))) (vC2 t1)/\lp z0/\lp z1/\lp z0/\lp z1/\asP (vC2 (tM o (g2 u0 u1) (g2 (vF t1.x) (vF t1.y)))) (vC2 t2)/\lp u0/\lp u1/\lp (vF t1.x)/\lp (vF t1.y)/\asP (vC2 (tM o (g2 (vF t1.x) (vF t1.y)) (g2 z0 z1))) (vC2 t3)/\lp (vF t1.x)/\lp (vF t1.y)/\lp z0/\lp z1/\asP (vC2 (tM o (g2 v0 v1) (g2 (vF t3.x) (vF t3.y)))) (vC2 t4)/\lp v0/\lp v1/\lp (vF t3.x)/\lp (vF t3.y)/\asP (vC2 ((g2 (vF t2.x) (vF t2.y)) - (g2 x0 x1))) (vC2 t5)/\lp (vF t2.x)/\lp (vF t2.y)/\lp x0/\lp x1/\asP (vC2 ((g2 (vF t4.x) (vF t4.y)) - (g2 y0 y1))) (vC2 t6)/\lp (vF t4.x)/\lp (vF t4.y)/\lp y0/\lp y1/\qL [(vF t5.x),(vF t5.y)] zL2 = true/\qL [(vF t6.x),(vF t6.y)] zL2 = false/\endN (.v1 (.agg [q6 fz,q6 fz,q6 fz,q6 fz,q6 fz,q6 fz,.one (.bo o)])) (.v1 (n3 ⟨0,0,0⟩ o))) ?_ (by kernel_rfl)
   exact ⟨zD_f hz0 hz1 hz,asD ht1.symm,hz0,hz1,hz0,hz1,asD (by rw [g2V];exact ht2.symm),hu0,hu1,lV _,lV _,asD (by rw [g2V];exact ht3.symm),lV _,lV _,hz0,hz1,asD (by rw [g2V];exact ht4.symm),hv0,hv1,lV _,lV _,asD (by rw [g2V];exact ht5.symm),lV _,lV _,hx0,hx1,asD (by rw [g2V];exact ht6.symm),lV _,lV _,hy0,hy1,zD_t (lV _) (lV _) (by rw [g2V];exact e1),zD_f (lV _) (lV _) (by rw [g2V];exact e2),endC (cvS z0V (cvS z0V (cvS z0V (cvS z0V (cvS z0V (cvS z0V (cv_one cv_nil)))))))⟩
 ·rw [hA,if_neg e1]
  obtain ⟨t7,ht7⟩:=exq (tM o t5 t5)
  obtain ⟨t8,ht8⟩:=exq (tM o t7 t5)
  obtain ⟨t9,ht9⟩:=exq (tM o (g2 x0 x1) t7)
  obtain ⟨t10,ht10⟩:=exq (tM o t6 t6)
  obtain ⟨t11,ht11⟩:=exq (t10 - t8)
  obtain ⟨t12,ht12⟩:=exq (tmN 2 t9)
  obtain ⟨t13,ht13⟩:=exq (t11 - t12)
  obtain ⟨t14,ht14⟩:=exq (t9 - t13)
  obtain ⟨t15,ht15⟩:=exq (tM o t6 t14)
  obtain ⟨t16,ht16⟩:=exq (tM o (g2 y0 y1) t8)
  obtain ⟨t17,ht17⟩:=exq (t15 - t16)
  obtain ⟨t18,ht18⟩:=exq (tM o (g2 z0 z1) t5)
  rw [<-ht7,<-ht8,<-ht9,<-ht10,<-ht11,<-ht12,<-ht13,<-ht14,<-ht15,<-ht16,<-ht17,<-ht18]
  refine eSq mxd tK GQ2_ok 100 [⟨1,3,.lit (.bo false)⟩,⟨3,5,.as (vC2 t1)⟩,⟨4,4,.as (vC2 t2)⟩,⟨5,7,.as (vC2 t3)⟩,⟨5,8,.as (vC2 t4)⟩,⟨6,3,.as (vC2 t5)⟩,⟨7,3,.as (vC2 t6)⟩,⟨8,2,.lit (.bo false)⟩,⟨12,3,.as (vC2 t7)⟩,⟨13,3,.as (vC2 t8)⟩,⟨14,4,.as (vC2 t9)⟩,⟨15,3,.as (vC2 t10)⟩,⟨15,5,.as (vC2 t11)⟩,⟨15,7,.as (vC2 t12)⟩,⟨15,8,.as (vC2 t13)⟩,⟨16,4,.as (vC2 t14)⟩,⟨16,5,.as (vC2 t15)⟩,⟨16,10,.as (vC2 t16)⟩,⟨16,11,.as (vC2 t17)⟩,⟨17,6,.as (vC2 t18)⟩] ?_
  refine same (p:=qL [z0,z1] zL2 = false/\asP (vC2 (tM o (g2 z0 z1) (g2 z0 z1))) (vC2 t1)/\lp z0/\lp z1/\lp z0/\lp z1/\asP (vC2 (tM o (g2 u0 u1) (g2 (vF t1.x) (vF t1.y)))) (vC2 t2)/\lp u0/\lp u1/\lp (vF t1.x)/\lp (vF t1.y)/\asP (vC2 (tM o (g2 (vF t1.x) (vF t1.y)) (g2 z0 z1))) (vC2 t3)/\lp (vF t1.x)/\lp (vF t1.y)/\lp z0/\lp z1/\asP (vC2 (tM o (g2 v0 v1) (g2 (vF t3.x) (vF t3.y)))) (vC2 t4)/\lp v0/\lp v1/\lp (vF t3.x)/\lp (vF t3.y)/\asP (vC2 ((g2 (vF t2.x) (vF t2.y)) - (g2 x0 x1))) (vC2 t5)/\lp (vF t2.x)/\lp (vF t2.y)/\lp x0/\lp x1/\asP (vC2 ((g2 (vF t4.x) (vF t4.y)) - (g2 y0 y1))) (vC2 t6)/\lp (vF t4.x)/\lp (vF t4.y)/\lp y0/\lp y1/\qL [(vF t5.x),(vF t5.y)] zL2 = false/\asP (vC2 (tM o (g2 (vF t5.x) (vF t5.y)) (g2 (vF t5.x) (vF t5.y)))) (vC2 t7)/\lp (vF t5.x)/\lp (vF t5.y)/\lp (vF t5.x)/\lp (vF t5.y)/\asP (vC2 (tM o (g2 (vF t7.x) (vF t7.y)) (g2 (vF t5.x) (vF t5.y)))) (vC2 t8)/\lp (vF t7.x)/\lp (vF t7.y)/\lp (vF t5.x)/\lp (vF t5.y)/\asP (vC2 (tM o (g2 x0 x1) (g2 (vF t7.x) (vF t7.y)))) (vC2 t9)/\lp x0/\lp x1/\lp (vF t7.x)/\lp (vF t7.y)/\asP (vC2 (tM o (g2 (vF t6.x) (vF t6.y)) (g2 (vF t6.x) (vF t6.y)))) (vC2 t10)/\lp (vF t6.x)/\lp (vF t6.y)/\lp (vF t6.x)/\lp (vF t6.y)/\asP (vC2 ((g2 (vF t10.x) (vF t10.y)) - (g2 (vF t8.x) (vF t8.y)))) (vC2 t11)/\lp (vF t10.x)/\lp (vF t10.y)/\lp (vF t8.x)/\lp (vF t8.y)/\asP (vC2 (tmN 2 (g2 (vF t9.x) (vF t9.y)))) (vC2 t12)/\lp (vF t9.x)/\lp (vF t9.y)/\(2 = 2∨2 = 3∨2 = 4∨2 = 8)/\asP (vC2 ((g2 (vF t11.x) (vF t11.y)) - (g2 (vF t12.x) (vF t12.y)))) (vC2 t13)/\lp (vF t11.x)/\lp (vF t11.y)/\lp (vF t12.x)/\lp (vF t12.y)/\asP (vC2 ((g2 (vF t9.x) (vF t9.y)) - (g2 (vF t13.x) (vF t13.y)))) (vC2 t14)/\lp (vF t9.x)/\lp (vF t9.y)/\lp (vF t13.x)/\lp (vF t13.y)/\asP (vC2 (tM o (g2 (vF t6.x) (vF t6.y)) (g2 (vF t14.x) (vF t14.y)))) (vC2 t15)/\lp (vF t6.x)/\lp (vF t6.y)/\lp (vF t14.x)/\lp (vF t14.y)/\asP (vC2 (tM o (g2 y0 y1) (g2 (vF t8.x) (vF t8.y)))) (vC2 t16)/\lp y0/\lp y1/\lp (vF t8.x)/\lp (vF t8.y)/\asP (vC2 ((g2 (vF t15.x) (vF t15.y)) - (g2 (vF t16.x) (vF t16.y)))) (vC2 t17)/\lp (vF t15.x)/\lp (vF t15.y)/\lp (vF t16.x)/\lp (vF t16.y)/\asP (vC2 (tM o (g2 z0 z1) (g2 (vF t5.x) (vF t5.y)))) (vC2 t18)/\lp z0/\lp z1/\lp (vF t5.x)/\lp (vF t5.y)/\endN (.v1 (.agg [q6 (vF t13.x),q6 (vF t13.y),q6 (vF t17.x),q6 (vF t17.y),q6 (vF t18.x),q6 (vF t18.y),.one (.bo o)])) (.v1 (n3 ⟨t13,t17,t18⟩ o))) ?_ (by kernel_rfl)
  exact ⟨zD_f hz0 hz1 hz,asD ht1.symm,hz0,hz1,hz0,hz1,asD (by rw [g2V];exact ht2.symm),hu0,hu1,lV _,lV _,asD (by rw [g2V];exact ht3.symm),lV _,lV _,hz0,hz1,asD (by rw [g2V];exact ht4.symm),hv0,hv1,lV _,lV _,asD (by rw [g2V];exact ht5.symm),lV _,lV _,hx0,hx1,asD (by rw [g2V];exact ht6.symm),lV _,lV _,hy0,hy1,zD_f (lV _) (lV _) (by rw [g2V];exact e1),asD (by rw [g2V];exact ht7.symm),lV _,lV _,lV _,lV _,asD (by rw [g2V,g2V];exact ht8.symm),lV _,lV _,lV _,lV _,asD (by rw [g2V];exact ht9.symm),hx0,hx1,lV _,lV _,asD (by rw [g2V];exact ht10.symm),lV _,lV _,lV _,lV _,asD (by rw [g2V,g2V];exact ht11.symm),lV _,lV _,lV _,lV _,asD (by rw [g2V];exact ht12.symm),lV _,lV _,by decide,asD (by rw [g2V,g2V];exact ht13.symm),lV _,lV _,lV _,lV _,asD (by rw [g2V,g2V];exact ht14.symm),lV _,lV _,lV _,lV _,asD (by rw [g2V,g2V];exact ht15.symm),lV _,lV _,lV _,lV _,asD (by rw [g2V];exact ht16.symm),hy0,hy1,lV _,lV _,asD (by rw [g2V,g2V];exact ht17.symm),lV _,lV _,lV _,lV _,asD (by rw [g2V];exact ht18.symm),hz0,hz1,lV _,lV _,_,rfl,fun _=>rfl⟩
abbrev fdE:List Cell:=[.one (.fn 100 []),.one (.fn 101 []),.one (.fn 102 []),.one (.fn 103 []),q6 oneF,q6 (eF (ofN (nv (wd (4 % W)))))]
def jE1 (F:J3 Fp->J3 Fp):List AV->Option (List Prop × AV)
 | [.v1 (.agg cs),.v1 (.agg [.ws .u64 6 x,.ws .u64 6 y,.ws .u64 6 z])]=>some ([cs = fdE,nv x < pN,nv y < pN,nv z < pN],.v1 (.agg [q6 (eF (F (⟨(dF x),(dF y),(dF z)⟩:J3 Fp)).x),q6 (eF (F (⟨(dF x),(dF y),(dF z)⟩:J3 Fp)).y),q6 (eF (F (⟨(dF x),(dF y),(dF z)⟩:J3 Fp)).z)]))
 | _=>none
def jE2 (F:J3 Fp->J3 Fp->J3 Fp):List AV->Option (List Prop × AV)
 | [.v1 (.agg cs),.v1 (.agg [.ws .u64 6 x,.ws .u64 6 y,.ws .u64 6 z]),.v1 (.agg [.ws .u64 6 u,.ws .u64 6 v,.ws .u64 6 w])]=>some ([cs = fdE,nv x < pN,nv y < pN,nv z < pN,nv u < pN,nv v < pN,nv w < pN],.v1 (.agg [q6 (eF (F (⟨(dF x),(dF y),(dF z)⟩:J3 Fp) (⟨(dF u),(dF v),(dF w)⟩:J3 Fp)).x),q6 (eF (F (⟨(dF x),(dF y),(dF z)⟩:J3 Fp) (⟨(dF u),(dF v),(dF w)⟩:J3 Fp)).y),q6 (eF (F (⟨(dF x),(dF y),(dF z)⟩:J3 Fp) (⟨(dF u),(dF v),(dF w)⟩:J3 Fp)).z)]))
 | _=>none
def GCE:List (Nat × CallC):=[(100,.pure (el2 eAdd)),(101,.pure (el2 eSub)),(102,.pure (cEMul)),(103,.pure (el1 eInv))]
theorem GCE_ok:CtxOk Tryz.prog (ctxL GCE):=cxC okEAdd <| cxC okESub <| cxC okEMul <| cxC okEInv cxN
theorem okTwE:(CallC.pure (jE1 J3.dbl)).Ok Tryz.prog 163:=by
 intro args pre v e hp
 unfold jE1 at e
 split at e
 rotate_left
 ·cases e
 rename_i cs x y z
 cases e
 have hcs:cs = fdE:=hp _ (by simp)
 subst hcs
 have hx:nv x < pN:=hp _ (by simp)
 have hy:nv y < pN:=hp _ (by simp)
 have hz:nv z < pN:=hp _ (by simp)
 refine pWk tK Tryz.func163 (by kernel_rfl) (by kernel_rfl) (by rfl) (by rfl) ?_
 obtain ⟨t1,ht1⟩:=exq ((dF y) * (dF y))
 obtain ⟨t2,ht2⟩:=exq ((dF x) * t1)
 obtain ⟨t3,ht3⟩:=exq (t2 + t2)
 obtain ⟨t4,ht4⟩:=exq (t3 + t3)
 obtain ⟨t5,ht5⟩:=exq ((dF x) * (dF x))
 obtain ⟨t6,ht6⟩:=exq (t5 + t5)
 obtain ⟨t7,ht7⟩:=exq (t6 + t5)
 obtain ⟨t8,ht8⟩:=exq (t7 * t7)
 obtain ⟨t9,ht9⟩:=exq (t4 + t4)
 obtain ⟨t10,ht10⟩:=exq (t8 - t9)
 obtain ⟨t11,ht11⟩:=exq (t1 * t1)
 obtain ⟨t12,ht12⟩:=exq (t11 + t11)
 obtain ⟨t13,ht13⟩:=exq (t12 + t12)
 obtain ⟨t14,ht14⟩:=exq (t13 + t13)
 obtain ⟨t15,ht15⟩:=exq ((dF y) * (dF z))
 obtain ⟨t16,ht16⟩:=exq (t4 - t10)
 obtain ⟨t17,ht17⟩:=exq (t7 * t16)
 obtain ⟨t18,ht18⟩:=exq (t17 - t14)
 obtain ⟨t19,ht19⟩:=exq (t15 + t15)
 refine eSq mxd tK GCE_ok 200 [⟨1,6,.as [q6 (eF t1)]⟩,⟨2,5,.as [q6 (eF t2)]⟩,⟨3,4,.as [q6 (eF t3)]⟩,⟨4,4,.as [q6 (eF t4)]⟩,⟨5,6,.as [q6 (eF t5)]⟩,⟨6,6,.as [q6 (eF t6)]⟩,⟨6,8,.as [q6 (eF t7)]⟩,⟨7,6,.as [q6 (eF t8)]⟩,⟨7,11,.as [q6 (eF t9)]⟩,⟨7,12,.as [q6 (eF t10)]⟩,⟨8,4,.as [q6 (eF t11)]⟩,⟨9,4,.as [q6 (eF t12)]⟩,⟨10,4,.as [q6 (eF t13)]⟩,⟨11,4,.as [q6 (eF t14)]⟩,⟨12,6,.as [q6 (eF t15)]⟩,⟨13,10,.as [q6 (eF t16)]⟩,⟨13,11,.as [q6 (eF t17)]⟩,⟨13,13,.as [q6 (eF t18)]⟩,⟨13,18,.as [q6 (eF t19)]⟩] ?_
 refine same (p:=asP [q6 (eF (eMul (dF y) (dF y)))] [q6 (eF t1)]/\lp y/\asP [q6 (eF (eMul (dF x) (dF (eF t1))))] [q6 (eF t2)]/\lp x/\asP [q6 (eF (eAdd (dF (eF t2)) (dF (eF t2))))] [q6 (eF t3)]/\lp (eF t2)/\lp (eF t2)/\asP [q6 (eF (eAdd (dF (eF t3)) (dF (eF t3))))] [q6 (eF t4)]/\lp (eF t3)/\lp (eF t3)/\asP [q6 (eF (eMul (dF x) (dF x)))] [q6 (eF t5)]/\lp x/\asP [q6 (eF (eAdd (dF (eF t5)) (dF (eF t5))))] [q6 (eF t6)]/\lp (eF t5)/\lp (eF t5)/\asP [q6 (eF (eAdd (dF (eF t6)) (dF (eF t5))))] [q6 (eF t7)]/\lp (eF t6)/\lp (eF t5)/\asP [q6 (eF (eMul (dF (eF t7)) (dF (eF t7))))] [q6 (eF t8)]/\lp (eF t7)/\asP [q6 (eF (eAdd (dF (eF t4)) (dF (eF t4))))] [q6 (eF t9)]/\lp (eF t4)/\lp (eF t4)/\asP [q6 (eF (eSub (dF (eF t8)) (dF (eF t9))))] [q6 (eF t10)]/\lp (eF t8)/\lp (eF t9)/\asP [q6 (eF (eMul (dF (eF t1)) (dF (eF t1))))] [q6 (eF t11)]/\lp (eF t1)/\asP [q6 (eF (eAdd (dF (eF t11)) (dF (eF t11))))] [q6 (eF t12)]/\lp (eF t11)/\lp (eF t11)/\asP [q6 (eF (eAdd (dF (eF t12)) (dF (eF t12))))] [q6 (eF t13)]/\lp (eF t12)/\lp (eF t12)/\asP [q6 (eF (eAdd (dF (eF t13)) (dF (eF t13))))] [q6 (eF t14)]/\lp (eF t13)/\lp (eF t13)/\asP [q6 (eF (eMul (dF y) (dF z)))] [q6 (eF t15)]/\lp y/\asP [q6 (eF (eSub (dF (eF t4)) (dF (eF t10))))] [q6 (eF t16)]/\lp (eF t4)/\lp (eF t10)/\asP [q6 (eF (eMul (dF (eF t7)) (dF (eF t16))))] [q6 (eF t17)]/\lp (eF t7)/\asP [q6 (eF (eSub (dF (eF t17)) (dF (eF t14))))] [q6 (eF t18)]/\lp (eF t17)/\lp (eF t14)/\asP [q6 (eF (eAdd (dF (eF t15)) (dF (eF t15))))] [q6 (eF t19)]/\lp (eF t15)/\lp (eF t15)/\endN (.v1 (.agg [q6 (eF t10),q6 (eF t18),q6 (eF t19)])) (.v1 (.agg [q6 (eF (J3.dbl (⟨(dF x),(dF y),(dF z)⟩:J3 Fp)).x),q6 (eF (J3.dbl (⟨(dF x),(dF y),(dF z)⟩:J3 Fp)).y),q6 (eF (J3.dbl (⟨(dF x),(dF y),(dF z)⟩:J3 Fp)).z)]))) ?_ (by kernel_rfl)
 exact ⟨aME rfl rfl ht1,hy,aME rfl (qE _) ht2,hx,as_addE (qE _) (qE _) ht3,lE _,lE _,as_addE (qE _) (qE _) ht4,lE _,lE _,aME rfl rfl ht5,hx,as_addE (qE _) (qE _) ht6,lE _,lE _,as_addE (qE _) (qE _) ht7,lE _,lE _,aME (qE _) (qE _) ht8,lE _,as_addE (qE _) (qE _) ht9,lE _,lE _,as_subE (qE _) (qE _) ht10,lE _,lE _,aME (qE _) (qE _) ht11,lE _,as_addE (qE _) (qE _) ht12,lE _,lE _,as_addE (qE _) (qE _) ht13,lE _,lE _,as_addE (qE _) (qE _) ht14,lE _,lE _,aME rfl rfl ht15,hy,as_subE (qE _) (qE _) ht16,lE _,lE _,aME (qE _) (qE _) ht17,lE _,as_subE (qE _) (qE _) ht18,lE _,lE _,as_addE (qE _) (qE _) ht19,lE _,lE _,endC (cvS (nv_t (by subst ht19 ht18 ht17 ht16 ht15 ht14 ht13 ht12 ht11 ht10 ht9 ht8 ht7 ht6 ht5 ht4 ht3 ht2 ht1;rfl)) (cvS (nv_t (by subst ht19 ht18 ht17 ht16 ht15 ht14 ht13 ht12 ht11 ht10 ht9 ht8 ht7 ht6 ht5 ht4 ht3 ht2 ht1;rfl)) (cvS (nv_t (by subst ht19 ht18 ht17 ht16 ht15 ht14 ht13 ht12 ht11 ht10 ht9 ht8 ht7 ht6 ht5 ht4 ht3 ht2 ht1;rfl)) (cv_nil))))⟩
def GSE:List (Nat × CallC):=(163,.pure (jE1 J3.dbl)) :: GCE
theorem GSE_ok:CtxOk Tryz.prog (ctxL GSE):=cxC okTwE GCE_ok
theorem okSmE:(CallC.pure (jE2 J3.add)).Ok Tryz.prog 164:=by
 intro args pre v e hp
 unfold jE2 at e
 split at e
 rotate_left
 ·cases e
 rename_i cs x y z u v w
 cases e
 have hcs:cs = fdE:=hp _ (by simp)
 subst hcs
 have hx:nv x < pN:=hp _ (by simp)
 have hy:nv y < pN:=hp _ (by simp)
 have hz:nv z < pN:=hp _ (by simp)
 have hu:nv u < pN:=hp _ (by simp)
 have hv:nv v < pN:=hp _ (by simp)
 have hw:nv w < pN:=hp _ (by simp)
 refine pWk tK Tryz.func164 (by kernel_rfl) (by kernel_rfl) (by rfl) (by rfl) ?_
 by_cases hZZ:(dF z) = 0
 ·have hadd:J3.add (⟨(dF x),(dF y),(dF z)⟩:J3 Fp) (⟨(dF u),(dF v),(dF w)⟩:J3 Fp) = (⟨(dF u),(dF v),(dF w)⟩:J3 Fp):=if_pos hZZ
  rw [hadd]
  refine eSq mxd tK GSE_ok 100 [⟨2,3,.lit (.bo true)⟩] ?_
  refine same (p:=(eqN W 6 z fz && true) = true/\endN (.v1 (.agg [q6 u,q6 v,q6 w])) (.v1 (.agg [q6 (eF ((⟨(dF u),(dF v),(dF w)⟩:J3 Fp)).x),q6 (eF ((⟨(dF u),(dF v),(dF w)⟩:J3 Fp)).y),q6 (eF ((⟨(dF u),(dF v),(dF w)⟩:J3 Fp)).z)]))) ?_ (by kernel_rfl)
  exact ⟨zE_t hz hZZ,endC (cvS (nv_d hu) (cvS (nv_d hv) (cvS (nv_d hw) (cv_nil))))⟩
 ·by_cases hWW:(dF w) = 0
  ·have hadd:J3.add (⟨(dF x),(dF y),(dF z)⟩:J3 Fp) (⟨(dF u),(dF v),(dF w)⟩:J3 Fp) = (⟨(dF x),(dF y),(dF z)⟩:J3 Fp):=(if_neg hZZ).trans (if_pos hWW)
   rw [hadd]
   refine eSq mxd tK GSE_ok 100 [⟨2,3,.lit (.bo false)⟩,⟨4,3,.lit (.bo true)⟩] ?_
   refine same (p:=(eqN W 6 z fz && true) = false/\(eqN W 6 w fz && true) = true/\endN (.v1 (.agg [q6 x,q6 y,q6 z])) (.v1 (.agg [q6 (eF ((⟨(dF x),(dF y),(dF z)⟩:J3 Fp)).x),q6 (eF ((⟨(dF x),(dF y),(dF z)⟩:J3 Fp)).y),q6 (eF ((⟨(dF x),(dF y),(dF z)⟩:J3 Fp)).z)]))) ?_ (by kernel_rfl)
   exact ⟨zE_f hz hZZ,zE_t hw hWW,endC (cvS (nv_d hx) (cvS (nv_d hy) (cvS (nv_d hz) (cv_nil))))⟩
  ·have hadd0:J3.add (⟨(dF x),(dF y),(dF z)⟩:J3 Fp) (⟨(dF u),(dF v),(dF w)⟩:J3 Fp) = if J3.hh (⟨(dF x),(dF y),(dF z)⟩:J3 Fp) (⟨(dF u),(dF v),(dF w)⟩:J3 Fp) = 0 then (if J3.rr (⟨(dF x),(dF y),(dF z)⟩:J3 Fp) (⟨(dF u),(dF v),(dF w)⟩:J3 Fp) = 0 then J3.dbl (⟨(dF x),(dF y),(dF z)⟩:J3 Fp) else J3.nil) else J3.gen (⟨(dF x),(dF y),(dF z)⟩:J3 Fp) (⟨(dF u),(dF v),(dF w)⟩:J3 Fp):=(if_neg hZZ).trans (if_neg hWW)
   by_cases hh0:J3.hh (⟨(dF x),(dF y),(dF z)⟩:J3 Fp) (⟨(dF u),(dF v),(dF w)⟩:J3 Fp) = 0
   ·by_cases hr0:J3.rr (⟨(dF x),(dF y),(dF z)⟩:J3 Fp) (⟨(dF u),(dF v),(dF w)⟩:J3 Fp) = 0
    ·have hadd:J3.add (⟨(dF x),(dF y),(dF z)⟩:J3 Fp) (⟨(dF u),(dF v),(dF w)⟩:J3 Fp) = J3.dbl (⟨(dF x),(dF y),(dF z)⟩:J3 Fp):=hadd0.trans ((if_pos hh0).trans (if_pos hr0))
     rw [hadd]
     obtain ⟨t1,ht1⟩:=exq ((dF z) * (dF z))
     obtain ⟨t2,ht2⟩:=exq ((dF w) * (dF w))
     obtain ⟨t3,ht3⟩:=exq ((dF x) * t2)
     obtain ⟨t4,ht4⟩:=exq ((dF u) * t1)
     obtain ⟨t5,ht5⟩:=exq (t2 * (dF w))
     obtain ⟨t6,ht6⟩:=exq ((dF y) * t5)
     obtain ⟨t7,ht7⟩:=exq (t1 * (dF z))
     obtain ⟨t8,ht8⟩:=exq ((dF v) * t7)
     obtain ⟨t9,ht9⟩:=exq (t4 - t3)
     obtain ⟨t10,ht10⟩:=exq (t8 - t6)
     refine eSq mxd tK GSE_ok 200 [⟨2,3,.lit (.bo false)⟩,⟨4,3,.lit (.bo false)⟩,⟨6,6,.as [q6 (eF t1)]⟩,⟨6,13,.as [q6 (eF t2)]⟩,⟨7,5,.as [q6 (eF t3)]⟩,⟨7,11,.as [q6 (eF t4)]⟩,⟨8,9,.as [q6 (eF t5)]⟩,⟨8,10,.as [q6 (eF t6)]⟩,⟨8,20,.as [q6 (eF t7)]⟩,⟨8,21,.as [q6 (eF t8)]⟩,⟨9,4,.as [q6 (eF t9)]⟩,⟨9,9,.as [q6 (eF t10)]⟩,⟨10,2,.lit (.bo true)⟩,⟨11,2,.lit (.bo true)⟩] ?_
     refine same (p:=(eqN W 6 z fz && true) = false/\(eqN W 6 w fz && true) = false/\asP [q6 (eF (eMul (dF z) (dF z)))] [q6 (eF t1)]/\lp z/\asP [q6 (eF (eMul (dF w) (dF w)))] [q6 (eF t2)]/\lp w/\asP [q6 (eF (eMul (dF x) (dF (eF t2))))] [q6 (eF t3)]/\lp x/\asP [q6 (eF (eMul (dF u) (dF (eF t1))))] [q6 (eF t4)]/\lp u/\asP [q6 (eF (eMul (dF (eF t2)) (dF w)))] [q6 (eF t5)]/\lp (eF t2)/\asP [q6 (eF (eMul (dF y) (dF (eF t5))))] [q6 (eF t6)]/\lp y/\asP [q6 (eF (eMul (dF (eF t1)) (dF z)))] [q6 (eF t7)]/\lp (eF t1)/\asP [q6 (eF (eMul (dF v) (dF (eF t7))))] [q6 (eF t8)]/\lp v/\asP [q6 (eF (eSub (dF (eF t4)) (dF (eF t3))))] [q6 (eF t9)]/\lp (eF t4)/\lp (eF t3)/\asP [q6 (eF (eSub (dF (eF t8)) (dF (eF t6))))] [q6 (eF t10)]/\lp (eF t8)/\lp (eF t6)/\(eqN W 6 (eF t9) fz && true) = true/\(eqN W 6 (eF t10) fz && true) = true/\fdE = fdE/\lp x/\lp y/\lp z/\endN (.v1 (.agg [q6 (eF (J3.dbl (⟨(dF x),(dF y),(dF z)⟩:J3 Fp)).x),q6 (eF (J3.dbl (⟨(dF x),(dF y),(dF z)⟩:J3 Fp)).y),q6 (eF (J3.dbl (⟨(dF x),(dF y),(dF z)⟩:J3 Fp)).z)])) (.v1 (.agg [q6 (eF (J3.dbl (⟨(dF x),(dF y),(dF z)⟩:J3 Fp)).x),q6 (eF (J3.dbl (⟨(dF x),(dF y),(dF z)⟩:J3 Fp)).y),q6 (eF (J3.dbl (⟨(dF x),(dF y),(dF z)⟩:J3 Fp)).z)]))) ?_ (by kernel_rfl)
     exact ⟨zE_f hz hZZ,zE_f hw hWW,aME rfl rfl ht1,hz,aME rfl rfl ht2,hw,aME rfl (qE _) ht3,hx,aME rfl (qE _) ht4,hu,aME (qE _) rfl ht5,lE _,aME rfl (qE _) ht6,hy,aME (qE _) rfl ht7,lE _,aME rfl (qE _) ht8,hv,as_subE (qE _) (qE _) ht9,lE _,lE _,as_subE (qE _) (qE _) ht10,lE _,lE _,zE_t (lE _) (by rw [qE];subst ht10 ht9 ht8 ht7 ht6 ht5 ht4 ht3 ht2 ht1;exact hh0),zE_t (lE _) (by rw [qE];subst ht10 ht9 ht8 ht7 ht6 ht5 ht4 ht3 ht2 ht1;exact hr0),rfl,hx,hy,hz,_,rfl,fun _=>rfl⟩
    ·have hadd:J3.add (⟨(dF x),(dF y),(dF z)⟩:J3 Fp) (⟨(dF u),(dF v),(dF w)⟩:J3 Fp) = J3.nil:=hadd0.trans ((if_pos hh0).trans (if_neg hr0))
     rw [hadd,nilE]
     obtain ⟨t1,ht1⟩:=exq ((dF z) * (dF z))
     obtain ⟨t2,ht2⟩:=exq ((dF w) * (dF w))
     obtain ⟨t3,ht3⟩:=exq ((dF x) * t2)
     obtain ⟨t4,ht4⟩:=exq ((dF u) * t1)
     obtain ⟨t5,ht5⟩:=exq (t2 * (dF w))
     obtain ⟨t6,ht6⟩:=exq ((dF y) * t5)
     obtain ⟨t7,ht7⟩:=exq (t1 * (dF z))
     obtain ⟨t8,ht8⟩:=exq ((dF v) * t7)
     obtain ⟨t9,ht9⟩:=exq (t4 - t3)
     obtain ⟨t10,ht10⟩:=exq (t8 - t6)
     refine eSq mxd tK GSE_ok 200 [⟨2,3,.lit (.bo false)⟩,⟨4,3,.lit (.bo false)⟩,⟨6,6,.as [q6 (eF t1)]⟩,⟨6,13,.as [q6 (eF t2)]⟩,⟨7,5,.as [q6 (eF t3)]⟩,⟨7,11,.as [q6 (eF t4)]⟩,⟨8,9,.as [q6 (eF t5)]⟩,⟨8,10,.as [q6 (eF t6)]⟩,⟨8,20,.as [q6 (eF t7)]⟩,⟨8,21,.as [q6 (eF t8)]⟩,⟨9,4,.as [q6 (eF t9)]⟩,⟨9,9,.as [q6 (eF t10)]⟩,⟨10,2,.lit (.bo true)⟩,⟨11,2,.lit (.bo false)⟩] ?_
     refine same (p:=(eqN W 6 z fz && true) = false/\(eqN W 6 w fz && true) = false/\asP [q6 (eF (eMul (dF z) (dF z)))] [q6 (eF t1)]/\lp z/\asP [q6 (eF (eMul (dF w) (dF w)))] [q6 (eF t2)]/\lp w/\asP [q6 (eF (eMul (dF x) (dF (eF t2))))] [q6 (eF t3)]/\lp x/\asP [q6 (eF (eMul (dF u) (dF (eF t1))))] [q6 (eF t4)]/\lp u/\asP [q6 (eF (eMul (dF (eF t2)) (dF w)))] [q6 (eF t5)]/\lp (eF t2)/\asP [q6 (eF (eMul (dF y) (dF (eF t5))))] [q6 (eF t6)]/\lp y/\asP [q6 (eF (eMul (dF (eF t1)) (dF z)))] [q6 (eF t7)]/\lp (eF t1)/\asP [q6 (eF (eMul (dF v) (dF (eF t7))))] [q6 (eF t8)]/\lp v/\asP [q6 (eF (eSub (dF (eF t4)) (dF (eF t3))))] [q6 (eF t9)]/\lp (eF t4)/\lp (eF t3)/\asP [q6 (eF (eSub (dF (eF t8)) (dF (eF t6))))] [q6 (eF t10)]/\lp (eF t8)/\lp (eF t6)/\(eqN W 6 (eF t9) fz && true) = true/\(eqN W 6 (eF t10) fz && true) = false/\endN (.v1 (.agg [q6 oneF,q6 oneF,q6 fz])) (.v1 (.agg [q6 (eF ((⟨1,1,0⟩:J3 Fp)).x),q6 (eF ((⟨1,1,0⟩:J3 Fp)).y),q6 (eF ((⟨1,1,0⟩:J3 Fp)).z)]))) ?_ (by kernel_rfl)
     exact ⟨zE_f hz hZZ,zE_f hw hWW,aME rfl rfl ht1,hz,aME rfl rfl ht2,hw,aME rfl (qE _) ht3,hx,aME rfl (qE _) ht4,hu,aME (qE _) rfl ht5,lE _,aME rfl (qE _) ht6,hy,aME (qE _) rfl ht7,lE _,aME rfl (qE _) ht8,hv,as_subE (qE _) (qE _) ht9,lE _,lE _,as_subE (qE _) (qE _) ht10,lE _,lE _,zE_t (lE _) (by rw [qE];subst ht10 ht9 ht8 ht7 ht6 ht5 ht4 ht3 ht2 ht1;exact hh0),zE_f (lE _) (by rw [qE];subst ht10 ht9 ht8 ht7 ht6 ht5 ht4 ht3 ht2 ht1;exact hr0),endC (cvS nv_one1 (cvS nv_one1 (cvS e0x (cv_nil))))⟩
   ·have hadd:J3.add (⟨(dF x),(dF y),(dF z)⟩:J3 Fp) (⟨(dF u),(dF v),(dF w)⟩:J3 Fp) = J3.gen (⟨(dF x),(dF y),(dF z)⟩:J3 Fp) (⟨(dF u),(dF v),(dF w)⟩:J3 Fp):=hadd0.trans (if_neg hh0)
    rw [hadd]
    obtain ⟨t1,ht1⟩:=exq ((dF z) * (dF z))
    obtain ⟨t2,ht2⟩:=exq ((dF w) * (dF w))
    obtain ⟨t3,ht3⟩:=exq ((dF x) * t2)
    obtain ⟨t4,ht4⟩:=exq ((dF u) * t1)
    obtain ⟨t5,ht5⟩:=exq (t2 * (dF w))
    obtain ⟨t6,ht6⟩:=exq ((dF y) * t5)
    obtain ⟨t7,ht7⟩:=exq (t1 * (dF z))
    obtain ⟨t8,ht8⟩:=exq ((dF v) * t7)
    obtain ⟨t9,ht9⟩:=exq (t4 - t3)
    obtain ⟨t10,ht10⟩:=exq (t8 - t6)
    obtain ⟨t11,ht11⟩:=exq (t9 * t9)
    obtain ⟨t12,ht12⟩:=exq (t11 * t9)
    obtain ⟨t13,ht13⟩:=exq (t3 * t11)
    obtain ⟨t14,ht14⟩:=exq (t10 * t10)
    obtain ⟨t15,ht15⟩:=exq (t14 - t12)
    obtain ⟨t16,ht16⟩:=exq (t13 + t13)
    obtain ⟨t17,ht17⟩:=exq (t15 - t16)
    obtain ⟨t18,ht18⟩:=exq (t13 - t17)
    obtain ⟨t19,ht19⟩:=exq (t10 * t18)
    obtain ⟨t20,ht20⟩:=exq (t6 * t12)
    obtain ⟨t21,ht21⟩:=exq (t19 - t20)
    obtain ⟨t22,ht22⟩:=exq ((dF z) * (dF w))
    obtain ⟨t23,ht23⟩:=exq (t9 * t22)
    refine eSq mxd tK GSE_ok 300 [⟨2,3,.lit (.bo false)⟩,⟨4,3,.lit (.bo false)⟩,⟨6,6,.as [q6 (eF t1)]⟩,⟨6,13,.as [q6 (eF t2)]⟩,⟨7,5,.as [q6 (eF t3)]⟩,⟨7,11,.as [q6 (eF t4)]⟩,⟨8,9,.as [q6 (eF t5)]⟩,⟨8,10,.as [q6 (eF t6)]⟩,⟨8,20,.as [q6 (eF t7)]⟩,⟨8,21,.as [q6 (eF t8)]⟩,⟨9,4,.as [q6 (eF t9)]⟩,⟨9,9,.as [q6 (eF t10)]⟩,⟨10,2,.lit (.bo false)⟩,⟨14,4,.as [q6 (eF t11)]⟩,⟨15,4,.as [q6 (eF t12)]⟩,⟨16,4,.as [q6 (eF t13)]⟩,⟨17,8,.as [q6 (eF t14)]⟩,⟨17,10,.as [q6 (eF t15)]⟩,⟨17,15,.as [q6 (eF t16)]⟩,⟨17,16,.as [q6 (eF t17)]⟩,⟨18,10,.as [q6 (eF t18)]⟩,⟨18,11,.as [q6 (eF t19)]⟩,⟨18,16,.as [q6 (eF t20)]⟩,⟨18,17,.as [q6 (eF t21)]⟩,⟨18,27,.as [q6 (eF t22)]⟩,⟨18,28,.as [q6 (eF t23)]⟩] ?_
    refine same (p:=(eqN W 6 z fz && true) = false/\(eqN W 6 w fz && true) = false/\asP [q6 (eF (eMul (dF z) (dF z)))] [q6 (eF t1)]/\lp z/\asP [q6 (eF (eMul (dF w) (dF w)))] [q6 (eF t2)]/\lp w/\asP [q6 (eF (eMul (dF x) (dF (eF t2))))] [q6 (eF t3)]/\lp x/\asP [q6 (eF (eMul (dF u) (dF (eF t1))))] [q6 (eF t4)]/\lp u/\asP [q6 (eF (eMul (dF (eF t2)) (dF w)))] [q6 (eF t5)]/\lp (eF t2)/\asP [q6 (eF (eMul (dF y) (dF (eF t5))))] [q6 (eF t6)]/\lp y/\asP [q6 (eF (eMul (dF (eF t1)) (dF z)))] [q6 (eF t7)]/\lp (eF t1)/\asP [q6 (eF (eMul (dF v) (dF (eF t7))))] [q6 (eF t8)]/\lp v/\asP [q6 (eF (eSub (dF (eF t4)) (dF (eF t3))))] [q6 (eF t9)]/\lp (eF t4)/\lp (eF t3)/\asP [q6 (eF (eSub (dF (eF t8)) (dF (eF t6))))] [q6 (eF t10)]/\lp (eF t8)/\lp (eF t6)/\(eqN W 6 (eF t9) fz && true) = false/\asP [q6 (eF (eMul (dF (eF t9)) (dF (eF t9))))] [q6 (eF t11)]/\lp (eF t9)/\asP [q6 (eF (eMul (dF (eF t11)) (dF (eF t9))))] [q6 (eF t12)]/\lp (eF t11)/\asP [q6 (eF (eMul (dF (eF t3)) (dF (eF t11))))] [q6 (eF t13)]/\lp (eF t3)/\asP [q6 (eF (eMul (dF (eF t10)) (dF (eF t10))))] [q6 (eF t14)]/\lp (eF t10)/\asP [q6 (eF (eSub (dF (eF t14)) (dF (eF t12))))] [q6 (eF t15)]/\lp (eF t14)/\lp (eF t12)/\asP [q6 (eF (eAdd (dF (eF t13)) (dF (eF t13))))] [q6 (eF t16)]/\lp (eF t13)/\lp (eF t13)/\asP [q6 (eF (eSub (dF (eF t15)) (dF (eF t16))))] [q6 (eF t17)]/\lp (eF t15)/\lp (eF t16)/\asP [q6 (eF (eSub (dF (eF t13)) (dF (eF t17))))] [q6 (eF t18)]/\lp (eF t13)/\lp (eF t17)/\asP [q6 (eF (eMul (dF (eF t10)) (dF (eF t18))))] [q6 (eF t19)]/\lp (eF t10)/\asP [q6 (eF (eMul (dF (eF t6)) (dF (eF t12))))] [q6 (eF t20)]/\lp (eF t6)/\asP [q6 (eF (eSub (dF (eF t19)) (dF (eF t20))))] [q6 (eF t21)]/\lp (eF t19)/\lp (eF t20)/\asP [q6 (eF (eMul (dF z) (dF w)))] [q6 (eF t22)]/\lp z/\asP [q6 (eF (eMul (dF (eF t9)) (dF (eF t22))))] [q6 (eF t23)]/\lp (eF t9)/\endN (.v1 (.agg [q6 (eF t17),q6 (eF t21),q6 (eF t23)])) (.v1 (.agg [q6 (eF (J3.gen (⟨(dF x),(dF y),(dF z)⟩:J3 Fp) (⟨(dF u),(dF v),(dF w)⟩:J3 Fp)).x),q6 (eF (J3.gen (⟨(dF x),(dF y),(dF z)⟩:J3 Fp) (⟨(dF u),(dF v),(dF w)⟩:J3 Fp)).y),q6 (eF (J3.gen (⟨(dF x),(dF y),(dF z)⟩:J3 Fp) (⟨(dF u),(dF v),(dF w)⟩:J3 Fp)).z)]))) ?_ (by kernel_rfl)
    exact ⟨zE_f hz hZZ,zE_f hw hWW,aME rfl rfl ht1,hz,aME rfl rfl ht2,hw,aME rfl (qE _) ht3,hx,aME rfl (qE _) ht4,hu,aME (qE _) rfl ht5,lE _,aME rfl (qE _) ht6,hy,aME (qE _) rfl ht7,lE _,aME rfl (qE _) ht8,hv,as_subE (qE _) (qE _) ht9,lE _,lE _,as_subE (qE _) (qE _) ht10,lE _,lE _,zE_f (lE _) (by rw [qE];subst ht10 ht9 ht8 ht7 ht6 ht5 ht4 ht3 ht2 ht1;exact hh0),aME (qE _) (qE _) ht11,lE _,aME (qE _) (qE _) ht12,lE _,aME (qE _) (qE _) ht13,lE _,aME (qE _) (qE _) ht14,lE _,as_subE (qE _) (qE _) ht15,lE _,lE _,as_addE (qE _) (qE _) ht16,lE _,lE _,as_subE (qE _) (qE _) ht17,lE _,lE _,as_subE (qE _) (qE _) ht18,lE _,lE _,aME (qE _) (qE _) ht19,lE _,aME (qE _) (qE _) ht20,lE _,as_subE (qE _) (qE _) ht21,lE _,lE _,aME rfl rfl ht22,hz,aME (qE _) (qE _) ht23,lE _,endC (cvS (nv_t (by subst ht23 ht22 ht21 ht20 ht19 ht18 ht17 ht16 ht15 ht14 ht13 ht12 ht11 ht10 ht9 ht8 ht7 ht6 ht5 ht4 ht3 ht2 ht1;rfl)) (cvS (nv_t (by subst ht23 ht22 ht21 ht20 ht19 ht18 ht17 ht16 ht15 ht14 ht13 ht12 ht11 ht10 ht9 ht8 ht7 ht6 ht5 ht4 ht3 ht2 ht1;rfl)) (cvS (nv_t (by subst ht23 ht22 ht21 ht20 ht19 ht18 ht17 ht16 ht15 ht14 ht13 ht12 ht11 ht10 ht9 ht8 ht7 ht6 ht5 ht4 ht3 ht2 ht1;rfl)) (cv_nil))))⟩
end Go.Proofs.YtnjocbcjejpklaaGreat
