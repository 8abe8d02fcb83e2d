/- Texts of the proof, joined. -/
import Derived.Test.YtnjocbcjejpklaaZrB
import Derived.Lib.Mul64
import Derived.Lib.Tables
import Derived.RowKit3
import Derived.OpenShut
import Derived.Test.YtnjocbcjejpklaaRows
import Derived.ProofKit
import Init.Data.Dyadic
set_option linter.all false
namespace Go.Rq
def W:Nat:=18446744073709551616
def R:Nat:=39402006196394479212279040100143613805079739270465446667948293404245721771497210611414266254884915640806627990306816
theorem R_eq:R = W ^ 6:=by decide
def nv (f:Nat->Nat):Nat:=f 0 % W + W * (f 1 % W + W * (f 2 % W + W * (f 3 % W + W * (f 4 % W + W * (f 5 % W)))))
def wd (n:Nat):Nat->Nat:=fun i=>n / W ^ i
theorem nv_lt (f:Nat->Nat):nv f < R:=by
 have:=Nat.mod_lt (f 0) (show 0 < W by decide)
 have:=Nat.mod_lt (f 1) (show 0 < W by decide)
 have:=Nat.mod_lt (f 2) (show 0 < W by decide)
 have:=Nat.mod_lt (f 3) (show 0 < W by decide)
 have:=Nat.mod_lt (f 4) (show 0 < W by decide)
 have:=Nat.mod_lt (f 5) (show 0 < W by decide)
 unfold nv
 simp only [R,W] at *
 omega
theorem nv_congr {f g:Nat->Nat} (h:∀ i,i < 6->f i % W = g i % W):nv f = nv g:=by
 unfold nv;rw [h 0 (by omega),h 1 (by omega),h 2 (by omega),h 3 (by omega),h 4 (by omega),h 5 (by omega)]
theorem div_mod (n k:Nat):n % (W * k) = n % W + W * (n / W % k):=Nat.mod_mul
theorem nv_wd (n:Nat):nv (wd n) = n % R:=by
 have e:R = W * (W * (W * (W * (W * W)))):=by decide
 rw [e,div_mod,div_mod,div_mod,div_mod,div_mod]
 unfold nv wd
 simp only [Nat.div_div_eq_div_mul,Nat.pow_zero,Nat.div_one,Nat.pow_one,<-Nat.pow_two,<-Nat.pow_succ]
theorem wd_nv (f:Nat->Nat):∀ i,i < 6->wd (nv f) i % W = f i % W:=by
 intro i hi
 have key:∀ (x r:Nat),x < W->(x + W * r) % W = x/\(x + W * r) / W = r:=by
  intro x r hx
  have hW:0 < W:=by decide
  refine ⟨by rw [Nat.add_mul_mod_self_left,Nat.mod_eq_of_lt hx],by rw [Nat.add_mul_div_left _ _ hW,Nat.div_eq_of_lt hx,Nat.zero_add]⟩
 have hl:∀ j,f j % W < W:=fun j=>Nat.mod_lt _ (by decide)
 unfold wd nv
 match i,hi with
 | 0,_=>simp only [Nat.pow_zero,Nat.div_one];exact (key _ _ (hl 0)).1
 | 1,_=>simp only [Nat.pow_one,(key _ _ (hl 0)).2];exact (key _ _ (hl 1)).1
 | 2,_=>simp only [Nat.pow_succ,Nat.pow_zero,Nat.one_mul,<-Nat.div_div_eq_div_mul,(key _ _ (hl 0)).2,(key _ _ (hl 1)).2];exact (key _ _ (hl 2)).1
 | 3,_=>simp only [Nat.pow_succ,Nat.pow_zero,Nat.one_mul,<-Nat.div_div_eq_div_mul,(key _ _ (hl 0)).2,(key _ _ (hl 1)).2,(key _ _ (hl 2)).2];exact (key _ _ (hl 3)).1
 | 4,_=>simp only [Nat.pow_succ,Nat.pow_zero,Nat.one_mul,<-Nat.div_div_eq_div_mul,(key _ _ (hl 0)).2,(key _ _ (hl 1)).2,(key _ _ (hl 2)).2,(key _ _ (hl 3)).2];exact (key _ _ (hl 4)).1
 | 5,_=>simp only [Nat.pow_succ,Nat.pow_zero,Nat.one_mul,<-Nat.div_div_eq_div_mul,(key _ _ (hl 0)).2,(key _ _ (hl 1)).2,(key _ _ (hl 2)).2,(key _ _ (hl 3)).2,(key _ _ (hl 4)).2];rw [Nat.mod_mod]
theorem wd_mod (n:Nat):∀ i,i < 6->wd (n % R) i % W = wd n i % W:=by
 intro i hi
 rw [<-nv_wd,wd_nv _ i hi]
theorem words_of_nv {f:Nat->Nat} {n:Nat} (h:nv f = n % R):∀ i,i < 6->f i % W = wd n i % W:=by
 intro i hi
 rw [<-wd_nv f i hi,h,wd_mod n i hi]
def numV (n:Nat):V1:=.agg [.ws .u64 6 (wd n)]
def numA (n:Nat):AV:=.v1 (numV n)
theorem numV_val {f:Nat->Nat} {n:Nat} (h:nv f = n % R) (ρ:Ren):(V1.agg [.ws .u64 6 f]).val ρ = (numV n).val ρ:=by
 simp only [numV,V1.val,cvals,Cell.vals,List.append_nil]
 congr 2
 refine List.map_congr_left fun i hi=>?_
 rw [show M .u64 = W from rfl,words_of_nv h i (List.mem_range.1 hi)]
theorem numA_val {f:Nat->Nat} {n:Nat} (h:nv f = n % R) (ρ:Ren):(AV.v1 (.agg [.ws .u64 6 f])).val ρ = (numA n).val ρ:=numV_val h ρ
theorem comb {s0 s1 s2 s3 s4 s5 x0 x1 x2 x3 x4 x5 y0 y1 y2 y3 y4 y5 c0 c1 c2 c3 c4 c5 c6:Nat} (z:c0 = 0) (e0:s0 + W * c1 = x0 + y0 + c0) (e1:s1 + W * c2 = x1 + y1 + c1) (e2:s2 + W * c3 = x2 + y2 + c2) (e3:s3 + W * c4 = x3 + y3 + c3) (e4:s4 + W * c5 = x4 + y4 + c4) (e5:s5 + W * c6 = x5 + y5 + c5) :
  s0 + W * (s1 + W * (s2 + W * (s3 + W * (s4 + W * s5)))) + R * c6 = x0 + W * (x1 + W * (x2 + W * (x3 + W * (x4 + W * x5)))) + (y0 + W * (y1 + W * (y2 + W * (y3 + W * (y4 + W * y5))))):=by
 simp only [R,W] at *;omega
def addC (a b:Nat->Nat):Nat->Nat
 | 0=>0
 | i + 1=>(a i % W + b i % W + addC a b i % W) / W
def addO (a b:Nat->Nat):Nat->(Nat->Nat)
 | 0=>fun _=>0
 | i + 1=>upd (addO a b i) i (a i + b i + addC a b i)
theorem addC_le (a b:Nat->Nat) (i:Nat):addC a b i <= 1:=by
 induction i with
 | zero=>simp [addC]
 | succ i ih =>
  have:=Nat.mod_lt (a i) (show 0 < W by decide)
  have:=Nat.mod_lt (b i) (show 0 < W by decide)
  simp only [addC,W] at *;omega
theorem addC_le' (a b:Nat->Nat) (i:Nat):addC a b i % W <= 1:=Nat.le_trans (Nat.mod_le _ _) (addC_le a b i)
theorem upd_same (f:Nat->Nat) (i x:Nat):upd f i x i = x:=by simp [upd]
theorem upd_ne (f:Nat->Nat) {i j:Nat} (x:Nat) (h:j ≠ i):upd f i x j = f j:=by
 have:Nat.beq j i = false:=by rw [<-Bool.not_eq_true,Nat.beq_eq];exact h
 simp [upd,this]
theorem addO_at (a b:Nat->Nat):∀ n i,i < n->addO a b n i = a i + b i + addC a b i
 | n + 1,i,h=>by
  simp only [addO]
  by_cases e:i = n
  ·subst e;rw [upd_same]
  ·rw [upd_ne _ _ e];exact addO_at a b n i (by omega)
theorem add_step (x y c:Nat) (hc:c <= 1):(x + y + c) % W + W * ((x % W + y % W + c % W) / W) = x % W + y % W + c:=by
 simp only [W];omega
theorem add_nv (a b:Nat->Nat):nv (addO a b 6) + R * addC a b 6 = nv a + nv b:=by
 have e:∀ i,i < 6->addO a b 6 i % W + W * addC a b (i + 1) = a i % W + b i % W + addC a b i:=fun i hi=>by
  rw [addO_at a b 6 i hi];exact add_step _ _ _ (addC_le a b i)
 have e0:=e 0 (by omega);have e1:=e 1 (by omega);have e2:=e 2 (by omega);have e3:=e 3 (by omega);have e4:=e 4 (by omega);have e5:=e 5 (by omega)
 exact comb rfl e0 e1 e2 e3 e4 e5
theorem add_sum (a b:Nat->Nat):nv (addO a b 6) = (nv a + nv b) % R/\(Nat.beq (addC a b 6 % W) (1 % W)) = Nat.ble R (nv a + nv b):=by
 have h:=add_nv a b
 have h1:=nv_lt (addO a b 6)
 have h2:=addC_le a b 6
 refine ⟨by rw [<-h,Nat.add_mul_mod_self_left,Nat.mod_eq_of_lt h1],?_⟩
 rw [Bool.eq_iff_iff,Nat.beq_eq,Nat.ble_eq]
 have:addC a b 6 % W = addC a b 6:=Nat.mod_eq_of_lt (by simp only [W];omega)
 rw [this]
 have e1:1 % W = 1:=by decide
 rw [e1]
 generalize addC a b 6 = c at *
 have:c = 0∨c = 1:=by omega
 rcases this with rfl | rfl
 ·constructor
  ·intro h;omega
  ·intro h;omega
 ·constructor
  ·intro _;omega
  ·intro _;rfl
theorem comb' {s0 s1 s2 s3 s4 s5 x0 x1 x2 x3 x4 x5 y0 y1 y2 y3 y4 y5 c0 c1 c2 c3 c4 c5 c6:Nat} (z:c0 = 0) (e0:s0 + (y0 + c0) = x0 + W * c1) (e1:s1 + (y1 + c1) = x1 + W * c2) (e2:s2 + (y2 + c2) = x2 + W * c3) (e3:s3 + (y3 + c3) = x3 + W * c4) (e4:s4 + (y4 + c4) = x4 + W * c5) (e5:s5 + (y5 + c5) = x5 + W * c6) :
  s0 + W * (s1 + W * (s2 + W * (s3 + W * (s4 + W * s5)))) + (y0 + W * (y1 + W * (y2 + W * (y3 + W * (y4 + W * y5))))) = x0 + W * (x1 + W * (x2 + W * (x3 + W * (x4 + W * x5)))) + R * c6:=by
 simp only [R,W] at *;omega
def subC (a b:Nat->Nat):Nat->Nat
 | 0=>0
 | i + 1=>bif Nat.blt (a i % W) (b i % W + subC a b i % W) then 1 else 0
def subO (a b:Nat->Nat):Nat->(Nat->Nat)
 | 0=>fun _=>0
 | i + 1=>upd (subO a b i) i (a i % W + W - b i % W - subC a b i % W)
theorem subC_le (a b:Nat->Nat) (i:Nat):subC a b i <= 1:=by
 cases i with
 | zero=>simp [subC]
 | succ i=>simp only [subC];cases Nat.blt (a i % W) (b i % W + subC a b i % W) <;> simp
theorem subC_le' (a b:Nat->Nat) (i:Nat):subC a b i % W <= 1:=Nat.le_trans (Nat.mod_le _ _) (subC_le a b i)
theorem subO_at (a b:Nat->Nat):∀ n i,i < n->subO a b n i = a i % W + W - b i % W - subC a b i % W
 | n + 1,i,h=>by
  simp only [subO]
  by_cases e:i = n
  ·subst e;rw [upd_same]
  ·rw [upd_ne _ _ e];exact subO_at a b n i (by omega)
theorem sub_step (x y c:Nat) (hc:c <= 1):(x % W + W - y % W - c % W) % W + (y % W + c) = x % W + W * (bif Nat.blt (x % W) (y % W + c % W) then 1 else 0):=by
 have e:c % W = c:=Nat.mod_eq_of_lt (by simp only [W];omega)
 rw [e]
 cases h:Nat.blt (x % W) (y % W + c)
 ·have:¬ x % W < y % W + c:=by rw [<-Nat.blt_eq,h];simp
  simp only [cond_false,W] at *;omega
 ·have:x % W < y % W + c:=by rw [<-Nat.blt_eq,h]
  simp only [cond_true,W] at *;omega
theorem sub_nv (a b:Nat->Nat):nv (subO a b 6) + nv b = nv a + R * subC a b 6:=by
 have e:∀ i,i < 6->subO a b 6 i % W + (b i % W + subC a b i) = a i % W + W * subC a b (i + 1):=fun i hi=>by
  rw [subO_at a b 6 i hi];exact sub_step _ _ _ (subC_le a b i)
 have e0:=e 0 (by omega);have e1:=e 1 (by omega);have e2:=e 2 (by omega);have e3:=e 3 (by omega);have e4:=e 4 (by omega);have e5:=e 5 (by omega)
 exact comb' rfl e0 e1 e2 e3 e4 e5
theorem sub_diff (a b:Nat->Nat):nv (subO a b 6) = (nv a + R - nv b) % R/\(Nat.beq (subC a b 6 % W) (1 % W)) = Nat.blt (nv a) (nv b):=by
 have h:=sub_nv a b
 have h1:=nv_lt (subO a b 6)
 have h2:=subC_le a b 6
 have h3:=nv_lt a
 have h4:=nv_lt b
 have e1:1 % W = 1:=by decide
 have e2:subC a b 6 % W = subC a b 6:=Nat.mod_eq_of_lt (by simp only [W];omega)
 rw [e1,e2]
 generalize subC a b 6 = c at *
 have:c = 0∨c = 1:=by omega
 rcases this with rfl | rfl
 ·refine ⟨?_,?_⟩
  ·rw [show nv a + R - nv b = nv (subO a b 6) + R by omega,Nat.add_mod_right,Nat.mod_eq_of_lt h1]
  ·rw [Bool.eq_iff_iff,Nat.beq_eq,Nat.blt_eq];omega
 ·refine ⟨?_,?_⟩
  ·rw [show nv a + R - nv b = nv (subO a b 6) by omega,Nat.mod_eq_of_lt h1]
  ·rw [Bool.eq_iff_iff,Nat.beq_eq,Nat.blt_eq];omega
def cmpI (x y:Nat):Int:=bif Nat.blt x y then -1 else bif Nat.blt y x then 1 else 0
def cmpP (a b:Nat->Nat) (v:Int->Prop):Nat->Prop
 | 0=>v 0
 | i + 1=>match Nat.blt (a i % W) (b i % W) with
  | true=>v (-1)
  | false=>match Nat.blt (b i % W) (a i % W) with
   | true=>v 1
   | false=>cmpP a b v i
def nvn (f:Nat->Nat):Nat->Nat
 | 0=>0
 | i + 1=>nvn f i + W ^ i * (f i % W)
theorem nvn_lt (f:Nat->Nat):∀ i,nvn f i < W ^ i
 | 0=>by simp [nvn]
 | i + 1=>by
  have:=nvn_lt f i
  have h2:=Nat.mod_lt (f i) (show 0 < W by decide)
  simp only [nvn,Nat.pow_succ]
  have:W ^ i * (f i % W) + W ^ i <= W ^ i * W:=by rw [<-Nat.mul_succ];exact Nat.mul_le_mul_left _ h2
  omega
theorem nv_nvn (f:Nat->Nat):nv f = nvn f 6:=by
 simp only [nvn,nv,W]
 omega
theorem cmpP_of (a b:Nat->Nat) (v:Int->Prop):∀ i,v (cmpI (nvn a i) (nvn b i))->cmpP a b v i
 | 0,h=>by
  have e:cmpI (nvn a 0) (nvn b 0) = 0:=rfl
  rw [e] at h;exact h
 | i + 1,h=>by
  have ha:=nvn_lt a i
  have hb:=nvn_lt b i
  simp only [cmpP]
  simp only [nvn] at h
  cases h1:Nat.blt (a i % W) (b i % W)
  ·have n1:¬ a i % W < b i % W:=by rw [<-Nat.blt_eq,h1];simp
   simp only
   cases h2:Nat.blt (b i % W) (a i % W)
   ·have n2:¬ b i % W < a i % W:=by rw [<-Nat.blt_eq,h2];simp
    have e:a i % W = b i % W:=by omega
    simp only
    refine cmpP_of a b v i ?_
    rw [e] at h
    have e1:Nat.blt (nvn a i + W ^ i * (b i % W)) (nvn b i + W ^ i * (b i % W)) = Nat.blt (nvn a i) (nvn b i):=by rw [Bool.eq_iff_iff,Nat.blt_eq,Nat.blt_eq];omega
    have e2:Nat.blt (nvn b i + W ^ i * (b i % W)) (nvn a i + W ^ i * (b i % W)) = Nat.blt (nvn b i) (nvn a i):=by rw [Bool.eq_iff_iff,Nat.blt_eq,Nat.blt_eq];omega
    unfold cmpI at h ⊢
    rw [e1,e2] at h
    exact h
   ·have n2:b i % W < a i % W:=by rw [<-Nat.blt_eq,h2]
    simp only
    have hm:W ^ i * (b i % W) + W ^ i <= W ^ i * (a i % W):=by rw [<-Nat.mul_succ];exact Nat.mul_le_mul_left _ n2
    have e1:Nat.blt (nvn a i + W ^ i * (a i % W)) (nvn b i + W ^ i * (b i % W)) = false:=by rw [<-Bool.not_eq_true,Nat.blt_eq];omega
    have e2:Nat.blt (nvn b i + W ^ i * (b i % W)) (nvn a i + W ^ i * (a i % W)) = true:=by rw [Nat.blt_eq];omega
    unfold cmpI at h
    rw [e1,e2] at h
    exact h
  ·have n1:a i % W < b i % W:=by rw [<-Nat.blt_eq,h1]
   simp only
   have hm:W ^ i * (a i % W) + W ^ i <= W ^ i * (b i % W):=by rw [<-Nat.mul_succ];exact Nat.mul_le_mul_left _ n1
   have e1:Nat.blt (nvn a i + W ^ i * (a i % W)) (nvn b i + W ^ i * (b i % W)) = true:=by rw [Nat.blt_eq];omega
   unfold cmpI at h
   rw [e1] at h
   exact h
def bitI (n:Nat):Int->Int
 | .ofNat i=>Int.ofNat (n / 2 ^ i % 2)
 | .negSucc _=>0
theorem bit_nv (f:Nat->Nat) (i:Nat) (h:i < 384):f (i / 64) % W / 2 ^ (i % 64) % 2 = nv f / 2 ^ i % 2:=by
 have hi:i / 64 < 6:=by omega
 rw [<-wd_nv f _ hi]
 unfold wd
 have e1:(2:Nat) ^ i = W ^ (i / 64) * 2 ^ (i % 64):=by
  have:W = 2 ^ 64:=by decide
  rw [this,<-Nat.pow_mul,<-Nat.pow_add]
  congr 1;omega
 rw [e1,<-Nat.div_div_eq_div_mul]
 generalize nv f / W ^ (i / 64) = x
 have e2:W = 2 ^ (i % 64) * 2 ^ (64 - i % 64):=by
  rw [<-Nat.pow_add,show i % 64 + (64 - i % 64) = 64 by omega];decide
 rw [e2,Nat.mod_mul_right_div_self]
 have:(2:Nat) ^ (64 - i % 64) = 2 * 2 ^ (63 - i % 64):=by
  rw [<-Nat.pow_succ'];congr 1;omega
 rw [this,Nat.mod_mul_right_mod]
def E:Nat:=384
theorem E_eq:E = 384:=rfl
theorem R_pow:R = 2 ^ E:=by kernel_rfl
theorem nv_bit_high (f:Nat->Nat) (i:Nat) (h:384 <= i):nv f / 2 ^ i % 2 = 0:=by
 have h1:=nv_lt f
 have h2:R <= 2 ^ i:=by
  rw [R_pow];exact Nat.pow_le_pow_right (by omega) h
 rw [Nat.div_eq_of_lt (by omega)]
end Go.Rq
namespace Go.Proofs.Ytnjocbcjejpklaa
open Go.Rq Go
set_option maxRecDepth 100000
theorem okAdd64:(CallC.pure cAdd64).Ok Try.prog 80:=add64_ok Try.func80 (by kernel_rfl) (by kernel_rfl) (by kernel_rfl) (by kernel_rfl)
theorem okSub64:(CallC.pure cSub64).Ok Try.prog 82:=sub64_ok Try.func82 (by kernel_rfl) (by kernel_rfl) (by kernel_rfl) (by kernel_rfl)
def GA:Ctx:=fun f=>bif Nat.beq f 80 then some (.pure cAdd64) else bif Nat.beq f 82 then some (.pure cSub64) else none
theorem GA_ok:CtxOk Try.prog GA:=by
 intro f c h
 unfold GA at h
 cases h1:Nat.beq f 80
 ·rw [h1] at h
  cases h2:Nat.beq f 82
  ·rw [h2] at h;cases h
  ·rw [h2] at h;cases h;rw [Nat.beq_eq] at h2;subst h2;exact okSub64
 ·rw [h1] at h;cases h;rw [Nat.beq_eq] at h1;subst h1;exact okAdd64
def cOf:List AV->Option (List Prop × AV)
 | [.v1 (.sc (.w .u64 n))]=>some ([],numA (n % W))
 | _=>none
theorem of_nv (n:Nat):nv (upd (fun _=>0) 0 n) = (n % W) % R:=by
 have:n % W < R:=Nat.lt_trans (Nat.mod_lt _ (by decide)) (by decide)
 rw [Nat.mod_eq_of_lt this]
 unfold nv
 rw [upd_same,upd_ne _ _ (by decide),upd_ne _ _ (by decide),upd_ne _ _ (by decide),upd_ne _ _ (by decide),upd_ne _ _ (by decide)]
 simp
theorem okOf:(CallC.pure cOf).Ok Try.prog 15:=by
 intro args pre v h _
 unfold cOf at h
 split at h
 ·rename_i n
  cases h
  intro h
  refine CallOk.congr (v:=.v1 (.agg [.ws .u64 6 (upd (fun _=>0) 0 n)])) (pure_fn mixed tt_ok GA_ok Try.func15 (by kernel_rfl) (by kernel_rfl) (by kernel_rfl) (by kernel_rfl) 50 [] ?_ h) (fun ρ=>numA_val (of_nv n) ρ) (by kernel_rfl)
  exact same (p:=some (AV.v1 (.agg [.ws .u64 6 (upd (fun _=>0) 0 n)])) = some (AV.v1 (.agg [.ws .u64 6 (upd (fun _=>0) 0 n)]))) rfl (by kernel_rfl)
 ·cases h
def cAdd:List AV->Option (List Prop × AV)
 | [.v1 (.agg [.ws .u64 6 a]),.v1 (.agg [.ws .u64 6 b])]=>some ([],.tup [numV ((nv a + nv b) % R),.sc (.bo (Nat.ble R (nv a + nv b)))])
 | _=>none
def cCmp:List AV->Option (List Prop × AV)
 | [.v1 (.agg [.ws .u64 6 a]),.v1 (.agg [.ws .u64 6 b])]=>some ([],.v1 (.sc (.it (cmpI (nv a) (nv b)))))
 | _=>none
theorem okCmp:(CallC.pure cCmp).Ok Try.prog 78:=by
 intro args pre v h _
 unfold cCmp at h
 split at h
 ·rename_i a b
  cases h
  refine pure_fn mixed tt_ok GA_ok Try.func78 (by kernel_rfl) (by kernel_rfl) (by kernel_rfl) (by kernel_rfl) 100 [] ?_
  refine same (p:=cmpP a b (fun z=>some (AV.v1 (.sc (.it z))) = some (AV.v1 (.sc (.it (cmpI (nv a) (nv b)))))) 6) (cmpP_of a b _ 6 (by rw [<-nv_nvn,<-nv_nvn])) (by kernel_rfl)
 ·cases h
end Go.Proofs.Ytnjocbcjejpklaa
namespace Go.Rq
open Go
def ctxL:List (Nat × CallC)->Ctx
 | [],_=>none
 | p :: r,f=>match Nat.beq f p.1 with
  | true=>some p.2
  | false=>ctxL r f
theorem ctxL_nil {P:Program}:CtxOk P (ctxL []):=fun f c h=>by cases h
theorem ctxL_cons {P:Program} {n:Nat} {c:CallC} {l:List (Nat × CallC)} (h:c.Ok P n) (hl:CtxOk P (ctxL l)):CtxOk P (ctxL ((n,c) :: l)):=by
 intro f c' e
 simp only [ctxL] at e
 split at e
 ·rename_i hb
  rw [Nat.beq_eq] at hb
  subst hb
  cases e;exact h
 ·exact hl f c' e
def LK (ks:List Nat) (n m:Nat) (KK:List AV->Heap->Prop) (s:AS):Prop:=Nat.beq s.t.length n = true/\KK (pickT s.t ks) (takeH m s.h)
theorem LK.live {ks:List Nat} {n m:Nat} {KK:List AV->Heap->Prop} {s:AS} (h:LK ks n m KK s) {vs:List AV} {g:Heap} (hv:pickT s.t ks = vs) (hg:takeH m s.h = g) (hm:g.length = m):Live ks vs n g s :=
 ⟨Nat.beq_eq.mp h.1,hv,by rw [hm];exact hg⟩
def RoundE {ι:Type} (id:Nat) (ks:List Nat) (n m:Nat) (V:ι->List AV) (H:ι->Heap) (μ:ι->Nat) (i:ι) (E:ι->Prop) (Q:Exit->AS->Prop):Exit->AS->Prop
 | .normal,s=>LK ks n m (fun vs h=>∃ j,μ j < μ i/\vs = V j/\h = H j) s
 | .exit b,s=>match Nat.beq b id with
  | true=>LK ks n m (fun vs h=>∃ j,E j/\vs = V j/\h = H j) s
  | false=>Q (.exit b) s
 | e,s=>Q e s
theorem loopS {P:Program} {D:Nat->Prop} {pre post:List Code} {id:Nat} {c:Code} {Q:Exit->AS->Prop} {s0:AS} {ι:Type} (ks:List Nat) (n m:Nat) (V:ι->List AV) (H:ι->Heap) (μ:ι->Nat) (E:ι->Prop)
  (hm:∀ i,(H i).length = m) (hb:∀ i,liveB (V i) (H i) = true) (hD:∀ i j,D j->Dm (H i) j)
  (start:AWqS P D pre (fun e s=>match e with
   | .normal=>LK ks n m (fun vs h=>∃ j,vs = V j/\h = H j) s
   | e=>Q e s) s0)
  (step:∀ i junk,AWq P D c (RoundE id ks n m V H μ i E Q) ⟨mkT ks (V i) n junk,H i⟩)
  (fin:∀ j junk,E j->AWqS P D post Q ⟨mkT ks (V j) n junk,H j⟩) :
  AWqS P D (pre ++ .block id (.loop c) :: post) Q s0:=by
 refine AWqS.app (start.mono fun e s q=>?_)
 cases e with
 | normal =>
  obtain ⟨j,hv,hg⟩:=q.2
  have hl:Live ks (V j) n (H j) s:=q.live hv hg (hm j)
  show AWqS P D (.block id (.loop c) :: post) Q s
  refine AWq.liveLoop (Q:=fun e s'=>match e with
   | .normal=>AWqS P D post Q s'
   | e=>Q e s') ks n V H μ hb hD (fun i junk=>(step i junk).mono fun e s' q=>?_) j hl
  cases e with
  | normal =>
   have q:LK ks n m (fun vs h=>∃ k,μ k < μ _/\vs = V k/\h = H k) s':=q
   obtain ⟨k,hk,hv,hg⟩:=q.2
   exact ⟨k,hk,q.live hv hg (hm k)⟩
  | exit b =>
   simp only [RoundE] at q
   split at q
   ·rename_i hbe
    have:b = id:=Nat.beq_eq.mp hbe
    simp only [this,if_true]
    obtain ⟨k,hk,hv,hg⟩:=q.2
    exact AWqS.of_live (q.live hv hg (hm k)) (hb k) (hD k) fun junk=>fin k junk hk
   ·rename_i hbe
    have:b ≠ id:=fun e=>by rw [<-Nat.beq_eq,hbe] at e;cases e
    simp only [this,if_false]
    exact q
  | _=>exact q
 | _=>exact q
def FEnd' (T:TT) (fn:Func) (v:AV):Exit->AS->Prop
 | .normal,s | .ret,s=>∃ v',resA T s fn.results.toList = some v'/\∀ ρ,v'.val ρ = v.val ρ
 | _,_=>False
theorem pure_walk' {P:Program} {T:TT} (hT:TTOk P T) {f:FuncId} {fn:Func} (hf:P.funcs[f]? = some fn) (hb:fn.body = some (bodyOf fn)) (hn:(fn.name == "runtime.NumGoroutine") = false)
  {args:List AV} (hargs:args.all vokB = true) {v:AV} (hv:vokB v = true)
  (h:AWqS P (fun _=>False) (flatC (bodyOf fn)) (FEnd' T fn v) ⟨frame0 args fn.ntmps,[]⟩):∀ h,CallOk P f args h v h:=by
 have hargs:∀ x ∈ args,x.ok fun _=>False:=fun x hx=>vok_of (List.all_eq_true.1 hargs x hx)
 have hv:v.ok fun _=>False:=vok_of hv
 have h:AWp P (bodyOf fn) (FEnd' T fn v) ⟨frame0 args fn.ntmps,[]⟩:=by
  intro ρ a w r
  have e:Dm ([]:Heap) = fun _=>False:=by funext i;simp [Dm,hget]
  have:=AWq.of_flat _ h ρ w ρ a w r (by rw [e];exact StepR.refl _ _ _)
  rw [e]
  exact this
 intro hp ρ w hr _ o a next Q hnext
 rw [enter_run hf hb hn,Oper.upon_enter]
 refine calls_of_wp hf hb ?_
 have hrel:Rel (fun _=>0) ⟨frame0 args fn.ntmps,[]⟩ { tmps:=(args.map (AV.val ρ)).toArray ++ Array.replicate (fn.ntmps - (args.map (AV.val ρ)).toArray.size) undef,defers:=[] } w:=by
  refine ⟨?_,rfl,fun x hx=>?_,RelH.nil _ _⟩
  ·have:args.map (AV.val fun _=>0) = args.map (AV.val ρ):=List.map_congr_left fun x hx=>val_ok_any (hargs x hx) _ _
   apply Array.ext'
   simp [frame0,this,undefA,AV.val,undef]
  ·unfold frame0 at hx
   rcases List.mem_append.1 hx with hx | hx
   ·exact AV.ok_mono (fun _ h=>h.elim) (hargs x hx)
   ·have:=(List.mem_replicate.1 hx).2
    subst this
    intro v hv;cases hv
 refine wp_mono (h _ _ w hrel) fun e a' w' ⟨s',ρ',q,r',st⟩=>?_
 have fin:(∃ v',resA T s' fn.results.toList = some v'/\∀ ρ,v'.val ρ = v.val ρ)->a'.defers = []/\∃ u,(results fn a'.tmps).run P w' = .ok u w'/\next (a.put o.dst u) w':=by
  intro ⟨v',hres,hvv⟩
  have:=resA_run hT r' (fn:=fn) hres
  refine ⟨r'.defers,_,this.1,?_⟩
  rw [hvv ρ',val_ok_any hv ρ' ρ]
  have st':StepR (fun _=>False) (fun _=>0) w (Dm s'.h) ρ' w':=by
   have e:Dm ([]:Heap) = fun _=>False:=by funext i;simp [Dm,hget]
   rw [e] at st
   exact st
  have hk:=hr.keep st'
  exact hnext ρ w' hk.2 hk.1 (AV.ok_mono (fun _ h=>h.elim) hv)
 cases e with
 | normal=>exact fin q
 | ret=>exact fin q
 | exit j=>exact q.elim
 | goto l=>exact q.elim
 | panic ch=>exact q.elim
 | outgrown=>exact q.elim
def ix (i n:Nat) (q:Prop):Prop:=0 <= Int.ofNat i/\Int.ofNat i < (n:Int)/\i < n/\q
theorem ix_of {i n:Nat} {q:Prop} (h:i < n) (k:q):ix i n q:=⟨Int.natCast_nonneg _,by simp;exact h,h,k⟩
theorem ilt_t {i n:Nat} (h:i < n):ilt (Int.ofNat i) (Int.ofNat n) = true:=by rw [ilt_iff];simp;exact h
theorem ilt_f {i n:Nat} (h:¬ i < n):ilt (Int.ofNat i) (Int.ofNat n) = false:=by rw [<-Bool.not_eq_true,ilt_iff];simp;omega
def isLoop:Code->Bool
 | .block _ (.loop _)=>true
 | _=>false
def loopId:Code->Nat
 | .block id _=>id
 | _=>0
def loopOf:Code->Code
 | .block _ (.loop c)=>c
 | _=>.skip
def hasL:List Code->Bool
 | []=>false
 | c :: r=>match isLoop c with
  | true=>true
  | false=>hasL r
def preL:List Code->List Code
 | []=>[]
 | c :: r=>match isLoop c with
  | true=>[]
  | false=>c :: preL r
def atL:List Code->Code
 | []=>.skip
 | c :: r=>match isLoop c with
  | true=>c
  | false=>atL r
def postL:List Code->List Code
 | []=>[]
 | c :: r=>match isLoop c with
  | true=>r
  | false=>postL r
theorem loop_eq {c:Code} (h:isLoop c = true):c = .block (loopId c) (.loop (loopOf c)):=by
 unfold isLoop at h
 split at h
 ·rfl
 ·cases h
theorem splitL:∀ {l:List Code},hasL l = true->l = preL l ++ .block (loopId (atL l)) (.loop (loopOf (atL l))) :: postL l
 | [],h=>by cases h
 | c :: r,h=>by
  simp only [hasL] at h
  cases hc:isLoop c
  ·simp only [preL,atL,postL,hc]
   rw [hc] at h
   exact congrArg (c :: ·) (splitL (l:=r) h)
  ·simp only [preL,atL,postL,hc]
   rw [<-loop_eq hc];rfl
def StartE {ι:Type} (ks:List Nat) (n m:Nat) (V:ι->List AV) (H:ι->Heap) (Q:Exit->AS->Prop):Exit->AS->Prop
 | .normal,s=>LK ks n m (fun vs h=>∃ j,vs = V j/\h = H j) s
 | e,s=>Q e s
theorem loopF {P:Program} {T:TT} {G:Ctx} {D:Nat->Prop} (hmx:P.follows .mixedOrders = true) (hT:TTOk P T) (hG:CtxOk P G) {l:List Code} (hl:hasL l = true) {Q:Exit->AS->Prop} {s0:AS} {ι:Type} (ks:List Nat) (n m:Nat) (V:ι->List AV) (H:ι->Heap) (μ:ι->Nat) (E:ι->Prop)
  (hm:∀ i,(H i).length = m) (hb:∀ i,liveB (V i) (H i) = true) (hD:∀ i j,D j->Dm (H i) j) (fuel:Nat) (hs:List Hint)
  (start:evS P T G fuel (preL l) (fun e s _=>StartE ks n m V H Q e s) s0 hs)
  (step:∀ i junk,AWq P D (loopOf (atL l)) (RoundE (loopId (atL l)) ks n m V H μ i E Q) ⟨mkT ks (V i) n junk,H i⟩)
  (fin:∀ j junk,E j->evS P T G fuel (postL l) (fun e s _=>Q e s) ⟨mkT ks (V j) n junk,H j⟩ []) :
  AWqS P D l Q s0:=by
 rw [splitL hl]
 refine loopS ks n m V H μ E hm hb hD ((evS_q hmx hT hG fuel hs start).mono fun e s q=>?_) step fun j junk e=>evS_q hmx hT hG fuel [] (fin j junk e)
 cases e <;> exact q
theorem roundF {P:Program} {T:TT} {G:Ctx} {D:Nat->Prop} (hmx:P.follows .mixedOrders = true) (hT:TTOk P T) (hG:CtxOk P G) (fuel:Nat) {c:Code} {Q:Exit->AS->Prop} {s:AS} (hs:List Hint) (h:ev P T G fuel c (fun e s _=>Q e s) s hs):AWq P D c Q s :=
 ev_q hmx hT hG fuel hs h
end Go.Rq
namespace Go.Rq
def mulHi (x y:Nat):Nat :=
 x % W / 4294967296 * (y % W / 4294967296) +
  (x % W / 4294967296 * (y &&& 4294967295) + (x &&& 4294967295) * (y &&& 4294967295) % W / 4294967296) % W / 4294967296 +
  ((x % W / 4294967296 * (y &&& 4294967295) + (x &&& 4294967295) * (y &&& 4294967295) % W / 4294967296 &&& 4294967295) + (x &&& 4294967295) * (y % W / 4294967296)) % W / 4294967296
theorem and_mask (x:Nat):x &&& 4294967295 = x % 4294967296:=Nat.and_two_pow_sub_one_eq_mod x 32
theorem mulHi_eq (x y:Nat):mulHi x y = x % W * (y % W) / W:=by
 have h:=Go.Lib.mul64_hi (x % W) (y % W) (Nat.mod_lt _ (by decide)) (Nat.mod_lt _ (by decide))
 have e1:x % 4294967296 = x % W % 4294967296:=(Nat.mod_mod_of_dvd x ⟨4294967296,by decide⟩).symm
 have e2:y % 4294967296 = y % W % 4294967296:=(Nat.mod_mod_of_dvd y ⟨4294967296,by decide⟩).symm
 unfold mulHi
 rw [and_mask,and_mask,and_mask,e1,e2]
 generalize x % W = X at *
 generalize y % W = Y at *
 simp only [W] at *
 obtain ⟨h1,h2,h3,h4⟩:=h
 rw [Nat.mod_eq_of_lt h1,Nat.mod_eq_of_lt h2,Nat.mod_eq_of_lt h3]
 exact h4
def blen (n:Nat):Nat:=bif Nat.beq n 0 then 0 else Nat.log2 n + 1
theorem blen_zero:blen 0 = 0:=rfl
theorem blen_pos {n:Nat} (h:n ≠ 0):blen n = Nat.log2 n + 1:=by
 have:Nat.beq n 0 = false:=by rw [<-Bool.not_eq_true,Nat.beq_eq];exact h
 unfold blen;rw [this];rfl
theorem blen_of {n k:Nat} (h1:2 ^ k <= n) (h2:n < 2 ^ (k + 1)):blen n = k + 1:=by
 have hn:n ≠ 0:=by have:=Nat.two_pow_pos k;omega
 rw [blen_pos hn]
 have a:=(Nat.le_log2 hn).2 h1
 have b:=(Nat.log2_lt hn).2 h2
 omega
theorem blen_bounds {n:Nat} (h:n ≠ 0):2 ^ (blen n - 1) <= n/\n < 2 ^ blen n:=by
 rw [blen_pos h]
 exact ⟨Nat.log2_self_le h,Nat.lt_log2_self⟩
theorem blen_shift {k x:Nat} (h:2 ^ k <= x):blen x = k + blen (x / 2 ^ k):=by
 have hp:=Nat.two_pow_pos k
 have hq:x / 2 ^ k ≠ 0:=by have:=Nat.div_pos h hp;omega
 obtain ⟨h1,h2⟩:=blen_bounds hq
 have hb:0 < blen (x / 2 ^ k):=by rw [blen_pos hq];omega
 have:k + blen (x / 2 ^ k) = (k + (blen (x / 2 ^ k) - 1)) + 1:=by omega
 rw [this]
 refine blen_of ?_ ?_
 ·rw [Nat.pow_add,Nat.mul_comm];exact (Nat.le_div_iff_mul_le hp).1 h1
 ·rw [<-this,Nat.pow_add,Nat.mul_comm];exact (Nat.div_lt_iff_lt_mul hp).1 h2
theorem blen_lt {n k:Nat} (h:n < 2 ^ k):blen n <= k:=by
 by_cases hn:n = 0
 ·subst hn;rw [blen_zero];omega
 ·rw [blen_pos hn];have:=(Nat.log2_lt hn).2 h;omega
theorem tab_blen:∀ n:Fin 256,byteAt Go.Lib.len8tab n.val = blen n.val:=by decide +kernel
theorem tab_eq {n:Nat} (h:n < 256):byteAt Go.Lib.len8tab n = blen n:=tab_blen ⟨n,h⟩
theorem wrapI_small {n:Nat} (h:n < 9223372036854775808):wrapI (Int.ofNat n) = Int.ofNat n:=by
 have:Nat.blt n two63 = true:=by rw [Nat.blt_eq];exact h
 unfold wrapI;simp only [this];rfl
theorem and63:∀ i:Fin 384,bitsI .and (Int.ofNat i.val) 63 = Int.ofNat (i.val % 64):=by decide +kernel
theorem fdiv6:∀ i:Fin 384,(Int.ofNat i.val).fdiv (2 ^ 6) = Int.ofNat (i.val / 64):=by decide +kernel
theorem tdiv64:∀ i:Fin 384,wrapI ((Int.ofNat i.val).tdiv 64) = Int.ofNat (i.val / 64):=by decide +kernel
theorem tmod64:∀ i:Fin 384,(Int.ofNat i.val).tmod 64 = Int.ofNat (i.val % 64):=by decide +kernel
theorem bit_word (a:Nat->Nat) {i:Nat} (h:i < 384) :
  wrapI (Int.ofNat ((a (i / 64) % W / 2 ^ min (i % 64) 64 &&& 1) % W)) = bitI (nv a) (Int.ofNat i):=by
 rw [Nat.and_one_is_mod,Nat.min_eq_left (by omega),bit_nv a i h]
 have:nv a / 2 ^ i % 2 < 2:=Nat.mod_lt _ (by decide)
 rw [Nat.mod_eq_of_lt (a:=nv a / 2 ^ i % 2) (by simp only [W];omega)]
 exact wrapI_small (by omega)
theorem bit_high (a:Nat->Nat) {i:Nat} (h:384 <= i):bitI (nv a) (Int.ofNat i) = 0:=by
 simp only [bitI,nv_bit_high a i h];rfl
def lenP (a:Nat->Nat) (v:Int->Prop):Nat->Prop
 | 0=>v 0
 | i + 1=>match not (Nat.beq (a i % W) 0) with
  | true=>v (wrapI (wrapI (64 * Int.ofNat i) + Int.ofNat (blen (a i % W))))
  | false=>lenP a v i
theorem lenP_of (a:Nat->Nat) (v:Int->Prop):∀ i,i <= 6->v (Int.ofNat (blen (nvn a i)))->lenP a v i
 | 0,_,h=>h
 | i + 1,hi,h=>by
  simp only [lenP]
  have hl:=nvn_lt a i
  cases h1:Nat.beq (a i % W) 0
  ·have hne:a i % W ≠ 0:=fun e=>by rw [<-Nat.beq_eq,h1] at e;cases e
   simp only [Bool.not_false]
   have hlt:a i % W < 2 ^ 64:=Nat.mod_lt _ (by decide)
   have hb:=blen_lt hlt
   have e:blen (nvn a (i + 1)) = 64 * i + blen (a i % W):=by
    have hw:W ^ i = 2 ^ (64 * i):=by rw [Nat.pow_mul];rfl
    simp only [nvn]
    have hd:(nvn a i + W ^ i * (a i % W)) / 2 ^ (64 * i) = a i % W:=by
     rw [<-hw,Nat.add_mul_div_left _ _ (Nat.pow_pos (by decide)),Nat.div_eq_of_lt hl,Nat.zero_add]
    have hs:=blen_shift (k:=64 * i) (x:=nvn a i + W ^ i * (a i % W)) ?_
    ·rw [hd] at hs;exact hs
    rw [<-hw]
    have:=Nat.mul_le_mul_left (W ^ i) (Nat.one_le_iff_ne_zero.2 hne)
    omega
   rw [e] at h
   have e2:wrapI (wrapI (64 * Int.ofNat i) + Int.ofNat (blen (a i % W))) = Int.ofNat (64 * i + blen (a i % W)):=by
    have e3:(64:Int) * Int.ofNat i = Int.ofNat (64 * i):=by simp
    rw [e3,wrapI_small (by omega)]
    have e4:Int.ofNat (64 * i) + Int.ofNat (blen (a i % W)) = Int.ofNat (64 * i + blen (a i % W)):=by simp
    rw [e4,wrapI_small (by omega)]
   rw [e2];exact h
  ·have hz:a i % W = 0:=Nat.beq_eq.mp h1
   simp only [Bool.not_true]
   refine lenP_of a v i (by omega) ?_
   simp only [nvn,hz,Nat.mul_zero,Nat.add_zero] at h
   exact h
theorem wrapI_succ {i:Nat} (h:i < 9223372036854775806):wrapI (Int.ofNat i + 1) = Int.ofNat (i + 1):=by
 have:Int.ofNat i + 1 = Int.ofNat (i + 1):=rfl
 rw [this,wrapI_small (by omega)]
end Go.Rq
namespace Go.Proofs.Ytnjocbcjejpklaa
open Go.Rq Go
set_option maxRecDepth 100000
theorem G0_ok:CtxOk Try.prog (ctxL []):=ctxL_nil
def cMul64:List AV->Option (List Prop × AV)
 | [.v1 (.sc (.w .u64 x)),.v1 (.sc (.w .u64 y))]=>some ([],.tup [.sc (.w .u64 (x % W * (y % W) / W)),.sc (.w .u64 (x * y))])
 | _=>none
theorem okMul64:(CallC.pure cMul64).Ok Try.prog 84:=by
 intro args pre v h _
 unfold cMul64 at h
 split at h
 ·rename_i x y
  cases h
  intro h
  refine CallOk.congr (v:=.tup [.sc (.w .u64 (mulHi x y)),.sc (.w .u64 (x * y))]) (pure_fn mixed tt_ok G0_ok Try.func84 (by kernel_rfl) (by kernel_rfl) (by kernel_rfl) (by kernel_rfl) 50 [] ?_ h) (fun ρ=>by rw [mulHi_eq]) (by kernel_rfl)
  exact same (p:=some (AV.tup [.sc (.w .u64 (mulHi x y)),.sc (.w .u64 (x * y))]) = some (AV.tup [.sc (.w .u64 (mulHi x y)),.sc (.w .u64 (x * y))])) rfl (by kernel_rfl)
 ·cases h
def cBit:List AV->Option (List Prop × AV)
 | [.v1 (.agg [.ws .u64 6 a]),.v1 (.sc (.it i))]=>some ([],.v1 (.sc (.it (bitI (nv a) i))))
 | _=>none
theorem okBit:(CallC.pure cBit).Ok Try.prog 45:=by
 intro args pre v h _
 unfold cBit at h
 split at h
 ·rename_i a i
  cases h
  cases i with
  | negSucc i =>
   refine pure_fn mixed tt_ok G0_ok Try.func45 (by kernel_rfl) (by kernel_rfl) (by kernel_rfl) (by kernel_rfl) 50 [] ?_
   exact same (p:=some (AV.v1 (.sc (.it 0))) = some (AV.v1 (.sc (.it 0)))) rfl (by kernel_rfl)
  | ofNat i =>
   by_cases hi:i < 384
   ·refine pure_fn mixed tt_ok G0_ok Try.func45 (by kernel_rfl) (by kernel_rfl) (by kernel_rfl) (by kernel_rfl) 50 [⟨1,1,.lit (.bo false)⟩,⟨1,4,.lit (.bo false)⟩,⟨3,1,.lit (.it (Int.ofNat (i/64)))⟩,⟨3,2,.sym⟩,⟨3,3,.sym⟩,⟨3,5,.lit (.it (Int.ofNat (i%64)))⟩] ?_
    refine same (p:=ilt (Int.ofNat i) 0 = false/\(!ilt (Int.ofNat i) 384) = false/\(Int.ofNat i).fdiv (2 ^ 6) = Int.ofNat (i / 64)/\0 <= Int.ofNat (i / 64)/\Int.ofNat (i / 64) < ((6:Nat):Int)/\i / 64 < 6/\bitsI .and (Int.ofNat i) 63 = Int.ofNat (i % 64) /\
     some (AV.v1 (.sc (.it (wrapI (Int.ofNat ((a (i / 64) % W / 2 ^ min (i % 64) 64 &&& 1) % W)))))) = some (AV.v1 (.sc (.it (bitI (nv a) (Int.ofNat i)))))) ?_ (by kernel_rfl)
    refine ⟨?_,?_,fdiv6 ⟨i,hi⟩,Int.natCast_nonneg _,by simp;omega,by omega,and63 ⟨i,hi⟩,by rw [bit_word a hi]⟩
    ·rw [<-Bool.not_eq_true,ilt_iff];simp
    ·have:ilt (Int.ofNat i) 384 = true:=by rw [ilt_iff];simp;omega
     rw [this];rfl
   ·have e:bitI (nv a) (Int.ofNat i) = 0:=bit_high a (by omega)
    rw [e]
    refine pure_fn mixed tt_ok G0_ok Try.func45 (by kernel_rfl) (by kernel_rfl) (by kernel_rfl) (by kernel_rfl) 50 [⟨1,1,.lit (.bo false)⟩,⟨1,4,.lit (.bo true)⟩] ?_
    refine same (p:=ilt (Int.ofNat i) 0 = false/\(!ilt (Int.ofNat i) 384) = true/\some (AV.v1 (.sc (.it 0))) = some (AV.v1 (.sc (.it 0)))) ⟨?_,?_,rfl⟩ (by kernel_rfl)
    ·rw [<-Bool.not_eq_true,ilt_iff];simp
    ·have:ilt (Int.ofNat i) 384 = false:=by rw [<-Bool.not_eq_true,ilt_iff];simp;omega
     rw [this];rfl
 ·cases h
def cLen64:List AV->Option (List Prop × AV)
 | [.v1 (.sc (.w .u64 x))]=>some ([],.v1 (.sc (.it (Int.ofNat (blen (x % W))))))
 | _=>none
theorem len_fin {d e y n:Nat} (h:n = d + e + blen y) (hd:d + e <= 64) (hy:y < 256) (z:Int) (hz:z = Int.ofNat (d + e)):wrapI (z + wrapI (Int.ofNat (byteAt Go.Lib.len8tab y % 256))) = Int.ofNat n:=by
 have hb:blen y <= 8:=blen_lt (k:=8) (by omega)
 rw [tab_eq hy,Nat.mod_eq_of_lt (by omega),wrapI_small (by omega),hz]
 have:Int.ofNat (d + e) + Int.ofNat (blen y) = Int.ofNat n:=by rw [h];simp
 rw [this,wrapI_small (by omega)]
theorem okLen64:(CallC.pure cLen64).Ok Try.prog 73:=by
 intro args pre v h _
 unfold cLen64 at h
 split at h
 ·rename_i x
  cases h
  have hx:x % W < 18446744073709551616:=Nat.mod_lt _ (by decide)
  by_cases h1:4294967296 <= x % W
  ·have s1:blen (x % W) = 32 + blen (x % W / 4294967296):=blen_shift (k:=32) h1
   have m1:x % W / 4294967296 % W = x % W / 4294967296:=Nat.mod_eq_of_lt (by simp only [W] at *;omega)
   by_cases h2:65536 <= x % W / 4294967296
   ·have s2:blen (x % W / 4294967296) = 16 + blen (x % W / 4294967296 / 65536):=blen_shift (k:=16) h2
    have m2:x % W / 4294967296 / 65536 % W = x % W / 4294967296 / 65536:=Nat.mod_eq_of_lt (by simp only [W] at *;omega)
    by_cases h3:256 <= x % W / 4294967296 / 65536
    ·have s3:blen (x % W / 4294967296 / 65536) = 8 + blen (x % W / 4294967296 / 65536 / 256):=blen_shift (k:=8) h3
     have m3:x % W / 4294967296 / 65536 / 256 % W = x % W / 4294967296 / 65536 / 256:=Nat.mod_eq_of_lt (by simp only [W] at *;omega)
     refine pure_fn mixed tt_ok G0_ok Try.func73 (by kernel_rfl) (by kernel_rfl) (by kernel_rfl) (by kernel_rfl) 50 [⟨1,1,.lit (.bo true)⟩,⟨4,1,.lit (.bo true)⟩,⟨7,1,.lit (.bo true)⟩,⟨10,3,.sym⟩] ?_
     refine same (p:=Nat.ble 4294967296 (x % W) = true/\Nat.ble 65536 (x % W / 4294967296 % W) = true/\Nat.ble 256 (x % W / 4294967296 % W / 65536 % W) = true/\x % W / 4294967296 % W / 65536 % W / 256 % W % 256 < 256/\some (AV.v1 (.sc (.it (wrapI (wrapI (wrapI (32 + 16) + 8) + wrapI (Int.ofNat (byteAt Go.Lib.len8tab (x % W / 4294967296 % W / 65536 % W / 256 % W % 256) % 256))))))) = some (AV.v1 (.sc (.it (Int.ofNat (blen (x % W))))))) ?_ (by kernel_rfl)
     rw [m1,m2,m3]
     have hc:x % W / 4294967296 / 65536 / 256 < 256:=by simp only [W] at *;omega
     have me:(x % W / 4294967296 / 65536 / 256) % 256 = x % W / 4294967296 / 65536 / 256:=Nat.mod_eq_of_lt hc
     rw [me]
     refine ⟨Nat.ble_eq_true_of_le h1,Nat.ble_eq_true_of_le h2,Nat.ble_eq_true_of_le h3,hc,?_⟩
     rw [len_fin (d:=56) (e:=0) (y:=x % W / 4294967296 / 65536 / 256) (n:=blen (x % W)) (by omega) (by omega) hc _ (by kernel_rfl)]
    ·refine pure_fn mixed tt_ok G0_ok Try.func73 (by kernel_rfl) (by kernel_rfl) (by kernel_rfl) (by kernel_rfl) 50 [⟨1,1,.lit (.bo true)⟩,⟨4,1,.lit (.bo true)⟩,⟨7,1,.lit (.bo false)⟩,⟨10,3,.sym⟩] ?_
     refine same (p:=Nat.ble 4294967296 (x % W) = true/\Nat.ble 65536 (x % W / 4294967296 % W) = true/\Nat.ble 256 (x % W / 4294967296 % W / 65536 % W) = false/\x % W / 4294967296 % W / 65536 % W % 256 < 256/\some (AV.v1 (.sc (.it (wrapI (wrapI (32 + 16) + wrapI (Int.ofNat (byteAt Go.Lib.len8tab (x % W / 4294967296 % W / 65536 % W % 256) % 256))))))) = some (AV.v1 (.sc (.it (Int.ofNat (blen (x % W))))))) ?_ (by kernel_rfl)
     rw [m1,m2]
     have hc:x % W / 4294967296 / 65536 < 256:=by simp only [W] at *;omega
     have me:(x % W / 4294967296 / 65536) % 256 = x % W / 4294967296 / 65536:=Nat.mod_eq_of_lt hc
     rw [me]
     refine ⟨Nat.ble_eq_true_of_le h1,Nat.ble_eq_true_of_le h2,by rw [<-Bool.not_eq_true,Nat.ble_eq];exact h3,hc,?_⟩
     rw [len_fin (d:=48) (e:=0) (y:=x % W / 4294967296 / 65536) (n:=blen (x % W)) (by omega) (by omega) hc _ (by kernel_rfl)]
   ·by_cases h3:256 <= x % W / 4294967296
    ·have s3:blen (x % W / 4294967296) = 8 + blen (x % W / 4294967296 / 256):=blen_shift (k:=8) h3
     have m3:x % W / 4294967296 / 256 % W = x % W / 4294967296 / 256:=Nat.mod_eq_of_lt (by simp only [W] at *;omega)
     refine pure_fn mixed tt_ok G0_ok Try.func73 (by kernel_rfl) (by kernel_rfl) (by kernel_rfl) (by kernel_rfl) 50 [⟨1,1,.lit (.bo true)⟩,⟨4,1,.lit (.bo false)⟩,⟨7,1,.lit (.bo true)⟩,⟨10,3,.sym⟩] ?_
     refine same (p:=Nat.ble 4294967296 (x % W) = true/\Nat.ble 65536 (x % W / 4294967296 % W) = false/\Nat.ble 256 (x % W / 4294967296 % W) = true/\x % W / 4294967296 % W / 256 % W % 256 < 256/\some (AV.v1 (.sc (.it (wrapI (wrapI (32 + 8) + wrapI (Int.ofNat (byteAt Go.Lib.len8tab (x % W / 4294967296 % W / 256 % W % 256) % 256))))))) = some (AV.v1 (.sc (.it (Int.ofNat (blen (x % W))))))) ?_ (by kernel_rfl)
     rw [m1,m3]
     have hc:x % W / 4294967296 / 256 < 256:=by simp only [W] at *;omega
     have me:(x % W / 4294967296 / 256) % 256 = x % W / 4294967296 / 256:=Nat.mod_eq_of_lt hc
     rw [me]
     refine ⟨Nat.ble_eq_true_of_le h1,by rw [<-Bool.not_eq_true,Nat.ble_eq];exact h2,Nat.ble_eq_true_of_le h3,hc,?_⟩
     rw [len_fin (d:=40) (e:=0) (y:=x % W / 4294967296 / 256) (n:=blen (x % W)) (by omega) (by omega) hc _ (by kernel_rfl)]
    ·refine pure_fn mixed tt_ok G0_ok Try.func73 (by kernel_rfl) (by kernel_rfl) (by kernel_rfl) (by kernel_rfl) 50 [⟨1,1,.lit (.bo true)⟩,⟨4,1,.lit (.bo false)⟩,⟨7,1,.lit (.bo false)⟩,⟨10,3,.sym⟩] ?_
     refine same (p:=Nat.ble 4294967296 (x % W) = true/\Nat.ble 65536 (x % W / 4294967296 % W) = false/\Nat.ble 256 (x % W / 4294967296 % W) = false/\x % W / 4294967296 % W % 256 < 256/\some (AV.v1 (.sc (.it (wrapI (32 + wrapI (Int.ofNat (byteAt Go.Lib.len8tab (x % W / 4294967296 % W % 256) % 256))))))) = some (AV.v1 (.sc (.it (Int.ofNat (blen (x % W))))))) ?_ (by kernel_rfl)
     rw [m1]
     have hc:x % W / 4294967296 < 256:=by simp only [W] at *;omega
     have me:(x % W / 4294967296) % 256 = x % W / 4294967296:=Nat.mod_eq_of_lt hc
     rw [me]
     refine ⟨Nat.ble_eq_true_of_le h1,by rw [<-Bool.not_eq_true,Nat.ble_eq];exact h2,by rw [<-Bool.not_eq_true,Nat.ble_eq];exact h3,hc,?_⟩
     rw [len_fin (d:=32) (e:=0) (y:=x % W / 4294967296) (n:=blen (x % W)) (by omega) (by omega) hc _ (by kernel_rfl)]
  ·by_cases h2:65536 <= x % W
   ·have s2:blen (x % W) = 16 + blen (x % W / 65536):=blen_shift (k:=16) h2
    have m2:x % W / 65536 % W = x % W / 65536:=Nat.mod_eq_of_lt (by simp only [W] at *;omega)
    by_cases h3:256 <= x % W / 65536
    ·have s3:blen (x % W / 65536) = 8 + blen (x % W / 65536 / 256):=blen_shift (k:=8) h3
     have m3:x % W / 65536 / 256 % W = x % W / 65536 / 256:=Nat.mod_eq_of_lt (by simp only [W] at *;omega)
     refine pure_fn mixed tt_ok G0_ok Try.func73 (by kernel_rfl) (by kernel_rfl) (by kernel_rfl) (by kernel_rfl) 50 [⟨1,1,.lit (.bo false)⟩,⟨4,1,.lit (.bo true)⟩,⟨7,1,.lit (.bo true)⟩,⟨10,3,.sym⟩] ?_
     refine same (p:=Nat.ble 4294967296 (x % W) = false/\Nat.ble 65536 (x % W) = true/\Nat.ble 256 (x % W / 65536 % W) = true/\x % W / 65536 % W / 256 % W % 256 < 256/\some (AV.v1 (.sc (.it (wrapI (wrapI (wrapI (0 + 16) + 8) + wrapI (Int.ofNat (byteAt Go.Lib.len8tab (x % W / 65536 % W / 256 % W % 256) % 256))))))) = some (AV.v1 (.sc (.it (Int.ofNat (blen (x % W))))))) ?_ (by kernel_rfl)
     rw [m2,m3]
     have hc:x % W / 65536 / 256 < 256:=by simp only [W] at *;omega
     have me:(x % W / 65536 / 256) % 256 = x % W / 65536 / 256:=Nat.mod_eq_of_lt hc
     rw [me]
     refine ⟨by rw [<-Bool.not_eq_true,Nat.ble_eq];exact h1,Nat.ble_eq_true_of_le h2,Nat.ble_eq_true_of_le h3,hc,?_⟩
     rw [len_fin (d:=24) (e:=0) (y:=x % W / 65536 / 256) (n:=blen (x % W)) (by omega) (by omega) hc _ (by kernel_rfl)]
    ·refine pure_fn mixed tt_ok G0_ok Try.func73 (by kernel_rfl) (by kernel_rfl) (by kernel_rfl) (by kernel_rfl) 50 [⟨1,1,.lit (.bo false)⟩,⟨4,1,.lit (.bo true)⟩,⟨7,1,.lit (.bo false)⟩,⟨10,3,.sym⟩] ?_
     refine same (p:=Nat.ble 4294967296 (x % W) = false/\Nat.ble 65536 (x % W) = true/\Nat.ble 256 (x % W / 65536 % W) = false/\x % W / 65536 % W % 256 < 256/\some (AV.v1 (.sc (.it (wrapI (wrapI (0 + 16) + wrapI (Int.ofNat (byteAt Go.Lib.len8tab (x % W / 65536 % W % 256) % 256))))))) = some (AV.v1 (.sc (.it (Int.ofNat (blen (x % W))))))) ?_ (by kernel_rfl)
     rw [m2]
     have hc:x % W / 65536 < 256:=by simp only [W] at *;omega
     have me:(x % W / 65536) % 256 = x % W / 65536:=Nat.mod_eq_of_lt hc
     rw [me]
     refine ⟨by rw [<-Bool.not_eq_true,Nat.ble_eq];exact h1,Nat.ble_eq_true_of_le h2,by rw [<-Bool.not_eq_true,Nat.ble_eq];exact h3,hc,?_⟩
     rw [len_fin (d:=16) (e:=0) (y:=x % W / 65536) (n:=blen (x % W)) (by omega) (by omega) hc _ (by kernel_rfl)]
   ·by_cases h3:256 <= x % W
    ·have s3:blen (x % W) = 8 + blen (x % W / 256):=blen_shift (k:=8) h3
     have m3:x % W / 256 % W = x % W / 256:=Nat.mod_eq_of_lt (by simp only [W] at *;omega)
     refine pure_fn mixed tt_ok G0_ok Try.func73 (by kernel_rfl) (by kernel_rfl) (by kernel_rfl) (by kernel_rfl) 50 [⟨1,1,.lit (.bo false)⟩,⟨4,1,.lit (.bo false)⟩,⟨7,1,.lit (.bo true)⟩,⟨10,3,.sym⟩] ?_
     refine same (p:=Nat.ble 4294967296 (x % W) = false/\Nat.ble 65536 (x % W) = false/\Nat.ble 256 (x % W) = true/\x % W / 256 % W % 256 < 256/\some (AV.v1 (.sc (.it (wrapI (wrapI (0 + 8) + wrapI (Int.ofNat (byteAt Go.Lib.len8tab (x % W / 256 % W % 256) % 256))))))) = some (AV.v1 (.sc (.it (Int.ofNat (blen (x % W))))))) ?_ (by kernel_rfl)
     rw [m3]
     have hc:x % W / 256 < 256:=by simp only [W] at *;omega
     have me:(x % W / 256) % 256 = x % W / 256:=Nat.mod_eq_of_lt hc
     rw [me]
     refine ⟨by rw [<-Bool.not_eq_true,Nat.ble_eq];exact h1,by rw [<-Bool.not_eq_true,Nat.ble_eq];exact h2,Nat.ble_eq_true_of_le h3,hc,?_⟩
     rw [len_fin (d:=8) (e:=0) (y:=x % W / 256) (n:=blen (x % W)) (by omega) (by omega) hc _ (by kernel_rfl)]
    ·refine pure_fn mixed tt_ok G0_ok Try.func73 (by kernel_rfl) (by kernel_rfl) (by kernel_rfl) (by kernel_rfl) 50 [⟨1,1,.lit (.bo false)⟩,⟨4,1,.lit (.bo false)⟩,⟨7,1,.lit (.bo false)⟩,⟨10,3,.sym⟩] ?_
     refine same (p:=Nat.ble 4294967296 (x % W) = false/\Nat.ble 65536 (x % W) = false/\Nat.ble 256 (x % W) = false/\x % W % 256 < 256/\some (AV.v1 (.sc (.it (wrapI (0 + wrapI (Int.ofNat (byteAt Go.Lib.len8tab (x % W % 256) % 256))))))) = some (AV.v1 (.sc (.it (Int.ofNat (blen (x % W))))))) ?_ (by kernel_rfl)
     have hc:x % W < 256:=by simp only [W] at *;omega
     have me:(x % W) % 256 = x % W:=Nat.mod_eq_of_lt hc
     rw [me]
     refine ⟨by rw [<-Bool.not_eq_true,Nat.ble_eq];exact h1,by rw [<-Bool.not_eq_true,Nat.ble_eq];exact h2,by rw [<-Bool.not_eq_true,Nat.ble_eq];exact h3,hc,?_⟩
     rw [len_fin (d:=0) (e:=0) (y:=x % W) (n:=blen (x % W)) (by omega) (by omega) hc _ (by kernel_rfl)]
 ·cases h
def GL:Ctx:=ctxL [(73,.pure cLen64)]
theorem GL_ok:CtxOk Try.prog GL:=ctxL_cons okLen64 ctxL_nil
def cLen:List AV->Option (List Prop × AV)
 | [.v1 (.agg [.ws .u64 6 a])]=>some ([],.v1 (.sc (.it (Int.ofNat (blen (nv a))))))
 | _=>none
theorem okLen:(CallC.pure cLen).Ok Try.prog 43:=by
 intro args pre v h _
 unfold cLen at h
 split at h
 ·rename_i a
  cases h
  refine pure_fn mixed tt_ok GL_ok Try.func43 (by kernel_rfl) (by kernel_rfl) (by kernel_rfl) (by kernel_rfl) 100 [] ?_
  refine same (p:=lenP a (fun z=>some (AV.v1 (.sc (.it z))) = some (AV.v1 (.sc (.it (Int.ofNat (blen (nv a))))))) 6) (lenP_of a _ 6 (by omega) (by rw [<-nv_nvn])) (by kernel_rfl)
 ·cases h
end Go.Proofs.Ytnjocbcjejpklaa
namespace Go.Proofs.Ytnjocbcjejpklaa
open Go.Rq Go
set_option maxRecDepth 100000
abbrev pt (b o:Nat):AV:=.v1 (.sc (.pt b o))
abbrev iv (z:Int):AV:=.v1 (.sc (.it z))
abbrev nb (f:Nat->Nat):Option Blk:=some ⟨24,[.ws .u64 6 f],0,0⟩
end Go.Proofs.Ytnjocbcjejpklaa
namespace Go.Proofs.Ytnjocbcjejpklaa
open Go.Rq Go
set_option maxRecDepth 100000
theorem zero_nv:nv (fun _=>0) = 0:=by simp [nv]
theorem ilt_not {x y:Int} (h:¬ x < y):ilt x y = false:=by rw [<-Bool.not_eq_true,ilt_iff];exact h
end Go.Proofs.Ytnjocbcjejpklaa
namespace Go.Rq
def predI:Nat->Int
 | 0=>-1
 | k + 1=>Int.ofNat k
theorem predI_eq {k:Nat} (h:k < 9223372036854775808):wrapI (Int.ofNat k - 1) = predI k:=by
 have:Int.ofNat k - 1 = predI k:=by
  cases k with
  | zero=>rfl
  | succ k=>simp only [predI,Int.ofNat_eq_natCast];omega
 rw [this]
 refine wrapI_id ?_ ?_ <;> (cases k <;> simp only [predI,Int.ofNat_eq_natCast] <;> omega)
end Go.Rq
namespace Go.Rq
open Go
structure StepW (w w':World):Prop where
 os:w'.os = w.os
 output:w'.output = w.output
 size:w.heap.size <= w'.heap.size
 keep:∀ b,b < w.heap.size->w'.heap[b]? = w.heap[b]?
theorem StepW.frame {w w':World} (h:StepW w w') (may:MemPlace->Prop):w.keptBut w' may:=by
 refine ⟨h.os,h.output,fun i hi=>?_⟩
 rw [h.keep i hi]
 cases w.heap[i]? with
 | none=>trivial
 | some b=>cases b <;> simp
theorem StepW.old {w w':World} (h:StepW w w') (a:Addr) (ha:a.block < w.heap.size):w'.frozen? a = w.frozen? a:=by
 unfold World.frozen?
 rw [h.keep _ ha]
end Go.Rq
namespace Go.Proofs.Ytnjocbcjejpklaa
open Go.Rq Go Go.ChangeShapes Go.WideShapes Go.ChangeAt Go.RowKit
set_option maxRecDepth 100000
theorem Try.own:ownKnob Try.prog.godebug = none:=by kernel_rfl
theorem ieq_self (z:Int):ieq z z = true:=by rw [ieq_iff]
end Go.Proofs.Ytnjocbcjejpklaa
namespace Go.Rq
open Go
def idxN (x:Nat):List Nat->Nat->Nat
 | [],k=>k + 1000000
 | y :: r,k=>match Nat.beq x y with
  | true=>k
  | false=>idxN x r (k + 1)
def nthN:List Nat->Nat->Nat
 | [],_=>0
 | a :: _,0=>a
 | _ :: r,i + 1=>nthN r i
theorem idxN_spec {x:Nat}:∀ {m:List Nat} {k:Nat},idxN x m k < k + m.length->k <= idxN x m k/\nthN m (idxN x m k - k) = x
 | [],k,h=>by exfalso;simp [idxN] at h;omega
 | y :: r,k,h=>by
  simp only [idxN] at h ⊢
  cases hb:Nat.beq x y
  ·rw [hb] at h
   simp only at h ⊢
   have:=idxN_spec (x:=x) (m:=r) (k:=k + 1) (by simp at h;omega)
   refine ⟨by omega,?_⟩
   rw [show idxN x r (k + 1) - k = (idxN x r (k + 1) - (k + 1)) + 1 by omega]
   exact this.2
  ·have:x = y:=by rw [<-Nat.beq_eq];exact hb
   simp only [Nat.le_refl,Nat.sub_self,nthN,true_and]
   exact this.symm
def bk (m:List Nat) (b:Nat):Nat:=idxN b m 0
theorem bk_spec {m:List Nat} {b:Nat} (h:bk m b < m.length):nthN m (bk m b) = b:=by
 have:=idxN_spec (x:=b) (m:=m) (k:=0) (by simpa [bk] using h)
 simpa [bk] using this.2
def bkSc (m:List Nat):Sc->Sc
 | .pt b o=>.pt (bk m b) o
 | .sl b o l c=>.sl (bk m b) o l c
 | .so b n=>match Nat.beq (bk m (b + 1)) (bk m b + 1) with
  | true=>.so (bk m b) n
  | false=>.so 1000000 n
 | .sv b o n=>match Nat.beq (bk m (b + 1)) (bk m b + 1) with
  | true=>.sv (bk m b) o n
  | false=>.sv 1000000 o n
 | .fn f caps=>.fn f (caps.map (bk m))
 | s=>s
def bkCell (m:List Nat):Cell->Cell
 | .ws k n f=>.ws k n f
 | .one s=>.one (bkSc m s)
def bkCells (m:List Nat):List Cell->List Cell
 | []=>[]
 | c :: r=>bkCell m c :: bkCells m r
def bkV1 (m:List Nat):V1->V1
 | .sc s=>.sc (bkSc m s)
 | .agg cs=>.agg (bkCells m cs)
def bkV1s (m:List Nat):List V1->List V1
 | []=>[]
 | v :: r=>bkV1 m v :: bkV1s m r
def bkAV (m:List Nat):AV->AV
 | .v1 v=>.v1 (bkV1 m v)
 | .tup l=>.tup (bkV1s m l)
 | .raw v=>.raw v
def bkAVs (m:List Nat):List AV->List AV
 | []=>[]
 | v :: r=>bkAV m v :: bkAVs m r
def bkBlk (m:List Nat) (b:Blk):Blk:=⟨b.ty,bkCells m b.cells,b.lo,b.hi⟩
def rnm (m:List Nat) (ρ:Ren):Ren:=fun i=>ρ (nthN m i)
section
variable {m:List Nat} {D:Nat->Prop} (hD:∀ i,D i->i < m.length/\m.length < 1000000) {ρ:Ren}
include hD
theorem bkSc_val {s:Sc} (h:(bkSc m s).ok D):(bkSc m s).val (rnm m ρ) = s.val ρ:=by
 cases s with
 | pt b o=>simp only [bkSc,Sc.ok] at h;simp only [bkSc,Sc.val,rnm,bk_spec (hD _ h).1]
 | sl b o l c=>simp only [bkSc,Sc.ok] at h;simp only [bkSc,Sc.val,rnm,bk_spec (hD _ h).1]
 | so b n =>
  simp only [bkSc] at h ⊢
  cases hb:Nat.beq (bk m (b + 1)) (bk m b + 1)
  ·rw [hb] at h
   simp only [Sc.ok] at h
   have h1:=hD _ h.1
   omega
  ·rw [hb] at h
   simp only [Sc.ok] at h
   rw [Nat.beq_eq] at hb
   simp only [Sc.val,rnm,bk_spec (hD _ h.1).1]
   have h2:=(hD _ h.2).1
   rw [<-hb] at h2 ⊢
   rw [bk_spec h2]
 | sv b o n =>
  simp only [bkSc] at h ⊢
  cases hb:Nat.beq (bk m (b + 1)) (bk m b + 1)
  ·rw [hb] at h
   simp only [Sc.ok] at h
   have h1:=hD _ h.1
   omega
  ·rw [hb] at h
   simp only [Sc.ok] at h
   rw [Nat.beq_eq] at hb
   simp only [Sc.val,rnm,bk_spec (hD _ h.1).1]
   have h2:=(hD _ h.2).1
   rw [<-hb] at h2 ⊢
   rw [bk_spec h2]
 | fn f caps =>
  simp only [bkSc,Sc.ok] at h
  simp only [bkSc,Sc.val,List.map_map]
  congr 2
  refine List.map_congr_left fun c hc=>?_
  simp only [Function.comp,rnm]
  rw [bk_spec (hD _ (h _ (List.mem_map.2 ⟨c,hc,rfl⟩))).1]
 | _=>rfl
theorem bkCell_vals {c:Cell} (h:(bkCell m c).ok D):(bkCell m c).vals (rnm m ρ) = c.vals ρ:=by
 cases c with
 | ws k n f=>rfl
 | one s=>simp only [bkCell,Cell.ok] at h;simp only [bkCell,Cell.vals,bkSc_val hD h]
theorem bkCells_vals:∀ {cs:List Cell},cok D (bkCells m cs)->cvals (rnm m ρ) (bkCells m cs) = cvals ρ cs
 | [],_=>rfl
 | c :: r,h=>by
  simp only [bkCells,cvals]
  rw [bkCell_vals hD (h _ (by simp [bkCells])),bkCells_vals (cs:=r) fun d hd=>h d (by simp [bkCells,hd])]
theorem bkV1_val {v:V1} (h:(bkV1 m v).ok D):(bkV1 m v).val (rnm m ρ) = v.val ρ:=by
 cases v with
 | sc s=>exact bkSc_val hD h
 | agg cs=>simp only [bkV1,V1.val];rw [bkCells_vals hD h]
theorem bkAV_val {v:AV} (h:(bkAV m v).ok D):(bkAV m v).val (rnm m ρ) = v.val ρ:=by
 cases v with
 | v1 v=>exact bkV1_val hD h
 | tup l =>
  simp only [bkAV,AV.ok] at h
  have key:∀ l:List V1,(∀ v ∈ bkV1s m l,v.ok D)->(bkV1s m l).map (V1.val (rnm m ρ)) = l.map (V1.val ρ):=by
   intro l
   induction l with
   | nil=>intro _;rfl
   | cons v r ih =>
    intro h
    simp only [bkV1s,List.map_cons]
    rw [bkV1_val hD (h _ (by simp [bkV1s])),ih fun u hu=>h u (by simp [bkV1s,hu])]
  simp only [bkAV,AV.val]
  rw [key l h]
 | raw v=>rfl
end
theorem bkCells_len (m:List Nat):∀ cs:List Cell,clen (bkCells m cs) = clen cs
 | []=>rfl
 | c :: r=>by
  simp only [bkCells]
  rw [clen_cons,clen_cons,bkCells_len m r]
  cases c <;> rfl
def pickB (m:List Nat):Option Blk->Option Blk
 | none=>none
 | some b=>some (bkBlk m b)
def pickH (m:List Nat) (h:Heap):List Nat->Heap
 | []=>[]
 | i :: r=>pickB m (hget h i) :: pickH m h r
theorem hget_pickH {m:List Nat} {h:Heap} {b':Blk}:∀ {l:List Nat} {i:Nat},hget (pickH m h l) i = some b'->i < l.length/\∃ b,hget h (nthN l i) = some b/\b' = bkBlk m b
 | [],i,e=>by simp [pickH,hget] at e
 | j :: r,0,e=>by
  simp only [pickH,hget] at e
  refine ⟨by simp,?_⟩
  simp only [nthN]
  cases hh:hget h j with
  | none=>rw [hh] at e;cases e
  | some b=>rw [hh] at e;simp only [pickB,Option.some.injEq] at e;exact ⟨b,rfl,e.symm⟩
 | j :: r,i + 1,e=>by
  simp only [pickH,hget] at e
  have:=hget_pickH (l:=r) e
  exact ⟨by simp;omega,this.2⟩
def notIn (x:Nat):List Nat->Bool
 | []=>true
 | y :: r=>match Nat.beq x y with
  | true=>false
  | false=>notIn x r
def nodupB:List Nat->Bool
 | []=>true
 | x :: r=>match notIn x r with
  | true=>nodupB r
  | false=>false
theorem notIn_spec {x:Nat}:∀ {l:List Nat},notIn x l = true->∀ i,i < l.length->nthN l i ≠ x
 | [],_,i,hi=>by simp at hi
 | y :: r,h,i,hi=>by
  simp only [notIn] at h
  cases hb:Nat.beq x y
  ·rw [hb] at h
   cases i with
   | zero=>simp only [nthN];intro e;subst e;simp at hb
   | succ i=>exact notIn_spec (l:=r) h i (by simpa using hi)
  ·rw [hb] at h;cases h
theorem nodupB_spec:∀ {l:List Nat},nodupB l = true->∀ i j,i < l.length->j < l.length->nthN l i = nthN l j->i = j
 | [],_,i,_,hi,_,_=>by simp at hi
 | x :: r,h,i,j,hi,hj,e=>by
  simp only [nodupB] at h
  cases hb:notIn x r
  ·rw [hb] at h;cases h
  ·rw [hb] at h
   cases i with
   | zero =>
    cases j with
    | zero=>rfl
    | succ j=>exact absurd e.symm (notIn_spec hb j (by simpa using hj))
   | succ i =>
    cases j with
    | zero=>exact absurd e (notIn_spec hb i (by simpa using hi))
    | succ j=>have:=nodupB_spec (l:=r) h i j (by simpa using hi) (by simpa using hj) e;omega
def nextB:List Nat->Heap->Bool
 | a :: b :: r,some k :: h=>match k.lo with
  | 1=>match Nat.beq b (a + 1) with
   | true=>nextB (b :: r) h
   | false=>false
  | _=>nextB (b :: r) h
 | [_],some k :: _=>match k.lo with
  | 1=>false
  | _=>true
 | _ :: r,none :: h=>nextB r h
 | _,_=>true
theorem nextB_spec:∀ {l:List Nat} {h:Heap},nextB l h = true->∀ i b,i < l.length->hget h i = some b->b.lo = 1->nthN l (i + 1) = nthN l i + 1
 | [],_,_,i,b,hi,_,_=>by simp at hi
 | _ :: _,[],_,i,b,_,hb,_=>by simp [hget] at hb
 | [a],none :: h,hn,i,b,hi,hb,_=>by
  have:i = 0:=by simpa using hi
  subst this
  simp [hget] at hb
 | [a],some k :: h,hn,i,b,hi,hb,h1=>by
  have:i = 0:=by simpa using hi
  subst this
  simp only [hget,Option.some.injEq] at hb
  subst hb
  simp only [nextB,h1] at hn
  cases hn
 | a :: b' :: r,none :: h,hn,i,b,hi,hb,h1=>by
  simp only [nextB] at hn
  cases i with
  | zero=>simp [hget] at hb
  | succ i=>exact nextB_spec (l:=b' :: r) hn i b (by simpa using hi) (by simpa [hget] using hb) h1
 | a :: b' :: r,some k :: h,hn,i,b,hi,hb,h1=>by
  simp only [nextB] at hn
  have hrest:nextB (b' :: r) h = true/\(k.lo = 1->b' = a + 1):=by
   split at hn
   ·split at hn
    ·rename_i e;exact ⟨hn,fun _=>by rw [<-Nat.beq_eq];exact e⟩
    ·cases hn
   ·rename_i e;exact ⟨hn,fun e'=>absurd e' e⟩
  cases i with
  | zero =>
   simp only [hget,Option.some.injEq] at hb
   subst hb
   simp only [nthN]
   exact hrest.2 h1
  | succ i=>exact nextB_spec (l:=b' :: r) hrest.1 i b (by simpa using hi) (by simpa [hget] using hb) h1
def chkB (m:List Nat) (h:Heap):Bool:=nodupB m && (nextB m h && Nat.blt m.length 1000000)
theorem Dm_lt {h:Heap} {i:Nat} (hi:Dm h i):i < h.length:=let ⟨_,hb⟩:=hi;hget_lt hb
end Go.Rq
namespace Go.Rq
open Go
theorem RelH.view {ρ:Ren} {h:Heap} {w:World} (r:RelH ρ h w) {m:List Nat} {K:Heap} (hp:pickH m h m = K) (hc:chkB m K = true) (hb:heapB K 0 K = true) :
  RelH (rnm m ρ) K w/\(∀ i,Dm K i->Dm h (nthN m i)):=by
 have hsub:∀ i b,hget K i = some b->i < m.length/\∃ b0,hget h (nthN m i) = some b0/\b = bkBlk m b0:=fun i b hb=>by
  rw [<-hp] at hb;exact hget_pickH hb
 unfold chkB at hc
 simp only [Bool.and_eq_true] at hc
 have hDm:∀ i,Dm K i->i < m.length/\m.length < 1000000:=fun i ⟨b,hb⟩=>⟨(hsub i b hb).1,by rw [<-Nat.blt_eq];exact hc.2.2⟩
 have hcells:∀ i b b0,hget K i = some b->b = bkBlk m b0->cvals (rnm m ρ) b.cells = cvals ρ b0.cells:=fun i b b0 h1 h2=>by
  have:=(heapB_spec hb i b h1).1
  subst h2
  exact bkCells_vals hDm this
 refine ⟨⟨fun i b hg=>(heapB_spec hb i b hg).1,fun i b hg h0=>?_,fun i b hg h1=>?_,fun i b hg=>(heapB_spec hb i b hg).2.1,fun i j hi hj he=>?_,fun i b hg h3=>?_,fun i j b hi hg h3=>?_⟩,fun i ⟨b,hg⟩=>?_⟩
 ·obtain ⟨h1,b0,h2,h3⟩:=hsub i b hg
  have h4:=r.row _ b0 h2 (by subst h3;exact h0)
  rw [hcells i b b0 hg h3]
  subst h3
  exact h4
 ·obtain ⟨h2,b0,h3,h4⟩:=hsub i b hg
  have hcv:=hcells i b b0 hg h4
  obtain ⟨⟨cur,g1,g2,g3,g4,g5,g6⟩,g7⟩:=r.own _ b0 h3 (by subst h4;exact h1)
  have hn:=nextB_spec hc.2.1 i b h2 hg h1
  have hdn:=(heapB_spec hb i b hg).2.2 h1
  rw [Nat.zero_add] at hdn
  refine ⟨⟨cur,?_,?_,?_,?_,?_,?_⟩,hdn⟩
  ·subst h4;exact g1
  ·subst h4;simp only [rnm,hn];exact g2
  ·simp only [rnm,hn];exact g3
  ·simp only [rnm,hn];exact g4
  ·subst h4;simp only [bkBlk,bkCells_len];exact g5
  ·rw [hcv];subst h4;simp only [bkBlk,bkCells_len];exact g6
 ·obtain ⟨b,hg,hl⟩:=hi
  obtain ⟨c,hcj,hl'⟩:=hj
  obtain ⟨h1,b0,h2,h3⟩:=hsub i b hg
  obtain ⟨k1,c0,k2,k3⟩:=hsub j c hcj
  refine nodupB_spec hc.1 i j h1 k1 (r.inj _ _ ⟨b0,h2,?_⟩ ⟨c0,k2,?_⟩ he)
  ·subst h3;exact hl
  ·subst k3;exact hl'
 ·obtain ⟨h1,b0,h2,h4⟩:=hsub i b hg
  obtain ⟨arr,fr,w1,w2,w3⟩:=r.win _ b0 h2 (by subst h4;exact h3)
  have hc:=hcells i b b0 hg h4
  exact ⟨arr,fr,by subst h4;exact w1,by rw [hc];exact w2,by rw [hc];subst h4;exact w3⟩
 ·obtain ⟨c,hc,hl⟩:=hi
  obtain ⟨h1,b0,h2,h4⟩:=hsub j b hg
  obtain ⟨k1,c0,k2,k3⟩:=hsub i c hc
  exact r.sep _ _ b0 ⟨c0,k2,by subst k3;exact hl⟩ h2 (by subst h4;exact h3)
 ·obtain ⟨_,b0,h2,_⟩:=hsub i b hg
  exact ⟨b0,h2⟩
section
variable {m:List Nat} {D D':Nat->Prop} (hD:∀ i,D i->i < m.length/\m.length < 1000000) (hD':∀ i,D i->D' (nthN m i))
include hD hD'
theorem bkSc_ok {s:Sc} (h:(bkSc m s).ok D):s.ok D':=by
 have key:∀ b,D (bk m b)->D' b:=fun b hb=>by have:=hD' _ hb;rw [bk_spec (hD _ hb).1] at this;exact this
 cases s with
 | pt b o=>exact key _ h
 | sl b o l c=>exact key _ h
 | so b n =>
  simp only [bkSc] at h
  cases hb:Nat.beq (bk m (b + 1)) (bk m b + 1)
  ·rw [hb] at h
   simp only [Sc.ok] at h
   have h1:=hD _ h.1
   omega
  ·rw [hb] at h
   simp only [Sc.ok] at h
   rw [Nat.beq_eq] at hb
   rw [<-hb] at h
   exact ⟨key _ h.1,key _ h.2⟩
 | sv b o n =>
  simp only [bkSc] at h
  cases hb:Nat.beq (bk m (b + 1)) (bk m b + 1)
  ·rw [hb] at h
   simp only [Sc.ok] at h
   have h1:=hD _ h.1
   omega
  ·rw [hb] at h
   simp only [Sc.ok] at h
   rw [Nat.beq_eq] at hb
   rw [<-hb] at h
   exact ⟨key _ h.1,key _ h.2⟩
 | fn f caps=>exact fun c hc=>key _ (h _ (List.mem_map.2 ⟨c,hc,rfl⟩))
 | rw v=>exact h
 | _=>trivial
theorem bkCells_ok:∀ {cs:List Cell},cok D (bkCells m cs)->cok D' cs
 | [],_=>fun c hc=>by cases hc
 | c :: r,h=>fun d hd=>by
  rcases List.mem_cons.1 hd with rfl | hd
  ·have:=h _ (by simp only [bkCells];exact List.mem_cons_self ..)
   cases d with
   | ws k n f=>trivial
   | one s=>exact bkSc_ok hD hD' this
  ·exact bkCells_ok (cs:=r) (fun e he=>h e (by simp only [bkCells];exact List.mem_cons_of_mem _ he)) d hd
theorem bkV1_ok {v:V1} (h:(bkV1 m v).ok D):v.ok D':=by
 cases v with
 | sc s=>exact bkSc_ok hD hD' h
 | agg cs=>exact bkCells_ok hD hD' h
theorem bkAV_ok {v:AV} (h:(bkAV m v).ok D):v.ok D':=by
 cases v with
 | v1 v=>exact bkV1_ok hD hD' h
 | tup l =>
  have key:∀ l:List V1,(∀ v ∈ bkV1s m l,v.ok D)->∀ v ∈ l,v.ok D':=by
   intro l
   induction l with
   | nil=>intro _ v hv;cases hv
   | cons v r ih =>
    intro h u hu
    rcases List.mem_cons.1 hu with rfl | hu
    ·exact bkV1_ok hD hD' (h _ (by simp [bkV1s]))
    ·exact ih (fun x hx=>h x (by simp [bkV1s,hx])) u hu
  exact key l h
 | raw v=>trivial
end
theorem nthN_app {a b:List Nat} {i:Nat} (h:i < a.length):nthN (a ++ b) i = nthN a i:=by
 induction a generalizing i with
 | nil=>simp at h
 | cons x r ih =>
  cases i with
  | zero=>rfl
  | succ i=>exact ih (by simpa using h)
theorem nthN_app2 {a b:List Nat} {i:Nat} (h:a.length <= i):nthN (a ++ b) i = nthN b (i - a.length):=by
 induction a generalizing i with
 | nil=>rfl
 | cons x r ih =>
  cases i with
  | zero=>simp at h
  | succ i =>
   simp only [List.cons_append,nthN,List.length_cons]
   rw [ih (by simpa using h)]
   congr 1;omega
def upto:Nat->Nat->List Nat
 | _,0=>[]
 | k,n + 1=>k :: upto (k + 1) n
theorem length_upto:∀ k n,(upto k n).length = n
 | _,0=>rfl
 | k,n + 1=>by simp [upto,length_upto (k + 1) n]
theorem nthN_upto:∀ {k n i:Nat},i < n->nthN (upto k n) i = k + i
 | k,n + 1,0,_=>rfl
 | k,n + 1,i + 1,h=>by
  simp only [upto,nthN]
  rw [nthN_upto (k:=k + 1) (by omega)];omega
def SimB:Option Blk->Option Blk->Prop
 | none,none=>True
 | some b,some c=>b.ty = c.ty/\b.lo = c.lo/\b.hi = c.hi/\∀ ρ,cvals ρ b.cells = cvals ρ c.cells
 | _,_=>False
def SimH:Heap->Heap->Prop
 | [],[]=>True
 | a :: r,b :: s=>SimB a b/\SimH r s
 | _,_=>False
theorem SimH.get:∀ {h k:Heap},SimH h k->∀ i,SimB (hget h i) (hget k i)
 | [],[],_,_=>trivial
 | [],_ :: _,s,_=>s.elim
 | _ :: _,[],s,_=>s.elim
 | _ :: _,_ :: _,hs,0=>hs.1
 | _ :: r,_ :: s,hs,i + 1=>SimH.get (h:=r) (k:=s) hs.2 i
theorem SimH.at {h k:Heap} (s:SimH h k) {i:Nat} {c:Blk} (hk:hget k i = some c):∃ b,hget h i = some b/\b.ty = c.ty/\b.lo = c.lo/\b.hi = c.hi/\∀ ρ,cvals ρ b.cells = cvals ρ c.cells:=by
 have:=s.get i
 rw [hk] at this
 cases hh:hget h i with
 | none=>rw [hh] at this;exact this.elim
 | some b=>rw [hh] at this;exact ⟨b,rfl,this⟩
theorem RelH.sim {ρ:Ren} {h k:Heap} {w:World} (r:RelH ρ h w) (s:SimH h k) (hb:heapB k 0 k = true):RelH ρ k w:=by
 have hL:∀ i,Lv k i->Lv h i:=fun i ⟨c,hc,hl⟩=>let ⟨b,h1,_,h3,_,_⟩:=s.at hc;⟨b,h1,by omega⟩
 refine ⟨fun i c hc=>(heapB_spec hb i c hc).1,fun i c hc h0=>?_,fun i c hc h1=>?_,fun i c hc=>(heapB_spec hb i c hc).2.1,fun i j hi hj=>r.inj i j (hL i hi) (hL j hj),fun i c hc h3=>?_,fun i j c hi hc h3=>?_⟩
 ·obtain ⟨b,e1,e2,e3,e4,e5⟩:=s.at hc
  have:=r.row i b e1 (by omega)
  rw [e2,e3,e4,e5] at this
  exact this
 ·obtain ⟨b,e1,e2,e3,e4,e5⟩:=s.at hc
  obtain ⟨⟨cur,g1,g2,g3,g4,g5,g6⟩,g7⟩:=r.own i b e1 (by omega)
  have hl:clen b.cells = clen c.cells:=by rw [<-length_cvals fun _=>0,<-length_cvals fun _=>0,e5]
  have hd:=(heapB_spec hb i c hc).2.2 h1
  rw [Nat.zero_add] at hd
  exact ⟨⟨cur,by rw [<-e2];exact g1,by rw [<-e4];exact g2,g3,g4,by rw [<-hl];exact g5,by rw [<-hl,g6,e5]⟩,hd⟩
 ·obtain ⟨b,e1,e2,e3,e4,e5⟩:=s.at hc
  obtain ⟨arr,fr,w1,w2,w3⟩:=r.win i b e1 (by omega)
  exact ⟨arr,fr,by rw [<-e2];exact w1,by rw [<-e5];exact w2,by rw [<-e5,<-e4];exact w3⟩
 ·obtain ⟨b,e1,e2,e3,e4,e5⟩:=s.at hc
  exact r.sep i j b (hL i hi) e1 (by omega)
theorem SimH.dm {h k:Heap} (s:SimH h k) {i:Nat} (hi:Dm k i):Dm h i:=let ⟨_,hc⟩:=hi;let ⟨b,hb,_⟩:=s.at hc;⟨b,hb⟩
def FEndM (T:TT) (fn:Func) (mc:List Nat) (vK:AV) (K:Heap):Exit->AS->Prop
 | .normal,s | .ret,s=>chkB mc (pickH mc s.h mc) = true/\heapB (pickH mc s.h mc) 0 (pickH mc s.h mc) = true/\SimH (pickH mc s.h mc) K /\
  ∃ v',resA T s fn.results.toList = some v'/\avB (pickH mc s.h mc) (bkAV mc v') = true/\∀ ρ,(bkAV mc v').val ρ = vK.val ρ
 | _,_=>False
theorem mem_walkW {P:Program} {T:TT} (hT:TTOk P T) {f:FuncId} {fn:Func} (hf:P.funcs[f]? = some fn) (hb:fn.body = some (bodyOf fn)) (hn:(fn.name == "runtime.NumGoroutine") = false)
  {args args':List AV} {h h':Heap} (ins outs:List Nat) (slot:Nat) (H0 K:Heap) {v vK:AV}
  (hc0:chkB ins H0 = true) (hp0:pickH ins h ins = H0) (hb0:heapB H0 0 H0 = true) (ha:bkAVs ins args = args') (hab:args'.all (avB H0) = true) (hall:∀ i,i < ins.length->Lv H0 i∨∃ b,hget H0 i = some b/\b.lo = 3/\hget K i = some b)
  (hKw:∀ i b,hget K i = some b->b.lo = 3->i < ins.length/\hget H0 i = some b)
  (hK:heapB K 0 K = true) (hvK:avB K vK = true) (hKall:∀ i,i < ins.length + outs.length->Dm K i)
  (hm:chkB (ins ++ upto slot outs.length) K = true) (hp:pickH (ins ++ upto slot outs.length) h' (ins ++ upto slot outs.length) = K) (hv:bkAV (ins ++ upto slot outs.length) v = vK)
  (hho:∀ t,t < outs.length->isHole h (slot + t) = true)
  (hrest:∀ i,(∀ j,j < ins.length->nthN ins j ≠ i)->(∀ t,t < outs.length->slot + t ≠ i)->hget h' i = hget h i)
  (hwalk:AWqS P (Dm H0) (flatC (bodyOf fn)) (FEndM T fn (upto 0 ins.length ++ outs) vK K) ⟨frame0 args' fn.ntmps,H0⟩):CallOk P f args h v h':=by
 intro ρ w hr hargs o a next Q hnext
 rw [enter_run hf hb hn,Oper.upon_enter]
 refine calls_of_wp hf hb ?_
 obtain ⟨r0,hsub0⟩:=hr.view hp0 hc0 hb0
 have hlen0:∀ i,Dm H0 i->i < ins.length/\ins.length < 1000000:=fun i ⟨b,hg⟩=>by
  rw [<-hp0] at hg
  unfold chkB at hc0
  simp only [Bool.and_eq_true] at hc0
  exact ⟨(hget_pickH hg).1,by rw [<-Nat.blt_eq];exact hc0.2.2⟩
 have haok:∀ x ∈ args',x.ok (Dm H0):=fun x hx=>avB_spec (List.all_eq_true.1 hab x hx)
 have hav:args'.map (AV.val (rnm ins ρ)) = args.map (AV.val ρ):=by
  rw [<-ha] at haok ⊢
  have key:∀ l:List AV,(∀ x ∈ bkAVs ins l,x.ok (Dm H0))->(bkAVs ins l).map (AV.val (rnm ins ρ)) = l.map (AV.val ρ):=by
   intro l
   induction l with
   | nil=>intro _;rfl
   | cons x r ih =>
    intro hx
    simp only [bkAVs,List.map_cons]
    rw [bkAV_val hlen0 (hx _ (by simp [bkAVs])),ih fun y hy=>hx y (by simp [bkAVs,hy])]
  exact key args haok
 have hrel:Rel (rnm ins ρ) ⟨frame0 args' fn.ntmps,H0⟩ { tmps:=(args.map (AV.val ρ)).toArray ++ Array.replicate (fn.ntmps - (args.map (AV.val ρ)).toArray.size) undef,defers:=[] } w:=by
  refine ⟨?_,rfl,fun x hx=>?_,r0⟩
  ·have hl:args'.length = args.length:=by have:=congrArg List.length hav;simpa using this
   apply Array.ext'
   simp [frame0,hav,hl,undefA,AV.val,undef]
  ·unfold frame0 at hx
   rcases List.mem_append.1 hx with hx | hx
   ·exact haok x hx
   ·have:=(List.mem_replicate.1 hx).2
    subst this
    intro v hv;cases hv
 refine wp_mono (AWq.of_flat _ hwalk (rnm ins ρ) w (rnm ins ρ) _ w hrel (StepR.refl _ _ _)) fun e a' w' ⟨s',ρ',q,r',st⟩=>?_
 have fin:(chkB (upto 0 ins.length ++ outs) (pickH (upto 0 ins.length ++ outs) s'.h (upto 0 ins.length ++ outs)) = true/\heapB (pickH (upto 0 ins.length ++ outs) s'.h (upto 0 ins.length ++ outs)) 0 (pickH (upto 0 ins.length ++ outs) s'.h (upto 0 ins.length ++ outs)) = true /\
   SimH (pickH (upto 0 ins.length ++ outs) s'.h (upto 0 ins.length ++ outs)) K/\∃ v',resA T s' fn.results.toList = some v'/\avB (pickH (upto 0 ins.length ++ outs) s'.h (upto 0 ins.length ++ outs)) (bkAV (upto 0 ins.length ++ outs) v') = true/\∀ ρ,(bkAV (upto 0 ins.length ++ outs) v').val ρ = vK.val ρ) ->
   a'.defers = []/\∃ u,(results fn a'.tmps).run P w' = .ok u w'/\next (a.put o.dst u) w':=by
  intro ⟨q1,q1b,q2,v',q3,q3b,q4⟩
  have hres:=resA_run hT r' (fn:=fn) q3
  refine ⟨r'.defers,_,hres.1,?_⟩
  obtain ⟨rK0,hsubK0⟩:=r'.mem.view rfl q1 q1b
  have rK:=rK0.sim q2 hK
  have hsubK:∀ i,Dm K i->Dm s'.h (nthN (upto 0 ins.length ++ outs) i):=fun i hi=>hsubK0 i (q2.dm hi)
  have hmclen:(upto 0 ins.length ++ outs).length = ins.length + outs.length:=by rw [List.length_append,length_upto]
  have hmlen:(ins ++ upto slot outs.length).length = ins.length + outs.length:=by rw [List.length_append,length_upto]
  have hKlt0:∀ i,Dm (pickH (upto 0 ins.length ++ outs) s'.h (upto 0 ins.length ++ outs)) i->i < ins.length + outs.length:=fun i ⟨b,hg⟩=>by
   rw [<-hmclen];exact (hget_pickH hg).1
  have hKlt:∀ i,Dm K i->i < ins.length + outs.length:=fun i hi=>hKlt0 i (q2.dm hi)
  unfold chkB at q1 hm
  simp only [Bool.and_eq_true] at q1 hm
  have hD1:∀ i,Dm (pickH (upto 0 ins.length ++ outs) s'.h (upto 0 ins.length ++ outs)) i->i < (upto 0 ins.length ++ outs).length/\(upto 0 ins.length ++ outs).length < 1000000:=fun i hi=>⟨by rw [hmclen];exact hKlt0 i hi,by rw [<-Nat.blt_eq];exact q1.2.2⟩
  have hD2:∀ i,Dm K i->i < (ins ++ upto slot outs.length).length/\(ins ++ upto slot outs.length).length < 1000000:=fun i hi=>⟨by rw [hmlen];exact hKlt i hi,by rw [<-Nat.blt_eq];exact hm.2.2⟩
  let ρ2:Ren:=fun i=>if slot <= i/\i < slot + outs.length then ρ' (nthN outs (i - slot)) else ρ i
  have hnew:∀ t,t < outs.length->¬ Dm h (slot + t):=fun t ht hd=>by
   obtain ⟨c,hcc⟩:=hd
   rw [(isHole_lt (hho t ht)).2] at hcc;cases hcc
  have hag:Agree (Dm h) ρ ρ2:=fun i hi=>by
   refine if_neg fun hh=>?_
   exact hnew (i - slot) (by omega) (by rw [show slot + (i - slot) = i by omega];exact hi)
  have hallD:∀ j,j < ins.length->Dm H0 j:=fun j hj=>by
   rcases hall j hj with hl | ⟨b,hb,_⟩
   ·exact hl.dm
   ·exact ⟨b,hb⟩
  have hins:∀ j,j < ins.length->Dm h (nthN ins j):=fun j hj=>hsub0 j (hallD j hj)
  have hinL:∀ j,Lv H0 j->Lv h (nthN ins j):=fun j ⟨b,hg,hbl⟩=>by
   rw [<-hp0] at hg
   obtain ⟨_,b0,h2,h3⟩:=hget_pickH hg
   exact ⟨b0,h2,by subst h3;exact hbl⟩
  have hinW:∀ j b,hget H0 j = some b->b.lo = 3->∃ b0,hget h (nthN ins j) = some b0/\b0.lo = 3:=fun j b hg hbl=>by
   rw [<-hp0] at hg
   obtain ⟨_,b0,h2,h3⟩:=hget_pickH hg
   exact ⟨b0,h2,by subst h3;exact hbl⟩
  have hrn:∀ i,i < ins.length + outs.length->rnm (ins ++ upto slot outs.length) ρ2 i = rnm (upto 0 ins.length ++ outs) ρ' i:=by
   intro i hi
   simp only [rnm]
   by_cases hlt:i < ins.length
   ·rw [nthN_app hlt,nthN_app (by rw [length_upto];exact hlt),nthN_upto hlt,Nat.zero_add,hag _ (hins i hlt)]
    exact (st.agree i (hallD i hlt)).symm
   ·rw [nthN_app2 (by omega),nthN_app2 (by rw [length_upto];omega),length_upto,nthN_upto (by omega)]
    simp only [ρ2]
    rw [if_pos (by omega)]
    congr 2;omega
  have hvalK:∀ {u:AV},u.ok (Dm K)->u.val (rnm (ins ++ upto slot outs.length) ρ2) = u.val (rnm (upto 0 ins.length ++ outs) ρ'):=fun {u} hu=>AV.val_agree (D:=Dm K) (fun i hi=>hrn i (hKlt i hi)) hu
  have hvok:vK.ok (Dm K):=avB_spec hvK
  have hvv:v.val ρ2 = v'.val ρ':=by
   have e1:(bkAV (ins ++ upto slot outs.length) v).val (rnm (ins ++ upto slot outs.length) ρ2) = v.val ρ2:=bkAV_val hD2 (by rw [hv];exact hvok)
   have e2:(bkAV (upto 0 ins.length ++ outs) v').val (rnm (upto 0 ins.length ++ outs) ρ') = v'.val ρ':=bkAV_val hD1 (avB_spec q3b)
   rw [<-e1,<-e2,hv,q4,hvalK hvok]
  have hK':∀ p b,hget K p = some b->∃ b',hget h' (nthN (ins ++ upto slot outs.length) p) = some b'/\b = bkBlk (ins ++ upto slot outs.length) b':=fun p b hg=>by
   rw [<-hp] at hg;exact (hget_pickH hg).2
  have hin:∀ i,Dm h' i->(∃ p,p < ins.length + outs.length/\nthN (ins ++ upto slot outs.length) p = i)∨((∀ j,j < ins.length->nthN ins j ≠ i)/\(∀ t,t < outs.length->slot + t ≠ i)/\hget h' i = hget h i):=by
   intro i hi
   by_cases h1:∃ j,j < ins.length/\nthN ins j = i
   ·obtain ⟨j,hj,e⟩:=h1
    exact .inl ⟨j,by omega,by rw [nthN_app hj];exact e⟩
   ·by_cases h2:∃ t,t < outs.length/\slot + t = i
    ·obtain ⟨t,ht,e⟩:=h2
     exact .inl ⟨ins.length + t,by omega,by rw [nthN_app2 (by omega),Nat.add_sub_cancel_left,nthN_upto ht];exact e⟩
    ·have g1:∀ j,j < ins.length->nthN ins j ≠ i:=fun j hj e=>h1 ⟨j,hj,e⟩
     have g2:∀ t,t < outs.length->slot + t ≠ i:=fun t ht e=>h2 ⟨t,ht,e⟩
     exact .inr ⟨g1,g2,hrest i g1 g2⟩
  have hmD:∀ p,p < ins.length + outs.length->Dm h' (nthN (ins ++ upto slot outs.length) p):=fun p hpl=>by
   obtain ⟨b,hg⟩:=hKall p hpl
   obtain ⟨b',h1,_⟩:=hK' p b hg
   exact ⟨b',h1⟩
  have hsubD:∀ i,Dm h i->Dm h' i:=fun i ⟨b,hg⟩=>by
   by_cases h1:∃ j,j < ins.length/\nthN ins j = i
   ·obtain ⟨j,hj,e⟩:=h1
    have:=hmD j (by omega)
    rw [nthN_app hj,e] at this
    exact this
   ·have g1:∀ j,j < ins.length->nthN ins j ≠ i:=fun j hj e=>h1 ⟨j,hj,e⟩
    have g2:∀ t,t < outs.length->slot + t ≠ i:=fun t ht e=>hnew t ht ⟨b,by rw [e];exact hg⟩
    exact ⟨b,by rw [hrest i g1 g2];exact hg⟩
  have hDK:∀ p,Dm K p->Dm h' (nthN (ins ++ upto slot outs.length) p):=fun p hpd=>hmD p (hKlt p hpd)
  have hkeep:∀ i,Lv h i->(∀ j,j < ins.length->nthN ins j ≠ i)->w'.heap[ρ i]? = w.heap[ρ i]?:=fun i hi hni=>st.keep _ (hr.lt hi) fun j hj e=>by
   have hj':=(hlen0 j hj).1
   rcases hall j hj' with hl0 | ⟨b,hg,hb3,_⟩
   ·exact hni j hj' (hr.inj _ _ (hinL j hl0) hi e)
   ·obtain ⟨b0,h2,h3⟩:=hinW j b hg hb3
    exact hr.sep i _ b0 hi h2 h3 e.symm
  have hkeepW:∀ i b,hget h i = some b->b.lo = 3->w'.heap[ρ i]? = w.heap[ρ i]?:=fun i b hi h3=>by
   by_cases hex:∃ j,Dm H0 j/\rnm ins ρ j = ρ i
   ·obtain ⟨j,hj,e⟩:=hex
    have hj':=(hlen0 j hj).1
    rcases hall j hj' with hl0 | ⟨c,hg,hc3,hgK⟩
    ·exact absurd e (hr.sep _ i b (hinL j hl0) hi h3)
    ·obtain ⟨arr,fr,a1,a2,_⟩:=r0.win j c hg hc3
     obtain ⟨arr',fr',b1,b2,_⟩:=rK.win j c hgK hc3
     have e1:rnm (upto 0 ins.length ++ outs) ρ' j = ρ i:=by
      simp only [rnm]
      rw [nthN_app (by rw [length_upto];exact hj'),nthN_upto hj',Nat.zero_add,st.agree j hj,e]
     have e2:cvals (rnm (upto 0 ins.length ++ outs) ρ') c.cells = cvals (rnm ins ρ) c.cells:=cvals_agree (D:=Dm H0) (fun t ht=>by
      have ht':=(hlen0 t ht).1
      simp only [rnm]
      rw [nthN_app (by rw [length_upto];exact ht'),nthN_upto ht',Nat.zero_add]
      exact st.agree t ht) ((heapB_spec hb0 j c hg).1)
     rw [e2,a2] at b2
     have e3:=wrapB_inj (Option.some.inj b2)
     rw [e1] at b1
     rw [e] at a1
     rw [a1,b1,e3.1,e3.2]
   ·exact st.keep _ (hr.ltW hi h3) fun j hj e=>hex ⟨j,hj,e⟩
  have hmemC:∀ p b',hget h' (nthN (ins ++ upto slot outs.length) p) = some b'->p < ins.length + outs.length->hget K p = some (bkBlk (ins ++ upto slot outs.length) b'):=by
   intro p b' hg hpl
   obtain ⟨b,hgk⟩:=hKall p hpl
   obtain ⟨b2,h1,h2⟩:=hK' p b hgk
   rw [hg] at h1
   cases h1
   rw [hgk,h2]
  have hcvK:∀ p b',hget K p = some (bkBlk (ins ++ upto slot outs.length) b')->p < ins.length + outs.length->cvals ρ2 b'.cells = cvals (rnm (upto 0 ins.length ++ outs) ρ') (bkBlk (ins ++ upto slot outs.length) b').cells:=by
   intro p b' hg hpl
   have hok:=(heapB_spec hK p _ hg).1
   have e1:=bkCells_vals (ρ:=ρ2) hD2 hok
   rw [<-e1]
   exact cvals_agree (D:=Dm K) (fun i hi=>hrn i (hKlt i hi)) hok
  have hr2:∀ p,p < ins.length + outs.length->ρ2 (nthN (ins ++ upto slot outs.length) p) = rnm (upto 0 ins.length ++ outs) ρ' p:=fun p hpl=>hrn p hpl
  have hLvK:∀ p,p < ins.length + outs.length->Lv h' (nthN (ins ++ upto slot outs.length) p)->Lv K p:=fun p hpl ⟨b',hg,hl⟩=>⟨_,hmemC p b' hg hpl,hl⟩
  have hrelH:RelH ρ2 h' w':=by
   refine ⟨fun i b' hg=>?_,fun i b' hg h0=>?_,fun i b' hg h1=>?_,fun i b' hg=>?_,fun i j hi hj he=>?_,fun i b' hg h3=>?_,fun i j b' hi hg h3=>?_⟩
   ·rcases hin i ⟨b',hg⟩ with ⟨p,hpl,rfl⟩ | ⟨g1,g2,g3⟩
    ·have hgk:=hmemC p b' hg hpl
     exact bkCells_ok hD2 hDK (heapB_spec hK p _ hgk).1
    ·rw [g3] at hg;exact cok_mono hsubD (hr.cok i b' hg)
   ·rcases hin i ⟨b',hg⟩ with ⟨p,hpl,rfl⟩ | ⟨g1,g2,g3⟩
    ·have hgk:=hmemC p b' hg hpl
     have:=rK.row p _ hgk h0
     rw [hr2 p hpl,hcvK p b' hgk hpl]
     exact this
    ·rw [g3] at hg
     have hl:Lv h i:=⟨b',hg,by omega⟩
     rw [hag i hl.dm,hkeep i hl g1,hr.row i b' hg h0,cvals_agree hag (hr.cok i b' hg)]
   ·rcases hin i ⟨b',hg⟩ with ⟨p,hpl,rfl⟩ | ⟨g1,g2,g3⟩
    ·have hgk:=hmemC p b' hg hpl
     obtain ⟨⟨cur,e1,e2,e3,e4,e5,e6⟩,e7⟩:=rK.own p _ hgk h1
     have hpl1:=hKlt _ e7
     have hnx:=nextB_spec hm.2.1 p _ (by rw [hmlen];exact hpl) hgk h1
     have e0:=hr2 p hpl
     have e00:=hr2 (p + 1) hpl1
     rw [hnx] at e00
     refine ⟨⟨cur,by rw [e0];exact e1,by rw [e0,e00];exact e2,by rw [e0,e00];exact e3,by rw [e0,e00];exact e4,?_,?_⟩,?_⟩
     ·simp only [bkBlk,bkCells_len] at e5;exact e5
     ·rw [hcvK p b' hgk hpl,<-e6];simp only [bkBlk,bkCells_len]
     ·rw [<-hnx];exact hmD _ hpl1
    ·rw [g3] at hg
     have hl:Lv h i:=⟨b',hg,by omega⟩
     obtain ⟨k1,k2⟩:=hr.own i b' hg h1
     exact ⟨k1.agree hag hl.dm k2 (hr.cok i b' hg) (hkeep i hl g1),hsubD _ k2⟩
   ·rcases hin i ⟨b',hg⟩ with ⟨p,hpl,rfl⟩ | ⟨g1,g2,g3⟩
    ·exact (heapB_spec hK p _ (hmemC p b' hg hpl)).2.1
    ·rw [g3] at hg;exact hr.few i b' hg
   ·have mix:∀ p i,p < ins.length + outs.length->Lv h' (nthN (ins ++ upto slot outs.length) p)->Lv h' i->(∀ j,j < ins.length->nthN ins j ≠ i)->(∀ t,t < outs.length->slot + t ≠ i)->hget h' i = hget h i->ρ2 (nthN (ins ++ upto slot outs.length) p) ≠ ρ2 i:=by
     intro p i hpl hp1 hi g1 g2 g3 e
     have hl:Lv h i:=by obtain ⟨b,hg,hbl⟩:=hi;rw [g3] at hg;exact ⟨b,hg,hbl⟩
     rw [hag i hl.dm] at e
     have viaIn:∀ j,j < ins.length->ρ (nthN ins j) = ρ i->False:=fun j hj e=>by
      rcases hall j hj with hl0 | ⟨b,hg,hb3,_⟩
      ·exact g1 j hj (hr.inj _ _ (hinL j hl0) hl e)
      ·obtain ⟨b0,h2,h3⟩:=hinW j b hg hb3
       exact hr.sep i _ b0 hl h2 h3 e.symm
     by_cases hlt:p < ins.length
     ·rw [nthN_app hlt,hag _ (hins p hlt)] at e
      exact viaIn p hlt e
     ·rw [hr2 p hpl] at e
      simp only [rnm] at e
      rw [nthN_app2 (by rw [length_upto];omega),length_upto] at e
      by_cases hd:Dm H0 (nthN outs (p - ins.length))
      ·have:=st.agree _ hd
       rw [this] at e
       exact viaIn _ (hlen0 _ hd).1 e
      ·have hdd:Dm s'.h (nthN outs (p - ins.length)):=by
        have:=hsubK p (hLvK p hpl hp1).dm
        rw [nthN_app2 (by rw [length_upto];omega),length_upto] at this
        exact this
       rcases st.fresh _ hdd hd with h3 | ⟨j,h3,h4⟩
       ·have:=hr.lt hl;omega
       ·rw [h4] at e
        exact viaIn j (hlen0 j h3).1 e
    rcases hin i hi.dm with ⟨p,hpl,rfl⟩ | ⟨g1,g2,g3⟩ <;> rcases hin j hj.dm with ⟨q,hql,rfl⟩ | ⟨k1,k2,k3⟩
    ·rw [hr2 p hpl,hr2 q hql] at he
     rw [rK.inj p q (hLvK p hpl hi) (hLvK q hql hj) he]
    ·exact absurd he (mix p j hpl hi hj k1 k2 k3)
    ·exact absurd he.symm (mix q i hql hj hi g1 g2 g3)
    ·have l1:Lv h i:=by obtain ⟨b,hg,hbl⟩:=hi;rw [g3] at hg;exact ⟨b,hg,hbl⟩
     have l2:Lv h j:=by obtain ⟨b,hg,hbl⟩:=hj;rw [k3] at hg;exact ⟨b,hg,hbl⟩
     rw [hag i l1.dm,hag j l2.dm] at he
     exact hr.inj i j l1 l2 he
   ·rcases hin i ⟨b',hg⟩ with ⟨p,hpl,rfl⟩ | ⟨g1,g2,g3⟩
    ·have hgk:=hmemC p b' hg hpl
     obtain ⟨arr,fr,e1,e2,e3⟩:=rK.win p _ hgk h3
     exact ⟨arr,fr,by rw [hr2 p hpl];exact e1,by rw [hcvK p b' hgk hpl];exact e2,by rw [hcvK p b' hgk hpl];exact e3⟩
    ·rw [g3] at hg
     exact (hr.win i b' hg h3).agree hag ⟨b',hg⟩ (hr.cok i b' hg) (hkeepW i b' hg h3)
   ·intro he
    rcases hin i hi.dm with ⟨p,hpl,rfl⟩ | ⟨g1,g2,g3⟩ <;> rcases hin j ⟨b',hg⟩ with ⟨q,hql,rfl⟩ | ⟨k1,k2,k3⟩
    ·rw [hr2 p hpl,hr2 q hql] at he
     exact rK.sep p q _ (hLvK p hpl hi) (hmemC q b' hg hql) h3 he
    ·rw [k3] at hg
     rw [hag j ⟨b',hg⟩] at he
     have viaIn:∀ t,Dm H0 t->ρ (nthN ins t) = ρ j->rnm (upto 0 ins.length ++ outs) ρ' p = ρ' t->False:=fun t ht e e'=>by
      have ht':=(hlen0 t ht).1
      rcases hall t ht' with hl0 | ⟨b,hgt,hb3,hbK⟩
      ·exact hr.sep _ j b' (hinL t hl0) hg h3 e
      ·refine rK.sep p t b (hLvK p hpl hi) hbK hb3 ?_
       rw [e']
       simp only [rnm]
       rw [nthN_app (by rw [length_upto];exact ht'),nthN_upto ht',Nat.zero_add]
     rw [hr2 p hpl] at he
     by_cases hlt:p < ins.length
     ·have hd:=hallD p hlt
      have e':rnm (upto 0 ins.length ++ outs) ρ' p = ρ' p:=by
       simp only [rnm]
       rw [nthN_app (by rw [length_upto];exact hlt),nthN_upto hlt,Nat.zero_add]
      refine viaIn p hd ?_ e'
      rw [<-he,e',st.agree p hd]
      rfl
     ·have e':rnm (upto 0 ins.length ++ outs) ρ' p = ρ' (nthN outs (p - ins.length)):=by
       simp only [rnm]
       rw [nthN_app2 (by rw [length_upto];omega),length_upto]
      by_cases hd:Dm H0 (nthN outs (p - ins.length))
      ·refine viaIn _ hd ?_ e'
       rw [<-he,e',st.agree _ hd]
       rfl
      ·have hdd:Dm s'.h (nthN outs (p - ins.length)):=by
        have:=hsubK p (hLvK p hpl hi).dm
        rw [nthN_app2 (by rw [length_upto];omega),length_upto] at this
        exact this
       rcases st.fresh _ hdd hd with h4 | ⟨t,h4,h5⟩
       ·have:=hr.ltW hg h3;rw [e'] at he;omega
       ·refine viaIn t h4 ?_ (by rw [e',h5,st.agree t h4])
        rw [<-he,e',h5]
        rfl
    ·have l1:Lv h i:=by obtain ⟨b,hg,hbl⟩:=hi;rw [g3] at hg;exact ⟨b,hg,hbl⟩
     obtain ⟨hq,hq0⟩:=hKw q _ (hmemC q b' hg hql) h3
     obtain ⟨b0,h2,h4⟩:=hinW q _ hq0 h3
     rw [hag i l1.dm,nthN_app hq,hag _ (hins q hq)] at he
     exact hr.sep i _ b0 l1 h2 h4 he
    ·have l1:Lv h i:=by obtain ⟨b,hg,hbl⟩:=hi;rw [g3] at hg;exact ⟨b,hg,hbl⟩
     rw [k3] at hg
     rw [hag i l1.dm,hag j ⟨b',hg⟩] at he
     exact hr.sep i j b' l1 hg h3 he
  have hstep:StepR (Dm h) ρ w (Dm h') ρ2 w':=by
   refine ⟨hag,hsubD,st.size,st.os,st.tape,st.output,fun b hbl hne=>st.keep b hbl fun i hi=>hne _ (hsub0 i hi),fun i hi hni=>?_⟩
   rcases hin i hi with ⟨p,hpl,rfl⟩ | ⟨g1,g2,g3⟩
   ·by_cases hlt:p < ins.length
    ·rw [nthN_app hlt] at hni;exact absurd (hins p hlt) hni
    ·rw [hr2 p hpl]
     simp only [rnm]
     rw [nthN_app2 (by rw [length_upto];omega),length_upto]
     by_cases hd:Dm H0 (nthN outs (p - ins.length))
     ·exact .inr ⟨_,hsub0 _ hd,st.agree _ hd⟩
     ·have hdd:Dm s'.h (nthN outs (p - ins.length)):=by
       have:=hsubK p (hKall p hpl)
       rw [nthN_app2 (by rw [length_upto];omega),length_upto] at this
       exact this
      rcases st.fresh _ hdd hd with h3 | ⟨j,h3,h4⟩
      ·exact .inl h3
      ·exact .inr ⟨_,hsub0 j h3,h4⟩
   ·obtain ⟨b,hg⟩:=hi
    rw [g3] at hg
    exact absurd ⟨b,hg⟩ hni
  have:=hnext ρ2 w' hstep hrelH (bkAV_ok hD2 hDK (by rw [hv];exact hvok))
  rw [hvv] at this
  exact this
 cases e with
 | normal=>exact fin q
 | ret=>exact fin q
 | exit j=>exact q.elim
 | goto l=>exact q.elim
 | panic ch=>exact q.elim
 | outgrown=>exact q.elim
def noWinB:Heap->Bool
 | []=>true
 | none :: r=>noWinB r
 | some b :: r=>Nat.blt b.lo 3 && noWinB r
theorem noWinB_spec:∀ {h:Heap},noWinB h = true->∀ i b,hget h i = some b->b.lo < 3
 | [],_,i,b,hb=>by simp [hget] at hb
 | none :: r,h,0,b,hb=>by simp [hget] at hb
 | none :: r,h,i + 1,b,hb=>noWinB_spec (h:=r) h i b (by simpa [hget] using hb)
 | some c :: r,h,0,b,hb=>by
  simp only [noWinB,Bool.and_eq_true,Nat.blt_eq] at h
  simp only [hget,Option.some.injEq] at hb
  subst hb;exact h.1
 | some c :: r,h,i + 1,b,hb=>by
  simp only [noWinB,Bool.and_eq_true] at h
  exact noWinB_spec (h:=r) h.2 i b (by simpa [hget] using hb)
theorem mem_walk {P:Program} {T:TT} (hT:TTOk P T) {f:FuncId} {fn:Func} (hf:P.funcs[f]? = some fn) (hb:fn.body = some (bodyOf fn)) (hn:(fn.name == "runtime.NumGoroutine") = false)
  {args args':List AV} {h h':Heap} (ins outs:List Nat) (slot:Nat) (H0 K:Heap) {v vK:AV}
  (hc0:chkB ins H0 = true) (hp0:pickH ins h ins = H0) (hb0:heapB H0 0 H0 = true) (ha:bkAVs ins args = args') (hab:args'.all (avB H0) = true) (hall:∀ i,i < ins.length->Lv H0 i)
  (hK:heapB K 0 K = true) (hvK:avB K vK = true) (hKall:∀ i,i < ins.length + outs.length->Dm K i)
  (hm:chkB (ins ++ upto slot outs.length) K = true) (hp:pickH (ins ++ upto slot outs.length) h' (ins ++ upto slot outs.length) = K) (hv:bkAV (ins ++ upto slot outs.length) v = vK)
  (hho:∀ t,t < outs.length->isHole h (slot + t) = true)
  (hrest:∀ i,(∀ j,j < ins.length->nthN ins j ≠ i)->(∀ t,t < outs.length->slot + t ≠ i)->hget h' i = hget h i)
  (hwalk:AWqS P (Dm H0) (flatC (bodyOf fn)) (FEndM T fn (upto 0 ins.length ++ outs) vK K) ⟨frame0 args' fn.ntmps,H0⟩) (hnw:noWinB K = true:=by kernel_rfl):CallOk P f args h v h' :=
 mem_walkW hT hf hb hn ins outs slot H0 K hc0 hp0 hb0 ha hab (fun i hi=>.inl (hall i hi)) (fun i b hb h3=>by have:=noWinB_spec hnw i b hb;omega) hK hvK hKall hm hp hv hho hrest hwalk
end Go.Rq
namespace Go.Rq
open Go
theorem bkSc_plain {m:List Nat} {s:Sc} (h:zokS s = true):bkSc m s = s:=by
 cases s with
 | fn f caps =>
  cases caps with
  | nil=>rfl
  | cons c r=>cases h
 | pt _ _=>cases h
 | sl _ _ _ _=>cases h
 | so _ _=>cases h
 | sv _ _ _=>cases h
 | _=>rfl
def plainCs (cs:List Cell):Bool:=zokB (.agg cs)
theorem bkCells_plain {m:List Nat}:∀ {cs:List Cell},plainCs cs = true->bkCells m cs = cs
 | [],_=>rfl
 | c :: r,h=>by
  unfold plainCs zokB at h
  simp only [List.all_cons,Bool.and_eq_true] at h
  have hr:bkCells m r = r:=bkCells_plain (cs:=r) h.2
  simp only [bkCells,hr]
  congr 1
  cases c with
  | ws k n f=>rfl
  | one s=>exact congrArg Cell.one (bkSc_plain h.1)
theorem bkV1_plain {m:List Nat} {v:V1} (h:zokB v = true):bkV1 m v = v:=by
 cases v with
 | sc s=>exact congrArg V1.sc (bkSc_plain h)
 | agg cs=>exact congrArg V1.agg (bkCells_plain h)
theorem bkAV_plain {m:List Nat} {v:AV} (h:vokB v = true):bkAV m v = v:=by
 cases v with
 | v1 v=>exact congrArg AV.v1 (bkV1_plain h)
 | tup l =>
  unfold vokB at h
  have key:∀ l:List V1,l.all zokB = true->bkV1s m l = l:=by
   intro l
   induction l with
   | nil=>intro _;rfl
   | cons v r ih =>
    intro h
    simp only [List.all_cons,Bool.and_eq_true] at h
    simp only [bkV1s,bkV1_plain h.1,ih h.2]
  exact congrArg AV.tup (key l h)
 | raw v=>rfl
theorem bkAVs_plain {m:List Nat}:∀ {l:List AV},l.all vokB = true->bkAVs m l = l
 | [],_=>rfl
 | v :: r,h=>by
  simp only [List.all_cons,Bool.and_eq_true] at h
  simp only [bkAVs,bkAV_plain h.1,bkAVs_plain h.2]
theorem avB_plain {h:Heap} {v:AV} (hv:vokB v = true):avB h v = true:=by
 have key:∀ s:Sc,zokS s = true->scB h s = true:=by
  intro s hs
  cases s with
  | fn f caps =>
   cases caps with
   | nil=>rfl
   | cons c r=>cases hs
  | pt _ _=>cases hs
  | sl _ _ _ _=>cases hs
  | so _ _=>cases hs
  | sv _ _ _=>cases hs
  | rw v=>exact hs
  | _=>rfl
 have keyV:∀ v:V1,zokB v = true->v1B h v = true:=by
  intro v hv
  cases v with
  | sc s=>exact key s hv
  | agg cs =>
   have kc:∀ cs:List Cell,plainCs cs = true->cellsB h cs = true:=by
    intro cs
    induction cs with
    | nil=>intro _;rfl
    | cons c r ih =>
     intro hc
     unfold plainCs zokB at hc
     simp only [List.all_cons,Bool.and_eq_true] at hc
     cases c with
     | ws k n f=>exact ih hc.2
     | one s=>simp only [cellsB,Bool.and_eq_true];exact ⟨key s hc.1,ih hc.2⟩
   exact kc cs hv
 cases v with
 | v1 v=>exact keyV v hv
 | tup l =>
  unfold vokB at hv
  exact List.all_eq_true.2 fun x hx=>keyV x (List.all_eq_true.1 hv x hx)
 | raw v=>rfl
theorem cellsB_plain {h:Heap} {cs:List Cell} (hc:plainCs cs = true):cellsB h cs = true:=avB_plain (h:=h) (v:=.v1 (.agg cs)) hc
end Go.Rq
namespace Go.Rq
open Go
def preK:Nat->List Code->List Code
 | 0,l=>preL l
 | k + 1,l=>preL l ++ (atL l :: preK k (postL l))
def atK:Nat->List Code->Code
 | 0,l=>atL l
 | k + 1,l=>atK k (postL l)
def postK:Nat->List Code->List Code
 | 0,l=>postL l
 | k + 1,l=>postK k (postL l)
def hasK:Nat->List Code->Bool
 | 0,l=>hasL l
 | k + 1,l=>match hasL l with
  | true=>hasK k (postL l)
  | false=>false
theorem atL_eq:∀ {l:List Code},hasL l = true->l = preL l ++ atL l :: postL l
 | [],h=>by cases h
 | c :: r,h=>by
  simp only [hasL] at h
  cases hc:isLoop c
  ·simp only [preL,atL,postL,hc]
   rw [hc] at h
   exact congrArg (c :: ·) (atL_eq (l:=r) h)
  ·simp only [preL,atL,postL,hc,List.nil_append]
theorem splitK:∀ {k:Nat} {l:List Code},hasK k l = true->l = preK k l ++ .block (loopId (atK k l)) (.loop (loopOf (atK k l))) :: postK k l
 | 0,_,h=>splitL h
 | k + 1,l,h=>by
  simp only [hasK] at h
  cases hl:hasL l
  ·rw [hl] at h;cases h
  ·rw [hl] at h
   have h1:=atL_eq hl
   have h2:=splitK (k:=k) (l:=postL l) h
   simp only [preK,atK,postK,List.append_assoc,List.cons_append]
   rw [<-h2]
   exact h1
theorem loopK {P:Program} {T:TT} {G:Ctx} {D:Nat->Prop} (hmx:P.follows .mixedOrders = true) (hT:TTOk P T) (hG:CtxOk P G) (kk:Nat) {l:List Code} (hl:hasK kk l = true) {Q:Exit->AS->Prop} {s0:AS} {ι:Type} (ks:List Nat) (n m:Nat) (V:ι->List AV) (H:ι->Heap) (μ:ι->Nat) (E:ι->Prop)
  (hm:∀ i,(H i).length = m) (hb:∀ i,liveB (V i) (H i) = true) (hD:∀ i j,D j->Dm (H i) j) (fuel:Nat) (hs:List Hint)
  (start:evS P T G fuel (preK kk l) (fun e s _=>StartE ks n m V H Q e s) s0 hs)
  (step:∀ i junk,AWq P D (loopOf (atK kk l)) (RoundE (loopId (atK kk l)) ks n m V H μ i E Q) ⟨mkT ks (V i) n junk,H i⟩)
  (fin:∀ j junk,E j->AWqS P D (postK kk l) Q ⟨mkT ks (V j) n junk,H j⟩) :
  AWqS P D l Q s0:=by
 rw [splitK hl]
 refine loopS ks n m V H μ E hm hb hD ((evS_q hmx hT hG fuel hs start).mono fun e s q=>?_) step fin
 cases e <;> exact q
end Go.Rq
namespace Go.Rq
def sB (B:Nat) (f:Nat->Nat):Nat->Nat
 | 0=>0
 | i + 1=>sB B f i + B ^ i * (f i % W)
theorem sB_W (f:Nat->Nat):∀ i,sB W f i = nvn f i
 | 0=>rfl
 | i + 1=>by simp only [sB,nvn,sB_W f i]
theorem sB_congr {B:Nat} {f g:Nat->Nat}:∀ {i},(∀ j,j < i->f j % W = g j % W)->sB B f i = sB B g i
 | 0,_=>rfl
 | i + 1,h=>by simp only [sB];rw [sB_congr (i:=i) fun j hj=>h j (by omega),h i (by omega)]
def mC1 (x y p:Nat):Nat:=(x * y % W + p % W + 0 % W) / W
def mLo (x y p c:Nat):Nat:=x * y + p + 0 + c + 0
def mC2 (x y p c:Nat):Nat:=((x * y + p + 0) % W + c % W + 0 % W) / W
def mHi (x y p c:Nat):Nat:=x % W * (y % W) / W + mC1 x y p + mC2 x y p c
theorem m_step {x y p c:Nat} (hc:c < W):mLo x y p c % W + W * mHi x y p c = p % W + c + x % W * (y % W)/\mHi x y p c < W:=by
 have hx:x % W < W:=Nat.mod_lt _ (by decide)
 have hy:y % W < W:=Nat.mod_lt _ (by decide)
 have hp:p % W < W:=Nat.mod_lt _ (by decide)
 have hxy:x * y % W = x % W * (y % W) % W:=Nat.mul_mod _ _ _
 have hub:x % W * (y % W) <= (W - 1) * (W - 1):=Nat.mul_le_mul (by omega) (by omega)
 unfold mLo mHi mC1 mC2
 have e0:(x * y + p + 0 + c + 0) % W = (x * y % W + p % W + c) % W:=by simp only [W];omega
 have e1:(x * y + p + 0) % W = (x * y % W + p % W) % W:=by simp only [W];omega
 rw [e0,e1,hxy]
 generalize x % W * (y % W) = t at *
 generalize p % W = q at *
 simp only [W] at *
 omega
end Go.Rq
namespace Go.Rq
open Go
def rinv (N:Nat):Nat:=((N + 1) / 2) ^ E % N
theorem rinv_spec {N:Nat} (h1:N % 2 = 1):R * rinv N % N = 1 % N:=by
 unfold rinv
 rw [Nat.mul_mod,Nat.mod_mod,<-Nat.mul_mod,R_pow,<-Nat.mul_pow,show 2 * ((N + 1) / 2) = N + 1 by omega,Nat.pow_mod,Nat.add_mod_left]
 rw [<-Nat.pow_mod,Nat.one_pow]
def montV (N x y:Nat):Nat:=x * y * rinv N % N
theorem mont_unique {N x y r:Nat} (h1:N % 2 = 1) (hr:r < N) (h:r * R % N = x * y % N):r = montV N x y:=by
 have e1:r * (R * rinv N) % N = r:=by
  rw [Nat.mul_mod,rinv_spec h1,<-Nat.mul_mod,Nat.mul_one,Nat.mod_eq_of_lt hr]
 have e2:r * (R * rinv N) % N = montV N x y:=by
  unfold montV
  rw [<-Nat.mul_assoc,Nat.mul_mod,h,<-Nat.mul_mod]
 rw [<-e1,e2]
theorem montV_lt {N x y:Nat} (h:0 < N):montV N x y < N:=Nat.mod_lt _ h
theorem mont_end {N A B T Q:Nat} (h1:N % 2 = 1) (hN:0 < N) (hA:A < R) (hB:B < R) (hAB:A < N∨B < N) (hQ:Q < R) (h:T * R = A * B + Q * N) :
  T < 2 * N/\(bif Nat.ble N T then T - N else T) = montV N A B:=by
 have hlt:T < 2 * N:=by
  refine Nat.lt_of_mul_lt_mul_right (a:=R) ?_
  rw [h]
  have hRpos:0 < R:=by decide
  have h2:Q * N < R * N:=Nat.mul_lt_mul_of_pos_right hQ hN
  have h3:A * B <= N * R:=by
   rcases hAB with h | h
   ·exact Nat.mul_le_mul (by omega) (by omega)
   ·rw [Nat.mul_comm N];exact Nat.mul_le_mul (by omega) (by omega)
  rw [show 2 * N * R = N * R + R * N by rw [Nat.mul_comm R,Nat.mul_assoc,Nat.two_mul]]
  omega
 have hmod:T * R % N = A * B % N:=by rw [h,Nat.add_mul_mod_self_right]
 refine ⟨hlt,?_⟩
 cases hb:Nat.ble N T
 ·have:¬ N <= T:=by rw [<-Nat.ble_eq,hb];simp
  simp only [cond_false]
  exact mont_unique h1 (by omega) hmod
 ·rw [Nat.ble_eq] at hb
  refine mont_unique h1 (by simp only [cond_true];omega) ?_
  simp only [cond_true]
  rw [<-hmod,show T * R = (T - N) * R + R * N by rw [Nat.mul_comm R,<-Nat.add_mul];congr 1;omega,Nat.add_mul_mod_self_right]
theorem mont_round {T S T2 x B q N:Nat} (h1:S = T + x * B) (h2:T2 * W = S + q * N) {i Ai Q:Nat} (hT:T * W ^ i = Ai * B + Q * N) (hQ:Q < W ^ i) (hq:q < W) :
  T2 * W ^ (i + 1) = (Ai + W ^ i * x) * B + (Q + q * W ^ i) * N/\Q + q * W ^ i < W ^ (i + 1):=by
 constructor
 ·rw [Nat.pow_succ,show T2 * (W ^ i * W) = T2 * W * W ^ i by rw [Nat.mul_assoc,Nat.mul_comm W]]
  rw [h2,h1,Nat.add_mul,Nat.add_mul,hT,Nat.add_mul,Nat.add_mul]
  rw [show x * B * W ^ i = W ^ i * x * B by rw [Nat.mul_comm (x * B),Nat.mul_assoc],show q * N * W ^ i = q * W ^ i * N by rw [Nat.mul_assoc,Nat.mul_comm N,<-Nat.mul_assoc]]
  omega
 ·have h3:(q + 1) * W ^ i <= W * W ^ i:=Nat.mul_le_mul_right _ hq
  rw [Nat.add_mul,Nat.one_mul] at h3
  rw [Nat.pow_succ,Nat.mul_comm (W ^ i) W]
  omega
theorem mont_words {t0 t1 t2 t3 t4 t5 t6 b0 b1 b2 b3 b4 b5 x l0 l1 l2 l3 l4 l5 s6 s7 c1 c2 c3 c4 c5 c6:Nat}
  (e0:l0 + W * c1 = t0 + 0 + x * b0) (e1:l1 + W * c2 = t1 + c1 + x * b1) (e2:l2 + W * c3 = t2 + c2 + x * b2) (e3:l3 + W * c4 = t3 + c3 + x * b3)
  (e4:l4 + W * c5 = t4 + c4 + x * b4) (e5:l5 + W * c6 = t5 + c5 + x * b5) (e6:s6 + W * s7 = t6 + c6) :
  l0 + W * (l1 + W * (l2 + W * (l3 + W * (l4 + W * (l5 + W * (s6 + W * s7)))))) = t0 + W * (t1 + W * (t2 + W * (t3 + W * (t4 + W * (t5 + W * t6))))) + x * (b0 + W * (b1 + W * (b2 + W * (b3 + W * (b4 + W * b5))))):=by
 have hx:x * (b0 + W * (b1 + W * (b2 + W * (b3 + W * (b4 + W * b5))))) = x * b0 + W * (x * b1 + W * (x * b2 + W * (x * b3 + W * (x * b4 + W * (x * b5))))):=by
  grind
 rw [hx]
 generalize x * b0 = y0 at *
 generalize x * b1 = y1 at *
 generalize x * b2 = y2 at *
 generalize x * b3 = y3 at *
 generalize x * b4 = y4 at *
 generalize x * b5 = y5 at *
 simp only [W] at *
 omega
theorem mont_less {l0 l1 l2 l3 l4 l5 s6 s7 n0 n1 n2 n3 n4 n5 q d1 d2 d3 d4 d5 d6 m0 m1 m2 m3 m4 m5 m6 c:Nat}
  (e0:W * d1 = l0 + q * n0) (e1:m0 + W * d2 = l1 + d1 + q * n1) (e2:m1 + W * d3 = l2 + d2 + q * n2) (e3:m2 + W * d4 = l3 + d3 + q * n3)
  (e4:m3 + W * d5 = l4 + d4 + q * n4) (e5:m4 + W * d6 = l5 + d5 + q * n5) (e6:m5 + W * c = s6 + d6) (e7:m6 = s7 + c) :
  (m0 + W * (m1 + W * (m2 + W * (m3 + W * (m4 + W * (m5 + W * m6)))))) * W = l0 + W * (l1 + W * (l2 + W * (l3 + W * (l4 + W * (l5 + W * (s6 + W * s7)))))) + q * (n0 + W * (n1 + W * (n2 + W * (n3 + W * (n4 + W * n5))))):=by
 have hx:q * (n0 + W * (n1 + W * (n2 + W * (n3 + W * (n4 + W * n5))))) = q * n0 + W * (q * n1 + W * (q * n2 + W * (q * n3 + W * (q * n4 + W * (q * n5))))):=by
  grind
 rw [hx]
 generalize q * n0 = y0 at *
 generalize q * n1 = y1 at *
 generalize q * n2 = y2 at *
 generalize q * n3 = y3 at *
 generalize q * n4 = y4 at *
 generalize q * n5 = y5 at *
 simp only [W] at *
 omega
end Go.Rq
namespace Go.Rq
open Go
def lessV (N a:Nat):Nat:=bif Nat.ble N a then a - N else a
theorem lessV_mod {N a:Nat} (h:a < 2 * N):lessV N a = a % N:=by
 unfold lessV
 cases hb:Nat.ble N a
 ·have:¬ N <= a:=by rw [<-Nat.ble_eq,hb];simp
  simp only [cond_false]
  exact (Nat.mod_eq_of_lt (by omega)).symm
 ·rw [Nat.ble_eq] at hb
  simp only [cond_true]
  rw [Nat.mod_eq_sub_mod hb,Nat.mod_eq_of_lt (by omega)]
def subM (N a b:Nat):Nat:=(a % N + (N - b % N)) % N
theorem sub_gen {r N a b:Nat} (ha:a < N) (hb:b < N) (h2:2 * N <= r):(bif Nat.blt a b then ((a + r - b) % r + N) % r else (a + r - b) % r) = (a + (N - b)) % N:=by
 cases hc:Nat.blt a b
 ·have h:¬ a < b:=by rw [<-Nat.blt_eq,hc];simp
  simp only [cond_false]
  rw [show a + r - b = (a - b) + r by omega,Nat.add_mod_right,Nat.mod_eq_of_lt (show a - b < r by omega)]
  rw [show a + (N - b) = (a - b) + N by omega,Nat.add_mod_right,Nat.mod_eq_of_lt (show a - b < N by omega)]
 ·rw [Nat.blt_eq] at hc
  simp only [cond_true]
  rw [Nat.mod_eq_of_lt (show a + r - b < r by omega),show a + r - b + N = (a + N - b) + r by omega,Nat.add_mod_right,Nat.mod_eq_of_lt (show a + N - b < r by omega)]
  rw [show a + (N - b) = a + N - b by omega,Nat.mod_eq_of_lt (show a + N - b < N by omega)]
theorem sub_eq {N a b:Nat} (hN:0 < N) (h2:2 * N <= R):(bif Nat.blt (a % N) (b % N) then ((a % N + R - b % N) % R + N) % R else (a % N + R - b % N) % R) = subM N a b :=
 sub_gen (Nat.mod_lt a hN) (Nat.mod_lt b hN) h2
end Go.Rq
namespace Go.Rq
open Go
theorem less_gen {r N a:Nat} (h:N <= a) (ha:a < r):a - N = (a + r - N) % r:=by
 rw [show a + r - N = (a - N) + r by omega,Nat.add_mod_right,Nat.mod_eq_of_lt (by omega)]
def crow (x:Nat) (b t:Nat->Nat):Nat->Nat
 | 0=>0
 | k + 1=>mHi x (b k) (t k) (crow x b t k)
def drow (q:Nat) (n L:Nat->Nat):Nat->Nat
 | 0=>0
 | 1=>q % W * (n 0 % W) / W + (q * n 0 % W + L 0 % W + 0 % W) / W
 | k + 2=>mHi q (n (k + 1)) (L (k + 1)) (drow q n L (k + 1))
def mrow (q:Nat) (n L D:Nat->Nat) (S6 S7:Nat):Nat->Nat
 | 0=>mLo q (n 1) (L 1) (D 1)
 | 1=>mLo q (n 2) (L 2) (D 2)
 | 2=>mLo q (n 3) (L 3) (D 3)
 | 3=>mLo q (n 4) (L 4) (D 4)
 | 4=>mLo q (n 5) (L 5) (D 5)
 | 5=>S6 + D 6 + 0
 | 6=>S7 + (S6 % W + D 6 % W + 0 % W) / W
 | _=>0
theorem top_step {x c:Nat} (hc:c < W):(x + c + 0) % W + W * ((x % W + c % W + 0 % W) / W) = x % W + c/\(x % W + c % W + 0 % W) / W <= 1:=by
 simp only [W] at *;omega
theorem bound_gen {w q n l:Nat} (hq:q < w) (hn:n < w) (hl:l < w):(l + q * n) / w < w:=by
 rw [Nat.div_lt_iff_lt_mul (by omega)]
 have h1:q * n <= (w - 1) * (w - 1):=Nat.mul_le_mul (by omega) (by omega)
 obtain ⟨v,rfl⟩:∃ v,w = v + 1:=⟨w - 1,by omega⟩
 simp only [Nat.add_sub_cancel] at h1
 rw [Nat.add_mul,Nat.mul_add]
 omega
theorem first_step {q n0 l0:Nat} (h:(l0 + q * n0) % W = 0):W * (q % W * (n0 % W) / W + (q * n0 % W + l0 % W + 0 % W) / W) = l0 % W + q % W * (n0 % W)/\q % W * (n0 % W) / W + (q * n0 % W + l0 % W + 0 % W) / W < W:=by
 have e1:q * n0 % W = q % W * (n0 % W) % W:=Nat.mul_mod _ _ _
 have hz:0 % W = 0:=rfl
 have e2:(l0 % W + q % W * (n0 % W)) % W = 0:=by
  rw [Nat.add_mod,Nat.mod_mod,<-e1,<-Nat.add_mod];exact h
 have hb:=bound_gen (w:=W) (q:=q % W) (n:=n0 % W) (l:=l0 % W) (Nat.mod_lt _ (by decide)) (Nat.mod_lt _ (by decide)) (Nat.mod_lt _ (by decide))
 have hl:l0 % W < W:=Nat.mod_lt _ (by decide)
 rw [e1,hz]
 generalize q % W * (n0 % W) = u at *
 generalize l0 % W = l at *
 have e3:W * (u / W + (u % W + l + 0) / W) = l + u:=by simp only [W] at *;omega
 refine ⟨e3,?_⟩
 have e4:u / W + (u % W + l + 0) / W = (l + u) / W:=by simp only [W] at *;omega
 rw [e4];exact hb
theorem low_zero {w n0 l l0:Nat} (h:(n0 % w * (l % w) + 1) % w = 0):(l0 + l0 * l * n0) % w = 0:=by
 have e:l0 + l0 * l * n0 = l0 * (n0 * l + 1):=by rw [Nat.mul_add,Nat.mul_one,Nat.mul_assoc,Nat.mul_comm l n0,Nat.add_comm]
 have h2:(n0 * l + 1) % w = 0:=by rw [Nat.add_mod,Nat.mul_mod,<-Nat.add_mod];exact h
 rw [e,Nat.mul_mod,h2,Nat.mul_zero,Nat.zero_mod]
theorem sB7_eq (t:Nat->Nat):sB W t 7 = t 0 % W + W * (t 1 % W + W * (t 2 % W + W * (t 3 % W + W * (t 4 % W + W * (t 5 % W + W * (t 6 % W)))))):=by
 simp only [sB,W]
 generalize t 0 % 18446744073709551616 = x0
 generalize t 1 % 18446744073709551616 = x1
 generalize t 2 % 18446744073709551616 = x2
 generalize t 3 % 18446744073709551616 = x3
 generalize t 4 % 18446744073709551616 = x4
 generalize t 5 % 18446744073709551616 = x5
 generalize t 6 % 18446744073709551616 = x6
 omega
theorem sB7 {f Mm:Nat->Nat} (h:∀ j,j < 7->f j = Mm j):sB W f 7 = sB W Mm 7:=sB_congr fun j hj=>by rw [h j hj]
theorem sB7_nv {t:Nat->Nat} (h:sB W t 7 < R):sB W t 7 = nv t:=by
 have e:=sB7_eq t
 have h6:t 6 % W = 0:=by
  rw [e] at h
  simp only [R,W] at *
  omega
 rw [e,h6]
 unfold nv
 rfl
theorem mont_row {x l:Nat} {b t n C L D Mm:Nat->Nat} {S6 S7 q cc:Nat} (low:(n 0 % W * (l % W) + 1) % W = 0) (hC:C = crow x b t) (hL:L = fun k=>mLo x (b k) (t k) (C k)) (hS6:S6 = t 6 + C 6 + 0)
  (hS7:S7 = (t 6 % W + C 6 % W + 0 % W) / W) (hq:q = L 0 * l) (hD:D = drow q n L) (hM:Mm = mrow q n L D S6 S7) (hcc:cc = (S6 % W + D 6 % W + 0 % W) / W) :
  ∃ T2,T2 = sB W Mm 7/\T2 * W = (sB W t 7 + x % W * nv b) + q % W * nv n:=by
 have cs:∀ k,C (k + 1) = mHi x (b k) (t k) (C k):=fun k=>by rw [hC];rfl
 have ls:∀ k,L k = mLo x (b k) (t k) (C k):=fun k=>by rw [hL]
 have c0:C 0 = 0:=by rw [hC];rfl
 have b0:C 0 < W:=by rw [c0];decide
 have s0:=m_step (x:=x) (y:=b 0) (p:=t 0) b0
 rw [<-cs,<-ls] at s0
 have s1:=m_step (x:=x) (y:=b 1) (p:=t 1) s0.2
 rw [<-cs,<-ls] at s1
 have s2:=m_step (x:=x) (y:=b 2) (p:=t 2) s1.2
 rw [<-cs,<-ls] at s2
 have s3:=m_step (x:=x) (y:=b 3) (p:=t 3) s2.2
 rw [<-cs,<-ls] at s3
 have s4:=m_step (x:=x) (y:=b 4) (p:=t 4) s3.2
 rw [<-cs,<-ls] at s4
 have s5:=m_step (x:=x) (y:=b 5) (p:=t 5) s4.2
 rw [<-cs,<-ls] at s5
 have s6:=top_step (x:=t 6) s5.2
 rw [<-hS6,<-hS7] at s6
 rw [c0] at s0
 have f0:=first_step (q:=q) (n0:=n 0) (l0:=L 0) (by rw [hq];exact low_zero low)
 have d1:D 1 = q % W * (n 0 % W) / W + (q * n 0 % W + L 0 % W + 0 % W) / W:=by rw [hD];rfl
 rw [<-d1] at f0
 have ds:∀ k,D (k + 2) = mHi q (n (k + 1)) (L (k + 1)) (D (k + 1)):=fun k=>by rw [hD];rfl
 have f1:=m_step (x:=q) (y:=n 1) (p:=L 1) f0.2
 have f2:=m_step (x:=q) (y:=n 2) (p:=L 2) (c:=D 2) (by rw [ds 0];exact f1.2)
 have f3:=m_step (x:=q) (y:=n 3) (p:=L 3) (c:=D 3) (by rw [ds 1];exact f2.2)
 have f4:=m_step (x:=q) (y:=n 4) (p:=L 4) (c:=D 4) (by rw [ds 2];exact f3.2)
 have f5:=m_step (x:=q) (y:=n 5) (p:=L 5) (c:=D 5) (by rw [ds 3];exact f4.2)
 have f6:=top_step (x:=S6) (c:=D 6) (by rw [ds 4];exact f5.2)
 have g1:=f1.1
 have g2:=f2.1
 have g3:=f3.1
 have g4:=f4.1
 have g5:=f5.1
 rw [<-ds 0] at g1
 rw [<-ds 1] at g2
 rw [<-ds 2] at g3
 rw [<-ds 3] at g4
 rw [<-ds 4] at g5
 have m0:Mm 0 = mLo q (n 1) (L 1) (D 1):=by rw [hM];rfl
 have m1:Mm 1 = mLo q (n 2) (L 2) (D 2):=by rw [hM];rfl
 have m2:Mm 2 = mLo q (n 3) (L 3) (D 3):=by rw [hM];rfl
 have m3:Mm 3 = mLo q (n 4) (L 4) (D 4):=by rw [hM];rfl
 have m4:Mm 4 = mLo q (n 5) (L 5) (D 5):=by rw [hM];rfl
 have m5:Mm 5 = S6 + D 6 + 0:=by rw [hM];rfl
 have m6:Mm 6 = S7 + cc:=by rw [hM,hcc];rfl
 rw [<-m0] at g1
 rw [<-m1] at g2
 rw [<-m2] at g3
 rw [<-m3] at g4
 rw [<-m4] at g5
 have h6:=f6.1
 rw [<-m5,<-hcc] at h6
 have h7:Mm 6 % W = S7 + cc:=by
  rw [m6]
  have h8:=s6.2
  have h9:=f6.2
  rw [<-hcc] at h9
  exact Nat.mod_eq_of_lt (by simp only [W];omega)
 refine ⟨_,rfl,?_⟩
 rw [sB7_eq Mm,sB7_eq t]
 have hw:=mont_words (x:=x % W) s0.1 s1.1 s2.1 s3.1 s4.1 s5.1 s6.1
 have hm:=mont_less (q:=q % W) f0.1 g1 g2 g3 g4 g5 h6 h7
 unfold nv
 rw [hm,hw]
end Go.Rq
namespace Go.Rq
open Go
def Pr (n:Nat):Prop:=1 < n/\∀ d,d ∣ n->d = 1∨d = n
theorem Pr.cop {s m:Nat} (h:Pr s) (h0:0 < m) (h1:m < s):Nat.Coprime s m:=by
 rcases h.2 _ (Nat.gcd_dvd_left s m) with e | e
 ·exact e
 ·have:=Nat.le_of_dvd h0 (Nat.gcd_dvd_right s m)
  omega
theorem Pr.cop' {s m:Nat} (h:Pr s) (h0:¬ s ∣ m):Nat.Coprime s m:=by
 rcases h.2 _ (Nat.gcd_dvd_left s m) with e | e
 ·exact e
 ·exact absurd (e ▸ Nat.gcd_dvd_right s m) h0
theorem pr_div:∀ n:Nat,1 < n->∃ s,Pr s/\s ∣ n:=by
 intro n
 induction n using Nat.strongRecOn with
 | ind n ih =>
  intro h
  by_cases hp:Pr n
  ·exact ⟨n,hp,Nat.dvd_refl n⟩
  ·have:∃ d,d ∣ n/\d ≠ 1/\d ≠ n:=by
    refine Classical.byContradiction fun hc=>hp ⟨h,fun d hd=>?_⟩
    refine Classical.byContradiction fun hh=>hc ⟨d,hd,fun e=>hh (.inl e),fun e=>hh (.inr e)⟩
   obtain ⟨d,hd,h1,hn⟩:=this
   have hle:=Nat.le_of_dvd (by omega) hd
   have h0:d ≠ 0:=fun e=>by rw [e] at hd;have:=Nat.eq_zero_of_zero_dvd hd;omega
   obtain ⟨s,hs,hsd⟩:=ih d (by omega) (by omega)
   exact ⟨s,hs,Nat.dvd_trans hsd hd⟩
theorem pr_of {n:Nat} (h:1 < n) (hs:∀ s,Pr s->s ∣ n->n < s * s):Pr n:=by
 refine ⟨h,fun d hd=>?_⟩
 refine Classical.byContradiction fun hc=>?_
 obtain ⟨e,he⟩:=hd
 have hd1:d ≠ 1:=fun e=>hc (.inl e)
 have hdn:d ≠ n:=fun e=>hc (.inr e)
 have hd0:d ≠ 0:=fun e'=>by rw [e',Nat.zero_mul] at he;omega
 have he0:e ≠ 0:=fun e'=>by rw [e',Nat.mul_zero] at he;omega
 have he1:e ≠ 1:=fun e'=>by rw [e',Nat.mul_one] at he;exact hdn he.symm
 obtain ⟨s,hs1,hs2⟩:=pr_div d (by omega)
 obtain ⟨t,ht1,ht2⟩:=pr_div e (by omega)
 have k1:=hs s hs1 (Nat.dvd_trans hs2 ⟨e,he⟩)
 have k2:=hs t ht1 (Nat.dvd_trans ht2 ⟨d,by rw [he,Nat.mul_comm]⟩)
 have l1:=Nat.le_of_dvd (by omega) hs2
 have l2:=Nat.le_of_dvd (by omega) ht2
 have m1:s * s <= d * d:=Nat.mul_le_mul l1 l1
 have m2:t * t <= e * e:=Nat.mul_le_mul l2 l2
 rcases Nat.le_total d e with hde | hde
 ·have:d * d <= d * e:=Nat.mul_le_mul_left _ hde
  omega
 ·have:e * e <= d * e:=Nat.mul_le_mul_right _ hde
  omega
def chs:Nat->Nat->Nat
 | _,0=>1
 | 0,_ + 1=>0
 | n + 1,k + 1=>chs n k + chs n (k + 1)
theorem chs_zero (n:Nat):chs n 0 = 1:=by cases n <;> rfl
theorem chs_big:∀ {n k:Nat},n < k->chs n k = 0
 | 0,k + 1,_=>rfl
 | n + 1,k + 1,h=>by
  show chs n k + chs n (k + 1) = 0
  rw [chs_big (by omega),chs_big (by omega)]
theorem chs_self:∀ n:Nat,chs n n = 1
 | 0=>rfl
 | n + 1=>by
  show chs n n + chs n (n + 1) = 1
  rw [chs_self n,chs_big (by omega)]
theorem chs_mul:∀ n k:Nat,(k + 1) * chs (n + 1) (k + 1) = (n + 1) * chs n k
 | 0,0=>rfl
 | 0,k + 1=>by
  show (k + 1 + 1) * (chs 0 (k + 1) + chs 0 (k + 2)) = (0 + 1) * chs 0 (k + 1)
  simp [chs]
 | n + 1,0=>by
  have:=chs_mul n 0
  show (0 + 1) * (chs (n + 1) 0 + chs (n + 1) 1) = (n + 1 + 1) * chs (n + 1) 0
  simp only [chs_zero,Nat.zero_add] at *
  omega
 | n + 1,k + 1=>by
  have h1:=chs_mul n k
  have h2:=chs_mul n (k + 1)
  have e3:chs (n + 1) (k + 1) = chs n k + chs n (k + 1):=rfl
  show (k + 1 + 1) * (chs (n + 1) (k + 1) + chs (n + 1) (k + 2)) = (n + 1 + 1) * chs (n + 1) (k + 1)
  have e4:(k + 1 + 1) * chs (n + 1) (k + 2) = (n + 1) * chs n (k + 1):=h2
  rw [Nat.mul_add,e4,Nat.add_mul (k + 1) 1,h1,Nat.one_mul,Nat.add_mul (n + 1) 1,Nat.one_mul]
  rw [show (n + 1) * chs (n + 1) (k + 1) = (n + 1) * chs n k + (n + 1) * chs n (k + 1) by rw [e3,Nat.mul_add]]
  omega
theorem chs_dvd {s k:Nat} (h:Pr s) (hk:k + 1 < s):s ∣ chs s (k + 1):=by
 obtain ⟨n,rfl⟩:∃ n,s = n + 1:=⟨s - 1,by have:=h.1;omega⟩
 refine Nat.Coprime.dvd_of_dvd_mul_left (h.cop (m:=k + 1) (by omega) hk) ⟨chs n k,chs_mul n k⟩
structure GI where
 re:Int
 im:Int
theorem GI.ext {x y:GI} (h1:x.re = y.re) (h2:x.im = y.im):x = y:=by cases x;cases y;simp_all
namespace GI
def add (x y:GI):GI:=⟨x.re + y.re,x.im + y.im⟩
def mul (x y:GI):GI:=⟨x.re * y.re - x.im * y.im,x.re * y.im + x.im * y.re⟩
def sc (c:Int) (x:GI):GI:=⟨c * x.re,c * x.im⟩
def one:GI:=⟨1,0⟩
def cj (x:GI):GI:=⟨x.re,-x.im⟩
def pow (x:GI):Nat->GI
 | 0=>one
 | n + 1=>mul x (pow x n)
theorem mul_comm (x y:GI):mul x y = mul y x:=GI.ext (by simp only [mul];grind) (by simp only [mul];grind)
theorem mul_assoc (x y z:GI):mul (mul x y) z = mul x (mul y z):=GI.ext (by simp only [mul];grind) (by simp only [mul];grind)
theorem one_mul (x:GI):mul one x = x:=GI.ext (by simp only [mul,one];grind) (by simp only [mul,one];grind)
theorem mul_one (x:GI):mul x one = x:=by rw [mul_comm,one_mul]
theorem pow_add (x:GI) (a:Nat):∀ b,pow x (a + b) = mul (pow x a) (pow x b)
 | 0=>by rw [Nat.add_zero];exact (mul_one _).symm
 | b + 1=>by
  show mul x (pow x (a + b)) = mul (pow x a) (mul x (pow x b))
  rw [pow_add x a b,<-mul_assoc,<-mul_assoc,mul_comm x]
theorem pow_one (x:GI):pow x 1 = x:=mul_one x
theorem one_pow:∀ n,pow one n = one
 | 0=>rfl
 | n + 1=>by show mul one (pow one n) = one;rw [one_pow n,one_mul]
theorem pow_mul (x:GI) (a:Nat):∀ b,pow x (a * b) = pow (pow x a) b
 | 0=>rfl
 | b + 1=>by
  rw [Nat.mul_succ,Nat.add_comm,pow_add,pow_mul x a b];rfl
theorem mul_pow (x y:GI):∀ n,pow (mul x y) n = mul (pow x n) (pow y n)
 | 0=>(mul_one one).symm
 | n + 1=>by
  show mul (mul x y) (pow (mul x y) n) = mul (mul x (pow x n)) (mul y (pow y n))
  rw [mul_pow x y n,mul_assoc,mul_assoc,<-mul_assoc y,mul_comm y,mul_assoc (pow x n)]
def bT (x y:GI) (n:Nat):Nat->GI
 | 0=>one
 | k + 1=>add (mul y (bT x y n k)) (sc (chs n (k + 1)) (pow x (k + 1)))
theorem bT_step (x y:GI) (n:Nat):∀ k,bT x y (n + 1) (k + 1) = add (bT x y n (k + 1)) (mul x (bT x y n k))
 | 0=>by
  simp only [bT,pow]
  rw [show chs (n + 1) (0 + 1) = chs n 0 + chs n 1 from rfl,chs_zero]
  refine GI.ext ?_ ?_ <;> simp only [add,mul,sc,one,Int.natCast_add] <;> grind
 | k + 1=>by
  have ih:=bT_step x y n k
  show add (mul y (bT x y (n + 1) (k + 1))) (sc (chs (n + 1) (k + 2)) (pow x (k + 2))) = add (add (mul y (bT x y n (k + 1))) (sc (chs n (k + 2)) (pow x (k + 2)))) (mul x (bT x y n (k + 1)))
  rw [ih]
  have e1:bT x y n (k + 1) = add (mul y (bT x y n k)) (sc (chs n (k + 1)) (pow x (k + 1))):=rfl
  have e2:chs (n + 1) (k + 2) = chs n (k + 1) + chs n (k + 2):=rfl
  have e3:pow x (k + 2) = mul x (pow x (k + 1)):=rfl
  rw [e2,e3]
  generalize pow x (k + 1) = P at *
  generalize bT x y n k = B at *
  generalize bT x y n (k + 1) = C at *
  generalize chs n (k + 1) = c at *
  generalize chs n (k + 2) = d at *
  subst e1
  refine GI.ext ?_ ?_ <;> simp only [add,mul,sc,Int.natCast_add] <;> grind
theorem bT_pow (x y:GI):∀ n,bT x y n n = pow (add x y) n
 | 0=>rfl
 | n + 1=>by
  rw [bT_step]
  show add (add (mul y (bT x y n n)) (sc (chs n (n + 1)) (pow x (n + 1)))) (mul x (bT x y n n)) = mul (add x y) (pow (add x y) n)
  rw [chs_big (by omega),bT_pow x y n]
  generalize pow (add x y) n = P
  generalize pow x (n + 1) = Q
  refine GI.ext ?_ ?_ <;> simp only [add,mul,sc] <;> grind
def cg (s:Nat) (x y:GI):Prop:=∃ K:GI,x = add y (sc s K)
theorem cg_refl (s:Nat) (x:GI):cg s x x:=⟨⟨0,0⟩,GI.ext (by simp [add,sc]) (by simp [add,sc])⟩
theorem cg_symm {s:Nat} {x y:GI} (h:cg s x y):cg s y x:=by
 obtain ⟨K,rfl⟩:=h
 exact ⟨⟨-K.re,-K.im⟩,GI.ext (by simp only [add,sc];grind) (by simp only [add,sc];grind)⟩
theorem cg_trans {s:Nat} {x y z:GI} (h:cg s x y) (h2:cg s y z):cg s x z:=by
 obtain ⟨K,rfl⟩:=h
 obtain ⟨L,rfl⟩:=h2
 exact ⟨add K L,GI.ext (by simp only [add,sc];grind) (by simp only [add,sc];grind)⟩
theorem cg_mul {s:Nat} {x y z w:GI} (h:cg s x y) (h2:cg s z w):cg s (mul x z) (mul y w):=by
 obtain ⟨K,rfl⟩:=h
 obtain ⟨L,rfl⟩:=h2
 exact ⟨add (mul K w) (add (mul y L) (sc s (mul K L))),GI.ext (by simp only [add,sc,mul];grind) (by simp only [add,sc,mul];grind)⟩
theorem cg_add {s:Nat} {x y z w:GI} (h:cg s x y) (h2:cg s z w):cg s (add x z) (add y w):=by
 obtain ⟨K,rfl⟩:=h
 obtain ⟨L,rfl⟩:=h2
 exact ⟨add K L,GI.ext (by simp only [add,sc];grind) (by simp only [add,sc];grind)⟩
theorem cg_pow {s:Nat} {x y:GI} (h:cg s x y):∀ n,cg s (pow x n) (pow y n)
 | 0=>cg_refl s one
 | n + 1=>cg_mul h (cg_pow h n)
theorem cg_dvd {s n:Nat} (hd:s ∣ n) {x y:GI} (h:cg n x y):cg s x y:=by
 obtain ⟨m,rfl⟩:=hd
 obtain ⟨K,rfl⟩:=h
 exact ⟨sc m K,GI.ext (by simp only [add,sc,Int.natCast_mul];grind) (by simp only [add,sc,Int.natCast_mul];grind)⟩
theorem bT_cg {s:Nat} (hs:Pr s) (x y:GI):∀ k,k < s->cg s (bT x y s k) (pow y k)
 | 0,_=>cg_refl s one
 | k + 1,h=>by
  have ih:=bT_cg hs x y k (by omega)
  obtain ⟨m,hm⟩:=chs_dvd hs h
  have e:bT x y s (k + 1) = add (mul y (bT x y s k)) (sc (chs s (k + 1)) (pow x (k + 1))):=rfl
  rw [e,hm]
  refine cg_trans (cg_add (cg_mul (cg_refl s y) ih) (w:=⟨0,0⟩) ⟨sc m (pow x (k + 1)),?_⟩) ⟨⟨0,0⟩,?_⟩
  ·refine GI.ext ?_ ?_ <;> simp only [add,sc,Int.natCast_mul] <;> grind
  ·refine GI.ext ?_ ?_ <;> simp only [add,sc,pow] <;> grind
theorem frob {s:Nat} (hs:Pr s) (x y:GI):cg s (pow (add x y) s) (add (pow x s) (pow y s)):=by
 obtain ⟨n,rfl⟩:∃ n,s = n + 1:=⟨s - 1,by have:=hs.1;omega⟩
 rw [<-bT_pow]
 show cg (n + 1) (add (mul y (bT x y (n + 1) n)) (sc (chs (n + 1) (n + 1)) (pow x (n + 1)))) _
 rw [chs_self]
 refine cg_trans (cg_add (cg_mul (cg_refl _ y) (bT_cg hs x y n (by omega))) (cg_refl _ _)) ⟨⟨0,0⟩,?_⟩
 show add (pow y (n + 1)) _ = _
 refine GI.ext ?_ ?_ <;> simp only [add,sc] <;> grind
def nat (a:Nat):GI:=⟨a,0⟩
theorem fermat {s:Nat} (hs:Pr s):∀ a:Nat,cg s (pow (nat a) s) (nat a)
 | 0=>by
  obtain ⟨n,rfl⟩:∃ n,s = n + 1:=⟨s - 1,by have:=hs.1;omega⟩
  have:pow (nat 0) (n + 1) = nat 0:=by
   show mul (nat 0) (pow (nat 0) n) = nat 0
   refine GI.ext ?_ ?_ <;> simp [mul,nat]
  rw [this];exact cg_refl _ _
 | a + 1=>by
  have e:nat (a + 1) = add (nat a) one:=by refine GI.ext ?_ ?_ <;> simp [add,nat,one]
  rw [e]
  refine cg_trans (frob hs (nat a) one) ?_
  rw [one_pow]
  exact cg_add (fermat hs a) (cg_refl _ _)
def gi:GI:=⟨0,1⟩
theorem gi_pow:∀ k:Nat,pow gi (4 * k) = one
 | 0=>rfl
 | k + 1=>by
  rw [show 4 * (k + 1) = 4 + 4 * k by omega,pow_add,gi_pow k]
  rfl
theorem gfrob {s:Nat} (hs:Pr s) (u v:Nat):(s % 4 = 1->cg s (pow ⟨u,v⟩ s) ⟨u,v⟩)/\(s % 4 = 3->cg s (pow ⟨u,v⟩ s) (cj ⟨u,v⟩)):=by
 have e:(⟨u,v⟩:GI) = add (nat u) (mul (nat v) gi):=by refine GI.ext ?_ ?_ <;> simp [add,mul,nat,gi]
 have h1:cg s (pow ⟨u,v⟩ s) (add (nat u) (mul (nat v) (pow gi s))):=by
  rw [e]
  refine cg_trans (frob hs _ _) (cg_add (fermat hs u) ?_)
  rw [mul_pow]
  exact cg_mul (fermat hs v) (cg_refl _ _)
 constructor
 ·intro h4
  rw [show s = 4 * (s / 4) + 1 by omega,pow_add gi,gi_pow,one_mul] at h1
  rw [<-show s = 4 * (s / 4) + 1 by omega] at h1
  have:add (nat u) (mul (nat v) (pow gi 1)) = ⟨u,v⟩:=by rw [e];rfl
  rwa [this] at h1
 ·intro h4
  rw [show s = 4 * (s / 4) + 3 by omega,pow_add gi,gi_pow,one_mul] at h1
  rw [<-show s = 4 * (s / 4) + 3 by omega] at h1
  have:add (nat u) (mul (nat v) (pow gi 3)) = cj ⟨u,v⟩:=by
   refine GI.ext ?_ ?_ <;> simp [add,mul,nat,gi,pow,one,cj]
  rwa [this] at h1
theorem pow_gcd {s:Nat} (x:GI):∀ a b:Nat,cg s (pow x a) one->cg s (pow x b) one->cg s (pow x (Nat.gcd a b)) one:=by
 intro a b
 induction a,b using Nat.gcd.induction with
 | H0 b=>intro _ h;rw [Nat.gcd_zero_left];exact h
 | H1 a b ha ih =>
  intro h1 h2
  rw [Nat.gcd_rec]
  refine ih ?_ h1
  have e:pow x b = mul (pow (pow x a) (b / a)) (pow x (b % a)):=by rw [<-pow_mul,<-pow_add,Nat.div_add_mod]
  rw [e] at h2
  have h3:cg s (mul (pow (pow x a) (b / a)) (pow x (b % a))) (mul one (pow x (b % a))):=by
   have:=cg_pow h1 (b / a)
   rw [one_pow] at this
   exact cg_mul this (cg_refl _ _)
  rw [one_mul] at h3
  exact cg_trans (cg_symm h3) h2
theorem ord_dvd {s q m:Nat} (hq:Pr q) (x:GI) (h1:cg s (pow x q) one) (hm:cg s (pow x m) one) (hn:¬ cg s x one):q ∣ m:=by
 refine Classical.byContradiction fun hd=>hn ?_
 have:=pow_gcd x q m h1 hm
 rw [show Nat.gcd q m = 1 from hq.cop' hd,pow_one] at this
 exact this
end GI
end Go.Rq
namespace Go.Rq
open Go
theorem Pr.two {s n:Nat} (_:Pr s) (hd:s ∣ n) (hn:n % 2 = 1):s % 4 = 1∨s % 4 = 3:=by
 have:s % 2 ≠ 0:=fun e=>by
  have h2:2 ∣ n:=Nat.dvd_trans (Nat.dvd_of_mod_eq_zero e) hd
  have:=Nat.mod_eq_zero_of_dvd h2
  omega
 omega
def gmM (n:Nat) (x y:Nat × Nat):Nat × Nat:=((x.1 * y.1 + (n - x.2 * y.2 % n)) % n,(x.1 * y.2 + x.2 * y.1) % n)
def gpM (n:Nat) (x:Nat × Nat):Nat->Nat->Nat × Nat
 | 0,_=>(1,0)
 | k + 1,e=>bif Nat.beq (e % 2) 1 then gmM n (gmM n (gpM n x k (e / 2)) (gpM n x k (e / 2))) x else gmM n (gpM n x k (e / 2)) (gpM n x k (e / 2))
def toG (x:Nat × Nat):GI:=⟨x.1,x.2⟩
theorem gmM_cg {n:Nat} (hn:0 < n) (x y:Nat × Nat):GI.cg n (toG (gmM n x y)) (GI.mul (toG x) (toG y)):=by
 obtain ⟨a,b⟩:=x
 obtain ⟨c,d⟩:=y
 unfold gmM toG
 simp only
 refine ⟨⟨1 + ((b * d / n:Nat):Int) - (((a * c + (n - b * d % n)) / n:Nat):Int),- (((a * d + b * c) / n:Nat):Int)⟩,?_⟩
 have h1:=Nat.div_add_mod (a * c + (n - b * d % n)) n
 have h2:=Nat.div_add_mod (b * d) n
 have h3:=Nat.div_add_mod (a * d + b * c) n
 have h4:b * d % n <= n:=Nat.le_of_lt (Nat.mod_lt _ hn)
 refine GI.ext ?_ ?_
 ·simp only [GI.add,GI.sc,GI.mul]
  generalize (a * c + (n - b * d % n)) / n = q1 at *
  generalize (a * c + (n - b * d % n)) % n = r1 at *
  generalize b * d / n = q2 at *
  generalize b * d % n = r2 at *
  have e1:(n:Int) * q1 + r1 = a * c + (n - r2):=by
   rw [<-Int.natCast_sub h4]
   exact_mod_cast h1
  have e2:(n:Int) * q2 + r2 = b * d:=by exact_mod_cast h2
  grind
 ·simp only [GI.add,GI.sc,GI.mul]
  generalize (a * d + b * c) / n = q1 at *
  generalize (a * d + b * c) % n = r1 at *
  have e1:(n:Int) * q1 + r1 = a * d + b * c:=by exact_mod_cast h3
  grind
theorem gpM_cg {n:Nat} (hn:0 < n) (x:Nat × Nat):∀ k e,e < 2 ^ k->GI.cg n (toG (gpM n x k e)) (GI.pow (toG x) e)
 | 0,e,h=>by
  have:e = 0:=by simpa using h
  subst this
  exact GI.cg_refl _ _
 | k + 1,e,h=>by
  have ih:=gpM_cg hn x k (e / 2) (by rw [Nat.pow_succ] at h;omega)
  have h2:GI.cg n (toG (gmM n (gpM n x k (e / 2)) (gpM n x k (e / 2)))) (GI.pow (toG x) (e / 2 + e / 2)):=by
   rw [GI.pow_add]
   exact GI.cg_trans (gmM_cg hn _ _) (GI.cg_mul ih ih)
  show GI.cg n (toG (bif Nat.beq (e % 2) 1 then _ else _)) _
  cases hb:Nat.beq (e % 2) 1
  ·have:e % 2 ≠ 1:=fun e'=>by rw [<-Nat.beq_eq,hb] at e';cases e'
   rw [cond_false]
   rwa [show e / 2 + e / 2 = e by omega] at h2
  ·rw [Nat.beq_eq] at hb
   rw [cond_true]
   have e1:GI.pow (toG x) e = GI.mul (GI.pow (toG x) (e / 2 + e / 2)) (toG x):=by
    rw [GI.mul_comm]
    show _ = GI.pow (toG x) (e / 2 + e / 2 + 1)
    rw [show e / 2 + e / 2 + 1 = e by omega]
   rw [e1]
   exact GI.cg_trans (gmM_cg hn _ _) (GI.cg_mul h2 (GI.cg_refl _ _))
def pRow (n k q u v t:Nat):Bool :=
 Nat.blt q (2 ^ k) && Nat.beq (gpM n (u,v) k q).1 1 && Nat.beq (gpM n (u,v) k q).2 0 && Nat.beq (t * ((u + (n - 1)) * (u + (n - 1)) + v * v) % n) 1
theorem row_ord {n k q u v t s m:Nat} (hn:1 < n) (hq:Pr q) (h:pRow n k q u v t = true) (hs:Pr s) (hd:s ∣ n)
  (hm:GI.cg s (GI.pow ⟨u,v⟩ m) GI.one):GI.cg s (GI.pow ⟨u,v⟩ q) GI.one/\q ∣ m:=by
 unfold pRow at h
 simp only [Bool.and_eq_true,Nat.beq_eq,Nat.blt_eq] at h
 obtain ⟨⟨⟨h1,h2⟩,h3⟩,h4⟩:=h
 have hp:=gpM_cg (n:=n) (by omega) (u,v) k q h1
 have e:toG (gpM n (u,v) k q) = GI.one:=by
  unfold toG;rw [h2,h3];rfl
 rw [e] at hp
 have hq1:GI.cg s (GI.pow ⟨u,v⟩ q) GI.one:=GI.cg_dvd hd (GI.cg_symm hp)
 refine ⟨hq1,GI.ord_dvd hq ⟨u,v⟩ hq1 hm fun hc=>?_⟩
 obtain ⟨K,hK⟩:=hc
 obtain ⟨m',rfl⟩:=hd
 have r1:(u:Int) = 1 + s * K.re:=congrArg GI.re hK
 have r2:(v:Int) = 0 + s * K.im:=congrArg GI.im hK
 have hmod:=Nat.div_add_mod (t * ((u + (s * m' - 1)) * (u + (s * m' - 1)) + v * v)) (s * m')
 rw [h4] at hmod
 generalize t * ((u + (s * m' - 1)) * (u + (s * m' - 1)) + v * v) / (s * m') = Q at hmod
 have hI:((s:Int) * m') * Q + 1 = t * ((u + (s * m' - 1)) * (u + (s * m' - 1)) + v * v):=by
  have hle:1 <= s * m':=by omega
  have hc:((s * m' - 1:Nat):Int) = (s:Int) * m' - 1:=by
   rw [Int.natCast_sub hle,Int.natCast_mul];rfl
  rw [<-hc]
  exact_mod_cast hmod
 have hdv:(s:Int) ∣ 1:=by
  refine ⟨(t:Int) * ((K.re + m') * (s * K.re + s * m') + K.im * (s * K.im)) - m' * Q,?_⟩
  rw [r1,r2] at hI
  grind
 have h1s:=Int.le_of_dvd (by omega) hdv
 have:=hs.1
 omega
theorem row_p {n k q u t s:Nat} (hn:1 < n) (h2:n % 2 = 1) (hq:Pr q) (h:pRow n k q u 0 t = true) (hs:Pr s) (hd:s ∣ n):q ∣ s - 1:=by
 have hf:GI.cg s (GI.pow ⟨u,((0:Nat):Int)⟩ s) ⟨u,((0:Nat):Int)⟩:=by
  rcases hs.two hd h2 with h4 | h4
  ·exact (GI.gfrob hs u 0).1 h4
  ·have:=(GI.gfrob hs u 0).2 h4
   have e:GI.cj ⟨u,((0:Nat):Int)⟩ = ⟨u,((0:Nat):Int)⟩:=by refine GI.ext ?_ ?_ <;> simp [GI.cj]
   rw [e] at this
   exact this
 have hq1:=(row_ord (v:=0) (m:=0) hn hq h hs hd (GI.cg_refl _ _)).1
 refine (row_ord (v:=0) (m:=s - 1) hn hq h hs hd ?_).2
 have hs1:=hs.1
 have hq0:=hq.1
 have e1:GI.pow ⟨u,((0:Nat):Int)⟩ q = GI.mul ⟨u,((0:Nat):Int)⟩ (GI.pow ⟨u,((0:Nat):Int)⟩ (q - 1)):=by
  show _ = GI.pow _ (q - 1 + 1)
  rw [show q - 1 + 1 = q by omega]
 have e2:GI.pow ⟨u,((0:Nat):Int)⟩ s = GI.mul ⟨u,((0:Nat):Int)⟩ (GI.pow ⟨u,((0:Nat):Int)⟩ (s - 1)):=by
  show _ = GI.pow _ (s - 1 + 1)
  rw [show s - 1 + 1 = s by omega]
 rw [e1] at hq1
 rw [e2] at hf
 generalize GI.pow ⟨u,((0:Nat):Int)⟩ (s - 1) = P at *
 generalize GI.pow ⟨u,((0:Nat):Int)⟩ (q - 1) = Q at *
 have h3:GI.cg s (GI.mul (GI.mul ⟨u,((0:Nat):Int)⟩ P) Q) (GI.mul ⟨u,((0:Nat):Int)⟩ Q):=GI.cg_mul hf (GI.cg_refl _ _)
 have e3:GI.mul (GI.mul ⟨u,((0:Nat):Int)⟩ P) Q = GI.mul P (GI.mul ⟨u,((0:Nat):Int)⟩ Q):=by
  rw [GI.mul_comm ⟨u,((0:Nat):Int)⟩ P,GI.mul_assoc]
 rw [e3] at h3
 have h4:=GI.cg_trans (GI.cg_symm (GI.cg_mul (GI.cg_refl s P) hq1)) (GI.cg_trans h3 hq1)
 rwa [GI.mul_one] at h4
theorem row_m {n k q u v t s:Nat} (hn:1 < n) (hq:Pr q) (h:pRow n k q u v t = true) (hno:Nat.beq ((u * u + v * v) % n) 1 = true) (hs:Pr s) (hd:s ∣ n) :
  (s % 4 = 1->q ∣ s - 1)/\(s % 4 = 3->q ∣ s + 1):=by
 have hs1:=hs.1
 have hN:GI.cg s (GI.mul ⟨u,v⟩ (GI.cj ⟨u,v⟩)) GI.one:=by
  rw [Nat.beq_eq] at hno
  have hmod:=Nat.div_add_mod (u * u + v * v) n
  rw [hno] at hmod
  refine GI.cg_dvd hd ⟨⟨(((u * u + v * v) / n:Nat):Int),0⟩,?_⟩
  generalize (u * u + v * v) / n = Q at *
  have hI:(n:Int) * Q + 1 = u * u + v * v:=by exact_mod_cast hmod
  refine GI.ext ?_ ?_ <;> simp only [GI.mul,GI.cj,GI.add,GI.sc,GI.one] <;> grind
 have e2:GI.pow ⟨u,v⟩ s = GI.mul ⟨u,v⟩ (GI.pow ⟨u,v⟩ (s - 1)):=by
  show _ = GI.pow _ (s - 1 + 1)
  rw [show s - 1 + 1 = s by omega]
 constructor
 ·intro h4
  refine (row_ord (m:=s - 1) hn hq h hs hd ?_).2
  have hf:=(GI.gfrob hs u v).1 h4
  rw [e2] at hf
  generalize GI.pow ⟨(u:Int),v⟩ (s - 1) = P at *
  have h3:=GI.cg_mul hf (GI.cg_refl s (GI.cj ⟨u,v⟩))
  have e3:GI.mul (GI.mul ⟨u,v⟩ P) (GI.cj ⟨u,v⟩) = GI.mul P (GI.mul ⟨u,v⟩ (GI.cj ⟨u,v⟩)):=by
   rw [GI.mul_comm ⟨u,v⟩ P,GI.mul_assoc]
  rw [e3] at h3
  have h5:=GI.cg_trans (GI.cg_symm (GI.cg_mul (GI.cg_refl s P) hN)) (GI.cg_trans h3 hN)
  rwa [GI.mul_one] at h5
 ·intro h4
  refine (row_ord (m:=s + 1) hn hq h hs hd ?_).2
  have hf:=(GI.gfrob hs u v).2 h4
  show GI.cg s (GI.mul ⟨u,v⟩ (GI.pow ⟨u,v⟩ s)) GI.one
  exact GI.cg_trans (GI.cg_mul (GI.cg_refl s _) hf) hN
def lcmL:List Nat->Nat
 | []=>1
 | q :: r=>Nat.lcm q (lcmL r)
theorem lcmL_dvd {m:Nat}:∀ {l:List Nat},(∀ q ∈ l,q ∣ m)->lcmL l ∣ m
 | [],_=>Nat.one_dvd m
 | q :: _,h=>Nat.lcm_dvd (h q (List.mem_cons_self ..)) (lcmL_dvd fun x hx=>h x (List.mem_cons_of_mem _ hx))
def bigB (n:Nat) (l:List Nat):Bool:=Nat.beq (n % 2) 1 && Nat.blt 1 n && Nat.blt 1 (lcmL l) && Nat.blt n ((lcmL l - 1) * (lcmL l - 1))
theorem pock {n:Nat} (l:List Nat) (hb:bigB n l = true) (h:n % 2 = 1->1 < n->∀ s,Pr s->s ∣ n->∀ q ∈ l,q ∣ s - 1):Pr n:=by
 unfold bigB at hb
 simp only [Bool.and_eq_true,Nat.beq_eq,Nat.blt_eq] at hb
 obtain ⟨⟨⟨h2,h1⟩,hF⟩,hn⟩:=hb
 refine pr_of h1 fun s hs hd=>?_
 have hs1:=hs.1
 have hle:=Nat.le_of_dvd (by omega) (lcmL_dvd (h h2 h1 s hs hd))
 have:=Nat.mul_le_mul (show lcmL l - 1 <= s by omega) (show lcmL l - 1 <= s by omega)
 omega
theorem morr {n:Nat} (l:List Nat) (hb:bigB n l = true) (h:n % 2 = 1->1 < n->∀ s,Pr s->s ∣ n->∀ q ∈ l,(s % 4 = 1->q ∣ s - 1)/\(s % 4 = 3->q ∣ s + 1)):Pr n:=by
 unfold bigB at hb
 simp only [Bool.and_eq_true,Nat.beq_eq,Nat.blt_eq] at hb
 obtain ⟨⟨⟨h2,h1⟩,hF⟩,hn⟩:=hb
 refine pr_of h1 fun s hs hd=>?_
 have hs1:=hs.1
 have hle:lcmL l - 1 <= s:=by
  rcases hs.two hd h2 with h4 | h4
  ·have:=Nat.le_of_dvd (by omega) (lcmL_dvd fun q hq=>(h h2 h1 s hs hd q hq).1 h4)
   omega
  ·have:=Nat.le_of_dvd (by omega) (lcmL_dvd fun q hq=>(h h2 h1 s hs hd q hq).2 h4)
   omega
 have:=Nat.mul_le_mul hle hle
 omega
def triB (n:Nat):Nat->Bool
 | 0=>true
 | k + 1=>bif Nat.beq (n % (k + 2)) 0 then false else triB n k
theorem triB_ok {n:Nat}:∀ {k:Nat},triB n k = true->∀ d,2 <= d->d <= k + 1->n % d ≠ 0
 | 0,_,d,h1,h2=>by omega
 | k + 1,h,d,h1,h2=>by
  unfold triB at h
  cases hb:Nat.beq (n % (k + 2)) 0
  ·rw [hb,cond_false] at h
   by_cases e:d = k + 2
   ·rw [e];intro e';rw [<-Nat.beq_eq,hb] at e';cases e'
   ·exact triB_ok h d h1 (by omega)
  ·rw [hb,cond_true] at h;cases h
theorem trial {n:Nat} (k:Nat) (h:(Nat.blt 1 n && Nat.blt n ((k + 2) * (k + 2)) && triB n k) = true):Pr n:=by
 simp only [Bool.and_eq_true,Nat.blt_eq] at h
 obtain ⟨⟨h1,h2⟩,h3⟩:=h
 refine pr_of h1 fun s hs hd=>?_
 have hs1:=hs.1
 by_cases hsk:s <= k + 1
 ·exact absurd (Nat.mod_eq_zero_of_dvd hd) (triB_ok h3 s (by omega) hsk)
 ·have:=Nat.mul_le_mul (show k + 2 <= s by omega) (show k + 2 <= s by omega)
  omega
end Go.Rq
namespace Go.Rq
open Go
theorem pr0:Pr 110573:=trial 331 (by kernel_rfl)
theorem pr1:Pr 2653753:=by
 refine pock [110573] (by kernel_rfl) fun h2 h1 s hs hd q hq=>?_
 simp only [List.mem_cons,List.not_mem_nil,or_false] at hq
 subst hq
 ·exact row_p (k:=17) (u:=854698) (t:=2531333) h1 h2 pr0 (by kernel_rfl) hs hd
theorem pr15:Pr 597593:=trial 772 (by kernel_rfl)
theorem pr16:Pr 26647:=trial 162 (by kernel_rfl)
theorem pr17:Pr 73779548989605253:=by
 refine pock [597593,26647] (by kernel_rfl) fun h2 h1 s hs hd q hq=>?_
 simp only [List.mem_cons,List.not_mem_nil,or_false] at hq
 rcases hq with rfl | rfl
 ·exact row_p (k:=20) (u:=15261372537049322) (t:=68173055282261295) h1 h2 pr15 (by kernel_rfl) hs hd
 ·exact row_p (k:=15) (u:=57226719683905182) (t:=36802108169195659) h1 h2 pr16 (by kernel_rfl) hs hd
theorem pr18:Pr 156083864923250991785002799:=by
 refine pock [73779548989605253] (by kernel_rfl) fun h2 h1 s hs hd q hq=>?_
 simp only [List.mem_cons,List.not_mem_nil,or_false] at hq
 subst hq
 ·exact row_p (k:=57) (u:=115599829464088582696410051) (t:=124844899530365331206805700) h1 h2 pr17 (by kernel_rfl) hs hd
theorem pr19:Pr 14543:=trial 119 (by kernel_rfl)
theorem pr20:Pr 4362901:=by
 refine pock [14543] (by kernel_rfl) fun h2 h1 s hs hd q hq=>?_
 simp only [List.mem_cons,List.not_mem_nil,or_false] at hq
 subst hq
 ·exact row_p (k:=14) (u:=2350225) (t:=3155058) h1 h2 pr19 (by kernel_rfl) hs hd
theorem pr21:Pr 43629011:=by
 refine pock [4362901] (by kernel_rfl) fun h2 h1 s hs hd q hq=>?_
 simp only [List.mem_cons,List.not_mem_nil,or_false] at hq
 subst hq
 ·exact row_p (k:=23) (u:=1024) (t:=8214742) h1 h2 pr20 (by kernel_rfl) hs hd
theorem pr22:Pr 87258023:=by
 refine pock [43629011] (by kernel_rfl) fun h2 h1 s hs hd q hq=>?_
 simp only [List.mem_cons,List.not_mem_nil,or_false] at hq
 subst hq
 ·exact row_p (k:=26) (u:=4) (t:=9695336) h1 h2 pr21 (by kernel_rfl) hs hd
theorem pr23:Pr 174516047:=by
 refine pock [87258023] (by kernel_rfl) fun h2 h1 s hs hd q hq=>?_
 simp only [List.mem_cons,List.not_mem_nil,or_false] at hq
 subst hq
 ·exact row_p (k:=27) (u:=4) (t:=19390672) h1 h2 pr22 (by kernel_rfl) hs hd
theorem pr24:Pr 46072236409:=by
 refine pock [174516047] (by kernel_rfl) fun h2 h1 s hs hd q hq=>?_
 simp only [List.mem_cons,List.not_mem_nil,or_false] at hq
 subst hq
 ·exact row_p (k:=28) (u:=7621387813) (t:=33744688159) h1 h2 pr23 (by kernel_rfl) hs hd
theorem pr25:Pr 915869:=trial 956 (by kernel_rfl)
theorem pr26:Pr 11365934291:=by
 refine pock [915869] (by kernel_rfl) fun h2 h1 s hs hd q hq=>?_
 simp only [List.mem_cons,List.not_mem_nil,or_false] at hq
 subst hq
 ·exact row_p (k:=20) (u:=9964290366) (t:=2552703921) h1 h2 pr25 (by kernel_rfl) hs hd
theorem pr27:Pr 16253286036131:=by
 refine pock [11365934291] (by kernel_rfl) fun h2 h1 s hs hd q hq=>?_
 simp only [List.mem_cons,List.not_mem_nil,or_false] at hq
 subst hq
 ·exact row_p (k:=34) (u:=5194687395456) (t:=7986676649825) h1 h2 pr26 (by kernel_rfl) hs hd
theorem pr28:Pr 307202528959414010196955747273574637769335820764971303266458398669801375004184727427572867063:=by
 refine morr [156083864923250991785002799,46072236409,16253286036131] (by kernel_rfl) fun h2 h1 s hs hd q hq=>?_
 simp only [List.mem_cons,List.not_mem_nil,or_false] at hq
 rcases hq with rfl | rfl | rfl
 ·exact row_m (k:=88) (u:=284533188331670450599559813562649621612636685766427118446961277331686977444749608028565734413) (v:=143899997501999503499924603473387784879380665968700981587986861323721007018233406030319024085) (t:=263961610173074643512334520666667076154059701411169151621168832623478342677021642072110504767) h1 pr18 (by kernel_rfl) (by kernel_rfl) hs hd
 ·exact row_m (k:=36) (u:=178849773102153389778765108071561236754748357461711022044902314706950378098802454584841181827) (v:=148487190946588945029736634807864168232989787455781536400857407814839195839367751376879611109) (t:=281082323720725506404661016030753170361552213859806326759736578068591841163932858626056371741) h1 pr24 (by kernel_rfl) (by kernel_rfl) hs hd
 ·exact row_m (k:=44) (u:=93254127763411557939324456773691262884123920146095204746477972588369835382385029015072454195) (v:=128235565482707231171401749281996455088748478161738036983036643917099646789267762343546613900) (t:=232241080552751787871792791193002398125699963483135957149912324268265853973978820469013805396) h1 pr27 (by kernel_rfl) (by kernel_rfl) hs hd
theorem pr29:Pr 845817742016413227687614079825846186930871263723374447449716427752331287085975880059739566595311847852471317109:=by
 refine pock [307202528959414010196955747273574637769335820764971303266458398669801375004184727427572867063] (by kernel_rfl) fun h2 h1 s hs hd q hq=>?_
 simp only [List.mem_cons,List.not_mem_nil,or_false] at hq
 subst hq
 ·exact row_p (k:=308) (u:=81187775623023919112919733391471430114509226083388684504755857439343848484154488959623945095297981823968039695) (t:=532332458101301275505511731943247530129837256366664136881696355035850008364731273543126876511034358404920518420) h1 h2 pr28 (by kernel_rfl) hs hd
theorem pr30:Pr 4002409555221667393417789825735904156556882819939007885332058136124031650490837864442687629129015664037894272559787:=by
 refine morr [845817742016413227687614079825846186930871263723374447449716427752331287085975880059739566595311847852471317109] (by kernel_rfl) fun h2 h1 s hs hd q hq=>?_
 simp only [List.mem_cons,List.not_mem_nil,or_false] at hq
 subst hq
 ·exact row_m (k:=369) (u:=1588245469955867453221167050554654839771414121579679824916963608285392547594593910888830993357567425149309403817626) (v:=1235324612909888021685800130558716099355515684439840888916641554913866144767399377883741991451359506303539880195943) (t:=3407498155760335788028185507862619618592417260020186979764066134515508538569650611251186940344440273035076553594098) h1 pr29 (by kernel_rfl) (by kernel_rfl) hs hd
end Go.Rq
namespace Go.Rq
open Go
theorem subM_lt {N a b:Nat} (h:0 < N):subM N a b < N:=Nat.mod_lt _ h
theorem subM_add {N a b:Nat} (h:0 < N):(subM N a b + b) % N = a % N:=by
 unfold subM
 rw [Nat.add_mod,Nat.mod_mod,<-Nat.add_mod]
 have hb:=Nat.mod_lt b h
 rw [Nat.add_mod,Nat.add_mod (a % N),Nat.mod_mod]
 have e:(a % N + (N - b % N) % N) % N = (a % N + (N - b % N)) % N:=by rw [Nat.add_mod,Nat.mod_mod,Nat.mod_mod,<-Nat.mod_mod a,<-Nat.add_mod];rw [Nat.mod_mod]
 rw [e,<-Nat.mod_mod b,<-Nat.add_mod,Nat.mod_mod,show a % N + (N - b % N) + b % N = a % N + N by omega,Nat.add_mod_right,Nat.mod_mod]
end Go.Rq
namespace Go.Rq
open Go
theorem pr_mul {N a b:Nat} (hp:Pr N) (h:N ∣ a * b):N ∣ a∨N ∣ b:=by
 by_cases ha:N ∣ a
 ·exact .inl ha
 ·exact .inr ((hp.cop' ha).dvd_of_dvd_mul_left h)
end Go.Rq
namespace Go.Rq
open Go
def pN:Nat:=4002409555221667393417789825735904156556882819939007885332058136124031650490837864442687629129015664037894272559787
instance:NeZero pN:=⟨by decide⟩
theorem pN_pr:Pr pN:=pr30
theorem pN_pos:0 < pN:=by decide
theorem pN_odd:pN % 2 = 1:=by decide
theorem pN_small:4 * pN <= R:=by decide
theorem pN_lt:pN < R:=by decide
abbrev Fp:Type:=Fin pN
def ofN (n:Nat):Fp:=Fin.ofNat pN n
theorem ofN_val (n:Nat):(ofN n).val = n % pN:=rfl
theorem ofN_self (z:Fp):ofN z.val = z:=Fin.ext (Nat.mod_eq_of_lt z.isLt)
theorem ofN_add (a b:Nat):ofN (a + b) = ofN a + ofN b:=Fin.ext (by rw [Fin.val_add];simp only [ofN_val];rw [<-Nat.add_mod])
theorem ofN_mul (a b:Nat):ofN (a * b) = ofN a * ofN b:=Fin.ext (by rw [Fin.val_mul];simp only [ofN_val];rw [<-Nat.mul_mod])
theorem ofN_mod (a:Nat):ofN (a % pN) = ofN a:=Fin.ext (by simp only [ofN_val];rw [Nat.mod_mod])
theorem ofN_inj {a b:Nat} (ha:a < pN) (hb:b < pN) (h:ofN a = ofN b):a = b:=by
 have:=congrArg Fin.val h
 simp only [ofN_val] at this
 rwa [Nat.mod_eq_of_lt ha,Nat.mod_eq_of_lt hb] at this
theorem ofN_p:ofN pN = 0:=Fin.ext (Nat.mod_self pN)
theorem ofN_zero:ofN 0 = 0:=rfl
theorem ofN_one:ofN 1 = 1:=by
 refine Fin.ext ?_
 show 1 % pN = 1 % pN
 rfl
def rr:Fp:=ofN R
def ri:Fp:=ofN (rinv pN)
theorem rr_ri:rr * ri = 1:=by
 unfold rr ri
 rw [<-ofN_mul,<-ofN_mod,rinv_spec pN_odd,ofN_mod,ofN_one]
def enc (z:Fp):Nat:=(z * rr).val
def dec (n:Nat):Fp:=ofN n * ri
theorem enc_lt (z:Fp):enc z < pN:=(z * rr).isLt
theorem ofN_enc (z:Fp):ofN (enc z) = z * rr:=ofN_self _
theorem dec_enc (z:Fp):dec (enc z) = z:=by
 unfold dec
 have:=rr_ri
 rw [ofN_enc]
 grind
theorem enc_of {n:Nat} {z:Fp} (h:n < pN) (e:ofN n = z * rr):n = enc z:=ofN_inj h (enc_lt z) (by rw [ofN_enc,e])
theorem ofN_dec (n:Nat):dec n * rr = ofN n:=by
 unfold dec
 have:=rr_ri
 grind
theorem enc_dec {n:Nat} (h:n < pN):enc (dec n) = n:=(enc_of h (ofN_dec n).symm).symm
theorem mont_enc (a b:Nat):montV pN a b = enc (dec a * dec b):=by
 refine enc_of (montV_lt pN_pos) ?_
 unfold montV
 rw [ofN_mod,ofN_mul,ofN_mul]
 have h1:=ofN_dec a
 have h2:=ofN_dec b
 have h3:=rr_ri
 show ofN a * ofN b * ri = _
 rw [<-h1,<-h2]
 grind
theorem add_enc (a b:Nat):(a + b) % pN = enc (dec a + dec b):=by
 refine enc_of (Nat.mod_lt _ pN_pos) ?_
 rw [ofN_mod,ofN_add,<-ofN_dec a,<-ofN_dec b]
 grind
theorem sub_enc (a b:Nat):subM pN a b = enc (dec a - dec b):=by
 refine enc_of (subM_lt pN_pos) ?_
 have h:=subM_add (a:=a) (b:=b) pN_pos
 have h2:=congrArg ofN h
 rw [ofN_mod,ofN_mod,ofN_add] at h2
 have h3:=ofN_dec a
 have h4:=ofN_dec b
 rw [<-h3,<-h4] at h2
 grind
theorem dec_zero:dec 0 = 0:=by unfold dec;rw [ofN_zero];grind
theorem from_val (a:Nat):montV pN a 1 = (dec a).val:=by
 refine ofN_inj (montV_lt pN_pos) (dec a).isLt ?_
 unfold montV
 rw [ofN_self,ofN_mod,ofN_mul,ofN_mul,ofN_one]
 show ofN a * 1 * ri = ofN a * ri
 grind
theorem to_enc (n:Nat):montV pN (R * R % pN) n = enc (ofN n):=by
 refine enc_of (montV_lt pN_pos) ?_
 unfold montV
 rw [ofN_mod,ofN_mul,ofN_mul,ofN_mod,ofN_mul]
 have h3:=rr_ri
 show rr * rr * ofN n * ri = _
 grind
end Go.Rq
namespace Go.Proofs.Ytnjocbcjejpklaa
open Go.Rq Go
set_option maxRecDepth 100000
abbrev nm (a:Nat->Nat):AV:=.v1 (.agg [.ws .u64 6 a])
abbrev endN (u v:AV):Prop:=∃ v',some u = some v'/\∀ ρ,v'.val ρ = v.val ρ
theorem nm_val {f g:Nat->Nat} (h:nv f = nv g) (ρ:Ren):(nm f).val ρ = (nm g).val ρ:=by
 have h1:=numA_val (f:=f) (n:=nv f) (by rw [Nat.mod_eq_of_lt (nv_lt f)]) ρ
 have h2:=numA_val (f:=g) (n:=nv g) (by rw [Nat.mod_eq_of_lt (nv_lt g)]) ρ
 rw [h1,h2,h]
theorem endN_nm {f g:Nat->Nat} (e:nv f = nv g):endN (nm f) (nm g):=⟨_,rfl,nm_val e⟩
abbrev nbE (f:Nat->Nat):Option Blk:=some ⟨45,[.ws .u64 6 f],0,0⟩
def eF (z:Fp):Nat->Nat:=wd (enc z)
def dF (a:Nat->Nat):Fp:=dec (nv a)
theorem nv_eF (z:Fp):nv (eF z) = enc z:=by
 unfold eF
 rw [nv_wd,Nat.mod_eq_of_lt (Nat.lt_trans (enc_lt z) pN_lt)]
theorem dF_eF (z:Fp):dF (eF z) = z:=by unfold dF;rw [nv_eF,dec_enc]
theorem lt_eF (z:Fp):nv (eF z) < pN:=by rw [nv_eF];exact enc_lt z
theorem eF_dF {a:Nat->Nat} (h:nv a < pN):nv (eF (dF a)) = nv a:=by
 rw [nv_eF];exact enc_dec h
def cK (f:Nat->Nat):List AV->Option (List Prop × AV)
 | []=>some ([],nm f)
 | _=>none
theorem cK_ok {f:Nat->Nat} {n:FuncId} {fn:Func} (hf:Try.prog.funcs[n]? = some fn) (hb:fn.body = some (bodyOf fn)) (hn:(fn.name == "runtime.NumGoroutine") = false)
  (h:ev Try.prog tt (ctxL []) 60 (bodyOf fn) (fun e s' _=>FEnd tt fn (nm f) e s') ⟨frame0 [] fn.ntmps,[]⟩ []):(CallC.pure (cK f)).Ok Try.prog n:=by
 intro args pre v e _
 unfold cK at e
 split at e
 ·cases e
  exact pure_fn mixed tt_ok G0_ok hf hb hn (by rfl) (by rfl) 60 [] h
 ·cases e
def primeF:Nat->Nat:=upd (upd (upd (upd (upd (upd (fun _=>0) 0 0xb9feffffffffaaab) 1 0x1eabfffeb153ffff) 2 0x6730d2a0f6b0f624) 3 0x64774b84f38512bf) 4 0x4b1ba7b6434bacd7) 5 0x1a0111ea397fe69a
def oneF:Nat->Nat:=upd (upd (upd (upd (upd (upd (fun _=>0) 0 0x760900000002fffd) 1 0xebf4000bc40c0002) 2 0x5f48985753c758ba) 3 0x77ce585370525745) 4 0x5c071a97a256ec6d) 5 0x15f65ec3fa80e493
def wideF:Nat->Nat:=upd (upd (upd (upd (upd (upd (fun _=>0) 0 0xf4df1f341c341746) 1 0x0a76e6a609d104f1) 2 0x8de5476c4c95b6d5) 3 0x67eb88a9939d83c0) 4 0x9a793e85b519952d) 5 0x11988fe592cae3aa
theorem nv_prime:nv primeF = pN:=by kernel_rfl
theorem nv_one':nv oneF = R % pN:=by kernel_rfl
theorem nv_wide:nv wideF = R * R % pN:=by kernel_rfl
theorem okPrime:(CallC.pure (cK primeF)).Ok Try.prog 83 :=
 cK_ok Try.func83 (by kernel_rfl) (by kernel_rfl) (same (p:=some (nm primeF) = some (nm primeF)) rfl (by kernel_rfl))
theorem okOne0:(CallC.pure (cK oneF)).Ok Try.prog 61 :=
 cK_ok Try.func61 (by kernel_rfl) (by kernel_rfl) (same (p:=some (nm oneF) = some (nm oneF)) rfl (by kernel_rfl))
theorem okWide0:(CallC.pure (cK wideF)).Ok Try.prog 72 :=
 cK_ok Try.func72 (by kernel_rfl) (by kernel_rfl) (same (p:=some (nm wideF) = some (nm wideF)) rfl (by kernel_rfl))
theorem one_enc:nv oneF = enc 1:=by
 rw [nv_one']
 refine enc_of (Nat.mod_lt _ pN_pos) ?_
 rw [ofN_mod]
 show rr = 1 * rr
 grind
def el1 (F:Fp->Fp):List AV->Option (List Prop × AV)
 | [.v1 (.agg [.ws .u64 6 a])]=>some ([nv a < pN],nm (eF (F (dF a))))
 | _=>none
def el2 (F:Fp->Fp->Fp):List AV->Option (List Prop × AV)
 | [.v1 (.agg [.ws .u64 6 a]),.v1 (.agg [.ws .u64 6 b])]=>some ([nv a < pN,nv b < pN],nm (eF (F (dF a) (dF b))))
 | _=>none
theorem el1_ok {F:Fp->Fp} {f:FuncId} {fn:Func} (hf:Try.prog.funcs[f]? = some fn) (hb:fn.body = some (bodyOf fn)) (hn:(fn.name == "runtime.NumGoroutine") = false)
  (h:∀ a:Nat->Nat,nv a < pN->AWqS Try.prog (fun _=>False) (flatC (bodyOf fn)) (FEnd' tt fn (nm (eF (F (dF a))))) ⟨frame0 [nm a] fn.ntmps,[]⟩):(CallC.pure (el1 F)).Ok Try.prog f:=by
 intro args pre v e hp
 unfold el1 at e
 split at e
 ·rename_i a
  cases e
  exact pure_walk' tt_ok hf hb hn (by rfl) (by rfl) (h a (hp _ (List.mem_cons_self ..)))
 ·cases e
theorem el2_ok {F:Fp->Fp->Fp} {f:FuncId} {fn:Func} (hf:Try.prog.funcs[f]? = some fn) (hb:fn.body = some (bodyOf fn)) (hn:(fn.name == "runtime.NumGoroutine") = false)
  (h:∀ a b:Nat->Nat,nv a < pN->nv b < pN->AWqS Try.prog (fun _=>False) (flatC (bodyOf fn)) (FEnd' tt fn (nm (eF (F (dF a) (dF b))))) ⟨frame0 [nm a,nm b] fn.ntmps,[]⟩):(CallC.pure (el2 F)).Ok Try.prog f:=by
 intro args pre v e hp
 unfold el2 at e
 split at e
 ·rename_i a b
  cases e
  exact pure_walk' tt_ok hf hb hn (by rfl) (by rfl) (h a b (hp _ (by simp)) (hp _ (by simp)))
 ·cases e
def eAdd (x y:Fp):Fp:=x + y
def eSub (x y:Fp):Fp:=x - y
def eNeg (x:Fp):Fp:=0 - x
def eMul (x y:Fp):Fp:=x * y
def cLess:List AV->Option (List Prop × AV)
 | [.v1 (.agg [.ws .u64 6 a])]=>some ([],numA (lessV pN (nv a)))
 | _=>none
def GLe:Ctx:=ctxL [(83,.pure (cK primeF)),(82,.pure cSub64),(80,.pure cAdd64)]
theorem GLe_ok:CtxOk Try.prog GLe:=ctxL_cons okPrime <| ctxL_cons okSub64 <| ctxL_cons okAdd64 ctxL_nil
theorem okLess:(CallC.pure cLess).Ok Try.prog 81:=by
 intro args pre v e _
 unfold cLess at e
 split at e
 ·rename_i a
  cases e
  refine pure_walk' tt_ok Try.func81 (by kernel_rfl) (by kernel_rfl) (by rfl) (by rfl) ?_
  have ha:=nv_lt a
  have hd:=sub_diff a primeF
  rw [nv_prime] at hd
  cases hb:Nat.blt (nv a) pN
  ·have hb':¬ nv a < pN:=by rw [<-Nat.blt_eq,hb];simp
   rw [hb] at hd
   have hl:lessV pN (nv a) = (nv a + R - pN) % R:=by
    unfold lessV
    have:Nat.ble pN (nv a) = true:=by rw [Nat.ble_eq];omega
    rw [this,cond_true]
    exact less_gen (by omega) ha
   refine evS_q mixed tt_ok GLe_ok 100 [⟨9,1,.lit (.bo false)⟩] ?_
   refine same (p:=subC a primeF 0 % W <= 1/\subC a primeF 1 % W <= 1/\subC a primeF 2 % W <= 1/\subC a primeF 3 % W <= 1/\subC a primeF 4 % W <= 1/\subC a primeF 5 % W <= 1 /\
    Nat.beq (subC a primeF 6 % W) (1 % W) = false/\endN (nm (subO a primeF 6)) (numA (lessV pN (nv a)))) ?_ (by kernel_rfl)
   exact ⟨subC_le' _ _ 0,subC_le' _ _ 1,subC_le' _ _ 2,subC_le' _ _ 3,subC_le' _ _ 4,subC_le' _ _ 5,hd.2,_,rfl,fun ρ=>numA_val (by rw [hl,hd.1,Nat.mod_mod]) ρ⟩
  ·have hb':nv a < pN:=by rw [<-Nat.blt_eq,hb]
   rw [hb] at hd
   have hl:lessV pN (nv a) = nv a:=by
    unfold lessV
    have:Nat.ble pN (nv a) = false:=by rw [<-Bool.not_eq_true,Nat.ble_eq];omega
    rw [this,cond_false]
   refine evS_q mixed tt_ok GLe_ok 100 [⟨9,1,.lit (.bo true)⟩] ?_
   refine same (p:=subC a primeF 0 % W <= 1/\subC a primeF 1 % W <= 1/\subC a primeF 2 % W <= 1/\subC a primeF 3 % W <= 1/\subC a primeF 4 % W <= 1/\subC a primeF 5 % W <= 1 /\
    Nat.beq (subC a primeF 6 % W) (1 % W) = true/\endN (nm a) (numA (lessV pN (nv a)))) ?_ (by kernel_rfl)
   exact ⟨subC_le' _ _ 0,subC_le' _ _ 1,subC_le' _ _ 2,subC_le' _ _ 3,subC_le' _ _ 4,subC_le' _ _ 5,hd.2,_,rfl,fun ρ=>numA_val (by rw [hl,Nat.mod_eq_of_lt ha]) ρ⟩
 ·cases e
def GAe:Ctx:=ctxL [(81,.pure cLess),(80,.pure cAdd64)]
theorem GAe_ok:CtxOk Try.prog GAe:=ctxL_cons okLess <| ctxL_cons okAdd64 ctxL_nil
theorem okEAdd:(CallC.pure (el2 eAdd)).Ok Try.prog 57:=by
 refine el2_ok Try.func57 (by kernel_rfl) (by kernel_rfl) fun a b ha hb=>evS_q mixed tt_ok GAe_ok 100 [] ?_
 refine same (p:=addC a b 0 % W <= 1/\addC a b 1 % W <= 1/\addC a b 2 % W <= 1/\addC a b 3 % W <= 1/\addC a b 4 % W <= 1/\addC a b 5 % W <= 1/\endN (numA (lessV pN (nv (addO a b 6)))) (nm (eF (eAdd (dF a) (dF b))))) ?_ (by kernel_rfl)
 refine ⟨addC_le' a b 0,addC_le' a b 1,addC_le' a b 2,addC_le' a b 3,addC_le' a b 4,addC_le' a b 5,endN_nm ?_⟩
 have hs:=pN_small
 have e:lessV pN (nv (addO a b 6)) = enc (eAdd (dF a) (dF b)):=by
  rw [(add_sum a b).1,Nat.mod_eq_of_lt (show nv a + nv b < R by omega),lessV_mod (by omega),add_enc]
  rfl
 rw [e,nv_eF,nv_wd,Nat.mod_eq_of_lt (Nat.lt_trans (enc_lt _) pN_lt)]
def iadd (o b:Nat->Nat):Nat->(Nat->Nat)
 | 0=>o
 | i + 1=>upd (iadd o b i) i (o i + b i + addC o b i)
theorem iadd_eq (o b:Nat->Nat):∀ n j,j < n->iadd o b n j = addO o b n j
 | n + 1,j,h=>by
  show (bif Nat.beq j n then _ else iadd o b n j) = (bif Nat.beq j n then _ else addO o b n j)
  cases hb:Nat.beq j n
  ·have:j ≠ n:=fun e=>by rw [<-Nat.beq_eq,hb] at e;cases e
   rw [cond_false,cond_false,iadd_eq o b n j (by omega)]
  ·rfl
theorem okESub:(CallC.pure (el2 eSub)).Ok Try.prog 58:=by
 refine el2_ok Try.func58 (by kernel_rfl) (by kernel_rfl) fun a b ha hb=>?_
 have hs:=pN_small
 have hd:=sub_diff a b
 have hsub:=sub_eq (a:=nv a) (b:=nv b) pN_pos (show 2 * pN <= R by omega)
 rw [Nat.mod_eq_of_lt ha,Nat.mod_eq_of_lt hb] at hsub
 have key:∀ f:Nat->Nat,nv f = subM pN (nv a) (nv b)->endN (nm f) (nm (eF (eSub (dF a) (dF b)))):=fun f e=>endN_nm (by rw [e,nv_eF,sub_enc];rfl)
 cases hc:Nat.blt (nv a) (nv b)
 ·rw [hc] at hd hsub
  refine evS_q mixed tt_ok GLe_ok 100 [⟨8,1,.lit (.bo false)⟩] ?_
  refine same (p:=subC a b 0 % W <= 1/\subC a b 1 % W <= 1/\subC a b 2 % W <= 1/\subC a b 3 % W <= 1/\subC a b 4 % W <= 1/\subC a b 5 % W <= 1 /\
   Nat.beq (subC a b 6 % W) (1 % W) = false/\endN (nm (subO a b 6)) (nm (eF (eSub (dF a) (dF b))))) ?_ (by kernel_rfl)
  refine ⟨subC_le' _ _ 0,subC_le' _ _ 1,subC_le' _ _ 2,subC_le' _ _ 3,subC_le' _ _ 4,subC_le' _ _ 5,hd.2,key _ ?_⟩
  rw [hd.1,<-hsub,cond_false]
 ·rw [hc] at hd hsub
  obtain ⟨K,hK⟩:∃ K:Nat->Nat,K = addC (subO a b 6) primeF:=⟨_,rfl⟩
  obtain ⟨S,hS⟩:∃ S:Nat->Nat,S = fun i=>subO a b 6 i + primeF i + K i:=⟨_,rfl⟩
  have kl:∀ i,addC (subO a b 6) primeF i % W <= 1:=addC_le' _ _
  have fin:nv (upd (upd (upd (upd (upd (upd (subO a b 6) 0 (S 0)) 1 (S 1)) 2 (S 2)) 3 (S 3)) 4 (S 4)) 5 (S 5)) = subM pN (nv a) (nv b):=by
   rw [nv_congr (g:=addO (subO a b 6) primeF 6) fun j hj=>by
    rw [<-iadd_eq _ _ 6 j hj,hS,hK];rfl]
   rw [(add_sum _ _).1,nv_prime,hd.1,<-hsub,cond_true]
  refine evS_q mixed tt_ok GLe_ok 100 [⟨8,1,.lit (.bo true)⟩,⟨13,10,.lit (.w .u64 (S 0))⟩,⟨13,11,.lit (.w .u64 (K 1))⟩,⟨13,10,.lit (.w .u64 (S 1))⟩,⟨13,11,.lit (.w .u64 (K 2))⟩,⟨13,10,.lit (.w .u64 (S 2))⟩,⟨13,11,.lit (.w .u64 (K 3))⟩,⟨13,10,.lit (.w .u64 (S 3))⟩,⟨13,11,.lit (.w .u64 (K 4))⟩,⟨13,10,.lit (.w .u64 (S 4))⟩,⟨13,11,.lit (.w .u64 (K 5))⟩,⟨13,10,.lit (.w .u64 (S 5))⟩,⟨13,11,.lit (.w .u64 (K 6))⟩] ?_
  refine same (p:=subC a b 0 % W <= 1/\subC a b 1 % W <= 1/\subC a b 2 % W <= 1/\subC a b 3 % W <= 1/\subC a b 4 % W <= 1/\subC a b 5 % W <= 1 /\
   Nat.beq (subC a b 6 % W) (1 % W) = true/\0 % W <= 1/\subO a b 6 0 + primeF 0 + 0 = S 0/\(subO a b 6 0 % W + primeF 0 % W + 0 % W) / W = K 1/\(K 1) % W <= 1/\subO a b 6 1 + primeF 1 + (K 1) = S 1/\(subO a b 6 1 % W + primeF 1 % W + (K 1) % W) / W = K 2/\(K 2) % W <= 1/\subO a b 6 2 + primeF 2 + (K 2) = S 2/\(subO a b 6 2 % W + primeF 2 % W + (K 2) % W) / W = K 3/\(K 3) % W <= 1/\subO a b 6 3 + primeF 3 + (K 3) = S 3/\(subO a b 6 3 % W + primeF 3 % W + (K 3) % W) / W = K 4/\(K 4) % W <= 1/\subO a b 6 4 + primeF 4 + (K 4) = S 4/\(subO a b 6 4 % W + primeF 4 % W + (K 4) % W) / W = K 5/\(K 5) % W <= 1/\subO a b 6 5 + primeF 5 + (K 5) = S 5/\(subO a b 6 5 % W + primeF 5 % W + (K 5) % W) / W = K 6/\endN (nm (upd (upd (upd (upd (upd (upd (subO a b 6) 0 (S 0)) 1 (S 1)) 2 (S 2)) 3 (S 3)) 4 (S 4)) 5 (S 5))) (nm (eF (eSub (dF a) (dF b))))) ?_ (by kernel_rfl)
  have endf:=key _ fin
  subst hS hK
  exact ⟨subC_le' _ _ 0,subC_le' _ _ 1,subC_le' _ _ 2,subC_le' _ _ 3,subC_le' _ _ 4,subC_le' _ _ 5,hd.2,kl 0,rfl,rfl,kl 1,rfl,rfl,kl 2,rfl,rfl,kl 3,rfl,rfl,kl 4,rfl,rfl,kl 5,rfl,rfl,endf⟩
def GNe:Ctx:=ctxL [(58,.pure (el2 eSub))]
theorem GNe_ok:CtxOk Try.prog GNe:=ctxL_cons okESub ctxL_nil
theorem okENeg:(CallC.pure (el1 eNeg)).Ok Try.prog 77:=by
 refine el1_ok Try.func77 (by kernel_rfl) (by kernel_rfl) fun a ha=>evS_q mixed tt_ok GNe_ok 100 [] ?_
 refine same (p:=nv (fun _=>0) < pN/\nv a < pN/\endN (nm (eF (eSub (dF (fun _=>0)) (dF a)))) (nm (eF (eNeg (dF a))))) ?_ (by kernel_rfl)
 refine ⟨by rw [zero_nv];exact pN_pos,ha,endN_nm ?_⟩
 unfold eSub eNeg
 rw [show dF (fun _=>0) = 0 from by unfold dF;rw [zero_nv,dec_zero]]
end Go.Proofs.Ytnjocbcjejpklaa
namespace Go.Rq
open Go
theorem sB_lt (f:Nat->Nat):∀ i,sB W f i < W ^ i
 | 0=>by rw [Nat.pow_zero];exact Nat.one_pos
 | i + 1=>by
  have ih:=sB_lt f i
  have h:f i % W < W:=Nat.mod_lt _ (by decide)
  show sB W f i + W ^ i * (f i % W) < W ^ (i + 1)
  rw [Nat.pow_succ]
  have:=Nat.mul_le_mul_left (W ^ i) (show f i % W + 1 <= W from h)
  rw [Nat.mul_add,Nat.mul_one] at this
  omega
theorem round_bound {w T A Q B N x i:Nat} (h:T * w ^ i = A * B + Q * N) (hQ:Q < w ^ i) (hA:A < w ^ i) (hx:x < w) (hB:B < N):T + x * B < (w + 2) * N:=by
 have h1:T < 2 * N:=by
  refine Nat.lt_of_mul_lt_mul_right (a:=w ^ i) ?_
  rw [h]
  have e1:A * B <= w ^ i * N:=Nat.mul_le_mul (Nat.le_of_lt hA) (Nat.le_of_lt hB)
  have e2:Q * N < w ^ i * N:=Nat.mul_lt_mul_of_pos_right hQ (by omega)
  rw [show 2 * N * w ^ i = w ^ i * N + w ^ i * N by rw [Nat.mul_assoc,Nat.two_mul,Nat.mul_comm]]
  omega
 have h2:x * B <= w * N:=Nat.mul_le_mul (Nat.le_of_lt hx) (Nat.le_of_lt hB)
 rw [Nat.add_mul]
 omega
theorem top_gen {l0 l1 l2 l3 l4 l5 s6 s7 z w:Nat} (h:l0 + w * (l1 + w * (l2 + w * (l3 + w * (l4 + w * (l5 + w * (s6 + w * s7)))))) = z) (hz:z < w ^ 7):s7 = 0:=by
 refine Classical.byContradiction fun hc=>?_
 have h1:1 <= s7:=by omega
 have e:w ^ 7 = w * (w * (w * (w * (w * (w * (w * 1)))))):=by simp [Nat.pow_succ,Nat.mul_assoc]
 have k6:w * 1 <= s6 + w * s7:=Nat.le_trans (Nat.mul_le_mul_left w h1) (by omega)
 have k5:w * (w * 1) <= l5 + w * (s6 + w * s7):=Nat.le_trans (Nat.mul_le_mul_left w k6) (by omega)
 have k4:=Nat.mul_le_mul_left w k5
 have k3:=Nat.mul_le_mul_left w (Nat.le_trans k4 (Nat.le_add_left _ l4))
 have k2:=Nat.mul_le_mul_left w (Nat.le_trans k3 (Nat.le_add_left _ l3))
 have k1:=Nat.mul_le_mul_left w (Nat.le_trans k2 (Nat.le_add_left _ l2))
 have k0:=Nat.mul_le_mul_left w (Nat.le_trans k1 (Nat.le_add_left _ l1))
 have:=Nat.le_trans k0 (Nat.le_add_left _ l0)
 rw [h,<-e] at this
 omega
theorem row_top {x:Nat} {b t C L:Nat->Nat} {S7:Nat} (hC:C = crow x b t) (hL:L = fun k=>mLo x (b k) (t k) (C k)) (hS7:S7 = (t 6 % W + C 6 % W + 0 % W) / W)
  (hb:sB W t 7 + x % W * nv b < W ^ 7):S7 = 0:=by
 have cs:∀ k,C (k + 1) = mHi x (b k) (t k) (C k):=fun k=>by rw [hC];rfl
 have ls:∀ k,L k = mLo x (b k) (t k) (C k):=fun k=>by rw [hL]
 have c0:C 0 = 0:=by rw [hC];rfl
 have b0:C 0 < W:=by rw [c0];decide
 have s0:=m_step (x:=x) (y:=b 0) (p:=t 0) b0
 rw [<-cs,<-ls] at s0
 have s1:=m_step (x:=x) (y:=b 1) (p:=t 1) s0.2
 rw [<-cs,<-ls] at s1
 have s2:=m_step (x:=x) (y:=b 2) (p:=t 2) s1.2
 rw [<-cs,<-ls] at s2
 have s3:=m_step (x:=x) (y:=b 3) (p:=t 3) s2.2
 rw [<-cs,<-ls] at s3
 have s4:=m_step (x:=x) (y:=b 4) (p:=t 4) s3.2
 rw [<-cs,<-ls] at s4
 have s5:=m_step (x:=x) (y:=b 5) (p:=t 5) s4.2
 rw [<-cs,<-ls] at s5
 have s6:=top_step (x:=t 6) s5.2
 rw [<-hS7] at s6
 rw [c0] at s0
 rw [sB7_eq t] at hb
 have hw:=mont_words (x:=x % W) s0.1 s1.1 s2.1 s3.1 s4.1 s5.1 s6.1
 refine top_gen hw ?_
 unfold nv at hb
 exact hb
end Go.Rq
namespace Go.Proofs.Ytnjocbcjejpklaa
open Go.Rq Go
set_option maxRecDepth 100000
def lowN:Nat:=9940570264628428797
def cEMul:List AV->Option (List Prop × AV)
 | [.v1 (.agg [.ws .u64 6 a]),.v1 (.agg [.ws .u64 6 b])]=>some ([nv a < pN],nm (eF (eMul (dF a) (dF b))))
 | _=>none
def GMu:Ctx:=ctxL [(84,.pure cMul64),(80,.pure cAdd64),(81,.pure cLess),(83,.pure (cK primeF))]
theorem GMu_ok:CtxOk Try.prog GMu:=ctxL_cons okMul64 <| ctxL_cons okAdd64 <| ctxL_cons okLess <| ctxL_cons okPrime ctxL_nil
def VMu (b:Nat->Nat) (i:Nat):List AV:=[pt 0 0,pt 2 0,pt 4 0,pt 5 0,nm b,iv (Int.ofNat i)]
def HMu (a b t:Nat->Nat):Heap:=[nbE a,nbE b,nbE (fun _=>0),none,nbE primeF,some ⟨118,[.ws .u64 7 t],0,0⟩]
def InvMu (a b:Nat->Nat) (x:Nat × (Nat->Nat)):Prop:=x.1 <= 6/\∃ Q,sB W x.2 7 * W ^ x.1 = sB W b x.1 * nv a + Q * nv primeF/\Q < W ^ x.1
theorem mu_upd {t L Mm:Nat->Nat} {S6 cc:Nat} (h:Mm 6 = cc):∀ {j:Nat},j < 7->(upd (upd (upd (upd (upd (upd (upd (upd (upd (upd (upd (upd (upd (upd t 0 (L 0)) 1 (L 1)) 2 (L 2)) 3 (L 3)) 4 (L 4)) 5 (L 5)) 6 S6) 0 (Mm 0)) 1 (Mm 1)) 2 (Mm 2)) 3 (Mm 3)) 4 (Mm 4)) 5 (Mm 5)) 6 cc) j = Mm j
 | 0,_=>rfl
 | 1,_=>rfl
 | 2,_=>rfl
 | 3,_=>rfl
 | 4,_=>rfl
 | 5,_=>rfl
 | 6,_=>h.symm
 | j + 7,h=>by omega
theorem okEMul:(CallC.pure cEMul).Ok Try.prog 59:=by
 intro args pre v e hp
 unfold cEMul at e
 split at e
 ·rename_i a b
  cases e
  have ha:nv a < pN:=hp _ (List.mem_cons_self ..)
  have ha':nv a < nv primeF:=by rw [nv_prime];exact ha
  have hs:=pN_small
  have low:(primeF 0 % W * (lowN % W) + 1) % W = 0:=by decide
  refine pure_walk' tt_ok Try.func59 (by kernel_rfl) (by kernel_rfl) (by rfl) (by rfl) ?_
  refine loopF mixed tt_ok GMu_ok (by kernel_rfl) (ι:={x // InvMu a b x}) [2,4,5,6,21,22] 138 6 (fun x=>VMu b x.1.1) (fun x=>HMu a b x.1.2) (fun x=>6 - x.1.1) (fun x=>x.1.1 = 6)
   (fun _=>rfl) (fun _=>by kernel_rfl) (fun _ _ h=>h.elim) 100 [] ?_ ?_ ?_
  ·refine same (p:=true = true/\∃ j:{x // InvMu a b x},VMu b 0 = VMu b j.1.1/\HMu a b (fun _=>0) = HMu a b j.1.2) ?_ (by kernel_rfl)
   exact ⟨rfl,⟨(0,fun _=>0),by simp,0,by simp [sB],by simp⟩,rfl,rfl⟩
  ·intro ⟨⟨i,t⟩,hi,Q,hT,hQ⟩ junk
   simp only at hi hT hQ
   rcases (show i = 0∨i = 1∨i = 2∨i = 3∨i = 4∨i = 5∨i = 6 by omega) with rfl | rfl | rfl | rfl | rfl | rfl | rfl
   ·obtain ⟨C,hC⟩:∃ C:Nat->Nat,C = crow (b 0) a t:=⟨_,rfl⟩
    obtain ⟨L,hL⟩:∃ L:Nat->Nat,L = fun k=>mLo (b 0) (a k) (t k) (C k):=⟨_,rfl⟩
    obtain ⟨S6,hS6⟩:∃ x,x = t 6 + C 6:=⟨_,rfl⟩
    obtain ⟨S7,hS7⟩:∃ x,x = (t 6 % W + C 6 % W + 0 % W) / W:=⟨_,rfl⟩
    obtain ⟨q,hq⟩:∃ x,x = L 0 * lowN:=⟨_,rfl⟩
    obtain ⟨D,hD⟩:∃ D:Nat->Nat,D = drow q primeF L:=⟨_,rfl⟩
    obtain ⟨Mm,hMm⟩:∃ M:Nat->Nat,M = mrow q primeF L D S6 S7:=⟨_,rfl⟩
    obtain ⟨cc,hcc⟩:∃ x,x = (S6 % W + D 6 % W + 0 % W) / W:=⟨_,rfl⟩
    have h7:S7 = 0:=row_top hC hL hS7 (by
     have hb:=round_bound (w:=W) (B:=nv a) (N:=nv primeF) (x:=b 0 % W) (i:=0) hT hQ (sB_lt b 0) (Nat.mod_lt _ (by decide)) ha'
     rw [nv_prime] at hb
     exact Nat.lt_of_lt_of_le hb (by decide))
    have hm6:Mm 6 = cc:=by rw [hMm,hcc,h7];show 0 + _ = _;rw [Nat.zero_add]
    refine roundF mixed tt_ok GMu_ok 100 [⟨13,4,.lit (.w .u64 (L 0))⟩,⟨14,2,.lit (.w .u64 (C 1))⟩,⟨13,4,.lit (.w .u64 (L 1))⟩,⟨14,2,.lit (.w .u64 (C 2))⟩,⟨13,4,.lit (.w .u64 (L 2))⟩,⟨14,2,.lit (.w .u64 (C 3))⟩,⟨13,4,.lit (.w .u64 (L 3))⟩,⟨14,2,.lit (.w .u64 (C 4))⟩,⟨13,4,.lit (.w .u64 (L 4))⟩,⟨14,2,.lit (.w .u64 (C 5))⟩,⟨13,4,.lit (.w .u64 (L 5))⟩,⟨14,2,.lit (.w .u64 (C 6))⟩,⟨17,3,.lit (.w .u64 S6)⟩,⟨18,2,.lit (.w .u64 q)⟩,⟨21,2,.lit (.w .u64 (D 1))⟩,⟨28,4,.lit (.w .u64 (Mm 0))⟩,⟨29,2,.lit (.w .u64 (D 2))⟩,⟨28,4,.lit (.w .u64 (Mm 1))⟩,⟨29,2,.lit (.w .u64 (D 3))⟩,⟨28,4,.lit (.w .u64 (Mm 2))⟩,⟨29,2,.lit (.w .u64 (D 4))⟩,⟨28,4,.lit (.w .u64 (Mm 3))⟩,⟨29,2,.lit (.w .u64 (D 5))⟩,⟨28,4,.lit (.w .u64 (Mm 4))⟩,⟨29,2,.lit (.w .u64 (D 6))⟩,⟨31,5,.lit (.w .u64 (Mm 5))⟩,⟨31,6,.lit (.w .u64 cc)⟩] ?_
    have next:∃ j:{x // InvMu a b x},6 - j.1.1 < 6 - 0/\VMu b (0 + 1) = VMu b j.1.1/\HMu a b (upd (upd (upd (upd (upd (upd (upd (upd (upd (upd (upd (upd (upd (upd t 0 (L 0)) 1 (L 1)) 2 (L 2)) 3 (L 3)) 4 (L 4)) 5 (L 5)) 6 S6) 0 (Mm 0)) 1 (Mm 1)) 2 (Mm 2)) 3 (Mm 3)) 4 (Mm 4)) 5 (Mm 5)) 6 cc) = HMu a b j.1.2:=by
     refine ⟨⟨(0 + 1,(upd (upd (upd (upd (upd (upd (upd (upd (upd (upd (upd (upd (upd (upd t 0 (L 0)) 1 (L 1)) 2 (L 2)) 3 (L 3)) 4 (L 4)) 5 (L 5)) 6 S6) 0 (Mm 0)) 1 (Mm 1)) 2 (Mm 2)) 3 (Mm 3)) 4 (Mm 4)) 5 (Mm 5)) 6 cc)),by simp only;omega,?_⟩,by simp only;omega,rfl,rfl⟩
     simp only
     obtain ⟨T2,e1,e2⟩:=mont_row low hC hL hS6 hS7 hq hD hMm hcc
     have e3:sB W (upd (upd (upd (upd (upd (upd (upd (upd (upd (upd (upd (upd (upd (upd t 0 (L 0)) 1 (L 1)) 2 (L 2)) 3 (L 3)) 4 (L 4)) 5 (L 5)) 6 S6) 0 (Mm 0)) 1 (Mm 1)) 2 (Mm 2)) 3 (Mm 3)) 4 (Mm 4)) 5 (Mm 5)) 6 cc) 7 = T2:=by rw [e1];exact sB7 (fun j hj=>mu_upd hm6 hj)
     rw [e3]
     have:=mont_round (N:=nv primeF) (B:=nv a) (x:=b 0 % W) (i:=0) rfl e2 hT hQ (Nat.mod_lt _ (by decide))
     exact ⟨_,by rw [show sB W b (0 + 1) = sB W b 0 + W ^ 0 * (b 0 % W) from rfl];exact this.1,this.2⟩
    have z1:0 % W <= 1:=by decide
    refine same (p:=0 % W <= 1/\0 % W <= 1/\mLo (b 0) (a 0) (t 0) 0 = L 0/\mHi (b 0) (a 0) (t 0) 0 = C 1/\0 % W <= 1/\0 % W <= 1/\mLo (b 0) (a 1) (t 1) (C 1) = L 1/\mHi (b 0) (a 1) (t 1) (C 1) = C 2/\0 % W <= 1/\0 % W <= 1/\mLo (b 0) (a 2) (t 2) (C 2) = L 2/\mHi (b 0) (a 2) (t 2) (C 2) = C 3/\0 % W <= 1/\0 % W <= 1/\mLo (b 0) (a 3) (t 3) (C 3) = L 3/\mHi (b 0) (a 3) (t 3) (C 3) = C 4/\0 % W <= 1/\0 % W <= 1/\mLo (b 0) (a 4) (t 4) (C 4) = L 4/\mHi (b 0) (a 4) (t 4) (C 4) = C 5/\0 % W <= 1/\0 % W <= 1/\mLo (b 0) (a 5) (t 5) (C 5) = L 5/\mHi (b 0) (a 5) (t 5) (C 5) = C 6/\t 6 + C 6 = S6/\L 0 * lowN = q/\0 % W <= 1/\q % W * (primeF 0 % W) / W + (q * primeF 0 % W + L 0 % W + 0 % W) / W = D 1/\0 % W <= 1/\0 % W <= 1/\mLo q (primeF 1) (L 1) (D 1) = Mm 0/\mHi q (primeF 1) (L 1) (D 1) = D 2/\0 % W <= 1/\0 % W <= 1/\mLo q (primeF 2) (L 2) (D 2) = Mm 1/\mHi q (primeF 2) (L 2) (D 2) = D 3/\0 % W <= 1/\0 % W <= 1/\mLo q (primeF 3) (L 3) (D 3) = Mm 2/\mHi q (primeF 3) (L 3) (D 3) = D 4/\0 % W <= 1/\0 % W <= 1/\mLo q (primeF 4) (L 4) (D 4) = Mm 3/\mHi q (primeF 4) (L 4) (D 4) = D 5/\0 % W <= 1/\0 % W <= 1/\mLo q (primeF 5) (L 5) (D 5) = Mm 4/\mHi q (primeF 5) (L 5) (D 5) = D 6/\0 % W <= 1/\S6 + D 6 + 0 = Mm 5/\(S6 % W + D 6 % W + 0 % W) / W = cc/\true = true/\∃ j:{x // InvMu a b x},6 - j.1.1 < 6 - 0/\VMu b (0 + 1) = VMu b j.1.1/\HMu a b (upd (upd (upd (upd (upd (upd (upd (upd (upd (upd (upd (upd (upd (upd t 0 (L 0)) 1 (L 1)) 2 (L 2)) 3 (L 3)) 4 (L 4)) 5 (L 5)) 6 S6) 0 (Mm 0)) 1 (Mm 1)) 2 (Mm 2)) 3 (Mm 3)) 4 (Mm 4)) 5 (Mm 5)) 6 cc) = HMu a b j.1.2) ?_ (by kernel_rfl)
    clear h7 hm6
    subst hC hL hS6 hS7 hq hD hMm hcc
    exact ⟨z1,⟨z1,⟨rfl,⟨rfl,⟨z1,⟨z1,⟨rfl,⟨rfl,⟨z1,⟨z1,⟨rfl,⟨rfl,⟨z1,⟨z1,⟨rfl,⟨rfl,⟨z1,⟨z1,⟨rfl,⟨rfl,⟨z1,⟨z1,⟨rfl,⟨rfl,⟨rfl,⟨rfl,⟨z1,⟨rfl,⟨z1,⟨z1,⟨rfl,⟨rfl,⟨z1,⟨z1,⟨rfl,⟨rfl,⟨z1,⟨z1,⟨rfl,⟨rfl,⟨z1,⟨z1,⟨rfl,⟨rfl,⟨z1,⟨z1,⟨rfl,⟨rfl,⟨z1,⟨rfl,⟨rfl,⟨rfl,next⟩⟩⟩⟩⟩⟩⟩⟩⟩⟩⟩⟩⟩⟩⟩⟩⟩⟩⟩⟩⟩⟩⟩⟩⟩⟩⟩⟩⟩⟩⟩⟩⟩⟩⟩⟩⟩⟩⟩⟩⟩⟩⟩⟩⟩⟩⟩⟩⟩⟩⟩⟩
   ·obtain ⟨C,hC⟩:∃ C:Nat->Nat,C = crow (b 1) a t:=⟨_,rfl⟩
    obtain ⟨L,hL⟩:∃ L:Nat->Nat,L = fun k=>mLo (b 1) (a k) (t k) (C k):=⟨_,rfl⟩
    obtain ⟨S6,hS6⟩:∃ x,x = t 6 + C 6:=⟨_,rfl⟩
    obtain ⟨S7,hS7⟩:∃ x,x = (t 6 % W + C 6 % W + 0 % W) / W:=⟨_,rfl⟩
    obtain ⟨q,hq⟩:∃ x,x = L 0 * lowN:=⟨_,rfl⟩
    obtain ⟨D,hD⟩:∃ D:Nat->Nat,D = drow q primeF L:=⟨_,rfl⟩
    obtain ⟨Mm,hMm⟩:∃ M:Nat->Nat,M = mrow q primeF L D S6 S7:=⟨_,rfl⟩
    obtain ⟨cc,hcc⟩:∃ x,x = (S6 % W + D 6 % W + 0 % W) / W:=⟨_,rfl⟩
    have h7:S7 = 0:=row_top hC hL hS7 (by
     have hb:=round_bound (w:=W) (B:=nv a) (N:=nv primeF) (x:=b 1 % W) (i:=1) hT hQ (sB_lt b 1) (Nat.mod_lt _ (by decide)) ha'
     rw [nv_prime] at hb
     exact Nat.lt_of_lt_of_le hb (by decide))
    have hm6:Mm 6 = cc:=by rw [hMm,hcc,h7];show 0 + _ = _;rw [Nat.zero_add]
    refine roundF mixed tt_ok GMu_ok 100 [⟨13,4,.lit (.w .u64 (L 0))⟩,⟨14,2,.lit (.w .u64 (C 1))⟩,⟨13,4,.lit (.w .u64 (L 1))⟩,⟨14,2,.lit (.w .u64 (C 2))⟩,⟨13,4,.lit (.w .u64 (L 2))⟩,⟨14,2,.lit (.w .u64 (C 3))⟩,⟨13,4,.lit (.w .u64 (L 3))⟩,⟨14,2,.lit (.w .u64 (C 4))⟩,⟨13,4,.lit (.w .u64 (L 4))⟩,⟨14,2,.lit (.w .u64 (C 5))⟩,⟨13,4,.lit (.w .u64 (L 5))⟩,⟨14,2,.lit (.w .u64 (C 6))⟩,⟨17,3,.lit (.w .u64 S6)⟩,⟨18,2,.lit (.w .u64 q)⟩,⟨21,2,.lit (.w .u64 (D 1))⟩,⟨28,4,.lit (.w .u64 (Mm 0))⟩,⟨29,2,.lit (.w .u64 (D 2))⟩,⟨28,4,.lit (.w .u64 (Mm 1))⟩,⟨29,2,.lit (.w .u64 (D 3))⟩,⟨28,4,.lit (.w .u64 (Mm 2))⟩,⟨29,2,.lit (.w .u64 (D 4))⟩,⟨28,4,.lit (.w .u64 (Mm 3))⟩,⟨29,2,.lit (.w .u64 (D 5))⟩,⟨28,4,.lit (.w .u64 (Mm 4))⟩,⟨29,2,.lit (.w .u64 (D 6))⟩,⟨31,5,.lit (.w .u64 (Mm 5))⟩,⟨31,6,.lit (.w .u64 cc)⟩] ?_
    have next:∃ j:{x // InvMu a b x},6 - j.1.1 < 6 - 1/\VMu b (1 + 1) = VMu b j.1.1/\HMu a b (upd (upd (upd (upd (upd (upd (upd (upd (upd (upd (upd (upd (upd (upd t 0 (L 0)) 1 (L 1)) 2 (L 2)) 3 (L 3)) 4 (L 4)) 5 (L 5)) 6 S6) 0 (Mm 0)) 1 (Mm 1)) 2 (Mm 2)) 3 (Mm 3)) 4 (Mm 4)) 5 (Mm 5)) 6 cc) = HMu a b j.1.2:=by
     refine ⟨⟨(1 + 1,(upd (upd (upd (upd (upd (upd (upd (upd (upd (upd (upd (upd (upd (upd t 0 (L 0)) 1 (L 1)) 2 (L 2)) 3 (L 3)) 4 (L 4)) 5 (L 5)) 6 S6) 0 (Mm 0)) 1 (Mm 1)) 2 (Mm 2)) 3 (Mm 3)) 4 (Mm 4)) 5 (Mm 5)) 6 cc)),by simp only;omega,?_⟩,by simp only;omega,rfl,rfl⟩
     simp only
     obtain ⟨T2,e1,e2⟩:=mont_row low hC hL hS6 hS7 hq hD hMm hcc
     have e3:sB W (upd (upd (upd (upd (upd (upd (upd (upd (upd (upd (upd (upd (upd (upd t 0 (L 0)) 1 (L 1)) 2 (L 2)) 3 (L 3)) 4 (L 4)) 5 (L 5)) 6 S6) 0 (Mm 0)) 1 (Mm 1)) 2 (Mm 2)) 3 (Mm 3)) 4 (Mm 4)) 5 (Mm 5)) 6 cc) 7 = T2:=by rw [e1];exact sB7 (fun j hj=>mu_upd hm6 hj)
     rw [e3]
     have:=mont_round (N:=nv primeF) (B:=nv a) (x:=b 1 % W) (i:=1) rfl e2 hT hQ (Nat.mod_lt _ (by decide))
     exact ⟨_,by rw [show sB W b (1 + 1) = sB W b 1 + W ^ 1 * (b 1 % W) from rfl];exact this.1,this.2⟩
    have z1:0 % W <= 1:=by decide
    refine same (p:=0 % W <= 1/\0 % W <= 1/\mLo (b 1) (a 0) (t 0) 0 = L 0/\mHi (b 1) (a 0) (t 0) 0 = C 1/\0 % W <= 1/\0 % W <= 1/\mLo (b 1) (a 1) (t 1) (C 1) = L 1/\mHi (b 1) (a 1) (t 1) (C 1) = C 2/\0 % W <= 1/\0 % W <= 1/\mLo (b 1) (a 2) (t 2) (C 2) = L 2/\mHi (b 1) (a 2) (t 2) (C 2) = C 3/\0 % W <= 1/\0 % W <= 1/\mLo (b 1) (a 3) (t 3) (C 3) = L 3/\mHi (b 1) (a 3) (t 3) (C 3) = C 4/\0 % W <= 1/\0 % W <= 1/\mLo (b 1) (a 4) (t 4) (C 4) = L 4/\mHi (b 1) (a 4) (t 4) (C 4) = C 5/\0 % W <= 1/\0 % W <= 1/\mLo (b 1) (a 5) (t 5) (C 5) = L 5/\mHi (b 1) (a 5) (t 5) (C 5) = C 6/\t 6 + C 6 = S6/\L 0 * lowN = q/\0 % W <= 1/\q % W * (primeF 0 % W) / W + (q * primeF 0 % W + L 0 % W + 0 % W) / W = D 1/\0 % W <= 1/\0 % W <= 1/\mLo q (primeF 1) (L 1) (D 1) = Mm 0/\mHi q (primeF 1) (L 1) (D 1) = D 2/\0 % W <= 1/\0 % W <= 1/\mLo q (primeF 2) (L 2) (D 2) = Mm 1/\mHi q (primeF 2) (L 2) (D 2) = D 3/\0 % W <= 1/\0 % W <= 1/\mLo q (primeF 3) (L 3) (D 3) = Mm 2/\mHi q (primeF 3) (L 3) (D 3) = D 4/\0 % W <= 1/\0 % W <= 1/\mLo q (primeF 4) (L 4) (D 4) = Mm 3/\mHi q (primeF 4) (L 4) (D 4) = D 5/\0 % W <= 1/\0 % W <= 1/\mLo q (primeF 5) (L 5) (D 5) = Mm 4/\mHi q (primeF 5) (L 5) (D 5) = D 6/\0 % W <= 1/\S6 + D 6 + 0 = Mm 5/\(S6 % W + D 6 % W + 0 % W) / W = cc/\true = true/\∃ j:{x // InvMu a b x},6 - j.1.1 < 6 - 1/\VMu b (1 + 1) = VMu b j.1.1/\HMu a b (upd (upd (upd (upd (upd (upd (upd (upd (upd (upd (upd (upd (upd (upd t 0 (L 0)) 1 (L 1)) 2 (L 2)) 3 (L 3)) 4 (L 4)) 5 (L 5)) 6 S6) 0 (Mm 0)) 1 (Mm 1)) 2 (Mm 2)) 3 (Mm 3)) 4 (Mm 4)) 5 (Mm 5)) 6 cc) = HMu a b j.1.2) ?_ (by kernel_rfl)
    clear h7 hm6
    subst hC hL hS6 hS7 hq hD hMm hcc
    exact ⟨z1,⟨z1,⟨rfl,⟨rfl,⟨z1,⟨z1,⟨rfl,⟨rfl,⟨z1,⟨z1,⟨rfl,⟨rfl,⟨z1,⟨z1,⟨rfl,⟨rfl,⟨z1,⟨z1,⟨rfl,⟨rfl,⟨z1,⟨z1,⟨rfl,⟨rfl,⟨rfl,⟨rfl,⟨z1,⟨rfl,⟨z1,⟨z1,⟨rfl,⟨rfl,⟨z1,⟨z1,⟨rfl,⟨rfl,⟨z1,⟨z1,⟨rfl,⟨rfl,⟨z1,⟨z1,⟨rfl,⟨rfl,⟨z1,⟨z1,⟨rfl,⟨rfl,⟨z1,⟨rfl,⟨rfl,⟨rfl,next⟩⟩⟩⟩⟩⟩⟩⟩⟩⟩⟩⟩⟩⟩⟩⟩⟩⟩⟩⟩⟩⟩⟩⟩⟩⟩⟩⟩⟩⟩⟩⟩⟩⟩⟩⟩⟩⟩⟩⟩⟩⟩⟩⟩⟩⟩⟩⟩⟩⟩⟩⟩
   ·obtain ⟨C,hC⟩:∃ C:Nat->Nat,C = crow (b 2) a t:=⟨_,rfl⟩
    obtain ⟨L,hL⟩:∃ L:Nat->Nat,L = fun k=>mLo (b 2) (a k) (t k) (C k):=⟨_,rfl⟩
    obtain ⟨S6,hS6⟩:∃ x,x = t 6 + C 6:=⟨_,rfl⟩
    obtain ⟨S7,hS7⟩:∃ x,x = (t 6 % W + C 6 % W + 0 % W) / W:=⟨_,rfl⟩
    obtain ⟨q,hq⟩:∃ x,x = L 0 * lowN:=⟨_,rfl⟩
    obtain ⟨D,hD⟩:∃ D:Nat->Nat,D = drow q primeF L:=⟨_,rfl⟩
    obtain ⟨Mm,hMm⟩:∃ M:Nat->Nat,M = mrow q primeF L D S6 S7:=⟨_,rfl⟩
    obtain ⟨cc,hcc⟩:∃ x,x = (S6 % W + D 6 % W + 0 % W) / W:=⟨_,rfl⟩
    have h7:S7 = 0:=row_top hC hL hS7 (by
     have hb:=round_bound (w:=W) (B:=nv a) (N:=nv primeF) (x:=b 2 % W) (i:=2) hT hQ (sB_lt b 2) (Nat.mod_lt _ (by decide)) ha'
     rw [nv_prime] at hb
     exact Nat.lt_of_lt_of_le hb (by decide))
    have hm6:Mm 6 = cc:=by rw [hMm,hcc,h7];show 0 + _ = _;rw [Nat.zero_add]
    refine roundF mixed tt_ok GMu_ok 100 [⟨13,4,.lit (.w .u64 (L 0))⟩,⟨14,2,.lit (.w .u64 (C 1))⟩,⟨13,4,.lit (.w .u64 (L 1))⟩,⟨14,2,.lit (.w .u64 (C 2))⟩,⟨13,4,.lit (.w .u64 (L 2))⟩,⟨14,2,.lit (.w .u64 (C 3))⟩,⟨13,4,.lit (.w .u64 (L 3))⟩,⟨14,2,.lit (.w .u64 (C 4))⟩,⟨13,4,.lit (.w .u64 (L 4))⟩,⟨14,2,.lit (.w .u64 (C 5))⟩,⟨13,4,.lit (.w .u64 (L 5))⟩,⟨14,2,.lit (.w .u64 (C 6))⟩,⟨17,3,.lit (.w .u64 S6)⟩,⟨18,2,.lit (.w .u64 q)⟩,⟨21,2,.lit (.w .u64 (D 1))⟩,⟨28,4,.lit (.w .u64 (Mm 0))⟩,⟨29,2,.lit (.w .u64 (D 2))⟩,⟨28,4,.lit (.w .u64 (Mm 1))⟩,⟨29,2,.lit (.w .u64 (D 3))⟩,⟨28,4,.lit (.w .u64 (Mm 2))⟩,⟨29,2,.lit (.w .u64 (D 4))⟩,⟨28,4,.lit (.w .u64 (Mm 3))⟩,⟨29,2,.lit (.w .u64 (D 5))⟩,⟨28,4,.lit (.w .u64 (Mm 4))⟩,⟨29,2,.lit (.w .u64 (D 6))⟩,⟨31,5,.lit (.w .u64 (Mm 5))⟩,⟨31,6,.lit (.w .u64 cc)⟩] ?_
    have next:∃ j:{x // InvMu a b x},6 - j.1.1 < 6 - 2/\VMu b (2 + 1) = VMu b j.1.1/\HMu a b (upd (upd (upd (upd (upd (upd (upd (upd (upd (upd (upd (upd (upd (upd t 0 (L 0)) 1 (L 1)) 2 (L 2)) 3 (L 3)) 4 (L 4)) 5 (L 5)) 6 S6) 0 (Mm 0)) 1 (Mm 1)) 2 (Mm 2)) 3 (Mm 3)) 4 (Mm 4)) 5 (Mm 5)) 6 cc) = HMu a b j.1.2:=by
     refine ⟨⟨(2 + 1,(upd (upd (upd (upd (upd (upd (upd (upd (upd (upd (upd (upd (upd (upd t 0 (L 0)) 1 (L 1)) 2 (L 2)) 3 (L 3)) 4 (L 4)) 5 (L 5)) 6 S6) 0 (Mm 0)) 1 (Mm 1)) 2 (Mm 2)) 3 (Mm 3)) 4 (Mm 4)) 5 (Mm 5)) 6 cc)),by simp only;omega,?_⟩,by simp only;omega,rfl,rfl⟩
     simp only
     obtain ⟨T2,e1,e2⟩:=mont_row low hC hL hS6 hS7 hq hD hMm hcc
     have e3:sB W (upd (upd (upd (upd (upd (upd (upd (upd (upd (upd (upd (upd (upd (upd t 0 (L 0)) 1 (L 1)) 2 (L 2)) 3 (L 3)) 4 (L 4)) 5 (L 5)) 6 S6) 0 (Mm 0)) 1 (Mm 1)) 2 (Mm 2)) 3 (Mm 3)) 4 (Mm 4)) 5 (Mm 5)) 6 cc) 7 = T2:=by rw [e1];exact sB7 (fun j hj=>mu_upd hm6 hj)
     rw [e3]
     have:=mont_round (N:=nv primeF) (B:=nv a) (x:=b 2 % W) (i:=2) rfl e2 hT hQ (Nat.mod_lt _ (by decide))
     exact ⟨_,by rw [show sB W b (2 + 1) = sB W b 2 + W ^ 2 * (b 2 % W) from rfl];exact this.1,this.2⟩
    have z1:0 % W <= 1:=by decide
    refine same (p:=0 % W <= 1/\0 % W <= 1/\mLo (b 2) (a 0) (t 0) 0 = L 0/\mHi (b 2) (a 0) (t 0) 0 = C 1/\0 % W <= 1/\0 % W <= 1/\mLo (b 2) (a 1) (t 1) (C 1) = L 1/\mHi (b 2) (a 1) (t 1) (C 1) = C 2/\0 % W <= 1/\0 % W <= 1/\mLo (b 2) (a 2) (t 2) (C 2) = L 2/\mHi (b 2) (a 2) (t 2) (C 2) = C 3/\0 % W <= 1/\0 % W <= 1/\mLo (b 2) (a 3) (t 3) (C 3) = L 3/\mHi (b 2) (a 3) (t 3) (C 3) = C 4/\0 % W <= 1/\0 % W <= 1/\mLo (b 2) (a 4) (t 4) (C 4) = L 4/\mHi (b 2) (a 4) (t 4) (C 4) = C 5/\0 % W <= 1/\0 % W <= 1/\mLo (b 2) (a 5) (t 5) (C 5) = L 5/\mHi (b 2) (a 5) (t 5) (C 5) = C 6/\t 6 + C 6 = S6/\L 0 * lowN = q/\0 % W <= 1/\q % W * (primeF 0 % W) / W + (q * primeF 0 % W + L 0 % W + 0 % W) / W = D 1/\0 % W <= 1/\0 % W <= 1/\mLo q (primeF 1) (L 1) (D 1) = Mm 0/\mHi q (primeF 1) (L 1) (D 1) = D 2/\0 % W <= 1/\0 % W <= 1/\mLo q (primeF 2) (L 2) (D 2) = Mm 1/\mHi q (primeF 2) (L 2) (D 2) = D 3/\0 % W <= 1/\0 % W <= 1/\mLo q (primeF 3) (L 3) (D 3) = Mm 2/\mHi q (primeF 3) (L 3) (D 3) = D 4/\0 % W <= 1/\0 % W <= 1/\mLo q (primeF 4) (L 4) (D 4) = Mm 3/\mHi q (primeF 4) (L 4) (D 4) = D 5/\0 % W <= 1/\0 % W <= 1/\mLo q (primeF 5) (L 5) (D 5) = Mm 4/\mHi q (primeF 5) (L 5) (D 5) = D 6/\0 % W <= 1/\S6 + D 6 + 0 = Mm 5/\(S6 % W + D 6 % W + 0 % W) / W = cc/\true = true/\∃ j:{x // InvMu a b x},6 - j.1.1 < 6 - 2/\VMu b (2 + 1) = VMu b j.1.1/\HMu a b (upd (upd (upd (upd (upd (upd (upd (upd (upd (upd (upd (upd (upd (upd t 0 (L 0)) 1 (L 1)) 2 (L 2)) 3 (L 3)) 4 (L 4)) 5 (L 5)) 6 S6) 0 (Mm 0)) 1 (Mm 1)) 2 (Mm 2)) 3 (Mm 3)) 4 (Mm 4)) 5 (Mm 5)) 6 cc) = HMu a b j.1.2) ?_ (by kernel_rfl)
    clear h7 hm6
    subst hC hL hS6 hS7 hq hD hMm hcc
    exact ⟨z1,⟨z1,⟨rfl,⟨rfl,⟨z1,⟨z1,⟨rfl,⟨rfl,⟨z1,⟨z1,⟨rfl,⟨rfl,⟨z1,⟨z1,⟨rfl,⟨rfl,⟨z1,⟨z1,⟨rfl,⟨rfl,⟨z1,⟨z1,⟨rfl,⟨rfl,⟨rfl,⟨rfl,⟨z1,⟨rfl,⟨z1,⟨z1,⟨rfl,⟨rfl,⟨z1,⟨z1,⟨rfl,⟨rfl,⟨z1,⟨z1,⟨rfl,⟨rfl,⟨z1,⟨z1,⟨rfl,⟨rfl,⟨z1,⟨z1,⟨rfl,⟨rfl,⟨z1,⟨rfl,⟨rfl,⟨rfl,next⟩⟩⟩⟩⟩⟩⟩⟩⟩⟩⟩⟩⟩⟩⟩⟩⟩⟩⟩⟩⟩⟩⟩⟩⟩⟩⟩⟩⟩⟩⟩⟩⟩⟩⟩⟩⟩⟩⟩⟩⟩⟩⟩⟩⟩⟩⟩⟩⟩⟩⟩⟩
   ·obtain ⟨C,hC⟩:∃ C:Nat->Nat,C = crow (b 3) a t:=⟨_,rfl⟩
    obtain ⟨L,hL⟩:∃ L:Nat->Nat,L = fun k=>mLo (b 3) (a k) (t k) (C k):=⟨_,rfl⟩
    obtain ⟨S6,hS6⟩:∃ x,x = t 6 + C 6:=⟨_,rfl⟩
    obtain ⟨S7,hS7⟩:∃ x,x = (t 6 % W + C 6 % W + 0 % W) / W:=⟨_,rfl⟩
    obtain ⟨q,hq⟩:∃ x,x = L 0 * lowN:=⟨_,rfl⟩
    obtain ⟨D,hD⟩:∃ D:Nat->Nat,D = drow q primeF L:=⟨_,rfl⟩
    obtain ⟨Mm,hMm⟩:∃ M:Nat->Nat,M = mrow q primeF L D S6 S7:=⟨_,rfl⟩
    obtain ⟨cc,hcc⟩:∃ x,x = (S6 % W + D 6 % W + 0 % W) / W:=⟨_,rfl⟩
    have h7:S7 = 0:=row_top hC hL hS7 (by
     have hb:=round_bound (w:=W) (B:=nv a) (N:=nv primeF) (x:=b 3 % W) (i:=3) hT hQ (sB_lt b 3) (Nat.mod_lt _ (by decide)) ha'
     rw [nv_prime] at hb
     exact Nat.lt_of_lt_of_le hb (by decide))
    have hm6:Mm 6 = cc:=by rw [hMm,hcc,h7];show 0 + _ = _;rw [Nat.zero_add]
    refine roundF mixed tt_ok GMu_ok 100 [⟨13,4,.lit (.w .u64 (L 0))⟩,⟨14,2,.lit (.w .u64 (C 1))⟩,⟨13,4,.lit (.w .u64 (L 1))⟩,⟨14,2,.lit (.w .u64 (C 2))⟩,⟨13,4,.lit (.w .u64 (L 2))⟩,⟨14,2,.lit (.w .u64 (C 3))⟩,⟨13,4,.lit (.w .u64 (L 3))⟩,⟨14,2,.lit (.w .u64 (C 4))⟩,⟨13,4,.lit (.w .u64 (L 4))⟩,⟨14,2,.lit (.w .u64 (C 5))⟩,⟨13,4,.lit (.w .u64 (L 5))⟩,⟨14,2,.lit (.w .u64 (C 6))⟩,⟨17,3,.lit (.w .u64 S6)⟩,⟨18,2,.lit (.w .u64 q)⟩,⟨21,2,.lit (.w .u64 (D 1))⟩,⟨28,4,.lit (.w .u64 (Mm 0))⟩,⟨29,2,.lit (.w .u64 (D 2))⟩,⟨28,4,.lit (.w .u64 (Mm 1))⟩,⟨29,2,.lit (.w .u64 (D 3))⟩,⟨28,4,.lit (.w .u64 (Mm 2))⟩,⟨29,2,.lit (.w .u64 (D 4))⟩,⟨28,4,.lit (.w .u64 (Mm 3))⟩,⟨29,2,.lit (.w .u64 (D 5))⟩,⟨28,4,.lit (.w .u64 (Mm 4))⟩,⟨29,2,.lit (.w .u64 (D 6))⟩,⟨31,5,.lit (.w .u64 (Mm 5))⟩,⟨31,6,.lit (.w .u64 cc)⟩] ?_
    have next:∃ j:{x // InvMu a b x},6 - j.1.1 < 6 - 3/\VMu b (3 + 1) = VMu b j.1.1/\HMu a b (upd (upd (upd (upd (upd (upd (upd (upd (upd (upd (upd (upd (upd (upd t 0 (L 0)) 1 (L 1)) 2 (L 2)) 3 (L 3)) 4 (L 4)) 5 (L 5)) 6 S6) 0 (Mm 0)) 1 (Mm 1)) 2 (Mm 2)) 3 (Mm 3)) 4 (Mm 4)) 5 (Mm 5)) 6 cc) = HMu a b j.1.2:=by
     refine ⟨⟨(3 + 1,(upd (upd (upd (upd (upd (upd (upd (upd (upd (upd (upd (upd (upd (upd t 0 (L 0)) 1 (L 1)) 2 (L 2)) 3 (L 3)) 4 (L 4)) 5 (L 5)) 6 S6) 0 (Mm 0)) 1 (Mm 1)) 2 (Mm 2)) 3 (Mm 3)) 4 (Mm 4)) 5 (Mm 5)) 6 cc)),by simp only;omega,?_⟩,by simp only;omega,rfl,rfl⟩
     simp only
     obtain ⟨T2,e1,e2⟩:=mont_row low hC hL hS6 hS7 hq hD hMm hcc
     have e3:sB W (upd (upd (upd (upd (upd (upd (upd (upd (upd (upd (upd (upd (upd (upd t 0 (L 0)) 1 (L 1)) 2 (L 2)) 3 (L 3)) 4 (L 4)) 5 (L 5)) 6 S6) 0 (Mm 0)) 1 (Mm 1)) 2 (Mm 2)) 3 (Mm 3)) 4 (Mm 4)) 5 (Mm 5)) 6 cc) 7 = T2:=by rw [e1];exact sB7 (fun j hj=>mu_upd hm6 hj)
     rw [e3]
     have:=mont_round (N:=nv primeF) (B:=nv a) (x:=b 3 % W) (i:=3) rfl e2 hT hQ (Nat.mod_lt _ (by decide))
     exact ⟨_,by rw [show sB W b (3 + 1) = sB W b 3 + W ^ 3 * (b 3 % W) from rfl];exact this.1,this.2⟩
    have z1:0 % W <= 1:=by decide
    refine same (p:=0 % W <= 1/\0 % W <= 1/\mLo (b 3) (a 0) (t 0) 0 = L 0/\mHi (b 3) (a 0) (t 0) 0 = C 1/\0 % W <= 1/\0 % W <= 1/\mLo (b 3) (a 1) (t 1) (C 1) = L 1/\mHi (b 3) (a 1) (t 1) (C 1) = C 2/\0 % W <= 1/\0 % W <= 1/\mLo (b 3) (a 2) (t 2) (C 2) = L 2/\mHi (b 3) (a 2) (t 2) (C 2) = C 3/\0 % W <= 1/\0 % W <= 1/\mLo (b 3) (a 3) (t 3) (C 3) = L 3/\mHi (b 3) (a 3) (t 3) (C 3) = C 4/\0 % W <= 1/\0 % W <= 1/\mLo (b 3) (a 4) (t 4) (C 4) = L 4/\mHi (b 3) (a 4) (t 4) (C 4) = C 5/\0 % W <= 1/\0 % W <= 1/\mLo (b 3) (a 5) (t 5) (C 5) = L 5/\mHi (b 3) (a 5) (t 5) (C 5) = C 6/\t 6 + C 6 = S6/\L 0 * lowN = q/\0 % W <= 1/\q % W * (primeF 0 % W) / W + (q * primeF 0 % W + L 0 % W + 0 % W) / W = D 1/\0 % W <= 1/\0 % W <= 1/\mLo q (primeF 1) (L 1) (D 1) = Mm 0/\mHi q (primeF 1) (L 1) (D 1) = D 2/\0 % W <= 1/\0 % W <= 1/\mLo q (primeF 2) (L 2) (D 2) = Mm 1/\mHi q (primeF 2) (L 2) (D 2) = D 3/\0 % W <= 1/\0 % W <= 1/\mLo q (primeF 3) (L 3) (D 3) = Mm 2/\mHi q (primeF 3) (L 3) (D 3) = D 4/\0 % W <= 1/\0 % W <= 1/\mLo q (primeF 4) (L 4) (D 4) = Mm 3/\mHi q (primeF 4) (L 4) (D 4) = D 5/\0 % W <= 1/\0 % W <= 1/\mLo q (primeF 5) (L 5) (D 5) = Mm 4/\mHi q (primeF 5) (L 5) (D 5) = D 6/\0 % W <= 1/\S6 + D 6 + 0 = Mm 5/\(S6 % W + D 6 % W + 0 % W) / W = cc/\true = true/\∃ j:{x // InvMu a b x},6 - j.1.1 < 6 - 3/\VMu b (3 + 1) = VMu b j.1.1/\HMu a b (upd (upd (upd (upd (upd (upd (upd (upd (upd (upd (upd (upd (upd (upd t 0 (L 0)) 1 (L 1)) 2 (L 2)) 3 (L 3)) 4 (L 4)) 5 (L 5)) 6 S6) 0 (Mm 0)) 1 (Mm 1)) 2 (Mm 2)) 3 (Mm 3)) 4 (Mm 4)) 5 (Mm 5)) 6 cc) = HMu a b j.1.2) ?_ (by kernel_rfl)
    clear h7 hm6
    subst hC hL hS6 hS7 hq hD hMm hcc
    exact ⟨z1,⟨z1,⟨rfl,⟨rfl,⟨z1,⟨z1,⟨rfl,⟨rfl,⟨z1,⟨z1,⟨rfl,⟨rfl,⟨z1,⟨z1,⟨rfl,⟨rfl,⟨z1,⟨z1,⟨rfl,⟨rfl,⟨z1,⟨z1,⟨rfl,⟨rfl,⟨rfl,⟨rfl,⟨z1,⟨rfl,⟨z1,⟨z1,⟨rfl,⟨rfl,⟨z1,⟨z1,⟨rfl,⟨rfl,⟨z1,⟨z1,⟨rfl,⟨rfl,⟨z1,⟨z1,⟨rfl,⟨rfl,⟨z1,⟨z1,⟨rfl,⟨rfl,⟨z1,⟨rfl,⟨rfl,⟨rfl,next⟩⟩⟩⟩⟩⟩⟩⟩⟩⟩⟩⟩⟩⟩⟩⟩⟩⟩⟩⟩⟩⟩⟩⟩⟩⟩⟩⟩⟩⟩⟩⟩⟩⟩⟩⟩⟩⟩⟩⟩⟩⟩⟩⟩⟩⟩⟩⟩⟩⟩⟩⟩
   ·obtain ⟨C,hC⟩:∃ C:Nat->Nat,C = crow (b 4) a t:=⟨_,rfl⟩
    obtain ⟨L,hL⟩:∃ L:Nat->Nat,L = fun k=>mLo (b 4) (a k) (t k) (C k):=⟨_,rfl⟩
    obtain ⟨S6,hS6⟩:∃ x,x = t 6 + C 6:=⟨_,rfl⟩
    obtain ⟨S7,hS7⟩:∃ x,x = (t 6 % W + C 6 % W + 0 % W) / W:=⟨_,rfl⟩
    obtain ⟨q,hq⟩:∃ x,x = L 0 * lowN:=⟨_,rfl⟩
    obtain ⟨D,hD⟩:∃ D:Nat->Nat,D = drow q primeF L:=⟨_,rfl⟩
    obtain ⟨Mm,hMm⟩:∃ M:Nat->Nat,M = mrow q primeF L D S6 S7:=⟨_,rfl⟩
    obtain ⟨cc,hcc⟩:∃ x,x = (S6 % W + D 6 % W + 0 % W) / W:=⟨_,rfl⟩
    have h7:S7 = 0:=row_top hC hL hS7 (by
     have hb:=round_bound (w:=W) (B:=nv a) (N:=nv primeF) (x:=b 4 % W) (i:=4) hT hQ (sB_lt b 4) (Nat.mod_lt _ (by decide)) ha'
     rw [nv_prime] at hb
     exact Nat.lt_of_lt_of_le hb (by decide))
    have hm6:Mm 6 = cc:=by rw [hMm,hcc,h7];show 0 + _ = _;rw [Nat.zero_add]
    refine roundF mixed tt_ok GMu_ok 100 [⟨13,4,.lit (.w .u64 (L 0))⟩,⟨14,2,.lit (.w .u64 (C 1))⟩,⟨13,4,.lit (.w .u64 (L 1))⟩,⟨14,2,.lit (.w .u64 (C 2))⟩,⟨13,4,.lit (.w .u64 (L 2))⟩,⟨14,2,.lit (.w .u64 (C 3))⟩,⟨13,4,.lit (.w .u64 (L 3))⟩,⟨14,2,.lit (.w .u64 (C 4))⟩,⟨13,4,.lit (.w .u64 (L 4))⟩,⟨14,2,.lit (.w .u64 (C 5))⟩,⟨13,4,.lit (.w .u64 (L 5))⟩,⟨14,2,.lit (.w .u64 (C 6))⟩,⟨17,3,.lit (.w .u64 S6)⟩,⟨18,2,.lit (.w .u64 q)⟩,⟨21,2,.lit (.w .u64 (D 1))⟩,⟨28,4,.lit (.w .u64 (Mm 0))⟩,⟨29,2,.lit (.w .u64 (D 2))⟩,⟨28,4,.lit (.w .u64 (Mm 1))⟩,⟨29,2,.lit (.w .u64 (D 3))⟩,⟨28,4,.lit (.w .u64 (Mm 2))⟩,⟨29,2,.lit (.w .u64 (D 4))⟩,⟨28,4,.lit (.w .u64 (Mm 3))⟩,⟨29,2,.lit (.w .u64 (D 5))⟩,⟨28,4,.lit (.w .u64 (Mm 4))⟩,⟨29,2,.lit (.w .u64 (D 6))⟩,⟨31,5,.lit (.w .u64 (Mm 5))⟩,⟨31,6,.lit (.w .u64 cc)⟩] ?_
    have next:∃ j:{x // InvMu a b x},6 - j.1.1 < 6 - 4/\VMu b (4 + 1) = VMu b j.1.1/\HMu a b (upd (upd (upd (upd (upd (upd (upd (upd (upd (upd (upd (upd (upd (upd t 0 (L 0)) 1 (L 1)) 2 (L 2)) 3 (L 3)) 4 (L 4)) 5 (L 5)) 6 S6) 0 (Mm 0)) 1 (Mm 1)) 2 (Mm 2)) 3 (Mm 3)) 4 (Mm 4)) 5 (Mm 5)) 6 cc) = HMu a b j.1.2:=by
     refine ⟨⟨(4 + 1,(upd (upd (upd (upd (upd (upd (upd (upd (upd (upd (upd (upd (upd (upd t 0 (L 0)) 1 (L 1)) 2 (L 2)) 3 (L 3)) 4 (L 4)) 5 (L 5)) 6 S6) 0 (Mm 0)) 1 (Mm 1)) 2 (Mm 2)) 3 (Mm 3)) 4 (Mm 4)) 5 (Mm 5)) 6 cc)),by simp only;omega,?_⟩,by simp only;omega,rfl,rfl⟩
     simp only
     obtain ⟨T2,e1,e2⟩:=mont_row low hC hL hS6 hS7 hq hD hMm hcc
     have e3:sB W (upd (upd (upd (upd (upd (upd (upd (upd (upd (upd (upd (upd (upd (upd t 0 (L 0)) 1 (L 1)) 2 (L 2)) 3 (L 3)) 4 (L 4)) 5 (L 5)) 6 S6) 0 (Mm 0)) 1 (Mm 1)) 2 (Mm 2)) 3 (Mm 3)) 4 (Mm 4)) 5 (Mm 5)) 6 cc) 7 = T2:=by rw [e1];exact sB7 (fun j hj=>mu_upd hm6 hj)
     rw [e3]
     have:=mont_round (N:=nv primeF) (B:=nv a) (x:=b 4 % W) (i:=4) rfl e2 hT hQ (Nat.mod_lt _ (by decide))
     exact ⟨_,by rw [show sB W b (4 + 1) = sB W b 4 + W ^ 4 * (b 4 % W) from rfl];exact this.1,this.2⟩
    have z1:0 % W <= 1:=by decide
    refine same (p:=0 % W <= 1/\0 % W <= 1/\mLo (b 4) (a 0) (t 0) 0 = L 0/\mHi (b 4) (a 0) (t 0) 0 = C 1/\0 % W <= 1/\0 % W <= 1/\mLo (b 4) (a 1) (t 1) (C 1) = L 1/\mHi (b 4) (a 1) (t 1) (C 1) = C 2/\0 % W <= 1/\0 % W <= 1/\mLo (b 4) (a 2) (t 2) (C 2) = L 2/\mHi (b 4) (a 2) (t 2) (C 2) = C 3/\0 % W <= 1/\0 % W <= 1/\mLo (b 4) (a 3) (t 3) (C 3) = L 3/\mHi (b 4) (a 3) (t 3) (C 3) = C 4/\0 % W <= 1/\0 % W <= 1/\mLo (b 4) (a 4) (t 4) (C 4) = L 4/\mHi (b 4) (a 4) (t 4) (C 4) = C 5/\0 % W <= 1/\0 % W <= 1/\mLo (b 4) (a 5) (t 5) (C 5) = L 5/\mHi (b 4) (a 5) (t 5) (C 5) = C 6/\t 6 + C 6 = S6/\L 0 * lowN = q/\0 % W <= 1/\q % W * (primeF 0 % W) / W + (q * primeF 0 % W + L 0 % W + 0 % W) / W = D 1/\0 % W <= 1/\0 % W <= 1/\mLo q (primeF 1) (L 1) (D 1) = Mm 0/\mHi q (primeF 1) (L 1) (D 1) = D 2/\0 % W <= 1/\0 % W <= 1/\mLo q (primeF 2) (L 2) (D 2) = Mm 1/\mHi q (primeF 2) (L 2) (D 2) = D 3/\0 % W <= 1/\0 % W <= 1/\mLo q (primeF 3) (L 3) (D 3) = Mm 2/\mHi q (primeF 3) (L 3) (D 3) = D 4/\0 % W <= 1/\0 % W <= 1/\mLo q (primeF 4) (L 4) (D 4) = Mm 3/\mHi q (primeF 4) (L 4) (D 4) = D 5/\0 % W <= 1/\0 % W <= 1/\mLo q (primeF 5) (L 5) (D 5) = Mm 4/\mHi q (primeF 5) (L 5) (D 5) = D 6/\0 % W <= 1/\S6 + D 6 + 0 = Mm 5/\(S6 % W + D 6 % W + 0 % W) / W = cc/\true = true/\∃ j:{x // InvMu a b x},6 - j.1.1 < 6 - 4/\VMu b (4 + 1) = VMu b j.1.1/\HMu a b (upd (upd (upd (upd (upd (upd (upd (upd (upd (upd (upd (upd (upd (upd t 0 (L 0)) 1 (L 1)) 2 (L 2)) 3 (L 3)) 4 (L 4)) 5 (L 5)) 6 S6) 0 (Mm 0)) 1 (Mm 1)) 2 (Mm 2)) 3 (Mm 3)) 4 (Mm 4)) 5 (Mm 5)) 6 cc) = HMu a b j.1.2) ?_ (by kernel_rfl)
    clear h7 hm6
    subst hC hL hS6 hS7 hq hD hMm hcc
    exact ⟨z1,⟨z1,⟨rfl,⟨rfl,⟨z1,⟨z1,⟨rfl,⟨rfl,⟨z1,⟨z1,⟨rfl,⟨rfl,⟨z1,⟨z1,⟨rfl,⟨rfl,⟨z1,⟨z1,⟨rfl,⟨rfl,⟨z1,⟨z1,⟨rfl,⟨rfl,⟨rfl,⟨rfl,⟨z1,⟨rfl,⟨z1,⟨z1,⟨rfl,⟨rfl,⟨z1,⟨z1,⟨rfl,⟨rfl,⟨z1,⟨z1,⟨rfl,⟨rfl,⟨z1,⟨z1,⟨rfl,⟨rfl,⟨z1,⟨z1,⟨rfl,⟨rfl,⟨z1,⟨rfl,⟨rfl,⟨rfl,next⟩⟩⟩⟩⟩⟩⟩⟩⟩⟩⟩⟩⟩⟩⟩⟩⟩⟩⟩⟩⟩⟩⟩⟩⟩⟩⟩⟩⟩⟩⟩⟩⟩⟩⟩⟩⟩⟩⟩⟩⟩⟩⟩⟩⟩⟩⟩⟩⟩⟩⟩⟩
   ·obtain ⟨C,hC⟩:∃ C:Nat->Nat,C = crow (b 5) a t:=⟨_,rfl⟩
    obtain ⟨L,hL⟩:∃ L:Nat->Nat,L = fun k=>mLo (b 5) (a k) (t k) (C k):=⟨_,rfl⟩
    obtain ⟨S6,hS6⟩:∃ x,x = t 6 + C 6:=⟨_,rfl⟩
    obtain ⟨S7,hS7⟩:∃ x,x = (t 6 % W + C 6 % W + 0 % W) / W:=⟨_,rfl⟩
    obtain ⟨q,hq⟩:∃ x,x = L 0 * lowN:=⟨_,rfl⟩
    obtain ⟨D,hD⟩:∃ D:Nat->Nat,D = drow q primeF L:=⟨_,rfl⟩
    obtain ⟨Mm,hMm⟩:∃ M:Nat->Nat,M = mrow q primeF L D S6 S7:=⟨_,rfl⟩
    obtain ⟨cc,hcc⟩:∃ x,x = (S6 % W + D 6 % W + 0 % W) / W:=⟨_,rfl⟩
    have h7:S7 = 0:=row_top hC hL hS7 (by
     have hb:=round_bound (w:=W) (B:=nv a) (N:=nv primeF) (x:=b 5 % W) (i:=5) hT hQ (sB_lt b 5) (Nat.mod_lt _ (by decide)) ha'
     rw [nv_prime] at hb
     exact Nat.lt_of_lt_of_le hb (by decide))
    have hm6:Mm 6 = cc:=by rw [hMm,hcc,h7];show 0 + _ = _;rw [Nat.zero_add]
    refine roundF mixed tt_ok GMu_ok 100 [⟨13,4,.lit (.w .u64 (L 0))⟩,⟨14,2,.lit (.w .u64 (C 1))⟩,⟨13,4,.lit (.w .u64 (L 1))⟩,⟨14,2,.lit (.w .u64 (C 2))⟩,⟨13,4,.lit (.w .u64 (L 2))⟩,⟨14,2,.lit (.w .u64 (C 3))⟩,⟨13,4,.lit (.w .u64 (L 3))⟩,⟨14,2,.lit (.w .u64 (C 4))⟩,⟨13,4,.lit (.w .u64 (L 4))⟩,⟨14,2,.lit (.w .u64 (C 5))⟩,⟨13,4,.lit (.w .u64 (L 5))⟩,⟨14,2,.lit (.w .u64 (C 6))⟩,⟨17,3,.lit (.w .u64 S6)⟩,⟨18,2,.lit (.w .u64 q)⟩,⟨21,2,.lit (.w .u64 (D 1))⟩,⟨28,4,.lit (.w .u64 (Mm 0))⟩,⟨29,2,.lit (.w .u64 (D 2))⟩,⟨28,4,.lit (.w .u64 (Mm 1))⟩,⟨29,2,.lit (.w .u64 (D 3))⟩,⟨28,4,.lit (.w .u64 (Mm 2))⟩,⟨29,2,.lit (.w .u64 (D 4))⟩,⟨28,4,.lit (.w .u64 (Mm 3))⟩,⟨29,2,.lit (.w .u64 (D 5))⟩,⟨28,4,.lit (.w .u64 (Mm 4))⟩,⟨29,2,.lit (.w .u64 (D 6))⟩,⟨31,5,.lit (.w .u64 (Mm 5))⟩,⟨31,6,.lit (.w .u64 cc)⟩] ?_
    have next:∃ j:{x // InvMu a b x},6 - j.1.1 < 6 - 5/\VMu b (5 + 1) = VMu b j.1.1/\HMu a b (upd (upd (upd (upd (upd (upd (upd (upd (upd (upd (upd (upd (upd (upd t 0 (L 0)) 1 (L 1)) 2 (L 2)) 3 (L 3)) 4 (L 4)) 5 (L 5)) 6 S6) 0 (Mm 0)) 1 (Mm 1)) 2 (Mm 2)) 3 (Mm 3)) 4 (Mm 4)) 5 (Mm 5)) 6 cc) = HMu a b j.1.2:=by
     refine ⟨⟨(5 + 1,(upd (upd (upd (upd (upd (upd (upd (upd (upd (upd (upd (upd (upd (upd t 0 (L 0)) 1 (L 1)) 2 (L 2)) 3 (L 3)) 4 (L 4)) 5 (L 5)) 6 S6) 0 (Mm 0)) 1 (Mm 1)) 2 (Mm 2)) 3 (Mm 3)) 4 (Mm 4)) 5 (Mm 5)) 6 cc)),by simp only;omega,?_⟩,by simp only;omega,rfl,rfl⟩
     simp only
     obtain ⟨T2,e1,e2⟩:=mont_row low hC hL hS6 hS7 hq hD hMm hcc
     have e3:sB W (upd (upd (upd (upd (upd (upd (upd (upd (upd (upd (upd (upd (upd (upd t 0 (L 0)) 1 (L 1)) 2 (L 2)) 3 (L 3)) 4 (L 4)) 5 (L 5)) 6 S6) 0 (Mm 0)) 1 (Mm 1)) 2 (Mm 2)) 3 (Mm 3)) 4 (Mm 4)) 5 (Mm 5)) 6 cc) 7 = T2:=by rw [e1];exact sB7 (fun j hj=>mu_upd hm6 hj)
     rw [e3]
     have:=mont_round (N:=nv primeF) (B:=nv a) (x:=b 5 % W) (i:=5) rfl e2 hT hQ (Nat.mod_lt _ (by decide))
     exact ⟨_,by rw [show sB W b (5 + 1) = sB W b 5 + W ^ 5 * (b 5 % W) from rfl];exact this.1,this.2⟩
    have z1:0 % W <= 1:=by decide
    refine same (p:=0 % W <= 1/\0 % W <= 1/\mLo (b 5) (a 0) (t 0) 0 = L 0/\mHi (b 5) (a 0) (t 0) 0 = C 1/\0 % W <= 1/\0 % W <= 1/\mLo (b 5) (a 1) (t 1) (C 1) = L 1/\mHi (b 5) (a 1) (t 1) (C 1) = C 2/\0 % W <= 1/\0 % W <= 1/\mLo (b 5) (a 2) (t 2) (C 2) = L 2/\mHi (b 5) (a 2) (t 2) (C 2) = C 3/\0 % W <= 1/\0 % W <= 1/\mLo (b 5) (a 3) (t 3) (C 3) = L 3/\mHi (b 5) (a 3) (t 3) (C 3) = C 4/\0 % W <= 1/\0 % W <= 1/\mLo (b 5) (a 4) (t 4) (C 4) = L 4/\mHi (b 5) (a 4) (t 4) (C 4) = C 5/\0 % W <= 1/\0 % W <= 1/\mLo (b 5) (a 5) (t 5) (C 5) = L 5/\mHi (b 5) (a 5) (t 5) (C 5) = C 6/\t 6 + C 6 = S6/\L 0 * lowN = q/\0 % W <= 1/\q % W * (primeF 0 % W) / W + (q * primeF 0 % W + L 0 % W + 0 % W) / W = D 1/\0 % W <= 1/\0 % W <= 1/\mLo q (primeF 1) (L 1) (D 1) = Mm 0/\mHi q (primeF 1) (L 1) (D 1) = D 2/\0 % W <= 1/\0 % W <= 1/\mLo q (primeF 2) (L 2) (D 2) = Mm 1/\mHi q (primeF 2) (L 2) (D 2) = D 3/\0 % W <= 1/\0 % W <= 1/\mLo q (primeF 3) (L 3) (D 3) = Mm 2/\mHi q (primeF 3) (L 3) (D 3) = D 4/\0 % W <= 1/\0 % W <= 1/\mLo q (primeF 4) (L 4) (D 4) = Mm 3/\mHi q (primeF 4) (L 4) (D 4) = D 5/\0 % W <= 1/\0 % W <= 1/\mLo q (primeF 5) (L 5) (D 5) = Mm 4/\mHi q (primeF 5) (L 5) (D 5) = D 6/\0 % W <= 1/\S6 + D 6 + 0 = Mm 5/\(S6 % W + D 6 % W + 0 % W) / W = cc/\true = true/\∃ j:{x // InvMu a b x},6 - j.1.1 < 6 - 5/\VMu b (5 + 1) = VMu b j.1.1/\HMu a b (upd (upd (upd (upd (upd (upd (upd (upd (upd (upd (upd (upd (upd (upd t 0 (L 0)) 1 (L 1)) 2 (L 2)) 3 (L 3)) 4 (L 4)) 5 (L 5)) 6 S6) 0 (Mm 0)) 1 (Mm 1)) 2 (Mm 2)) 3 (Mm 3)) 4 (Mm 4)) 5 (Mm 5)) 6 cc) = HMu a b j.1.2) ?_ (by kernel_rfl)
    clear h7 hm6
    subst hC hL hS6 hS7 hq hD hMm hcc
    exact ⟨z1,⟨z1,⟨rfl,⟨rfl,⟨z1,⟨z1,⟨rfl,⟨rfl,⟨z1,⟨z1,⟨rfl,⟨rfl,⟨z1,⟨z1,⟨rfl,⟨rfl,⟨z1,⟨z1,⟨rfl,⟨rfl,⟨z1,⟨z1,⟨rfl,⟨rfl,⟨rfl,⟨rfl,⟨z1,⟨rfl,⟨z1,⟨z1,⟨rfl,⟨rfl,⟨z1,⟨z1,⟨rfl,⟨rfl,⟨z1,⟨z1,⟨rfl,⟨rfl,⟨z1,⟨z1,⟨rfl,⟨rfl,⟨z1,⟨z1,⟨rfl,⟨rfl,⟨z1,⟨rfl,⟨rfl,⟨rfl,next⟩⟩⟩⟩⟩⟩⟩⟩⟩⟩⟩⟩⟩⟩⟩⟩⟩⟩⟩⟩⟩⟩⟩⟩⟩⟩⟩⟩⟩⟩⟩⟩⟩⟩⟩⟩⟩⟩⟩⟩⟩⟩⟩⟩⟩⟩⟩⟩⟩⟩⟩⟩
   ·refine roundF mixed tt_ok GMu_ok 100 [] ?_
    refine same (p:=true = true/\∃ j:{x // InvMu a b x},j.1.1 = 6/\VMu b 6 = VMu b j.1.1/\HMu a b t = HMu a b j.1.2) ?_ (by kernel_rfl)
    exact ⟨rfl,⟨(6,t),hi,Q,hT,hQ⟩,rfl,rfl,rfl⟩
  ·intro ⟨⟨i,t⟩,hi,Q,hT,hQ⟩ junk h6
   simp only at hi hT hQ h6
   subst h6
   refine same (p:=endN (numA (lessV pN (nv t))) (nm (eF (eMul (dF a) (dF b))))) ?_ (by kernel_rfl)
   rw [sB_W b 6,<-nv_nvn,<-R_eq] at hT
   rw [<-R_eq] at hQ
   obtain ⟨h1,h2⟩:=mont_end (by rw [nv_prime];exact pN_odd) (by rw [nv_prime];exact pN_pos) (nv_lt b) (nv_lt a) (.inr ha') hQ hT
   have h7:=sB7_nv (t:=t) (Nat.lt_of_lt_of_le h1 (by rw [nv_prime];omega))
   rw [h7,nv_prime] at h2
   have e:lessV pN (nv t) = enc (eMul (dF a) (dF b)):=by
    unfold lessV
    rw [h2,mont_enc]
    unfold eMul dF
    rw [show dec (nv b) * dec (nv a) = dec (nv a) * dec (nv b) from by grind]
   refine endN_nm ?_
   rw [e,nv_eF,nv_wd,Nat.mod_eq_of_lt (Nat.lt_trans (enc_lt _) pN_lt)]
 ·cases e
end Go.Proofs.Ytnjocbcjejpklaa
namespace Go.Rq
open Go
theorem div_next (x k:Nat):x / 2 ^ k = 2 * (x / 2 ^ (k + 1)) + x / 2 ^ k % 2:=by
 have hd:x / 2 ^ (k + 1) = x / 2 ^ k / 2:=by rw [Nat.div_div_eq_div_mul,Nat.pow_succ]
 rw [hd];omega
end Go.Rq
namespace Go.Proofs.Ytnjocbcjejpklaa
open Go.Rq Go
set_option maxRecDepth 100000
def vF (z:Fp):Nat->Nat:=wd z.val
theorem nv_vF (z:Fp):nv (vF z) = z.val:=by
 unfold vF
 rw [nv_wd,Nat.mod_eq_of_lt (Nat.lt_trans z.isLt pN_lt)]
theorem ofN_vF (z:Fp):ofN (nv (vF z)) = z:=by rw [nv_vF,ofN_self]
def cTo:List AV->Option (List Prop × AV)
 | [.v1 (.agg [.ws .u64 6 a])]=>some ([],nm (eF (ofN (nv a))))
 | _=>none
def cFrom:List AV->Option (List Prop × AV)
 | [.v1 (.agg [.ws .u64 6 a])]=>some ([nv a < pN],nm (vF (dF a)))
 | _=>none
def GTo:Ctx:=ctxL [(72,.pure (cK wideF)),(59,.pure cEMul)]
theorem GTo_ok:CtxOk Try.prog GTo:=ctxL_cons okWide0 <| ctxL_cons okEMul ctxL_nil
theorem okTo:(CallC.pure cTo).Ok Try.prog 42:=by
 intro args pre v e _
 unfold cTo at e
 split at e
 ·rename_i a
  cases e
  refine pure_walk' tt_ok Try.func42 (by kernel_rfl) (by kernel_rfl) (by rfl) (by rfl) ?_
  refine evS_q mixed tt_ok GTo_ok 60 [] ?_
  refine same (p:=nv wideF < pN/\endN (nm (eF (eMul (dF wideF) (dF a)))) (nm (eF (ofN (nv a))))) ?_ (by kernel_rfl)
  refine ⟨by rw [nv_wide];exact Nat.mod_lt _ pN_pos,endN_nm ?_⟩
  rw [nv_eF,nv_eF]
  unfold eMul dF
  rw [<-mont_enc,nv_wide,to_enc]
 ·cases e
theorem nv_u1:nv (upd (fun _=>0) 0 1) = 1:=by kernel_rfl
theorem okFrom:(CallC.pure cFrom).Ok Try.prog 47:=by
 intro args pre v e hp
 unfold cFrom at e
 split at e
 ·rename_i a
  cases e
  have ha:nv a < pN:=hp _ (List.mem_cons_self ..)
  refine pure_walk' tt_ok Try.func47 (by kernel_rfl) (by kernel_rfl) (by rfl) (by rfl) ?_
  refine evS_q mixed tt_ok GTo_ok 60 [] ?_
  refine same (p:=nv a < pN/\endN (nm (eF (eMul (dF a) (dF (upd (fun _=>0) 0 1))))) (nm (vF (dF a)))) ?_ (by kernel_rfl)
  refine ⟨ha,endN_nm ?_⟩
  rw [nv_eF,nv_vF]
  unfold eMul dF
  rw [<-mont_enc,nv_u1,from_val]
 ·cases e
def ePow (x:Fp):Nat->Fp
 | 0=>1
 | n + 1=>ePow x n * x
theorem ePow_add (x:Fp) (a:Nat):∀ b,ePow x (a + b) = ePow x a * ePow x b
 | 0=>by show ePow x a = ePow x a * 1;grind
 | b + 1=>by
  show ePow x (a + b) * x = ePow x a * (ePow x b * x)
  rw [ePow_add x a b]
  grind
def cEPow:List AV->Option (List Prop × AV)
 | [.v1 (.agg [.ws .u64 6 a]),.v1 (.agg [.ws .u64 6 e])]=>some ([nv a < pN],nm (eF (ePow (dF a) (nv e))))
 | _=>none
def GPo:Ctx:=ctxL [(61,.pure (cK oneF)),(59,.pure cEMul)]
theorem GPo_ok:CtxOk Try.prog GPo:=ctxL_cons okOne0 <| ctxL_cons okEMul ctxL_nil
def VPo (k:Nat):List AV:=[pt 0 0,pt 1 0,pt 2 0,pt 4 0,iv (predI k)]
def HPo (a e o:Nat->Nat):Heap:=[nbE a,nb e,nbE (fun _=>0),none,nbE o]
def InvPo (a e:Nat->Nat) (x:Nat × (Nat->Nat)):Prop:=x.1 <= 384/\nv x.2 < pN/\dF x.2 = ePow (dF a) (nv e / 2 ^ x.1)
theorem bit_beq (e:Nat->Nat) {i:Nat} (hi:i < 384):Nat.beq ((e (i / 64) % W / 2 ^ min (i % 64) 64 &&& 1) % W) (1 % W) = Nat.beq (nv e / 2 ^ i % 2) 1:=by
 rw [show min (i % 64) 64 = i % 64 by omega,Nat.and_two_pow_sub_one_eq_mod _ 1,show (2:Nat) ^ 1 = 2 from rfl,bit_nv e i hi]
 have h:nv e / 2 ^ i % 2 < 2:=Nat.mod_lt _ (by omega)
 rw [Nat.mod_eq_of_lt (show nv e / 2 ^ i % 2 < W by simp only [W];omega)]
 rfl
theorem okEPow:(CallC.pure cEPow).Ok Try.prog 85:=by
 intro args pre v e hp
 unfold cEPow at e
 split at e
 ·rename_i a e
  cases e
  rename_i e
  have ha:nv a < pN:=hp _ (List.mem_cons_self ..)
  refine pure_walk' tt_ok Try.func85 (by kernel_rfl) (by kernel_rfl) (by rfl) (by rfl) ?_
  refine loopF mixed tt_ok GPo_ok (by kernel_rfl) (ι:={x // InvPo a e x}) [2,3,4,5,6] 28 5 (fun x=>VPo x.1.1) (fun x=>HPo a e x.1.2) (fun x=>x.1.1) (fun x=>x.1.1 = 0)
   (fun _=>rfl) (fun _=>by kernel_rfl) (fun _ _ h=>h.elim) 60 [] ?_ ?_ ?_
  ·refine same (p:=true = true/\∃ j:{x // InvPo a e x},VPo 384 = VPo j.1.1/\HPo a e oneF = HPo a e j.1.2) ?_ (by kernel_rfl)
   refine ⟨rfl,⟨(384,oneF),by simp,by rw [one_enc];exact enc_lt 1,?_⟩,rfl,rfl⟩
   have:nv e / 2 ^ 384 = 0:=Nat.div_eq_of_lt (by have:=nv_lt e;rw [R_pow,E_eq] at this;exact this)
   simp only
   rw [this]
   unfold dF
   rw [one_enc,dec_enc]
   rfl
  ·intro ⟨⟨k,o⟩,hk,ho,hd⟩ junk
   simp only at hk ho hd
   cases k with
   | zero =>
    refine roundF mixed tt_ok GPo_ok 60 [] ?_
    refine same (p:=true = true/\∃ j:{x // InvPo a e x},j.1.1 = 0/\VPo 0 = VPo j.1.1/\HPo a e o = HPo a e j.1.2) ?_ (by kernel_rfl)
    exact ⟨rfl,⟨(0,o),hk,ho,hd⟩,rfl,rfl,rfl⟩
   | succ k =>
    have hk:k < 384:=by omega
    have h64:k / 64 < 6:=by omega
    have hge:(!ilt (Int.ofNat k) 0) = true:=by rw [ilt_not (by simp)];rfl
    have hs:wrapI (Int.ofNat k - 1) = predI k:=predI_eq (by omega)
    have hn:=div_next (nv e) k
    have next:∀ o':Fp,o' = ePow (dF a) (nv e / 2 ^ k)->∃ j:{x // InvPo a e x},j.1.1 < k + 1/\VPo k = VPo j.1.1/\HPo a e (eF o') = HPo a e j.1.2 :=
     fun o' h'=>⟨⟨(k,eF o'),by simp only;omega,lt_eF o',by simp only;rw [dF_eF,h']⟩,by simp only;omega,rfl,rfl⟩
    have sq:dF o * dF o = ePow (dF a) (2 * (nv e / 2 ^ (k + 1))):=by rw [hd,Nat.two_mul,ePow_add]
    cases hb:Nat.beq (nv e / 2 ^ k % 2) 1
    ·refine roundF mixed tt_ok GPo_ok 60 [⟨3,1,.lit (.bo true)⟩,⟨6,1,.lit (.it (Int.ofNat (k/64)))⟩,⟨6,2,.sym⟩,⟨6,3,.sym⟩,⟨6,5,.lit (.it (Int.ofNat (k%64)))⟩,⟨6,8,.lit (.bo false)⟩,⟨4,1,.lit (.it (predI k))⟩] ?_
     refine same (p:=(!ilt (Int.ofNat k) 0) = true/\nv o < pN/\wrapI ((Int.ofNat k).tdiv 64) = Int.ofNat (k / 64)/\ix (k / 64) 6 ((Int.ofNat k).tmod 64 = Int.ofNat (k % 64) /\
      Nat.beq ((e (k / 64) % W / 2 ^ min (k % 64) 64 &&& 1) % W) (1 % W) = false/\wrapI (Int.ofNat k - 1) = predI k/\true = true /\
      ∃ j:{x // InvPo a e x},j.1.1 < k + 1/\VPo k = VPo j.1.1/\HPo a e (eF (eMul (dF o) (dF o))) = HPo a e j.1.2)) ?_ (by kernel_rfl)
     refine ⟨hge,ho,tdiv64 ⟨k,hk⟩,ix_of h64 ⟨tmod64 ⟨k,hk⟩,by rw [bit_beq e hk,hb],hs,rfl,next _ ?_⟩⟩
     have h0:nv e / 2 ^ k % 2 = 0:=by
      have:nv e / 2 ^ k % 2 ≠ 1:=fun e'=>by rw [<-Nat.beq_eq,hb] at e';cases e'
      omega
     rw [h0,Nat.add_zero] at hn
     unfold eMul
     rw [sq,hn]
    ·refine roundF mixed tt_ok GPo_ok 60 [⟨3,1,.lit (.bo true)⟩,⟨6,1,.lit (.it (Int.ofNat (k/64)))⟩,⟨6,2,.sym⟩,⟨6,3,.sym⟩,⟨6,5,.lit (.it (Int.ofNat (k%64)))⟩,⟨6,8,.lit (.bo true)⟩,⟨4,1,.lit (.it (predI k))⟩] ?_
     refine same (p:=(!ilt (Int.ofNat k) 0) = true/\nv o < pN/\wrapI ((Int.ofNat k).tdiv 64) = Int.ofNat (k / 64)/\ix (k / 64) 6 ((Int.ofNat k).tmod 64 = Int.ofNat (k % 64) /\
      Nat.beq ((e (k / 64) % W / 2 ^ min (k % 64) 64 &&& 1) % W) (1 % W) = true/\nv (eF (eMul (dF o) (dF o))) < pN/\wrapI (Int.ofNat k - 1) = predI k/\true = true /\
      ∃ j:{x // InvPo a e x},j.1.1 < k + 1/\VPo k = VPo j.1.1/\HPo a e (eF (eMul (dF (eF (eMul (dF o) (dF o)))) (dF a))) = HPo a e j.1.2)) ?_ (by kernel_rfl)
     refine ⟨hge,ho,tdiv64 ⟨k,hk⟩,ix_of h64 ⟨tmod64 ⟨k,hk⟩,by rw [bit_beq e hk,hb],lt_eF _,hs,rfl,next _ ?_⟩⟩
     rw [Nat.beq_eq] at hb
     rw [hb] at hn
     rw [dF_eF]
     unfold eMul
     rw [sq,hn]
     rfl
  ·intro ⟨⟨k,o⟩,hk,ho,hd⟩ junk h0
   simp only at hk ho hd h0
   subst h0
   refine same (p:=endN (nm o) (nm (eF (ePow (dF a) (nv e))))) ?_ (by kernel_rfl)
   rw [Nat.pow_zero,Nat.div_one] at hd
   rw [<-hd]
   exact endN_nm (eF_dF ho).symm
 ·cases e
def eInv (x:Fp):Fp:=ePow x (pN - 2)
def invF0:Nat->Nat:=upd (upd (upd (upd (upd (upd (fun _=>0) 0 13402431016077863593) 1 2210141511517208575) 2 7435674573564081700) 3 7239337960414712511) 4 5412103778470702295) 5 1873798617647539866
theorem nv_inv0:nv invF0 = pN - 2:=by kernel_rfl
def GIe:Ctx:=ctxL [(85,.pure cEPow)]
theorem GIe_ok:CtxOk Try.prog GIe:=ctxL_cons okEPow ctxL_nil
theorem okEInv:(CallC.pure (el1 eInv)).Ok Try.prog 60:=by
 refine el1_ok Try.func60 (by kernel_rfl) (by kernel_rfl) fun a ha=>evS_q mixed tt_ok GIe_ok 100 [] ?_
 refine same (p:=nv a < pN/\endN (nm (eF (ePow (dF a) (nv invF0)))) (nm (eF (eInv (dF a))))) ?_ (by kernel_rfl)
 exact ⟨ha,endN_nm (by rw [nv_inv0];rfl)⟩
end Go.Proofs.Ytnjocbcjejpklaa
namespace Go.Proofs.Ytnjocbcjejpklaa
open Go.Rq Go
abbrev q6 (f:Nat->Nat):Cell:=.ws .u64 6 f
abbrev fz:Nat->Nat:=fun _=>0
abbrev lp (a:Nat->Nat):Prop:=nv a < pN
abbrev eD4 (f g:Fp->Fp->Fp->Fp->Fp) (a b c d:Fp):List Cell:=[.ws .u64 6 (eF (f a b c d)),.ws .u64 6 (eF (g a b c d))]
end Go.Proofs.Ytnjocbcjejpklaa
namespace Go.Proofs.Ytnjocbcjejpklaa
open Go.Rq Go
set_option maxRecDepth 100000
abbrev f2 (a b:Nat->Nat):AV:=.v1 (.agg [q6 a,q6 b])
theorem f2_val {f g f' g':Nat->Nat} (h:nv f = nv f') (k:nv g = nv g') (ρ:Ren):(f2 f g).val ρ = (f2 f' g').val ρ:=by
 have w:∀ {f g:Nat->Nat},nv f = nv g->cvals ρ [q6 f] = cvals ρ [q6 g]:=fun {f g} h=>by
  simp only [cvals,Cell.vals,List.append_nil]
  refine List.map_congr_left fun j hj=>?_
  have hj':=List.mem_range.1 hj
  have e:f j % W = g j % W:=by rw [<-wd_nv f j hj',<-wd_nv g j hj',h]
  simp only [W] at e
  simp only [M,e]
 have c:∀ f g:Nat->Nat,cvals ρ [q6 f,q6 g] = cvals ρ [q6 f] ++ cvals ρ [q6 g]:=fun f g=>by simp [cvals]
 show Value.agg (cvals ρ _).toArray = Value.agg (cvals ρ _).toArray
 rw [c,c,w h,w k]
theorem endN_f2 {f g f' g':Nat->Nat} (h:nv f = nv f') (k:nv g = nv g'):endN (f2 f g) (f2 f' g'):=⟨_,rfl,f2_val h k⟩
theorem nvE {x y:Fp} (h:x = y):nv (eF x) = nv (eF y):=by rw [h]
def q1 (X Y:Fp->Fp->Fp):List AV->Option (List Prop × AV)
 | [.v1 (.agg [.ws .u64 6 a,.ws .u64 6 b])]=>some ([nv a < pN,nv b < pN],f2 (eF (X (dF a) (dF b))) (eF (Y (dF a) (dF b))))
 | _=>none
def q2 (X Y:Fp->Fp->Fp->Fp->Fp):List AV->Option (List Prop × AV)
 | [.v1 (.agg [.ws .u64 6 a,.ws .u64 6 b]),.v1 (.agg [.ws .u64 6 c,.ws .u64 6 d])]=>some ([nv a < pN,nv b < pN,nv c < pN,nv d < pN],f2 (eF (X (dF a) (dF b) (dF c) (dF d))) (eF (Y (dF a) (dF b) (dF c) (dF d))))
 | _=>none
def qs (X Y:Fp->Fp->Fp->Fp):List AV->Option (List Prop × AV)
 | [.v1 (.agg [.ws .u64 6 a,.ws .u64 6 b]),.v1 (.agg [.ws .u64 6 c])]=>some ([nv a < pN,nv b < pN,nv c < pN],f2 (eF (X (dF a) (dF b) (dF c))) (eF (Y (dF a) (dF b) (dF c))))
 | _=>none
def qn (X:Fp->Fp->Fp):List AV->Option (List Prop × AV)
 | [.v1 (.agg [.ws .u64 6 a,.ws .u64 6 b])]=>some ([nv a < pN,nv b < pN],nm (eF (X (dF a) (dF b))))
 | _=>none
theorem q1_ok {X Y:Fp->Fp->Fp} {f:FuncId} {fn:Func} (hf:Try.prog.funcs[f]? = some fn) (hb:fn.body = some (bodyOf fn)) (hn:(fn.name == "runtime.NumGoroutine") = false)
  (h:∀ a b:Nat->Nat,nv a < pN->nv b < pN->AWqS Try.prog (fun _=>False) (flatC (bodyOf fn)) (FEnd' tt fn (f2 (eF (X (dF a) (dF b))) (eF (Y (dF a) (dF b))))) ⟨frame0 [f2 a b] fn.ntmps,[]⟩):(CallC.pure (q1 X Y)).Ok Try.prog f:=by
 intro args pre v e hp
 unfold q1 at e
 split at e
 ·rename_i a b
  cases e
  exact pure_walk' tt_ok hf hb hn (by rfl) (by rfl) (h a b (hp _ (by simp)) (hp _ (by simp)))
 ·cases e
theorem q2_ok {X Y:Fp->Fp->Fp->Fp->Fp} {f:FuncId} {fn:Func} (hf:Try.prog.funcs[f]? = some fn) (hb:fn.body = some (bodyOf fn)) (hn:(fn.name == "runtime.NumGoroutine") = false)
  (h:∀ a b c d:Nat->Nat,nv a < pN->nv b < pN->nv c < pN->nv d < pN->AWqS Try.prog (fun _=>False) (flatC (bodyOf fn)) (FEnd' tt fn (f2 (eF (X (dF a) (dF b) (dF c) (dF d))) (eF (Y (dF a) (dF b) (dF c) (dF d))))) ⟨frame0 [f2 a b,f2 c d] fn.ntmps,[]⟩):(CallC.pure (q2 X Y)).Ok Try.prog f:=by
 intro args pre v e hp
 unfold q2 at e
 split at e
 ·rename_i a b c d
  cases e
  exact pure_walk' tt_ok hf hb hn (by rfl) (by rfl) (h a b c d (hp _ (by simp)) (hp _ (by simp)) (hp _ (by simp)) (hp _ (by simp)))
 ·cases e
theorem qs_ok {X Y:Fp->Fp->Fp->Fp} {f:FuncId} {fn:Func} (hf:Try.prog.funcs[f]? = some fn) (hb:fn.body = some (bodyOf fn)) (hn:(fn.name == "runtime.NumGoroutine") = false)
  (h:∀ a b c:Nat->Nat,nv a < pN->nv b < pN->nv c < pN->AWqS Try.prog (fun _=>False) (flatC (bodyOf fn)) (FEnd' tt fn (f2 (eF (X (dF a) (dF b) (dF c))) (eF (Y (dF a) (dF b) (dF c))))) ⟨frame0 [f2 a b,nm c] fn.ntmps,[]⟩):(CallC.pure (qs X Y)).Ok Try.prog f:=by
 intro args pre v e hp
 unfold qs at e
 split at e
 ·rename_i a b c
  cases e
  exact pure_walk' tt_ok hf hb hn (by rfl) (by rfl) (h a b c (hp _ (by simp)) (hp _ (by simp)) (hp _ (by simp)))
 ·cases e
theorem qn_ok {X:Fp->Fp->Fp} {f:FuncId} {fn:Func} (hf:Try.prog.funcs[f]? = some fn) (hb:fn.body = some (bodyOf fn)) (hn:(fn.name == "runtime.NumGoroutine") = false)
  (h:∀ a b:Nat->Nat,nv a < pN->nv b < pN->AWqS Try.prog (fun _=>False) (flatC (bodyOf fn)) (FEnd' tt fn (nm (eF (X (dF a) (dF b))))) ⟨frame0 [f2 a b] fn.ntmps,[]⟩):(CallC.pure (qn X)).Ok Try.prog f:=by
 intro args pre v e hp
 unfold qn at e
 split at e
 ·rename_i a b
  cases e
  exact pure_walk' tt_ok hf hb hn (by rfl) (by rfl) (h a b (hp _ (by simp)) (hp _ (by simp)))
 ·cases e
def GE:Ctx:=ctxL [(57,.pure (el2 eAdd)),(58,.pure (el2 eSub)),(77,.pure (el1 eNeg)),(59,.pure cEMul)]
theorem GE_ok:CtxOk Try.prog GE:=ctxL_cons okEAdd <| ctxL_cons okESub <| ctxL_cons okENeg <| ctxL_cons okEMul ctxL_nil
def add2x (a _ c _:Fp):Fp:=a + c
def add2y (_ b _ d:Fp):Fp:=b + d
def sub2x (a _ c _:Fp):Fp:=a - c
def sub2y (_ b _ d:Fp):Fp:=b - d
def mul2x (a b c d:Fp):Fp:=a * c - b * d
def mul2y (a b c d:Fp):Fp:=a * d + b * c
def neg2x (a _:Fp):Fp:=0 - a
def neg2y (_ b:Fp):Fp:=0 - b
def cj2x (a _:Fp):Fp:=a
def cj2y (_ b:Fp):Fp:=0 - b
def sc2x (a _ n:Fp):Fp:=a * n
def sc2y (_ b n:Fp):Fp:=b * n
def nor2 (a b:Fp):Fp:=a * a + b * b
theorem okAdd2:(CallC.pure (q2 add2x add2y)).Ok Try.prog 54:=by
 refine q2_ok Try.func54 (by kernel_rfl) (by kernel_rfl) fun a b c d ha hb hc hd=>evS_q mixed tt_ok GE_ok 100 [] ?_
 refine same (p:=nv a < pN/\lp c/\lp b/\lp d/\endN (f2 (eF (eAdd (dF a) (dF c))) (eF (eAdd (dF b) (dF d)))) (f2 (eF (add2x (dF a) (dF b) (dF c) (dF d))) (eF (add2y (dF a) (dF b) (dF c) (dF d))))) ?_ (by kernel_rfl)
 exact ⟨ha,hc,hb,hd,endN_f2 (nvE (by (try simp only [dF_eF]);(try unfold eAdd);(try unfold eSub);(try unfold eNeg);(try unfold eMul);(try unfold add2x);(try unfold add2y);grind)) (nvE (by (try simp only [dF_eF]);(try unfold eAdd);(try unfold eSub);(try unfold eNeg);(try unfold eMul);(try unfold add2x);(try unfold add2y);grind))⟩
theorem okSub2:(CallC.pure (q2 sub2x sub2y)).Ok Try.prog 53:=by
 refine q2_ok Try.func53 (by kernel_rfl) (by kernel_rfl) fun a b c d ha hb hc hd=>evS_q mixed tt_ok GE_ok 100 [] ?_
 refine same (p:=nv a < pN/\lp c/\lp b/\lp d/\endN (f2 (eF (eSub (dF a) (dF c))) (eF (eSub (dF b) (dF d)))) (f2 (eF (sub2x (dF a) (dF b) (dF c) (dF d))) (eF (sub2y (dF a) (dF b) (dF c) (dF d))))) ?_ (by kernel_rfl)
 exact ⟨ha,hc,hb,hd,endN_f2 (nvE (by (try simp only [dF_eF]);(try unfold eAdd);(try unfold eSub);(try unfold eNeg);(try unfold eMul);(try unfold sub2x);(try unfold sub2y);grind)) (nvE (by (try simp only [dF_eF]);(try unfold eAdd);(try unfold eSub);(try unfold eNeg);(try unfold eMul);(try unfold sub2x);(try unfold sub2y);grind))⟩
theorem okNeg2:(CallC.pure (q1 neg2x neg2y)).Ok Try.prog 92:=by
 refine q1_ok Try.func92 (by kernel_rfl) (by kernel_rfl) fun a b ha hb=>evS_q mixed tt_ok GE_ok 100 [] ?_
 refine same (p:=nv a < pN/\lp b/\endN (f2 (eF (eNeg (dF a))) (eF (eNeg (dF b)))) (f2 (eF (neg2x (dF a) (dF b))) (eF (neg2y (dF a) (dF b))))) ?_ (by kernel_rfl)
 exact ⟨ha,hb,endN_f2 (nvE (by (try simp only [dF_eF]);(try unfold eAdd);(try unfold eSub);(try unfold eNeg);(try unfold eMul);(try unfold neg2x);(try unfold neg2y);grind)) (nvE (by (try simp only [dF_eF]);(try unfold eAdd);(try unfold eSub);(try unfold eNeg);(try unfold eMul);(try unfold neg2x);(try unfold neg2y);grind))⟩
theorem okConj2:(CallC.pure (q1 cj2x cj2y)).Ok Try.prog 51:=by
 refine q1_ok Try.func51 (by kernel_rfl) (by kernel_rfl) fun a b ha hb=>evS_q mixed tt_ok GE_ok 100 [] ?_
 refine same (p:=nv b < pN/\endN (f2 a (eF (eNeg (dF b)))) (f2 (eF (cj2x (dF a) (dF b))) (eF (cj2y (dF a) (dF b))))) ?_ (by kernel_rfl)
 exact ⟨hb,endN_f2 ((eF_dF ha).symm) (nvE (by (try simp only [dF_eF]);(try unfold eAdd);(try unfold eSub);(try unfold eNeg);(try unfold eMul);(try unfold cj2x);(try unfold cj2y);grind))⟩
theorem okMul2:(CallC.pure (q2 mul2x mul2y)).Ok Try.prog 50:=by
 refine q2_ok Try.func50 (by kernel_rfl) (by kernel_rfl) fun a b c d ha hb hc hd=>evS_q mixed tt_ok GE_ok 100 [] ?_
 refine same (p:=nv a < pN/\lp b/\lp a/\lp b/\lp c/\lp d/\lp (eF (eAdd (dF a) (dF b)))/\lp (eF (eMul (dF a) (dF c)))/\lp (eF (eMul (dF b) (dF d)))/\nv (eF (eMul (dF (eF (eAdd (dF a) (dF b)))) (dF (eF (eAdd (dF c) (dF d)))))) < pN/\lp (eF (eMul (dF a) (dF c)))/\nv (eF (eSub (dF (eF (eMul (dF (eF (eAdd (dF a) (dF b)))) (dF (eF (eAdd (dF c) (dF d))))))) (dF (eF (eMul (dF a) (dF c)))))) < pN/\lp (eF (eMul (dF b) (dF d)))/\endN (f2 (eF (eSub (dF (eF (eMul (dF a) (dF c)))) (dF (eF (eMul (dF b) (dF d)))))) (eF (eSub (dF (eF (eSub (dF (eF (eMul (dF (eF (eAdd (dF a) (dF b)))) (dF (eF (eAdd (dF c) (dF d))))))) (dF (eF (eMul (dF a) (dF c))))))) (dF (eF (eMul (dF b) (dF d))))))) (f2 (eF (mul2x (dF a) (dF b) (dF c) (dF d))) (eF (mul2y (dF a) (dF b) (dF c) (dF d))))) ?_ (by kernel_rfl)
 exact ⟨ha,hb,ha,hb,hc,hd,lt_eF _,lt_eF _,lt_eF _,lt_eF _,lt_eF _,lt_eF _,lt_eF _,endN_f2 (nvE (by (try simp only [dF_eF]);(try unfold eAdd);(try unfold eSub);(try unfold eNeg);(try unfold eMul);(try unfold mul2x);(try unfold mul2y);grind)) (nvE (by (try simp only [dF_eF]);(try unfold eAdd);(try unfold eSub);(try unfold eNeg);(try unfold eMul);(try unfold mul2x);(try unfold mul2y);grind))⟩
theorem okScale:(CallC.pure (qs sc2x sc2y)).Ok Try.prog 88:=by
 refine qs_ok Try.func88 (by kernel_rfl) (by kernel_rfl) fun a b c ha hb hc=>evS_q mixed tt_ok GE_ok 100 [] ?_
 refine same (p:=nv a < pN/\lp b/\endN (f2 (eF (eMul (dF a) (dF c))) (eF (eMul (dF b) (dF c)))) (f2 (eF (sc2x (dF a) (dF b) (dF c))) (eF (sc2y (dF a) (dF b) (dF c))))) ?_ (by kernel_rfl)
 exact ⟨ha,hb,endN_f2 (nvE (by (try simp only [dF_eF]);(try unfold eAdd);(try unfold eSub);(try unfold eNeg);(try unfold eMul);(try unfold sc2x);(try unfold sc2y);grind)) (nvE (by (try simp only [dF_eF]);(try unfold eAdd);(try unfold eSub);(try unfold eNeg);(try unfold eMul);(try unfold sc2x);(try unfold sc2y);grind))⟩
theorem okNorm:(CallC.pure (qn nor2)).Ok Try.prog 89:=by
 refine qn_ok Try.func89 (by kernel_rfl) (by kernel_rfl) fun a b ha hb=>evS_q mixed tt_ok GE_ok 100 [] ?_
 refine same (p:=nv a < pN/\lp b/\lp (eF (eMul (dF a) (dF a)))/\lp (eF (eMul (dF b) (dF b)))/\endN (nm (eF (eAdd (dF (eF (eMul (dF a) (dF a)))) (dF (eF (eMul (dF b) (dF b))))))) (nm (eF (nor2 (dF a) (dF b))))) ?_ (by kernel_rfl)
 exact ⟨ha,hb,lt_eF _,lt_eF _,endN_nm (nvE (by (try simp only [dF_eF]);(try unfold eAdd);(try unfold eSub);(try unfold eNeg);(try unfold eMul);(try unfold nor2);grind))⟩
end Go.Proofs.Ytnjocbcjejpklaa
namespace Go.Rq
open Go
abbrev appC {C:Type->Type} {α:Type} (_:C α):Type->Type:=C
abbrev CR:Type->Type:=appC Dyadic.instCommRing
namespace Rg
variable {R:Type} [i:CR R]
def nc (n:Nat):R:=i.toRing.toSemiring.natCast.natCast n
def ic (n:Int):R:=i.toRing.intCast.intCast n
theorem pow_zero (a:R):a ^ 0 = 1:=i.toRing.toSemiring.pow_zero a
theorem pow_succ (a:R) (n:Nat):a ^ (n + 1) = a ^ n * a:=i.toRing.toSemiring.pow_succ a n
theorem ofNat_succ (n:Nat):OfNat.ofNat (α:=R) (n + 1) = OfNat.ofNat n + 1:=i.toRing.toSemiring.ofNat_succ n
theorem ofNat_nc (n:Nat):OfNat.ofNat (α:=R) n = nc n:=i.toRing.toSemiring.ofNat_eq_natCast n
theorem nc_zero:nc (R:=R) 0 = 0:=(ofNat_nc 0).symm
theorem nc_one:nc (R:=R) 1 = 1:=(ofNat_nc 1).symm
theorem nc_succ (n:Nat):nc (R:=R) (n + 1) = nc n + 1:=by rw [<-ofNat_nc,ofNat_succ,ofNat_nc]
theorem ic_neg (n:Int):ic (R:=R) (-n) = -ic n:=i.toRing.intCast_neg n
theorem ic_ofNat (n:Nat):ic (R:=R) (OfNat.ofNat n) = OfNat.ofNat n:=i.toRing.intCast_ofNat n
theorem ic_nat (n:Nat):ic (R:=R) (n:Int) = nc n:=by rw [<-ofNat_nc];exact ic_ofNat n
theorem mul_comm (a b:R):a * b = b * a:=by grind
theorem mul_one (a:R):a * 1 = a:=by grind
theorem one_mul (a:R):1 * a = a:=by grind
theorem mul_zero (a:R):a * 0 = 0:=by grind
theorem zero_mul (a:R):0 * a = 0:=by grind
theorem add_zero (a:R):a + 0 = a:=by grind
theorem sub_self (a:R):a - a = 0:=by grind
theorem mul_assoc (a b c:R):a * b * c = a * (b * c):=by grind
theorem nc_add (a:Nat):∀ b:Nat,nc (R:=R) (a + b) = nc a + nc b
 | 0=>by rw [nc_zero,Nat.add_zero,add_zero]
 | b + 1=>by rw [<-Nat.add_assoc,nc_succ,nc_add a b,nc_succ];grind
theorem nc_mul (a:Nat):∀ b:Nat,nc (R:=R) (a * b) = nc a * nc b
 | 0=>by rw [nc_zero,Nat.mul_zero,nc_zero,mul_zero]
 | b + 1=>by rw [Nat.mul_succ,nc_add,nc_mul a b,nc_succ];grind
theorem pow_one (a:R):a ^ 1 = a:=by rw [pow_succ,pow_zero,one_mul]
theorem pow_two (a:R):a ^ 2 = a * a:=by rw [pow_succ,pow_one]
theorem pow_add (a:R) (m:Nat):∀ n:Nat,a ^ (m + n) = a ^ m * a ^ n
 | 0=>by rw [Nat.add_zero,pow_zero,mul_one]
 | n + 1=>by rw [<-Nat.add_assoc,pow_succ,pow_add a m n,pow_succ,mul_assoc]
theorem one_pow:∀ n:Nat,(1:R) ^ n = 1
 | 0=>pow_zero _
 | n + 1=>by rw [pow_succ,one_pow n,mul_one]
end Rg
end Go.Rq
namespace Go.Rq
open Go
structure F2p where
 x:Fp
 y:Fp
theorem F2p.ext {a b:F2p} (h1:a.x = b.x) (h2:a.y = b.y):a = b:=by cases a;cases b;simp_all
def nc (n:Nat):Fp:=Rg.nc n
def ic (n:Int):Fp:=Rg.ic n
theorem fp1 (u v:Fp):u * 1 - v * 0 = u:=by grind
theorem fp2 (u v:Fp):u * 0 + v * 1 = v:=by grind
theorem fp3 (u v:Fp):1 * u - 0 * v = u:=by rw [Fin.mul_comm 1 u,Fin.mul_comm 0 v];exact fp1 u v
theorem fp4 (u v:Fp):1 * v + 0 * u = v:=by rw [Fin.mul_comm 1 v,Fin.mul_comm 0 u];grind
theorem fpz (u:Fp):u * 0 = 0:=Rg.mul_zero u
theorem fps (u:Fp):u - u = 0:=Rg.sub_self u
theorem fp7 (u v:Fp):u * 0 - v * 0 = 0:=by rw [fpz,fpz];exact fps 0
theorem fp8 (u v:Fp):u * 0 + v * 0 = 0:=by rw [fpz,fpz];exact Rg.add_zero 0
theorem fp5 (u v:Fp):0 * u - 0 * v = 0:=by rw [Fin.mul_comm 0 u,Fin.mul_comm 0 v];exact fp7 u v
theorem fp6 (u v:Fp):0 * v + 0 * u = 0:=by rw [Fin.mul_comm 0 u,Fin.mul_comm 0 v];exact fp8 v u
theorem fp9 (c u v:Fp):c * u = c * u - 0 * v:=by rw [Fin.mul_comm 0 v];grind
theorem fp0 (c u v:Fp):c * u = c * u + 0 * v:=by rw [Fin.mul_comm 0 v];grind
namespace F2p
def npow (a:F2p):Nat->F2p
 | 0=>⟨1,0⟩
 | n + 1=>⟨(npow a n).x * a.x - (npow a n).y * a.y,(npow a n).x * a.y + (npow a n).y * a.x⟩
instance:Add F2p:=⟨fun a b=>⟨a.x + b.x,a.y + b.y⟩⟩
instance:Sub F2p:=⟨fun a b=>⟨a.x - b.x,a.y - b.y⟩⟩
instance:Neg F2p:=⟨fun a=>⟨-a.x,-a.y⟩⟩
instance:Mul F2p:=⟨fun a b=>⟨a.x * b.x - a.y * b.y,a.x * b.y + a.y * b.x⟩⟩
instance:NatCast F2p:=⟨fun n=>⟨nc n,0⟩⟩
instance:IntCast F2p:=⟨fun n=>⟨ic n,0⟩⟩
instance (n:Nat):OfNat F2p n:=⟨⟨OfNat.ofNat n,0⟩⟩
instance:SMul Nat F2p:=⟨fun n a=>⟨nc n * a.x,nc n * a.y⟩⟩
instance:SMul Int F2p:=⟨fun n a=>⟨ic n * a.x,ic n * a.y⟩⟩
instance:HPow F2p Nat F2p:=⟨npow⟩
theorem add_x (a b:F2p):(a + b).x = a.x + b.x:=rfl
theorem add_y (a b:F2p):(a + b).y = a.y + b.y:=rfl
theorem sub_x (a b:F2p):(a - b).x = a.x - b.x:=rfl
theorem sub_y (a b:F2p):(a - b).y = a.y - b.y:=rfl
theorem neg_x (a:F2p):(-a).x = -a.x:=rfl
theorem neg_y (a:F2p):(-a).y = -a.y:=rfl
theorem mul_x (a b:F2p):(a * b).x = a.x * b.x - a.y * b.y:=rfl
theorem mul_y (a b:F2p):(a * b).y = a.x * b.y + a.y * b.x:=rfl
theorem one_x:(1:F2p).x = 1:=rfl
theorem one_y:(1:F2p).y = 0:=rfl
theorem zero_x:(0:F2p).x = 0:=rfl
theorem zero_y:(0:F2p).y = 0:=rfl
theorem ic_neg (i:Int):ic (-i) = -ic i:=Rg.ic_neg i
theorem ic_nat (n:Nat):ic (n:Int) = nc n:=Rg.ic_nat n
instance:CR F2p where
 natCast:=inferInstance
 ofNat:=inferInstance
 nsmul:=inferInstance
 npow:=inferInstance
 intCast:=inferInstance
 zsmul:=inferInstance
 add_zero a:=F2p.ext (by rw [add_x,zero_x];grind) (by rw [add_y,zero_y];grind)
 add_comm a b:=F2p.ext (by rw [add_x,add_x];grind) (by rw [add_y,add_y];grind)
 add_assoc a b c:=F2p.ext (by simp only [add_x];grind) (by simp only [add_y];grind)
 mul_assoc a b c:=F2p.ext (by simp only [mul_x,mul_y];grind) (by simp only [mul_x,mul_y];grind)
 mul_one a:=F2p.ext (fp1 a.x a.y) (fp2 a.x a.y)
 one_mul a:=F2p.ext (fp3 a.x a.y) (fp4 a.x a.y)
 left_distrib a b c:=F2p.ext (by simp only [mul_x,add_x,add_y];grind) (by simp only [mul_y,add_x,add_y];grind)
 right_distrib a b c:=F2p.ext (by simp only [mul_x,add_x,add_y];grind) (by simp only [mul_y,add_x,add_y];grind)
 zero_mul a:=F2p.ext (fp5 a.x a.y) (fp6 a.x a.y)
 mul_zero a:=F2p.ext (fp7 a.x a.y) (fp8 a.x a.y)
 pow_zero _:=rfl
 pow_succ _ _:=rfl
 ofNat_succ n:=F2p.ext (Rg.ofNat_succ n) (Rg.add_zero (0:Fp)).symm
 ofNat_eq_natCast n:=F2p.ext (Rg.ofNat_nc n) rfl
 nsmul_eq_natCast_mul n a:=F2p.ext (fp9 (nc n) a.x a.y) (fp0 (nc n) a.y a.x)
 neg_add_cancel a:=F2p.ext (by rw [add_x,neg_x,zero_x];grind) (by rw [add_y,neg_y,zero_y];grind)
 sub_eq_add_neg a b:=F2p.ext (by rw [add_x,neg_x,sub_x];grind) (by rw [add_y,neg_y,sub_y];grind)
 neg_zsmul i a:=F2p.ext (by show ic (-i) * a.x = -(ic i * a.x);rw [ic_neg];grind) (by show ic (-i) * a.y = -(ic i * a.y);rw [ic_neg];grind)
 zsmul_natCast_eq_nsmul n a:=F2p.ext (by show ic (n:Int) * a.x = nc n * a.x;rw [ic_nat]) (by show ic (n:Int) * a.y = nc n * a.y;rw [ic_nat])
 intCast_ofNat n:=F2p.ext (Rg.ic_ofNat n) rfl
 intCast_neg i:=F2p.ext (Rg.ic_neg i) (by show (0:Fp) = -0;grind)
 mul_comm a b:=F2p.ext (by rw [mul_x,mul_x];grind) (by rw [mul_y,mul_y];grind)
end F2p
end Go.Rq
namespace Go.Proofs.Ytnjocbcjejpklaa
open Go.Rq Go
abbrev vC2 (s:F2p):List Cell:=[.ws .u64 6 (vF s.x),.ws .u64 6 (vF s.y)]
abbrev eC2 (s:F2p):List Cell:=[.ws .u64 6 (eF s.x),.ws .u64 6 (eF s.y)]
end Go.Proofs.Ytnjocbcjejpklaa
namespace Go.Rq
open Go
structure S6 where
 u:F2p
 v:F2p
 w:F2p
def xi (a:F2p):F2p:=⟨a.x - a.y,a.x + a.y⟩
def kx:F2p:=⟨1,1⟩
theorem xi_mul (a:F2p):xi a = a * kx:=F2p.ext (by rw [F2p.mul_x];show a.x - a.y = a.x * 1 - a.y * 1;grind) (by rw [F2p.mul_y];show a.x + a.y = a.x * 1 + a.y * 1;grind)
theorem S6.ext {a b:S6} (h1:a.u = b.u) (h2:a.v = b.v) (h3:a.w = b.w):a = b:=by cases a;cases b;simp_all
namespace S6
def add (a b:S6):S6:=⟨a.u + b.u,a.v + b.v,a.w + b.w⟩
def sub (a b:S6):S6:=⟨a.u - b.u,a.v - b.v,a.w - b.w⟩
def next (a:S6):S6:=⟨xi a.w,a.u,a.v⟩
def mul (a b:S6):S6:=⟨a.u * b.u + xi (a.v * b.w + a.w * b.v),a.u * b.v + a.v * b.u + xi (a.w * b.w),a.u * b.w + a.w * b.u + a.v * b.v⟩
def npow (a:S6):Nat->S6
 | 0=>⟨1,0,0⟩
 | n + 1=>mul (npow a n) a
instance:Add S6:=⟨add⟩
instance:Sub S6:=⟨sub⟩
instance:Neg S6:=⟨fun a=>⟨-a.u,-a.v,-a.w⟩⟩
instance:Mul S6:=⟨mul⟩
def nc (n:Nat):F2p:=Rg.nc n
def ic (n:Int):F2p:=Rg.ic n
instance:NatCast S6:=⟨fun n=>⟨nc n,0,0⟩⟩
instance:IntCast S6:=⟨fun n=>⟨ic n,0,0⟩⟩
instance (n:Nat):OfNat S6 n:=⟨⟨OfNat.ofNat n,0,0⟩⟩
instance:SMul Nat S6:=⟨fun n a=>⟨nc n * a.u,nc n * a.v,nc n * a.w⟩⟩
instance:SMul Int S6:=⟨fun n a=>⟨ic n * a.u,ic n * a.v,ic n * a.w⟩⟩
instance:HPow S6 Nat S6:=⟨npow⟩
theorem add_u (a b:S6):(a + b).u = a.u + b.u:=rfl
theorem add_v (a b:S6):(a + b).v = a.v + b.v:=rfl
theorem add_w (a b:S6):(a + b).w = a.w + b.w:=rfl
theorem sub_u (a b:S6):(a - b).u = a.u - b.u:=rfl
theorem sub_v (a b:S6):(a - b).v = a.v - b.v:=rfl
theorem sub_w (a b:S6):(a - b).w = a.w - b.w:=rfl
theorem neg_u (a:S6):(-a).u = -a.u:=rfl
theorem neg_v (a:S6):(-a).v = -a.v:=rfl
theorem neg_w (a:S6):(-a).w = -a.w:=rfl
theorem mul_u (a b:S6):(a * b).u = a.u * b.u + (a.v * b.w + a.w * b.v) * kx:=by rw [<-xi_mul];rfl
theorem mul_v (a b:S6):(a * b).v = a.u * b.v + a.v * b.u + a.w * b.w * kx:=by rw [<-xi_mul];rfl
theorem mul_w (a b:S6):(a * b).w = a.u * b.w + a.w * b.u + a.v * b.v:=rfl
theorem ic_neg (i:Int):ic (-i) = -ic i:=Rg.ic_neg i
theorem ic_nat (n:Nat):ic (n:Int) = nc n:=Rg.ic_nat n
section
variable {R:Type} [CR R]
theorem g1 (u v w k:R):u * 1 + (v * 0 + w * 0) * k = u:=by grind
theorem g2 (u v w k:R):u * 0 + v * 1 + w * 0 * k = v:=by grind
theorem g3 (u v w:R):u * 0 + w * 1 + v * 0 = w:=by grind
theorem g4 (u v w k:R):0 * u + (0 * w + 0 * v) * k = 0:=by grind
theorem g5 (u v w k:R):0 * v + 0 * u + 0 * w * k = 0:=by grind
theorem g6 (u v w:R):0 * w + 0 * u + 0 * v = 0:=by grind
theorem g7 (c u v w k:R):c * u = c * u + (0 * w + 0 * v) * k:=by grind
theorem g8 (c u v w k:R):c * v = c * v + 0 * u + 0 * w * k:=by grind
theorem g9 (c u v w:R):c * w = c * w + 0 * u + 0 * v:=by grind
theorem gn (a:R):-a + a = 0:=by grind
theorem gz (a:R):a + 0 = a:=by grind
theorem gzz:(0:R) = -0:=by grind
theorem c1 (u v w x y z k:R):u * x + (v * z + w * y) * k = x * u + (y * w + z * v) * k:=by grind
theorem c2 (u v w x y z k:R):u * y + v * x + w * z * k = x * v + y * u + z * w * k:=by grind
theorem c3 (u v w x y z:R):u * z + w * x + v * y = x * w + z * u + y * v:=by grind
end
theorem mulc (a b:S6):a * b = b * a:=S6.ext (by rw [mul_u,mul_u];exact c1 _ _ _ _ _ _ _) (by rw [mul_v,mul_v];exact c2 _ _ _ _ _ _ _) (by rw [mul_w,mul_w];exact c3 _ _ _ _ _ _)
theorem mul1 (a:S6):a * 1 = a:=S6.ext (by rw [mul_u];exact g1 _ _ _ _) (by rw [mul_v];exact g2 _ _ _ _) (by rw [mul_w];exact g3 _ _ _)
theorem zmul (a:S6):0 * a = 0:=S6.ext (by rw [mul_u];exact g4 _ _ _ _) (by rw [mul_v];exact g5 _ _ _ _) (by rw [mul_w];exact g6 _ _ _)
theorem ldis (a b c:S6):a * (b + c) = a * b + a * c:=S6.ext (by simp only [mul_u,add_u,add_v,add_w];grind) (by simp only [mul_v,add_u,add_v,add_w];grind) (by simp only [mul_w,add_u,add_v,add_w];grind)
instance:CR S6 where
 natCast:=inferInstance
 ofNat:=inferInstance
 nsmul:=inferInstance
 npow:=inferInstance
 intCast:=inferInstance
 zsmul:=inferInstance
 add_zero a:=S6.ext (gz _) (gz _) (gz _)
 add_comm a b:=S6.ext (by rw [add_u,add_u];grind) (by rw [add_v,add_v];grind) (by rw [add_w,add_w];grind)
 add_assoc a b c:=S6.ext (by simp only [add_u];grind) (by simp only [add_v];grind) (by simp only [add_w];grind)
 mul_assoc a b c:=S6.ext (by simp only [mul_u,mul_v,mul_w];grind) (by simp only [mul_u,mul_v,mul_w];grind) (by simp only [mul_u,mul_v,mul_w];grind)
 mul_one:=mul1
 zero_mul:=zmul
 left_distrib:=ldis
 one_mul a:=by rw [mulc];exact mul1 a
 mul_zero a:=by rw [mulc];exact zmul a
 right_distrib a b c:=by rw [mulc,ldis,mulc c,mulc c]
 pow_zero _:=rfl
 pow_succ _ _:=rfl
 ofNat_succ n:=S6.ext (Rg.ofNat_succ n) (gz 0).symm (gz 0).symm
 ofNat_eq_natCast n:=S6.ext (Rg.ofNat_nc n) rfl rfl
 nsmul_eq_natCast_mul n a:=S6.ext (by rw [mul_u];exact g7 (nc n) _ _ _ _) (by rw [mul_v];exact g8 (nc n) _ _ _ _) (by rw [mul_w];exact g9 (nc n) _ _ _)
 neg_add_cancel a:=S6.ext (gn _) (gn _) (gn _)
 sub_eq_add_neg a b:=S6.ext (by rw [add_u,neg_u,sub_u];grind) (by rw [add_v,neg_v,sub_v];grind) (by rw [add_w,neg_w,sub_w];grind)
 neg_zsmul i a:=S6.ext (by show ic (-i) * a.u = -(ic i * a.u);rw [ic_neg];grind) (by show ic (-i) * a.v = -(ic i * a.v);rw [ic_neg];grind) (by show ic (-i) * a.w = -(ic i * a.w);rw [ic_neg];grind)
 zsmul_natCast_eq_nsmul n a:=S6.ext (by show ic (n:Int) * a.u = nc n * a.u;rw [ic_nat]) (by show ic (n:Int) * a.v = nc n * a.v;rw [ic_nat]) (by show ic (n:Int) * a.w = nc n * a.w;rw [ic_nat])
 intCast_ofNat n:=S6.ext (Rg.ic_ofNat n) rfl rfl
 intCast_neg i:=S6.ext (Rg.ic_neg i) gzz gzz
 mul_comm:=mulc
def vv:S6:=⟨0,1,0⟩
theorem next_mul (a:S6):next a = a * vv:=S6.ext
 (by rw [mul_u];show xi a.w = a.u * 0 + (a.v * 0 + a.w * 1) * kx;rw [xi_mul];generalize kx = k;grind)
 (by rw [mul_v];show a.u = a.u * 1 + a.v * 0 + a.w * 0 * kx;generalize kx = k;grind)
 (by rw [mul_w];show a.v = a.u * 0 + a.w * 0 + a.v * 1;grind)
end S6
structure S12 where
 p:S6
 q:S6
theorem S12.ext {a b:S12} (h1:a.p = b.p) (h2:a.q = b.q):a = b:=by cases a;cases b;simp_all
namespace S12
def add (a b:S12):S12:=⟨a.p + b.p,a.q + b.q⟩
def sub (a b:S12):S12:=⟨a.p - b.p,a.q - b.q⟩
def mul (a b:S12):S12:=⟨(a.p.mul b.p).add (a.q.mul b.q).next,(a.p.mul b.q).add (a.q.mul b.p)⟩
def npow (a:S12):Nat->S12
 | 0=>⟨1,0⟩
 | n + 1=>mul (npow a n) a
instance:Add S12:=⟨add⟩
instance:Sub S12:=⟨sub⟩
instance:Neg S12:=⟨fun a=>⟨-a.p,-a.q⟩⟩
instance:Mul S12:=⟨mul⟩
def nc (n:Nat):S6:=Rg.nc n
def ic (n:Int):S6:=Rg.ic n
instance:NatCast S12:=⟨fun n=>⟨nc n,0⟩⟩
instance:IntCast S12:=⟨fun n=>⟨ic n,0⟩⟩
instance (n:Nat):OfNat S12 n:=⟨⟨OfNat.ofNat n,0⟩⟩
instance:SMul Nat S12:=⟨fun n a=>⟨nc n * a.p,nc n * a.q⟩⟩
instance:SMul Int S12:=⟨fun n a=>⟨ic n * a.p,ic n * a.q⟩⟩
instance:HPow S12 Nat S12:=⟨npow⟩
theorem add_p (a b:S12):(a + b).p = a.p + b.p:=rfl
theorem add_q (a b:S12):(a + b).q = a.q + b.q:=rfl
theorem sub_p (a b:S12):(a - b).p = a.p - b.p:=rfl
theorem sub_q (a b:S12):(a - b).q = a.q - b.q:=rfl
theorem neg_p (a:S12):(-a).p = -a.p:=rfl
theorem neg_q (a:S12):(-a).q = -a.q:=rfl
theorem mul_p (a b:S12):(a * b).p = a.p * b.p + a.q * b.q * S6.vv:=by rw [<-S6.next_mul];rfl
theorem mul_q (a b:S12):(a * b).q = a.p * b.q + a.q * b.p:=rfl
theorem ic_neg (i:Int):ic (-i) = -ic i:=Rg.ic_neg i
theorem ic_nat (n:Nat):ic (n:Int) = nc n:=Rg.ic_nat n
section
variable {R:Type} [CR R]
theorem g1 (u v k:R):u * 1 + v * 0 * k = u:=by grind
theorem g2 (u v:R):u * 0 + v * 1 = v:=by grind
theorem g4 (u v k:R):0 * u + 0 * v * k = 0:=by grind
theorem g5 (u v:R):0 * v + 0 * u = 0:=by grind
theorem g7 (c u v k:R):c * u = c * u + 0 * v * k:=by grind
theorem g8 (c u v:R):c * v = c * v + 0 * u:=by grind
end
open S6 (gz gn gzz)
theorem mulc (a b:S12):a * b = b * a:=S12.ext (by rw [mul_p,mul_p];generalize S6.vv = k;grind) (by rw [mul_q,mul_q];grind)
theorem mul1 (a:S12):a * 1 = a:=S12.ext (by rw [mul_p];exact g1 _ _ _) (by rw [mul_q];exact g2 _ _)
theorem zmul (a:S12):0 * a = 0:=S12.ext (by rw [mul_p];exact g4 _ _ _) (by rw [mul_q];exact g5 _ _)
theorem ldis (a b c:S12):a * (b + c) = a * b + a * c:=S12.ext (by simp only [mul_p,add_p,add_q];generalize S6.vv = k;grind) (by simp only [mul_q,add_p,add_q];grind)
instance:CR S12 where
 natCast:=inferInstance
 ofNat:=inferInstance
 nsmul:=inferInstance
 npow:=inferInstance
 intCast:=inferInstance
 zsmul:=inferInstance
 add_zero a:=S12.ext (gz _) (gz _)
 add_comm a b:=S12.ext (by rw [add_p,add_p];grind) (by rw [add_q,add_q];grind)
 add_assoc a b c:=S12.ext (by simp only [add_p];grind) (by simp only [add_q];grind)
 mul_assoc a b c:=S12.ext (by simp only [mul_p,mul_q];generalize S6.vv = k;grind) (by simp only [mul_p,mul_q];generalize S6.vv = k;grind)
 mul_one:=mul1
 zero_mul:=zmul
 left_distrib:=ldis
 one_mul a:=by rw [mulc];exact mul1 a
 mul_zero a:=by rw [mulc];exact zmul a
 right_distrib a b c:=by rw [mulc,ldis,mulc c,mulc c]
 pow_zero _:=rfl
 pow_succ _ _:=rfl
 ofNat_succ n:=S12.ext (Rg.ofNat_succ n) (gz 0).symm
 ofNat_eq_natCast n:=S12.ext (Rg.ofNat_nc n) rfl
 nsmul_eq_natCast_mul n a:=S12.ext (by rw [mul_p];exact g7 (nc n) _ _ _) (by rw [mul_q];exact g8 (nc n) _ _)
 neg_add_cancel a:=S12.ext (gn _) (gn _)
 sub_eq_add_neg a b:=S12.ext (by rw [add_p,neg_p,sub_p];grind) (by rw [add_q,neg_q,sub_q];grind)
 neg_zsmul i a:=S12.ext (by show ic (-i) * a.p = -(ic i * a.p);rw [ic_neg];grind) (by show ic (-i) * a.q = -(ic i * a.q);rw [ic_neg];grind)
 zsmul_natCast_eq_nsmul n a:=S12.ext (by show ic (n:Int) * a.p = nc n * a.p;rw [ic_nat]) (by show ic (n:Int) * a.q = nc n * a.q;rw [ic_nat])
 intCast_ofNat n:=S12.ext (Rg.ic_ofNat n) rfl
 intCast_neg i:=S12.ext (Rg.ic_neg i) gzz
 mul_comm:=mulc
end S12
end Go.Rq
namespace Go.Rq
open Go
section
variable {α:Type} [CR α]
theorem mul_pow' (x y:α):∀ n:Nat,(x * y) ^ n = x ^ n * y ^ n
 | 0=>by rw [Rg.pow_zero,Rg.pow_zero,Rg.pow_zero];grind
 | n + 1=>by rw [Rg.pow_succ,Rg.pow_succ,Rg.pow_succ,mul_pow' x y n];grind
theorem pow_mul' (x:α) (m:Nat):∀ n:Nat,x ^ (m * n) = (x ^ m) ^ n
 | 0=>by rw [Nat.mul_zero,Rg.pow_zero,Rg.pow_zero]
 | n + 1=>by rw [Nat.mul_succ,Rg.pow_add,pow_mul' x m n,Rg.pow_succ]
theorem pow_zero_pos {n:Nat} (h:0 < n):(0:α) ^ n = 0:=by
 obtain ⟨m,rfl⟩:∃ m,n = m + 1:=⟨n - 1,by omega⟩
 rw [Rg.pow_succ];grind
def bS (x y:α) (n:Nat):Nat->α
 | 0=>1
 | k + 1=>y * bS x y n k + Rg.nc (R:=α) (chs n (k + 1)) * x ^ (k + 1)
theorem bS_step (x y:α) (n:Nat):∀ k,bS x y (n + 1) (k + 1) = bS x y n (k + 1) + x * bS x y n k
 | 0=>by
  have e:chs (n + 1) (0 + 1) = chs n 0 + chs n 1:=rfl
  simp only [bS]
  rw [e,chs_zero,Rg.nc_add,Rg.nc_one,Rg.pow_one]
  grind
 | k + 1=>by
  have ih:=bS_step x y n k
  have e:chs (n + 1) (k + 2) = chs n (k + 1) + chs n (k + 2):=rfl
  have e1:bS x y n (k + 1) = y * bS x y n k + Rg.nc (R:=α) (chs n (k + 1)) * x ^ (k + 1):=rfl
  show y * bS x y (n + 1) (k + 1) + Rg.nc (R:=α) (chs (n + 1) (k + 2)) * x ^ (k + 2) = (y * bS x y n (k + 1) + Rg.nc (R:=α) (chs n (k + 2)) * x ^ (k + 2)) + x * bS x y n (k + 1)
  rw [ih,e,Rg.nc_add,Rg.pow_succ x (k + 1)]
  generalize x ^ (k + 1) = P at *
  generalize bS x y n k = B at *
  generalize bS x y n (k + 1) = C at *
  generalize Rg.nc (R:=α) (chs n (k + 1)) = c at *
  generalize Rg.nc (R:=α) (chs n (k + 2)) = d at *
  grind
theorem bS_pow (x y:α):∀ n,bS x y n n = (x + y) ^ n
 | 0=>by rw [Rg.pow_zero];rfl
 | n + 1=>by
  rw [bS_step]
  show (y * bS x y n n + Rg.nc (R:=α) (chs n (n + 1)) * x ^ (n + 1)) + x * bS x y n n = (x + y) ^ (n + 1)
  rw [chs_big (by omega),bS_pow x y n,Rg.nc_zero,Rg.pow_succ]
  grind
theorem bS_zero {s:Nat} (hs:Pr s) (h0:Rg.nc (R:=α) s = 0) (x y:α):∀ k,k < s->bS x y s k = y ^ k
 | 0,_=>by rw [Rg.pow_zero];rfl
 | k + 1,h=>by
  obtain ⟨m,hm⟩:=chs_dvd hs h
  show y * bS x y s k + Rg.nc (R:=α) (chs s (k + 1)) * x ^ (k + 1) = _
  rw [bS_zero hs h0 x y k (by omega),hm,Rg.nc_mul,h0,Rg.pow_succ]
  grind
theorem frobR {s:Nat} (hs:Pr s) (h0:Rg.nc (R:=α) s = 0) (x y:α):(x + y) ^ s = x ^ s + y ^ s:=by
 obtain ⟨n,rfl⟩:∃ n,s = n + 1:=⟨s - 1,by have:=hs.1;omega⟩
 rw [<-bS_pow]
 show y * bS x y (n + 1) n + Rg.nc (R:=α) (chs (n + 1) (n + 1)) * x ^ (n + 1) = _
 rw [bS_zero hs h0 x y n (by omega),chs_self,Rg.nc_one,Rg.pow_succ,Rg.pow_succ]
 grind
theorem fermatR {s:Nat} (hs:Pr s) (h0:Rg.nc (R:=α) s = 0):∀ a:Nat,Rg.nc (R:=α) a ^ s = Rg.nc a
 | 0=>by rw [Rg.nc_zero];exact pow_zero_pos (by have:=hs.1;omega)
 | a + 1=>by rw [Rg.nc_succ,frobR hs h0,fermatR hs h0 a,Rg.one_pow]
end
end Go.Rq
namespace Go.Rq
open Go
section
variable {α:Type} [CR α]
theorem cr_sub {x y z:α} (h:x * z = y * z):(x - y) * z = 0:=by grind
theorem cr_eq {x y:α} (h:x - y = 0):x = y:=by grind
theorem cr_neg {x y:α} (h:x * x + y * y = 0):x * x = (0 - 1) * (y * y):=by grind
theorem cr_m1:((0:α) - 1) * (0 - 1) = 1:=by grind
theorem cr_one (x:α):1 * x = x:=by grind
theorem cr_one' (x:α):x * 1 = x:=by grind
theorem cr_z1 {y:α} (h:(0:α) * 0 + y * y = 0):y * y = 0:=by grind
theorem cr_z2 {y:α} (h:y * y + 0 * 0 = 0):y * y = 0:=by grind
end
theorem fp_nat (n:Nat):nc n = ofN n:=by
 show Rg.nc (R:=Fp) n = _
 induction n with
 | zero=>exact Rg.nc_zero
 | succ n ih =>
  rw [ofN_add,<-ih,ofN_one];exact Rg.nc_succ n
theorem fp_char:Rg.nc (R:=Fp) pN = 0:=(fp_nat pN).trans ofN_p
theorem fp_fermat (x:Fp):x ^ pN = x:=by
 have:=fermatR (α:=Fp) pN_pr fp_char x.val
 have e:Rg.nc (R:=Fp) x.val = x:=(fp_nat _).trans (ofN_self x)
 exact (congrArg (fun y:Fp=>y ^ pN) e).symm.trans (this.trans e)
theorem fp_dom {x y:Fp} (h:x * y = 0):x = 0∨y = 0:=by
 have h1:=congrArg Fin.val h
 rw [Fin.val_mul] at h1
 have h2:pN ∣ x.val * y.val:=Nat.dvd_of_mod_eq_zero h1
 rcases pr_mul pN_pr h2 with h3 | h3
 ·left;exact Fin.ext (Nat.eq_zero_of_dvd_of_lt h3 x.isLt)
 ·right;exact Fin.ext (Nat.eq_zero_of_dvd_of_lt h3 y.isLt)
theorem fp_cancel {x y z:Fp} (hz:z ≠ 0) (h:x * z = y * z):x = y:=by
 rcases fp_dom (cr_sub h) with h | h
 ·exact cr_eq h
 ·exact absurd h hz
theorem fp_pow1 {x:Fp} (h:x ≠ 0):x ^ (pN - 1) = 1:=by
 have e:pN = (pN - 1) + 1:=by have:=pN_pos;omega
 have h1:x ^ (pN - 1 + 1) = x:=(congrArg (fun n:Nat=>x ^ n) e).symm.trans (fp_fermat x)
 rw [Rg.pow_succ] at h1
 refine fp_cancel h ?_
 rw [h1];exact (cr_one x).symm
theorem fp_inv {x:Fp} (h:x ≠ 0):x * x ^ (pN - 2) = 1:=by
 have:=fp_pow1 h
 have e:pN - 1 = (pN - 2) + 1:=by have:=pN_pr.1;omega
 rw [e,Rg.pow_succ] at this
 rw [Rg.mul_comm];exact this
theorem fp_norm {x y:Fp} (h:x * x + y * y = 0):x = 0/\y = 0:=by
 refine Classical.byContradiction fun hc=>?_
 have hy:y ≠ 0:=fun e=>by
  subst e
  rcases fp_dom (cr_z2 h) with e | e <;> exact hc ⟨e,rfl⟩
 have hx:x ≠ 0:=fun e=>by
  subst e
  rcases fp_dom (cr_z1 h) with e | e <;> exact hy e
 have e:pN - 1 = 2 * ((pN - 1) / 2):=by decide
 have h1:=fp_pow1 hx
 have h2:=fp_pow1 hy
 rw [e,pow_mul',Rg.pow_two] at h1 h2
 have h3:x * x = (0 - 1) * (y * y):=cr_neg h
 rw [h3,mul_pow',h2] at h1
 have e2:(pN - 1) / 2 = 2 * ((pN - 3) / 4) + 1:=by decide
 rw [e2,Rg.pow_succ,pow_mul',Rg.pow_two] at h1
 have h4:((0:Fp) - 1) * (0 - 1) = 1:=cr_m1
 rw [h4,Rg.one_pow] at h1
 have h5:=congrArg Fin.val h1
 exact absurd h5 (by decide)
end Go.Rq
namespace Go.Rq
open Go
def FEndR2 (T:TT) (fn:Func) (v:AV) (x y:Blk):Exit->AS->Prop
 | .normal,s | .ret,s=>hget s.h 0 = some x/\hget s.h 1 = some y/\∃ v',resA T s fn.results.toList = some v'/\vokB v' = true/\∀ ρ,v'.val ρ = v.val ρ
 | _,_=>False
theorem bkAVs_app (m:List Nat):∀ (l r:List AV),bkAVs m (l ++ r) = bkAVs m l ++ bkAVs m r
 | [],_=>rfl
 | v :: l,r=>congrArg (bkAV m v :: ·) (bkAVs_app m l r)
theorem rd_blk2 {P:Program} {T:TT} (hT:TTOk P T) {f:FuncId} {fn:Func} (hf:P.funcs[f]? = some fn) (hb:fn.body = some (bodyOf fn)) (hn:(fn.name == "runtime.NumGoroutine") = false)
  {b c:Nat} (hbc:Nat.beq b c = false) {x y:Blk} {pre:List AV} {v:AV} (hx:plainCs x.cells = true) (hy:plainCs y.cells = true) (lx:x.lo = 0) (ly:y.lo = 0) (hpre:pre.all vokB = true) (hv:vokB v = true) {h:Heap} (hgb:hget h b = some x) (hgc:hget h c = some y)
  (hwalk:AWqS P (Dm [some x,some y]) (flatC (bodyOf fn)) (FEndR2 T fn v x y) ⟨frame0 (pre ++ [.v1 (.sc (.pt 0 0)),.v1 (.sc (.pt 1 0))]) fn.ntmps,[some x,some y]⟩) :
  CallOk P f (pre ++ [.v1 (.sc (.pt b 0)),.v1 (.sc (.pt c 0))]) h v h:=by
 have hcb:Nat.beq c b = false:=by
  rw [<-Bool.not_eq_true,Nat.beq_eq]
  intro e
  rw [e,Nat.beq_refl] at hbc;cases hbc
 have hbb:bk [b,c] b = 0:=by simp [bk,idxN]
 have hcc:bk [b,c] c = 1:=by simp only [bk,idxN,hcb,Nat.beq_refl]
 have hbx:∀ m,bkBlk m x = x:=fun m=>by unfold bkBlk;rw [bkCells_plain hx]
 have hby:∀ m,bkBlk m y = y:=fun m=>by unfold bkBlk;rw [bkCells_plain hy]
 have hpk:pickH [b,c] h [b,c] = [some x,some y]:=by
  show [pickB [b,c] (hget h b),pickB [b,c] (hget h c)] = _
  rw [hgb,hgc]
  simp only [pickB,hbx,hby]
 have hLv:∀ i,i < 2->Lv [some x,some y] i:=fun i hi=>by
  rcases (show i = 0∨i = 1 by omega) with rfl | rfl
  ·exact ⟨x,rfl,by omega⟩
  ·exact ⟨y,rfl,by omega⟩
 have hheap:heapB [some x,some y] 0 [some x,some y] = true:=by
  simp only [heapB,Bool.and_eq_true]
  refine ⟨cellsB_plain hx,?_,cellsB_plain hy,?_,trivial⟩
  ·rw [lx];rfl
  ·rw [ly];rfl
 have hchk:∀ m n:Nat,Nat.beq m n = false->chkB [m,n] [some x,some y] = true:=fun m n hmn=>by
  unfold chkB nextB nextB
  rw [lx,ly]
  simp only [nodupB,notIn,hmn]
  rfl
 refine mem_walk hT hf hb hn [b,c] [] 0 [some x,some y] [some x,some y] (args':=pre ++ [.v1 (.sc (.pt 0 0)),.v1 (.sc (.pt 1 0))]) (vK:=v) (hchk b c hbc) hpk hheap ?_ ?_ hLv hheap (avB_plain hv) (fun i hi=>(hLv i (by simpa using hi)).dm) (hchk b c hbc) hpk (bkAV_plain hv) (fun t ht=>by simp at ht) (fun _ _ _=>rfl) ?_ (hnw:=by simp [noWinB,lx,ly])
 ·rw [bkAVs_app,bkAVs_plain hpre]
  show pre ++ [AV.v1 (.sc (.pt (bk [b,c] b) 0)),AV.v1 (.sc (.pt (bk [b,c] c) 0))] = _
  rw [hbb,hcc]
 ·rw [List.all_append,Bool.and_eq_true]
  refine ⟨List.all_eq_true.2 fun z hz=>avB_plain (List.all_eq_true.1 hpre z hz),?_⟩
  simp only [List.all_cons,List.all_nil,Bool.and_eq_true]
  exact ⟨rfl,rfl,trivial⟩
 ·refine hwalk.mono fun e s q=>?_
  have key:(hget s.h 0 = some x/\hget s.h 1 = some y/\∃ v',resA T s fn.results.toList = some v'/\vokB v' = true/\∀ ρ,v'.val ρ = v.val ρ)->chkB [0,1] (pickH [0,1] s.h [0,1]) = true/\heapB (pickH [0,1] s.h [0,1]) 0 (pickH [0,1] s.h [0,1]) = true/\SimH (pickH [0,1] s.h [0,1]) [some x,some y] /\
    ∃ v',resA T s fn.results.toList = some v'/\avB (pickH [0,1] s.h [0,1]) (bkAV [0,1] v') = true/\∀ ρ,(bkAV [0,1] v').val ρ = v.val ρ:=by
   intro ⟨q1,q1',v',q2,q3,q4⟩
   have e:pickH [0,1] s.h [0,1] = [some x,some y]:=by
    show [pickB [0,1] (hget s.h 0),pickB [0,1] (hget s.h 1)] = _
    rw [q1,q1']
    simp only [pickB,hbx,hby]
   rw [e]
   exact ⟨hchk 0 1 rfl,hheap,⟨⟨rfl,rfl,rfl,fun _=>rfl⟩,⟨rfl,rfl,rfl,fun _=>rfl⟩,trivial⟩,v',q2,by rw [bkAV_plain q3];exact avB_plain q3,fun ρ=>by rw [bkAV_plain q3];exact q4 ρ⟩
  cases e with
  | normal=>exact key q
  | ret=>exact key q
  | exit j=>exact q.elim
  | goto l=>exact q.elim
  | panic ch=>exact q.elim
  | outgrown=>exact q.elim
end Go.Rq
namespace Go.Proofs.Ytnjocbcjejpklaa
open Go.Rq Go
set_option maxRecDepth 100000
abbrev v6 (a b c d e f:Nat->Nat):V1:=.agg [q6 a,q6 b,q6 c,q6 d,q6 e,q6 f]
abbrev d6 (a b c d e f:Nat->Nat):S6:=⟨⟨dF a,dF b⟩,⟨dF c,dF d⟩,⟨dF e,dF f⟩⟩
abbrev e6 (s:S6):V1:=v6 (eF s.u.x) (eF s.u.y) (eF s.v.x) (eF s.v.y) (eF s.w.x) (eF s.w.y)
theorem ws_cell {f g:Nat->Nat} (ρ:Ren) (h:nv f = nv g):(Cell.ws .u64 6 f).vals ρ = (Cell.ws .u64 6 g).vals ρ:=by
 simp only [Cell.vals]
 refine List.map_congr_left fun j hj=>?_
 have hj':=List.mem_range.1 hj
 have e:f j % W = g j % W:=by rw [<-wd_nv f j hj',<-wd_nv g j hj',h]
 simp only [W] at e
 simp only [M,e]
theorem v6_val {a b c d e f a' b' c' d' e' f':Nat->Nat} (h0:nv a = nv a') (h1:nv b = nv b') (h2:nv c = nv c') (h3:nv d = nv d') (h4:nv e = nv e') (h5:nv f = nv f') (ρ:Ren):(v6 a b c d e f).val ρ = (v6 a' b' c' d' e' f').val ρ:=by
 show Value.agg (cvals ρ _).toArray = Value.agg (cvals ρ _).toArray
 simp only [cvals]
 rw [ws_cell ρ h0,ws_cell ρ h1,ws_cell ρ h2,ws_cell ρ h3,ws_cell ρ h4,ws_cell ρ h5]
theorem endN_6 {a b c d e f a' b' c' d' e' f':Nat->Nat} (h0:nv a = nv a') (h1:nv b = nv b') (h2:nv c = nv c') (h3:nv d = nv d') (h4:nv e = nv e') (h5:nv f = nv f'):endN (.v1 (v6 a b c d e f)) (.v1 (v6 a' b' c' d' e' f')):=⟨_,rfl,v6_val h0 h1 h2 h3 h4 h5⟩
def k61 (F:S6->S6):List AV->Option (List Prop × AV)
 | [.v1 (.agg [.ws .u64 6 a0,.ws .u64 6 a1,.ws .u64 6 a2,.ws .u64 6 a3,.ws .u64 6 a4,.ws .u64 6 a5])]=>some ([nv a0 < pN,nv a1 < pN,nv a2 < pN,nv a3 < pN,nv a4 < pN,nv a5 < pN],.v1 (e6 (F (d6 a0 a1 a2 a3 a4 a5))))
 | _=>none
def k62 (F:S6->S6->S6):List AV->Option (List Prop × AV)
 | [.v1 (.agg [.ws .u64 6 a0,.ws .u64 6 a1,.ws .u64 6 a2,.ws .u64 6 a3,.ws .u64 6 a4,.ws .u64 6 a5]),.v1 (.agg [.ws .u64 6 b0,.ws .u64 6 b1,.ws .u64 6 b2,.ws .u64 6 b3,.ws .u64 6 b4,.ws .u64 6 b5])]=>some ([nv a0 < pN,nv a1 < pN,nv a2 < pN,nv a3 < pN,nv a4 < pN,nv a5 < pN,nv b0 < pN,nv b1 < pN,nv b2 < pN,nv b3 < pN,nv b4 < pN,nv b5 < pN],.v1 (e6 (F (d6 a0 a1 a2 a3 a4 a5) (d6 b0 b1 b2 b3 b4 b5))))
 | _=>none
theorem k61_ok {F:S6->S6} {f:FuncId} {fn:Func} (hf:Try.prog.funcs[f]? = some fn) (hb:fn.body = some (bodyOf fn)) (hn:(fn.name == "runtime.NumGoroutine") = false)
  (h:∀ a0 a1 a2 a3 a4 a5:Nat->Nat,nv a0 < pN->nv a1 < pN->nv a2 < pN->nv a3 < pN->nv a4 < pN->nv a5 < pN->AWqS Try.prog (fun _=>False) (flatC (bodyOf fn)) (FEnd' tt fn (.v1 (e6 (F (d6 a0 a1 a2 a3 a4 a5))))) ⟨frame0 [.v1 (v6 a0 a1 a2 a3 a4 a5)] fn.ntmps,[]⟩):(CallC.pure (k61 F)).Ok Try.prog f:=by
 intro args pre v e hp
 unfold k61 at e
 split at e
 ·rename_i a0 a1 a2 a3 a4 a5
  cases e
  exact pure_walk' tt_ok hf hb hn (by rfl) (by rfl) (h a0 a1 a2 a3 a4 a5 (hp _ (by simp)) (hp _ (by simp)) (hp _ (by simp)) (hp _ (by simp)) (hp _ (by simp)) (hp _ (by simp)))
 ·cases e
theorem k62_ok {F:S6->S6->S6} {f:FuncId} {fn:Func} (hf:Try.prog.funcs[f]? = some fn) (hb:fn.body = some (bodyOf fn)) (hn:(fn.name == "runtime.NumGoroutine") = false)
  (h:∀ a0 a1 a2 a3 a4 a5 b0 b1 b2 b3 b4 b5:Nat->Nat,nv a0 < pN->nv a1 < pN->nv a2 < pN->nv a3 < pN->nv a4 < pN->nv a5 < pN->nv b0 < pN->nv b1 < pN->nv b2 < pN->nv b3 < pN->nv b4 < pN->nv b5 < pN->AWqS Try.prog (fun _=>False) (flatC (bodyOf fn)) (FEnd' tt fn (.v1 (e6 (F (d6 a0 a1 a2 a3 a4 a5) (d6 b0 b1 b2 b3 b4 b5))))) ⟨frame0 [.v1 (v6 a0 a1 a2 a3 a4 a5),.v1 (v6 b0 b1 b2 b3 b4 b5)] fn.ntmps,[]⟩):(CallC.pure (k62 F)).Ok Try.prog f:=by
 intro args pre v e hp
 unfold k62 at e
 split at e
 ·rename_i a0 a1 a2 a3 a4 a5 b0 b1 b2 b3 b4 b5
  cases e
  exact pure_walk' tt_ok hf hb hn (by rfl) (by rfl) (h a0 a1 a2 a3 a4 a5 b0 b1 b2 b3 b4 b5 (hp _ (by simp)) (hp _ (by simp)) (hp _ (by simp)) (hp _ (by simp)) (hp _ (by simp)) (hp _ (by simp)) (hp _ (by simp)) (hp _ (by simp)) (hp _ (by simp)) (hp _ (by simp)) (hp _ (by simp)) (hp _ (by simp)))
 ·cases e
def upx (a b:Fp):Fp:=a - b
def upy (a b:Fp):Fp:=a + b
theorem okUp:(CallC.pure (q1 upx upy)).Ok Try.prog 55:=by
 refine q1_ok Try.func55 (by kernel_rfl) (by kernel_rfl) fun a b ha hb=>evS_q mixed tt_ok GE_ok 100 [] ?_
 refine same (p:=nv a < pN/\lp b/\lp a/\lp b/\endN (f2 (eF (eSub (dF a) (dF b))) (eF (eAdd (dF a) (dF b)))) (f2 (eF (upx (dF a) (dF b))) (eF (upy (dF a) (dF b))))) ?_ (by kernel_rfl)
 exact ⟨ha,hb,ha,hb,endN_f2 rfl rfl⟩
def GSx:Ctx:=ctxL [(54,.pure (q2 add2x add2y)),(53,.pure (q2 sub2x sub2y)),(55,.pure (q1 upx upy))]
theorem GSx_ok:CtxOk Try.prog GSx:=ctxL_cons okAdd2 <| ctxL_cons okSub2 <| ctxL_cons okUp ctxL_nil
theorem okSadd:(CallC.pure (k62 S6.add)).Ok Try.prog 29:=by
 refine k62_ok Try.func29 (by kernel_rfl) (by kernel_rfl) fun a0 a1 a2 a3 a4 a5 b0 b1 b2 b3 b4 b5 ha0 ha1 ha2 ha3 ha4 ha5 hb0 hb1 hb2 hb3 hb4 hb5=>evS_q mixed tt_ok GSx_ok 100 [] ?_
 refine same (p:=nv a0 < pN/\lp a1/\lp b0/\lp b1/\lp a2/\lp a3/\lp b2/\lp b3/\lp a4/\lp a5/\lp b4/\lp b5/\endN (.v1 (v6 (eF (add2x (dF a0) (dF a1) (dF b0) (dF b1))) (eF (add2y (dF a0) (dF a1) (dF b0) (dF b1))) (eF (add2x (dF a2) (dF a3) (dF b2) (dF b3))) (eF (add2y (dF a2) (dF a3) (dF b2) (dF b3))) (eF (add2x (dF a4) (dF a5) (dF b4) (dF b5))) (eF (add2y (dF a4) (dF a5) (dF b4) (dF b5))))) (.v1 (e6 (S6.add (d6 a0 a1 a2 a3 a4 a5) (d6 b0 b1 b2 b3 b4 b5))))) ?_ (by kernel_rfl)
 exact ⟨ha0,ha1,hb0,hb1,ha2,ha3,hb2,hb3,ha4,ha5,hb4,hb5,endN_6 rfl rfl rfl rfl rfl rfl⟩
theorem okSsub:(CallC.pure (k62 S6.sub)).Ok Try.prog 32:=by
 refine k62_ok Try.func32 (by kernel_rfl) (by kernel_rfl) fun a0 a1 a2 a3 a4 a5 b0 b1 b2 b3 b4 b5 ha0 ha1 ha2 ha3 ha4 ha5 hb0 hb1 hb2 hb3 hb4 hb5=>evS_q mixed tt_ok GSx_ok 100 [] ?_
 refine same (p:=nv a0 < pN/\lp a1/\lp b0/\lp b1/\lp a2/\lp a3/\lp b2/\lp b3/\lp a4/\lp a5/\lp b4/\lp b5/\endN (.v1 (v6 (eF (sub2x (dF a0) (dF a1) (dF b0) (dF b1))) (eF (sub2y (dF a0) (dF a1) (dF b0) (dF b1))) (eF (sub2x (dF a2) (dF a3) (dF b2) (dF b3))) (eF (sub2y (dF a2) (dF a3) (dF b2) (dF b3))) (eF (sub2x (dF a4) (dF a5) (dF b4) (dF b5))) (eF (sub2y (dF a4) (dF a5) (dF b4) (dF b5))))) (.v1 (e6 (S6.sub (d6 a0 a1 a2 a3 a4 a5) (d6 b0 b1 b2 b3 b4 b5))))) ?_ (by kernel_rfl)
 exact ⟨ha0,ha1,hb0,hb1,ha2,ha3,hb2,hb3,ha4,ha5,hb4,hb5,endN_6 rfl rfl rfl rfl rfl rfl⟩
theorem okSnext:(CallC.pure (k61 S6.next)).Ok Try.prog 31:=by
 refine k61_ok Try.func31 (by kernel_rfl) (by kernel_rfl) fun a0 a1 a2 a3 a4 a5 ha0 ha1 ha2 ha3 ha4 ha5=>evS_q mixed tt_ok GSx_ok 100 [] ?_
 refine same (p:=nv a4 < pN/\lp a5/\endN (.v1 (v6 (eF (upx (dF a4) (dF a5))) (eF (upy (dF a4) (dF a5))) a0 a1 a2 a3)) (.v1 (e6 (S6.next (d6 a0 a1 a2 a3 a4 a5))))) ?_ (by kernel_rfl)
 exact ⟨ha4,ha5,endN_6 rfl rfl (eF_dF ha0).symm (eF_dF ha1).symm (eF_dF ha2).symm (eF_dF ha3).symm⟩
end Go.Proofs.Ytnjocbcjejpklaa
