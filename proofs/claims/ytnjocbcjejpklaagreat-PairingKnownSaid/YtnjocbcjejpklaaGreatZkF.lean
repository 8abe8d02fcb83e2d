/- Texts of the proof, joined. -/
import Derived.Test.YtnjocbcjejpklaaGreatZkE
set_option linter.all false
namespace Go.Rq
open Go
namespace EC
set_option linter.unusedSectionVars false
variable {F:Type} [i:CR F] [DecidableEq F] (C:EC F)
def Pt:={P:Option (F × F) // C.on P}
def grp:Gr C.Pt where
 add a b:=⟨C.add a.1 b.1,C.on_add a.2 b.2⟩
 o:=⟨none,trivial⟩
 neg a:=⟨neg a.1,C.on_neg a.2⟩
 comm a b:=Subtype.ext (C.add_comm a.2 b.2)
 assoc a b c:=Subtype.ext (C.assoc a.2 b.2 c.2)
 zero a:=Subtype.ext (C.zero_add a.1)
 opp a:=Subtype.ext (C.add_neg a.1)
theorem nm_val (P:C.Pt):∀ n,(C.grp.nm n P).1 = C.mul n P.1
 | 0=>rfl
 | n + 1=>by
  show C.add (C.grp.nm n P).1 P.1 = C.add (C.mul n P.1) P.1
  rw [nm_val P n]
structure Fm where
 f:F->F
 add:∀ a b,f (a + b) = f a + f b
 sub:∀ a b,f (a - b) = f a - f b
 mul:∀ a b,f (a * b) = f a * f b
 inj:∀ a,f a = 0->a = 0
 fa:f C.a = C.a
 fb:f C.b = C.b
variable {C} (u:C.Fm)
def mp (u:C.Fm):Option (F × F)->Option (F × F)
 | none=>none
 | some p=>some (u.f p.1,u.f p.2)
theorem Fm.z:u.f 0 = 0:=by
 have h:=u.sub 0 0
 have e:(0:F) - 0 = 0:=by grind
 rw [e] at h
 rw [h];grind
theorem mp_on {P:Option (F × F)} (h:C.on P):C.on (mp u P):=by
 cases P with
 | none=>trivial
 | some p =>
  have h:p.2 * p.2 = p.1 * p.1 * p.1 + C.a * p.1 + C.b:=h
  show u.f p.2 * u.f p.2 = u.f p.1 * u.f p.1 * u.f p.1 + C.a * u.f p.1 + C.b
  have e:u.f (p.2 * p.2) = u.f (p.1 * p.1 * p.1 + C.a * p.1 + C.b):=by rw [h]
  rw [u.mul,u.add,u.add,u.mul,u.mul,u.mul,u.fa,u.fb] at e
  exact e
theorem mp_add {P Q:Option (F × F)} (hP:C.on P) (hQ:C.on Q):mp u (C.add P Q) = C.add (mp u P) (mp u Q):=by
 cases P with
 | none=>rfl
 | some p =>
  cases Q with
  | none=>rfl
  | some q =>
   have hopp:Opp p q↔Opp (u.f p.1,u.f p.2) (u.f q.1,u.f q.2):=by
    constructor
    ·intro ⟨h1,h2⟩
     exact ⟨congrArg u.f h1,by show u.f p.2 + u.f q.2 = 0;rw [<-u.add,h2,u.z]⟩
    ·intro ⟨h1,h2⟩
     have h1:u.f p.1 = u.f q.1:=h1
     have h2:u.f p.2 + u.f q.2 = 0:=h2
     refine ⟨?_,u.inj _ (by rw [u.add];exact h2)⟩
     have h3:u.f (p.1 - q.1) = 0:=by rw [u.sub,h1];grind
     have:=u.inj _ h3
     grind
   rcases C.add_cases hP hQ with ⟨ho,e⟩ | ⟨ho,l,hl,e⟩
   ·rw [e]
    exact (C.add_opp (hopp.1 ho)).symm
   ·rw [e]
    have hs:C.Sl (u.f p.1,u.f p.2) (u.f q.1,u.f q.2) (u.f l):=by
     obtain ⟨h1,h2⟩:=hl
     refine ⟨?_,?_⟩
     ·show u.f p.2 - u.f q.2 = u.f l * (u.f p.1 - u.f q.1)
      rw [<-u.sub,<-u.sub,<-u.mul,h1]
     ·show u.f p.1 * u.f p.1 + u.f p.1 * u.f q.1 + u.f q.1 * u.f q.1 + C.a = u.f l * (u.f p.2 + u.f q.2)
      have e:=congrArg u.f h2
      rw [u.add,u.add,u.add,u.mul,u.mul,u.mul,u.mul,u.add,u.fa] at e
      exact e
    show _ = C.add (some (u.f p.1,u.f p.2)) (some (u.f q.1,u.f q.2))
    rw [C.add_sl (mp_on u hP) (mp_on u hQ) (fun h=>ho (hopp.2 h)) hs]
    show some (u.f (l * l - p.1 - q.1),u.f (l * (p.1 - (l * l - p.1 - q.1)) - p.2)) = some (u.f l * u.f l - u.f p.1 - u.f q.1,u.f l * (u.f p.1 - (u.f l * u.f l - u.f p.1 - u.f q.1)) - u.f p.2)
    simp only [u.sub,u.mul]
def mpH (u:C.Fm):Hm C.grp:=⟨fun P=>⟨mp u P.1,mp_on u P.2⟩,fun a b=>Subtype.ext (mp_add u a.2 b.2)⟩
theorem one_turn (ha:C.a = 0) {r:Nat} (hr1:1 < r) (hr:∀ a b,r ∣ a * b->r ∣ a∨r ∣ b) (inv:∀ n,¬ r ∣ n->∃ m,n * m % r = 1 % r) (bits:List Bool) (hb:bval bits = r) {x:F} (hx:(lad C.b x bits).2.1 ≠ 0)
  (hd:2 * dgr bits.length < r * r * r - 1) {U W:C.Pt} (hU:C.grp.nm r U = C.grp.o) (hW:C.grp.nm r W = C.grp.o) (nU:U ≠ C.grp.o) (nW:W ≠ C.grp.o) (eU:(mpH u).f U = U) {l2 l3 l4 l5 m2 m3 m4 m5:Nat}
  (eW:(mpH u).f W = C.grp.nm l2 W) (s2:(l2 + m2) % r = 0) (s3:(l3 + m3) % r = 0) (s4:(l4 + m4) % r = 0) (s5:(l5 + m5) % r = 0)
  (d2:¬ r ∣ l2 + (r - 1)) (d3:¬ r ∣ l3 + (r - 1)) (d4:¬ r ∣ l4 + (r - 1)) (d5:¬ r ∣ l5 + (r - 1)) (d32:¬ r ∣ l3 + m2) (d42:¬ r ∣ l4 + m2) (d52:¬ r ∣ l5 + m2)
  (hm:(Hm.mulC m5 0 (Hm.mulC m4 0 (Hm.mulC m3 0 (Hm.mulC m2 0 [1])))).map (· % r) = [1 % r,0 % r,(r - 1) % r,0 % r,1 % r]) {X:C.Pt} (hX:C.grp.nm r X = C.grp.o)
  (hphi:C.grp.add ((mpH u).f ((mpH u).f ((mpH u).f ((mpH u).f X)))) X = (mpH u).f ((mpH u).f X)):(mpH u).f X = C.grp.nm l2 X:=by
 rcases (mpH u).split hX hphi hm (by omega) with h | ⟨c,m,hm',hc,nc,sc,_⟩
 ·exact (mpH u).eig_of hX h s2
 ·exfalso
  have key:∀ l,(l + m) % r = 0->¬ r ∣ l + (r - 1)->¬ r ∣ l + m2->False:=fun l hl k1 k2=>by
   have ec:=(mpH u).eig_of hc sc hl
   have ind:∀ a b d,C.grp.add (C.grp.nm a U) (C.grp.add (C.grp.nm b W) (C.grp.nm d c)) = C.grp.o->r ∣ a/\r ∣ b/\r ∣ d:=fun a b d h =>
    (mpH u).apart3 (m1:=r - 1) (m2:=m2) hr inv hU hW hc nU nW nc (by rw [C.grp.nm_one];exact eU) eW ec ⟨1,by omega⟩ (Nat.dvd_of_mod_eq_zero s2) d2 k1 k2 h
   have inj:=fun {n k:Nat}=>Hm.comb_inj (g:=C.grp) (x:=U) (y:=W) (z:=c) (show 0 < r by omega) hU hW hc ind (n:=n) (k:=k)
   have hpos:0 < r * r * r:=Nat.mul_pos (Nat.mul_pos (by omega) (by omega)) (by omega)
   have c0:Hm.comb C.grp U W c r 0 = C.grp.o:=by
    unfold Hm.comb
    rw [Nat.zero_mod,Nat.zero_div,Nat.zero_mod,Nat.zero_div]
    show C.grp.add C.grp.o (C.grp.add C.grp.o C.grp.o) = _
    rw [C.grp.zero,C.grp.zero]
   have ne:∀ n,n + 1 < r * r * r->∃ p:F × F,(Hm.comb C.grp U W c r (n + 1)).1 = some p:=fun n hn=>by
    cases e:(Hm.comb C.grp U W c r (n + 1)).1 with
    | some p=>exact ⟨p,rfl⟩
    | none =>
     have:Hm.comb C.grp U W c r (n + 1) = Hm.comb C.grp U W c r 0:=by rw [c0];exact Subtype.ext e
     have:=inj hn hpos this
     omega
   let f:Nat->F × F:=fun n=>((Hm.comb C.grp U W c r (n + 1)).1).getD (0,0)
   have hf:∀ n,n + 1 < r * r * r->(Hm.comb C.grp U W c r (n + 1)).1 = some (f n):=fun n hn=>by
    obtain ⟨p,hp⟩:=ne n hn
    show _ = some (((Hm.comb C.grp U W c r (n + 1)).1).getD (0,0))
    rw [hp];rfl
   have hnd:((List.range (r * r * r - 1)).map f).Nodup:=by
    rw [List.nodup_iff_pairwise_ne,List.pairwise_map]
    refine List.Pairwise.imp_of_mem ?_ (List.nodup_iff_pairwise_ne.1 List.nodup_range)
    intro a b ha hb hab e
    have ha:=List.mem_range.1 ha
    have hb:=List.mem_range.1 hb
    have:Hm.comb C.grp U W c r (a + 1) = Hm.comb C.grp U W c r (b + 1):=Subtype.ext (by rw [hf a (by omega),hf b (by omega),e])
    have:=inj (show a + 1 < r * r * r by omega) (show b + 1 < r * r * r by omega) this
    omega
   have hall:∀ p ∈ (List.range (r * r * r - 1)).map f,C.on (some p)/\C.mul (bval bits) (some p) = none:=fun p hp=>by
    obtain ⟨n,hn,rfl⟩:=List.mem_map.1 hp
    have hn:=List.mem_range.1 hn
    have e:=hf n (by omega)
    refine ⟨by rw [<-e];exact (Hm.comb C.grp U W c r (n + 1)).2,?_⟩
    rw [<-e,hb,<-C.nm_val]
    have:C.grp.nm r (Hm.comb C.grp U W c r (n + 1)) = C.grp.o:=by
     unfold Hm.comb
     rw [C.grp.nm_dist,C.grp.nm_dist]
     have z:∀ {y:C.Pt} (k:Nat),C.grp.nm r y = C.grp.o->C.grp.nm r (C.grp.nm k y) = C.grp.o:=fun {y} k hy=>by
      rw [C.grp.nm_mul,Nat.mul_comm,<-C.grp.nm_mul,hy,C.grp.nm_o]
     rw [z _ hU,z _ hW,z _ hc,C.grp.zero,C.grp.zero]
    rw [this];rfl
   have:=C.tors_few ha bits hx hnd hall
   rw [List.length_map,List.length_range] at this
   omega
  rcases hm' with rfl | rfl | rfl
  ·exact key l3 s3 d3 d32
  ·exact key l4 s4 d4 d42
  ·exact key l5 s5 d5 d52
end EC
end Go.Rq
namespace Go.Rq
open Go
namespace EC
set_option linter.unusedSectionVars false
variable {F K:Type} [i:CR F] [j:CR K] [DecidableEq F] [DecidableEq K]
structure Cm (C:EC F) (E:EC K) where
 f:F->K
 s:K
 add:∀ a b,f (a + b) = f a + f b
 sub:∀ a b,f (a - b) = f a - f b
 mul:∀ a b,f (a * b) = f a * f b
 inj:∀ a,f a = 0->a = 0
 s0:s ≠ 0
 fa:f C.a * (s * s * (s * s)) = E.a
 fb:f C.b * (s * s * s * (s * s * s)) = E.b
variable {C:EC F} {E:EC K} (u:C.Cm E)
def cp (u:C.Cm E):Option (F × F)->Option (K × K)
 | none=>none
 | some p=>some (u.f p.1 * (u.s * u.s),u.f p.2 * (u.s * u.s * u.s))
theorem Cm.z:u.f 0 = 0:=by
 have h:=u.sub 0 0
 have e:(0:F) - 0 = 0:=by grind
 rw [e] at h
 rw [h];grind
theorem dom3 {x y:K} (E:EC K) (hs:y ≠ 0) (h:x * y = 0):x = 0:=by
 rcases E.dom h with h | h
 ·exact h
 ·exact absurd h hs
theorem Cm.s2:u.s * u.s ≠ 0:=fun h=>u.s0 (by rcases E.dom h with h | h <;> exact h)
theorem Cm.s3:u.s * u.s * u.s ≠ 0:=fun h=>by
 rcases E.dom h with h | h
 ·exact u.s2 h
 ·exact u.s0 h
theorem cp_on {P:Option (F × F)} (h:C.on P):E.on (cp u P):=by
 cases P with
 | none=>trivial
 | some p =>
  have h:p.2 * p.2 = p.1 * p.1 * p.1 + C.a * p.1 + C.b:=h
  show u.f p.2 * (u.s * u.s * u.s) * (u.f p.2 * (u.s * u.s * u.s)) = u.f p.1 * (u.s * u.s) * (u.f p.1 * (u.s * u.s)) * (u.f p.1 * (u.s * u.s)) + E.a * (u.f p.1 * (u.s * u.s)) + E.b
  have e:u.f (p.2 * p.2) = u.f (p.1 * p.1 * p.1 + C.a * p.1 + C.b):=by rw [h]
  rw [u.add,u.add,u.mul,u.mul,u.mul,u.mul] at e
  rw [<-u.fa,<-u.fb]
  generalize u.f p.1 = x at *
  generalize u.f p.2 = y at *
  generalize u.f C.a = a at *
  generalize u.f C.b = b at *
  generalize u.s = s at *
  have e2:y * y * (s * s * s * (s * s * s)) = (x * x * x + a * x + b) * (s * s * s * (s * s * s)):=by rw [e]
  grind
theorem cp_opp {p q:F × F}:Opp p q↔Opp (u.f p.1 * (u.s * u.s),u.f p.2 * (u.s * u.s * u.s)) (u.f q.1 * (u.s * u.s),u.f q.2 * (u.s * u.s * u.s)):=by
 constructor
 ·intro ⟨h1,h2⟩
  refine ⟨by show u.f p.1 * (u.s * u.s) = u.f q.1 * (u.s * u.s);rw [h1],?_⟩
  show u.f p.2 * (u.s * u.s * u.s) + u.f q.2 * (u.s * u.s * u.s) = 0
  have e:u.f p.2 + u.f q.2 = 0:=by rw [<-u.add,h2,u.z]
  generalize u.f p.2 = a at *
  generalize u.f q.2 = b at *
  generalize u.s = s at *
  have:a = 0 - b:=by grind
  subst this;grind
 ·intro ⟨h1,h2⟩
  have h1:u.f p.1 * (u.s * u.s) = u.f q.1 * (u.s * u.s):=h1
  have h2:u.f p.2 * (u.s * u.s * u.s) + u.f q.2 * (u.s * u.s * u.s) = 0:=h2
  have k1:(u.f p.1 - u.f q.1) * (u.s * u.s) = 0:=by
   generalize u.f p.1 = a at *
   generalize u.f q.1 = b at *
   generalize u.s = s at *
   grind
  have k2:(u.f p.2 + u.f q.2) * (u.s * u.s * u.s) = 0:=by
   generalize u.f p.2 = a at *
   generalize u.f q.2 = b at *
   generalize u.s = s at *
   grind
  have m1:=dom3 E u.s2 k1
  have m2:=dom3 E u.s3 k2
  rw [<-u.sub] at m1
  rw [<-u.add] at m2
  have n1:=u.inj _ m1
  exact ⟨by grind,u.inj _ m2⟩
theorem cp_sl {p q:F × F} {l:F} (h:C.Sl p q l):E.Sl (u.f p.1 * (u.s * u.s),u.f p.2 * (u.s * u.s * u.s)) (u.f q.1 * (u.s * u.s),u.f q.2 * (u.s * u.s * u.s)) (u.f l * u.s):=by
 obtain ⟨h1,h2⟩:=h
 have e1:u.f (p.2 - q.2) = u.f (l * (p.1 - q.1)):=by rw [h1]
 have e2:u.f (p.1 * p.1 + p.1 * q.1 + q.1 * q.1 + C.a) = u.f (l * (p.2 + q.2)):=by rw [h2]
 simp only [u.sub,u.mul,u.add] at e1 e2
 refine ⟨?_,?_⟩
 ·show u.f p.2 * (u.s * u.s * u.s) - u.f q.2 * (u.s * u.s * u.s) = u.f l * u.s * (u.f p.1 * (u.s * u.s) - u.f q.1 * (u.s * u.s))
  generalize u.f p.1 = x at *
  generalize u.f p.2 = y at *
  generalize u.f q.1 = z at *
  generalize u.f q.2 = w at *
  generalize u.f l = m at *
  generalize u.s = s at *
  have:(y - w) * (s * s * s) = m * (x - z) * (s * s * s):=by rw [e1]
  grind
 ·show u.f p.1 * (u.s * u.s) * (u.f p.1 * (u.s * u.s)) + u.f p.1 * (u.s * u.s) * (u.f q.1 * (u.s * u.s)) + u.f q.1 * (u.s * u.s) * (u.f q.1 * (u.s * u.s)) + E.a = u.f l * u.s * (u.f p.2 * (u.s * u.s * u.s) + u.f q.2 * (u.s * u.s * u.s))
  rw [<-u.fa]
  generalize u.f p.1 = x at *
  generalize u.f p.2 = y at *
  generalize u.f q.1 = z at *
  generalize u.f q.2 = w at *
  generalize u.f l = m at *
  generalize u.f C.a = a at *
  generalize u.s = s at *
  have:(x * x + x * z + z * z + a) * (s * s * (s * s)) = m * (y + w) * (s * s * (s * s)):=by rw [e2]
  grind
theorem cp_add {P Q:Option (F × F)} (hP:C.on P) (hQ:C.on Q):cp u (C.add P Q) = E.add (cp u P) (cp u Q):=by
 cases P with
 | none=>rfl
 | some p =>
  cases Q with
  | none=>rfl
  | some q =>
   rcases C.add_cases hP hQ with ⟨ho,e⟩ | ⟨ho,l,hl,e⟩
   ·rw [e]
    exact (E.add_opp ((cp_opp u).1 ho)).symm
   ·rw [e]
    show _ = E.add (some (u.f p.1 * (u.s * u.s),u.f p.2 * (u.s * u.s * u.s))) (some (u.f q.1 * (u.s * u.s),u.f q.2 * (u.s * u.s * u.s)))
    rw [E.add_sl (cp_on u hP) (cp_on u hQ) (fun h=>ho ((cp_opp u).2 h)) (cp_sl u hl)]
    show some (u.f (l * l - p.1 - q.1) * (u.s * u.s),u.f (l * (p.1 - (l * l - p.1 - q.1)) - p.2) * (u.s * u.s * u.s)) = some (u.f l * u.s * (u.f l * u.s) - u.f p.1 * (u.s * u.s) - u.f q.1 * (u.s * u.s),u.f l * u.s * (u.f p.1 * (u.s * u.s) - (u.f l * u.s * (u.f l * u.s) - u.f p.1 * (u.s * u.s) - u.f q.1 * (u.s * u.s))) - u.f p.2 * (u.s * u.s * u.s))
    simp only [u.sub,u.mul]
    congr 2
    ·grind
    ·grind
theorem cp_mul {P:Option (F × F)} (hP:C.on P):∀ n,cp u (C.mul n P) = E.mul n (cp u P)
 | 0=>rfl
 | n + 1=>by
  show cp u (C.add (C.mul n P) P) = E.add (E.mul n (cp u P)) (cp u P)
  rw [cp_add u (C.on_mul hP n) hP,cp_mul hP n]
theorem lad_zero (ha:C.a = 0) {s:F × F} (hs:C.on (some s)) (l:List Bool) (h:(lad C.b s.1 l).2.1 = 0) (k:(lad C.b s.1 l).1 ≠ 0):C.mul (bval l) (some s) = none:=by
 have h1:=(C.lad_rep ha hs l).1
 cases e:C.mul (bval l) (some s) with
 | none=>rfl
 | some p =>
  rw [e] at h1
  have h1:(lad C.b s.1 l).1 = p.1 * (lad C.b s.1 l).2.1:=h1
  rw [h] at h1
  exact absurd (by rw [h1];grind) k
end EC
end Go.Rq
namespace Go.Rq
open Go
set_option maxRecDepth 100000
def rO:Nat:=52435875175126190479447740508185965837690552500527637822603658699938581184513
theorem rO_pr:Pr rO:=pr14
theorem rO_dvd (a b:Nat) (h:rO ∣ a * b):rO ∣ a∨rO ∣ b:=by
 by_cases h1:rO ∣ a
 ·exact .inl h1
 ·exact .inr ((rO_pr.cop' h1).dvd_of_dvd_mul_left h)
theorem rO_inv (n:Nat) (h:¬ rO ∣ n):∃ m,n * m % rO = 1 % rO:=by
 have h0:n % rO ≠ 0:=fun e=>h (Nat.dvd_of_mod_eq_zero e)
 have h1:=fermat_nat rO_pr h0
 refine ⟨n ^ (rO - 2),?_⟩
 have e:n * n ^ (rO - 2) = n ^ (rO - 1):=by
  rw [Nat.mul_comm,<-Nat.pow_succ]
  congr 1
 rw [e,h1]
 exact (Nat.mod_eq_of_lt rO_pr.1).symm
instance:DecidableEq S6:=fun a b=>if h:a.u = b.u/\a.v = b.v/\a.w = b.w then isTrue (S6.ext h.1 h.2.1 h.2.2) else isFalse fun e=>h (by rw [e];exact ⟨rfl,rfl,rfl⟩)
instance:DecidableEq S12:=fun a b=>if h:a.p = b.p/\a.q = b.q then isTrue (S12.ext h.1 h.2) else isFalse fun e=>h (by rw [e];exact ⟨rfl,rfl⟩)
theorem cr_three {F:Type} [CR F] (dom:∀ a b:F,a * b = 0->a = 0∨b = 0) (h3:(1 + 1 + 1:F) ≠ 0) {b:F} (hb:b ≠ 0) (x:F) (h:x * x * x + 0 * x + b = 0):x * x + x * x + x * x + 0 ≠ 0:=fun e=>by
 have e1:(1 + 1 + 1) * (x * x) = 0:=by grind
 rcases dom _ _ e1 with k | k
 ·exact h3 k
 ·have:x = 0:=by rcases dom _ _ k with k | k <;> exact k
  subst this
  exact hb (by grind)
def fx (n:Nat):F2p:=⟨ofN n,0⟩
def EF:EC Fp where
 a:=0
 b:=ofN 4
 inv x:=x ^ (pN - 2)
 inv_ok _ h:=fp_inv h
 two:=by decide +kernel
 ns:=cr_three (fun _ _ h=>fp_dom h) (by decide +kernel) (by decide +kernel)
def bT:F2p:=⟨ofN 4,ofN 4⟩
def ET:EC F2p where
 a:=0
 b:=bT
 inv:=F2p.inv'
 inv_ok _ h:=F2p.mul_inv h
 two:=fun e=>absurd (congrArg F2p.x e) (by decide +kernel)
 ns:=cr_three (fun _ _ h=>F2p.dom h) (fun e=>absurd (congrArg F2p.x e) (by decide +kernel)) (fun e=>absurd (congrArg F2p.x e) (by decide +kernel))
def b12:S12:=S12.c (fx 4)
def EK:EC S12 where
 a:=0
 b:=b12
 inv:=S12.inv'
 inv_ok _ h:=S12.mul_inv h
 two:=fun e=>absurd (congrArg (fun z:S12=>z.p.u.x) e) (by decide +kernel)
 ns:=cr_three (fun _ _ h=>S12.dom h) (fun e=>absurd (congrArg (fun z:S12=>z.p.u.x) e) (by decide +kernel)) (fun e=>absurd (congrArg (fun z:S12=>z.p.u.x) e) (by decide +kernel))
end Go.Rq
namespace Go.Rq
open Go
set_option maxRecDepth 100000
namespace S12
theorem c_add (a b:F2p):c (a + b) = c a + c b:=S12.ext (S6.ext rfl (Rg.add_zero 0).symm (Rg.add_zero 0).symm) (S6.ext (Rg.add_zero 0).symm (Rg.add_zero 0).symm (Rg.add_zero 0).symm)
theorem c_sub (a b:F2p):c (a - b) = c a - c b:=S12.ext (S6.ext rfl (Rg.sub_self 0).symm (Rg.sub_self 0).symm) (S6.ext (Rg.sub_self 0).symm (Rg.sub_self 0).symm (Rg.sub_self 0).symm)
theorem c_one:c 1 = 1:=rfl
theorem c_zero:c 0 = 0:=rfl
theorem c_inj {a:F2p} (h:c a = 0):a = 0:=congrArg (fun z:S12=>z.p.u) h
def wi:S12:=w5 * c (F2p.inv' kx)
theorem kx_ne:kx ≠ 0:=fun e=>absurd (congrArg F2p.x e) (by decide +kernel)
theorem w_wi:w1 * wi = 1:=by
 unfold wi
 rw [<-Rg.mul_assoc,w_6,<-c_mul,F2p.mul_inv kx_ne,c_one]
theorem w1_6:w1 * w1 * w1 * (w1 * w1 * w1) = c kx:=by
 have h2:=w_2
 have h3:=w_3
 have h4:=w_4
 have h5:=w_5
 have h6:=w_6
 generalize w1 = a at *
 generalize w2 = x at *
 generalize w3 = y at *
 generalize w4 = z at *
 generalize w5 = v at *
 generalize c kx = k at *
 subst h2;subst h3;subst h4;subst h5;subst h6
 grind
theorem sub_eq' (a b:S12):turn (a - b) = turn a - turn b:=by
 have h:=turn_add (a - b) b
 have e:a - b + b = a:=by grind
 rw [e] at h
 rw [h];grind
theorem turn_inj {a:S12} (h:turn a = 0):a = 0:=by
 have h1:turns 12 a = a:=turns_twelve a
 have z:turn 0 = 0:=by
  have:=sub_eq' 0 0
  have e:(0:S12) - 0 = 0:=by grind
  rw [e] at this
  rw [this];grind
 have hz:∀ n,turns n (0:S12) = 0:=fun n=>by
  induction n with
  | zero=>rfl
  | succ n ih=>show turn (turns n 0) = 0;rw [ih,z]
 have h2:turns 12 a = turns 11 (turn a):=(turns_turns 1 a 11).symm
 rw [<-h1,h2,h,hz]
theorem turn_c (a:F2p):turn (c a) = c a.cj:=by
 have z:F2p.cj 0 = 0:=F2p.ext rfl (Rg.sub_self 0)
 refine S12.ext (S6.ext ?_ ?_ ?_) (S6.ext ?_ ?_ ?_)
 ·show a.cj * tuK0 = a.cj
  rw [tu_0,Rg.mul_one]
 ·show F2p.cj 0 * tuK2 = 0
  rw [z,Rg.zero_mul]
 ·show F2p.cj 0 * tuK4 = 0
  rw [z,Rg.zero_mul]
 ·show F2p.cj 0 * tuK1 = 0
  rw [z,Rg.zero_mul]
 ·show F2p.cj 0 * tuK3 = 0
  rw [z,Rg.zero_mul]
 ·show F2p.cj 0 * tuK5 = 0
  rw [z,Rg.zero_mul]
end S12
theorem cr_n0 {R:Type} [CR R] (a b:R):a * b = a * b - 0 * 0:=by grind
open S12 in
def uF:EF.Cm EK where
 f x:=c ⟨x,0⟩
 s:=1
 add a b:=by rw [<-c_add];exact congrArg c (F2p.ext rfl (Rg.add_zero 0).symm)
 sub a b:=by rw [<-c_sub];exact congrArg c (F2p.ext rfl (Rg.sub_self 0).symm)
 mul a b:=by rw [<-c_mul];exact congrArg c (F2p.ext (cr_n0 a b) (by show (0:Fp) = a * 0 + 0 * b;rw [Rg.mul_zero,Rg.zero_mul,Rg.add_zero]))
 inj a h:=congrArg F2p.x (c_inj h)
 s0:=fun e=>absurd (congrArg (fun z:S12=>z.p.u.x) e) (by decide +kernel)
 fa:=by
  show c ⟨0,0⟩ * _ = (0:S12)
  have:c ⟨0,0⟩ = 0:=rfl
  rw [this,Rg.zero_mul]
 fb:=by
  show c ⟨ofN 4,0⟩ * (1 * 1 * 1 * (1 * 1 * 1)) = b12
  have:(1 * 1 * 1 * (1 * 1 * 1):S12) = 1:=by grind
  rw [this,Rg.mul_one];rfl
open S12 in
def uT:ET.Cm EK where
 f:=c
 s:=wi
 add:=c_add
 sub:=c_sub
 mul:=c_mul
 inj _ h:=c_inj h
 s0:=fun e=>by
  have h:=w_wi
  rw [e,Rg.mul_zero] at h
  exact absurd (congrArg (fun z:S12=>z.p.u.x) h) (by decide +kernel)
 fa:=by
  show c 0 * _ = (0:S12)
  rw [c_zero,Rg.zero_mul]
 fb:=by
  show c bT * (wi * wi * wi * (wi * wi * wi)) = b12
  have e1:bT = fx 4 * kx:=by kernel_rfl
  have e2:w1 * w1 * w1 * (w1 * w1 * w1) * (wi * wi * wi * (wi * wi * wi)) = w1 * wi * (w1 * wi) * (w1 * wi) * (w1 * wi * (w1 * wi) * (w1 * wi)):=by
   generalize w1 = a
   generalize wi = b
   grind
  rw [e1,c_mul,<-w1_6,Rg.mul_assoc,e2,w_wi]
  have:(1 * 1 * 1 * (1 * 1 * 1):S12) = 1:=by grind
  rw [this,Rg.mul_one];rfl
def tF:EK.Fm where
 f:=S12.turn
 add:=S12.turn_add
 sub:=S12.sub_eq'
 mul:=S12.turn_mul
 inj _ h:=S12.turn_inj h
 fa:=by
  show S12.turn 0 = 0
  have:=S12.turn_c 0
  rw [S12.c_zero] at this
  rw [this]
  exact congrArg S12.c (F2p.ext rfl (Rg.sub_self 0))
 fb:=by
  show S12.turn (S12.c (fx 4)) = S12.c (fx 4)
  rw [S12.turn_c]
  exact congrArg S12.c (F2p.ext rfl (Rg.sub_self 0))
structure Nu (α F:Type) [CR F] where
 ad:α->α->α
 sb:α->α->α
 ml:α->α->α
 val:α->F
 fr:{β:Type}->α->(α->β)->β
 v_ad:∀ a b,val (ad a b) = val a + val b
 v_sb:∀ a b,val (sb a b) = val a - val b
 v_ml:∀ a b,val (ml a b) = val a * val b
 fr_eq:∀ {β:Type} (a:α) (k:α->β),fr a k = k a
namespace Nu
variable {α F:Type} [CR F] (o:Nu α F)
def gdX {β:Type} (b8 X Z:α) (k:α->β):β:=o.fr (o.ml X X) fun XX=>o.fr (o.ml Z Z) fun ZZ=>o.fr (o.ml X Z) fun XZ=>o.fr (o.sb (o.ml XX XX) (o.ml b8 (o.ml XZ ZZ))) k
def gdZ {β:Type} (b X Z:α) (k:α->β):β:=o.fr (o.ad Z Z) fun Z2=>o.fr (o.ml (o.ad Z2 Z2) (o.ad (o.ml (o.ml X X) X) (o.ml b (o.ml (o.ml Z Z) Z)))) k
def gaZ {β:Type} (X Z U V:α) (k:α->β):β:=o.fr (o.sb (o.ml X V) (o.ml U Z)) fun D=>o.fr (o.ml D D) k
def gaX {β:Type} (b2 x X Z U V DD:α) (k:α->β):β:=o.fr (o.ml Z V) fun ZV=>o.fr (o.ad (o.ml (o.ad (o.ml X V) (o.ml U Z)) (o.ml X U)) (o.ml b2 (o.ml ZV ZV))) fun S=>o.fr (o.sb (o.ad S S) (o.ml x DD)) k
structure B4 (α:Type) where
 b:α
 b2:α
 b8:α
def sp (q:B4 α) (x:α) (d:Bool):α × α × α × α->α × α × α × α
 | (X,Z,U,V)=>gaZ o X Z U V fun A=>gaX o q.b2 x X Z U V A fun B=>match d with
  | false=>gdX o q.b8 X Z fun P=>gdZ o q.b X Z fun Q=>(P,Q,B,A)
  | true=>gdX o q.b8 U V fun P=>gdZ o q.b U V fun Q=>(B,A,P,Q)
def ld (q:B4 α) (x one zero:α):List Bool->α × α × α × α
 | []=>(one,zero,x,one)
 | d :: r=>sp o q x d (ld q x one zero r)
def v4 (s:α × α × α × α):F × F × F × F:=(o.val s.1,o.val s.2.1,o.val s.2.2.1,o.val s.2.2.2)
theorem ld_eq {q:B4 α} {x one zero:α} {b:F} (h1:o.val q.b = b) (h2:o.val q.b2 = b + b) (h8:o.val q.b8 = b + b + b + b + (b + b + b + b)) (ho:o.val one = 1) (hz:o.val zero = 0):∀ l:List Bool,o.v4 (o.ld q x one zero l) = EC.lad b (o.val x) l
 | []=>by
  show (o.val one,o.val zero,o.val x,o.val one) = (1,0,o.val x,1)
  rw [ho,hz]
 | d :: r=>by
  have ih:=ld_eq (x:=x) h1 h2 h8 ho hz r
  show o.v4 (o.sp q x d (o.ld q x one zero r)) = EC.lad b (o.val x) (d :: r)
  generalize o.ld q x one zero r = s at ih
  obtain ⟨X,Z,U,V⟩:=s
  have e:EC.lad b (o.val x) r = (o.val X,o.val Z,o.val U,o.val V):=ih.symm
  cases d with
  | false =>
   show o.v4 (o.sp q x false (X,Z,U,V)) = (EC.dbX b (EC.lad b (o.val x) r).1 (EC.lad b (o.val x) r).2.1,EC.dbZ b (EC.lad b (o.val x) r).1 (EC.lad b (o.val x) r).2.1,EC.daX b (o.val x) (EC.lad b (o.val x) r).1 (EC.lad b (o.val x) r).2.1 (EC.lad b (o.val x) r).2.2.1 (EC.lad b (o.val x) r).2.2.2,EC.daZ (EC.lad b (o.val x) r).1 (EC.lad b (o.val x) r).2.1 (EC.lad b (o.val x) r).2.2.1 (EC.lad b (o.val x) r).2.2.2)
   rw [e]
   simp only [sp,gdX,gdZ,gaZ,gaX,o.fr_eq,v4,o.v_ad,o.v_sb,o.v_ml,h1,h2,h8,EC.dbX,EC.dbZ,EC.daX,EC.daZ]
  | true =>
   show o.v4 (o.sp q x true (X,Z,U,V)) = (EC.daX b (o.val x) (EC.lad b (o.val x) r).1 (EC.lad b (o.val x) r).2.1 (EC.lad b (o.val x) r).2.2.1 (EC.lad b (o.val x) r).2.2.2,EC.daZ (EC.lad b (o.val x) r).1 (EC.lad b (o.val x) r).2.1 (EC.lad b (o.val x) r).2.2.1 (EC.lad b (o.val x) r).2.2.2,EC.dbX b (EC.lad b (o.val x) r).2.2.1 (EC.lad b (o.val x) r).2.2.2,EC.dbZ b (EC.lad b (o.val x) r).2.2.1 (EC.lad b (o.val x) r).2.2.2)
   rw [e]
   simp only [sp,gdX,gdZ,gaZ,gaX,o.fr_eq,v4,o.v_ad,o.v_sb,o.v_ml,h1,h2,h8,EC.dbX,EC.dbZ,EC.daX,EC.daZ]
end Nu
end Go.Rq
namespace Go.Rq
open Go
set_option maxRecDepth 100000
theorem ofN_sub' (a b:Nat):ofN ((a + (pN - b % pN)) % pN) = ofN a - ofN b:=by
 have h:ofN ((a + (pN - b % pN)) % pN) + ofN b = ofN a:=by
  rw [ofN_mod,<-ofN_add]
  have hb:b % pN < pN:=Nat.mod_lt _ pN_pos
  have e:a + (pN - b % pN) + b = a + pN * (1 + b / pN):=by
   have:=Nat.div_add_mod b pN
   rw [Nat.mul_add,Nat.mul_one]
   omega
  rw [e]
  exact Fin.ext (by rw [ofN_val,ofN_val,Nat.add_mul_mod_self_left])
 grind
def fcc {β:Type} (n:Nat) (k:Nat->β):β:=Nat.rec (k 0) (fun m _=>k (m + 1)) n
theorem fcc_eq {β:Type} (n:Nat) (k:Nat->β):fcc n k = k n:=by cases n <;> rfl
def nF:Nu Nat Fp where
 ad a b:=(a + b) % pN
 sb a b:=(a + (pN - b % pN)) % pN
 ml a b:=a * b % pN
 val:=ofN
 fr n k:=fcc n k
 v_ad a b:=by rw [ofN_mod,ofN_add]
 v_sb:=ofN_sub'
 v_ml a b:=by rw [ofN_mod,ofN_mul]
 fr_eq:=fcc_eq
def qv (a:Nat × Nat):F2p:=⟨ofN a.1,ofN a.2⟩
def nQ:Nu (Nat × Nat) F2p where
 ad a b:=((a.1 + b.1) % pN,(a.2 + b.2) % pN)
 sb a b:=((a.1 + (pN - b.1 % pN)) % pN,(a.2 + (pN - b.2 % pN)) % pN)
 ml a b:=((a.1 * b.1 % pN + (pN - a.2 * b.2 % pN)) % pN,(a.1 * b.2 + a.2 * b.1) % pN)
 val:=qv
 fr a k:=fcc a.1 fun x=>fcc a.2 fun y=>k (x,y)
 v_ad a b:=F2p.ext (by show ofN _ = ofN _ + ofN _;rw [ofN_mod,ofN_add]) (by show ofN _ = ofN _ + ofN _;rw [ofN_mod,ofN_add])
 v_sb a b:=F2p.ext (ofN_sub' _ _) (ofN_sub' _ _)
 v_ml a b:=F2p.ext (by
  show ofN ((a.1 * b.1 % pN + (pN - a.2 * b.2 % pN)) % pN) = ofN a.1 * ofN b.1 - ofN a.2 * ofN b.2
  rw [ofN_sub',ofN_mod,ofN_mul,ofN_mul]) (by
  show ofN ((a.1 * b.2 + a.2 * b.1) % pN) = ofN a.1 * ofN b.2 + ofN a.2 * ofN b.1
  rw [ofN_mod,ofN_add,ofN_mul,ofN_mul])
 fr_eq a k:=by rw [fcc_eq,fcc_eq]
def bitsR:List Bool:=[true,false,false,false,false,false,false,false,false,false,false,false,false,false,false,false,false,false,false,false,false,false,false,false,false,false,false,false,false,false,false,false,true,true,true,true,true,true,true,true,true,true,true,true,true,true,true,true,true,true,true,true,true,true,true,true,true,true,true,true,true,true,true,true,false,true,true,true,true,true,true,true,true,true,false,true,true,false,true,false,false,true,true,true,true,true,true,true,true,true,true,true,true,true,true,true,false,true,false,false,false,false,false,false,false,false,true,false,false,true,false,true,true,false,true,true,true,true,false,true,true,true,false,false,true,false,true,false,true,false,true,false,false,false,false,false,false,false,false,true,true,false,true,true,true,false,false,false,false,true,false,true,true,false,false,true,false,false,false,false,false,false,false,true,false,false,false,false,false,false,false,true,true,false,true,true,true,false,false,true,true,true,false,false,true,true,false,false,true,true,false,false,false,false,false,true,false,false,true,false,true,false,true,true,true,true,true,false,true,false,true,true,true,false,false,true,true,false,false,true,false,true,false,false,true,true,false,false,true,false,true,false,true,true,true,false,false,true,false,true,true,false,true,true,false,true,true,true,true,true,false,false,true,true,true]
def bitsU:List Bool:=[false,false,false,false,false,false,false,false,false,false,false,false,false,false,false,false,true,false,false,false,false,false,false,false,false,false,false,false,false,false,false,false,false,false,false,false,false,false,false,false,false,false,false,false,false,false,false,false,true,false,false,false,false,false,false,false,false,true,false,false,true,false,true,true]
def uA:Nat:=15132376222941642752
theorem bitsR_val:EC.bval bitsR = rO:=by decide +kernel
theorem bitsU_val:EC.bval bitsU = uA:=by decide +kernel
def gx:Nat:=3685416753713387016781088315183077757961620795782546409894578378688607592378376318836054947676345821548104185464507
def gy:Nat:=1339506544944476473020471379941921221584933875938349620426543736416511423956333506472724655353366534992391756441569
def hx:Nat × Nat:=(352701069587466618187139116011060144890029952792775240219908644239793785735715026873347600343865175952761926303160,3059144344244213709971259814753781636986470325476647558659373206291635324768958432433509563104347017837885763365758)
def hy:Nat × Nat:=(1985150602287291935568054521177171638300868978215655730859378665066344726373823718423869104263333984641494340347905,927553665492332455747201965776037880757740193453592970025027978793976877002675564980949289727957565575433344219582)
def q1:Nu.B4 Nat:=⟨4,8,32⟩
def q2:Nu.B4 (Nat × Nat):=⟨(4,4),(8,8),(32,32)⟩
theorem lad1:nF.ld q1 gx 1 0 bitsR = (3902495236668898138710318397054243001904011792405917492113807966202672976455572943013949040707212318369027823680114,0,1740204132866493341639162740786522748400869730673403153690848348694577628150635097005710320841975754988975261606615,2879134719245019570677008120186053818027374456621137569634468253780230919972683784243666548180824750802288331286872):=by kernel_rfl
theorem lad0:nF.ld q1 1 1 0 bitsR = (1802683017106049813255454836200618219591355583670713834674559992644047224648383250423393577808490028512061427937481,3071465665269581727945504128095978579062036697989745253382358463297539498760032495741577258235232469118311035017558,3227125380148155065324646031268875529204846515695723897401384623768821627404552757114315771748626776552896429873319,484767215480342815077339729655988441691332048242658516245622116379252559382077032170264325226483073994088507782174):=by kernel_rfl
theorem lad2:nQ.ld q2 hx (1,0) (0,0) bitsR = ((720933238543179394626216210702823137714067095158678157910199802083231671732037592482117917787351890710515442203706,3982527006611515688405330019498680975589956175980659744600432213939035140318651757213956830542967430714084003413765),(0,0),(2773099892884886140149684480465492842540424724437046081377684156827383332355691429146999525665908826707890736839469,190182163138699748848154778956352155521279589592381318249697692123537157769174937712240019011144735458804357519725),(761144215060368453772653642338687914586492586833580633695240022289471048989008226702588569975314120321507018732042,3182670728855496948880670801871422729726020134920917907515167180637231911182349937635059814911010494325611425978442)):=by kernel_rfl
theorem lad3:nQ.ld q2 hx (1,0) (0,0) bitsU = ((1299472446201210525080850782856302820812950941154125454038861239621088424596191541075486337636416984590582990831386,625449505819937109006040953629571828999278962804435964022560314726572287082761507583269197686816626737893826171098),(331962297675445865677456544031933111967165174844970411532577437976595533332448758696416935291298084369942450942268,828232558850885634657305068542555924104791783564505802322280978209570025247678161166772957170999025257204643344520),(947961016294869058464713472834183622919061968215849263743718729382047157744284940666174273297751205882083749759069,1530646342073524281070002566891444261921964995547328940788579641137531192072306082160571960400616196561677241076661),(2512018621616413146420868824805640865104674808587127854274720780714643154225418891651650315489368275275633008782081,82290435757908544069428766362205507539356753734138753636090770433867407228928022110950592771641958835298059847660)):=by kernel_rfl
theorem lF (x:Nat) (l:List Bool):nF.v4 (nF.ld q1 x 1 0 l) = EC.lad (ofN 4) (ofN x) l :=
 nF.ld_eq (q:=q1) (x:=x) (one:=1) (zero:=0) (b:=ofN 4) rfl (by decide +kernel) (by decide +kernel) (by decide +kernel) (by decide +kernel) l
theorem lQ (x:Nat × Nat) (l:List Bool):nQ.v4 (nQ.ld q2 x (1,0) (0,0) l) = EC.lad bT (qv x) l :=
 nQ.ld_eq (q:=q2) (x:=x) (one:=(1,0)) (zero:=(0,0)) (b:=bT) rfl (by decide +kernel) (by decide +kernel) (by decide +kernel) (by decide +kernel) l
abbrev g1:Option (Fp × Fp):=some (ofN gx,ofN gy)
abbrev g2:Option (F2p × F2p):=some (qv hx,qv hy)
theorem g1_on:EF.on g1:=by
 show ofN gy * ofN gy = ofN gx * ofN gx * ofN gx + 0 * ofN gx + ofN 4
 decide +kernel
theorem g2_on:ET.on g2:=by
 show qv hy * qv hy = qv hx * qv hx * qv hx + 0 * qv hx + bT
 decide +kernel
theorem g1_ord:EF.mul rO g1 = none:=by
 have h:=lF gx bitsR
 rw [lad1] at h
 rw [<-bitsR_val]
 refine EF.lad_zero rfl g1_on bitsR ?_ ?_
 ·show (EC.lad (ofN 4) (ofN gx) bitsR).2.1 = 0
  rw [<-h];decide +kernel
 ·show (EC.lad (ofN 4) (ofN gx) bitsR).1 ≠ 0
  rw [<-h];decide +kernel
theorem g2_ord:ET.mul rO g2 = none:=by
 have h:=lQ hx bitsR
 rw [lad2] at h
 rw [<-bitsR_val]
 refine ET.lad_zero rfl g2_on bitsR ?_ ?_
 ·show (EC.lad bT (qv hx) bitsR).2.1 = 0
  rw [<-h];decide +kernel
 ·show (EC.lad bT (qv hx) bitsR).1 ≠ 0
  rw [<-h];decide +kernel
theorem lad_one:(EC.lad (ofN 4) (ofN 1) bitsR).2.1 ≠ 0:=by
 have h:=lF 1 bitsR
 rw [lad0] at h
 rw [<-h];decide +kernel
def tq:Nat × Nat:=(877076961050607968509681729531255177986764537961432449499635504522207616027455086505066378536590128544573588734230,877076961050607968509681729531255177986764537961432449499635504522207616027455086505066378536590128544573588734230)
theorem tq_inv:tuK1 * qv tq = 1:=by decide +kernel
def kX:Nat × Nat:=(3173817679043455518561028855769621774971450671729042202579931057243242334374140167576873990769662989875082501930087,1061903119136554661252589027312479841350528275070755452158378537709581847493347774609704687139029127751805506262137)
def kY:Nat × Nat:=(1569016022275531455448242868100670019659560879913055225922880837785524435448320094021674095562119072804339610771685,807855666204206740915096284520812046735558067671985150037401639732010952798180646704693959921119854148905070563196)
def kl:Nat × Nat:=(3790108415138690408011987424426895648692249095081675626449124617212608622726432835679316694761432243655025601928660,2608155366860544088119888551043656497675205177542476951260970536420818693448168535664455687082313531222592712212902)
theorem kX_eq:(qv hx).cj * (qv tq * qv tq) = qv kX:=by decide +kernel
theorem kY_eq:(qv hy).cj * (qv tq * qv tq * qv tq) = qv kY:=by decide +kernel
theorem kK_on:ET.on (some (qv kX,qv kY)):=by
 show qv kY * qv kY = qv kX * qv kX * qv kX + 0 * qv kX + bT
 decide +kernel
theorem u_g2n {n:Nat} (hb:EC.bval bitsU = n):ET.mul n g2 = some (qv kX,0 - qv kY):=by
 have h:=lQ hx bitsU
 rw [lad3] at h
 have hr:=ET.lad_rep rfl g2_on bitsU
 rw [hb] at hr
 have h1:(EC.lad bT (qv hx) bitsU).1 = qv (1299472446201210525080850782856302820812950941154125454038861239621088424596191541075486337636416984590582990831386,625449505819937109006040953629571828999278962804435964022560314726572287082761507583269197686816626737893826171098):=by rw [<-h];rfl
 have h2:(EC.lad bT (qv hx) bitsU).2.1 = qv (331962297675445865677456544031933111967165174844970411532577437976595533332448758696416935291298084369942450942268,828232558850885634657305068542555924104791783564505802322280978209570025247678161166772957170999025257204643344520):=by rw [<-h];rfl
 have h3:(EC.lad bT (qv hx) bitsU).2.2.1 = qv (947961016294869058464713472834183622919061968215849263743718729382047157744284940666174273297751205882083749759069,1530646342073524281070002566891444261921964995547328940788579641137531192072306082160571960400616196561677241076661):=by rw [<-h];rfl
 have h4:(EC.lad bT (qv hx) bitsU).2.2.2 = qv (2512018621616413146420868824805640865104674808587127854274720780714643154225418891651650315489368275275633008782081,82290435757908544069428766362205507539356753734138753636090770433867407228928022110950592771641958835298059847660):=by rw [<-h];rfl
 have hs:∀ n,ET.mul (n + 1) g2 = ET.add (ET.mul n g2) g2:=fun _=>rfl
 have ho:=ET.on_mul g2_on n
 rw [hs n] at hr
 generalize ET.mul n g2 = P at hr ho
 obtain ⟨r1,r2⟩:=hr
 have e1:ET.b = bT:=rfl
 rw [e1] at r1 r2
 cases P with
 | none =>
  have r1:(EC.lad bT (qv hx) bitsU).2.1 = 0:=r1
  rw [h2] at r1
  exact absurd r1 (by decide +kernel)
 | some s =>
  have r1:(EC.lad bT (qv hx) bitsU).1 = s.1 * (EC.lad bT (qv hx) bitsU).2.1:=r1
  rw [h1,h2] at r1
  have nz:qv (331962297675445865677456544031933111967165174844970411532577437976595533332448758696416935291298084369942450942268,828232558850885634657305068542555924104791783564505802322280978209570025247678161166772957170999025257204643344520) ≠ 0:=by decide +kernel
  have k1:qv (1299472446201210525080850782856302820812950941154125454038861239621088424596191541075486337636416984590582990831386,625449505819937109006040953629571828999278962804435964022560314726572287082761507583269197686816626737893826171098) = qv kX * qv (331962297675445865677456544031933111967165174844970411532577437976595533332448758696416935291298084369942450942268,828232558850885634657305068542555924104791783564505802322280978209570025247678161166772957170999025257204643344520):=by decide +kernel
  have hx1:s.1 = qv kX:=by
   rw [k1] at r1
   have:(s.1 - qv kX) * qv (331962297675445865677456544031933111967165174844970411532577437976595533332448758696416935291298084369942450942268,828232558850885634657305068542555924104791783564505802322280978209570025247678161166772957170999025257204643344520) = 0:=by
    generalize qv (331962297675445865677456544031933111967165174844970411532577437976595533332448758696416935291298084369942450942268,828232558850885634657305068542555924104791783564505802322280978209570025247678161166772957170999025257204643344520) = z at *
    generalize qv kX = x at *
    grind
   rcases F2p.dom this with h | h
   ·generalize qv kX = x at *
    grind
   ·exact absurd h nz
  have hk:qv kY * qv kY = qv kX * qv kX * qv kX + 0 * qv kX + bT:=kK_on
  have ho:s.2 * s.2 = s.1 * s.1 * s.1 + 0 * s.1 + bT:=ho
  rw [hx1,<-hk] at ho
  have h5:(s.2 - qv kY) * (s.2 + qv kY) = 0:=by
   generalize qv kY = y at *
   grind
  rcases F2p.dom h5 with h | h
  ·exfalso
   have hy1:s.2 = qv kY:=by
    generalize qv kY = y at *
    grind
   have hss:s = (qv kX,qv kY):=Prod.ext hx1 hy1
   have nd:qv kX ≠ qv hx:=by decide +kernel
   have hsl:ET.Sl (qv kX,qv kY) (qv hx,qv hy) (qv kl):=by
    refine ⟨?_,?_⟩
    ·show qv kY - qv hy = qv kl * (qv kX - qv hx)
     decide +kernel
    ·show qv kX * qv kX + qv kX * qv hx + qv hx * qv hx + 0 = qv kl * (qv kY + qv hy)
     decide +kernel
   rw [hss,ET.add_sl kK_on g2_on (fun ho=>nd ho.1) hsl] at r2
   have r2:(EC.lad bT (qv hx) bitsU).2.2.1 = (qv kl * qv kl - qv kX - qv hx) * (EC.lad bT (qv hx) bitsU).2.2.2:=r2
   rw [h3,h4] at r2
   exact absurd r2 (by decide +kernel)
  ·have hy1:s.2 = 0 - qv kY:=by
    generalize qv kY = y at *
    grind
   rw [show s = (qv kX,0 - qv kY) from Prod.ext hx1 hy1]
theorem u_g2:ET.mul uA g2 = some (qv kX,0 - qv kY):=u_g2n bitsU_val
end Go.Rq
namespace Go.Rq
open Go
set_option maxRecDepth 100000
open EC S12
theorem turn_wi:turn wi = c (qv tq) * wi:=by
 have h1:turn w1 = c tuK1 * w1:=by rw [<-frob,w1_pow]
 have h2:turn (w1 * wi) = 1:=by
  rw [w_wi]
  have:=turn_c 1
  rw [c_one] at this
  rw [this]
  exact congrArg c (F2p.ext rfl (Rg.sub_self 0))
 rw [turn_mul,h1] at h2
 have h3:c tuK1 * w1 * (c (qv tq) * wi) = 1:=by
  have:c tuK1 * w1 * (c (qv tq) * wi) = c tuK1 * c (qv tq) * (w1 * wi):=by
   generalize c tuK1 = a;generalize c (qv tq) = b;generalize w1 = x;generalize wi = y
   grind
  rw [this,<-c_mul,tq_inv,w_wi,c_one,Rg.mul_one]
 have h4:c tuK1 * w1 * (turn wi - c (qv tq) * wi) = 0:=by
  have:c tuK1 * w1 * (turn wi - c (qv tq) * wi) = c tuK1 * w1 * turn wi - c tuK1 * w1 * (c (qv tq) * wi):=by
   generalize c tuK1 = a;generalize c (qv tq) * wi = b;generalize w1 = x;generalize turn wi = y
   grind
  rw [this,h2,h3];exact Rg.sub_self 1
 rcases S12.dom h4 with h | h
 ·exfalso
  rw [h,Rg.zero_mul] at h3
  exact absurd (congrArg (fun z:S12=>z.p.u.x) h3) (by decide +kernel)
 ·generalize turn wi = y at *
  generalize c (qv tq) * wi = x at *
  grind
theorem turn_x (a:F2p):turn (c a * (wi * wi)) = c (a.cj * (qv tq * qv tq)) * (wi * wi):=by
 rw [turn_mul,turn_mul,turn_c,turn_wi,c_mul,c_mul]
 generalize c a.cj = p;generalize c (qv tq) = q;generalize wi = w
 grind
theorem turn_y (a:F2p):turn (c a * (wi * wi * wi)) = c (a.cj * (qv tq * qv tq * qv tq)) * (wi * wi * wi):=by
 rw [turn_mul,turn_mul,turn_mul,turn_c,turn_wi,c_mul,c_mul,c_mul]
 generalize c a.cj = p;generalize c (qv tq) = q;generalize wi = w
 grind
def tw (P:Option (F2p × F2p)):Option (F2p × F2p):=P.map fun p=>(p.1.cj * (qv tq * qv tq),p.2.cj * (qv tq * qv tq * qv tq))
theorem tw_cp (P:Option (F2p × F2p)):mp tF (cp uT P) = cp uT (tw P):=by
 cases P with
 | none=>rfl
 | some p =>
  show some (turn (c p.1 * (wi * wi)),turn (c p.2 * (wi * wi * wi))) = some (c (p.1.cj * (qv tq * qv tq)) * (wi * wi),c (p.2.cj * (qv tq * qv tq * qv tq)) * (wi * wi * wi))
  rw [turn_x,turn_y]
def k2:F2p:=(qv tq * qv tq).cj * (qv tq * qv tq)
def k3:F2p:=(qv tq * qv tq * qv tq).cj * (qv tq * qv tq * qv tq)
theorem k3_eq:k3 = 0 - 1:=by decide +kernel
theorem k2_eq:k2 * k2 + k2 + 1 = 0:=by decide +kernel
theorem tw_tw (p:F2p × F2p):tw (tw (some p)) = some (p.1 * k2,0 - p.2):=by
 show some ((p.1.cj * (qv tq * qv tq)).cj * (qv tq * qv tq),(p.2.cj * (qv tq * qv tq * qv tq)).cj * (qv tq * qv tq * qv tq)) = _
 rw [F2p.cj_mul p.1.cj,F2p.cj_mul p.2.cj,F2p.cj_cj,F2p.cj_cj,Rg.mul_assoc p.1,Rg.mul_assoc p.2]
 show some (p.1 * k2,p.2 * k3) = _
 rw [k3_eq]
 congr 2
 generalize p.2 = y
 grind
theorem tw_on {P:Option (F2p × F2p)} (h:ET.on P):ET.on (tw (tw P)):=by
 cases P with
 | none=>trivial
 | some p =>
  rw [tw_tw]
  have h:p.2 * p.2 = p.1 * p.1 * p.1 + 0 * p.1 + bT:=h
  show (0 - p.2) * (0 - p.2) = p.1 * k2 * (p.1 * k2) * (p.1 * k2) + 0 * (p.1 * k2) + bT
  have hk:=k2_eq
  generalize k2 = k at *
  have h3:k * k * k = 1:=by grind
  grind
theorem bT_ne:bT ≠ 0:=by decide +kernel
theorem tw_phi {P:Option (F2p × F2p)} (h:ET.on P):ET.add (tw (tw (tw (tw P)))) P = tw (tw P):=by
 cases P with
 | none=>rfl
 | some p =>
  have h4:tw (tw (tw (tw (some p)))) = some (p.1 * k2 * k2,p.2):=by
   rw [tw_tw,tw_tw]
   congr 2
   generalize p.2 = y
   grind
  have h2:=tw_on (tw_on h)
  rw [h4] at h2
  rw [h4,tw_tw]
  have hp:p.2 * p.2 = p.1 * p.1 * p.1 + 0 * p.1 + bT:=h
  have hk:=k2_eq
  have hn:k2 * k2 - 1 ≠ 0:=by decide +kernel
  have hno:¬ Opp (p.1 * k2 * k2,p.2) p:=fun ⟨o1,o2⟩=>by
   have o1:p.1 * k2 * k2 = p.1:=o1
   have o2:p.2 + p.2 = 0:=o2
   have e1:p.1 * (k2 * k2 - 1) = 0:=by
    generalize k2 = k at *
    grind
   have hx:p.1 = 0:=by
    rcases F2p.dom e1 with h | h
    ·exact h
    ·exact absurd h hn
   have hy:p.2 = 0:=by
    have:(1 + 1) * p.2 = 0:=by grind
    rcases F2p.dom this with h | h
    ·exact absurd h ET.two
    ·exact h
   rw [hx,hy] at hp
   refine bT_ne ?_
   generalize bT = b at *
   grind
  have hsl:ET.Sl (p.1 * k2 * k2,p.2) p 0:=by
   refine ⟨?_,?_⟩
   ·show p.2 - p.2 = 0 * (p.1 * k2 * k2 - p.1)
    generalize k2 = k at *
    grind
   ·show p.1 * k2 * k2 * (p.1 * k2 * k2) + p.1 * k2 * k2 * p.1 + p.1 * p.1 + 0 = 0 * (p.2 + p.2)
    generalize k2 = k at *
    have h3:k * k * k = 1:=by grind
    grind
  rw [ET.add_sl h2 h hno hsl]
  show some (0 * 0 - p.1 * k2 * k2 - p.1,0 * (p.1 * k2 * k2 - (0 * 0 - p.1 * k2 * k2 - p.1)) - p.2) = some (p.1 * k2,0 - p.2)
  congr 2
  ·generalize k2 = k at *
   grind
  ·generalize k2 = k at *
   grind
def lam2:Nat:=52435875175126190479447740508185965837690552500527637822588526323715639541761
def lam3:Nat:=52435875175126190475982595682112313518914282969839895044348538607396160864257
def lam4:Nat:=15132376222941642752
def lam5:Nat:=3465144826073652318776269530687742778255120092542420320256
theorem few_pts:2 * EC.dgr bitsR.length < rO * rO * rO - 1:=by decide +kernel
def ptF (P:Option (Fp × Fp)) (h:EF.on P):EK.Pt:=⟨cp uF P,cp_on uF h⟩
def ptT (P:Option (F2p × F2p)) (h:ET.on P):EK.Pt:=⟨cp uT P,cp_on uT h⟩
theorem ptT_ord {P:Option (F2p × F2p)} (h:ET.on P) (k:ET.mul rO P = none):EK.grp.nm rO (ptT P h) = EK.grp.o:=by
 refine Subtype.ext ?_
 rw [EK.nm_val]
 show EK.mul rO (cp uT P) = none
 rw [<-cp_mul uT h,k];rfl
theorem ptF_ord {P:Option (Fp × Fp)} (h:EF.on P) (k:EF.mul rO P = none):EK.grp.nm rO (ptF P h) = EK.grp.o:=by
 refine Subtype.ext ?_
 rw [EK.nm_val]
 show EK.mul rO (cp uF P) = none
 rw [<-cp_mul uF h,k];rfl
theorem turn_ptF {P:Option (Fp × Fp)} (h:EF.on P):(mpH tF).f (ptF P h) = ptF P h:=by
 refine Subtype.ext ?_
 show mp tF (cp uF P) = cp uF P
 cases P with
 | none=>rfl
 | some p =>
  have e:∀ a:Fp,turn (c ⟨a,0⟩) = c ⟨a,0⟩:=fun a=>by
   rw [turn_c]
   exact congrArg c (F2p.ext rfl (Rg.sub_self 0))
  have o:turn 1 = 1:=e 1
  show some (turn (c ⟨p.1,0⟩ * (1 * 1)),turn (c ⟨p.2,0⟩ * (1 * 1 * 1))) = some (c ⟨p.1,0⟩ * (1 * 1),c ⟨p.2,0⟩ * (1 * 1 * 1))
  rw [turn_mul,turn_mul,turn_mul,turn_mul,turn_mul,e,e,o]
theorem ul_sum:uA + lam2 = rO:=by decide +kernel
theorem eig_g2n {n l r:Nat} (hnl:n + l = r) (hr:EK.grp.nm r (ptT g2 g2_on) = EK.grp.o) (hm:ET.mul n g2 = some (qv kX,0 - qv kY)):(mpH tF).f (ptT g2 g2_on) = EK.grp.nm l (ptT g2 g2_on):=by
 have hs:EK.grp.nm r (ptT g2 g2_on) = EK.grp.add (EK.grp.nm n (ptT g2 g2_on)) (EK.grp.nm l (ptT g2 g2_on)):=by
  rw [<-EK.grp.nm_add,hnl]
 rw [hr] at hs
 have hu:(EK.grp.nm n (ptT g2 g2_on)).1 = cp uT (some (qv kX,0 - qv kY)):=by
  rw [EK.nm_val]
  show EK.mul n (cp uT g2) = _
  rw [<-cp_mul uT g2_on,hm]
 have ht:((mpH tF).f (ptT g2 g2_on)).1 = cp uT (some (qv kX,qv kY)):=by
  show mp tF (cp uT g2) = _
  rw [tw_cp]
  show cp uT (some ((qv hx).cj * (qv tq * qv tq),(qv hy).cj * (qv tq * qv tq * qv tq))) = _
  rw [kX_eq,kY_eq]
 have h0:EK.grp.add (EK.grp.nm n (ptT g2 g2_on)) ((mpH tF).f (ptT g2 g2_on)) = EK.grp.o:=by
  refine Subtype.ext ?_
  show EK.add (EK.grp.nm n (ptT g2 g2_on)).1 ((mpH tF).f (ptT g2 g2_on)).1 = none
  rw [hu,ht]
  refine EK.add_opp ⟨rfl,?_⟩
  show c (0 - qv kY) * (wi * wi * wi) + c (qv kY) * (wi * wi * wi) = 0
  have z:c (0 - qv kY) = 0 - c (qv kY):=by rw [c_sub,c_zero]
  rw [z]
  generalize c (qv kY) = a
  generalize wi = b
  grind
 exact EK.grp.cancel (h0.trans hs)
theorem eig_g2:(mpH tF).f (ptT g2 g2_on) = EK.grp.nm lam2 (ptT g2 g2_on):=eig_g2n ul_sum (ptT_ord g2_on g2_ord) u_g2
theorem lad_map {F K:Type} [CR F] [CR K] (f:F->K) (ha:∀ a b,f (a + b) = f a + f b) (hs:∀ a b,f (a - b) = f a - f b) (hm:∀ a b,f (a * b) = f a * f b) (h1:f 1 = 1) (h0:f 0 = 0) (b x:F) :
  ∀ l:List Bool,EC.lad (f b) (f x) l = (f (EC.lad b x l).1,f (EC.lad b x l).2.1,f (EC.lad b x l).2.2.1,f (EC.lad b x l).2.2.2)
 | []=>by
  show (1,0,f x,1) = (f 1,f 0,f x,f 1)
  rw [h1,h0]
 | d :: r=>by
  have ih:=lad_map f ha hs hm h1 h0 b x r
  cases d with
  | false =>
   show (EC.dbX (f b) (EC.lad (f b) (f x) r).1 (EC.lad (f b) (f x) r).2.1,EC.dbZ (f b) (EC.lad (f b) (f x) r).1 (EC.lad (f b) (f x) r).2.1,EC.daX (f b) (f x) (EC.lad (f b) (f x) r).1 (EC.lad (f b) (f x) r).2.1 (EC.lad (f b) (f x) r).2.2.1 (EC.lad (f b) (f x) r).2.2.2,EC.daZ (EC.lad (f b) (f x) r).1 (EC.lad (f b) (f x) r).2.1 (EC.lad (f b) (f x) r).2.2.1 (EC.lad (f b) (f x) r).2.2.2) =
    (f (EC.dbX b (EC.lad b x r).1 (EC.lad b x r).2.1),f (EC.dbZ b (EC.lad b x r).1 (EC.lad b x r).2.1),f (EC.daX b x (EC.lad b x r).1 (EC.lad b x r).2.1 (EC.lad b x r).2.2.1 (EC.lad b x r).2.2.2),f (EC.daZ (EC.lad b x r).1 (EC.lad b x r).2.1 (EC.lad b x r).2.2.1 (EC.lad b x r).2.2.2))
   rw [ih]
   simp only [EC.dbX,EC.dbZ,EC.daX,EC.daZ,ha,hs,hm]
  | true =>
   show (EC.daX (f b) (f x) (EC.lad (f b) (f x) r).1 (EC.lad (f b) (f x) r).2.1 (EC.lad (f b) (f x) r).2.2.1 (EC.lad (f b) (f x) r).2.2.2,EC.daZ (EC.lad (f b) (f x) r).1 (EC.lad (f b) (f x) r).2.1 (EC.lad (f b) (f x) r).2.2.1 (EC.lad (f b) (f x) r).2.2.2,EC.dbX (f b) (EC.lad (f b) (f x) r).2.2.1 (EC.lad (f b) (f x) r).2.2.2,EC.dbZ (f b) (EC.lad (f b) (f x) r).2.2.1 (EC.lad (f b) (f x) r).2.2.2) =
    (f (EC.daX b x (EC.lad b x r).1 (EC.lad b x r).2.1 (EC.lad b x r).2.2.1 (EC.lad b x r).2.2.2),f (EC.daZ (EC.lad b x r).1 (EC.lad b x r).2.1 (EC.lad b x r).2.2.1 (EC.lad b x r).2.2.2),f (EC.dbX b (EC.lad b x r).2.2.1 (EC.lad b x r).2.2.2),f (EC.dbZ b (EC.lad b x r).2.2.1 (EC.lad b x r).2.2.2))
   rw [ih]
   simp only [EC.dbX,EC.dbZ,EC.daX,EC.daZ,ha,hs,hm]
theorem lad_K:(EC.lad EK.b (c ⟨ofN 1,0⟩) bitsR).2.1 ≠ 0:=fun e=>by
 have h:=lad_map uF.f uF.add uF.sub uF.mul rfl rfl (ofN 4) (ofN 1) bitsR
 have e2:uF.f (EC.lad (ofN 4) (ofN 1) bitsR).2.1 = 0:=by
  have h1:=congrArg (fun s:S12 × S12 × S12 × S12=>s.2.1) h
  exact h1.symm.trans e
 exact lad_one (uF.inj _ e2)
theorem eig_all {P:Option (F2p × F2p)} (h:ET.on P) (k:ET.mul rO P = none):mp tF (cp uT P) = EK.mul lam2 (cp uT P):=by
 have hx:(EC.lad EK.b (c ⟨ofN 1,0⟩) bitsR).2.1 ≠ 0:=lad_K
 have nU:ptF g1 g1_on ≠ EK.grp.o:=fun e=>by
  have e:=congrArg Subtype.val e
  cases e
 have nW:ptT g2 g2_on ≠ EK.grp.o:=fun e=>by
  have e:=congrArg Subtype.val e
  cases e
 have hphi:EK.grp.add ((mpH tF).f ((mpH tF).f ((mpH tF).f ((mpH tF).f (ptT P h))))) (ptT P h) = (mpH tF).f ((mpH tF).f (ptT P h)):=by
  refine Subtype.ext ?_
  show EK.add (mp tF (mp tF (mp tF (mp tF (cp uT P))))) (cp uT P) = mp tF (mp tF (cp uT P))
  rw [tw_cp,tw_cp,tw_cp,tw_cp,<-cp_add uT (tw_on (tw_on h)) h,tw_phi h]
 have:=EC.one_turn tF (r:=rO) rfl rO_pr.1 rO_dvd rO_inv bitsR bitsR_val hx few_pts (ptF_ord g1_on g1_ord) (ptT_ord g2_on g2_ord) nU nW (turn_ptF g1_on)
  (l2:=lam2) (l3:=lam3) (l4:=lam4) (l5:=lam5) (m2:=rO - lam2) (m3:=rO - lam3) (m4:=rO - lam4) (m5:=rO - lam5) eig_g2 (by decide +kernel) (by decide +kernel) (by decide +kernel) (by decide +kernel)
  (by decide +kernel) (by decide +kernel) (by decide +kernel) (by decide +kernel) (by decide +kernel) (by decide +kernel) (by decide +kernel) (by decide +kernel) (ptT_ord h k) hphi
 have:=congrArg Subtype.val this
 rw [EK.nm_val] at this
 exact this
end Go.Rq
namespace Go.Rq
open Go
set_option linter.unusedSectionVars false
set_option linter.unusedSimpArgs false
set_option linter.unusedVariables false
namespace EC
variable {F:Type} [i:CR F] (C:EC F)
def lnv (l:F) (p X:F × F):F:=X.2 - p.2 - l * (X.1 - p.1)
theorem lnv_sl {p q X:F × F} {l:F} (h:C.Sl p q l):lnv l p X = lnv l q X:=by
 obtain ⟨h1,_⟩:=h
 unfold lnv
 grind
theorem lnv_neg {p q X:F × F} {l:F} (hp:C.on (some p)) (h:C.Sl p q l) (hX:C.on (some X)) :
  lnv l p X * lnv l p (X.1,0 - X.2) = (0 - 1) * ((X.1 - p.1) * ((X.1 - q.1) * (X.1 - (by' l p q).1))):=by
 obtain ⟨x,y⟩:=p
 obtain ⟨u,v⟩:=q
 obtain ⟨s,t⟩:=X
 simp only [on,Sl,by',lnv] at *
 obtain ⟨h1,h2⟩:=h
 have e1:v = y - l * (x - u):=mv2 h1
 have e2:C.a = l * (y + v) - (x * x + x * u + u * u):=mv3 h2
 have e3:C.b = y * y - x * x * x - C.a * x:=mv6 hp
 rw [e3,e2,e1] at hX
 clear e1 e2 e3 h1 h2 hp
 grind
theorem lnv_two {p q X:F × F} {l t:F} (hp:C.on (some p)) (h:C.Sl p q l) (hX:C.on (some X)) :
  lnv l p X * lnv t (by' l p q) X = (X.1 - (by' l p q).1) * (X.1 * X.1 + ((by' l p q).1 + l * t) * X.1 + ((by' l p q).1 * ((by' l p q).1 + l * t) + C.a + l * ((by' l p q).2 - t * (by' l p q).1) + (p.2 - l * p.1) * t) - (l + t) * X.2):=by
 obtain ⟨x,y⟩:=p
 obtain ⟨u,v⟩:=q
 obtain ⟨s,w⟩:=X
 simp only [on,Sl,by',lnv] at *
 obtain ⟨h1,h2⟩:=h
 have e1:v = y - l * (x - u):=mv2 h1
 have e2:C.a = l * (y + v) - (x * x + x * u + u * u):=mv3 h2
 have e3:C.b = y * y - x * x * x - C.a * x:=mv6 hp
 rw [e3,e2,e1] at hX
 rw [e2,e1]
 clear e1 e2 e3 h1 h2 hp
 grind
theorem lnv_cocycle {p q s X:F × F} {l m k:F} (hp:C.on (some p)) (hq:C.on (some q)) (h1:C.Sl p q l) (h2:C.Sl q s m) (hk:k * (l - m) = p.1 - s.1) (hd:l - m ≠ 0) (hX:C.on (some X)) :
  lnv l p X * lnv (k - l) (by' l p q) X * (X.1 - (by' m q s).1) = lnv m q X * lnv (k - m) (by' m q s) X * (X.1 - (by' l p q).1):=by
 rw [C.lnv_two hp h1 hX,C.lnv_two hq h2 hX]
 obtain ⟨x,y⟩:=p
 obtain ⟨u,v⟩:=q
 obtain ⟨z,w⟩:=s
 obtain ⟨X,Y⟩:=X
 obtain ⟨a1,a2⟩:=h1
 obtain ⟨b1,b2⟩:=h2
 simp only [by'] at *
 have e1:y = v + l * (x - u):=mv a1
 have e2:w = v + m * (z - u):=mv5 (by rw [b1,mv4])
 have e3:C.a = l * (y + v) - (x * x + x * u + u * u):=mv3 a2
 have e4:u * u + u * z + z * z + (l * (y + v) - (x * x + x * u + u * u)) = m * (v + w):=by rw [<-e3];exact b2
 have e5:x = z + k * (l - m):=by clear e1 e2 e3 e4 a1 a2 b1 b2 hX hp hq hd;grind
 have e6:(1 + 1) * v = k * (x + z + u - l * l) - (l + m) * (z - u):=by
  refine C.cancel hd ?_
  rw [e1,e2] at e4
  clear e1 e2 e3 a1 a2 b1 b2 hX hp hq
  grind
 refine C.cancel C.two ?_
 rw [e3,e1,e5]
 rw [e5] at e6
 clear e1 e2 e3 e4 e5 a1 a2 b1 b2 hX hp hq hk hd
 grind
theorem three {a b:F × F} {l:F} (ha:C.on (some a)) (h:C.Sl a b l) :
  a.1 * b.1 + a.1 * (by' l a b).1 + b.1 * (by' l a b).1 = C.a - (1 + 1) * l * (a.2 - l * a.1)/\a.1 * b.1 * (by' l a b).1 = (a.2 - l * a.1) * (a.2 - l * a.1) - C.b:=by
 obtain ⟨x,y⟩:=a
 obtain ⟨u,v⟩:=b
 obtain ⟨h1,h2⟩:=h
 simp only [on,by'] at *
 have e1:v = y - l * (x - u):=mv2 h1
 have e2:C.a = l * (y + v) - (x * x + x * u + u * u):=mv3 h2
 have e3:C.b = y * y - x * x * x - C.a * x:=mv6 ha
 rw [e3,e2,e1]
 clear e1 e2 e3 h1 h2 ha
 constructor <;> grind
theorem line3 {a b:F × F} {l:F} (h:C.Sl a b l):b.2 = l * b.1 + (a.2 - l * a.1)/\0 - (by' l a b).2 = l * (by' l a b).1 + (a.2 - l * a.1):=by
 obtain ⟨x,y⟩:=a
 obtain ⟨u,v⟩:=b
 obtain ⟨h1,_⟩:=h
 simp only [by'] at *
 constructor <;> grind
theorem prod3 {l n m k x1 x2 x3 s2 s3:F} (e2:x1 * x2 + x1 * x3 + x2 * x3 = s2) (e3:x1 * x2 * x3 = s3) (e1:x1 + x2 + x3 = m * m) :
  (m * x1 + k - l * x1 - n) * ((m * x2 + k - l * x2 - n) * (m * x3 + k - l * x3 - n)) = (m - l) * (m - l) * (m - l) * s3 + (m - l) * (m - l) * (k - n) * s2 + (m - l) * (k - n) * (k - n) * (m * m) + (k - n) * (k - n) * (k - n):=by
 rw [<-e1,<-e2,<-e3]
 grind
theorem lnv_both {a b x y:F × F} {l m:F} (ha:C.on (some a)) (h:C.Sl a b l) (hx:C.on (some x)) (k:C.Sl x y m) :
  lnv l a x * (lnv l a y * lnv l a ((by' m x y).1,0 - (by' m x y).2)) = (0 - 1) * (lnv m x a * (lnv m x b * lnv m x ((by' l a b).1,0 - (by' l a b).2))):=by
 obtain ⟨p2,p3⟩:=C.three ha h
 obtain ⟨q2,q3⟩:=C.three hx k
 obtain ⟨i1,i2⟩:=C.line3 h
 obtain ⟨j1,j2⟩:=C.line3 k
 have p1:a.1 + b.1 + (by' l a b).1 = l * l:=by simp only [by'];clear p2 p3 q2 q3 i1 i2 j1 j2 ha h hx k;grind
 have q1:x.1 + y.1 + (by' m x y).1 = m * m:=by simp only [by'];clear p2 p3 q2 q3 i1 i2 j1 j2 p1 ha h hx k;grind
 have a0:a.2 = l * a.1 + (a.2 - l * a.1):=by clear p2 p3 q2 q3 i1 i2 j1 j2 p1 q1 ha h hx k;grind
 have x0:x.2 = m * x.1 + (x.2 - m * x.1):=by clear p2 p3 q2 q3 i1 i2 j1 j2 p1 q1 ha h hx k a0;grind
 unfold lnv
 simp only
 generalize by' l a b = c at *
 generalize by' m x y = z at *
 generalize a.2 - l * a.1 = n at *
 generalize x.2 - m * x.1 = r at *
 have L:=prod3 (l:=l) (n:=n) (m:=m) (k:=r) q2 q3 q1
 have R:=prod3 (l:=m) (n:=r) (m:=l) (k:=n) p2 p3 p1
 have f1:∀ s t:F,t = m * s + r->t - a.2 - l * (s - a.1) = m * s + r - l * s - n:=by
  intro s t e;rw [e,a0];clear L R p2 p3 q2 q3 i1 i2 j1 j2 p1 q1 ha h hx k x0 a0 e;grind
 have f2:∀ s t:F,t = l * s + n->t - x.2 - m * (s - x.1) = l * s + n - m * s - r:=by
  intro s t e;rw [e,x0];clear L R p2 p3 q2 q3 i1 i2 j1 j2 p1 q1 ha h hx k x0 a0 e f1;grind
 rw [f1 _ _ x0,f1 _ _ j1,f1 _ _ j2,f2 _ _ a0,f2 _ _ i1,f2 _ _ i2,L,R]
 clear L R p2 p3 q2 q3 i1 i2 j1 j2 p1 q1 ha h hx k x0 a0 f1 f2
 grind
theorem sl_third {p q:F × F} {l:F} (h:C.Sl p q l):C.Sl q ((by' l p q).1,0 - (by' l p q).2) l:=by
 obtain ⟨x,y⟩:=p
 obtain ⟨u,v⟩:=q
 obtain ⟨h1,h2⟩:=h
 simp only [by'] at *
 have e1:v = y - l * (x - u):=mv2 h1
 have e2:C.a = l * (y + v) - (x * x + x * u + u * u):=mv3 h2
 refine ⟨?_,?_⟩
 ·simp only;rw [e1];clear e1 e2 h1 h2;grind
 ·simp only;rw [e2,e1];clear e1 e2 h1 h2;grind
theorem sl_back {p q:F × F} {l:F} (h:C.Sl p q l):C.Sl (p.1,0 - p.2) (by' l p q) (0 - l):=by
 obtain ⟨x,y⟩:=p
 obtain ⟨u,v⟩:=q
 obtain ⟨h1,h2⟩:=h
 simp only [by'] at *
 have e1:v = y - l * (x - u):=mv2 h1
 have e2:C.a = l * (y + v) - (x * x + x * u + u * u):=mv3 h2
 refine ⟨?_,?_⟩
 ·simp only;clear e1 e2 h1 h2;grind
 ·simp only;rw [e2,e1];clear e1 e2 h1 h2;grind
variable [DecidableEq F]
structure Sd where
 N:F->F
 mulN:∀ a b,N (a * b) = N a * N b
 negN:N (0 - 1) = 1
 A:Option (F × F)->Prop
 B:Option (F × F)->Prop
 Aon:∀ {p},A p->C.on p
 Bon:∀ {p},B p->C.on p
 Aadd:∀ {p q},A p->A q->A (C.add p q)
 Badd:∀ {p q},B p->B q->B (C.add p q)
 A0:A none
 B0:B none
 An:∀ {p},A p->A (neg p)
 Bn:∀ {p},B p->B (neg p)
 nv:∀ {a b},A (some a)->B (some b)->N (b.1 - a.1) = 1
end EC
namespace EC.Sd
variable {F:Type} [i:CR F] {C:EC F} [DecidableEq F] (S:C.Sd)
def swap:C.Sd where
 N:=S.N
 mulN:=S.mulN
 negN:=S.negN
 A:=S.B
 B:=S.A
 Aon:=S.Bon
 Bon:=S.Aon
 Aadd:=S.Badd
 Badd:=S.Aadd
 A0:=S.B0
 B0:=S.A0
 An:=S.Bn
 Bn:=S.An
 nv:=fun {a b} ha hb=>by
  have e:b.1 - a.1 = (0 - 1) * (a.1 - b.1):=by grind
  rw [e,S.mulN,S.negN,S.nv hb ha];grind
def L (P Q X:Option (F × F)):F :=
 match P,Q,X with
 | some p,some q,some x=>if Opp p q then 1 else S.N (lnv (C.slope p q) p x)
 | _,_,_=>1
theorem L0 (Q X:Option (F × F)):S.L none Q X = 1:=by cases Q <;> cases X <;> rfl
theorem L1 (P X:Option (F × F)):S.L P none X = 1:=by cases P <;> cases X <;> rfl
theorem L2 (P Q:Option (F × F)):S.L P Q none = 1:=by cases P <;> cases Q <;> rfl
theorem L_opp {p q:F × F} (h:Opp p q) (X:Option (F × F)):S.L (some p) (some q) X = 1:=by
 cases X with
 | none=>rfl
 | some x=>show (if Opp p q then 1 else _) = _;rw [if_pos h]
theorem L_sl {p q x:F × F} {l:F} (hp:C.on (some p)) (hq:C.on (some q)) (h:¬ Opp p q) (hl:C.Sl p q l):S.L (some p) (some q) (some x) = S.N (lnv l p x):=by
 have:=C.sl_unique h (C.slope_ok hp hq h) hl
 show (if Opp p q then 1 else S.N (lnv (C.slope p q) p x)) = _
 rw [if_neg h,this]
theorem L_comm {P Q:Option (F × F)} (hP:C.on P) (hQ:C.on Q) (X:Option (F × F)):S.L P Q X = S.L Q P X:=by
 match P,Q,X with
 | none,Q,X=>rw [S.L0,S.L1]
 | some p,none,X=>rw [S.L0,S.L1]
 | some p,some q,none=>rfl
 | some p,some q,some x =>
  by_cases h:Opp p q
  ·rw [S.L_opp h,S.L_opp h.symm]
  ·have hl:=C.slope_ok hP hQ h
   rw [S.L_sl hP hQ h hl,S.L_sl hQ hP (fun h'=>h h'.symm) (hl.symm C),C.lnv_sl hl]
theorem L_neg {P Q X:Option (F × F)} (hP:S.A P) (hQ:S.A Q) (hX:S.B X):S.L P Q X * S.L P Q (neg X) = 1:=by
 match P,Q,X with
 | none,Q,X=>rw [S.L0,S.L0];grind
 | some p,none,X=>rw [S.L1,S.L1];grind
 | some p,some q,none=>show (1:F) * 1 = 1;grind
 | some p,some q,some x =>
  by_cases h:Opp p q
  ·rw [S.L_opp h,S.L_opp h];grind
  ·have o1:=S.Aon hP
   have o2:=S.Aon hQ
   have hl:=C.slope_ok o1 o2 h
   have e:=C.lnv_neg o1 hl (S.Bon hX)
   have hs:S.A (some (by' (C.slope p q) p q)):=by
    have:=S.Aadd hP hQ
    rw [C.add_sl o1 o2 h hl] at this;exact this
   show S.L (some p) (some q) (some x) * S.L (some p) (some q) (some (x.1,0 - x.2)) = 1
   rw [S.L_sl o1 o2 h hl,S.L_sl o1 o2 h hl,<-S.mulN,e,S.mulN,S.mulN,S.mulN,S.negN,S.nv hP hX,S.nv hQ hX,S.nv hs hX]
   grind
theorem opp_of_none {p q:F × F} (hp:C.on (some p)) (hq:C.on (some q)) (h:C.add (some p) (some q) = none):Opp p q:=by
 rcases C.add_cases hp hq with ⟨h1,_⟩ | ⟨_,l,_,e⟩
 ·exact h1
 ·rw [h] at e;cases e
theorem L_back {Q R X:Option (F × F)} (hQ:S.A Q) (hR:S.A R) (hX:S.B X):S.L Q R X * S.L (neg Q) (C.add Q R) X = 1:=by
 match Q,R,X with
 | none,R,X=>show _ * S.L none _ X = 1;rw [S.L0,S.L0];grind
 | some q,none,X =>
  rw [S.L1,C.add_zero]
  have:Opp (q.1,0 - q.2) q:=⟨rfl,by show (0 - q.2) + q.2 = 0;grind⟩
  show 1 * S.L (some (q.1,0 - q.2)) (some q) X = 1
  rw [S.L_opp this];grind
 | some q,some s,none=>rw [S.L2,S.L2];grind
 | some q,some s,some x =>
  have o1:=S.Aon hQ
  have o2:=S.Aon hR
  by_cases h:Opp q s
  ·rw [S.L_opp h,C.add_opp h,S.L1];grind
  ·have hm:=C.slope_ok o1 o2 h
   have ht:=C.add_sl o1 o2 h hm
   have ot:=C.on_add o1 o2
   rw [ht] at ot
   rw [ht]
   have on1:C.on (some (q.1,0 - q.2)):=C.on_neg o1
   have hno:¬ Opp (q.1,0 - q.2) (by' (C.slope q s) q s):=fun ho=>by
    have b:=C.back o1 o2
    rw [ht] at b
    have b2:C.add (some (q.1,0 - q.2)) (some (by' (C.slope q s) q s)) = some s:=b
    rw [C.add_opp ho] at b2
    cases b2
   show S.L (some q) (some s) (some x) * S.L (some (q.1,0 - q.2)) (some (by' (C.slope q s) q s)) (some x) = 1
   rw [S.L_sl on1 ot hno (C.sl_back hm)]
   have e:lnv (0 - C.slope q s) (q.1,0 - q.2) x = (0 - 1) * lnv (C.slope q s) q (x.1,0 - x.2):=by unfold lnv;simp only;grind
   rw [e,S.mulN,S.negN]
   have:=S.L_neg hQ hR hX
   have e2:S.L (some q) (some s) (neg (some x)) = S.N (lnv (C.slope q s) q (x.1,0 - x.2)):=S.L_sl (x:=(x.1,0 - x.2)) o1 o2 h hm
   rw [e2] at this
   rw [<-this];grind
theorem L_cocycle {P Q R X:Option (F × F)} (hP:S.A P) (hQ:S.A Q) (hR:S.A R) (hX:S.B X):S.L P Q X * S.L (C.add P Q) R X = S.L Q R X * S.L P (C.add Q R) X:=by
 match P,Q,R,X with
 | none,Q,R,X=>rw [C.zero_add,S.L0,S.L0];grind
 | some p,none,R,X=>rw [C.zero_add,C.add_zero,S.L1,S.L0]
 | some p,some q,none,X=>rw [C.add_zero,S.L1,S.L1];grind
 | some p,some q,some s,none=>rw [S.L2,S.L2,S.L2,S.L2]
 | some p,some q,some s,some x =>
  have o1:=S.Aon hP
  have o2:=S.Aon hQ
  have o3:=S.Aon hR
  have hass:=C.assoc o1 o2 o3
  have negOf:∀ {a b:F × F},Opp a b->neg (some b) = some a:=by
   intro a b ⟨e1,e2⟩
   show some (b.1,0 - b.2) = some a
   rw [Option.some.injEq]
   refine Prod.ext e1.symm ?_
   show 0 - b.2 = a.2
   grind
  by_cases h1:Opp p q
  ·rw [S.L_opp h1,C.add_opp h1,S.L0]
   have:=S.L_back hQ hR hX
   rw [negOf h1] at this
   rw [this];grind
  ·by_cases h2:Opp q s
   ·rw [S.L_opp h2,C.add_opp h2,S.L1]
    have:=S.L_back hQ hP hX
    have e:neg (some q) = some s:=negOf h2.symm
    rw [e,C.add_comm o2 o1] at this
    rw [S.L_comm o1 o2,S.L_comm (C.on_add o1 o2) o3,this];grind
   ·have hl:=C.slope_ok o1 o2 h1
    have hm:=C.slope_ok o2 o3 h2
    have e1:=C.add_sl o1 o2 h1 hl
    have e2:=C.add_sl o2 o3 h2 hm
    have a1:=S.Aadd hP hQ
    have a2:=S.Aadd hQ hR
    generalize C.slope p q = l at *
    generalize C.slope q s = m at *
    rw [e1] at a1
    rw [e2] at a2
    have p1:=S.Aon a1
    have p2:=S.Aon a2
    rw [e1,e2] at hass
    rw [e1,e2]
    by_cases h3:Opp (by' l p q) s
    ·rw [C.add_opp h3] at hass
     have h4:=opp_of_none o1 p2 hass.symm
     rw [S.L_opp h3,S.L_opp h4,S.L_sl o1 o2 h1 hl]
     have e:s = ((by' l p q).1,0 - (by' l p q).2):=Prod.ext h3.1.symm (by have:=h3.2;show s.2 = 0 - (by' l p q).2;grind)
     have h5:C.Sl q s l:=by rw [e];exact C.sl_third hl
     rw [S.L_sl o2 o3 h2 h5,C.lnv_sl hl]
    ·by_cases h4:Opp p (by' m q s)
     ·rw [C.add_opp h4] at hass
      exact absurd (opp_of_none p1 o3 hass) h3
     ·by_cases hd:l - m = 0
      ·have hlm:l = m:=by grind
       rcases C.onLine hl (hlm ▸ hm) with e | e
       ·subst e
        have e3:by' m q p = by' l p q:=by rw [<-hlm,<-C.by_symm hl]
        rw [e3,S.L_comm o1 o2,S.L_comm p1 o1]
       ·exact absurd e h3
      ·have hk:∃ k,k * (l - m) = p.1 - s.1:=⟨(p.1 - s.1) * C.inv (l - m),by have:=C.inv_ok _ hd;generalize C.inv (l - m) = t at *;generalize l - m = d at *;grind⟩
       obtain ⟨k,hk⟩:=hk
       have t1:=C.third hl hm hk hd
       have t2:=C.third (k:=k) (hm.symm C) (hl.symm C) (by clear hass e1 e2 o1 o2 o3 p1 p2 h1 h2 h3 h4 t1;grind) (by clear hass e1 e2 o1 o2 o3 p1 p2 h1 h2 h3 h4 t1;intro e;exact hd (by grind))
       rw [<-C.by_symm hm] at t2
       rw [S.L_sl o1 o2 h1 hl,S.L_sl p1 o3 h3 t1,S.L_sl o2 o3 h2 hm,S.L_sl o1 p2 h4 (t2.symm C),<-C.lnv_sl t2]
       have e:=C.lnv_cocycle (X:=x) o1 o2 hl hm hk hd (S.Bon hX)
       have e3:=congrArg S.N e
       rw [S.mulN,S.mulN,S.mulN,S.mulN,S.nv a1 hX,S.nv a2 hX] at e3
       rw [Rg.mul_one,Rg.mul_one] at e3
       exact e3
theorem L_both {P Q X Y:Option (F × F)} (hP:S.A P) (hQ:S.A Q) (hX:S.B X) (hY:S.B Y) :
  S.L P Q X * (S.L P Q Y * S.L P Q (neg (C.add X Y))) = S.swap.L X Y P * (S.swap.L X Y Q * S.swap.L X Y (neg (C.add P Q))):=by
 have one3:∀ {a b:F},a * b = 1->a * (b * 1) = 1:=by intro a b h;grind
 have one4:∀ {a b:F},a * b = 1->a * (1 * b) = 1:=by intro a b h;grind
 have one5:∀ {a b:F},a * b = 1->1 * (a * b) = 1:=by intro a b h;grind
 have o111:(1:F) * (1 * 1) = 1:=by grind
 match P,Q,X,Y with
 | none,Q,X,Y =>
  rw [S.L0,S.L0,S.L0,S.swap.L2,C.zero_add,o111]
  exact (one5 (S.swap.L_neg hX hY hQ)).symm
 | some p,none,X,Y =>
  rw [S.L1,S.L1,S.L1,S.swap.L2,C.add_zero,o111]
  exact (one4 (S.swap.L_neg hX hY hP)).symm
 | some p,some q,none,Y =>
  rw [S.swap.L0,S.swap.L0,S.swap.L0,S.L2,C.zero_add,o111]
  exact one5 (S.L_neg hP hQ hY)
 | some p,some q,some x,none =>
  rw [S.swap.L1,S.swap.L1,S.swap.L1,S.L2,C.add_zero,o111]
  exact one4 (S.L_neg hP hQ hX)
 | some p,some q,some x,some y =>
  have o1:=S.Aon hP
  have o2:=S.Aon hQ
  have o3:=S.Bon hX
  have o4:=S.Bon hY
  have negOf:∀ {a b:F × F},Opp a b->neg (some a) = some b:=by
   intro a b ⟨e1,e2⟩
   show some (a.1,0 - a.2) = some b
   rw [Option.some.injEq]
   refine Prod.ext e1 ?_
   show 0 - a.2 = b.2
   grind
  by_cases h1:Opp p q
  ·rw [S.L_opp h1,S.L_opp h1,S.L_opp h1,C.add_opp h1,o111]
   have:=S.swap.L_neg hX hY hP
   rw [negOf h1] at this
   show 1 = _ * (_ * S.swap.L _ _ none)
   rw [S.swap.L2]
   exact (one3 this).symm
  ·by_cases h2:Opp x y
   ·rw [S.swap.L_opp h2,S.swap.L_opp h2,S.swap.L_opp h2,C.add_opp h2,o111]
    have:=S.L_neg hP hQ hX
    rw [negOf h2] at this
    show _ * (_ * S.L _ _ none) = 1
    rw [S.L2]
    exact one3 this
   ·have hl:=C.slope_ok o1 o2 h1
    have hm:=C.slope_ok o3 o4 h2
    have e1:=C.add_sl o1 o2 h1 hl
    have e2:=C.add_sl o3 o4 h2 hm
    generalize C.slope p q = l at *
    generalize C.slope x y = m at *
    rw [e1,e2]
    show S.L (some p) (some q) (some x) * (S.L (some p) (some q) (some y) * S.L (some p) (some q) (some ((by' m x y).1,0 - (by' m x y).2))) = S.swap.L (some x) (some y) (some p) * (S.swap.L (some x) (some y) (some q) * S.swap.L (some x) (some y) (some ((by' l p q).1,0 - (by' l p q).2)))
    rw [S.L_sl o1 o2 h1 hl,S.L_sl o1 o2 h1 hl,S.L_sl o1 o2 h1 hl,S.swap.L_sl o3 o4 h2 hm,S.swap.L_sl o3 o4 h2 hm,S.swap.L_sl o3 o4 h2 hm]
    have e:=congrArg S.N (C.lnv_both o1 hl o3 hm)
    rw [S.mulN,S.mulN,S.mulN,S.negN,Rg.one_mul,S.mulN,S.mulN] at e
    exact e
theorem A_mul {P:Option (F × F)} (hP:S.A P):∀ n,S.A (C.mul n P)
 | 0=>S.A0
 | n + 1=>S.Aadd (A_mul hP n) hP
def Fn:Nat->Option (F × F)->Option (F × F)->F
 | 0,_,_=>1
 | n + 1,P,X=>Fn n P X * S.L (C.mul n P) P X
theorem Fn_add {P X:Option (F × F)} (hP:S.A P) (hX:S.B X) (m:Nat):∀ n,S.Fn (m + n) P X = S.Fn m P X * S.Fn n P X * S.L (C.mul m P) (C.mul n P) X
 | 0=>by show S.Fn m P X = S.Fn m P X * 1 * S.L _ none X;rw [S.L1];grind
 | n + 1=>by
  show S.Fn (m + n) P X * S.L (C.mul (m + n) P) P X = S.Fn m P X * (S.Fn n P X * S.L (C.mul n P) P X) * S.L (C.mul m P) (C.add (C.mul n P) P) X
  have e:=S.L_cocycle (S.A_mul hP m) (S.A_mul hP n) hP hX
  rw [Fn_add hP hX m n,C.mul_add (S.Aon hP)]
  grind
theorem L_six {a b e f X:Option (F × F)} (ha:S.A a) (hb:S.A b) (he:S.A e) (hf:S.A f) (hX:S.B X) :
  S.L a b X * (S.L (C.add a b) (C.add e f) X * S.L e f X) = S.L a e X * (S.L b f X * S.L (C.add a e) (C.add b f) X):=by
 have oa:=S.Aon ha
 have ob:=S.Aon hb
 have oe:=S.Aon he
 have c1:=S.L_cocycle (S.Aadd ha hb) he hf hX
 have c2:=S.L_cocycle hb ha he hX
 have c3:=S.L_cocycle (S.Aadd ha he) hb hf hX
 have k1:=S.L_comm ob oa X
 have k2:=S.L_comm ob (C.on_add oa oe) X
 have a1:C.add (C.add a e) b = C.add (C.add a b) e:=by rw [C.assoc oa oe ob,C.add_comm oe ob,C.assoc oa ob oe]
 rw [C.add_comm ob oa] at c2
 rw [a1] at c3
 rw [k1,k2] at c2
 grind
theorem Fn_sum {P Q X:Option (F × F)} (hP:S.A P) (hQ:S.A Q) (hX:S.B X):∀ n,S.Fn n P X * (S.Fn n Q X * S.L (C.mul n P) (C.mul n Q) X) = S.Fn n (C.add P Q) X * S.L P Q X ^ n
 | 0=>by show (1:F) * (1 * S.L none none X) = 1 * _;rw [S.L0,Rg.pow_zero];grind
 | n + 1=>by
  have ih:=Fn_sum hP hQ hX n
  have e:=S.L_six (S.A_mul hP n) (S.A_mul hQ n) hP hQ hX
  show S.Fn n P X * S.L (C.mul n P) P X * (S.Fn n Q X * S.L (C.mul n Q) Q X * S.L (C.add (C.mul n P) P) (C.add (C.mul n Q) Q) X) = S.Fn n (C.add P Q) X * S.L (C.mul n (C.add P Q)) (C.add P Q) X * S.L P Q X ^ (n + 1)
  rw [C.mul_dist (S.Aon hP) (S.Aon hQ),Rg.pow_succ]
  generalize S.L P Q X ^ n = t at *
  grind
theorem Fn_at {P X Y:Option (F × F)} (hP:S.A P) (hX:S.B X) (hY:S.B Y):∀ n,S.Fn n P X * (S.Fn n P Y * S.Fn n P (neg (C.add X Y))) = S.swap.L X Y P ^ n * S.swap.L X Y (neg (C.mul n P))
 | 0=>by show (1:F) * (1 * 1) = _ * S.swap.L X Y none;rw [S.swap.L2,Rg.pow_zero];grind
 | n + 1=>by
  have ih:=Fn_at hP hX hY n
  have e:=S.L_both (S.A_mul hP n) hP hX hY
  have k:=S.swap.L_neg hX hY (S.A_mul hP n)
  show S.Fn n P X * S.L (C.mul n P) P X * (S.Fn n P Y * S.L (C.mul n P) P Y * (S.Fn n P (neg (C.add X Y)) * S.L (C.mul n P) P (neg (C.add X Y)))) = S.swap.L X Y P ^ (n + 1) * S.swap.L X Y (neg (C.add (C.mul n P) P))
  rw [Rg.pow_succ]
  generalize S.swap.L X Y P ^ n = t at *
  grind
theorem Fn_neg {P X:Option (F × F)} (hP:S.A P) (hX:S.B X):∀ n,S.Fn n P X * S.Fn n P (neg X) = 1
 | 0=>by show (1:F) * 1 = 1;grind
 | n + 1=>by
  have ih:=Fn_neg hP hX n
  have e:=S.L_neg (S.A_mul hP n) hP hX
  show S.Fn n P X * S.L (C.mul n P) P X * (S.Fn n P (neg X) * S.L (C.mul n P) P (neg X)) = 1
  grind
end EC.Sd
end Go.Rq
namespace Go.Rq
open Go
set_option maxRecDepth 100000
open EC S12
def eL:Nat:=(pN ^ 12 - 1) / rO
theorem eL_r:eL * rO = pN ^ 12 - 1:=by decide +kernel
theorem eL_6:∃ k,eL = (pN ^ 6 - 1) * k:=⟨eL / (pN ^ 6 - 1),by decide +kernel⟩
theorem p12_pos:pN ^ 12 = (pN ^ 12 - 1) + 1:=by decide +kernel
theorem p6_pos:pN ^ 6 = (pN ^ 6 - 1) + 1:=by decide +kernel
theorem pow_one' {z:S12} {n m:Nat} (hz:z ≠ 0) (hn:n = m + 1) (h:z ^ n = z):z ^ m = 1:=by
 rw [hn,Rg.pow_succ] at h
 have e:(z ^ m - 1) * z = 0:=by
  generalize z ^ m = y at *
  grind
 rcases S12.dom e with k | k
 ·generalize z ^ m = y at *
  grind
 ·exact absurd k hz
theorem pow_12 {z:S12} (hz:z ≠ 0):z ^ (pN ^ 12 - 1) = 1:=pow_one' hz p12_pos (by rw [<-turns_pow,turns_twelve])
theorem pow_6 {a:S6} (ha:a ≠ 0):(⟨a,0⟩:S12) ^ (pN ^ 6 - 1) = 1:=pow_one' (fun e=>ha (congrArg S12.p e)) p6_pos (by
 rw [<-turns_pow,turns_six]
 exact S12.ext rfl (Rg.sub_self 0))
theorem pow_mul_ {z:S12} (m n:Nat):z ^ (m * n) = (z ^ m) ^ n:=by
 induction n with
 | zero=>rw [Nat.mul_zero,Rg.pow_zero,Rg.pow_zero]
 | succ n ih=>rw [Nat.mul_succ,Rg.pow_add,ih,Rg.pow_succ]
theorem mul_pow_ (a b:S12):∀ n:Nat,(a * b) ^ n = a ^ n * b ^ n
 | 0=>by rw [Rg.pow_zero,Rg.pow_zero,Rg.pow_zero,Rg.mul_one]
 | n + 1=>by
  rw [Rg.pow_succ,Rg.pow_succ,Rg.pow_succ,mul_pow_ a b n]
  generalize a ^ n = x;generalize b ^ n = y
  grind
def nL (z:S12):S12:=z ^ eL
theorem nL_mul (a b:S12):nL (a * b) = nL a * nL b:=mul_pow_ a b eL
theorem nL_six {a:S6} (ha:a ≠ 0):nL ⟨a,0⟩ = 1:=by
 obtain ⟨k,hk⟩:=eL_6
 have h:∀ n,n = (pN ^ 6 - 1) * k->(⟨a,0⟩:S12) ^ n = 1:=fun n hn=>by rw [hn,pow_mul_,pow_6 ha,Rg.one_pow]
 exact h eL hk
theorem nL_r {z:S12} (hz:z ≠ 0):nL z ^ rO = 1:=by
 have h:∀ n r m,n * r = m->z ^ m = 1->(z ^ n) ^ r = 1:=fun n r m e h=>by rw [<-pow_mul_,e,h]
 exact h eL rO _ eL_r (pow_12 hz)
theorem nL_turn (z:S12):nL (turn z) = turn (nL z):=by
 have h:∀ n:Nat,turn z ^ n = turn (z ^ n):=fun n=>by
  induction n with
  | zero =>
   rw [Rg.pow_zero,Rg.pow_zero]
   have:=turn_c 1
   rw [c_one] at this
   rw [this]
   have e1:F2p.cj 1 = 1:=F2p.ext rfl (Rg.sub_self 0)
   rw [e1,c_one]
  | succ n ih=>rw [Rg.pow_succ,Rg.pow_succ,turn_mul,ih]
 exact h eL
theorem nL_neg:nL (0 - 1) = 1:=by
 have e:(0 - 1:S12) = ⟨0 - 1,0⟩:=S12.ext rfl (Rg.sub_self 0)
 rw [e]
 exact nL_six (fun h=>absurd (congrArg (fun a:S6=>a.u.x) h) (by decide +kernel))
theorem wi_q:(wi * wi).q = 0:=by
 have hp:wi.p = 0:=by
  unfold wi
  rw [Rg.mul_comm,c_scal]
  exact S6.ext (Rg.mul_zero _) (Rg.mul_zero _) (Rg.mul_zero _)
 rw [mul_q,hp,Rg.zero_mul,Rg.mul_zero,Rg.add_zero]
theorem wi_u:(wi * wi).p.u = 0:=by
 have e:wi * wi = w4 * (c (F2p.inv' kx)):=by
  unfold wi
  have h1:=w_wi
  have:w5 * c (F2p.inv' kx) * (w5 * c (F2p.inv' kx)) = w5 * (w5 * c (F2p.inv' kx)) * c (F2p.inv' kx):=by
   generalize w5 = a;generalize c (F2p.inv' kx) = b
   grind
  rw [this]
  have h2:w5 * (w5 * c (F2p.inv' kx)) = w4:=by
   have h3:w1 * (w5 * c (F2p.inv' kx)) = 1:=w_wi
   rw [<-w_5,Rg.mul_comm w1 w4,Rg.mul_assoc]
   rw [<-w_5,Rg.mul_comm w1 w4] at h3
   rw [h3,Rg.mul_one]
  rw [h2]
 rw [e,Rg.mul_comm,c_scal]
 exact Rg.mul_zero _
theorem no_x0 {y:F2p}:¬ y * y = bT:=fun h=>by
 have e:bT = kx * (fx 2 * fx 2):=by decide +kernel
 rw [e] at h
 exact absurd (F2p.squ h).2 (by decide +kernel)
theorem cr_n3 {R:Type} [CR R] (a b:R):0 - a * b = (0 - a) * b:=by grind
theorem wi2_ne:wi * wi ≠ 0:=fun h=>by rcases S12.dom h with h | h <;> exact uT.s0 h
theorem nv_ab {a:F2p} {b:Fp} (ha:a ≠ 0):nL (c ⟨b,0⟩ * (1 * 1) - c a * (wi * wi)) = 1:=by
 have hq:(c ⟨b,0⟩ * (1 * 1) - c a * (wi * wi)).q = 0:=by
  have h1:(c ⟨b,0⟩ * (1 * 1):S12) = c ⟨b,0⟩:=by
   generalize c ⟨b,0⟩ = x
   grind
  rw [h1,c_scal]
  show (0:S6) - (scal a (wi * wi)).q = 0
  have h2:(scal a (wi * wi)).q = 0:=by
   show (⟨a * (wi * wi).q.u,a * (wi * wi).q.v,a * (wi * wi).q.w⟩:S6) = 0
   rw [wi_q]
   exact S6.ext (Rg.mul_zero _) (Rg.mul_zero _) (Rg.mul_zero _)
  rw [h2];exact Rg.sub_self 0
 have e:c ⟨b,0⟩ * (1 * 1) - c a * (wi * wi) = ⟨(c ⟨b,0⟩ * (1 * 1) - c a * (wi * wi)).p,0⟩:=S12.ext rfl hq
 rw [e]
 refine nL_six fun h0=>?_
 have hz:c ⟨b,0⟩ * (1 * 1) - c a * (wi * wi) = 0:=by rw [e,h0];rfl
 have h1:c ⟨b,0⟩ = c a * (wi * wi):=by
  generalize c ⟨b,0⟩ = x at *
  generalize c a * (wi * wi) = y at *
  grind
 have hu:(c ⟨b,0⟩).p.u = (c a * (wi * wi)).p.u:=congrArg (fun z:S12=>z.p.u) h1
 rw [c_scal] at hu
 have hu:(⟨b,0⟩:F2p) = a * (wi * wi).p.u:=hu
 rw [wi_u,Rg.mul_zero] at hu
 rw [hu,c_zero] at h1
 have h2:c a * (wi * wi) = 0:=h1.symm
 rcases S12.dom h2 with h | h
 ·exact ha (c_inj h)
 ·exact wi2_ne h
def SK:EK.Sd where
 N:=nL
 mulN:=nL_mul
 negN:=nL_neg
 A P:=∃ Q,ET.on Q/\P = cp uT Q
 B P:=∃ Q,EF.on Q/\P = cp uF Q
 Aon:=fun ⟨Q,h,e⟩=>by rw [e];exact cp_on uT h
 Bon:=fun ⟨Q,h,e⟩=>by rw [e];exact cp_on uF h
 Aadd:=fun ⟨Q,h,e⟩ ⟨R,k,f⟩=>⟨ET.add Q R,ET.on_add h k,by rw [e,f,cp_add uT h k]⟩
 Badd:=fun ⟨Q,h,e⟩ ⟨R,k,f⟩=>⟨EF.add Q R,EF.on_add h k,by rw [e,f,cp_add uF h k]⟩
 A0:=⟨none,trivial,rfl⟩
 B0:=⟨none,trivial,rfl⟩
 An:=fun {p} ⟨Q,h,e⟩=>⟨neg Q,ET.on_neg h,by
  rw [e]
  cases Q with
  | none=>rfl
  | some q =>
   show some (c q.1 * (wi * wi),0 - c q.2 * (wi * wi * wi)) = some (c q.1 * (wi * wi),c (0 - q.2) * (wi * wi * wi))
   rw [c_sub,c_zero,cr_n3 (c q.2)]⟩
 Bn:=fun {p} ⟨Q,h,e⟩=>⟨neg Q,EF.on_neg h,by
  rw [e]
  cases Q with
  | none=>rfl
  | some q =>
   show some (c ⟨q.1,0⟩ * (1 * 1),0 - c ⟨q.2,0⟩ * (1 * 1 * 1)) = some (c ⟨q.1,0⟩ * (1 * 1),uF.f (0 - q.2) * (1 * 1 * 1))
   rw [uF.sub,uF.z,cr_n3 (c ⟨q.2,0⟩)]
   rfl⟩
 nv:=fun {a b} ⟨Q,h,e⟩ ⟨R,k,f⟩=>by
  cases Q with
  | none=>cases e
  | some q =>
   cases R with
   | none=>cases f
   | some s =>
    have e:=Option.some.inj e
    have f:=Option.some.inj f
    rw [e,f]
    have hq:q.2 * q.2 = q.1 * q.1 * q.1 + 0 * q.1 + bT:=h
    refine nv_ab (a:=q.1) (b:=s.1) fun h0=>no_x0 (y:=q.2) ?_
    rw [hq,h0]
    generalize bT = b
    grind
end Go.Rq
namespace Go.Rq
open Go
set_option maxRecDepth 100000
set_option linter.unusedSectionVars false
namespace EC.Sd
variable {F:Type} [i:CR F] {C:EC F} [DecidableEq F] (S:C.Sd)
theorem opp_neg {p q:F × F}:Opp (p.1,0 - p.2) (q.1,0 - q.2)↔Opp p q:=by
 constructor
 ·intro ⟨h1,h2⟩
  have h2:0 - p.2 + (0 - q.2) = 0:=h2
  exact ⟨h1,by grind⟩
 ·intro ⟨h1,h2⟩
  exact ⟨h1,by show 0 - p.2 + (0 - q.2) = 0;grind⟩
theorem L_fm (u:C.Fm) (hN:∀ z,S.N (u.f z) = u.f (S.N z)) (h1:u.f 1 = 1) {P Q:Option (F × F)} (hP:C.on P) (hQ:C.on Q) (X:Option (F × F)):S.L (mp u P) (mp u Q) (mp u X) = u.f (S.L P Q X):=by
 cases P with
 | none=>rw [show mp u none = none from rfl,S.L0,S.L0,h1]
 | some p =>
  cases Q with
  | none=>rw [show mp u none = none from rfl,S.L1,S.L1,h1]
  | some q =>
   cases X with
   | none=>rw [show mp u none = none from rfl,S.L2,S.L2,h1]
   | some x =>
    have hopp:Opp p q↔Opp (u.f p.1,u.f p.2) (u.f q.1,u.f q.2):=by
     constructor
     ·intro ⟨h1,h2⟩
      exact ⟨congrArg u.f h1,by show u.f p.2 + u.f q.2 = 0;rw [<-u.add,h2,u.z]⟩
     ·intro ⟨h1,h2⟩
      have h1:u.f p.1 = u.f q.1:=h1
      have h2:u.f p.2 + u.f q.2 = 0:=h2
      refine ⟨?_,u.inj _ (by rw [u.add];exact h2)⟩
      have h3:u.f (p.1 - q.1) = 0:=by rw [u.sub,h1];grind
      have:=u.inj _ h3
      grind
    by_cases ho:Opp p q
    ·rw [S.L_opp ho,h1]
     exact S.L_opp (hopp.1 ho) _
    ·have hs:=C.slope_ok hP hQ ho
     generalize C.slope p q = l at hs
     have hs2:C.Sl (u.f p.1,u.f p.2) (u.f q.1,u.f q.2) (u.f l):=by
      obtain ⟨h1,h2⟩:=hs
      refine ⟨?_,?_⟩
      ·show u.f p.2 - u.f q.2 = u.f l * (u.f p.1 - u.f q.1)
       rw [<-u.sub,<-u.sub,<-u.mul,h1]
      ·show u.f p.1 * u.f p.1 + u.f p.1 * u.f q.1 + u.f q.1 * u.f q.1 + C.a = u.f l * (u.f p.2 + u.f q.2)
       have e:=congrArg u.f h2
       rw [u.add,u.add,u.add,u.mul,u.mul,u.mul,u.mul,u.add,u.fa] at e
       exact e
     show S.L (some (u.f p.1,u.f p.2)) (some (u.f q.1,u.f q.2)) (some (u.f x.1,u.f x.2)) = u.f (S.L (some p) (some q) (some x))
     rw [S.L_sl (mp_on u hP) (mp_on u hQ) (fun h=>ho (hopp.2 h)) hs2,S.L_sl hP hQ ho hs,<-hN]
     congr 1
     show u.f x.2 - u.f p.2 - u.f l * (u.f x.1 - u.f p.1) = u.f (x.2 - p.2 - l * (x.1 - p.1))
     simp only [u.sub,u.mul]
end EC.Sd
open EC S12
theorem t_one:tF.f 1 = 1:=by
 have:=turn_c 1
 rw [c_one] at this
 show turn 1 = 1
 rw [this]
 have e1:F2p.cj 1 = 1:=F2p.ext rfl (Rg.sub_self 0)
 rw [e1,c_one]
theorem eL_pos:∃ k,eL = k + 1:=⟨eL - 1,by decide +kernel⟩
theorem nL_0:nL 0 = 0:=by
 obtain ⟨k,hk⟩:=eL_pos
 have h:∀ n:Nat,n = k + 1->(0:S12) ^ n = 0:=fun n hn=>by rw [hn,Rg.pow_succ,Rg.mul_zero]
 exact h eL hk
theorem oneK_ne:(1:S12) ≠ 0:=fun e=>absurd (congrArg (fun z:S12=>z.p.u.x) e) (by decide +kernel)
theorem swap_r {P Q X:Option (S12 × S12)} (hP:SK.B P) (hQ:SK.B Q) (hX:SK.A X):SK.swap.L P Q X ^ rO = 1:=by
 have hn:SK.swap.L P Q X ≠ 0:=fun e=>by
  have h:=SK.swap.L_neg hP hQ hX
  rw [e,Rg.zero_mul] at h
  exact oneK_ne h.symm
 cases P with
 | none=>rw [SK.swap.L0,Rg.one_pow]
 | some p =>
  cases Q with
  | none=>rw [SK.swap.L1,Rg.one_pow]
  | some q =>
   cases X with
   | none=>rw [SK.swap.L2,Rg.one_pow]
   | some x =>
    by_cases ho:Opp p q
    ·rw [SK.swap.L_opp ho,Rg.one_pow]
    ·rw [SK.swap.L_sl (SK.Bon hP) (SK.Bon hQ) ho (EK.slope_ok (SK.Bon hP) (SK.Bon hQ) ho)] at hn ⊢
     refine nL_r fun e=>hn ?_
     show nL _ = 0
     rw [e,nL_0]
def G2s (Q:Option (F2p × F2p)):Prop:=ET.on Q/\ET.mul rO Q = none
theorem mul_u_n {n l r:Nat} (hnl:n + l = r) {W:Option (S12 × S12)} (hW:EK.on W) (hr:EK.mul r W = none) (he:mp tF W = EK.mul l W):EK.mul n W = neg (mp tF W):=by
 rw [he]
 have h:EK.add (EK.mul n W) (EK.mul l W) = none:=by rw [<-EK.mul_add hW,hnl,hr]
 have k:EK.add (neg (EK.mul l W)) (EK.mul l W) = none:=by
  rw [EK.add_comm (EK.on_neg (EK.on_mul hW l)) (EK.on_mul hW l),EK.add_neg]
 have o1:=EK.on_mul hW n
 have o2:=EK.on_mul hW l
 have e:=EK.grp.cancel (a:=⟨EK.mul l W,o2⟩) (b:=⟨EK.mul n W,o1⟩) (c:=⟨neg (EK.mul l W),EK.on_neg o2⟩) (Subtype.ext (by
  show EK.add (EK.mul l W) (EK.mul n W) = EK.add (EK.mul l W) (neg (EK.mul l W))
  rw [EK.add_comm o2 o1,h,EK.add_neg]))
 exact congrArg Subtype.val e
theorem mul_u {Q:Option (F2p × F2p)} (h:G2s Q):EK.mul uA (cp uT Q) = neg (mp tF (cp uT Q)) :=
 mul_u_n ul_sum (cp_on uT h.1) (by rw [<-cp_mul uT h.1,h.2];rfl) (eig_all h.1 h.2)
theorem mpF {P:Option (Fp × Fp)} (h:EF.on P):mp tF (cp uF P) = cp uF P:=congrArg Subtype.val (turn_ptF h)
theorem pow_p (z:S12):turn z = z ^ pN:=(frob z).symm
theorem up_r:∃ k,uA + pN = rO * k:=⟨(uA + pN) / rO,by decide +kernel⟩
theorem kill_up {z:S12} (h:z ^ rO = 1):z ^ uA * z ^ pN = 1:=by
 obtain ⟨k,hk⟩:=up_r
 have e:∀ n m r:Nat,n + m = r * k->z ^ r = 1->z ^ n * z ^ m = 1:=fun n m r e h=>by rw [<-Rg.pow_add,e,pow_mul_,h,Rg.one_pow]
 exact e uA pN rO hk h
def mlF (Q:Option (F2p × F2p)) (P:Option (Fp × Fp)):S12:=SK.Fn uA (cp uT Q) (cp uF P)
theorem bil_m {n:Nat} {A X Y:Option (S12 × S12)} (hA:SK.A A) (hX:SK.B X) (hY:SK.B Y) (eX:mp tF X = X) (eY:mp tF Y = Y) (eA:EK.mul n A = neg (mp tF A)) (hk:SK.swap.L X Y A ^ n * SK.swap.L X Y A ^ pN = 1) :
  SK.Fn n A (EK.add X Y) = SK.Fn n A X * SK.Fn n A Y:=by
 have h:=SK.Fn_at hA hX hY n
 rw [eA,EC.neg_neg] at h
 have e:=SK.swap.L_fm tF nL_turn t_one (SK.Bon hX) (SK.Bon hY) A
 rw [eX,eY] at e
 have e:SK.swap.L X Y (mp tF A) = turn (SK.swap.L X Y A):=e
 rw [e,pow_p,hk] at h
 have k:=SK.Fn_neg hA (SK.Badd hX hY) n
 have:SK.Fn n A (EK.add X Y) * (SK.Fn n A X * (SK.Fn n A Y * SK.Fn n A (neg (EK.add X Y)))) = SK.Fn n A (EK.add X Y):=by rw [h,Rg.mul_one]
 generalize SK.Fn n A (EK.add X Y) = s at *
 generalize SK.Fn n A (neg (EK.add X Y)) = t at *
 grind
theorem bil_1 {Q:Option (F2p × F2p)} {P R:Option (Fp × Fp)} (hQ:G2s Q) (hP:EF.on P) (hR:EF.on R):mlF Q (EF.add P R) = mlF Q P * mlF Q R:=by
 unfold mlF
 rw [cp_add uF hP hR]
 have aQ:SK.A (cp uT Q):=⟨Q,hQ.1,rfl⟩
 have bP:SK.B (cp uF P):=⟨P,hP,rfl⟩
 have bR:SK.B (cp uF R):=⟨R,hR,rfl⟩
 exact bil_m aQ bP bR (mpF hP) (mpF hR) (mul_u hQ) (kill_up (swap_r bP bR aQ))
end Go.Rq
namespace Go.Proofs.YtnjocbcjejpklaaGreat
open Go.Rq Go
set_option maxRecDepth 100000
set_option linter.unusedVariables false
set_option linter.unusedSimpArgs false
set_option maxRecDepth 100000
theorem pw_inv {a:S12} (ha:a ≠ 0) {m n:Nat} (h:n = m + 1):a ^ n * S12.inv a = a ^ m:=by
 rw [h,Rg.pow_succ,Rg.mul_assoc,inv_of ha,Rg.mul_one]
theorem laE_pow {a:S12} (ha:a ≠ 0):laE a = a ^ (pN ^ 6 - 1):=by
 unfold laE
 rw [conj_t6,S12.turns_pow]
 exact pw_inv ha p6_pos
theorem laF_pow {a:S12} (ha:a ≠ 0):laF a = a ^ ((pN ^ 6 - 1) * (pN ^ 2 + 1)):=by
 unfold laF
 rw [laE_pow ha,S12.turns_pow]
 have h:∀ m n:Nat,(a ^ m) ^ n * a ^ m = a ^ (m * (n + 1)):=fun m n=>by rw [pow_mul_ m (n + 1),Rg.pow_succ]
 exact h _ _
def kSm (U k:Nat):Nat:=k * U * pN ^ 6
theorem smS_pow (f:S12) (k:Nat):smS (f ^ k) = f ^ kSm nU k:=by
 unfold smS kSm
 rw [conj_t6,S12.turns_pow,<-pow_mul_,<-pow_mul_,Nat.mul_assoc]
theorem turns_f (f:S12) (n k:Nat):S12.turns n (f ^ k) = f ^ (k * pN ^ n):=by
 rw [S12.turns_pow,<-pow_mul_]
theorem conj_f (f:S12) (k:Nat):S12.conj (f ^ k) = f ^ (k * pN ^ 6):=by rw [conj_t6,turns_f]
def kX (A B:Nat):Nat:=A * B
def kZ (U x:Nat):Nat:=kSm U (kSm U x) + x * pN ^ 6
def kO (U x:Nat):Nat:=kSm U (kZ U x) + 1 + kZ U x * pN ^ 1 + kSm U x * pN ^ 2 + x * pN ^ 3
theorem laZ_pow (f:S12) (x:Nat):laZ (f ^ x) = f ^ kZ nU x:=by
 unfold laZ kZ
 rw [smS_pow,smS_pow,conj_f,<-Rg.pow_add]
theorem laO_pow (f:S12) (x:Nat):laO f (f ^ x) = f ^ kO nU x:=by
 unfold laO kO
 rw [laZ_pow,smS_pow,smS_pow,turns_f,turns_f,turns_f]
 have h:∀ p q r s:Nat,f ^ p * f * f ^ q * f ^ r * f ^ s = f ^ (p + 1 + q + r + s):=fun p q r s=>by
  rw [Rg.pow_add,Rg.pow_add,Rg.pow_add,Rg.pow_succ]
 exact h _ _ _ _
def cyM:Nat:=pN ^ 4 - pN ^ 2 + 1
def hardN:Nat:=cyM / rO
theorem nU_val:nU = 15132376222941642752:=by kernel_rfl
theorem nA_val:nA = 5044125407647214251:=by kernel_rfl
theorem nB_val:nB = 15132376222941642753:=by kernel_rfl
theorem kO_hard:kO 15132376222941642752 (kX 5044125407647214251 15132376222941642753) % cyM = hardN % cyM:=by decide +kernel
theorem e1_hard:(pN ^ 6 - 1) * (pN ^ 2 + 1) * hardN = eL:=by decide +kernel
theorem e1_cy:(pN ^ 6 - 1) * (pN ^ 2 + 1) * cyM = pN ^ 12 - 1:=by decide +kernel
theorem pow_md {f:S12} {m:Nat} (h:f ^ m = 1) (n:Nat):f ^ n = f ^ (n % m):=by
 have e:n = m * (n / m) + n % m:=(Nat.div_add_mod n m).symm
 have h2:∀ q r:Nat,f ^ (m * q + r) = f ^ r:=fun q r=>by rw [Rg.pow_add,pow_mul_,h,Rg.one_pow,Rg.one_mul]
 exact (congrArg (fun k:Nat=>f ^ k) e).trans (h2 _ _)
theorem last_n {a f:S12} {e m hd E k o:Nat} (hf:f = a ^ e) (hm:f ^ m = 1) (hk:k % m = hd % m) (he:e * hd = E):f ^ k = a ^ E:=by
 rw [pow_md hm k,hk,<-pow_md hm hd,hf,<-pow_mul_,he]
theorem lastS_nL {a:S12} (ha:a ≠ 0):lastS a = Go.Rq.nL a:=by
 have hf:=laF_pow ha
 have hm:laF a ^ cyM = 1:=by
  have h:∀ e m M:Nat,e * m = M->laF a = a ^ e->a ^ M = 1->laF a ^ m = 1:=fun e m M h1 h2 h3=>by rw [h2,<-pow_mul_,h1,h3]
  exact h _ _ _ e1_cy hf (pow_12 ha)
 have hx:laX (laF a) = laF a ^ kX nA nB:=by
  unfold laX kX
  rw [<-pow_mul_]
 unfold lastS
 rw [hx,laO_pow]
 have hk:kO nU (kX nA nB) % cyM = hardN % cyM:=by rw [nU_val,nA_val,nB_val];exact kO_hard
 exact last_n (o:=0) hf hm hk e1_hard
end Go.Proofs.YtnjocbcjejpklaaGreat
namespace Go.Proofs.YtnjocbcjejpklaaGreat
open Go.Rq Go
set_option maxRecDepth 100000
set_option linter.unusedVariables false
set_option linter.unusedSimpArgs false
set_option maxHeartbeats 4000000
set_option maxRecDepth 100000
def unF0:Nat->Nat:=(upd (upd (upd (upd (upd (upd (fun _=>0) 0 1730508156817200468) 1 9606178027640717313) 2 7150789853162776431) 3 7936136305760253186) 4 15245073033536294050) 5 1728177566264616342)
def unF1:Nat->Nat:=(upd (upd (upd (upd (upd (upd (fun _=>0) 0 11671922859260663127) 1 11050707557586042878) 2 284884720401305268) 3 17749945728364010941) 4 8613774818643959860) 5 145621051382923523)
theorem un_lt0:nv unF0 < pN:=by rw [<-Nat.blt_eq];kernel_rfl
theorem un_lt1:nv unF1 < pN:=by rw [<-Nat.blt_eq];kernel_rfl
abbrev unS:F2p:=⟨dF unF0,dF unF1⟩
theorem okUnder:(CallC.pure (c2 unF0 unF1)).Ok Tryz.prog 186:=by
 intro args pre v e _
 unfold c2 at e
 split at e
 ·cases e
  refine pure_walk' tt_ok Tryz.func186 (by kernel_rfl) (by kernel_rfl) (by rfl) (by rfl) ?_
  refine evS_q mixed tt_ok G0_ok 60 [] ?_
  exact same (p:=endN (f2 unF0 unF1) (f2 unF0 unF1)) ⟨_,rfl,fun _=>rfl⟩ (by kernel_rfl)
 ·cases e
def slS (u d:F2p):F2p:=u * F2p.inv d
def lnT (py:Fp) (l3 l5:F2p):S12:=⟨⟨⟨py,0⟩,0,0⟩,⟨0,l3,l5⟩⟩
def lnS (px py:Fp) (tx ty m:F2p):S12:=lnT py ((m * tx - ty) * unS) (F2p.ng' (F2p.sc m px) * unS)
def stX (tx m o:F2p):F2p:=(m * m - tx) - o
def stY (tx ty m o:F2p):F2p:=m * (tx - stX tx m o) - ty
structure WS where
 tx:F2p
 ty:F2p
 f:S12
def twW (px py:Fp) (s:WS):WS :=
 ⟨stX s.tx (slS ((s.tx * s.tx + s.tx * s.tx) + s.tx * s.tx) (s.ty + s.ty)) s.tx,stY s.tx s.ty (slS ((s.tx * s.tx + s.tx * s.tx) + s.tx * s.tx) (s.ty + s.ty)) s.tx,(s.f * s.f) * lnS px py s.tx s.ty (slS ((s.tx * s.tx + s.tx * s.tx) + s.tx * s.tx) (s.ty + s.ty))⟩
def adW (px py:Fp) (qx qy:F2p) (s:WS):WS :=
 ⟨stX s.tx (slS (qy - s.ty) (qx - s.tx)) qx,stY s.tx s.ty (slS (qy - s.ty) (qx - s.tx)) qx,s.f * lnS px py s.tx s.ty (slS (qy - s.ty) (qx - s.tx))⟩
theorem as_slQ {A B C D:Nat->Nat} {s u t:F2p} (a:dF A = s.x) (b:dF B = s.y) (c:dF C = u.x) (d:dF D = u.y) (h:t = slS s u):asP [.ws .u64 6 (eF (slS (⟨dF A,dF B⟩:F2p) (⟨dF C,dF D⟩:F2p)).x),.ws .u64 6 (eF (slS (⟨dF A,dF B⟩:F2p) (⟨dF C,dF D⟩:F2p)).y)] [.ws .u64 6 (eF t.x),.ws .u64 6 (eF t.y)]:=asQ (by rw [a,b,c,d,h]) (by rw [a,b,c,d,h])
theorem ln_d {py:Nat->Nat} {l3 l5:F2p}:d12 py (fun _=>0) (fun _=>0) (fun _=>0) (fun _=>0) (fun _=>0) (eF l3.x) (eF l3.y) (fun _=>0) (fun _=>0) (eF l5.x) (eF l5.y) = lnT (dF py) l3 l5:=by
 unfold d12 d6 lnT
 simp only [dF_eF,dF_0]
 rfl
def csl:List AV->Option (List Prop × AV)
 | [.v1 (.agg [.ws .u64 6 a,.ws .u64 6 b]),.v1 (.agg [.ws .u64 6 c,.ws .u64 6 d])]=>some ([nv a < pN,nv b < pN,nv c < pN,nv d < pN],.v1 (.agg [.ws .u64 6 (eF (slS ⟨dF a,dF b⟩ ⟨dF c,dF d⟩).x),.ws .u64 6 (eF (slS ⟨dF a,dF b⟩ ⟨dF c,dF d⟩).y)]))
 | _=>none
def GSlp:Ctx:=ctxL [(112,.pure (q2 mul2x mul2y)),(113,.pure (q1 inv2x inv2y))]
theorem GSlp_ok:CtxOk Tryz.prog GSlp:=ctxL_cons okMul2 <| ctxL_cons okMInv2 ctxL_nil
theorem okSlope:(CallC.pure csl).Ok Tryz.prog 174:=by
 intro args pre v e hp
 unfold csl at e
 split at e
 rotate_left
 ·cases e
 rename_i a b c d
 cases e
 have ha:nv a < pN:=hp (nv a < pN) (by simp)
 have hb:nv b < pN:=hp (nv b < pN) (by simp)
 have hc:nv c < pN:=hp (nv c < pN) (by simp)
 have hd:nv d < pN:=hp (nv d < pN) (by simp)
 refine pure_walk' tt_ok Tryz.func174 (by kernel_rfl) (by kernel_rfl) (by rfl) (by rfl) ?_
 obtain ⟨t1,ht1⟩:∃ q_:F2p,q_ = F2p.inv (⟨dF c,dF d⟩:F2p):=⟨_,rfl⟩
 obtain ⟨t2,ht2⟩:∃ q_:F2p,q_ = (⟨dF a,dF b⟩:F2p) * t1:=⟨_,rfl⟩
 refine evS_q mixed tt_ok GSlp_ok 100 [⟨1,2,.as [.ws .u64 6 (eF t1.x),.ws .u64 6 (eF t1.y)]⟩,⟨1,3,.as [.ws .u64 6 (eF t2.x),.ws .u64 6 (eF t2.y)]⟩] ?_
 refine same (p:=asP [.ws .u64 6 (eF (inv2x (dF c) (dF d))),.ws .u64 6 (eF (inv2y (dF c) (dF d)))] [.ws .u64 6 (eF t1.x),.ws .u64 6 (eF t1.y)]/\nv c < pN/\nv d < pN/\asP [.ws .u64 6 (eF (mul2x (dF a) (dF b) (dF (eF t1.x)) (dF (eF t1.y)))),.ws .u64 6 (eF (mul2y (dF a) (dF b) (dF (eF t1.x)) (dF (eF t1.y))))] [.ws .u64 6 (eF t2.x),.ws .u64 6 (eF t2.y)]/\nv a < pN/\nv b < pN/\nv (eF t1.x) < pN/\nv (eF t1.y) < pN/\endN (.v1 (.agg [.ws .u64 6 (eF t2.x),.ws .u64 6 (eF t2.y)])) (.v1 (.agg [.ws .u64 6 (eF (slS (⟨dF a,dF b⟩:F2p) (⟨dF c,dF d⟩:F2p)).x),.ws .u64 6 (eF (slS (⟨dF a,dF b⟩:F2p) (⟨dF c,dF d⟩:F2p)).y)]))) ?_ (by kernel_rfl)
 exact ⟨as_invQ rfl rfl ht1,hc,hd,as_mulQ rfl rfl (dF_eF _) (dF_eF _) ht2,ha,hb,lt_eF _,lt_eF _,endC (cv_cons (nv_tx (by subst ht2 ht1;rfl)) (cv_cons (nv_ty (by subst ht2 ht1;rfl)) cv_nil))⟩
def endW (t:Nat) (cs ds:List Cell):Prop:=true = true/\true = true/\SimH [some ⟨t,cs,0,0⟩] [some ⟨t,ds,0,0⟩]/\∃ v',some (AV.tup []) = some v'/\avB [some ⟨t,cs,0,0⟩] (bkAV [0] v') = true/\∀ ρ,(bkAV [0] v').val ρ = (AV.tup []).val ρ
theorem endW_of {t:Nat} {cs ds:List Cell} (h:∀ ρ:Ren,cvals ρ cs = cvals ρ ds):endW t cs ds:=⟨rfl,rfl,⟨⟨rfl,rfl,rfl,h⟩,trivial⟩,_,rfl,rfl,fun _=>rfl⟩
theorem bk_one (b:Nat):bk [b] b = 0:=by simp [bk,idxN]
def cLineW (args:List AV) (h:Heap) (slot:Nat):Option (List Prop × AV × Heap) :=
 match args with
 | [.v1 (.sc (.pt b 0)),.v1 (.agg [.ws .u64 6 m0,.ws .u64 6 m1])]=>match hget h b with
  | some ⟨t0,[.ws .u64 6 px,.ws .u64 6 py,.ws .u64 6 qx0,.ws .u64 6 qx1,.ws .u64 6 qy0,.ws .u64 6 qy1,.ws .u64 6 tx0,.ws .u64 6 tx1,.ws .u64 6 ty0,.ws .u64 6 ty1,.ws .u64 6 f0,.ws .u64 6 f1,.ws .u64 6 f2,.ws .u64 6 f3,.ws .u64 6 f4,.ws .u64 6 f5,.ws .u64 6 f6,.ws .u64 6 f7,.ws .u64 6 f8,.ws .u64 6 f9,.ws .u64 6 f10,.ws .u64 6 f11],0,0⟩=>match Nat.beq t0 167 with
   | true=>some ([nv px < pN,nv py < pN,nv tx0 < pN,nv tx1 < pN,nv ty0 < pN,nv ty1 < pN,nv f0 < pN,nv f1 < pN,nv f2 < pN,nv f3 < pN,nv f4 < pN,nv f5 < pN,nv f6 < pN,nv f7 < pN,nv f8 < pN,nv f9 < pN,nv f10 < pN,nv f11 < pN,nv m0 < pN,nv m1 < pN],.tup [],hset h b ⟨167,[.ws .u64 6 px,.ws .u64 6 py,.ws .u64 6 qx0,.ws .u64 6 qx1,.ws .u64 6 qy0,.ws .u64 6 qy1,.ws .u64 6 tx0,.ws .u64 6 tx1,.ws .u64 6 ty0,.ws .u64 6 ty1,.ws .u64 6 (eF (((d12 f0 f1 f2 f3 f4 f5 f6 f7 f8 f9 f10 f11) * lnS (dF px) (dF py) (⟨dF tx0,dF tx1⟩:F2p) (⟨dF ty0,dF ty1⟩:F2p) (⟨dF m0,dF m1⟩:F2p))).p.u.x),.ws .u64 6 (eF (((d12 f0 f1 f2 f3 f4 f5 f6 f7 f8 f9 f10 f11) * lnS (dF px) (dF py) (⟨dF tx0,dF tx1⟩:F2p) (⟨dF ty0,dF ty1⟩:F2p) (⟨dF m0,dF m1⟩:F2p))).p.u.y),.ws .u64 6 (eF (((d12 f0 f1 f2 f3 f4 f5 f6 f7 f8 f9 f10 f11) * lnS (dF px) (dF py) (⟨dF tx0,dF tx1⟩:F2p) (⟨dF ty0,dF ty1⟩:F2p) (⟨dF m0,dF m1⟩:F2p))).q.u.x),.ws .u64 6 (eF (((d12 f0 f1 f2 f3 f4 f5 f6 f7 f8 f9 f10 f11) * lnS (dF px) (dF py) (⟨dF tx0,dF tx1⟩:F2p) (⟨dF ty0,dF ty1⟩:F2p) (⟨dF m0,dF m1⟩:F2p))).q.u.y),.ws .u64 6 (eF (((d12 f0 f1 f2 f3 f4 f5 f6 f7 f8 f9 f10 f11) * lnS (dF px) (dF py) (⟨dF tx0,dF tx1⟩:F2p) (⟨dF ty0,dF ty1⟩:F2p) (⟨dF m0,dF m1⟩:F2p))).p.v.x),.ws .u64 6 (eF (((d12 f0 f1 f2 f3 f4 f5 f6 f7 f8 f9 f10 f11) * lnS (dF px) (dF py) (⟨dF tx0,dF tx1⟩:F2p) (⟨dF ty0,dF ty1⟩:F2p) (⟨dF m0,dF m1⟩:F2p))).p.v.y),.ws .u64 6 (eF (((d12 f0 f1 f2 f3 f4 f5 f6 f7 f8 f9 f10 f11) * lnS (dF px) (dF py) (⟨dF tx0,dF tx1⟩:F2p) (⟨dF ty0,dF ty1⟩:F2p) (⟨dF m0,dF m1⟩:F2p))).q.v.x),.ws .u64 6 (eF (((d12 f0 f1 f2 f3 f4 f5 f6 f7 f8 f9 f10 f11) * lnS (dF px) (dF py) (⟨dF tx0,dF tx1⟩:F2p) (⟨dF ty0,dF ty1⟩:F2p) (⟨dF m0,dF m1⟩:F2p))).q.v.y),.ws .u64 6 (eF (((d12 f0 f1 f2 f3 f4 f5 f6 f7 f8 f9 f10 f11) * lnS (dF px) (dF py) (⟨dF tx0,dF tx1⟩:F2p) (⟨dF ty0,dF ty1⟩:F2p) (⟨dF m0,dF m1⟩:F2p))).p.w.x),.ws .u64 6 (eF (((d12 f0 f1 f2 f3 f4 f5 f6 f7 f8 f9 f10 f11) * lnS (dF px) (dF py) (⟨dF tx0,dF tx1⟩:F2p) (⟨dF ty0,dF ty1⟩:F2p) (⟨dF m0,dF m1⟩:F2p))).p.w.y),.ws .u64 6 (eF (((d12 f0 f1 f2 f3 f4 f5 f6 f7 f8 f9 f10 f11) * lnS (dF px) (dF py) (⟨dF tx0,dF tx1⟩:F2p) (⟨dF ty0,dF ty1⟩:F2p) (⟨dF m0,dF m1⟩:F2p))).q.w.x),.ws .u64 6 (eF (((d12 f0 f1 f2 f3 f4 f5 f6 f7 f8 f9 f10 f11) * lnS (dF px) (dF py) (⟨dF tx0,dF tx1⟩:F2p) (⟨dF ty0,dF ty1⟩:F2p) (⟨dF m0,dF m1⟩:F2p))).q.w.y)],0,0⟩)
   | false=>none
  | _=>none
 | _=>none
def GLw:Ctx:=ctxL [(165,.pure (qs sc2x sc2y)),(185,.pure (q1 neg2x neg2y)),(186,.pure (c2 unF0 unF1)),(112,.pure (q2 mul2x mul2y)),(111,.pure (q2 sub2x sub2y)),(60,.pure (k122 S12.mul))]
theorem GLw_ok:CtxOk Tryz.prog GLw:=ctxL_cons okScale <| ctxL_cons okNeg2 <| ctxL_cons okUnder <| ctxL_cons okMul2 <| ctxL_cons okSub2 <| ctxL_cons okMul12 ctxL_nil
theorem okLineW:(CallC.mem cLineW).Ok Tryz.prog 175:=by
 intro args h slot pre v h' e hp
 unfold cLineW at e
 split at e
 rotate_left
 ·cases e
 rename_i b m0 m1
 split at e
 rotate_left
 ·cases e
 rename_i t0 px py qx0 qx1 qy0 qy1 tx0 tx1 ty0 ty1 f0 f1 f2 f3 f4 f5 f6 f7 f8 f9 f10 f11 hb0
 split at e
 rotate_left
 ·cases e
 rename_i hty
 cases e
 simp only [Nat.beq_eq] at hty
 subst hty
 have hpx:nv px < pN:=hp (nv px < pN) (by simp)
 have hpy:nv py < pN:=hp (nv py < pN) (by simp)
 have htx0:nv tx0 < pN:=hp (nv tx0 < pN) (by simp)
 have htx1:nv tx1 < pN:=hp (nv tx1 < pN) (by simp)
 have hty0:nv ty0 < pN:=hp (nv ty0 < pN) (by simp)
 have hty1:nv ty1 < pN:=hp (nv ty1 < pN) (by simp)
 have hf0:nv f0 < pN:=hp (nv f0 < pN) (by simp)
 have hf1:nv f1 < pN:=hp (nv f1 < pN) (by simp)
 have hf2:nv f2 < pN:=hp (nv f2 < pN) (by simp)
 have hf3:nv f3 < pN:=hp (nv f3 < pN) (by simp)
 have hf4:nv f4 < pN:=hp (nv f4 < pN) (by simp)
 have hf5:nv f5 < pN:=hp (nv f5 < pN) (by simp)
 have hf6:nv f6 < pN:=hp (nv f6 < pN) (by simp)
 have hf7:nv f7 < pN:=hp (nv f7 < pN) (by simp)
 have hf8:nv f8 < pN:=hp (nv f8 < pN) (by simp)
 have hf9:nv f9 < pN:=hp (nv f9 < pN) (by simp)
 have hf10:nv f10 < pN:=hp (nv f10 < pN) (by simp)
 have hf11:nv f11 < pN:=hp (nv f11 < pN) (by simp)
 have hm0:nv m0 < pN:=hp (nv m0 < pN) (by simp)
 have hm1:nv m1 < pN:=hp (nv m1 < pN) (by simp)
 have hl:=hget_lt hb0
 refine mem_walk tt_ok Tryz.func175 (by kernel_rfl) (by kernel_rfl) [b] [] slot [some ⟨167,[.ws .u64 6 px,.ws .u64 6 py,.ws .u64 6 qx0,.ws .u64 6 qx1,.ws .u64 6 qy0,.ws .u64 6 qy1,.ws .u64 6 tx0,.ws .u64 6 tx1,.ws .u64 6 ty0,.ws .u64 6 ty1,.ws .u64 6 f0,.ws .u64 6 f1,.ws .u64 6 f2,.ws .u64 6 f3,.ws .u64 6 f4,.ws .u64 6 f5,.ws .u64 6 f6,.ws .u64 6 f7,.ws .u64 6 f8,.ws .u64 6 f9,.ws .u64 6 f10,.ws .u64 6 f11],0,0⟩] [some ⟨167,[.ws .u64 6 px,.ws .u64 6 py,.ws .u64 6 qx0,.ws .u64 6 qx1,.ws .u64 6 qy0,.ws .u64 6 qy1,.ws .u64 6 tx0,.ws .u64 6 tx1,.ws .u64 6 ty0,.ws .u64 6 ty1,.ws .u64 6 (eF (((d12 f0 f1 f2 f3 f4 f5 f6 f7 f8 f9 f10 f11) * lnS (dF px) (dF py) (⟨dF tx0,dF tx1⟩:F2p) (⟨dF ty0,dF ty1⟩:F2p) (⟨dF m0,dF m1⟩:F2p))).p.u.x),.ws .u64 6 (eF (((d12 f0 f1 f2 f3 f4 f5 f6 f7 f8 f9 f10 f11) * lnS (dF px) (dF py) (⟨dF tx0,dF tx1⟩:F2p) (⟨dF ty0,dF ty1⟩:F2p) (⟨dF m0,dF m1⟩:F2p))).p.u.y),.ws .u64 6 (eF (((d12 f0 f1 f2 f3 f4 f5 f6 f7 f8 f9 f10 f11) * lnS (dF px) (dF py) (⟨dF tx0,dF tx1⟩:F2p) (⟨dF ty0,dF ty1⟩:F2p) (⟨dF m0,dF m1⟩:F2p))).q.u.x),.ws .u64 6 (eF (((d12 f0 f1 f2 f3 f4 f5 f6 f7 f8 f9 f10 f11) * lnS (dF px) (dF py) (⟨dF tx0,dF tx1⟩:F2p) (⟨dF ty0,dF ty1⟩:F2p) (⟨dF m0,dF m1⟩:F2p))).q.u.y),.ws .u64 6 (eF (((d12 f0 f1 f2 f3 f4 f5 f6 f7 f8 f9 f10 f11) * lnS (dF px) (dF py) (⟨dF tx0,dF tx1⟩:F2p) (⟨dF ty0,dF ty1⟩:F2p) (⟨dF m0,dF m1⟩:F2p))).p.v.x),.ws .u64 6 (eF (((d12 f0 f1 f2 f3 f4 f5 f6 f7 f8 f9 f10 f11) * lnS (dF px) (dF py) (⟨dF tx0,dF tx1⟩:F2p) (⟨dF ty0,dF ty1⟩:F2p) (⟨dF m0,dF m1⟩:F2p))).p.v.y),.ws .u64 6 (eF (((d12 f0 f1 f2 f3 f4 f5 f6 f7 f8 f9 f10 f11) * lnS (dF px) (dF py) (⟨dF tx0,dF tx1⟩:F2p) (⟨dF ty0,dF ty1⟩:F2p) (⟨dF m0,dF m1⟩:F2p))).q.v.x),.ws .u64 6 (eF (((d12 f0 f1 f2 f3 f4 f5 f6 f7 f8 f9 f10 f11) * lnS (dF px) (dF py) (⟨dF tx0,dF tx1⟩:F2p) (⟨dF ty0,dF ty1⟩:F2p) (⟨dF m0,dF m1⟩:F2p))).q.v.y),.ws .u64 6 (eF (((d12 f0 f1 f2 f3 f4 f5 f6 f7 f8 f9 f10 f11) * lnS (dF px) (dF py) (⟨dF tx0,dF tx1⟩:F2p) (⟨dF ty0,dF ty1⟩:F2p) (⟨dF m0,dF m1⟩:F2p))).p.w.x),.ws .u64 6 (eF (((d12 f0 f1 f2 f3 f4 f5 f6 f7 f8 f9 f10 f11) * lnS (dF px) (dF py) (⟨dF tx0,dF tx1⟩:F2p) (⟨dF ty0,dF ty1⟩:F2p) (⟨dF m0,dF m1⟩:F2p))).p.w.y),.ws .u64 6 (eF (((d12 f0 f1 f2 f3 f4 f5 f6 f7 f8 f9 f10 f11) * lnS (dF px) (dF py) (⟨dF tx0,dF tx1⟩:F2p) (⟨dF ty0,dF ty1⟩:F2p) (⟨dF m0,dF m1⟩:F2p))).q.w.x),.ws .u64 6 (eF (((d12 f0 f1 f2 f3 f4 f5 f6 f7 f8 f9 f10 f11) * lnS (dF px) (dF py) (⟨dF tx0,dF tx1⟩:F2p) (⟨dF ty0,dF ty1⟩:F2p) (⟨dF m0,dF m1⟩:F2p))).q.w.y)],0,0⟩] (args':=[pt 0 0,.v1 (.agg [.ws .u64 6 m0,.ws .u64 6 m1])]) (vK:=.tup [])
  (by kernel_rfl) ?_ (by kernel_rfl) ?_ (by kernel_rfl) (fun i hi=>?_) (by kernel_rfl) (by kernel_rfl) (fun i hi=>?_) (by kernel_rfl) ?_ rfl (fun t ht=>by simp at ht) (fun i hi _=>?_) ?_
 ·show [pickB _ (hget h b)] = _
  rw [hb0];rfl
 ·show [AV.v1 (.sc (.pt (bk [b] b) 0)),.v1 (.agg [.ws .u64 6 m0,.ws .u64 6 m1])] = _
  rw [bk_one]
 ·have:i = 0:=by simpa using hi
  subst this;exact ⟨_,rfl,by simp⟩
 ·have:i = 0:=by simpa using hi
  subst this;exact ⟨_,rfl⟩
 ·show [pickB _ (hget (hset h b _) b)] = _
  rw [hget_hset_same hl];rfl
 ·exact hget_hset_ne fun e=>hi 0 (by simp) e.symm
 ·skip
  obtain ⟨t1,ht1⟩:∃ q_:F2p,q_ = F2p.sc (⟨dF m0,dF m1⟩:F2p) (dF px):=⟨_,rfl⟩
  obtain ⟨t2,ht2⟩:∃ q_:F2p,q_ = F2p.ng' t1:=⟨_,rfl⟩
  obtain ⟨t3,ht3⟩:∃ q_:F2p,q_ = t2 * unS:=⟨_,rfl⟩
  obtain ⟨t4,ht4⟩:∃ q_:F2p,q_ = (⟨dF m0,dF m1⟩:F2p) * (⟨dF tx0,dF tx1⟩:F2p):=⟨_,rfl⟩
  obtain ⟨t5,ht5⟩:∃ q_:F2p,q_ = t4 - (⟨dF ty0,dF ty1⟩:F2p):=⟨_,rfl⟩
  obtain ⟨t6,ht6⟩:∃ q_:F2p,q_ = t5 * unS:=⟨_,rfl⟩
  obtain ⟨t7,ht7⟩:∃ q_:S12,q_ = (d12 f0 f1 f2 f3 f4 f5 f6 f7 f8 f9 f10 f11) * (lnT (dF py) t6 t3):=⟨_,rfl⟩
  have hE:t7 = ((d12 f0 f1 f2 f3 f4 f5 f6 f7 f8 f9 f10 f11) * lnS (dF px) (dF py) (⟨dF tx0,dF tx1⟩:F2p) (⟨dF ty0,dF ty1⟩:F2p) (⟨dF m0,dF m1⟩:F2p)):=by subst ht7 ht6 ht5 ht4 ht3 ht2 ht1;rfl
  refine evS_q mixed tt_ok GLw_ok 200 [⟨3,5,.as [.ws .u64 6 (eF t1.x),.ws .u64 6 (eF t1.y)]⟩,⟨3,6,.as [.ws .u64 6 (eF t2.x),.ws .u64 6 (eF t2.y)]⟩,⟨3,8,.as [.ws .u64 6 (eF t3.x),.ws .u64 6 (eF t3.y)]⟩,⟨4,5,.as [.ws .u64 6 (eF t4.x),.ws .u64 6 (eF t4.y)]⟩,⟨4,10,.as [.ws .u64 6 (eF t5.x),.ws .u64 6 (eF t5.y)]⟩,⟨4,12,.as [.ws .u64 6 (eF t6.x),.ws .u64 6 (eF t6.y)]⟩,⟨5,6,.as [.ws .u64 6 (eF t7.p.u.x),.ws .u64 6 (eF t7.p.u.y),.ws .u64 6 (eF t7.q.u.x),.ws .u64 6 (eF t7.q.u.y),.ws .u64 6 (eF t7.p.v.x),.ws .u64 6 (eF t7.p.v.y),.ws .u64 6 (eF t7.q.v.x),.ws .u64 6 (eF t7.q.v.y),.ws .u64 6 (eF t7.p.w.x),.ws .u64 6 (eF t7.p.w.y),.ws .u64 6 (eF t7.q.w.x),.ws .u64 6 (eF t7.q.w.y)]⟩] ?_
  refine same (p:=asP [.ws .u64 6 (eF (sc2x (dF m0) (dF m1) (dF px))),.ws .u64 6 (eF (sc2y (dF m0) (dF m1) (dF px)))] [.ws .u64 6 (eF t1.x),.ws .u64 6 (eF t1.y)]/\nv m0 < pN/\nv m1 < pN/\nv px < pN/\asP [.ws .u64 6 (eF (neg2x (dF (eF t1.x)) (dF (eF t1.y)))),.ws .u64 6 (eF (neg2y (dF (eF t1.x)) (dF (eF t1.y))))] [.ws .u64 6 (eF t2.x),.ws .u64 6 (eF t2.y)]/\nv (eF t1.x) < pN/\nv (eF t1.y) < pN/\asP [.ws .u64 6 (eF (mul2x (dF (eF t2.x)) (dF (eF t2.y)) (dF unF0) (dF unF1))),.ws .u64 6 (eF (mul2y (dF (eF t2.x)) (dF (eF t2.y)) (dF unF0) (dF unF1)))] [.ws .u64 6 (eF t3.x),.ws .u64 6 (eF t3.y)]/\nv (eF t2.x) < pN/\nv (eF t2.y) < pN/\nv unF0 < pN/\nv unF1 < pN/\asP [.ws .u64 6 (eF (mul2x (dF m0) (dF m1) (dF tx0) (dF tx1))),.ws .u64 6 (eF (mul2y (dF m0) (dF m1) (dF tx0) (dF tx1)))] [.ws .u64 6 (eF t4.x),.ws .u64 6 (eF t4.y)]/\nv m0 < pN/\nv m1 < pN/\nv tx0 < pN/\nv tx1 < pN/\asP [.ws .u64 6 (eF (sub2x (dF (eF t4.x)) (dF (eF t4.y)) (dF ty0) (dF ty1))),.ws .u64 6 (eF (sub2y (dF (eF t4.x)) (dF (eF t4.y)) (dF ty0) (dF ty1)))] [.ws .u64 6 (eF t5.x),.ws .u64 6 (eF t5.y)]/\nv (eF t4.x) < pN/\nv (eF t4.y) < pN/\nv ty0 < pN/\nv ty1 < pN/\asP [.ws .u64 6 (eF (mul2x (dF (eF t5.x)) (dF (eF t5.y)) (dF unF0) (dF unF1))),.ws .u64 6 (eF (mul2y (dF (eF t5.x)) (dF (eF t5.y)) (dF unF0) (dF unF1)))] [.ws .u64 6 (eF t6.x),.ws .u64 6 (eF t6.y)]/\nv (eF t5.x) < pN/\nv (eF t5.y) < pN/\nv unF0 < pN/\nv unF1 < pN/\asP (cells12 (S12.mul (d12 f0 f1 f2 f3 f4 f5 f6 f7 f8 f9 f10 f11) (d12 py (fun _=>0) (fun _=>0) (fun _=>0) (fun _=>0) (fun _=>0) (eF t6.x) (eF t6.y) (fun _=>0) (fun _=>0) (eF t3.x) (eF t3.y)))) [.ws .u64 6 (eF t7.p.u.x),.ws .u64 6 (eF t7.p.u.y),.ws .u64 6 (eF t7.q.u.x),.ws .u64 6 (eF t7.q.u.y),.ws .u64 6 (eF t7.p.v.x),.ws .u64 6 (eF t7.p.v.y),.ws .u64 6 (eF t7.q.v.x),.ws .u64 6 (eF t7.q.v.y),.ws .u64 6 (eF t7.p.w.x),.ws .u64 6 (eF t7.p.w.y),.ws .u64 6 (eF t7.q.w.x),.ws .u64 6 (eF t7.q.w.y)]/\nv f0 < pN/\nv f1 < pN/\nv f2 < pN/\nv f3 < pN/\nv f4 < pN/\nv f5 < pN/\nv f6 < pN/\nv f7 < pN/\nv f8 < pN/\nv f9 < pN/\nv f10 < pN/\nv f11 < pN/\nv py < pN/\nv (fun _=>0) < pN/\nv (fun _=>0) < pN/\nv (fun _=>0) < pN/\nv (fun _=>0) < pN/\nv (fun _=>0) < pN/\nv (eF t6.x) < pN/\nv (eF t6.y) < pN/\nv (fun _=>0) < pN/\nv (fun _=>0) < pN/\nv (eF t3.x) < pN/\nv (eF t3.y) < pN/\endW 167 [.ws .u64 6 px,.ws .u64 6 py,.ws .u64 6 qx0,.ws .u64 6 qx1,.ws .u64 6 qy0,.ws .u64 6 qy1,.ws .u64 6 tx0,.ws .u64 6 tx1,.ws .u64 6 ty0,.ws .u64 6 ty1,.ws .u64 6 (eF t7.p.u.x),.ws .u64 6 (eF t7.p.u.y),.ws .u64 6 (eF t7.q.u.x),.ws .u64 6 (eF t7.q.u.y),.ws .u64 6 (eF t7.p.v.x),.ws .u64 6 (eF t7.p.v.y),.ws .u64 6 (eF t7.q.v.x),.ws .u64 6 (eF t7.q.v.y),.ws .u64 6 (eF t7.p.w.x),.ws .u64 6 (eF t7.p.w.y),.ws .u64 6 (eF t7.q.w.x),.ws .u64 6 (eF t7.q.w.y)] [.ws .u64 6 px,.ws .u64 6 py,.ws .u64 6 qx0,.ws .u64 6 qx1,.ws .u64 6 qy0,.ws .u64 6 qy1,.ws .u64 6 tx0,.ws .u64 6 tx1,.ws .u64 6 ty0,.ws .u64 6 ty1,.ws .u64 6 (eF (((d12 f0 f1 f2 f3 f4 f5 f6 f7 f8 f9 f10 f11) * lnS (dF px) (dF py) (⟨dF tx0,dF tx1⟩:F2p) (⟨dF ty0,dF ty1⟩:F2p) (⟨dF m0,dF m1⟩:F2p))).p.u.x),.ws .u64 6 (eF (((d12 f0 f1 f2 f3 f4 f5 f6 f7 f8 f9 f10 f11) * lnS (dF px) (dF py) (⟨dF tx0,dF tx1⟩:F2p) (⟨dF ty0,dF ty1⟩:F2p) (⟨dF m0,dF m1⟩:F2p))).p.u.y),.ws .u64 6 (eF (((d12 f0 f1 f2 f3 f4 f5 f6 f7 f8 f9 f10 f11) * lnS (dF px) (dF py) (⟨dF tx0,dF tx1⟩:F2p) (⟨dF ty0,dF ty1⟩:F2p) (⟨dF m0,dF m1⟩:F2p))).q.u.x),.ws .u64 6 (eF (((d12 f0 f1 f2 f3 f4 f5 f6 f7 f8 f9 f10 f11) * lnS (dF px) (dF py) (⟨dF tx0,dF tx1⟩:F2p) (⟨dF ty0,dF ty1⟩:F2p) (⟨dF m0,dF m1⟩:F2p))).q.u.y),.ws .u64 6 (eF (((d12 f0 f1 f2 f3 f4 f5 f6 f7 f8 f9 f10 f11) * lnS (dF px) (dF py) (⟨dF tx0,dF tx1⟩:F2p) (⟨dF ty0,dF ty1⟩:F2p) (⟨dF m0,dF m1⟩:F2p))).p.v.x),.ws .u64 6 (eF (((d12 f0 f1 f2 f3 f4 f5 f6 f7 f8 f9 f10 f11) * lnS (dF px) (dF py) (⟨dF tx0,dF tx1⟩:F2p) (⟨dF ty0,dF ty1⟩:F2p) (⟨dF m0,dF m1⟩:F2p))).p.v.y),.ws .u64 6 (eF (((d12 f0 f1 f2 f3 f4 f5 f6 f7 f8 f9 f10 f11) * lnS (dF px) (dF py) (⟨dF tx0,dF tx1⟩:F2p) (⟨dF ty0,dF ty1⟩:F2p) (⟨dF m0,dF m1⟩:F2p))).q.v.x),.ws .u64 6 (eF (((d12 f0 f1 f2 f3 f4 f5 f6 f7 f8 f9 f10 f11) * lnS (dF px) (dF py) (⟨dF tx0,dF tx1⟩:F2p) (⟨dF ty0,dF ty1⟩:F2p) (⟨dF m0,dF m1⟩:F2p))).q.v.y),.ws .u64 6 (eF (((d12 f0 f1 f2 f3 f4 f5 f6 f7 f8 f9 f10 f11) * lnS (dF px) (dF py) (⟨dF tx0,dF tx1⟩:F2p) (⟨dF ty0,dF ty1⟩:F2p) (⟨dF m0,dF m1⟩:F2p))).p.w.x),.ws .u64 6 (eF (((d12 f0 f1 f2 f3 f4 f5 f6 f7 f8 f9 f10 f11) * lnS (dF px) (dF py) (⟨dF tx0,dF tx1⟩:F2p) (⟨dF ty0,dF ty1⟩:F2p) (⟨dF m0,dF m1⟩:F2p))).p.w.y),.ws .u64 6 (eF (((d12 f0 f1 f2 f3 f4 f5 f6 f7 f8 f9 f10 f11) * lnS (dF px) (dF py) (⟨dF tx0,dF tx1⟩:F2p) (⟨dF ty0,dF ty1⟩:F2p) (⟨dF m0,dF m1⟩:F2p))).q.w.x),.ws .u64 6 (eF (((d12 f0 f1 f2 f3 f4 f5 f6 f7 f8 f9 f10 f11) * lnS (dF px) (dF py) (⟨dF tx0,dF tx1⟩:F2p) (⟨dF ty0,dF ty1⟩:F2p) (⟨dF m0,dF m1⟩:F2p))).q.w.y)]) ?_ (by kernel_rfl)
  exact ⟨as_scaleQ rfl rfl rfl ht1,hm0,hm1,hpx,as_negQ (dF_eF _) (dF_eF _) ht2,lt_eF _,lt_eF _,as_mulQ (dF_eF _) (dF_eF _) rfl rfl ht3,lt_eF _,lt_eF _,un_lt0,un_lt1,as_mulQ rfl rfl rfl rfl ht4,hm0,hm1,htx0,htx1,as_subQ (dF_eF _) (dF_eF _) rfl rfl ht5,lt_eF _,lt_eF _,hty0,hty1,as_mulQ (dF_eF _) (dF_eF _) rfl rfl ht6,lt_eF _,lt_eF _,un_lt0,un_lt1,as_T2 rfl ln_d ht7,hf0,hf1,hf2,hf3,hf4,hf5,hf6,hf7,hf8,hf9,hf10,hf11,hpy,lt_zero,lt_zero,lt_zero,lt_zero,lt_zero,lt_eF _,lt_eF _,lt_zero,lt_zero,lt_eF _,lt_eF _,endW_of (cv_cons rfl (cv_cons rfl (cv_cons rfl (cv_cons rfl (cv_cons rfl (cv_cons rfl (cv_cons rfl (cv_cons rfl (cv_cons rfl (cv_cons rfl (cv_cons (congrArg (fun q:S12=>nv (eF q.p.u.x)) hE) (cv_cons (congrArg (fun q:S12=>nv (eF q.p.u.y)) hE) (cv_cons (congrArg (fun q:S12=>nv (eF q.q.u.x)) hE) (cv_cons (congrArg (fun q:S12=>nv (eF q.q.u.y)) hE) (cv_cons (congrArg (fun q:S12=>nv (eF q.p.v.x)) hE) (cv_cons (congrArg (fun q:S12=>nv (eF q.p.v.y)) hE) (cv_cons (congrArg (fun q:S12=>nv (eF q.q.v.x)) hE) (cv_cons (congrArg (fun q:S12=>nv (eF q.q.v.y)) hE) (cv_cons (congrArg (fun q:S12=>nv (eF q.p.w.x)) hE) (cv_cons (congrArg (fun q:S12=>nv (eF q.p.w.y)) hE) (cv_cons (congrArg (fun q:S12=>nv (eF q.q.w.x)) hE) (cv_cons (congrArg (fun q:S12=>nv (eF q.q.w.y)) hE) (cv_nil)))))))))))))))))))))))⟩
def cStepW (args:List AV) (h:Heap) (slot:Nat):Option (List Prop × AV × Heap) :=
 match args with
 | [.v1 (.sc (.pt b 0)),.v1 (.agg [.ws .u64 6 m0,.ws .u64 6 m1]),.v1 (.agg [.ws .u64 6 o0,.ws .u64 6 o1])]=>match hget h b with
  | some ⟨t0,[.ws .u64 6 px,.ws .u64 6 py,.ws .u64 6 qx0,.ws .u64 6 qx1,.ws .u64 6 qy0,.ws .u64 6 qy1,.ws .u64 6 tx0,.ws .u64 6 tx1,.ws .u64 6 ty0,.ws .u64 6 ty1,.ws .u64 6 f0,.ws .u64 6 f1,.ws .u64 6 f2,.ws .u64 6 f3,.ws .u64 6 f4,.ws .u64 6 f5,.ws .u64 6 f6,.ws .u64 6 f7,.ws .u64 6 f8,.ws .u64 6 f9,.ws .u64 6 f10,.ws .u64 6 f11],0,0⟩=>match Nat.beq t0 167 with
   | true=>some ([nv tx0 < pN,nv tx1 < pN,nv ty0 < pN,nv ty1 < pN,nv m0 < pN,nv m1 < pN,nv o0 < pN,nv o1 < pN],.tup [],hset h b ⟨167,[.ws .u64 6 px,.ws .u64 6 py,.ws .u64 6 qx0,.ws .u64 6 qx1,.ws .u64 6 qy0,.ws .u64 6 qy1,.ws .u64 6 (eF ((stX (⟨dF tx0,dF tx1⟩:F2p) (⟨dF m0,dF m1⟩:F2p) (⟨dF o0,dF o1⟩:F2p))).x),.ws .u64 6 (eF ((stX (⟨dF tx0,dF tx1⟩:F2p) (⟨dF m0,dF m1⟩:F2p) (⟨dF o0,dF o1⟩:F2p))).y),.ws .u64 6 (eF ((stY (⟨dF tx0,dF tx1⟩:F2p) (⟨dF ty0,dF ty1⟩:F2p) (⟨dF m0,dF m1⟩:F2p) (⟨dF o0,dF o1⟩:F2p))).x),.ws .u64 6 (eF ((stY (⟨dF tx0,dF tx1⟩:F2p) (⟨dF ty0,dF ty1⟩:F2p) (⟨dF m0,dF m1⟩:F2p) (⟨dF o0,dF o1⟩:F2p))).y),.ws .u64 6 f0,.ws .u64 6 f1,.ws .u64 6 f2,.ws .u64 6 f3,.ws .u64 6 f4,.ws .u64 6 f5,.ws .u64 6 f6,.ws .u64 6 f7,.ws .u64 6 f8,.ws .u64 6 f9,.ws .u64 6 f10,.ws .u64 6 f11],0,0⟩)
   | false=>none
  | _=>none
 | _=>none
def GSt:Ctx:=ctxL [(112,.pure (q2 mul2x mul2y)),(111,.pure (q2 sub2x sub2y))]
theorem GSt_ok:CtxOk Tryz.prog GSt:=ctxL_cons okMul2 <| ctxL_cons okSub2 ctxL_nil
theorem okStepW:(CallC.mem cStepW).Ok Tryz.prog 176:=by
 intro args h slot pre v h' e hp
 unfold cStepW at e
 split at e
 rotate_left
 ·cases e
 rename_i b m0 m1 o0 o1
 split at e
 rotate_left
 ·cases e
 rename_i t0 px py qx0 qx1 qy0 qy1 tx0 tx1 ty0 ty1 f0 f1 f2 f3 f4 f5 f6 f7 f8 f9 f10 f11 hb0
 split at e
 rotate_left
 ·cases e
 rename_i hty
 cases e
 simp only [Nat.beq_eq] at hty
 subst hty
 have htx0:nv tx0 < pN:=hp (nv tx0 < pN) (by simp)
 have htx1:nv tx1 < pN:=hp (nv tx1 < pN) (by simp)
 have hty0:nv ty0 < pN:=hp (nv ty0 < pN) (by simp)
 have hty1:nv ty1 < pN:=hp (nv ty1 < pN) (by simp)
 have hm0:nv m0 < pN:=hp (nv m0 < pN) (by simp)
 have hm1:nv m1 < pN:=hp (nv m1 < pN) (by simp)
 have ho0:nv o0 < pN:=hp (nv o0 < pN) (by simp)
 have ho1:nv o1 < pN:=hp (nv o1 < pN) (by simp)
 have hl:=hget_lt hb0
 refine mem_walk tt_ok Tryz.func176 (by kernel_rfl) (by kernel_rfl) [b] [] slot [some ⟨167,[.ws .u64 6 px,.ws .u64 6 py,.ws .u64 6 qx0,.ws .u64 6 qx1,.ws .u64 6 qy0,.ws .u64 6 qy1,.ws .u64 6 tx0,.ws .u64 6 tx1,.ws .u64 6 ty0,.ws .u64 6 ty1,.ws .u64 6 f0,.ws .u64 6 f1,.ws .u64 6 f2,.ws .u64 6 f3,.ws .u64 6 f4,.ws .u64 6 f5,.ws .u64 6 f6,.ws .u64 6 f7,.ws .u64 6 f8,.ws .u64 6 f9,.ws .u64 6 f10,.ws .u64 6 f11],0,0⟩] [some ⟨167,[.ws .u64 6 px,.ws .u64 6 py,.ws .u64 6 qx0,.ws .u64 6 qx1,.ws .u64 6 qy0,.ws .u64 6 qy1,.ws .u64 6 (eF ((stX (⟨dF tx0,dF tx1⟩:F2p) (⟨dF m0,dF m1⟩:F2p) (⟨dF o0,dF o1⟩:F2p))).x),.ws .u64 6 (eF ((stX (⟨dF tx0,dF tx1⟩:F2p) (⟨dF m0,dF m1⟩:F2p) (⟨dF o0,dF o1⟩:F2p))).y),.ws .u64 6 (eF ((stY (⟨dF tx0,dF tx1⟩:F2p) (⟨dF ty0,dF ty1⟩:F2p) (⟨dF m0,dF m1⟩:F2p) (⟨dF o0,dF o1⟩:F2p))).x),.ws .u64 6 (eF ((stY (⟨dF tx0,dF tx1⟩:F2p) (⟨dF ty0,dF ty1⟩:F2p) (⟨dF m0,dF m1⟩:F2p) (⟨dF o0,dF o1⟩:F2p))).y),.ws .u64 6 f0,.ws .u64 6 f1,.ws .u64 6 f2,.ws .u64 6 f3,.ws .u64 6 f4,.ws .u64 6 f5,.ws .u64 6 f6,.ws .u64 6 f7,.ws .u64 6 f8,.ws .u64 6 f9,.ws .u64 6 f10,.ws .u64 6 f11],0,0⟩] (args':=[pt 0 0,.v1 (.agg [.ws .u64 6 m0,.ws .u64 6 m1]),.v1 (.agg [.ws .u64 6 o0,.ws .u64 6 o1])]) (vK:=.tup [])
  (by kernel_rfl) ?_ (by kernel_rfl) ?_ (by kernel_rfl) (fun i hi=>?_) (by kernel_rfl) (by kernel_rfl) (fun i hi=>?_) (by kernel_rfl) ?_ rfl (fun t ht=>by simp at ht) (fun i hi _=>?_) ?_
 ·show [pickB _ (hget h b)] = _
  rw [hb0];rfl
 ·show [AV.v1 (.sc (.pt (bk [b] b) 0)),.v1 (.agg [.ws .u64 6 m0,.ws .u64 6 m1]),.v1 (.agg [.ws .u64 6 o0,.ws .u64 6 o1])] = _
  rw [bk_one]
 ·have:i = 0:=by simpa using hi
  subst this;exact ⟨_,rfl,by simp⟩
 ·have:i = 0:=by simpa using hi
  subst this;exact ⟨_,rfl⟩
 ·show [pickB _ (hget (hset h b _) b)] = _
  rw [hget_hset_same hl];rfl
 ·exact hget_hset_ne fun e=>hi 0 (by simp) e.symm
 ·skip
  obtain ⟨t1,ht1⟩:∃ q_:F2p,q_ = (⟨dF m0,dF m1⟩:F2p) * (⟨dF m0,dF m1⟩:F2p):=⟨_,rfl⟩
  obtain ⟨t2,ht2⟩:∃ q_:F2p,q_ = t1 - (⟨dF tx0,dF tx1⟩:F2p):=⟨_,rfl⟩
  obtain ⟨t3,ht3⟩:∃ q_:F2p,q_ = t2 - (⟨dF o0,dF o1⟩:F2p):=⟨_,rfl⟩
  obtain ⟨t4,ht4⟩:∃ q_:F2p,q_ = (⟨dF tx0,dF tx1⟩:F2p) - t3:=⟨_,rfl⟩
  obtain ⟨t5,ht5⟩:∃ q_:F2p,q_ = (⟨dF m0,dF m1⟩:F2p) * t4:=⟨_,rfl⟩
  obtain ⟨t6,ht6⟩:∃ q_:F2p,q_ = t5 - (⟨dF ty0,dF ty1⟩:F2p):=⟨_,rfl⟩
  have hX:t3 = (stX (⟨dF tx0,dF tx1⟩:F2p) (⟨dF m0,dF m1⟩:F2p) (⟨dF o0,dF o1⟩:F2p)):=by subst ht3 ht2 ht1;rfl
  have hY:t6 = (stY (⟨dF tx0,dF tx1⟩:F2p) (⟨dF ty0,dF ty1⟩:F2p) (⟨dF m0,dF m1⟩:F2p) (⟨dF o0,dF o1⟩:F2p)):=by subst ht6 ht5 ht4;rw [hX];rfl
  refine evS_q mixed tt_ok GSt_ok 200 [⟨1,2,.as [.ws .u64 6 (eF t1.x),.ws .u64 6 (eF t1.y)]⟩,⟨1,7,.as [.ws .u64 6 (eF t2.x),.ws .u64 6 (eF t2.y)]⟩,⟨1,9,.as [.ws .u64 6 (eF t3.x),.ws .u64 6 (eF t3.y)]⟩,⟨2,7,.as [.ws .u64 6 (eF t4.x),.ws .u64 6 (eF t4.y)]⟩,⟨2,8,.as [.ws .u64 6 (eF t5.x),.ws .u64 6 (eF t5.y)]⟩,⟨2,13,.as [.ws .u64 6 (eF t6.x),.ws .u64 6 (eF t6.y)]⟩] ?_
  refine same (p:=asP [.ws .u64 6 (eF (mul2x (dF m0) (dF m1) (dF m0) (dF m1))),.ws .u64 6 (eF (mul2y (dF m0) (dF m1) (dF m0) (dF m1)))] [.ws .u64 6 (eF t1.x),.ws .u64 6 (eF t1.y)]/\nv m0 < pN/\nv m1 < pN/\nv m0 < pN/\nv m1 < pN/\asP [.ws .u64 6 (eF (sub2x (dF (eF t1.x)) (dF (eF t1.y)) (dF tx0) (dF tx1))),.ws .u64 6 (eF (sub2y (dF (eF t1.x)) (dF (eF t1.y)) (dF tx0) (dF tx1)))] [.ws .u64 6 (eF t2.x),.ws .u64 6 (eF t2.y)]/\nv (eF t1.x) < pN/\nv (eF t1.y) < pN/\nv tx0 < pN/\nv tx1 < pN/\asP [.ws .u64 6 (eF (sub2x (dF (eF t2.x)) (dF (eF t2.y)) (dF o0) (dF o1))),.ws .u64 6 (eF (sub2y (dF (eF t2.x)) (dF (eF t2.y)) (dF o0) (dF o1)))] [.ws .u64 6 (eF t3.x),.ws .u64 6 (eF t3.y)]/\nv (eF t2.x) < pN/\nv (eF t2.y) < pN/\nv o0 < pN/\nv o1 < pN/\asP [.ws .u64 6 (eF (sub2x (dF tx0) (dF tx1) (dF (eF t3.x)) (dF (eF t3.y)))),.ws .u64 6 (eF (sub2y (dF tx0) (dF tx1) (dF (eF t3.x)) (dF (eF t3.y))))] [.ws .u64 6 (eF t4.x),.ws .u64 6 (eF t4.y)]/\nv tx0 < pN/\nv tx1 < pN/\nv (eF t3.x) < pN/\nv (eF t3.y) < pN/\asP [.ws .u64 6 (eF (mul2x (dF m0) (dF m1) (dF (eF t4.x)) (dF (eF t4.y)))),.ws .u64 6 (eF (mul2y (dF m0) (dF m1) (dF (eF t4.x)) (dF (eF t4.y))))] [.ws .u64 6 (eF t5.x),.ws .u64 6 (eF t5.y)]/\nv m0 < pN/\nv m1 < pN/\nv (eF t4.x) < pN/\nv (eF t4.y) < pN/\asP [.ws .u64 6 (eF (sub2x (dF (eF t5.x)) (dF (eF t5.y)) (dF ty0) (dF ty1))),.ws .u64 6 (eF (sub2y (dF (eF t5.x)) (dF (eF t5.y)) (dF ty0) (dF ty1)))] [.ws .u64 6 (eF t6.x),.ws .u64 6 (eF t6.y)]/\nv (eF t5.x) < pN/\nv (eF t5.y) < pN/\nv ty0 < pN/\nv ty1 < pN/\endW 167 [.ws .u64 6 px,.ws .u64 6 py,.ws .u64 6 qx0,.ws .u64 6 qx1,.ws .u64 6 qy0,.ws .u64 6 qy1,.ws .u64 6 (eF t3.x),.ws .u64 6 (eF t3.y),.ws .u64 6 (eF t6.x),.ws .u64 6 (eF t6.y),.ws .u64 6 f0,.ws .u64 6 f1,.ws .u64 6 f2,.ws .u64 6 f3,.ws .u64 6 f4,.ws .u64 6 f5,.ws .u64 6 f6,.ws .u64 6 f7,.ws .u64 6 f8,.ws .u64 6 f9,.ws .u64 6 f10,.ws .u64 6 f11] [.ws .u64 6 px,.ws .u64 6 py,.ws .u64 6 qx0,.ws .u64 6 qx1,.ws .u64 6 qy0,.ws .u64 6 qy1,.ws .u64 6 (eF ((stX (⟨dF tx0,dF tx1⟩:F2p) (⟨dF m0,dF m1⟩:F2p) (⟨dF o0,dF o1⟩:F2p))).x),.ws .u64 6 (eF ((stX (⟨dF tx0,dF tx1⟩:F2p) (⟨dF m0,dF m1⟩:F2p) (⟨dF o0,dF o1⟩:F2p))).y),.ws .u64 6 (eF ((stY (⟨dF tx0,dF tx1⟩:F2p) (⟨dF ty0,dF ty1⟩:F2p) (⟨dF m0,dF m1⟩:F2p) (⟨dF o0,dF o1⟩:F2p))).x),.ws .u64 6 (eF ((stY (⟨dF tx0,dF tx1⟩:F2p) (⟨dF ty0,dF ty1⟩:F2p) (⟨dF m0,dF m1⟩:F2p) (⟨dF o0,dF o1⟩:F2p))).y),.ws .u64 6 f0,.ws .u64 6 f1,.ws .u64 6 f2,.ws .u64 6 f3,.ws .u64 6 f4,.ws .u64 6 f5,.ws .u64 6 f6,.ws .u64 6 f7,.ws .u64 6 f8,.ws .u64 6 f9,.ws .u64 6 f10,.ws .u64 6 f11]) ?_ (by kernel_rfl)
  exact ⟨as_mulQ rfl rfl rfl rfl ht1,hm0,hm1,hm0,hm1,as_subQ (dF_eF _) (dF_eF _) rfl rfl ht2,lt_eF _,lt_eF _,htx0,htx1,as_subQ (dF_eF _) (dF_eF _) rfl rfl ht3,lt_eF _,lt_eF _,ho0,ho1,as_subQ rfl rfl (dF_eF _) (dF_eF _) ht4,htx0,htx1,lt_eF _,lt_eF _,as_mulQ rfl rfl (dF_eF _) (dF_eF _) ht5,hm0,hm1,lt_eF _,lt_eF _,as_subQ (dF_eF _) (dF_eF _) rfl rfl ht6,lt_eF _,lt_eF _,hty0,hty1,endW_of (cv_cons rfl (cv_cons rfl (cv_cons rfl (cv_cons rfl (cv_cons rfl (cv_cons rfl (cv_cons (nv_tx hX) (cv_cons (nv_ty hX) (cv_cons (nv_tx hY) (cv_cons (nv_ty hY) (cv_cons rfl (cv_cons rfl (cv_cons rfl (cv_cons rfl (cv_cons rfl (cv_cons rfl (cv_cons rfl (cv_cons rfl (cv_cons rfl (cv_cons rfl (cv_cons rfl (cv_cons rfl (cv_nil)))))))))))))))))))))))⟩
def cTwiceW (args:List AV) (h:Heap) (slot:Nat):Option (List Prop × AV × Heap) :=
 match args with
 | [.v1 (.sc (.pt b 0))]=>match hget h b with
  | some ⟨t0,[.ws .u64 6 px,.ws .u64 6 py,.ws .u64 6 qx0,.ws .u64 6 qx1,.ws .u64 6 qy0,.ws .u64 6 qy1,.ws .u64 6 tx0,.ws .u64 6 tx1,.ws .u64 6 ty0,.ws .u64 6 ty1,.ws .u64 6 f0,.ws .u64 6 f1,.ws .u64 6 f2,.ws .u64 6 f3,.ws .u64 6 f4,.ws .u64 6 f5,.ws .u64 6 f6,.ws .u64 6 f7,.ws .u64 6 f8,.ws .u64 6 f9,.ws .u64 6 f10,.ws .u64 6 f11],0,0⟩=>match Nat.beq t0 167 with
   | true=>some ([nv px < pN,nv py < pN,nv tx0 < pN,nv tx1 < pN,nv ty0 < pN,nv ty1 < pN,nv f0 < pN,nv f1 < pN,nv f2 < pN,nv f3 < pN,nv f4 < pN,nv f5 < pN,nv f6 < pN,nv f7 < pN,nv f8 < pN,nv f9 < pN,nv f10 < pN,nv f11 < pN],.tup [],hset h b ⟨167,[.ws .u64 6 px,.ws .u64 6 py,.ws .u64 6 qx0,.ws .u64 6 qx1,.ws .u64 6 qy0,.ws .u64 6 qy1,.ws .u64 6 (eF ((twW (dF px) (dF py) (⟨(⟨dF tx0,dF tx1⟩:F2p),(⟨dF ty0,dF ty1⟩:F2p),(d12 f0 f1 f2 f3 f4 f5 f6 f7 f8 f9 f10 f11)⟩:WS)).tx).x),.ws .u64 6 (eF ((twW (dF px) (dF py) (⟨(⟨dF tx0,dF tx1⟩:F2p),(⟨dF ty0,dF ty1⟩:F2p),(d12 f0 f1 f2 f3 f4 f5 f6 f7 f8 f9 f10 f11)⟩:WS)).tx).y),.ws .u64 6 (eF ((twW (dF px) (dF py) (⟨(⟨dF tx0,dF tx1⟩:F2p),(⟨dF ty0,dF ty1⟩:F2p),(d12 f0 f1 f2 f3 f4 f5 f6 f7 f8 f9 f10 f11)⟩:WS)).ty).x),.ws .u64 6 (eF ((twW (dF px) (dF py) (⟨(⟨dF tx0,dF tx1⟩:F2p),(⟨dF ty0,dF ty1⟩:F2p),(d12 f0 f1 f2 f3 f4 f5 f6 f7 f8 f9 f10 f11)⟩:WS)).ty).y),.ws .u64 6 (eF ((twW (dF px) (dF py) (⟨(⟨dF tx0,dF tx1⟩:F2p),(⟨dF ty0,dF ty1⟩:F2p),(d12 f0 f1 f2 f3 f4 f5 f6 f7 f8 f9 f10 f11)⟩:WS)).f).p.u.x),.ws .u64 6 (eF ((twW (dF px) (dF py) (⟨(⟨dF tx0,dF tx1⟩:F2p),(⟨dF ty0,dF ty1⟩:F2p),(d12 f0 f1 f2 f3 f4 f5 f6 f7 f8 f9 f10 f11)⟩:WS)).f).p.u.y),.ws .u64 6 (eF ((twW (dF px) (dF py) (⟨(⟨dF tx0,dF tx1⟩:F2p),(⟨dF ty0,dF ty1⟩:F2p),(d12 f0 f1 f2 f3 f4 f5 f6 f7 f8 f9 f10 f11)⟩:WS)).f).q.u.x),.ws .u64 6 (eF ((twW (dF px) (dF py) (⟨(⟨dF tx0,dF tx1⟩:F2p),(⟨dF ty0,dF ty1⟩:F2p),(d12 f0 f1 f2 f3 f4 f5 f6 f7 f8 f9 f10 f11)⟩:WS)).f).q.u.y),.ws .u64 6 (eF ((twW (dF px) (dF py) (⟨(⟨dF tx0,dF tx1⟩:F2p),(⟨dF ty0,dF ty1⟩:F2p),(d12 f0 f1 f2 f3 f4 f5 f6 f7 f8 f9 f10 f11)⟩:WS)).f).p.v.x),.ws .u64 6 (eF ((twW (dF px) (dF py) (⟨(⟨dF tx0,dF tx1⟩:F2p),(⟨dF ty0,dF ty1⟩:F2p),(d12 f0 f1 f2 f3 f4 f5 f6 f7 f8 f9 f10 f11)⟩:WS)).f).p.v.y),.ws .u64 6 (eF ((twW (dF px) (dF py) (⟨(⟨dF tx0,dF tx1⟩:F2p),(⟨dF ty0,dF ty1⟩:F2p),(d12 f0 f1 f2 f3 f4 f5 f6 f7 f8 f9 f10 f11)⟩:WS)).f).q.v.x),.ws .u64 6 (eF ((twW (dF px) (dF py) (⟨(⟨dF tx0,dF tx1⟩:F2p),(⟨dF ty0,dF ty1⟩:F2p),(d12 f0 f1 f2 f3 f4 f5 f6 f7 f8 f9 f10 f11)⟩:WS)).f).q.v.y),.ws .u64 6 (eF ((twW (dF px) (dF py) (⟨(⟨dF tx0,dF tx1⟩:F2p),(⟨dF ty0,dF ty1⟩:F2p),(d12 f0 f1 f2 f3 f4 f5 f6 f7 f8 f9 f10 f11)⟩:WS)).f).p.w.x),.ws .u64 6 (eF ((twW (dF px) (dF py) (⟨(⟨dF tx0,dF tx1⟩:F2p),(⟨dF ty0,dF ty1⟩:F2p),(d12 f0 f1 f2 f3 f4 f5 f6 f7 f8 f9 f10 f11)⟩:WS)).f).p.w.y),.ws .u64 6 (eF ((twW (dF px) (dF py) (⟨(⟨dF tx0,dF tx1⟩:F2p),(⟨dF ty0,dF ty1⟩:F2p),(d12 f0 f1 f2 f3 f4 f5 f6 f7 f8 f9 f10 f11)⟩:WS)).f).q.w.x),.ws .u64 6 (eF ((twW (dF px) (dF py) (⟨(⟨dF tx0,dF tx1⟩:F2p),(⟨dF ty0,dF ty1⟩:F2p),(d12 f0 f1 f2 f3 f4 f5 f6 f7 f8 f9 f10 f11)⟩:WS)).f).q.w.y)],0,0⟩)
   | false=>none
  | _=>none
 | _=>none
def GTwW:Ctx:=ctxL [(112,.pure (q2 mul2x mul2y)),(110,.pure (q2 add2x add2y)),(111,.pure (q2 sub2x sub2y)),(174,.pure csl),(60,.pure (k122 S12.mul)),(175,.mem cLineW),(176,.mem cStepW)]
theorem GTwW_ok:CtxOk Tryz.prog GTwW:=ctxL_cons okMul2 <| ctxL_cons okAdd2 <| ctxL_cons okSub2 <| ctxL_cons okSlope <| ctxL_cons okMul12 <| ctxL_cons okLineW <| ctxL_cons okStepW ctxL_nil
theorem okTwiceW:(CallC.mem cTwiceW).Ok Tryz.prog 130:=by
 intro args h slot pre v h' e hp
 unfold cTwiceW at e
 split at e
 rotate_left
 ·cases e
 rename_i b
 split at e
 rotate_left
 ·cases e
 rename_i t0 px py qx0 qx1 qy0 qy1 tx0 tx1 ty0 ty1 f0 f1 f2 f3 f4 f5 f6 f7 f8 f9 f10 f11 hb0
 split at e
 rotate_left
 ·cases e
 rename_i hty
 cases e
 simp only [Nat.beq_eq] at hty
 subst hty
 have hpx:nv px < pN:=hp (nv px < pN) (by simp)
 have hpy:nv py < pN:=hp (nv py < pN) (by simp)
 have htx0:nv tx0 < pN:=hp (nv tx0 < pN) (by simp)
 have htx1:nv tx1 < pN:=hp (nv tx1 < pN) (by simp)
 have hty0:nv ty0 < pN:=hp (nv ty0 < pN) (by simp)
 have hty1:nv ty1 < pN:=hp (nv ty1 < pN) (by simp)
 have hf0:nv f0 < pN:=hp (nv f0 < pN) (by simp)
 have hf1:nv f1 < pN:=hp (nv f1 < pN) (by simp)
 have hf2:nv f2 < pN:=hp (nv f2 < pN) (by simp)
 have hf3:nv f3 < pN:=hp (nv f3 < pN) (by simp)
 have hf4:nv f4 < pN:=hp (nv f4 < pN) (by simp)
 have hf5:nv f5 < pN:=hp (nv f5 < pN) (by simp)
 have hf6:nv f6 < pN:=hp (nv f6 < pN) (by simp)
 have hf7:nv f7 < pN:=hp (nv f7 < pN) (by simp)
 have hf8:nv f8 < pN:=hp (nv f8 < pN) (by simp)
 have hf9:nv f9 < pN:=hp (nv f9 < pN) (by simp)
 have hf10:nv f10 < pN:=hp (nv f10 < pN) (by simp)
 have hf11:nv f11 < pN:=hp (nv f11 < pN) (by simp)
 have hl:=hget_lt hb0
 refine mem_walk tt_ok Tryz.func130 (by kernel_rfl) (by kernel_rfl) [b] [] slot [some ⟨167,[.ws .u64 6 px,.ws .u64 6 py,.ws .u64 6 qx0,.ws .u64 6 qx1,.ws .u64 6 qy0,.ws .u64 6 qy1,.ws .u64 6 tx0,.ws .u64 6 tx1,.ws .u64 6 ty0,.ws .u64 6 ty1,.ws .u64 6 f0,.ws .u64 6 f1,.ws .u64 6 f2,.ws .u64 6 f3,.ws .u64 6 f4,.ws .u64 6 f5,.ws .u64 6 f6,.ws .u64 6 f7,.ws .u64 6 f8,.ws .u64 6 f9,.ws .u64 6 f10,.ws .u64 6 f11],0,0⟩] [some ⟨167,[.ws .u64 6 px,.ws .u64 6 py,.ws .u64 6 qx0,.ws .u64 6 qx1,.ws .u64 6 qy0,.ws .u64 6 qy1,.ws .u64 6 (eF ((twW (dF px) (dF py) (⟨(⟨dF tx0,dF tx1⟩:F2p),(⟨dF ty0,dF ty1⟩:F2p),(d12 f0 f1 f2 f3 f4 f5 f6 f7 f8 f9 f10 f11)⟩:WS)).tx).x),.ws .u64 6 (eF ((twW (dF px) (dF py) (⟨(⟨dF tx0,dF tx1⟩:F2p),(⟨dF ty0,dF ty1⟩:F2p),(d12 f0 f1 f2 f3 f4 f5 f6 f7 f8 f9 f10 f11)⟩:WS)).tx).y),.ws .u64 6 (eF ((twW (dF px) (dF py) (⟨(⟨dF tx0,dF tx1⟩:F2p),(⟨dF ty0,dF ty1⟩:F2p),(d12 f0 f1 f2 f3 f4 f5 f6 f7 f8 f9 f10 f11)⟩:WS)).ty).x),.ws .u64 6 (eF ((twW (dF px) (dF py) (⟨(⟨dF tx0,dF tx1⟩:F2p),(⟨dF ty0,dF ty1⟩:F2p),(d12 f0 f1 f2 f3 f4 f5 f6 f7 f8 f9 f10 f11)⟩:WS)).ty).y),.ws .u64 6 (eF ((twW (dF px) (dF py) (⟨(⟨dF tx0,dF tx1⟩:F2p),(⟨dF ty0,dF ty1⟩:F2p),(d12 f0 f1 f2 f3 f4 f5 f6 f7 f8 f9 f10 f11)⟩:WS)).f).p.u.x),.ws .u64 6 (eF ((twW (dF px) (dF py) (⟨(⟨dF tx0,dF tx1⟩:F2p),(⟨dF ty0,dF ty1⟩:F2p),(d12 f0 f1 f2 f3 f4 f5 f6 f7 f8 f9 f10 f11)⟩:WS)).f).p.u.y),.ws .u64 6 (eF ((twW (dF px) (dF py) (⟨(⟨dF tx0,dF tx1⟩:F2p),(⟨dF ty0,dF ty1⟩:F2p),(d12 f0 f1 f2 f3 f4 f5 f6 f7 f8 f9 f10 f11)⟩:WS)).f).q.u.x),.ws .u64 6 (eF ((twW (dF px) (dF py) (⟨(⟨dF tx0,dF tx1⟩:F2p),(⟨dF ty0,dF ty1⟩:F2p),(d12 f0 f1 f2 f3 f4 f5 f6 f7 f8 f9 f10 f11)⟩:WS)).f).q.u.y),.ws .u64 6 (eF ((twW (dF px) (dF py) (⟨(⟨dF tx0,dF tx1⟩:F2p),(⟨dF ty0,dF ty1⟩:F2p),(d12 f0 f1 f2 f3 f4 f5 f6 f7 f8 f9 f10 f11)⟩:WS)).f).p.v.x),.ws .u64 6 (eF ((twW (dF px) (dF py) (⟨(⟨dF tx0,dF tx1⟩:F2p),(⟨dF ty0,dF ty1⟩:F2p),(d12 f0 f1 f2 f3 f4 f5 f6 f7 f8 f9 f10 f11)⟩:WS)).f).p.v.y),.ws .u64 6 (eF ((twW (dF px) (dF py) (⟨(⟨dF tx0,dF tx1⟩:F2p),(⟨dF ty0,dF ty1⟩:F2p),(d12 f0 f1 f2 f3 f4 f5 f6 f7 f8 f9 f10 f11)⟩:WS)).f).q.v.x),.ws .u64 6 (eF ((twW (dF px) (dF py) (⟨(⟨dF tx0,dF tx1⟩:F2p),(⟨dF ty0,dF ty1⟩:F2p),(d12 f0 f1 f2 f3 f4 f5 f6 f7 f8 f9 f10 f11)⟩:WS)).f).q.v.y),.ws .u64 6 (eF ((twW (dF px) (dF py) (⟨(⟨dF tx0,dF tx1⟩:F2p),(⟨dF ty0,dF ty1⟩:F2p),(d12 f0 f1 f2 f3 f4 f5 f6 f7 f8 f9 f10 f11)⟩:WS)).f).p.w.x),.ws .u64 6 (eF ((twW (dF px) (dF py) (⟨(⟨dF tx0,dF tx1⟩:F2p),(⟨dF ty0,dF ty1⟩:F2p),(d12 f0 f1 f2 f3 f4 f5 f6 f7 f8 f9 f10 f11)⟩:WS)).f).p.w.y),.ws .u64 6 (eF ((twW (dF px) (dF py) (⟨(⟨dF tx0,dF tx1⟩:F2p),(⟨dF ty0,dF ty1⟩:F2p),(d12 f0 f1 f2 f3 f4 f5 f6 f7 f8 f9 f10 f11)⟩:WS)).f).q.w.x),.ws .u64 6 (eF ((twW (dF px) (dF py) (⟨(⟨dF tx0,dF tx1⟩:F2p),(⟨dF ty0,dF ty1⟩:F2p),(d12 f0 f1 f2 f3 f4 f5 f6 f7 f8 f9 f10 f11)⟩:WS)).f).q.w.y)],0,0⟩] (args':=[pt 0 0]) (vK:=.tup [])
  (by kernel_rfl) ?_ (by kernel_rfl) ?_ (by kernel_rfl) (fun i hi=>?_) (by kernel_rfl) (by kernel_rfl) (fun i hi=>?_) (by kernel_rfl) ?_ rfl (fun t ht=>by simp at ht) (fun i hi _=>?_) ?_
 ·show [pickB _ (hget h b)] = _
  rw [hb0];rfl
 ·show [AV.v1 (.sc (.pt (bk [b] b) 0))] = _
  rw [bk_one]
 ·have:i = 0:=by simpa using hi
  subst this;exact ⟨_,rfl,by simp⟩
 ·have:i = 0:=by simpa using hi
  subst this;exact ⟨_,rfl⟩
 ·show [pickB _ (hget (hset h b _) b)] = _
  rw [hget_hset_same hl];rfl
 ·exact hget_hset_ne fun e=>hi 0 (by simp) e.symm
 ·skip
  obtain ⟨t1,ht1⟩:∃ q_:F2p,q_ = (⟨dF tx0,dF tx1⟩:F2p) * (⟨dF tx0,dF tx1⟩:F2p):=⟨_,rfl⟩
  obtain ⟨t2,ht2⟩:∃ q_:F2p,q_ = t1 + t1:=⟨_,rfl⟩
  obtain ⟨t3,ht3⟩:∃ q_:F2p,q_ = t2 + t1:=⟨_,rfl⟩
  obtain ⟨t4,ht4⟩:∃ q_:F2p,q_ = (⟨dF ty0,dF ty1⟩:F2p) + (⟨dF ty0,dF ty1⟩:F2p):=⟨_,rfl⟩
  obtain ⟨t5,ht5⟩:∃ q_:F2p,q_ = slS t3 t4:=⟨_,rfl⟩
  obtain ⟨t6,ht6⟩:∃ q_:S12,q_ = (d12 f0 f1 f2 f3 f4 f5 f6 f7 f8 f9 f10 f11) * (d12 f0 f1 f2 f3 f4 f5 f6 f7 f8 f9 f10 f11):=⟨_,rfl⟩
  have hm:(⟨dF (eF t5.x),dF (eF t5.y)⟩:F2p) = t5:=by rw [dF_eF,dF_eF]
  have hX:(stX (⟨dF tx0,dF tx1⟩:F2p) (⟨dF (eF t5.x),dF (eF t5.y)⟩:F2p) (⟨dF tx0,dF tx1⟩:F2p)) = (twW (dF px) (dF py) (⟨(⟨dF tx0,dF tx1⟩:F2p),(⟨dF ty0,dF ty1⟩:F2p),(d12 f0 f1 f2 f3 f4 f5 f6 f7 f8 f9 f10 f11)⟩:WS)).tx:=by rw [hm];subst ht5 ht4 ht3 ht2 ht1;rfl
  have hY:(stY (⟨dF tx0,dF tx1⟩:F2p) (⟨dF ty0,dF ty1⟩:F2p) (⟨dF (eF t5.x),dF (eF t5.y)⟩:F2p) (⟨dF tx0,dF tx1⟩:F2p)) = (twW (dF px) (dF py) (⟨(⟨dF tx0,dF tx1⟩:F2p),(⟨dF ty0,dF ty1⟩:F2p),(d12 f0 f1 f2 f3 f4 f5 f6 f7 f8 f9 f10 f11)⟩:WS)).ty:=by rw [hm];subst ht5 ht4 ht3 ht2 ht1;rfl
  have hF:((d12 (eF t6.p.u.x) (eF t6.p.u.y) (eF t6.q.u.x) (eF t6.q.u.y) (eF t6.p.v.x) (eF t6.p.v.y) (eF t6.q.v.x) (eF t6.q.v.y) (eF t6.p.w.x) (eF t6.p.w.y) (eF t6.q.w.x) (eF t6.q.w.y)) * lnS (dF px) (dF py) (⟨dF tx0,dF tx1⟩:F2p) (⟨dF ty0,dF ty1⟩:F2p) (⟨dF (eF t5.x),dF (eF t5.y)⟩:F2p)) = (twW (dF px) (dF py) (⟨(⟨dF tx0,dF tx1⟩:F2p),(⟨dF ty0,dF ty1⟩:F2p),(d12 f0 f1 f2 f3 f4 f5 f6 f7 f8 f9 f10 f11)⟩:WS)).f:=by rw [hm,d12_eF];subst ht6 ht5 ht4 ht3 ht2 ht1;rfl
  refine evS_q mixed tt_ok GTwW_ok 300 [⟨0,8,.as [.ws .u64 6 (eF t1.x),.ws .u64 6 (eF t1.y)]⟩,⟨1,2,.as [.ws .u64 6 (eF t2.x),.ws .u64 6 (eF t2.y)]⟩,⟨1,4,.as [.ws .u64 6 (eF t3.x),.ws .u64 6 (eF t3.y)]⟩,⟨1,13,.as [.ws .u64 6 (eF t4.x),.ws .u64 6 (eF t4.y)]⟩,⟨1,14,.as [.ws .u64 6 (eF t5.x),.ws .u64 6 (eF t5.y)]⟩,⟨2,9,.as [.ws .u64 6 (eF t6.p.u.x),.ws .u64 6 (eF t6.p.u.y),.ws .u64 6 (eF t6.q.u.x),.ws .u64 6 (eF t6.q.u.y),.ws .u64 6 (eF t6.p.v.x),.ws .u64 6 (eF t6.p.v.y),.ws .u64 6 (eF t6.q.v.x),.ws .u64 6 (eF t6.q.v.y),.ws .u64 6 (eF t6.p.w.x),.ws .u64 6 (eF t6.p.w.y),.ws .u64 6 (eF t6.q.w.x),.ws .u64 6 (eF t6.q.w.y)]⟩] ?_
  refine same (p:=asP [.ws .u64 6 (eF (mul2x (dF tx0) (dF tx1) (dF tx0) (dF tx1))),.ws .u64 6 (eF (mul2y (dF tx0) (dF tx1) (dF tx0) (dF tx1)))] [.ws .u64 6 (eF t1.x),.ws .u64 6 (eF t1.y)]/\nv tx0 < pN/\nv tx1 < pN/\nv tx0 < pN/\nv tx1 < pN/\asP [.ws .u64 6 (eF (add2x (dF (eF t1.x)) (dF (eF t1.y)) (dF (eF t1.x)) (dF (eF t1.y)))),.ws .u64 6 (eF (add2y (dF (eF t1.x)) (dF (eF t1.y)) (dF (eF t1.x)) (dF (eF t1.y))))] [.ws .u64 6 (eF t2.x),.ws .u64 6 (eF t2.y)]/\nv (eF t1.x) < pN/\nv (eF t1.y) < pN/\nv (eF t1.x) < pN/\nv (eF t1.y) < pN/\asP [.ws .u64 6 (eF (add2x (dF (eF t2.x)) (dF (eF t2.y)) (dF (eF t1.x)) (dF (eF t1.y)))),.ws .u64 6 (eF (add2y (dF (eF t2.x)) (dF (eF t2.y)) (dF (eF t1.x)) (dF (eF t1.y))))] [.ws .u64 6 (eF t3.x),.ws .u64 6 (eF t3.y)]/\nv (eF t2.x) < pN/\nv (eF t2.y) < pN/\nv (eF t1.x) < pN/\nv (eF t1.y) < pN/\asP [.ws .u64 6 (eF (add2x (dF ty0) (dF ty1) (dF ty0) (dF ty1))),.ws .u64 6 (eF (add2y (dF ty0) (dF ty1) (dF ty0) (dF ty1)))] [.ws .u64 6 (eF t4.x),.ws .u64 6 (eF t4.y)]/\nv ty0 < pN/\nv ty1 < pN/\nv ty0 < pN/\nv ty1 < pN/\asP [.ws .u64 6 (eF (slS (⟨dF (eF t3.x),dF (eF t3.y)⟩:F2p) (⟨dF (eF t4.x),dF (eF t4.y)⟩:F2p)).x),.ws .u64 6 (eF (slS (⟨dF (eF t3.x),dF (eF t3.y)⟩:F2p) (⟨dF (eF t4.x),dF (eF t4.y)⟩:F2p)).y)] [.ws .u64 6 (eF t5.x),.ws .u64 6 (eF t5.y)]/\nv (eF t3.x) < pN/\nv (eF t3.y) < pN/\nv (eF t4.x) < pN/\nv (eF t4.y) < pN/\asP (cells12 (S12.mul (d12 f0 f1 f2 f3 f4 f5 f6 f7 f8 f9 f10 f11) (d12 f0 f1 f2 f3 f4 f5 f6 f7 f8 f9 f10 f11))) [.ws .u64 6 (eF t6.p.u.x),.ws .u64 6 (eF t6.p.u.y),.ws .u64 6 (eF t6.q.u.x),.ws .u64 6 (eF t6.q.u.y),.ws .u64 6 (eF t6.p.v.x),.ws .u64 6 (eF t6.p.v.y),.ws .u64 6 (eF t6.q.v.x),.ws .u64 6 (eF t6.q.v.y),.ws .u64 6 (eF t6.p.w.x),.ws .u64 6 (eF t6.p.w.y),.ws .u64 6 (eF t6.q.w.x),.ws .u64 6 (eF t6.q.w.y)]/\nv f0 < pN/\nv f1 < pN/\nv f2 < pN/\nv f3 < pN/\nv f4 < pN/\nv f5 < pN/\nv f6 < pN/\nv f7 < pN/\nv f8 < pN/\nv f9 < pN/\nv f10 < pN/\nv f11 < pN/\nv f0 < pN/\nv f1 < pN/\nv f2 < pN/\nv f3 < pN/\nv f4 < pN/\nv f5 < pN/\nv f6 < pN/\nv f7 < pN/\nv f8 < pN/\nv f9 < pN/\nv f10 < pN/\nv f11 < pN/\nv px < pN/\nv py < pN/\nv tx0 < pN/\nv tx1 < pN/\nv ty0 < pN/\nv ty1 < pN/\nv (eF t6.p.u.x) < pN/\nv (eF t6.p.u.y) < pN/\nv (eF t6.q.u.x) < pN/\nv (eF t6.q.u.y) < pN/\nv (eF t6.p.v.x) < pN/\nv (eF t6.p.v.y) < pN/\nv (eF t6.q.v.x) < pN/\nv (eF t6.q.v.y) < pN/\nv (eF t6.p.w.x) < pN/\nv (eF t6.p.w.y) < pN/\nv (eF t6.q.w.x) < pN/\nv (eF t6.q.w.y) < pN/\nv (eF t5.x) < pN/\nv (eF t5.y) < pN/\nv tx0 < pN/\nv tx1 < pN/\nv ty0 < pN/\nv ty1 < pN/\nv (eF t5.x) < pN/\nv (eF t5.y) < pN/\nv tx0 < pN/\nv tx1 < pN/\endW 167 [.ws .u64 6 px,.ws .u64 6 py,.ws .u64 6 qx0,.ws .u64 6 qx1,.ws .u64 6 qy0,.ws .u64 6 qy1,.ws .u64 6 (eF ((stX (⟨dF tx0,dF tx1⟩:F2p) (⟨dF (eF t5.x),dF (eF t5.y)⟩:F2p) (⟨dF tx0,dF tx1⟩:F2p))).x),.ws .u64 6 (eF ((stX (⟨dF tx0,dF tx1⟩:F2p) (⟨dF (eF t5.x),dF (eF t5.y)⟩:F2p) (⟨dF tx0,dF tx1⟩:F2p))).y),.ws .u64 6 (eF ((stY (⟨dF tx0,dF tx1⟩:F2p) (⟨dF ty0,dF ty1⟩:F2p) (⟨dF (eF t5.x),dF (eF t5.y)⟩:F2p) (⟨dF tx0,dF tx1⟩:F2p))).x),.ws .u64 6 (eF ((stY (⟨dF tx0,dF tx1⟩:F2p) (⟨dF ty0,dF ty1⟩:F2p) (⟨dF (eF t5.x),dF (eF t5.y)⟩:F2p) (⟨dF tx0,dF tx1⟩:F2p))).y),.ws .u64 6 (eF (((d12 (eF t6.p.u.x) (eF t6.p.u.y) (eF t6.q.u.x) (eF t6.q.u.y) (eF t6.p.v.x) (eF t6.p.v.y) (eF t6.q.v.x) (eF t6.q.v.y) (eF t6.p.w.x) (eF t6.p.w.y) (eF t6.q.w.x) (eF t6.q.w.y)) * lnS (dF px) (dF py) (⟨dF tx0,dF tx1⟩:F2p) (⟨dF ty0,dF ty1⟩:F2p) (⟨dF (eF t5.x),dF (eF t5.y)⟩:F2p))).p.u.x),.ws .u64 6 (eF (((d12 (eF t6.p.u.x) (eF t6.p.u.y) (eF t6.q.u.x) (eF t6.q.u.y) (eF t6.p.v.x) (eF t6.p.v.y) (eF t6.q.v.x) (eF t6.q.v.y) (eF t6.p.w.x) (eF t6.p.w.y) (eF t6.q.w.x) (eF t6.q.w.y)) * lnS (dF px) (dF py) (⟨dF tx0,dF tx1⟩:F2p) (⟨dF ty0,dF ty1⟩:F2p) (⟨dF (eF t5.x),dF (eF t5.y)⟩:F2p))).p.u.y),.ws .u64 6 (eF (((d12 (eF t6.p.u.x) (eF t6.p.u.y) (eF t6.q.u.x) (eF t6.q.u.y) (eF t6.p.v.x) (eF t6.p.v.y) (eF t6.q.v.x) (eF t6.q.v.y) (eF t6.p.w.x) (eF t6.p.w.y) (eF t6.q.w.x) (eF t6.q.w.y)) * lnS (dF px) (dF py) (⟨dF tx0,dF tx1⟩:F2p) (⟨dF ty0,dF ty1⟩:F2p) (⟨dF (eF t5.x),dF (eF t5.y)⟩:F2p))).q.u.x),.ws .u64 6 (eF (((d12 (eF t6.p.u.x) (eF t6.p.u.y) (eF t6.q.u.x) (eF t6.q.u.y) (eF t6.p.v.x) (eF t6.p.v.y) (eF t6.q.v.x) (eF t6.q.v.y) (eF t6.p.w.x) (eF t6.p.w.y) (eF t6.q.w.x) (eF t6.q.w.y)) * lnS (dF px) (dF py) (⟨dF tx0,dF tx1⟩:F2p) (⟨dF ty0,dF ty1⟩:F2p) (⟨dF (eF t5.x),dF (eF t5.y)⟩:F2p))).q.u.y),.ws .u64 6 (eF (((d12 (eF t6.p.u.x) (eF t6.p.u.y) (eF t6.q.u.x) (eF t6.q.u.y) (eF t6.p.v.x) (eF t6.p.v.y) (eF t6.q.v.x) (eF t6.q.v.y) (eF t6.p.w.x) (eF t6.p.w.y) (eF t6.q.w.x) (eF t6.q.w.y)) * lnS (dF px) (dF py) (⟨dF tx0,dF tx1⟩:F2p) (⟨dF ty0,dF ty1⟩:F2p) (⟨dF (eF t5.x),dF (eF t5.y)⟩:F2p))).p.v.x),.ws .u64 6 (eF (((d12 (eF t6.p.u.x) (eF t6.p.u.y) (eF t6.q.u.x) (eF t6.q.u.y) (eF t6.p.v.x) (eF t6.p.v.y) (eF t6.q.v.x) (eF t6.q.v.y) (eF t6.p.w.x) (eF t6.p.w.y) (eF t6.q.w.x) (eF t6.q.w.y)) * lnS (dF px) (dF py) (⟨dF tx0,dF tx1⟩:F2p) (⟨dF ty0,dF ty1⟩:F2p) (⟨dF (eF t5.x),dF (eF t5.y)⟩:F2p))).p.v.y),.ws .u64 6 (eF (((d12 (eF t6.p.u.x) (eF t6.p.u.y) (eF t6.q.u.x) (eF t6.q.u.y) (eF t6.p.v.x) (eF t6.p.v.y) (eF t6.q.v.x) (eF t6.q.v.y) (eF t6.p.w.x) (eF t6.p.w.y) (eF t6.q.w.x) (eF t6.q.w.y)) * lnS (dF px) (dF py) (⟨dF tx0,dF tx1⟩:F2p) (⟨dF ty0,dF ty1⟩:F2p) (⟨dF (eF t5.x),dF (eF t5.y)⟩:F2p))).q.v.x),.ws .u64 6 (eF (((d12 (eF t6.p.u.x) (eF t6.p.u.y) (eF t6.q.u.x) (eF t6.q.u.y) (eF t6.p.v.x) (eF t6.p.v.y) (eF t6.q.v.x) (eF t6.q.v.y) (eF t6.p.w.x) (eF t6.p.w.y) (eF t6.q.w.x) (eF t6.q.w.y)) * lnS (dF px) (dF py) (⟨dF tx0,dF tx1⟩:F2p) (⟨dF ty0,dF ty1⟩:F2p) (⟨dF (eF t5.x),dF (eF t5.y)⟩:F2p))).q.v.y),.ws .u64 6 (eF (((d12 (eF t6.p.u.x) (eF t6.p.u.y) (eF t6.q.u.x) (eF t6.q.u.y) (eF t6.p.v.x) (eF t6.p.v.y) (eF t6.q.v.x) (eF t6.q.v.y) (eF t6.p.w.x) (eF t6.p.w.y) (eF t6.q.w.x) (eF t6.q.w.y)) * lnS (dF px) (dF py) (⟨dF tx0,dF tx1⟩:F2p) (⟨dF ty0,dF ty1⟩:F2p) (⟨dF (eF t5.x),dF (eF t5.y)⟩:F2p))).p.w.x),.ws .u64 6 (eF (((d12 (eF t6.p.u.x) (eF t6.p.u.y) (eF t6.q.u.x) (eF t6.q.u.y) (eF t6.p.v.x) (eF t6.p.v.y) (eF t6.q.v.x) (eF t6.q.v.y) (eF t6.p.w.x) (eF t6.p.w.y) (eF t6.q.w.x) (eF t6.q.w.y)) * lnS (dF px) (dF py) (⟨dF tx0,dF tx1⟩:F2p) (⟨dF ty0,dF ty1⟩:F2p) (⟨dF (eF t5.x),dF (eF t5.y)⟩:F2p))).p.w.y),.ws .u64 6 (eF (((d12 (eF t6.p.u.x) (eF t6.p.u.y) (eF t6.q.u.x) (eF t6.q.u.y) (eF t6.p.v.x) (eF t6.p.v.y) (eF t6.q.v.x) (eF t6.q.v.y) (eF t6.p.w.x) (eF t6.p.w.y) (eF t6.q.w.x) (eF t6.q.w.y)) * lnS (dF px) (dF py) (⟨dF tx0,dF tx1⟩:F2p) (⟨dF ty0,dF ty1⟩:F2p) (⟨dF (eF t5.x),dF (eF t5.y)⟩:F2p))).q.w.x),.ws .u64 6 (eF (((d12 (eF t6.p.u.x) (eF t6.p.u.y) (eF t6.q.u.x) (eF t6.q.u.y) (eF t6.p.v.x) (eF t6.p.v.y) (eF t6.q.v.x) (eF t6.q.v.y) (eF t6.p.w.x) (eF t6.p.w.y) (eF t6.q.w.x) (eF t6.q.w.y)) * lnS (dF px) (dF py) (⟨dF tx0,dF tx1⟩:F2p) (⟨dF ty0,dF ty1⟩:F2p) (⟨dF (eF t5.x),dF (eF t5.y)⟩:F2p))).q.w.y)] [.ws .u64 6 px,.ws .u64 6 py,.ws .u64 6 qx0,.ws .u64 6 qx1,.ws .u64 6 qy0,.ws .u64 6 qy1,.ws .u64 6 (eF ((twW (dF px) (dF py) (⟨(⟨dF tx0,dF tx1⟩:F2p),(⟨dF ty0,dF ty1⟩:F2p),(d12 f0 f1 f2 f3 f4 f5 f6 f7 f8 f9 f10 f11)⟩:WS)).tx).x),.ws .u64 6 (eF ((twW (dF px) (dF py) (⟨(⟨dF tx0,dF tx1⟩:F2p),(⟨dF ty0,dF ty1⟩:F2p),(d12 f0 f1 f2 f3 f4 f5 f6 f7 f8 f9 f10 f11)⟩:WS)).tx).y),.ws .u64 6 (eF ((twW (dF px) (dF py) (⟨(⟨dF tx0,dF tx1⟩:F2p),(⟨dF ty0,dF ty1⟩:F2p),(d12 f0 f1 f2 f3 f4 f5 f6 f7 f8 f9 f10 f11)⟩:WS)).ty).x),.ws .u64 6 (eF ((twW (dF px) (dF py) (⟨(⟨dF tx0,dF tx1⟩:F2p),(⟨dF ty0,dF ty1⟩:F2p),(d12 f0 f1 f2 f3 f4 f5 f6 f7 f8 f9 f10 f11)⟩:WS)).ty).y),.ws .u64 6 (eF ((twW (dF px) (dF py) (⟨(⟨dF tx0,dF tx1⟩:F2p),(⟨dF ty0,dF ty1⟩:F2p),(d12 f0 f1 f2 f3 f4 f5 f6 f7 f8 f9 f10 f11)⟩:WS)).f).p.u.x),.ws .u64 6 (eF ((twW (dF px) (dF py) (⟨(⟨dF tx0,dF tx1⟩:F2p),(⟨dF ty0,dF ty1⟩:F2p),(d12 f0 f1 f2 f3 f4 f5 f6 f7 f8 f9 f10 f11)⟩:WS)).f).p.u.y),.ws .u64 6 (eF ((twW (dF px) (dF py) (⟨(⟨dF tx0,dF tx1⟩:F2p),(⟨dF ty0,dF ty1⟩:F2p),(d12 f0 f1 f2 f3 f4 f5 f6 f7 f8 f9 f10 f11)⟩:WS)).f).q.u.x),.ws .u64 6 (eF ((twW (dF px) (dF py) (⟨(⟨dF tx0,dF tx1⟩:F2p),(⟨dF ty0,dF ty1⟩:F2p),(d12 f0 f1 f2 f3 f4 f5 f6 f7 f8 f9 f10 f11)⟩:WS)).f).q.u.y),.ws .u64 6 (eF ((twW (dF px) (dF py) (⟨(⟨dF tx0,dF tx1⟩:F2p),(⟨dF ty0,dF ty1⟩:F2p),(d12 f0 f1 f2 f3 f4 f5 f6 f7 f8 f9 f10 f11)⟩:WS)).f).p.v.x),.ws .u64 6 (eF ((twW (dF px) (dF py) (⟨(⟨dF tx0,dF tx1⟩:F2p),(⟨dF ty0,dF ty1⟩:F2p),(d12 f0 f1 f2 f3 f4 f5 f6 f7 f8 f9 f10 f11)⟩:WS)).f).p.v.y),.ws .u64 6 (eF ((twW (dF px) (dF py) (⟨(⟨dF tx0,dF tx1⟩:F2p),(⟨dF ty0,dF ty1⟩:F2p),(d12 f0 f1 f2 f3 f4 f5 f6 f7 f8 f9 f10 f11)⟩:WS)).f).q.v.x),.ws .u64 6 (eF ((twW (dF px) (dF py) (⟨(⟨dF tx0,dF tx1⟩:F2p),(⟨dF ty0,dF ty1⟩:F2p),(d12 f0 f1 f2 f3 f4 f5 f6 f7 f8 f9 f10 f11)⟩:WS)).f).q.v.y),.ws .u64 6 (eF ((twW (dF px) (dF py) (⟨(⟨dF tx0,dF tx1⟩:F2p),(⟨dF ty0,dF ty1⟩:F2p),(d12 f0 f1 f2 f3 f4 f5 f6 f7 f8 f9 f10 f11)⟩:WS)).f).p.w.x),.ws .u64 6 (eF ((twW (dF px) (dF py) (⟨(⟨dF tx0,dF tx1⟩:F2p),(⟨dF ty0,dF ty1⟩:F2p),(d12 f0 f1 f2 f3 f4 f5 f6 f7 f8 f9 f10 f11)⟩:WS)).f).p.w.y),.ws .u64 6 (eF ((twW (dF px) (dF py) (⟨(⟨dF tx0,dF tx1⟩:F2p),(⟨dF ty0,dF ty1⟩:F2p),(d12 f0 f1 f2 f3 f4 f5 f6 f7 f8 f9 f10 f11)⟩:WS)).f).q.w.x),.ws .u64 6 (eF ((twW (dF px) (dF py) (⟨(⟨dF tx0,dF tx1⟩:F2p),(⟨dF ty0,dF ty1⟩:F2p),(d12 f0 f1 f2 f3 f4 f5 f6 f7 f8 f9 f10 f11)⟩:WS)).f).q.w.y)]) ?_ (by kernel_rfl)
  exact ⟨as_mulQ rfl rfl rfl rfl ht1,htx0,htx1,htx0,htx1,as_addQ (dF_eF _) (dF_eF _) (dF_eF _) (dF_eF _) ht2,lt_eF _,lt_eF _,lt_eF _,lt_eF _,as_addQ (dF_eF _) (dF_eF _) (dF_eF _) (dF_eF _) ht3,lt_eF _,lt_eF _,lt_eF _,lt_eF _,as_addQ rfl rfl rfl rfl ht4,hty0,hty1,hty0,hty1,as_slQ (dF_eF _) (dF_eF _) (dF_eF _) (dF_eF _) ht5,lt_eF _,lt_eF _,lt_eF _,lt_eF _,as_T2 rfl rfl ht6,hf0,hf1,hf2,hf3,hf4,hf5,hf6,hf7,hf8,hf9,hf10,hf11,hf0,hf1,hf2,hf3,hf4,hf5,hf6,hf7,hf8,hf9,hf10,hf11,hpx,hpy,htx0,htx1,hty0,hty1,lt_eF _,lt_eF _,lt_eF _,lt_eF _,lt_eF _,lt_eF _,lt_eF _,lt_eF _,lt_eF _,lt_eF _,lt_eF _,lt_eF _,lt_eF _,lt_eF _,htx0,htx1,hty0,hty1,lt_eF _,lt_eF _,htx0,htx1,endW_of (cv_cons rfl (cv_cons rfl (cv_cons rfl (cv_cons rfl (cv_cons rfl (cv_cons rfl (cv_cons (nv_tx hX) (cv_cons (nv_ty hX) (cv_cons (nv_tx hY) (cv_cons (nv_ty hY) (cv_cons (congrArg (fun q:S12=>nv (eF q.p.u.x)) hF) (cv_cons (congrArg (fun q:S12=>nv (eF q.p.u.y)) hF) (cv_cons (congrArg (fun q:S12=>nv (eF q.q.u.x)) hF) (cv_cons (congrArg (fun q:S12=>nv (eF q.q.u.y)) hF) (cv_cons (congrArg (fun q:S12=>nv (eF q.p.v.x)) hF) (cv_cons (congrArg (fun q:S12=>nv (eF q.p.v.y)) hF) (cv_cons (congrArg (fun q:S12=>nv (eF q.q.v.x)) hF) (cv_cons (congrArg (fun q:S12=>nv (eF q.q.v.y)) hF) (cv_cons (congrArg (fun q:S12=>nv (eF q.p.w.x)) hF) (cv_cons (congrArg (fun q:S12=>nv (eF q.p.w.y)) hF) (cv_cons (congrArg (fun q:S12=>nv (eF q.q.w.x)) hF) (cv_cons (congrArg (fun q:S12=>nv (eF q.q.w.y)) hF) (cv_nil)))))))))))))))))))))))⟩
def cAddW (args:List AV) (h:Heap) (slot:Nat):Option (List Prop × AV × Heap) :=
 match args with
 | [.v1 (.sc (.pt b 0))]=>match hget h b with
  | some ⟨t0,[.ws .u64 6 px,.ws .u64 6 py,.ws .u64 6 qx0,.ws .u64 6 qx1,.ws .u64 6 qy0,.ws .u64 6 qy1,.ws .u64 6 tx0,.ws .u64 6 tx1,.ws .u64 6 ty0,.ws .u64 6 ty1,.ws .u64 6 f0,.ws .u64 6 f1,.ws .u64 6 f2,.ws .u64 6 f3,.ws .u64 6 f4,.ws .u64 6 f5,.ws .u64 6 f6,.ws .u64 6 f7,.ws .u64 6 f8,.ws .u64 6 f9,.ws .u64 6 f10,.ws .u64 6 f11],0,0⟩=>match Nat.beq t0 167 with
   | true=>some ([nv px < pN,nv py < pN,nv qx0 < pN,nv qx1 < pN,nv qy0 < pN,nv qy1 < pN,nv tx0 < pN,nv tx1 < pN,nv ty0 < pN,nv ty1 < pN,nv f0 < pN,nv f1 < pN,nv f2 < pN,nv f3 < pN,nv f4 < pN,nv f5 < pN,nv f6 < pN,nv f7 < pN,nv f8 < pN,nv f9 < pN,nv f10 < pN,nv f11 < pN],.tup [],hset h b ⟨167,[.ws .u64 6 px,.ws .u64 6 py,.ws .u64 6 qx0,.ws .u64 6 qx1,.ws .u64 6 qy0,.ws .u64 6 qy1,.ws .u64 6 (eF ((adW (dF px) (dF py) (⟨dF qx0,dF qx1⟩:F2p) (⟨dF qy0,dF qy1⟩:F2p) (⟨(⟨dF tx0,dF tx1⟩:F2p),(⟨dF ty0,dF ty1⟩:F2p),(d12 f0 f1 f2 f3 f4 f5 f6 f7 f8 f9 f10 f11)⟩:WS)).tx).x),.ws .u64 6 (eF ((adW (dF px) (dF py) (⟨dF qx0,dF qx1⟩:F2p) (⟨dF qy0,dF qy1⟩:F2p) (⟨(⟨dF tx0,dF tx1⟩:F2p),(⟨dF ty0,dF ty1⟩:F2p),(d12 f0 f1 f2 f3 f4 f5 f6 f7 f8 f9 f10 f11)⟩:WS)).tx).y),.ws .u64 6 (eF ((adW (dF px) (dF py) (⟨dF qx0,dF qx1⟩:F2p) (⟨dF qy0,dF qy1⟩:F2p) (⟨(⟨dF tx0,dF tx1⟩:F2p),(⟨dF ty0,dF ty1⟩:F2p),(d12 f0 f1 f2 f3 f4 f5 f6 f7 f8 f9 f10 f11)⟩:WS)).ty).x),.ws .u64 6 (eF ((adW (dF px) (dF py) (⟨dF qx0,dF qx1⟩:F2p) (⟨dF qy0,dF qy1⟩:F2p) (⟨(⟨dF tx0,dF tx1⟩:F2p),(⟨dF ty0,dF ty1⟩:F2p),(d12 f0 f1 f2 f3 f4 f5 f6 f7 f8 f9 f10 f11)⟩:WS)).ty).y),.ws .u64 6 (eF ((adW (dF px) (dF py) (⟨dF qx0,dF qx1⟩:F2p) (⟨dF qy0,dF qy1⟩:F2p) (⟨(⟨dF tx0,dF tx1⟩:F2p),(⟨dF ty0,dF ty1⟩:F2p),(d12 f0 f1 f2 f3 f4 f5 f6 f7 f8 f9 f10 f11)⟩:WS)).f).p.u.x),.ws .u64 6 (eF ((adW (dF px) (dF py) (⟨dF qx0,dF qx1⟩:F2p) (⟨dF qy0,dF qy1⟩:F2p) (⟨(⟨dF tx0,dF tx1⟩:F2p),(⟨dF ty0,dF ty1⟩:F2p),(d12 f0 f1 f2 f3 f4 f5 f6 f7 f8 f9 f10 f11)⟩:WS)).f).p.u.y),.ws .u64 6 (eF ((adW (dF px) (dF py) (⟨dF qx0,dF qx1⟩:F2p) (⟨dF qy0,dF qy1⟩:F2p) (⟨(⟨dF tx0,dF tx1⟩:F2p),(⟨dF ty0,dF ty1⟩:F2p),(d12 f0 f1 f2 f3 f4 f5 f6 f7 f8 f9 f10 f11)⟩:WS)).f).q.u.x),.ws .u64 6 (eF ((adW (dF px) (dF py) (⟨dF qx0,dF qx1⟩:F2p) (⟨dF qy0,dF qy1⟩:F2p) (⟨(⟨dF tx0,dF tx1⟩:F2p),(⟨dF ty0,dF ty1⟩:F2p),(d12 f0 f1 f2 f3 f4 f5 f6 f7 f8 f9 f10 f11)⟩:WS)).f).q.u.y),.ws .u64 6 (eF ((adW (dF px) (dF py) (⟨dF qx0,dF qx1⟩:F2p) (⟨dF qy0,dF qy1⟩:F2p) (⟨(⟨dF tx0,dF tx1⟩:F2p),(⟨dF ty0,dF ty1⟩:F2p),(d12 f0 f1 f2 f3 f4 f5 f6 f7 f8 f9 f10 f11)⟩:WS)).f).p.v.x),.ws .u64 6 (eF ((adW (dF px) (dF py) (⟨dF qx0,dF qx1⟩:F2p) (⟨dF qy0,dF qy1⟩:F2p) (⟨(⟨dF tx0,dF tx1⟩:F2p),(⟨dF ty0,dF ty1⟩:F2p),(d12 f0 f1 f2 f3 f4 f5 f6 f7 f8 f9 f10 f11)⟩:WS)).f).p.v.y),.ws .u64 6 (eF ((adW (dF px) (dF py) (⟨dF qx0,dF qx1⟩:F2p) (⟨dF qy0,dF qy1⟩:F2p) (⟨(⟨dF tx0,dF tx1⟩:F2p),(⟨dF ty0,dF ty1⟩:F2p),(d12 f0 f1 f2 f3 f4 f5 f6 f7 f8 f9 f10 f11)⟩:WS)).f).q.v.x),.ws .u64 6 (eF ((adW (dF px) (dF py) (⟨dF qx0,dF qx1⟩:F2p) (⟨dF qy0,dF qy1⟩:F2p) (⟨(⟨dF tx0,dF tx1⟩:F2p),(⟨dF ty0,dF ty1⟩:F2p),(d12 f0 f1 f2 f3 f4 f5 f6 f7 f8 f9 f10 f11)⟩:WS)).f).q.v.y),.ws .u64 6 (eF ((adW (dF px) (dF py) (⟨dF qx0,dF qx1⟩:F2p) (⟨dF qy0,dF qy1⟩:F2p) (⟨(⟨dF tx0,dF tx1⟩:F2p),(⟨dF ty0,dF ty1⟩:F2p),(d12 f0 f1 f2 f3 f4 f5 f6 f7 f8 f9 f10 f11)⟩:WS)).f).p.w.x),.ws .u64 6 (eF ((adW (dF px) (dF py) (⟨dF qx0,dF qx1⟩:F2p) (⟨dF qy0,dF qy1⟩:F2p) (⟨(⟨dF tx0,dF tx1⟩:F2p),(⟨dF ty0,dF ty1⟩:F2p),(d12 f0 f1 f2 f3 f4 f5 f6 f7 f8 f9 f10 f11)⟩:WS)).f).p.w.y),.ws .u64 6 (eF ((adW (dF px) (dF py) (⟨dF qx0,dF qx1⟩:F2p) (⟨dF qy0,dF qy1⟩:F2p) (⟨(⟨dF tx0,dF tx1⟩:F2p),(⟨dF ty0,dF ty1⟩:F2p),(d12 f0 f1 f2 f3 f4 f5 f6 f7 f8 f9 f10 f11)⟩:WS)).f).q.w.x),.ws .u64 6 (eF ((adW (dF px) (dF py) (⟨dF qx0,dF qx1⟩:F2p) (⟨dF qy0,dF qy1⟩:F2p) (⟨(⟨dF tx0,dF tx1⟩:F2p),(⟨dF ty0,dF ty1⟩:F2p),(d12 f0 f1 f2 f3 f4 f5 f6 f7 f8 f9 f10 f11)⟩:WS)).f).q.w.y)],0,0⟩)
   | false=>none
  | _=>none
 | _=>none
theorem okAddW:(CallC.mem cAddW).Ok Tryz.prog 132:=by
 intro args h slot pre v h' e hp
 unfold cAddW at e
 split at e
 rotate_left
 ·cases e
 rename_i b
 split at e
 rotate_left
 ·cases e
 rename_i t0 px py qx0 qx1 qy0 qy1 tx0 tx1 ty0 ty1 f0 f1 f2 f3 f4 f5 f6 f7 f8 f9 f10 f11 hb0
 split at e
 rotate_left
 ·cases e
 rename_i hty
 cases e
 simp only [Nat.beq_eq] at hty
 subst hty
 have hpx:nv px < pN:=hp (nv px < pN) (by simp)
 have hpy:nv py < pN:=hp (nv py < pN) (by simp)
 have hqx0:nv qx0 < pN:=hp (nv qx0 < pN) (by simp)
 have hqx1:nv qx1 < pN:=hp (nv qx1 < pN) (by simp)
 have hqy0:nv qy0 < pN:=hp (nv qy0 < pN) (by simp)
 have hqy1:nv qy1 < pN:=hp (nv qy1 < pN) (by simp)
 have htx0:nv tx0 < pN:=hp (nv tx0 < pN) (by simp)
 have htx1:nv tx1 < pN:=hp (nv tx1 < pN) (by simp)
 have hty0:nv ty0 < pN:=hp (nv ty0 < pN) (by simp)
 have hty1:nv ty1 < pN:=hp (nv ty1 < pN) (by simp)
 have hf0:nv f0 < pN:=hp (nv f0 < pN) (by simp)
 have hf1:nv f1 < pN:=hp (nv f1 < pN) (by simp)
 have hf2:nv f2 < pN:=hp (nv f2 < pN) (by simp)
 have hf3:nv f3 < pN:=hp (nv f3 < pN) (by simp)
 have hf4:nv f4 < pN:=hp (nv f4 < pN) (by simp)
 have hf5:nv f5 < pN:=hp (nv f5 < pN) (by simp)
 have hf6:nv f6 < pN:=hp (nv f6 < pN) (by simp)
 have hf7:nv f7 < pN:=hp (nv f7 < pN) (by simp)
 have hf8:nv f8 < pN:=hp (nv f8 < pN) (by simp)
 have hf9:nv f9 < pN:=hp (nv f9 < pN) (by simp)
 have hf10:nv f10 < pN:=hp (nv f10 < pN) (by simp)
 have hf11:nv f11 < pN:=hp (nv f11 < pN) (by simp)
 have hl:=hget_lt hb0
 refine mem_walk tt_ok Tryz.func132 (by kernel_rfl) (by kernel_rfl) [b] [] slot [some ⟨167,[.ws .u64 6 px,.ws .u64 6 py,.ws .u64 6 qx0,.ws .u64 6 qx1,.ws .u64 6 qy0,.ws .u64 6 qy1,.ws .u64 6 tx0,.ws .u64 6 tx1,.ws .u64 6 ty0,.ws .u64 6 ty1,.ws .u64 6 f0,.ws .u64 6 f1,.ws .u64 6 f2,.ws .u64 6 f3,.ws .u64 6 f4,.ws .u64 6 f5,.ws .u64 6 f6,.ws .u64 6 f7,.ws .u64 6 f8,.ws .u64 6 f9,.ws .u64 6 f10,.ws .u64 6 f11],0,0⟩] [some ⟨167,[.ws .u64 6 px,.ws .u64 6 py,.ws .u64 6 qx0,.ws .u64 6 qx1,.ws .u64 6 qy0,.ws .u64 6 qy1,.ws .u64 6 (eF ((adW (dF px) (dF py) (⟨dF qx0,dF qx1⟩:F2p) (⟨dF qy0,dF qy1⟩:F2p) (⟨(⟨dF tx0,dF tx1⟩:F2p),(⟨dF ty0,dF ty1⟩:F2p),(d12 f0 f1 f2 f3 f4 f5 f6 f7 f8 f9 f10 f11)⟩:WS)).tx).x),.ws .u64 6 (eF ((adW (dF px) (dF py) (⟨dF qx0,dF qx1⟩:F2p) (⟨dF qy0,dF qy1⟩:F2p) (⟨(⟨dF tx0,dF tx1⟩:F2p),(⟨dF ty0,dF ty1⟩:F2p),(d12 f0 f1 f2 f3 f4 f5 f6 f7 f8 f9 f10 f11)⟩:WS)).tx).y),.ws .u64 6 (eF ((adW (dF px) (dF py) (⟨dF qx0,dF qx1⟩:F2p) (⟨dF qy0,dF qy1⟩:F2p) (⟨(⟨dF tx0,dF tx1⟩:F2p),(⟨dF ty0,dF ty1⟩:F2p),(d12 f0 f1 f2 f3 f4 f5 f6 f7 f8 f9 f10 f11)⟩:WS)).ty).x),.ws .u64 6 (eF ((adW (dF px) (dF py) (⟨dF qx0,dF qx1⟩:F2p) (⟨dF qy0,dF qy1⟩:F2p) (⟨(⟨dF tx0,dF tx1⟩:F2p),(⟨dF ty0,dF ty1⟩:F2p),(d12 f0 f1 f2 f3 f4 f5 f6 f7 f8 f9 f10 f11)⟩:WS)).ty).y),.ws .u64 6 (eF ((adW (dF px) (dF py) (⟨dF qx0,dF qx1⟩:F2p) (⟨dF qy0,dF qy1⟩:F2p) (⟨(⟨dF tx0,dF tx1⟩:F2p),(⟨dF ty0,dF ty1⟩:F2p),(d12 f0 f1 f2 f3 f4 f5 f6 f7 f8 f9 f10 f11)⟩:WS)).f).p.u.x),.ws .u64 6 (eF ((adW (dF px) (dF py) (⟨dF qx0,dF qx1⟩:F2p) (⟨dF qy0,dF qy1⟩:F2p) (⟨(⟨dF tx0,dF tx1⟩:F2p),(⟨dF ty0,dF ty1⟩:F2p),(d12 f0 f1 f2 f3 f4 f5 f6 f7 f8 f9 f10 f11)⟩:WS)).f).p.u.y),.ws .u64 6 (eF ((adW (dF px) (dF py) (⟨dF qx0,dF qx1⟩:F2p) (⟨dF qy0,dF qy1⟩:F2p) (⟨(⟨dF tx0,dF tx1⟩:F2p),(⟨dF ty0,dF ty1⟩:F2p),(d12 f0 f1 f2 f3 f4 f5 f6 f7 f8 f9 f10 f11)⟩:WS)).f).q.u.x),.ws .u64 6 (eF ((adW (dF px) (dF py) (⟨dF qx0,dF qx1⟩:F2p) (⟨dF qy0,dF qy1⟩:F2p) (⟨(⟨dF tx0,dF tx1⟩:F2p),(⟨dF ty0,dF ty1⟩:F2p),(d12 f0 f1 f2 f3 f4 f5 f6 f7 f8 f9 f10 f11)⟩:WS)).f).q.u.y),.ws .u64 6 (eF ((adW (dF px) (dF py) (⟨dF qx0,dF qx1⟩:F2p) (⟨dF qy0,dF qy1⟩:F2p) (⟨(⟨dF tx0,dF tx1⟩:F2p),(⟨dF ty0,dF ty1⟩:F2p),(d12 f0 f1 f2 f3 f4 f5 f6 f7 f8 f9 f10 f11)⟩:WS)).f).p.v.x),.ws .u64 6 (eF ((adW (dF px) (dF py) (⟨dF qx0,dF qx1⟩:F2p) (⟨dF qy0,dF qy1⟩:F2p) (⟨(⟨dF tx0,dF tx1⟩:F2p),(⟨dF ty0,dF ty1⟩:F2p),(d12 f0 f1 f2 f3 f4 f5 f6 f7 f8 f9 f10 f11)⟩:WS)).f).p.v.y),.ws .u64 6 (eF ((adW (dF px) (dF py) (⟨dF qx0,dF qx1⟩:F2p) (⟨dF qy0,dF qy1⟩:F2p) (⟨(⟨dF tx0,dF tx1⟩:F2p),(⟨dF ty0,dF ty1⟩:F2p),(d12 f0 f1 f2 f3 f4 f5 f6 f7 f8 f9 f10 f11)⟩:WS)).f).q.v.x),.ws .u64 6 (eF ((adW (dF px) (dF py) (⟨dF qx0,dF qx1⟩:F2p) (⟨dF qy0,dF qy1⟩:F2p) (⟨(⟨dF tx0,dF tx1⟩:F2p),(⟨dF ty0,dF ty1⟩:F2p),(d12 f0 f1 f2 f3 f4 f5 f6 f7 f8 f9 f10 f11)⟩:WS)).f).q.v.y),.ws .u64 6 (eF ((adW (dF px) (dF py) (⟨dF qx0,dF qx1⟩:F2p) (⟨dF qy0,dF qy1⟩:F2p) (⟨(⟨dF tx0,dF tx1⟩:F2p),(⟨dF ty0,dF ty1⟩:F2p),(d12 f0 f1 f2 f3 f4 f5 f6 f7 f8 f9 f10 f11)⟩:WS)).f).p.w.x),.ws .u64 6 (eF ((adW (dF px) (dF py) (⟨dF qx0,dF qx1⟩:F2p) (⟨dF qy0,dF qy1⟩:F2p) (⟨(⟨dF tx0,dF tx1⟩:F2p),(⟨dF ty0,dF ty1⟩:F2p),(d12 f0 f1 f2 f3 f4 f5 f6 f7 f8 f9 f10 f11)⟩:WS)).f).p.w.y),.ws .u64 6 (eF ((adW (dF px) (dF py) (⟨dF qx0,dF qx1⟩:F2p) (⟨dF qy0,dF qy1⟩:F2p) (⟨(⟨dF tx0,dF tx1⟩:F2p),(⟨dF ty0,dF ty1⟩:F2p),(d12 f0 f1 f2 f3 f4 f5 f6 f7 f8 f9 f10 f11)⟩:WS)).f).q.w.x),.ws .u64 6 (eF ((adW (dF px) (dF py) (⟨dF qx0,dF qx1⟩:F2p) (⟨dF qy0,dF qy1⟩:F2p) (⟨(⟨dF tx0,dF tx1⟩:F2p),(⟨dF ty0,dF ty1⟩:F2p),(d12 f0 f1 f2 f3 f4 f5 f6 f7 f8 f9 f10 f11)⟩:WS)).f).q.w.y)],0,0⟩] (args':=[pt 0 0]) (vK:=.tup [])
  (by kernel_rfl) ?_ (by kernel_rfl) ?_ (by kernel_rfl) (fun i hi=>?_) (by kernel_rfl) (by kernel_rfl) (fun i hi=>?_) (by kernel_rfl) ?_ rfl (fun t ht=>by simp at ht) (fun i hi _=>?_) ?_
 ·show [pickB _ (hget h b)] = _
  rw [hb0];rfl
 ·show [AV.v1 (.sc (.pt (bk [b] b) 0))] = _
  rw [bk_one]
 ·have:i = 0:=by simpa using hi
  subst this;exact ⟨_,rfl,by simp⟩
 ·have:i = 0:=by simpa using hi
  subst this;exact ⟨_,rfl⟩
 ·show [pickB _ (hget (hset h b _) b)] = _
  rw [hget_hset_same hl];rfl
 ·exact hget_hset_ne fun e=>hi 0 (by simp) e.symm
 ·skip
  obtain ⟨t1,ht1⟩:∃ q_:F2p,q_ = (⟨dF qy0,dF qy1⟩:F2p) - (⟨dF ty0,dF ty1⟩:F2p):=⟨_,rfl⟩
  obtain ⟨t2,ht2⟩:∃ q_:F2p,q_ = (⟨dF qx0,dF qx1⟩:F2p) - (⟨dF tx0,dF tx1⟩:F2p):=⟨_,rfl⟩
  obtain ⟨t3,ht3⟩:∃ q_:F2p,q_ = slS t1 t2:=⟨_,rfl⟩
  have hm:(⟨dF (eF t3.x),dF (eF t3.y)⟩:F2p) = t3:=by rw [dF_eF,dF_eF]
  have hX:(stX (⟨dF tx0,dF tx1⟩:F2p) (⟨dF (eF t3.x),dF (eF t3.y)⟩:F2p) (⟨dF qx0,dF qx1⟩:F2p)) = (adW (dF px) (dF py) (⟨dF qx0,dF qx1⟩:F2p) (⟨dF qy0,dF qy1⟩:F2p) (⟨(⟨dF tx0,dF tx1⟩:F2p),(⟨dF ty0,dF ty1⟩:F2p),(d12 f0 f1 f2 f3 f4 f5 f6 f7 f8 f9 f10 f11)⟩:WS)).tx:=by rw [hm];subst ht3 ht2 ht1;rfl
  have hY:(stY (⟨dF tx0,dF tx1⟩:F2p) (⟨dF ty0,dF ty1⟩:F2p) (⟨dF (eF t3.x),dF (eF t3.y)⟩:F2p) (⟨dF qx0,dF qx1⟩:F2p)) = (adW (dF px) (dF py) (⟨dF qx0,dF qx1⟩:F2p) (⟨dF qy0,dF qy1⟩:F2p) (⟨(⟨dF tx0,dF tx1⟩:F2p),(⟨dF ty0,dF ty1⟩:F2p),(d12 f0 f1 f2 f3 f4 f5 f6 f7 f8 f9 f10 f11)⟩:WS)).ty:=by rw [hm];subst ht3 ht2 ht1;rfl
  have hF:((d12 f0 f1 f2 f3 f4 f5 f6 f7 f8 f9 f10 f11) * lnS (dF px) (dF py) (⟨dF tx0,dF tx1⟩:F2p) (⟨dF ty0,dF ty1⟩:F2p) (⟨dF (eF t3.x),dF (eF t3.y)⟩:F2p)) = (adW (dF px) (dF py) (⟨dF qx0,dF qx1⟩:F2p) (⟨dF qy0,dF qy1⟩:F2p) (⟨(⟨dF tx0,dF tx1⟩:F2p),(⟨dF ty0,dF ty1⟩:F2p),(d12 f0 f1 f2 f3 f4 f5 f6 f7 f8 f9 f10 f11)⟩:WS)).f:=by rw [hm];subst ht3 ht2 ht1;rfl
  refine evS_q mixed tt_ok GTwW_ok 300 [⟨0,8,.as [.ws .u64 6 (eF t1.x),.ws .u64 6 (eF t1.y)]⟩,⟨0,17,.as [.ws .u64 6 (eF t2.x),.ws .u64 6 (eF t2.y)]⟩,⟨0,18,.as [.ws .u64 6 (eF t3.x),.ws .u64 6 (eF t3.y)]⟩] ?_
  refine same (p:=asP [.ws .u64 6 (eF (sub2x (dF qy0) (dF qy1) (dF ty0) (dF ty1))),.ws .u64 6 (eF (sub2y (dF qy0) (dF qy1) (dF ty0) (dF ty1)))] [.ws .u64 6 (eF t1.x),.ws .u64 6 (eF t1.y)]/\nv qy0 < pN/\nv qy1 < pN/\nv ty0 < pN/\nv ty1 < pN/\asP [.ws .u64 6 (eF (sub2x (dF qx0) (dF qx1) (dF tx0) (dF tx1))),.ws .u64 6 (eF (sub2y (dF qx0) (dF qx1) (dF tx0) (dF tx1)))] [.ws .u64 6 (eF t2.x),.ws .u64 6 (eF t2.y)]/\nv qx0 < pN/\nv qx1 < pN/\nv tx0 < pN/\nv tx1 < pN/\asP [.ws .u64 6 (eF (slS (⟨dF (eF t1.x),dF (eF t1.y)⟩:F2p) (⟨dF (eF t2.x),dF (eF t2.y)⟩:F2p)).x),.ws .u64 6 (eF (slS (⟨dF (eF t1.x),dF (eF t1.y)⟩:F2p) (⟨dF (eF t2.x),dF (eF t2.y)⟩:F2p)).y)] [.ws .u64 6 (eF t3.x),.ws .u64 6 (eF t3.y)]/\nv (eF t1.x) < pN/\nv (eF t1.y) < pN/\nv (eF t2.x) < pN/\nv (eF t2.y) < pN/\nv px < pN/\nv py < pN/\nv tx0 < pN/\nv tx1 < pN/\nv ty0 < pN/\nv ty1 < pN/\nv f0 < pN/\nv f1 < pN/\nv f2 < pN/\nv f3 < pN/\nv f4 < pN/\nv f5 < pN/\nv f6 < pN/\nv f7 < pN/\nv f8 < pN/\nv f9 < pN/\nv f10 < pN/\nv f11 < pN/\nv (eF t3.x) < pN/\nv (eF t3.y) < pN/\nv tx0 < pN/\nv tx1 < pN/\nv ty0 < pN/\nv ty1 < pN/\nv (eF t3.x) < pN/\nv (eF t3.y) < pN/\nv qx0 < pN/\nv qx1 < pN/\endW 167 [.ws .u64 6 px,.ws .u64 6 py,.ws .u64 6 qx0,.ws .u64 6 qx1,.ws .u64 6 qy0,.ws .u64 6 qy1,.ws .u64 6 (eF ((stX (⟨dF tx0,dF tx1⟩:F2p) (⟨dF (eF t3.x),dF (eF t3.y)⟩:F2p) (⟨dF qx0,dF qx1⟩:F2p))).x),.ws .u64 6 (eF ((stX (⟨dF tx0,dF tx1⟩:F2p) (⟨dF (eF t3.x),dF (eF t3.y)⟩:F2p) (⟨dF qx0,dF qx1⟩:F2p))).y),.ws .u64 6 (eF ((stY (⟨dF tx0,dF tx1⟩:F2p) (⟨dF ty0,dF ty1⟩:F2p) (⟨dF (eF t3.x),dF (eF t3.y)⟩:F2p) (⟨dF qx0,dF qx1⟩:F2p))).x),.ws .u64 6 (eF ((stY (⟨dF tx0,dF tx1⟩:F2p) (⟨dF ty0,dF ty1⟩:F2p) (⟨dF (eF t3.x),dF (eF t3.y)⟩:F2p) (⟨dF qx0,dF qx1⟩:F2p))).y),.ws .u64 6 (eF (((d12 f0 f1 f2 f3 f4 f5 f6 f7 f8 f9 f10 f11) * lnS (dF px) (dF py) (⟨dF tx0,dF tx1⟩:F2p) (⟨dF ty0,dF ty1⟩:F2p) (⟨dF (eF t3.x),dF (eF t3.y)⟩:F2p))).p.u.x),.ws .u64 6 (eF (((d12 f0 f1 f2 f3 f4 f5 f6 f7 f8 f9 f10 f11) * lnS (dF px) (dF py) (⟨dF tx0,dF tx1⟩:F2p) (⟨dF ty0,dF ty1⟩:F2p) (⟨dF (eF t3.x),dF (eF t3.y)⟩:F2p))).p.u.y),.ws .u64 6 (eF (((d12 f0 f1 f2 f3 f4 f5 f6 f7 f8 f9 f10 f11) * lnS (dF px) (dF py) (⟨dF tx0,dF tx1⟩:F2p) (⟨dF ty0,dF ty1⟩:F2p) (⟨dF (eF t3.x),dF (eF t3.y)⟩:F2p))).q.u.x),.ws .u64 6 (eF (((d12 f0 f1 f2 f3 f4 f5 f6 f7 f8 f9 f10 f11) * lnS (dF px) (dF py) (⟨dF tx0,dF tx1⟩:F2p) (⟨dF ty0,dF ty1⟩:F2p) (⟨dF (eF t3.x),dF (eF t3.y)⟩:F2p))).q.u.y),.ws .u64 6 (eF (((d12 f0 f1 f2 f3 f4 f5 f6 f7 f8 f9 f10 f11) * lnS (dF px) (dF py) (⟨dF tx0,dF tx1⟩:F2p) (⟨dF ty0,dF ty1⟩:F2p) (⟨dF (eF t3.x),dF (eF t3.y)⟩:F2p))).p.v.x),.ws .u64 6 (eF (((d12 f0 f1 f2 f3 f4 f5 f6 f7 f8 f9 f10 f11) * lnS (dF px) (dF py) (⟨dF tx0,dF tx1⟩:F2p) (⟨dF ty0,dF ty1⟩:F2p) (⟨dF (eF t3.x),dF (eF t3.y)⟩:F2p))).p.v.y),.ws .u64 6 (eF (((d12 f0 f1 f2 f3 f4 f5 f6 f7 f8 f9 f10 f11) * lnS (dF px) (dF py) (⟨dF tx0,dF tx1⟩:F2p) (⟨dF ty0,dF ty1⟩:F2p) (⟨dF (eF t3.x),dF (eF t3.y)⟩:F2p))).q.v.x),.ws .u64 6 (eF (((d12 f0 f1 f2 f3 f4 f5 f6 f7 f8 f9 f10 f11) * lnS (dF px) (dF py) (⟨dF tx0,dF tx1⟩:F2p) (⟨dF ty0,dF ty1⟩:F2p) (⟨dF (eF t3.x),dF (eF t3.y)⟩:F2p))).q.v.y),.ws .u64 6 (eF (((d12 f0 f1 f2 f3 f4 f5 f6 f7 f8 f9 f10 f11) * lnS (dF px) (dF py) (⟨dF tx0,dF tx1⟩:F2p) (⟨dF ty0,dF ty1⟩:F2p) (⟨dF (eF t3.x),dF (eF t3.y)⟩:F2p))).p.w.x),.ws .u64 6 (eF (((d12 f0 f1 f2 f3 f4 f5 f6 f7 f8 f9 f10 f11) * lnS (dF px) (dF py) (⟨dF tx0,dF tx1⟩:F2p) (⟨dF ty0,dF ty1⟩:F2p) (⟨dF (eF t3.x),dF (eF t3.y)⟩:F2p))).p.w.y),.ws .u64 6 (eF (((d12 f0 f1 f2 f3 f4 f5 f6 f7 f8 f9 f10 f11) * lnS (dF px) (dF py) (⟨dF tx0,dF tx1⟩:F2p) (⟨dF ty0,dF ty1⟩:F2p) (⟨dF (eF t3.x),dF (eF t3.y)⟩:F2p))).q.w.x),.ws .u64 6 (eF (((d12 f0 f1 f2 f3 f4 f5 f6 f7 f8 f9 f10 f11) * lnS (dF px) (dF py) (⟨dF tx0,dF tx1⟩:F2p) (⟨dF ty0,dF ty1⟩:F2p) (⟨dF (eF t3.x),dF (eF t3.y)⟩:F2p))).q.w.y)] [.ws .u64 6 px,.ws .u64 6 py,.ws .u64 6 qx0,.ws .u64 6 qx1,.ws .u64 6 qy0,.ws .u64 6 qy1,.ws .u64 6 (eF ((adW (dF px) (dF py) (⟨dF qx0,dF qx1⟩:F2p) (⟨dF qy0,dF qy1⟩:F2p) (⟨(⟨dF tx0,dF tx1⟩:F2p),(⟨dF ty0,dF ty1⟩:F2p),(d12 f0 f1 f2 f3 f4 f5 f6 f7 f8 f9 f10 f11)⟩:WS)).tx).x),.ws .u64 6 (eF ((adW (dF px) (dF py) (⟨dF qx0,dF qx1⟩:F2p) (⟨dF qy0,dF qy1⟩:F2p) (⟨(⟨dF tx0,dF tx1⟩:F2p),(⟨dF ty0,dF ty1⟩:F2p),(d12 f0 f1 f2 f3 f4 f5 f6 f7 f8 f9 f10 f11)⟩:WS)).tx).y),.ws .u64 6 (eF ((adW (dF px) (dF py) (⟨dF qx0,dF qx1⟩:F2p) (⟨dF qy0,dF qy1⟩:F2p) (⟨(⟨dF tx0,dF tx1⟩:F2p),(⟨dF ty0,dF ty1⟩:F2p),(d12 f0 f1 f2 f3 f4 f5 f6 f7 f8 f9 f10 f11)⟩:WS)).ty).x),.ws .u64 6 (eF ((adW (dF px) (dF py) (⟨dF qx0,dF qx1⟩:F2p) (⟨dF qy0,dF qy1⟩:F2p) (⟨(⟨dF tx0,dF tx1⟩:F2p),(⟨dF ty0,dF ty1⟩:F2p),(d12 f0 f1 f2 f3 f4 f5 f6 f7 f8 f9 f10 f11)⟩:WS)).ty).y),.ws .u64 6 (eF ((adW (dF px) (dF py) (⟨dF qx0,dF qx1⟩:F2p) (⟨dF qy0,dF qy1⟩:F2p) (⟨(⟨dF tx0,dF tx1⟩:F2p),(⟨dF ty0,dF ty1⟩:F2p),(d12 f0 f1 f2 f3 f4 f5 f6 f7 f8 f9 f10 f11)⟩:WS)).f).p.u.x),.ws .u64 6 (eF ((adW (dF px) (dF py) (⟨dF qx0,dF qx1⟩:F2p) (⟨dF qy0,dF qy1⟩:F2p) (⟨(⟨dF tx0,dF tx1⟩:F2p),(⟨dF ty0,dF ty1⟩:F2p),(d12 f0 f1 f2 f3 f4 f5 f6 f7 f8 f9 f10 f11)⟩:WS)).f).p.u.y),.ws .u64 6 (eF ((adW (dF px) (dF py) (⟨dF qx0,dF qx1⟩:F2p) (⟨dF qy0,dF qy1⟩:F2p) (⟨(⟨dF tx0,dF tx1⟩:F2p),(⟨dF ty0,dF ty1⟩:F2p),(d12 f0 f1 f2 f3 f4 f5 f6 f7 f8 f9 f10 f11)⟩:WS)).f).q.u.x),.ws .u64 6 (eF ((adW (dF px) (dF py) (⟨dF qx0,dF qx1⟩:F2p) (⟨dF qy0,dF qy1⟩:F2p) (⟨(⟨dF tx0,dF tx1⟩:F2p),(⟨dF ty0,dF ty1⟩:F2p),(d12 f0 f1 f2 f3 f4 f5 f6 f7 f8 f9 f10 f11)⟩:WS)).f).q.u.y),.ws .u64 6 (eF ((adW (dF px) (dF py) (⟨dF qx0,dF qx1⟩:F2p) (⟨dF qy0,dF qy1⟩:F2p) (⟨(⟨dF tx0,dF tx1⟩:F2p),(⟨dF ty0,dF ty1⟩:F2p),(d12 f0 f1 f2 f3 f4 f5 f6 f7 f8 f9 f10 f11)⟩:WS)).f).p.v.x),.ws .u64 6 (eF ((adW (dF px) (dF py) (⟨dF qx0,dF qx1⟩:F2p) (⟨dF qy0,dF qy1⟩:F2p) (⟨(⟨dF tx0,dF tx1⟩:F2p),(⟨dF ty0,dF ty1⟩:F2p),(d12 f0 f1 f2 f3 f4 f5 f6 f7 f8 f9 f10 f11)⟩:WS)).f).p.v.y),.ws .u64 6 (eF ((adW (dF px) (dF py) (⟨dF qx0,dF qx1⟩:F2p) (⟨dF qy0,dF qy1⟩:F2p) (⟨(⟨dF tx0,dF tx1⟩:F2p),(⟨dF ty0,dF ty1⟩:F2p),(d12 f0 f1 f2 f3 f4 f5 f6 f7 f8 f9 f10 f11)⟩:WS)).f).q.v.x),.ws .u64 6 (eF ((adW (dF px) (dF py) (⟨dF qx0,dF qx1⟩:F2p) (⟨dF qy0,dF qy1⟩:F2p) (⟨(⟨dF tx0,dF tx1⟩:F2p),(⟨dF ty0,dF ty1⟩:F2p),(d12 f0 f1 f2 f3 f4 f5 f6 f7 f8 f9 f10 f11)⟩:WS)).f).q.v.y),.ws .u64 6 (eF ((adW (dF px) (dF py) (⟨dF qx0,dF qx1⟩:F2p) (⟨dF qy0,dF qy1⟩:F2p) (⟨(⟨dF tx0,dF tx1⟩:F2p),(⟨dF ty0,dF ty1⟩:F2p),(d12 f0 f1 f2 f3 f4 f5 f6 f7 f8 f9 f10 f11)⟩:WS)).f).p.w.x),.ws .u64 6 (eF ((adW (dF px) (dF py) (⟨dF qx0,dF qx1⟩:F2p) (⟨dF qy0,dF qy1⟩:F2p) (⟨(⟨dF tx0,dF tx1⟩:F2p),(⟨dF ty0,dF ty1⟩:F2p),(d12 f0 f1 f2 f3 f4 f5 f6 f7 f8 f9 f10 f11)⟩:WS)).f).p.w.y),.ws .u64 6 (eF ((adW (dF px) (dF py) (⟨dF qx0,dF qx1⟩:F2p) (⟨dF qy0,dF qy1⟩:F2p) (⟨(⟨dF tx0,dF tx1⟩:F2p),(⟨dF ty0,dF ty1⟩:F2p),(d12 f0 f1 f2 f3 f4 f5 f6 f7 f8 f9 f10 f11)⟩:WS)).f).q.w.x),.ws .u64 6 (eF ((adW (dF px) (dF py) (⟨dF qx0,dF qx1⟩:F2p) (⟨dF qy0,dF qy1⟩:F2p) (⟨(⟨dF tx0,dF tx1⟩:F2p),(⟨dF ty0,dF ty1⟩:F2p),(d12 f0 f1 f2 f3 f4 f5 f6 f7 f8 f9 f10 f11)⟩:WS)).f).q.w.y)]) ?_ (by kernel_rfl)
  exact ⟨as_subQ rfl rfl rfl rfl ht1,hqy0,hqy1,hty0,hty1,as_subQ rfl rfl rfl rfl ht2,hqx0,hqx1,htx0,htx1,as_slQ (dF_eF _) (dF_eF _) (dF_eF _) (dF_eF _) ht3,lt_eF _,lt_eF _,lt_eF _,lt_eF _,hpx,hpy,htx0,htx1,hty0,hty1,hf0,hf1,hf2,hf3,hf4,hf5,hf6,hf7,hf8,hf9,hf10,hf11,lt_eF _,lt_eF _,htx0,htx1,hty0,hty1,lt_eF _,lt_eF _,hqx0,hqx1,endW_of (cv_cons rfl (cv_cons rfl (cv_cons rfl (cv_cons rfl (cv_cons rfl (cv_cons rfl (cv_cons (nv_tx hX) (cv_cons (nv_ty hX) (cv_cons (nv_tx hY) (cv_cons (nv_ty hY) (cv_cons (congrArg (fun q:S12=>nv (eF q.p.u.x)) hF) (cv_cons (congrArg (fun q:S12=>nv (eF q.p.u.y)) hF) (cv_cons (congrArg (fun q:S12=>nv (eF q.q.u.x)) hF) (cv_cons (congrArg (fun q:S12=>nv (eF q.q.u.y)) hF) (cv_cons (congrArg (fun q:S12=>nv (eF q.p.v.x)) hF) (cv_cons (congrArg (fun q:S12=>nv (eF q.p.v.y)) hF) (cv_cons (congrArg (fun q:S12=>nv (eF q.q.v.x)) hF) (cv_cons (congrArg (fun q:S12=>nv (eF q.q.v.y)) hF) (cv_cons (congrArg (fun q:S12=>nv (eF q.p.w.x)) hF) (cv_cons (congrArg (fun q:S12=>nv (eF q.p.w.y)) hF) (cv_cons (congrArg (fun q:S12=>nv (eF q.q.w.x)) hF) (cv_cons (congrArg (fun q:S12=>nv (eF q.q.w.y)) hF) (cv_nil)))))))))))))))))))))))⟩
end Go.Proofs.YtnjocbcjejpklaaGreat
namespace Go.Proofs.YtnjocbcjejpklaaGreat
open Go.Rq Go
set_option maxRecDepth 100000
set_option linter.unusedVariables false
set_option linter.unusedSimpArgs false
set_option maxHeartbeats 4000000
set_option maxRecDepth 100000
def of16 (a0 a1 a2 a3 a4 a5 a6 a7 a8 a9 a10 a11 a12 a13 a14 a15:Nat->Nat):Nat->Nat->Nat
 | 0=>a0
 | 1=>a1
 | 2=>a2
 | 3=>a3
 | 4=>a4
 | 5=>a5
 | 6=>a6
 | 7=>a7
 | 8=>a8
 | 9=>a9
 | 10=>a10
 | 11=>a11
 | 12=>a12
 | 13=>a13
 | 14=>a14
 | _=>a15
def JvW (g:Nat->Nat->Nat):WS:=⟨⟨dF (g 0),dF (g 1)⟩,⟨dF (g 2),dF (g 3)⟩,d12 (g 4) (g 5) (g 6) (g 7) (g 8) (g 9) (g 10) (g 11) (g 12) (g 13) (g 14) (g 15)⟩
def selW (s:WS):Nat->Nat->Nat:=of16 (eF s.tx.x) (eF s.tx.y) (eF s.ty.x) (eF s.ty.y) (eF s.f.p.u.x) (eF s.f.p.u.y) (eF s.f.q.u.x) (eF s.f.q.u.y) (eF s.f.p.v.x) (eF s.f.p.v.y) (eF s.f.q.v.x) (eF s.f.q.v.y) (eF s.f.p.w.x) (eF s.f.p.w.y) (eF s.f.q.w.x) (eF s.f.q.w.y)
theorem JvW_sel (s:WS):JvW (selW s) = s:=by
 show (⟨⟨dF (eF s.tx.x),dF (eF s.tx.y)⟩,⟨dF (eF s.ty.x),dF (eF s.ty.y)⟩,d12 (eF s.f.p.u.x) (eF s.f.p.u.y) (eF s.f.q.u.x) (eF s.f.q.u.y) (eF s.f.p.v.x) (eF s.f.p.v.y) (eF s.f.q.v.x) (eF s.f.q.v.y) (eF s.f.p.w.x) (eF s.f.p.w.y) (eF s.f.q.w.x) (eF s.f.q.w.y)⟩:WS) = s
 rw [dF_eF,dF_eF,dF_eF,dF_eF,d12_eF]
def LtW (g:Nat->Nat->Nat):Prop:=nv (g 0) < pN/\nv (g 1) < pN/\nv (g 2) < pN/\nv (g 3) < pN/\nv (g 4) < pN/\nv (g 5) < pN/\nv (g 6) < pN/\nv (g 7) < pN/\nv (g 8) < pN/\nv (g 9) < pN/\nv (g 10) < pN/\nv (g 11) < pN/\nv (g 12) < pN/\nv (g 13) < pN/\nv (g 14) < pN/\nv (g 15) < pN
theorem LtW_sel (s:WS):LtW (selW s):=⟨lt_eF _,lt_eF _,lt_eF _,lt_eF _,lt_eF _,lt_eF _,lt_eF _,lt_eF _,lt_eF _,lt_eF _,lt_eF _,lt_eF _,lt_eF _,lt_eF _,lt_eF _,lt_eF _⟩
def wkT (px py:Fp) (qx qy:F2p):Nat->Nat->WS
 | 0,_=>⟨qx,qy,1⟩
 | k + 1,n=>if n % 2 = 1 then adW px py qx qy (twW px py (wkT px py qx qy k (n / 2))) else twW px py (wkT px py qx qy k (n / 2))
def walkS (px py:Fp) (qx qy:F2p):S12:=S12.conj (wkT px py qx qy 63 nU).f
def cWalk:List AV->Option (List Prop × AV)
 | [.v1 (.agg [.ws .u64 6 px,.ws .u64 6 py,.one (.bo z)]),.v1 (.agg [.ws .u64 6 x0,.ws .u64 6 x1,.ws .u64 6 y0,.ws .u64 6 y1,.one (.bo z2)])]=>some ([],.v1 (e12 (walkS (gN px) (gN py) ⟨gN x0,gN x1⟩ ⟨gN y0,gN y1⟩)))
 | _=>none
def GWk:Ctx:=ctxL [(105,.pure cTo),(87,.pure cTo2),(67,.pure (c12 one12)),(22,.pure cOf),(129,.pure cLen),(131,.pure cBit),(89,.pure (k121 S12.conj)),(130,.mem cTwiceW),(132,.mem cAddW)]
theorem GWk_ok:CtxOk Tryz.prog GWk:=ctxL_cons okTo <| ctxL_cons okTo2 <| ctxL_cons okOne12 <| ctxL_cons okOf <| ctxL_cons okLen <| ctxL_cons okBit <| ctxL_cons okConj12 <| ctxL_cons okTwiceW <| ctxL_cons okAddW ctxL_nil
abbrev VWk (k:Nat):List AV:=[pt 2 0,pt 10 0,pt 12 0,iv (predI k)]
abbrev HWk (px py x0 x1 y0 y1:Nat->Nat) (z z2:Bool) (g:Nat->Nat->Nat):Heap:=[some ⟨26,[.ws .u64 6 px,.ws .u64 6 py,.one (.bo z)],0,0⟩,some ⟨30,[.ws .u64 6 x0,.ws .u64 6 x1,.ws .u64 6 y0,.ws .u64 6 y1,.one (.bo z2)],0,0⟩,b12 zz12,none,none,some ⟨69,[.ws .u64 6 (eF (gN x0)),.ws .u64 6 (eF (gN x1))],0,0⟩,some ⟨69,[.ws .u64 6 (eF (gN y0)),.ws .u64 6 (eF (gN y1))],0,0⟩,none,none,none,some ⟨167,[.ws .u64 6 (eF (gN px)),.ws .u64 6 (eF (gN py)),.ws .u64 6 (eF (gN x0)),.ws .u64 6 (eF (gN x1)),.ws .u64 6 (eF (gN y0)),.ws .u64 6 (eF (gN y1)),.ws .u64 6 (g 0),.ws .u64 6 (g 1),.ws .u64 6 (g 2),.ws .u64 6 (g 3),.ws .u64 6 (g 4),.ws .u64 6 (g 5),.ws .u64 6 (g 6),.ws .u64 6 (g 7),.ws .u64 6 (g 8),.ws .u64 6 (g 9),.ws .u64 6 (g 10),.ws .u64 6 (g 11),.ws .u64 6 (g 12),.ws .u64 6 (g 13),.ws .u64 6 (g 14),.ws .u64 6 (g 15)],0,0⟩,none,nb wU,none]
def InvWk (px py:Fp) (qx qy:F2p) (x:Nat × (Nat->Nat->Nat)):Prop:=x.1 <= 63/\LtW x.2/\JvW x.2 = wkT px py qx qy (63 - x.1) (nU / 2 ^ x.1)
abbrev one16 (a b c d:Nat->Nat):Nat->Nat->Nat:=of16 a b c d oneF (fun _=>0) (fun _=>0) (fun _=>0) (fun _=>0) (fun _=>0) (fun _=>0) (fun _=>0) (fun _=>0) (fun _=>0) (fun _=>0) (fun _=>0)
theorem one16_d (a b c d:Nat->Nat):JvW (one16 a b c d) = ⟨⟨dF a,dF b⟩,⟨dF c,dF d⟩,1⟩:=by
 have h:d12 oneF (fun _=>0) (fun _=>0) (fun _=>0) (fun _=>0) (fun _=>0) (fun _=>0) (fun _=>0) (fun _=>0) (fun _=>0) (fun _=>0) (fun _=>0) = 1:=S12.one_d
 show (⟨⟨dF a,dF b⟩,⟨dF c,dF d⟩,d12 oneF (fun _=>0) (fun _=>0) (fun _=>0) (fun _=>0) (fun _=>0) (fun _=>0) (fun _=>0) (fun _=>0) (fun _=>0) (fun _=>0) (fun _=>0)⟩:WS) = _
 rw [h]
theorem okWalk:(CallC.pure cWalk).Ok Tryz.prog 68:=by
 intro args pre v e hp
 unfold cWalk at e
 split at e
 rotate_left
 ·cases e
 rename_i px py z x0 x1 y0 y1 z2
 cases e
 refine pure_walk' tt_ok Tryz.func68 (by kernel_rfl) (by kernel_rfl) (by rfl) (by rfl) ?_
 refine loopF mixed tt_ok GWk_ok (by kernel_rfl) (ι:={x_ // InvWk (dF (eF (gN px))) (dF (eF (gN py))) (⟨dF (eF (gN x0)),dF (eF (gN x1))⟩:F2p) (⟨dF (eF (gN y0)),dF (eF (gN y1))⟩:F2p) x_}) [4,7,8,9] 50 14 (fun x_=>VWk x_.1.1) (fun x_=>HWk px py x0 x1 y0 y1 z z2 x_.1.2) (fun x_=>x_.1.1) (fun x_=>x_.1.1 = 0)
  (fun _=>rfl) (fun _=>by kernel_rfl) (fun _ _ h=>h.elim) 200 [⟨4,2,.lit (.it (predI 63))⟩] ?_ ?_ ?_
 ·refine same (p:=wrapI (Int.ofNat (blen (nv wU)) - 2) = predI 63/\true = true/\∃ j:{x_ // InvWk (dF (eF (gN px))) (dF (eF (gN py))) (⟨dF (eF (gN x0)),dF (eF (gN x1))⟩:F2p) (⟨dF (eF (gN y0)),dF (eF (gN y1))⟩:F2p) x_},VWk 63 = VWk j.1.1/\HWk px py x0 x1 y0 y1 z z2 (one16 (eF (gN x0)) (eF (gN x1)) (eF (gN y0)) (eF (gN y1))) = HWk px py x0 x1 y0 y1 z z2 j.1.2) ?_ (by kernel_rfl)
  refine ⟨by kernel_rfl,rfl,⟨(63,one16 (eF (gN x0)) (eF (gN x1)) (eF (gN y0)) (eF (gN y1))),Nat.le_refl _,⟨lt_eF _,lt_eF _,lt_eF _,lt_eF _,lt_one,lt_zero,lt_zero,lt_zero,lt_zero,lt_zero,lt_zero,lt_zero,lt_zero,lt_zero,lt_zero,lt_zero⟩,?_⟩,rfl,rfl⟩
  simp only
  rw [one16_d];rfl
 ·intro ⟨⟨k,g⟩,hk,hg,hv⟩ junk
  simp only at hk hv
  have hg:LtW g:=hg
  obtain ⟨g0,g1,g2,g3,g4,g5,g6,g7,g8,g9,g10,g11,g12,g13,g14,g15⟩:=hg
  cases k with
  | zero =>
   refine roundF mixed tt_ok GWk_ok 60 [] ?_
   refine same (p:=true = true/\∃ j:{x_ // InvWk (dF (eF (gN px))) (dF (eF (gN py))) (⟨dF (eF (gN x0)),dF (eF (gN x1))⟩:F2p) (⟨dF (eF (gN y0)),dF (eF (gN y1))⟩:F2p) x_},j.1.1 = 0/\VWk 0 = VWk j.1.1/\HWk px py x0 x1 y0 y1 z z2 g = HWk px py x0 x1 y0 y1 z z2 j.1.2) ?_ (by kernel_rfl)
   exact ⟨rfl,⟨(0,g),hk,⟨g0,g1,g2,g3,g4,g5,g6,g7,g8,g9,g10,g11,g12,g13,g14,g15⟩,hv⟩,rfl,rfl,rfl⟩
  | succ k =>
   have hs:wrapI (Int.ofNat k - 1) = predI k:=predI_eq (by omega)
   have hhalf:nU / 2 ^ k / 2 = nU / 2 ^ (k + 1):=by rw [Nat.div_div_eq_div_mul,Nat.pow_succ]
   have hnext:63 - k = (63 - (k + 1)) + 1:=by omega
   have next:∀ J:WS,J = wkT (dF (eF (gN px))) (dF (eF (gN py))) (⟨dF (eF (gN x0)),dF (eF (gN x1))⟩:F2p) (⟨dF (eF (gN y0)),dF (eF (gN y1))⟩:F2p) (63 - k) (nU / 2 ^ k)->∃ j:{x_ // InvWk (dF (eF (gN px))) (dF (eF (gN py))) (⟨dF (eF (gN x0)),dF (eF (gN x1))⟩:F2p) (⟨dF (eF (gN y0)),dF (eF (gN y1))⟩:F2p) x_},j.1.1 < k + 1/\VWk k = VWk j.1.1/\HWk px py x0 x1 y0 y1 z z2 (selW J) = HWk px py x0 x1 y0 y1 z z2 j.1.2 :=
    fun J h'=>⟨⟨(k,selW J),by simp only;omega,LtW_sel J,by simp only;rw [JvW_sel,h']⟩,by simp only;omega,rfl,rfl⟩
   have hbit:nU / 2 ^ k % 2 = 0∨nU / 2 ^ k % 2 = 1:=by omega
   rcases hbit with h0 | h0
   ·refine roundF mixed tt_ok GWk_ok 100 [⟨5,1,.lit (.bo true)⟩,⟨8,3,.lit (.bo false)⟩,⟨6,1,.lit (.it (predI k))⟩] ?_
    refine same (p:=(!ilt (Int.ofNat k) 0) = true/\nv (eF (gN px)) < pN/\nv (eF (gN py)) < pN/\nv (g 0) < pN/\nv (g 1) < pN/\nv (g 2) < pN/\nv (g 3) < pN/\nv (g 4) < pN/\nv (g 5) < pN/\nv (g 6) < pN/\nv (g 7) < pN/\nv (g 8) < pN/\nv (g 9) < pN/\nv (g 10) < pN/\nv (g 11) < pN/\nv (g 12) < pN/\nv (g 13) < pN/\nv (g 14) < pN/\nv (g 15) < pN/\ieq (Int.ofNat (nv wU / 2 ^ k % 2)) 1 = false/\wrapI (Int.ofNat k - 1) = predI k/\true = true /\
     ∃ j:{x_ // InvWk (dF (eF (gN px))) (dF (eF (gN py))) (⟨dF (eF (gN x0)),dF (eF (gN x1))⟩:F2p) (⟨dF (eF (gN y0)),dF (eF (gN y1))⟩:F2p) x_},j.1.1 < k + 1/\VWk k = VWk j.1.1/\HWk px py x0 x1 y0 y1 z z2 (selW (twW (dF (eF (gN px))) (dF (eF (gN py))) (JvW g))) = HWk px py x0 x1 y0 y1 z z2 j.1.2) ?_ (by kernel_rfl)
    refine ⟨ilt_nn2 k,lt_eF _,lt_eF _,g0,g1,g2,g3,g4,g5,g6,g7,g8,g9,g10,g11,g12,g13,g14,g15,(by show ieq (Int.ofNat (nU / 2 ^ k % 2)) 1 = false;rw [h0];rfl),hs,rfl,next _ ?_⟩
    rw [hnext,wkT,if_neg (by omega),hhalf,hv]
   ·refine roundF mixed tt_ok GWk_ok 100 [⟨5,1,.lit (.bo true)⟩,⟨8,3,.lit (.bo true)⟩,⟨6,1,.lit (.it (predI k))⟩] ?_
    refine same (p:=(!ilt (Int.ofNat k) 0) = true/\nv (eF (gN px)) < pN/\nv (eF (gN py)) < pN/\nv (g 0) < pN/\nv (g 1) < pN/\nv (g 2) < pN/\nv (g 3) < pN/\nv (g 4) < pN/\nv (g 5) < pN/\nv (g 6) < pN/\nv (g 7) < pN/\nv (g 8) < pN/\nv (g 9) < pN/\nv (g 10) < pN/\nv (g 11) < pN/\nv (g 12) < pN/\nv (g 13) < pN/\nv (g 14) < pN/\nv (g 15) < pN/\ieq (Int.ofNat (nv wU / 2 ^ k % 2)) 1 = true/\nv (eF (gN px)) < pN/\nv (eF (gN py)) < pN/\nv (eF (gN x0)) < pN/\nv (eF (gN x1)) < pN/\nv (eF (gN y0)) < pN/\nv (eF (gN y1)) < pN/\nv (selW (twW (dF (eF (gN px))) (dF (eF (gN py))) (JvW g)) 0) < pN/\nv (selW (twW (dF (eF (gN px))) (dF (eF (gN py))) (JvW g)) 1) < pN/\nv (selW (twW (dF (eF (gN px))) (dF (eF (gN py))) (JvW g)) 2) < pN/\nv (selW (twW (dF (eF (gN px))) (dF (eF (gN py))) (JvW g)) 3) < pN/\nv (selW (twW (dF (eF (gN px))) (dF (eF (gN py))) (JvW g)) 4) < pN/\nv (selW (twW (dF (eF (gN px))) (dF (eF (gN py))) (JvW g)) 5) < pN/\nv (selW (twW (dF (eF (gN px))) (dF (eF (gN py))) (JvW g)) 6) < pN/\nv (selW (twW (dF (eF (gN px))) (dF (eF (gN py))) (JvW g)) 7) < pN/\nv (selW (twW (dF (eF (gN px))) (dF (eF (gN py))) (JvW g)) 8) < pN/\nv (selW (twW (dF (eF (gN px))) (dF (eF (gN py))) (JvW g)) 9) < pN/\nv (selW (twW (dF (eF (gN px))) (dF (eF (gN py))) (JvW g)) 10) < pN/\nv (selW (twW (dF (eF (gN px))) (dF (eF (gN py))) (JvW g)) 11) < pN/\nv (selW (twW (dF (eF (gN px))) (dF (eF (gN py))) (JvW g)) 12) < pN/\nv (selW (twW (dF (eF (gN px))) (dF (eF (gN py))) (JvW g)) 13) < pN/\nv (selW (twW (dF (eF (gN px))) (dF (eF (gN py))) (JvW g)) 14) < pN/\nv (selW (twW (dF (eF (gN px))) (dF (eF (gN py))) (JvW g)) 15) < pN/\wrapI (Int.ofNat k - 1) = predI k/\true = true /\
     ∃ j:{x_ // InvWk (dF (eF (gN px))) (dF (eF (gN py))) (⟨dF (eF (gN x0)),dF (eF (gN x1))⟩:F2p) (⟨dF (eF (gN y0)),dF (eF (gN y1))⟩:F2p) x_},j.1.1 < k + 1/\VWk k = VWk j.1.1/\HWk px py x0 x1 y0 y1 z z2 (selW (adW (dF (eF (gN px))) (dF (eF (gN py))) (⟨dF (eF (gN x0)),dF (eF (gN x1))⟩:F2p) (⟨dF (eF (gN y0)),dF (eF (gN y1))⟩:F2p) (JvW (selW (twW (dF (eF (gN px))) (dF (eF (gN py))) (JvW g)))))) = HWk px py x0 x1 y0 y1 z z2 j.1.2) ?_ (by kernel_rfl)
    refine ⟨ilt_nn2 k,lt_eF _,lt_eF _,g0,g1,g2,g3,g4,g5,g6,g7,g8,g9,g10,g11,g12,g13,g14,g15,(by show ieq (Int.ofNat (nU / 2 ^ k % 2)) 1 = true;rw [h0];rfl),lt_eF _,lt_eF _,lt_eF _,lt_eF _,lt_eF _,lt_eF _,lt_eF _,lt_eF _,lt_eF _,lt_eF _,lt_eF _,lt_eF _,lt_eF _,lt_eF _,lt_eF _,lt_eF _,lt_eF _,lt_eF _,lt_eF _,lt_eF _,lt_eF _,lt_eF _,hs,rfl,next _ ?_⟩
    rw [JvW_sel,hnext,wkT,if_pos h0,hhalf,hv]
 ·intro ⟨⟨k,g⟩,hk,hg,hv⟩ junk h0
  simp only at hk hv h0
  have hg:LtW g:=hg
  obtain ⟨g0,g1,g2,g3,g4,g5,g6,g7,g8,g9,g10,g11,g12,g13,g14,g15⟩:=hg
  subst h0
  rw [Nat.sub_zero,Nat.pow_zero,Nat.div_one] at hv
  refine same (p:=nv (g 4) < pN/\nv (g 5) < pN/\nv (g 6) < pN/\nv (g 7) < pN/\nv (g 8) < pN/\nv (g 9) < pN/\nv (g 10) < pN/\nv (g 11) < pN/\nv (g 12) < pN/\nv (g 13) < pN/\nv (g 14) < pN/\nv (g 15) < pN/\endN (.v1 (.agg (cells12 (S12.conj (d12 (g 4) (g 5) (g 6) (g 7) (g 8) (g 9) (g 10) (g 11) (g 12) (g 13) (g 14) (g 15)))))) (.v1 (e12 (walkS (gN px) (gN py) ⟨gN x0,gN x1⟩ ⟨gN y0,gN y1⟩)))) ?_ (by kernel_rfl)
  refine ⟨g4,g5,g6,g7,g8,g9,g10,g11,g12,g13,g14,g15,end_T ?_⟩
  have e:d12 (g 4) (g 5) (g 6) (g 7) (g 8) (g 9) (g 10) (g 11) (g 12) (g 13) (g 14) (g 15) = (wkT (dF (eF (gN px))) (dF (eF (gN py))) (⟨dF (eF (gN x0)),dF (eF (gN x1))⟩:F2p) (⟨dF (eF (gN y0)),dF (eF (gN y1))⟩:F2p) 63 nU).f:=congrArg WS.f hv
  rw [e,dF_eF,dF_eF,dF_eF,dF_eF,dF_eF,dF_eF];rfl
end Go.Proofs.YtnjocbcjejpklaaGreat
namespace Go.Proofs.YtnjocbcjejpklaaGreat
open Go.Rq Go EC
set_option maxRecDepth 100000
set_option linter.unusedVariables false
set_option linter.unusedSimpArgs false
set_option maxRecDepth 100000
theorem unS_kx:kx * unS = 1:=by kernel_rfl
theorem unS_inv:unS = F2p.inv' kx:=by
 have h:=unS_kx
 have k:=F2p.mul_inv S12.kx_ne
 generalize unS = d at *
 have e:kx * (d - F2p.inv' kx) = 0:=by
  generalize F2p.inv' kx = b at *
  generalize kx = a at *
  grind
 rcases F2p.dom e with h | h
 ·exact absurd h S12.kx_ne
 ·generalize F2p.inv' kx = b at *
  grind
theorem wi_5:S12.wi = S12.c unS * S12.w5:=by
 rw [unS_inv,Rg.mul_comm];rfl
theorem wi_3:S12.wi * S12.wi * S12.wi = S12.c unS * S12.w3:=by
 have h:=S12.w_wi
 have k2:=S12.w_2
 have k3:=S12.w_3
 have k6:=S12.w1_6
 have hk:S12.c kx * S12.c unS = 1:=by rw [<-S12.c_mul,unS_kx];rfl
 generalize S12.c kx = K at *
 generalize S12.c unS = u at *
 generalize S12.w1 = a at *
 generalize S12.w2 = b at *
 generalize S12.w3 = d at *
 generalize S12.wi = x at *
 subst k2;subst k3
 have e1:a * a * a * (x * x * x) = 1:=by
  have:a * a * a * (x * x * x) = a * x * (a * x) * (a * x):=by grind
  rw [this,h];grind
 have e2:u * (a * (a * a)) * (a * a * a) = 1:=by
  have:u * (a * (a * a)) * (a * a * a) = a * a * a * (a * a * a) * u:=by grind
  rw [this,k6,hk]
 have:x * x * x = x * x * x * (u * (a * (a * a)) * (a * a * a)):=by rw [e2];grind
 rw [this]
 have:x * x * x * (u * (a * (a * a)) * (a * a * a)) = u * (a * (a * a)) * (a * a * a * (x * x * x)):=by grind
 rw [this,e1];grind
theorem lnS_eq (px py:Fp) (tx ty m:F2p):lnS px py tx ty m = lnv (S12.c m * S12.wi) (S12.c tx * (S12.wi * S12.wi),S12.c ty * (S12.wi * S12.wi * S12.wi)) (S12.c ⟨px,0⟩ * (1 * 1),S12.c ⟨py,0⟩ * (1 * 1 * 1)):=by
 have hl:lnv (S12.c m * S12.wi) (S12.c tx * (S12.wi * S12.wi),S12.c ty * (S12.wi * S12.wi * S12.wi)) (S12.c ⟨px,0⟩ * (1 * 1),S12.c ⟨py,0⟩ * (1 * 1 * 1)) =
   S12.c ⟨py,0⟩ + S12.c ((m * tx - ty) * unS) * S12.w3 + S12.c (F2p.ng' (F2p.sc m px) * unS) * S12.w5:=by
  show S12.c ⟨py,0⟩ * (1 * 1 * 1) - S12.c ty * (S12.wi * S12.wi * S12.wi) - S12.c m * S12.wi * (S12.c ⟨px,0⟩ * (1 * 1) - S12.c tx * (S12.wi * S12.wi)) = _
  have hs:F2p.ng' (F2p.sc m px) = 0 - m * ⟨px,0⟩:=by
   refine F2p.ext ?_ ?_
   ·show 0 - m.x * px = 0 - (m.x * px - m.y * 0)
    rw [Rg.mul_zero]
    generalize m.x * px = a
    grind
   ·show 0 - m.y * px = 0 - (m.x * 0 + m.y * px)
    rw [Rg.mul_zero]
    generalize m.y * px = a
    grind
  rw [hs,S12.c_mul,S12.c_mul,S12.c_sub,S12.c_sub,S12.c_mul,S12.c_mul,S12.c_zero]
  have h5:=wi_5
  have h3:=wi_3
  generalize S12.c unS = u at *
  generalize S12.wi = x at *
  generalize S12.w3 = a at *
  generalize S12.w5 = b at *
  generalize S12.c ⟨px,0⟩ = p
  generalize S12.c ⟨py,0⟩ = q
  generalize S12.c m = r
  generalize S12.c tx = s
  generalize S12.c ty = t
  have e:q * (1 * 1 * 1) - t * (x * x * x) - r * x * (p * (1 * 1) - s * (x * x)) = q + (r * s - t) * (x * x * x) - r * p * x:=by grind
  rw [e,h3,h5]
  grind
 rw [hl]
 have e:=S12.split (lnS px py tx ty m)
 rw [e]
 show S12.c ⟨py,0⟩ + S12.c 0 * S12.w1 + S12.c 0 * S12.w2 + S12.c ((m * tx - ty) * unS) * S12.w3 + S12.c 0 * S12.w4 + S12.c (F2p.ng' (F2p.sc m px) * unS) * S12.w5 = _
 rw [S12.c_zero,Rg.zero_mul,Rg.zero_mul,Rg.zero_mul]
 generalize S12.c ⟨py,0⟩ = a
 generalize S12.c ((m * tx - ty) * unS) * S12.w3 = b
 generalize S12.c (F2p.ng' (F2p.sc m px) * unS) * S12.w5 = d
 grind
variable {q:F2p × F2p} {p:Fp × Fp}
abbrev cT (Q:Option (F2p × F2p)):Option (S12 × S12):=cp uT Q
abbrev cF (P:Option (Fp × Fp)):Option (S12 × S12):=cp uF P
def Wk (q:F2p × F2p) (p:Fp × Fp) (n:Nat) (s:WS):Prop:=ET.mul n (some q) = some (s.tx,s.ty)/\Go.Rq.nL s.f = SK.Fn n (cT (some q)) (cF (some p))
theorem aT {Q:Option (F2p × F2p)} (h:ET.on Q):SK.A (cT Q):=⟨Q,h,rfl⟩
theorem bF {P:Option (Fp × Fp)} (h:EF.on P):SK.B (cF P):=⟨P,h,rfl⟩
theorem nL_line {t u:F2p × F2p} {m:F2p} (ht:ET.on (some t)) (hu:ET.on (some u)) (ho:¬ Opp t u) (hs:ET.Sl t u m):Go.Rq.nL (lnS p.1 p.2 t.1 t.2 m) = SK.L (cT (some t)) (cT (some u)) (cF (some p)):=by
 have h:=SK.L_sl (x:=(S12.c ⟨p.1,0⟩ * (1 * 1),S12.c ⟨p.2,0⟩ * (1 * 1 * 1))) (cp_on uT ht) (cp_on uT hu) (fun h=>ho ((cp_opp uT).2 h)) (cp_sl uT hs)
 rw [lnS_eq]
 exact h.symm
theorem tw_ok {n:Nat} {s:WS} (hq:ET.on (some q)) (hp:EF.on (some p)) (h:Wk q p n s) (hn:ET.mul (n + n) (some q) ≠ none):Wk q p (n + n) (twW p.1 p.2 s):=by
 obtain ⟨h1,h2⟩:=h
 have ht:ET.on (some (s.tx,s.ty)):=by rw [<-h1];exact ET.on_mul hq n
 have hd:ET.mul (n + n) (some q) = ET.add (some (s.tx,s.ty)) (some (s.tx,s.ty)):=by rw [ET.mul_add hq,h1]
 have ho:¬ Opp (s.tx,s.ty) (s.tx,s.ty):=fun ho=>hn (by rw [hd,ET.add_opp ho])
 have hsl:=ET.slope_ok ht ht ho
 have he:ET.slope (s.tx,s.ty) (s.tx,s.ty) = slS ((s.tx * s.tx + s.tx * s.tx) + s.tx * s.tx) (s.ty + s.ty):=by
  unfold EC.slope slS
  rw [if_pos rfl,ep]
  show (s.tx * s.tx + s.tx * s.tx + s.tx * s.tx + 0) * F2p.inv' (s.ty + s.ty) = _
  rw [Rg.add_zero]
 rw [he] at hsl
 refine ⟨?_,?_⟩
 ·rw [hd,ET.add_sl ht ht ho hsl];rfl
 ·show Go.Rq.nL ((s.f * s.f) * lnS p.1 p.2 s.tx s.ty _) = _
  rw [nL_mul,nL_mul,h2,nL_line ht ht ho hsl,SK.Fn_add (aT hq) (bF hp)]
  have e:EK.mul n (cT (some q)) = cT (some (s.tx,s.ty)):=by rw [<-h1];exact (cp_mul uT hq n).symm
  rw [e]
theorem ad_ok {n:Nat} {s:WS} (hq:ET.on (some q)) (hp:EF.on (some p)) (h:Wk q p (n + 1) s) (hn:ET.mul n (some q) ≠ none) (hn2:ET.mul (n + 2) (some q) ≠ none):Wk q p (n + 2) (adW p.1 p.2 q.1 q.2 s):=by
 obtain ⟨h1,h2⟩:=h
 have ht:ET.on (some (s.tx,s.ty)):=by rw [<-h1];exact ET.on_mul hq (n + 1)
 have hd:ET.mul (n + 2) (some q) = ET.add (some (s.tx,s.ty)) (some q):=by rw [<-h1];rfl
 have ho:¬ Opp (s.tx,s.ty) q:=fun ho=>hn2 (by rw [hd,ET.add_opp ho])
 have hx:s.tx ≠ q.1:=fun e=>by
  have hy:s.ty = q.2:=by
   have a1:s.ty * s.ty = s.tx * s.tx * s.tx + 0 * s.tx + bT:=ht
   have a2:q.2 * q.2 = q.1 * q.1 * q.1 + 0 * q.1 + bT:=hq
   rw [e,<-a2] at a1
   have a3:(s.ty - q.2) * (s.ty + q.2) = 0:=by grind
   rcases F2p.dom a3 with h | h
   ·grind
   ·exact absurd ⟨e,h⟩ ho
  apply hn
  have e1:ET.mul (n + 1) (some q) = some q:=by rw [h1,e,hy]
  have e2:ET.add (ET.mul n (some q)) (some q) = some q:=e1
  have e3:ET.grp.add ⟨some q,hq⟩ ⟨ET.mul n (some q),ET.on_mul hq n⟩ = ET.grp.add ⟨some q,hq⟩ ET.grp.o:=Subtype.ext (by
   show ET.add (some q) (ET.mul n (some q)) = ET.add (some q) none
   rw [ET.add_comm hq (ET.on_mul hq n),e2];rfl)
  exact congrArg Subtype.val (ET.grp.cancel e3)
 have hsl:=ET.slope_ok ht hq ho
 have he:ET.slope (s.tx,s.ty) q = slS (q.2 - s.ty) (q.1 - s.tx):=by
  unfold EC.slope slS
  rw [if_neg hx,ep];rfl
 rw [he] at hsl
 refine ⟨?_,?_⟩
 ·rw [hd,ET.add_sl ht hq ho hsl];rfl
 ·show Go.Rq.nL (s.f * lnS p.1 p.2 s.tx s.ty _) = SK.Fn (n + 1) _ _ * SK.L (EK.mul (n + 1) (cT (some q))) _ _
  rw [nL_mul,h2,nL_line ht hq ho hsl]
  have e:EK.mul (n + 1) (cT (some q)) = cT (some (s.tx,s.ty)):=by rw [<-h1];exact (cp_mul uT hq (n + 1)).symm
  rw [e]
theorem nz' {n r:Nat} (hinv:∀ n,¬ r ∣ n->∃ m,n * m % r = 1 % r) (hq:ET.on (some q)) (hr:ET.mul r (some q) = none) (h0:0 < n) (h1:n < r):ET.mul n (some q) ≠ none:=fun e=>by
 let P:ET.Pt:=⟨some q,hq⟩
 have e1:ET.grp.nm r P = ET.grp.o:=Subtype.ext ((ET.nm_val P r).trans hr)
 have e2:ET.grp.nm n P = ET.grp.o:=Subtype.ext ((ET.nm_val P n).trans e)
 have hd:r ∣ n:=Gr.prime_dvd ET.grp hinv e1 (fun e=>by have:=congrArg Subtype.val e;cases this) e2
 have:=Nat.le_of_dvd h0 hd
 omega
theorem nz {n:Nat} (hq:ET.on (some q)) (hr:ET.mul rO (some q) = none) (h0:0 < n) (h1:n < rO):ET.mul n (some q) ≠ none:=nz' rO_inv hq hr h0 h1
theorem wk_ok (hq:ET.on (some q)) (hp:EF.on (some p)) (hr:ET.mul rO (some q) = none):∀ k n:Nat,2 ^ k <= n->n < 2 ^ (k + 1)->n + 1 < rO->Wk q p n (wkT p.1 p.2 q.1 q.2 k n)
 | 0,n,h1,h2,_=>by
  have:n = 1:=by omega
  subst this
  refine ⟨rfl,?_⟩
  show Go.Rq.nL 1 = 1 * SK.L none _ _
  rw [SK.L0,Rg.mul_one]
  exact Rg.one_pow _
 | k + 1,n,h1,h2,h3=>by
  have e1:2 ^ (k + 1) = 2 * 2 ^ k:=by rw [Nat.pow_succ];omega
  have e2:2 ^ (k + 1 + 1) = 2 * 2 ^ (k + 1):=by rw [Nat.pow_succ];omega
  have hp0:0 < 2 ^ k:=Nat.pow_pos (by decide)
  have ih:=wk_ok hq hp hr k (n / 2) (by omega) (by omega) (by omega)
  have hn0:0 < n / 2:=by omega
  have h4:=tw_ok hq hp ih (nz hq hr (by omega) (by omega))
  show Wk q p n (if n % 2 = 1 then _ else _)
  by_cases hb:n % 2 = 1
  ·rw [if_pos hb]
   have e3:n = (n / 2 + n / 2 - 1) + 2:=by omega
   have e4:n / 2 + n / 2 = (n / 2 + n / 2 - 1) + 1:=by omega
   rw [e4] at h4
   have h5:=ad_ok hq hp h4 (nz hq hr (by omega) (by omega)) (nz hq hr (by omega) (by omega))
   rw [<-e3] at h5
   exact h5
  ·rw [if_neg hb]
   have e3:n / 2 + n / 2 = n:=by omega
   rw [e3] at h4
   exact h4
end Go.Proofs.YtnjocbcjejpklaaGreat
namespace Go.Proofs.YtnjocbcjejpklaaGreat
open Go.Rq Go EC
set_option maxRecDepth 100000
set_option linter.unusedVariables false
set_option linter.unusedSimpArgs false
set_option maxRecDepth 100000
theorem nU_uA:nU = uA:=by kernel_rfl
theorem nU_lo:2 ^ 63 <= nU:=by rw [nU_val];decide
theorem nU_hi:nU < 2 ^ 64:=by rw [nU_val];decide
theorem nU_r:nU + 1 < rO:=by rw [nU_val];decide +kernel
theorem turns_neP {z:S12} (h:z ≠ 0) (n:Nat):S12.turns n z ≠ 0:=by
 induction n with
 | zero=>exact h
 | succ n ih=>exact fun e=>ih (S12.turn_inj e)
theorem N_turns {N:S12->S12} (h:∀ z,N (S12.turn z) = S12.turn (N z)) (z:S12):∀ n,N (S12.turns n z) = S12.turns n (N z)
 | 0=>rfl
 | n + 1=>by
  show N (S12.turn (S12.turns n z)) = S12.turn (S12.turns n (N z))
  rw [h,N_turns h z n]
theorem mlF_ne {Q:Option (F2p × F2p)} {P:Option (Fp × Fp)} (hQ:ET.on Q) (hP:EF.on P):mlF Q P ≠ 0:=fun e=>by
 have h:=SK.Fn_neg (aT hQ) (bF hP) uA
 have e:SK.Fn uA (cT Q) (cF P) = 0:=e
 rw [e,Rg.zero_mul] at h
 exact oneK_ne h.symm
def eP (Q:Option (F2p × F2p)) (P:Option (Fp × Fp)):S12:=S12.turns 6 (mlF Q P)
theorem Fn_none (X:Option (S12 × S12)):∀ n,SK.Fn n none X = 1
 | 0=>rfl
 | n + 1=>by
  show SK.Fn n none X * SK.L (EK.mul n none) none X = 1
  rw [Fn_none X n,SK.L1,Rg.mul_one]
theorem Fn_at_none (A:Option (S12 × S12)):∀ n,SK.Fn n A none = 1
 | 0=>rfl
 | n + 1=>by
  show SK.Fn n A none * SK.L (EK.mul n A) A none = 1
  rw [Fn_at_none A n,SK.L2,Rg.mul_one]
theorem eP_none (P:Option (Fp × Fp)):eP none P = 1:=by
 unfold eP mlF
 rw [show cp uT none = none from rfl,Fn_none,turns_1]
theorem eP_at_none (Q:Option (F2p × F2p)):eP Q none = 1:=by
 unfold eP mlF
 rw [show cp uF none = none from rfl,Fn_at_none,turns_1]
theorem pair_n {N:S12->S12} (hN:∀ z,N (S12.turn z) = S12.turn (N z)) (h0:N 0 = 0) (hl:∀ a,a ≠ 0->lastS a = N a) {f F:S12} (h2:N f = F) (hF:F ≠ 0):lastS (S12.conj f) = S12.turns 6 F/\S12.conj f ≠ 0:=by
 have hn:f ≠ 0:=fun e=>hF (by rw [<-h2,e,h0])
 have hc:S12.conj f ≠ 0:=by rw [conj_t6];exact turns_neP hn 6
 refine ⟨?_,hc⟩
 rw [hl _ hc,conj_t6,N_turns hN,h2]
theorem pair_val {q:F2p × F2p} {p:Fp × Fp} (hq:G2s (some q)) (hp:EF.on (some p)):lastS (walkS p.1 p.2 q.1 q.2) = eP (some q) (some p)/\walkS p.1 p.2 q.1 q.2 ≠ 0:=by
 have h:=(wk_ok hq.1 hp hq.2 63 nU nU_lo nU_hi nU_r).2
 have h2:Go.Rq.nL (wkT p.1 p.2 q.1 q.2 63 nU).f = mlF (some q) (some p):=h.trans (congrArg (fun n:Nat=>SK.Fn n (cT (some q)) (cF (some p))) nU_uA)
 exact pair_n nL_turn nL_0 (fun a ha=>lastS_nL ha) h2 (mlF_ne hq.1 hp)
theorem eP_1 {Q:Option (F2p × F2p)} {P R:Option (Fp × Fp)} (hQ:G2s Q) (hP:EF.on P) (hR:EF.on R):eP Q (EF.add P R) = eP Q P * eP Q R:=by
 unfold eP
 rw [bil_1 hQ hP hR,S12.turns_mul]
end Go.Proofs.YtnjocbcjejpklaaGreat
namespace Go.Proofs.YtnjocbcjejpklaaGreat
open Go.Rq Go EC
set_option maxRecDepth 100000
set_option linter.unusedVariables false
set_option linter.unusedSimpArgs false
set_option maxRecDepth 100000
abbrev N2:=Nat × Nat
structure N12 where
 u:N2
 v:N2
 w:N2
 x:N2
 y:N2
 z:N2
def vN12 (a:N12):S12:=⟨⟨qv a.u,qv a.v,qv a.w⟩,⟨qv a.x,qv a.y,qv a.z⟩⟩
def fr12 {β:Type} (a:N12) (k:N12->β):β:=nQ.fr a.u fun u=>nQ.fr a.v fun v=>nQ.fr a.w fun w=>nQ.fr a.x fun x=>nQ.fr a.y fun y=>nQ.fr a.z fun z=>k ⟨u,v,w,x,y,z⟩
theorem fr12_eq {β:Type} (a:N12) (k:N12->β):fr12 a k = k a:=by
 unfold fr12
 simp only [nQ.fr_eq]
abbrev M2:N2->N2->N2:=nQ.ml
abbrev A2':N2->N2->N2:=nQ.ad
def x2' (a:N2):N2:=((a.1 + (pN - a.2 % pN)) % pN,(a.1 + a.2) % pN)
theorem x2_val (a:N2):qv (x2' a) = xi (qv a):=F2p.ext (ofN_sub' _ _) (by show ofN ((a.1 + a.2) % pN) = ofN a.1 + ofN a.2;rw [ofN_mod,ofN_add])
theorem vM (a b:N2):qv (M2 a b) = qv a * qv b:=nQ.v_ml a b
theorem vA (a b:N2):qv (A2' a b) = qv a + qv b:=nQ.v_ad a b
def s6u (a b c d e f:N2):N2:=A2' (M2 a d) (x2' (A2' (M2 b f) (M2 c e)))
def s6v (a b c d e f:N2):N2:=A2' (A2' (M2 a e) (M2 b d)) (x2' (M2 c f))
def s6w (a b c d e f:N2):N2:=A2' (A2' (M2 a f) (M2 c d)) (M2 b e)
def mN12 (a b:N12):N12 :=
  ⟨A2' (s6u a.u a.v a.w b.u b.v b.w) (x2' (s6w a.x a.y a.z b.x b.y b.z)),A2' (s6v a.u a.v a.w b.u b.v b.w) (s6u a.x a.y a.z b.x b.y b.z),A2' (s6w a.u a.v a.w b.u b.v b.w) (s6v a.x a.y a.z b.x b.y b.z),
   A2' (s6u a.u a.v a.w b.x b.y b.z) (s6u a.x a.y a.z b.u b.v b.w),A2' (s6v a.u a.v a.w b.x b.y b.z) (s6v a.x a.y a.z b.u b.v b.w),A2' (s6w a.u a.v a.w b.x b.y b.z) (s6w a.x a.y a.z b.u b.v b.w)⟩
theorem mN12_val (a b:N12):vN12 (mN12 a b) = vN12 a * vN12 b:=by
 refine S12.ext (S6.ext ?_ ?_ ?_) (S6.ext ?_ ?_ ?_) <;> simp only [vN12,mN12,s6u,s6v,s6w,vM,vA,x2_val] <;> rfl
def cj12 (a:N12):N12:=⟨a.u,a.v,a.w,nQ.sb (0,0) a.x,nQ.sb (0,0) a.y,nQ.sb (0,0) a.z⟩
theorem qv0:qv (0,0) = 0:=F2p.ext (by decide +kernel) (by decide +kernel)
theorem qv1:qv (1,0) = 1:=F2p.ext (by decide +kernel) (by decide +kernel)
theorem vS (a b:N2):qv (nQ.sb a b) = qv a - qv b:=nQ.v_sb a b
theorem cj12_val (a:N12):vN12 (cj12 a) = S12.conj (vN12 a):=by
 have h:S12.conj (vN12 a) = S12.conj' (vN12 a):=by rw [conj_t6,S12.turns_six]
 rw [h]
 refine S12.ext rfl (S6.ext ?_ ?_ ?_)
 ·show qv (nQ.sb (0,0) a.x) = 0 - qv a.x
  rw [vS,qv0]
 ·show qv (nQ.sb (0,0) a.y) = 0 - qv a.y
  rw [vS,qv0]
 ·show qv (nQ.sb (0,0) a.z) = 0 - qv a.z
  rw [vS,qv0]
def o12:N12:=⟨(1,0),(0,0),(0,0),(0,0),(0,0),(0,0)⟩
theorem o12_val:vN12 o12 = 1:=by
 unfold vN12 o12
 rw [qv0,qv1];rfl
def st12 (a:N12) (d:Bool) (s:N12):N12:=fr12 s fun s=>fr12 (mN12 s s) fun t=>match d with
 | true=>fr12 (mN12 t a) fun r=>r
 | false=>t
def pw12 (a:N12):List Bool->N12
 | []=>o12
 | d :: r=>st12 a d (pw12 a r)
theorem pw12_val (a:N12):∀ l,vN12 (pw12 a l) = vN12 a ^ EC.bval l
 | []=>by
  show vN12 o12 = vN12 a ^ 0
  rw [o12_val,Rg.pow_zero]
 | d :: r=>by
  show vN12 (st12 a d (pw12 a r)) = _
  have ih:=pw12_val a r
  generalize pw12 a r = s at ih
  unfold st12
  simp only [fr12_eq]
  cases d with
  | true =>
   show vN12 (mN12 (mN12 s s) a) = vN12 a ^ (2 * EC.bval r + 1)
   rw [mN12_val,mN12_val,ih,Rg.pow_succ,<-Rg.pow_add,show EC.bval r + EC.bval r = 2 * EC.bval r by omega]
  | false =>
   show vN12 (mN12 s s) = vN12 a ^ (2 * EC.bval r)
   rw [mN12_val,ih,<-Rg.pow_add,show EC.bval r + EC.bval r = 2 * EC.bval r by omega]
end Go.Proofs.YtnjocbcjejpklaaGreat
namespace Go.Proofs.YtnjocbcjejpklaaGreat
open Go.Rq Go EC
set_option maxRecDepth 100000
set_option linter.unusedVariables false
set_option linter.unusedSimpArgs false
set_option maxRecDepth 100000
def st1 (a:Nat) (d:Bool) (s:Nat):Nat:=fcc s fun s=>fcc (s * s % pN) fun t=>match d with
 | true=>fcc (t * a % pN) fun r=>r
 | false=>t
def pwq1 (a:Nat):List Bool->Nat
 | []=>1
 | d :: r=>st1 a d (pwq1 a r)
theorem pwq1_val (a:Nat):∀ l,ofN (pwq1 a l) = ofN a ^ EC.bval l
 | []=>by
  show ofN 1 = ofN a ^ 0
  rw [Rg.pow_zero];exact ofN_one
 | d :: r=>by
  show ofN (st1 a d (pwq1 a r)) = _
  have ih:=pwq1_val a r
  generalize pwq1 a r = s at ih
  unfold st1
  simp only [fcc_eq]
  cases d with
  | true =>
   show ofN (s * s % pN * a % pN) = ofN a ^ (2 * EC.bval r + 1)
   rw [ofN_mod,ofN_mul,ofN_mod,ofN_mul,ih,Rg.pow_succ,<-Rg.pow_add,show EC.bval r + EC.bval r = 2 * EC.bval r by omega]
  | false =>
   show ofN (s * s % pN) = ofN a ^ (2 * EC.bval r)
   rw [ofN_mod,ofN_mul,ih,<-Rg.pow_add,show EC.bval r + EC.bval r = 2 * EC.bval r by omega]
def bitsInv:List Bool:=[true,false,false,true,false,true,false,true,false,true,false,true,false,true,false,true,true,true,true,true,true,true,true,true,true,true,true,true,true,true,true,true,true,true,true,true,true,true,true,true,true,true,true,true,true,true,true,true,false,true,true,true,true,true,true,true,true,false,false,true,true,true,false,true,true,true,true,true,true,true,true,true,true,true,true,true,true,true,true,true,true,true,false,false,true,false,true,false,true,false,false,false,true,true,false,true,false,true,true,true,true,true,true,true,true,true,true,true,true,true,true,true,true,true,false,true,false,true,false,true,false,true,true,true,true,false,false,false,false,false,true,false,false,true,false,false,false,true,true,false,true,true,true,true,false,false,false,false,true,true,false,true,false,true,true,false,true,true,true,true,false,false,false,false,false,true,false,true,false,true,false,false,true,false,true,true,false,false,false,false,true,true,false,false,true,true,true,false,false,true,true,false,true,true,true,true,true,true,false,true,false,true,false,false,true,false,false,false,true,false,true,false,false,false,false,true,true,true,false,false,true,true,true,true,false,false,true,false,false,false,false,true,true,true,false,true,false,false,true,false,true,true,true,false,true,true,true,false,false,false,true,false,false,true,true,false,true,true,true,false,true,false,true,true,false,false,true,true,false,true,false,true,true,true,false,true,false,false,true,false,true,true,false,false,false,false,true,false,false,true,true,false,true,true,false,true,true,true,true,false,false,true,false,true,true,true,false,true,true,false,false,false,true,true,false,true,false,false,true,false,false,true,false,true,true,false,false,true,false,true,true,false,false,true,true,true,true,true,true,true,true,true,true,false,true,false,false,true,true,true,false,false,false,true,false,true,false,true,true,true,true,false,false,false,true,false,false,false,true,false,false,false,false,false,false,false,false,true,false,true,true]
theorem bitsInv_val:EC.bval bitsInv = pN - 2:=by decide +kernel
def iN (a:N2):N2:=nQ.fr a fun a=>fcc ((a.1 * a.1 + a.2 * a.2) % pN) fun n=>fcc (pwq1 n bitsInv) fun t=>(a.1 * t % pN,(pN - a.2 % pN) * t % pN)
theorem ofN_ng (a:Nat):ofN (pN - a % pN) = 0 - ofN a:=by
 have h:=ofN_sub' 0 a
 rw [Nat.zero_add,ofN_mod] at h
 exact h.trans (congrArg (· - ofN a) (Fin.ext (by kernel_rfl)))
theorem iN_val (a:N2):qv (iN a) = F2p.inv (qv a):=by
 rw [ep]
 unfold iN
 rw [nQ.fr_eq,fcc_eq,fcc_eq]
 have hn:ofN (pwq1 ((a.1 * a.1 + a.2 * a.2) % pN) bitsInv) = F2p.nrm (qv a) ^ (pN - 2):=by
  rw [pwq1_val,bitsInv_val,ofN_mod,ofN_add,ofN_mul,ofN_mul];rfl
 refine F2p.ext ?_ ?_
 ·show ofN (a.1 * pwq1 ((a.1 * a.1 + a.2 * a.2) % pN) bitsInv % pN) = ofN a.1 * F2p.nrm (qv a) ^ (pN - 2)
  rw [ofN_mod,ofN_mul,hn]
 ·show ofN ((pN - a.2 % pN) * pwq1 ((a.1 * a.1 + a.2 * a.2) % pN) bitsInv % pN) = (0 - ofN a.2) * F2p.nrm (qv a) ^ (pN - 2)
  rw [ofN_mod,ofN_mul,hn,ofN_ng]
structure NW where
 tx:N2
 ty:N2
 f:N12
def vW (s:NW):WS:=⟨qv s.tx,qv s.ty,vN12 s.f⟩
def frW {β:Type} (s:NW) (k:NW->β):β:=nQ.fr s.tx fun x=>nQ.fr s.ty fun y=>fr12 s.f fun f=>k ⟨x,y,f⟩
theorem frW_eq {β:Type} (s:NW) (k:NW->β):frW s k = k s:=by
 unfold frW
 rw [nQ.fr_eq,nQ.fr_eq,fr12_eq]
abbrev S2':N2->N2->N2:=nQ.sb
def unN:N2:=(2001204777610833696708894912867952078278441409969503942666029068062015825245418932221343814564507832018947136279894,2001204777610833696708894912867952078278441409969503942666029068062015825245418932221343814564507832018947136279893)
def lnN (px py:Nat) (tx ty m:N2):N12:=⟨(py,0),(0,0),(0,0),(0,0),M2 (S2' (M2 m tx) ty) unN,M2 (S2' (0,0) (M2 m (px,0))) unN⟩
def stN (px py:Nat) (tx ty m o:N2) (f:N12):NW:=nQ.fr m fun m=>nQ.fr (S2' (S2' (M2 m m) tx) o) fun x=>nQ.fr (S2' (M2 m (S2' tx x)) ty) fun y=>fr12 (lnN px py tx ty m) fun l=>fr12 (mN12 f l) fun f=>⟨x,y,f⟩
def twN (px py:Nat) (s:NW):NW:=nQ.fr (M2 s.tx s.tx) fun q=>nQ.fr (A2' (A2' q q) q) fun u=>nQ.fr (iN (A2' s.ty s.ty)) fun d=>fr12 (mN12 s.f s.f) fun f=>stN px py s.tx s.ty (M2 u d) s.tx f
def adN (px py:Nat) (qx qy:N2) (s:NW):NW:=nQ.fr (iN (S2' qx s.tx)) fun d=>stN px py s.tx s.ty (M2 (S2' qy s.ty) d) qx s.f
def wkN (px py:Nat) (qx qy:N2):List Bool->NW
 | []=>⟨qx,qy,o12⟩
 | d :: r=>frW (wkN px py qx qy r) fun s=>match d with
  | true=>frW (twN px py s) fun s=>adN px py qx qy s
  | false=>twN px py s
def bitsW:List Bool:=[false,false,false,false,false,false,false,false,false,false,false,false,false,false,false,false,true,false,false,false,false,false,false,false,false,false,false,false,false,false,false,false,false,false,false,false,false,false,false,false,false,false,false,false,false,false,false,false,true,false,false,false,false,false,false,false,false,true,false,false,true,false,true]
def aN:N12:=⟨(3123211946202378851377988784307594402671252533842854381374902061945514429011720299288915601982686356857330067727371,2963587891761959162813620596153286371132854266654288983256126277726818396552065672605067273260985705081894836086583),(2521392541507826204070791783192365106154261552295178619108569057191635078966527105030939841270479379179414989177074,3871471664561341402119086084943071224161338480024610904807809978881416909947686604624906262371955568089684748030478),(253273568365393361425210965685643955954307646370037684631790896100357713877370898919058076839647599045297367014201,3548482165003719855988277985985065558023157555655396779093506445657120199284977843288677901902239088622126504030609),(1371832867185700980612534649761120060940739155332931829329745353210728414907910959726397898800632715989210226487845,945139901409301334716510099996669795369870707152096756727788228130197865605512898435198003470462586999797295658091),(3527552782288063992627902878344874742027487674772960288901740356293604940416990129553933455818257786546105619644155,2041922342580490078329509996910434398113399006562150443686803162388080310562817226464059564954643025496456912520620),(2012873700148761751344772321293983796066858847008703213565725237833465394711490892947566967312633511662818879432480,1419402595267533106743680011957090853009907611945173272566144443521758953494251189151066548423721634430655744429497)⟩
def bN:N12:=⟨(3589889225977934508714613185479288830790945173298891569087048286027263357194421482782792150891614063217223918975694,1741110035553785540121824166546018192468697205522990725857287027813738833949713758729944995591011324069414968678102),(3245150305864849932025175960686355279691154552668422581112303218242608593918814114604207050151115079652210100266478,3275534870700396783883521105698104362164395900238503955883902726988107396580867432781343674503310839962107359492404),(3940996475481662990217316211176146941242117165190709947805846485830901267767637674700953909235990013099755313730042,303552780802652265982878054668977248660348896345153461334598942521048133878512820975629356648392814535077189917579),(2937432252067911961448666291005591304668268936472674580481844232497195204410014213866957804750531162276066500337672,3046218290422572987027255349311909484956200472073178610905297825390176442243391061667345363711623565343691344831140),(1698995566186654822483129574192574550027652262324853819566727356331060843949925138072389999176867420930537351027070,940378414306622272696373696801945209467542806006712654497724785462920669611643247350268880088149330638332876452188),(1057848549548994320402290382046083095161325209379339725225712278372814727532136794540494147006003221932220102051564,107872169182732270363569396980236676723164772344422320084248297598320924239877359716624727118816590906030375502500)⟩
theorem walk_lit:(wkN gx gy hx hy bitsW).f = cj12 aN:=by kernel_rfl
theorem bN_inv:mN12 aN bN = o12:=by kernel_rfl
end Go.Proofs.YtnjocbcjejpklaaGreat
namespace Go.Proofs.YtnjocbcjejpklaaGreat
open Go.Rq Go EC
set_option maxRecDepth 100000
set_option linter.unusedVariables false
set_option linter.unusedSimpArgs false
set_option maxRecDepth 100000
theorem unN_val:qv unN = unS:=F2p.ext (by decide +kernel) (by decide +kernel)
theorem lnN_val (px py:Nat) (tx ty m:N2):vN12 (lnN px py tx ty m) = lnS (ofN px) (ofN py) (qv tx) (qv ty) (qv m):=by
 have h1:qv (M2 (S2' (M2 m tx) ty) unN) = (qv m * qv tx - qv ty) * unS:=by rw [vM,vS,vM,unN_val]
 have h2:qv (M2 (S2' (0,0) (M2 m (px,0))) unN) = F2p.ng' (F2p.sc (qv m) (ofN px)) * unS:=by
  rw [vM,vS,vM,unN_val,qv0]
  have h3:qv m * qv (px,0) = F2p.sc (qv m) (ofN px):=by
   refine F2p.ext ?_ ?_
   ·show ofN m.1 * ofN px - ofN m.2 * ofN 0 = ofN m.1 * ofN px
    rw [ofN_zero];grind
   ·show ofN m.1 * ofN 0 + ofN m.2 * ofN px = ofN m.2 * ofN px
    rw [ofN_zero];grind
  rw [h3];rfl
 refine S12.ext (S6.ext (F2p.ext rfl ofN_zero) qv0 qv0) (S6.ext qv0 h1 h2)
theorem stN_val (px py:Nat) (tx ty m o:N2) (f:N12):vW (stN px py tx ty m o f) = ⟨stX (qv tx) (qv m) (qv o),stY (qv tx) (qv ty) (qv m) (qv o),vN12 f * lnS (ofN px) (ofN py) (qv tx) (qv ty) (qv m)⟩:=by
 have h:stN px py tx ty m o f = ⟨S2' (S2' (M2 m m) tx) o,S2' (M2 m (S2' tx (S2' (S2' (M2 m m) tx) o))) ty,mN12 f (lnN px py tx ty m)⟩:=by
  unfold stN
  simp only [nQ.fr_eq,fr12_eq]
 rw [h]
 show (⟨qv _,qv _,vN12 _⟩:WS) = _
 rw [mN12_val,lnN_val,vS,vS,vM,vS,vM,vS,vS,vS,vM];rfl
theorem twN_val (px py:Nat) (s:NW):vW (twN px py s) = twW (ofN px) (ofN py) (vW s):=by
 unfold twN
 simp only [nQ.fr_eq,fr12_eq]
 rw [stN_val,vM,vA,vA,vM,iN_val,vA,mN12_val];rfl
theorem adN_val (px py:Nat) (qx qy:N2) (s:NW):vW (adN px py qx qy s) = adW (ofN px) (ofN py) (qv qx) (qv qy) (vW s):=by
 unfold adN
 simp only [nQ.fr_eq,fr12_eq]
 rw [stN_val,vM,vS,iN_val,vS];rfl
theorem wkN_val (px py:Nat) (qx qy:N2):∀ l,vW (wkN px py qx qy l) = wkT (ofN px) (ofN py) (qv qx) (qv qy) l.length (2 ^ l.length + EC.bval l)
 | []=>by
  show (⟨qv qx,qv qy,vN12 o12⟩:WS) = ⟨qv qx,qv qy,1⟩
  rw [o12_val]
 | d :: r=>by
  have ih:=wkN_val px py qx qy r
  show vW (frW (wkN px py qx qy r) _) = wkT (ofN px) (ofN py) (qv qx) (qv qy) (r.length + 1) (2 ^ (r.length + 1) + EC.bval (d :: r))
  rw [frW_eq]
  generalize wkN px py qx qy r = s at ih
  have h:∀ n,(2 ^ (r.length + 1) + n) % 2 = n % 2/\(2 ^ (r.length + 1) + n) / 2 = 2 ^ r.length + n / 2:=fun n=>by
   rw [Nat.pow_succ];omega
  cases d with
  | true =>
   have hb:EC.bval (true :: r) = 2 * EC.bval r + 1:=rfl
   rw [wkT,if_pos (by rw [(h _).1,hb];omega),(h _).2,hb,show (2 * EC.bval r + 1) / 2 = EC.bval r by omega,<-ih]
   show vW (frW (twN px py s) fun s=>adN px py qx qy s) = _
   rw [frW_eq,adN_val,twN_val]
  | false =>
   have hb:EC.bval (false :: r) = 2 * EC.bval r:=rfl
   rw [wkT,if_neg (by rw [(h _).1,hb];omega),(h _).2,hb,show (2 * EC.bval r) / 2 = EC.bval r by omega,<-ih]
   show vW (twN px py s) = _
   rw [twN_val]
theorem cj12_val2 (a:N12):S12.conj (S12.conj (vN12 a)) = vN12 a:=by
 rw [conj_t6,conj_t6]
 have h:∀ z:S12,S12.turns 6 (S12.turns 6 z) = z:=fun z=>by rw [S12.turns_six,S12.turns_six];exact S12.ext rfl (by show 0 - (0 - z.q) = z.q;grind)
 exact h _
theorem bitsW_val:2 ^ bitsW.length + EC.bval bitsW = nU:=by rw [nU_val];decide +kernel
theorem bitsW_len:bitsW.length = 63:=by decide
theorem walk_gen:walkS (ofN gx) (ofN gy) (qv hx) (qv hy) = vN12 aN:=by
 have h:=congrArg WS.f (wkN_val gx gy hx hy bitsW)
 rw [bitsW_val,bitsW_len] at h
 have h2:vN12 (wkN gx gy hx hy bitsW).f = S12.conj (vN12 aN):=by rw [walk_lit,cj12_val]
 have h3:(wkT (ofN gx) (ofN gy) (qv hx) (qv hy) 63 nU).f = S12.conj (vN12 aN):=h.symm.trans h2
 show S12.conj (wkT (ofN gx) (ofN gy) (qv hx) (qv hy) 63 nU).f = _
 rw [h3,cj12_val2]
def cjQ (a:N2):N2:=nQ.sb (a.1,0) (0,a.2)
theorem cjQ_val (a:N2):qv (cjQ a) = (qv a).cj:=by
 unfold cjQ
 rw [vS]
 refine F2p.ext ?_ ?_
 ·show ofN a.1 - ofN 0 = ofN a.1
  rw [ofN_zero];grind
 ·show ofN 0 - ofN a.2 = 0 - ofN a.2
  rw [ofN_zero]
def tnN (a:N12):N12:=⟨M2 (cjQ a.u) (tuN0,tuN1),M2 (cjQ a.v) (tuN4,tuN5),M2 (cjQ a.w) (tuN8,tuN9),M2 (cjQ a.x) (tuN2,tuN3),M2 (cjQ a.y) (tuN6,tuN7),M2 (cjQ a.z) (tuN10,tuN11)⟩
theorem tnN_val (a:N12):vN12 (tnN a) = S12.turn (vN12 a):=by
 unfold tnN vN12
 simp only [vM,cjQ_val]
 rfl
def smN (a:N12):N12:=cj12 (pw12 a [false,false,false,false,false,false,false,false,false,false,false,false,false,false,false,false,true,false,false,false,false,false,false,false,false,false,false,false,false,false,false,false,false,false,false,false,false,false,false,false,false,false,false,false,false,false,false,false,true,false,false,false,false,false,false,false,false,true,false,false,true,false,true,true])
theorem smN_val (a:N12):vN12 (smN a) = smS (vN12 a):=by
 have h:EC.bval [false,false,false,false,false,false,false,false,false,false,false,false,false,false,false,false,true,false,false,false,false,false,false,false,false,false,false,false,false,false,false,false,false,false,false,false,false,false,false,false,false,false,false,false,false,false,false,false,true,false,false,false,false,false,false,false,false,true,false,false,true,false,true,true] = nU:=by rw [nU_val];decide +kernel
 unfold smN smS
 rw [cj12_val,pw12_val,h]
def laN (a b:N12):N12 :=
 fr12 (mN12 (cj12 a) b) fun e=>fr12 (tnN e) fun t=>fr12 (mN12 (tnN t) e) fun f =>
 fr12 (pw12 f [true,true,false,true,false,true,false,true,false,true,false,true,false,true,false,true,true,false,true,false,true,false,true,false,true,false,true,false,true,false,true,false,true,false,true,false,true,false,true,false,true,false,true,false,true,false,true,false,false,false,false,false,false,false,false,false,false,true,true,false,false,false,true]) fun x=>fr12 (pw12 x [true,false,false,false,false,false,false,false,false,false,false,false,false,false,false,false,true,false,false,false,false,false,false,false,false,false,false,false,false,false,false,false,false,false,false,false,false,false,false,false,false,false,false,false,false,false,false,false,true,false,false,false,false,false,false,false,false,true,false,false,true,false,true,true]) fun x=>fr12 (smN x) fun y=>fr12 (smN y) fun z=>fr12 (mN12 z (cj12 x)) fun z =>
 fr12 (smN z) fun w=>fr12 (mN12 w f) fun w=>fr12 (mN12 w (tnN z)) fun w =>
 fr12 (tnN y) fun y=>fr12 (mN12 w (tnN y)) fun w=>fr12 (tnN x) fun x=>fr12 (tnN x) fun x=>fr12 (mN12 w (tnN x)) fun w=>w
theorem laN_val {a b:N12} (h:vN12 b = S12.inv (vN12 a)):vN12 (laN a b) = lastS (vN12 a):=by
 have hA:EC.bval [true,true,false,true,false,true,false,true,false,true,false,true,false,true,false,true,true,false,true,false,true,false,true,false,true,false,true,false,true,false,true,false,true,false,true,false,true,false,true,false,true,false,true,false,true,false,true,false,false,false,false,false,false,false,false,false,false,true,true,false,false,false,true] = nA:=by rw [nA_val];decide +kernel
 have hB:EC.bval [true,false,false,false,false,false,false,false,false,false,false,false,false,false,false,false,true,false,false,false,false,false,false,false,false,false,false,false,false,false,false,false,false,false,false,false,false,false,false,false,false,false,false,false,false,false,false,false,true,false,false,false,false,false,false,false,false,true,false,false,true,false,true,true] = nB:=by rw [nB_val];decide +kernel
 unfold laN
 simp only [fr12_eq,mN12_val,cj12_val,tnN_val,smN_val,pw12_val,hA,hB,h]
 rfl
theorem aN_inv:vN12 bN = S12.inv (vN12 aN):=by
 have h:vN12 aN * vN12 bN = 1:=by rw [<-mN12_val,bN_inv,o12_val]
 have hn:vN12 aN ≠ 0:=fun e=>oneK_ne (by rw [<-h,e,Rg.zero_mul])
 have h2:=inv_of hn
 calc vN12 bN = vN12 bN * (vN12 aN * S12.inv (vN12 aN)):=by rw [h2,Rg.mul_one]
  _ = (vN12 aN * vN12 bN) * S12.inv (vN12 aN):=by rw [<-Rg.mul_assoc,Rg.mul_comm (vN12 bN)]
  _ = S12.inv (vN12 aN):=by rw [h,Rg.one_mul]
def eN:N12:=⟨(2675223149320665921521646202693247640790817874364255298732398972560239127864099887300921329285059103920214926247256,3268798540077874559188095304926415053902298079662269128631117894259354335713488241073281881110999874366368799440511),(1437178847597838002205538891928304392505606959215308674013885606166925907773842499174371404735625830937323828692626,3520140447471844017044610248175793726488927385800919015247604269617056365166670232096113218155158979455637700602719),(1506178926806320088529997600140680210913802140271006315226533143967895395199677036726919792764738011159067846598728,2626389147790168154036854297373352480470342009417426750876875476996308393122833154115295241935326582225976246741447),(296397698419227591881949966489408966385204245298227609919201225879400018157857419730816679383241778672627140748220,1313697571675342986569886099636226306168713170654435514582366343380736958596157600562325204551377354604385651577455),(2213584337862344967755109385575965635901738814384224456257761298779336140589044234514789656471272705700109501099024,2447141669618865772796042211991982778148438817099153092725275403399894819927527860344663177024354496855213527711198),(2549209626480291013679779981989983528616421847439035724344204595297044667359758911489614886787335613326952862534008,3129088482270901242825355060993467433985308559466438813154852238956177342064351887308381291879994227300431734160957)⟩
theorem last_lit:laN aN bN = eN:=by kernel_rfl
theorem G2s_g2:G2s (some (qv hx,qv hy)):=⟨g2_on,g2_ord⟩
theorem eP_gen:eP (some (qv hx,qv hy)) (some (ofN gx,ofN gy)) = vN12 eN:=by
 have h:=(pair_val (q:=(qv hx,qv hy)) (p:=(ofN gx,ofN gy)) G2s_g2 g1_on).1
 have h2:lastS (walkS (ofN gx) (ofN gy) (qv hx) (qv hy)) = vN12 eN:=by rw [walk_gen,<-laN_val aN_inv,last_lit]
 exact h.symm.trans h2
end Go.Proofs.YtnjocbcjejpklaaGreat
set_option linter.unusedSectionVars false
namespace Go.Rq
open Go
namespace EC
variable {F:Type} [i:CR F] (C:EC F)
set_option linter.unusedSectionVars false
def Rp (P:J3 F):Option (F × F)->Prop
 | none=>P.z = 0
 | some p=>P.z ≠ 0/\P.x = p.1 * (P.z * P.z)/\P.y = p.2 * (P.z * P.z * P.z)
include C in
theorem one_ne0:(1:F) ≠ 0:=fun e=>C.two (by rw [e];grind)
include C in
theorem rp_raise (x y:F):Rp (⟨x,y,1⟩:J3 F) (some (x,y)):=⟨C.one_ne0,by show x = x * (1 * 1);grind,by show y = y * (1 * 1 * 1);grind⟩
include C in
theorem ne_mul2 {x y:F} (hx:x ≠ 0) (hy:y ≠ 0):x * y ≠ 0:=fun e=>(C.dom e).elim hx hy
theorem dbl_x {x y z l:F} (h:l * (y + y) = x * x + x * x + x * x):(J3.dbl ⟨x * (z * z),y * (z * z * z),z⟩).x = (l * l - x - x) * ((y + y) * (z * z * z * z) * ((y + y) * (z * z * z * z))):=by
 have hm:x * (z * z) * (x * (z * z)) + x * (z * z) * (x * (z * z)) + x * (z * z) * (x * (z * z)) = l * (y + y) * (z * z * z * z):=by rw [h];grind
 simp only [J3.dbl,hm]
 grind
theorem dbl_z {x y z:F}:(J3.dbl ⟨x * (z * z),y * (z * z * z),z⟩).z = (y + y) * (z * z * z * z):=by
 simp only [J3.dbl]
 grind
theorem dbl_y {x y z l:F} (h:l * (y + y) = x * x + x * x + x * x):(J3.dbl ⟨x * (z * z),y * (z * z * z),z⟩).y = (l * (x - (l * l - x - x)) - y) * ((y + y) * (z * z * z * z) * ((y + y) * (z * z * z * z)) * ((y + y) * (z * z * z * z))):=by
 have hx:=dbl_x (z:=z) h
 have hm:x * (z * z) * (x * (z * z)) + x * (z * z) * (x * (z * z)) + x * (z * z) * (x * (z * z)) = l * (y + y) * (z * z * z * z):=by rw [h];grind
 simp only [J3.dbl,hm] at hx ⊢
 rw [hx]
 generalize l * l - x - x = k
 grind
variable [DecidableEq F]
theorem dbl_rp (ha:C.a = 0) {X:Option (F × F)} (hX:C.on X) {P:J3 F} (h:Rp P X):Rp (J3.dbl P) (C.add X X):=by
 cases X with
 | none =>
  have h:P.z = 0:=h
  show P.y * P.z + P.y * P.z = 0
  rw [h];grind
 | some p =>
  obtain ⟨hz,hx,hy⟩:=h
  obtain ⟨X,Y,Z⟩:=P
  simp only at hz hx hy
  subst hx;subst hy
  rcases C.add_cases hX hX with ⟨ho,e⟩ | ⟨ho,l,hl,e⟩
  ·rw [e]
   show (J3.dbl _).z = 0
   rw [dbl_z,ho.2];grind
  ·rw [e]
   have h2:l * (p.2 + p.2) = p.1 * p.1 + p.1 * p.1 + p.1 * p.1:=by have:=hl.2;rw [ha] at this;grind
   have hn:p.2 + p.2 ≠ 0:=fun e=>ho ⟨rfl,e⟩
   refine ⟨?_,?_,?_⟩
   ·rw [dbl_z]
    exact C.ne_mul2 hn (C.ne_mul2 (C.ne_mul2 (C.ne_mul2 hz hz) hz) hz)
   ·rw [dbl_x h2,dbl_z];rfl
   ·rw [dbl_y h2,dbl_z];rfl
theorem gen_z {x y z u v w:F}:(J3.gen ⟨x * (z * z),y * (z * z * z),z⟩ ⟨u * (w * w),v * (w * w * w),w⟩).z = (u - x) * (z * w * (z * w) * (z * w)):=by
 simp only [J3.gen];grind
theorem gen_x {x y z u v w l:F} (h:v - y = l * (u - x)):(J3.gen ⟨x * (z * z),y * (z * z * z),z⟩ ⟨u * (w * w),v * (w * w * w),w⟩).x = (l * l - x - u) * ((u - x) * (z * w * (z * w) * (z * w)) * ((u - x) * (z * w * (z * w) * (z * w)))):=by
 have hr:v * (w * w * w) * (z * z * z) - y * (z * z * z) * (w * w * w) = l * (u - x) * (z * w * (z * w) * (z * w)):=by rw [<-h];grind
 have hh:u * (w * w) * (z * z) - x * (z * z) * (w * w) = (u - x) * (z * w * (z * w)):=by grind
 simp only [J3.gen,hr,hh]
 generalize hd:u - x = d
 have hu:u = x + d:=by grind
 subst hu
 grind
theorem gen_y {x y z u v w l:F} (h:v - y = l * (u - x)):(J3.gen ⟨x * (z * z),y * (z * z * z),z⟩ ⟨u * (w * w),v * (w * w * w),w⟩).y = (l * (x - (l * l - x - u)) - y) * ((u - x) * (z * w * (z * w) * (z * w)) * ((u - x) * (z * w * (z * w) * (z * w))) * ((u - x) * (z * w * (z * w) * (z * w)))):=by
 have hx:=gen_x (z:=z) (w:=w) h
 have hr:v * (w * w * w) * (z * z * z) - y * (z * z * z) * (w * w * w) = l * (u - x) * (z * w * (z * w) * (z * w)):=by rw [<-h];grind
 have hh:u * (w * w) * (z * z) - x * (z * z) * (w * w) = (u - x) * (z * w * (z * w)):=by grind
 simp only [J3.gen,hr,hh] at hx ⊢
 rw [hx]
 generalize l * l - x - u = k
 generalize u - x = d
 grind
theorem add_rp (ha:C.a = 0) {X Y:Option (F × F)} (hX:C.on X) (hY:C.on Y) {P Q:J3 F} (h:Rp P X) (k:Rp Q Y):Rp (J3.add P Q) (C.add X Y):=by
 cases X with
 | none =>
  have h:P.z = 0:=h
  unfold J3.add
  rw [if_pos h];exact k
 | some p =>
  have hpz:P.z ≠ 0:=h.1
  cases Y with
  | none =>
   have k:Q.z = 0:=k
   unfold J3.add
   rw [if_neg hpz,if_pos k];exact h
  | some q =>
   have hqz:Q.z ≠ 0:=k.1
   unfold J3.add
   rw [if_neg hpz,if_neg hqz]
   have hh:J3.hh P Q = (q.1 - p.1) * (P.z * P.z * (Q.z * Q.z)):=by unfold J3.hh;rw [h.2.1,k.2.1];grind
   have hr:J3.rr P Q = (q.2 - p.2) * (P.z * P.z * P.z * (Q.z * Q.z * Q.z)):=by unfold J3.rr;rw [h.2.2,k.2.2];grind
   have n2:P.z * P.z * (Q.z * Q.z) ≠ 0:=C.ne_mul2 (C.ne_mul2 hpz hpz) (C.ne_mul2 hqz hqz)
   have n3:P.z * P.z * P.z * (Q.z * Q.z * Q.z) ≠ 0:=C.ne_mul2 (C.ne_mul2 (C.ne_mul2 hpz hpz) hpz) (C.ne_mul2 (C.ne_mul2 hqz hqz) hqz)
   by_cases hx:p.1 = q.1
   ·rw [if_pos (by rw [hh,hx];grind)]
    by_cases hy:p.2 = q.2
    ·rw [if_pos (by rw [hr,hy];grind)]
     have e:q = p:=Prod.ext hx.symm hy.symm
     rw [e]
     exact C.dbl_rp ha hX h
    ·rw [if_neg (by rw [hr];exact C.ne_mul2 (fun e=>hy (by grind)) n3)]
     have ho:Opp p q:=by
      refine ⟨hx,?_⟩
      have h1:p.2 * p.2 = p.1 * p.1 * p.1 + C.a * p.1 + C.b:=hX
      have h2:q.2 * q.2 = q.1 * q.1 * q.1 + C.a * q.1 + C.b:=hY
      rw [<-hx] at h2
      have h3:(p.2 - q.2) * (p.2 + q.2) = 0:=by grind
      rcases C.dom h3 with h4 | h4
      ·exact absurd (by grind) hy
      ·exact h4
     rw [C.add_opp ho]
     rfl
   ·rw [if_neg (by rw [hh];exact C.ne_mul2 (fun e=>hx (by grind)) n2)]
    obtain ⟨PX,PY,PZ⟩:=P
    obtain ⟨QX,QY,QZ⟩:=Q
    obtain ⟨_,h1,h2⟩:=h
    obtain ⟨_,k1,k2⟩:=k
    simp only at h1 h2 k1 k2 hpz hqz
    subst h1;subst h2;subst k1;subst k2
    have ho:¬ Opp p q:=fun o=>hx o.1
    have hl:=C.slope_ok hX hY ho
    rw [C.add_sl hX hY ho hl]
    generalize C.slope p q = l at hl
    have hs:q.2 - p.2 = l * (q.1 - p.1):=by have:=hl.1;grind
    refine ⟨?_,?_,?_⟩
    ·rw [gen_z]
     exact C.ne_mul2 (fun e=>hx (by grind)) (C.ne_mul2 (C.ne_mul2 (C.ne_mul2 hpz hqz) (C.ne_mul2 hpz hqz)) (C.ne_mul2 hpz hqz))
    ·rw [gen_x hs,gen_z];rfl
    ·rw [gen_y hs,gen_z];rfl
theorem times_rp (ha:C.a = 0) {X:Option (F × F)} (hX:C.on X) {P:J3 F} (h:Rp P X):∀ k n:Nat,n < 2 ^ k->Rp (J3.times P k n) (C.mul n X)
 | 0,n,hn=>by
  have:n = 0:=by simpa using hn
  subst this
  rfl
 | k + 1,n,hn=>by
  have ih:=times_rp ha hX h k (n / 2) (by rw [Nat.pow_succ] at hn;omega)
  have hd:=C.dbl_rp ha (C.on_mul hX _) ih
  rw [<-C.mul_add hX] at hd
  rw [J3.times]
  by_cases e:n % 2 = 1
  ·rw [if_pos e]
   have h2:=C.add_rp ha (C.on_mul hX _) hX hd h
   have e2:n = n / 2 + n / 2 + 1:=by omega
   have e3:C.mul n X = C.add (C.mul (n / 2 + n / 2) X) X:=(congrArg (fun n=>C.mul n X) e2).trans rfl
   rw [e3];exact h2
  ·rw [if_neg e]
   have e2:n / 2 + n / 2 = n:=by omega
   rw [e2] at hd;exact hd
end EC
namespace A2
variable {F:Type} [CR F] [DecidableEq F]
def pt (p:A2 F):Option (F × F):=bif p.z then none else some (p.x,p.y)
def of:Option (F × F)->A2 F
 | none=>⟨0,0,true⟩
 | some q=>⟨q.1,q.2,false⟩
theorem pt_of (X:Option (F × F)):pt (of X) = X:=by cases X <;> rfl
theorem raise_rp (C:EC F) (p:A2 F):EC.Rp (raise p) (pt p):=by
 unfold raise pt
 cases p.z with
 | true=>rfl
 | false=>exact C.rp_raise _ _
theorem mulJ_rp (C:EC F) (ha:C.a = 0) {p:A2 F} (hp:C.on (pt p)) (n:Nat) (hn:n < 2 ^ blen n):EC.Rp (mulJ p n) (C.mul n (pt p)):=C.times_rp ha hp (raise_rp C p) _ _ hn
theorem on_pt (C:EC F) (ha:C.a = 0) {p:A2 F}:on C.b p = true↔(C.on (pt p)/\p = of (pt p)):=by
 obtain ⟨x,y,z⟩:=p
 unfold on pt
 cases z with
 | true =>
  show (decide (x = 0) && decide (y = 0)) = true↔(True/\(⟨x,y,true⟩:A2 F) = ⟨0,0,true⟩)
  simp
 | false =>
  show decide (y * y = x * x * x + C.b) = true↔(y * y = x * x * x + C.a * x + C.b/\(⟨x,y,false⟩:A2 F) = ⟨x,y,false⟩)
  rw [ha,decide_eq_true_iff]
  constructor
  ·intro h;exact ⟨by grind,rfl⟩
  ·intro h;have:=h.1;grind
theorem isIn_pt (C:EC F) (ha:C.a = 0) {p:A2 F} {r:Nat} (hr:r < 2 ^ blen r):isIn C.b r p = true↔(C.on (pt p)/\C.mul r (pt p) = none/\p = of (pt p)):=by
 unfold isIn
 rw [Bool.and_eq_true,on_pt C ha,decide_eq_true_iff]
 constructor
 ·rintro ⟨⟨h1,h2⟩,h3⟩
  refine ⟨h1,?_,h2⟩
  have h4:=mulJ_rp C ha h1 r hr
  cases e:C.mul r (pt p) with
  | none=>rfl
  | some q=>rw [e] at h4;exact absurd h3 h4.1
 ·rintro ⟨h1,h2,h3⟩
  refine ⟨⟨h1,h3⟩,?_⟩
  have h4:=mulJ_rp C ha h1 r hr
  rw [h2] at h4;exact h4
end A2
end Go.Rq
namespace Go.Proofs.YtnjocbcjejpklaaGreat
open Go.Rq Go EC
set_option maxRecDepth 100000
set_option linter.unusedVariables false
set_option linter.unusedSimpArgs false
set_option maxRecDepth 100000
theorem rNm_rO:rNm = rO:=by decide +kernel
theorem rNm_bl:rNm < 2 ^ blen rNm:=by decide +kernel
theorem fourE_b:fourE = EF.b:=Fin.ext (by kernel_rfl)
theorem isIn_E (p:A2 Fp):A2.isIn fourE rNm p = true↔(EF.on (A2.pt p)/\EF.mul rO (A2.pt p) = none/\p = A2.of (A2.pt p)):=by
 rw [fourE_b,A2.isIn_pt EF rfl rNm_bl,rNm_rO]
theorem fourQ_b:fourQ = ET.b:=F2p.ext (Fin.ext (by kernel_rfl)) (Fin.ext (by kernel_rfl))
theorem isIn_Q (p:A2 F2p):A2.isIn fourQ rNm p = true↔(G2s (A2.pt p)/\p = A2.of (A2.pt p)):=by
 rw [fourQ_b,A2.isIn_pt ET rfl rNm_bl,rNm_rO,<-and_assoc];rfl
end Go.Proofs.YtnjocbcjejpklaaGreat
namespace Go.Proofs.YtnjocbcjejpklaaGreat
open Go.Rq Go
set_option maxRecDepth 100000
set_option linter.unusedVariables false
set_option linter.unusedSimpArgs false
set_option maxHeartbeats 4000000
theorem rd_sl2 {P:Program} {T:TT} (hT:TTOk P T) {f:FuncId} {fn:Func} (hf:P.funcs[f]? = some fn) (hb:fn.body = some (bodyOf fn)) (hn:(fn.name == "runtime.NumGoroutine") = false)
  {b c:Nat} (hbc:Nat.beq b c = false) {x y:Blk} {pre:List AV} {v:AV} (hx:plainCs x.cells = true) (hy:plainCs y.cells = true) (lx:x.lo = 0) (ly:y.lo = 0) (hpre:pre.all vokB = true) (hv:vokB v = true) {h:Heap} (hgb:hget h b = some x) (hgc:hget h c = some y)
  (hwalk:AWqS P (Dm [some x,some y]) (flatC (bodyOf fn)) (FEndR2 T fn v x y) ⟨frame0 (pre ++ [.v1 (.sc (.sl 0 0 1 1)),.v1 (.sc (.sl 1 0 1 1))]) fn.ntmps,[some x,some y]⟩) :
  CallOk P f (pre ++ [.v1 (.sc (.sl b 0 1 1)),.v1 (.sc (.sl c 0 1 1))]) h v h:=by
 have hcb:Nat.beq c b = false:=by
  rw [<-Bool.not_eq_true,Nat.beq_eq]
  intro e
  rw [e,Nat.beq_refl] at hbc;cases hbc
 have hbb:bk [b,c] b = 0:=by simp [bk,idxN]
 have hcc:bk [b,c] c = 1:=by simp only [bk,idxN,hcb,Nat.beq_refl]
 have hbx:∀ m,bkBlk m x = x:=fun m=>by unfold bkBlk;rw [bkCells_plain hx]
 have hby:∀ m,bkBlk m y = y:=fun m=>by unfold bkBlk;rw [bkCells_plain hy]
 have hpk:pickH [b,c] h [b,c] = [some x,some y]:=by
  show [pickB [b,c] (hget h b),pickB [b,c] (hget h c)] = _
  rw [hgb,hgc]
  simp only [pickB,hbx,hby]
 have hLv:∀ i,i < 2->Lv [some x,some y] i:=fun i hi=>by
  rcases (show i = 0∨i = 1 by omega) with rfl | rfl
  ·exact ⟨x,rfl,by omega⟩
  ·exact ⟨y,rfl,by omega⟩
 have hheap:heapB [some x,some y] 0 [some x,some y] = true:=by
  simp only [heapB,Bool.and_eq_true]
  refine ⟨cellsB_plain hx,?_,cellsB_plain hy,?_,trivial⟩
  ·rw [lx];rfl
  ·rw [ly];rfl
 have hchk:∀ m n:Nat,Nat.beq m n = false->chkB [m,n] [some x,some y] = true:=fun m n hmn=>by
  unfold chkB nextB nextB
  rw [lx,ly]
  simp only [nodupB,notIn,hmn]
  rfl
 refine mem_walk hT hf hb hn [b,c] [] 0 [some x,some y] [some x,some y] (args':=pre ++ [.v1 (.sc (.sl 0 0 1 1)),.v1 (.sc (.sl 1 0 1 1))]) (vK:=v) (hchk b c hbc) hpk hheap ?_ ?_ hLv hheap (avB_plain hv) (fun i hi=>(hLv i (by simpa using hi)).dm) (hchk b c hbc) hpk (bkAV_plain hv) (fun t ht=>by simp at ht) (fun _ _ _=>rfl) ?_ (hnw:=by simp [noWinB,lx,ly])
 ·rw [bkAVs_app,bkAVs_plain hpre]
  show pre ++ [AV.v1 (.sc (.sl (bk [b,c] b) 0 1 1)),AV.v1 (.sc (.sl (bk [b,c] c) 0 1 1))] = _
  rw [hbb,hcc]
 ·rw [List.all_append,Bool.and_eq_true]
  refine ⟨List.all_eq_true.2 fun z hz=>avB_plain (List.all_eq_true.1 hpre z hz),?_⟩
  simp only [List.all_cons,List.all_nil,Bool.and_eq_true]
  exact ⟨rfl,rfl,trivial⟩
 ·refine hwalk.mono fun e s q=>?_
  have key:(hget s.h 0 = some x/\hget s.h 1 = some y/\∃ v',resA T s fn.results.toList = some v'/\vokB v' = true/\∀ ρ,v'.val ρ = v.val ρ)->chkB [0,1] (pickH [0,1] s.h [0,1]) = true/\heapB (pickH [0,1] s.h [0,1]) 0 (pickH [0,1] s.h [0,1]) = true/\SimH (pickH [0,1] s.h [0,1]) [some x,some y] /\
    ∃ v',resA T s fn.results.toList = some v'/\avB (pickH [0,1] s.h [0,1]) (bkAV [0,1] v') = true/\∀ ρ,(bkAV [0,1] v').val ρ = v.val ρ:=by
   intro ⟨q1,q1',v',q2,q3,q4⟩
   have e:pickH [0,1] s.h [0,1] = [some x,some y]:=by
    show [pickB [0,1] (hget s.h 0),pickB [0,1] (hget s.h 1)] = _
    rw [q1,q1']
    simp only [pickB,hbx,hby]
   rw [e]
   exact ⟨hchk 0 1 rfl,hheap,⟨⟨rfl,rfl,rfl,fun _=>rfl⟩,⟨rfl,rfl,rfl,fun _=>rfl⟩,trivial⟩,v',q2,by rw [bkAV_plain q3];exact avB_plain q3,fun ρ=>by rw [bkAV_plain q3];exact q4 ρ⟩
  cases e with
  | normal=>exact key q
  | ret=>exact key q
  | exit j=>exact q.elim
  | goto l=>exact q.elim
  | panic ch=>exact q.elim
  | outgrown=>exact q.elim
end Go.Proofs.YtnjocbcjejpklaaGreat
namespace Go.Rq
open Go
def mvSc (k:Nat):Sc->Sc
 | .pt b o=>.pt (k + b) o
 | .sl b o l c=>.sl (k + b) o l c
 | .so b n=>.so (k + b) n
 | .sv b o n=>.sv (k + b) o n
 | .fn f caps=>.fn f (caps.map fun c=>k + c)
 | s=>s
def mvCell (k:Nat):Cell->Cell
 | .ws k n f=>.ws k n f
 | .one s=>.one (mvSc k s)
def mvCells (k:Nat):List Cell->List Cell
 | []=>[]
 | c :: r=>mvCell k c :: mvCells k r
def mvV1 (k:Nat):V1->V1
 | .sc s=>.sc (mvSc k s)
 | .agg cs=>.agg (mvCells k cs)
def mvV1s (k:Nat):List V1->List V1
 | []=>[]
 | v :: r=>mvV1 k v :: mvV1s k r
def mvAV (k:Nat):AV->AV
 | .v1 v=>.v1 (mvV1 k v)
 | .tup l=>.tup (mvV1s k l)
 | .raw v=>.raw v
section
variable {k:Nat} {ρ:Ren}
theorem mvSc_val {s:Sc}:(mvSc k s).val ρ = s.val (fun i=>ρ (k + i)):=by
 cases s with
 | fn f caps =>
  simp only [mvSc,Sc.val,List.map_map]
  congr 2
 | _=>rfl
theorem mvCells_vals:∀ {cs:List Cell},cvals ρ (mvCells k cs) = cvals (fun i=>ρ (k + i)) cs
 | []=>rfl
 | c :: r=>by
  simp only [mvCells,cvals]
  rw [mvCells_vals (cs:=r)]
  cases c with
  | ws _ _ _=>rfl
  | one s=>simp only [mvCell,Cell.vals,mvSc_val]
theorem mvV1_val {v:V1}:(mvV1 k v).val ρ = v.val (fun i=>ρ (k + i)):=by
 cases v with
 | sc s=>exact mvSc_val
 | agg cs=>simp only [mvV1,V1.val];rw [mvCells_vals]
theorem mvAV_val {v:AV}:(mvAV k v).val ρ = v.val (fun i=>ρ (k + i)):=by
 cases v with
 | v1 v=>exact mvV1_val
 | tup l =>
  have key:∀ l:List V1,(mvV1s k l).map (V1.val ρ) = l.map (V1.val (fun i=>ρ (k + i))):=by
   intro l
   induction l with
   | nil=>rfl
   | cons v r ih=>simp only [mvV1s,List.map_cons,mvV1_val,ih]
  simp only [mvAV,AV.val]
  rw [key l]
 | raw v=>rfl
variable {D E:Nat->Prop} (hD:∀ i,D i->E (k + i))
include hD
theorem mvSc_ok {s:Sc} (h:s.ok D):(mvSc k s).ok E:=by
 cases s with
 | pt b o=>exact hD _ h
 | sl b o l c=>exact hD _ h
 | so b n=>exact ⟨hD _ h.1,hD _ h.2⟩
 | sv b o n=>exact ⟨hD _ h.1,hD _ h.2⟩
 | fn f caps =>
  intro c hc
  obtain ⟨d,hd,rfl⟩:=List.mem_map.1 hc
  exact hD _ (h d hd)
 | rw v=>exact h
 | _=>trivial
theorem mvCells_ok:∀ {cs:List Cell},cok D cs->cok E (mvCells k cs)
 | [],_=>fun c hc=>by cases hc
 | c :: r,h=>fun d hd=>by
  rcases List.mem_cons.1 hd with rfl | hd
  ·have:=h c (List.mem_cons_self ..)
   cases c with
   | ws _ _ _=>trivial
   | one s=>exact mvSc_ok hD this
  ·exact mvCells_ok (cs:=r) (fun e he=>h e (List.mem_cons_of_mem _ he)) d hd
theorem mvV1_ok {v:V1} (h:v.ok D):(mvV1 k v).ok E:=by
 cases v with
 | sc s=>exact mvSc_ok hD h
 | agg cs=>exact mvCells_ok hD h
theorem mvAV_ok {v:AV} (h:v.ok D):(mvAV k v).ok E:=by
 cases v with
 | v1 v=>exact mvV1_ok hD h
 | tup l =>
  have key:∀ l:List V1,(∀ v ∈ l,v.ok D)->∀ v ∈ mvV1s k l,v.ok E:=by
   intro l
   induction l with
   | nil=>intro _ v hv;cases hv
   | cons v r ih =>
    intro h u hu
    rcases List.mem_cons.1 hu with rfl | hu
    ·exact mvV1_ok hD (h _ (List.mem_cons_self ..))
    ·exact ih (fun x hx=>h x (List.mem_cons_of_mem _ hx)) u hu
  exact key l h
 | raw v=>trivial
end
def fillH:Heap->Nat->List Blk->Heap
 | h,_,[]=>h
 | h,s,b :: r=>fillH (hset h s b) (s + 1) r
theorem hget_fillH:∀ {l:List Blk} {h:Heap} {s:Nat},(∀ t,t < l.length->s + t < h.length)->∀ i,hget (fillH h s l) i = if s <= i/\i < s + l.length then l[i - s]? else hget h i
 | [],h,s,_,i=>by
  rw [if_neg (by simp only [List.length_nil];omega)];rfl
 | b :: r,h,s,hl,i=>by
  have h0:s < h.length:=hl 0 (by simp)
  simp only [fillH]
  rw [hget_fillH (l:=r) (fun t ht=>by rw [length_hset];have:=hl (t + 1) (by simpa using ht);omega)]
  simp only [List.length_cons]
  by_cases hi:s + 1 <= i/\i < s + 1 + r.length
  ·rw [if_pos hi,if_pos (by omega)]
   obtain ⟨d,hd⟩:∃ d,i - s = d + 1:=⟨i - s - 1,by omega⟩
   rw [show i - (s + 1) = d by omega,hd];rfl
  ·rw [if_neg hi]
   by_cases he:i = s
   ·subst he
    rw [hget_hset_same h0,if_pos (by omega),Nat.sub_self];rfl
   ·rw [hget_hset_ne he,if_neg (by omega)]
theorem hget_map:∀ {l:List Blk} {i:Nat},hget (l.map some) i = l[i]?
 | [],_=>rfl
 | _ :: _,0=>rfl
 | _ :: r,i + 1=>by simpa [hget] using hget_map (l:=r) (i:=i)
theorem hget_app:∀ {a b:Heap} {i:Nat},hget (a ++ b) i = if i < a.length then hget a i else hget b (i - a.length)
 | [],b,i=>by simp
 | _ :: _,b,0=>by simp [hget]
 | x :: r,b,i + 1=>by
  simp only [List.cons_append,hget,List.length_cons]
  rw [hget_app (a:=r)]
  by_cases h:i < r.length
  ·rw [if_pos h,if_pos (by omega)]
  ·rw [if_neg h,if_neg (by omega),Nat.add_sub_add_right]
theorem RelH.fill {ρ σ ρ2:Ren} {h:Heap} {w:World} (r:RelH ρ h w) {l:List Blk} (k:RelH σ (l.map some) w) (hpl:∀ b ∈ l,plainCs b.cells = true) (hl3:∀ b ∈ l,b.lo < 3) {s:Nat} (hho:∀ t,t < l.length->isHole h (s + t) = true)
  (hne:∀ t,Lv (l.map some) t->∀ i b,hget h i = some b->b.lo ≠ 2->σ t ≠ ρ i) (hag:Agree (Dm h) ρ ρ2) (hnew:∀ t,t < l.length->ρ2 (s + t) = σ t) :
  RelH ρ2 (fillH h s l) w/\(∀ i,Dm h i->Dm (fillH h s l) i)/\(∀ t,t < l.length->Dm (fillH h s l) (s + t))/\(∀ i,Dm (fillH h s l) i->¬ Dm h i->∃ t,i = s + t/\t < l.length):=by
 have hlen:∀ t,t < l.length->s + t < h.length:=fun t ht=>(isHole_lt (hho t ht)).1
 have hget1:=hget_fillH hlen
 have hnd:∀ i,Dm h i->¬ (s <= i/\i < s + l.length):=fun i ⟨b,hb⟩ hi=>by
  have:=(isHole_lt (hho (i - s) (by omega))).2
  rw [show s + (i - s) = i by omega,hb] at this
  cases this
 have hin:∀ i b,hget (fillH h s l) i = some b->(∃ t,i = s + t/\t < l.length/\hget (l.map some) t = some b)∨hget h i = some b:=fun i b hb=>by
  rw [hget1] at hb
  by_cases hi:s <= i/\i < s + l.length
  ·rw [if_pos hi] at hb
   exact .inl ⟨i - s,by omega,by omega,by rw [hget_map];exact hb⟩
  ·rw [if_neg hi] at hb
   exact .inr hb
 have hmem:∀ t b,hget (l.map some) t = some b->b ∈ l:=fun t b hb=>by
  rw [hget_map] at hb
  exact List.mem_of_getElem? hb
 have hokp:∀ {b:Blk},plainCs b.cells = true->Go.Rq.cok (fun _=>False) b.cells:=fun {b} hb=>zok_of (v:=.agg b.cells) hb
 have hplv:∀ {b:Blk},plainCs b.cells = true->∀ ρ ρ',cvals ρ b.cells = cvals ρ' b.cells:=fun {b} hb ρ ρ' =>
  cvals_agree (D:=fun _=>False) (fun _ h=>h.elim) (hokp hb)
 have hsub:∀ i,Dm h i->Dm (fillH h s l) i:=fun i hi=>by
  obtain ⟨b,hb⟩:=hi
  exact ⟨b,by rw [hget1,if_neg (hnd i ⟨b,hb⟩)];exact hb⟩
 refine ⟨⟨fun i b hb=>?_,fun i b hb h0=>?_,fun i b hb h1=>?_,fun i b hb=>?_,fun i j hi hj he=>?_,fun i b hb h3=>?_,fun i j b hi hb h3=>?_⟩,hsub,fun t ht=>?_,fun i ⟨b,hb⟩ hn=>?_⟩
 ·rcases hin i b hb with ⟨t,rfl,ht,hk⟩ | hb'
  ·exact cok_mono (fun _ h=>h.elim) (hokp (hpl b (hmem t b hk)))
  ·exact cok_mono hsub (r.cok i b hb')
 ·rcases hin i b hb with ⟨t,rfl,ht,hk⟩ | hb'
  ·have:=k.row t b hk h0
   rw [hnew t ht,hplv (hpl b (hmem t b hk)) ρ2 σ]
   exact this
  ·have:=r.row i b hb' h0
   rw [hag i ⟨b,hb'⟩,cvals_agree hag (r.cok i b hb')]
   exact this
 ·rcases hin i b hb with ⟨t,rfl,ht,hk⟩ | hb'
  ·obtain ⟨⟨cur,e1,e2,e3,e4,e5,e6⟩,⟨c,hc⟩⟩:=k.own t b hk h1
   have ht1:t + 1 < l.length:=by simpa using hget_lt hc
   have f1:=hnew t ht
   have f2:ρ2 (s + t + 1) = σ (t + 1):=hnew (t + 1) ht1
   refine ⟨⟨cur,?_,?_,?_,?_,e5,?_⟩,?_⟩
   ·rw [f1];exact e1
   ·rw [f1,f2];exact e2
   ·rw [f1,f2];exact e3
   ·rw [f1,f2];exact e4
   ·rw [hplv (hpl b (hmem t b hk)) ρ2 σ];exact e6
   ·refine ⟨c,?_⟩
    rw [hget1,if_pos (by omega),show s + t + 1 - s = t + 1 by omega,<-hget_map]
    exact hc
  ·obtain ⟨k1,k2⟩:=r.own i b hb' h1
   exact ⟨k1.agree hag ⟨b,hb'⟩ k2 (r.cok i b hb') rfl,hsub _ k2⟩
 ·rcases hin i b hb with ⟨t,rfl,ht,hk⟩ | hb'
  ·exact k.few t b hk
  ·exact r.few i b hb'
 ·obtain ⟨b,hb,hbl⟩:=hi
  obtain ⟨c,hc,hcl⟩:=hj
  rcases hin i b hb with ⟨t,rfl,ht,hk⟩ | hb' <;> rcases hin j c hc with ⟨u,rfl,hu,hk'⟩ | hc'
  ·rw [hnew t ht,hnew u hu] at he
   rw [k.inj t u ⟨b,hk,hbl⟩ ⟨c,hk',hcl⟩ he]
  ·rw [hnew t ht,hag j ⟨c,hc'⟩] at he
   exact absurd he (hne t ⟨b,hk,hbl⟩ j c hc' (by omega))
  ·rw [hnew u hu,hag i ⟨b,hb'⟩] at he
   exact absurd he.symm (hne u ⟨c,hk',hcl⟩ i b hb' (by omega))
  ·rw [hag i ⟨b,hb'⟩,hag j ⟨c,hc'⟩] at he
   exact r.inj i j ⟨b,hb',hbl⟩ ⟨c,hc',hcl⟩ he
 ·rcases hin i b hb with ⟨t,rfl,ht,hk⟩ | hb'
  ·have:=hl3 b (hmem t b hk);omega
  ·exact (r.win i b hb' h3).agree hag ⟨b,hb'⟩ (r.cok i b hb') rfl
 ·rcases hin j b hb with ⟨t,rfl,ht,hk⟩ | hb'
  ·have:=hl3 b (hmem t b hk);omega
  ·obtain ⟨c,hc,hcl⟩:=hi
   rw [hag j ⟨b,hb'⟩]
   rcases hin i c hc with ⟨u,rfl,hu,hk'⟩ | hc'
   ·rw [hnew u hu]
    exact hne u ⟨c,hk',hcl⟩ j b hb' (by omega)
   ·rw [hag i ⟨c,hc'⟩]
    exact r.sep i j b ⟨c,hc',hcl⟩ hb' h3
 ·refine ⟨l[t],?_⟩
  rw [hget1,if_pos (by omega),Nat.add_sub_cancel_left]
  exact List.getElem?_eq_getElem ht
 ·rcases hin i b hb with ⟨t,e,ht,_⟩ | hb'
  ·exact ⟨t,e,ht⟩
  ·exact absurd ⟨b,hb'⟩ hn
theorem view_core {P:Program} {T:TT} (hT:TTOk P T) {f:FuncId} {fn:Func} (hf:P.funcs[f]? = some fn) (hb:fn.body = some (bodyOf fn)) (hn:(fn.name == "runtime.NumGoroutine") = false)
  {args args':List AV} {h W:Heap} (outs:List Nat) (slot:Nat) (Bo:List Blk) (V0:AV) {ρ ρW:Ren} {w:World} (hr:RelH ρ h w) (rW:RelH ρW W w)
  (hW3:∀ i b,hget W i = some b->b.lo = 3∨b.lo = 0) (hWd:∀ i,i < W.length->Dm W i) (hin:∀ j,Dm W j->∃ i,Dm h i/\ρW j = ρ i)
  (hav:args'.map (AV.val ρW) = args.map (AV.val ρ)) (hab:∀ x ∈ args',x.ok (Dm W))
  (hBo:Bo.all (fun b=>plainCs b.cells && Nat.blt b.lo 3) = true) (hBo2:heapB (Bo.map some) 0 (Bo.map some) = true) (hV:avB (Bo.map some) V0 = true) (hol:outs.length = Bo.length)
  (hho:∀ t,t < Bo.length->isHole h (slot + t) = true)
  (hwalk:AWqS P (Dm W) (flatC (bodyOf fn)) (FEndM T fn (upto 0 W.length ++ outs) (mvAV W.length V0) (W ++ Bo.map some)) ⟨frame0 args' fn.ntmps,W⟩)
  (o:Oper) (a:Act) (next:Act->World->Prop) (Q:Exit->Act->World->Prop)
  (hnext:∀ ρ' w',StepR (Dm h) ρ w (Dm (fillH h slot Bo)) ρ' w'->RelH ρ' (fillH h slot Bo) w'->(mvAV slot V0).ok (Dm (fillH h slot Bo))->next (a.put o.dst ((mvAV slot V0).val ρ')) w') :
  o.upon P a next Q ((callFunc f (args.map (AV.val ρ)).toArray).run P w):=by
 rw [enter_run hf hb hn,Oper.upon_enter]
 refine calls_of_wp hf hb ?_
 have haok:=hab
 have hrel:Rel ρW ⟨frame0 args' fn.ntmps,W⟩ { tmps:=(args.map (AV.val ρ)).toArray ++ Array.replicate (fn.ntmps - (args.map (AV.val ρ)).toArray.size) undef,defers:=[] } w:=by
  refine ⟨?_,rfl,fun x hx=>?_,rW⟩
  ·have hl:args'.length = args.length:=by have:=congrArg List.length hav;simpa using this
   apply Array.ext'
   simp [frame0,hav,hl,undefA,AV.val,undef]
  ·unfold frame0 at hx
   rcases List.mem_append.1 hx with hx | hx
   ·exact haok x hx
   ·have:=(List.mem_replicate.1 hx).2
    subst this
    intro v hv;cases hv
 refine wp_mono (AWq.of_flat _ hwalk ρW w ρW _ w hrel (StepR.refl _ _ _)) fun e a' w' ⟨s',ρ',q,r',st⟩=>?_
 have fin:(chkB (upto 0 W.length ++ outs) (pickH (upto 0 W.length ++ outs) s'.h (upto 0 W.length ++ outs)) = true/\heapB (pickH (upto 0 W.length ++ outs) s'.h (upto 0 W.length ++ outs)) 0 (pickH (upto 0 W.length ++ outs) s'.h (upto 0 W.length ++ outs)) = true /\
   SimH (pickH (upto 0 W.length ++ outs) s'.h (upto 0 W.length ++ outs)) (W ++ Bo.map some)/\∃ v',resA T s' fn.results.toList = some v'/\avB (pickH (upto 0 W.length ++ outs) s'.h (upto 0 W.length ++ outs)) (bkAV (upto 0 W.length ++ outs) v') = true/\∀ ρ,(bkAV (upto 0 W.length ++ outs) v').val ρ = (mvAV W.length V0).val ρ) ->
   a'.defers = []/\∃ u,(results fn a'.tmps).run P w' = .ok u w'/\next (a.put o.dst u) w':=by
  intro ⟨q1,q1b,q2,v',q3,q3b,q4⟩
  have hres:=resA_run hT r' (fn:=fn) q3
  refine ⟨r'.defers,_,hres.1,?_⟩
  generalize hmc:upto 0 W.length ++ outs = mc at q1 q1b q2 q3b q4
  obtain ⟨rK0,hsubK0⟩:=r'.mem.view rfl q1 q1b
  have hmclen:mc.length = W.length + Bo.length:=by rw [<-hmc,List.length_append,length_upto,hol]
  unfold chkB at q1
  simp only [Bool.and_eq_true] at q1
  have hD1:∀ i,Dm (pickH mc s'.h mc) i->i < mc.length/\mc.length < 1000000:=fun i ⟨b,hg⟩=>⟨(hget_pickH hg).1,by rw [<-Nat.blt_eq];exact q1.2.2⟩
  have hKW:∀ i b,hget W i = some b->hget (W ++ Bo.map some) i = some b:=fun i b hb=>by rw [hget_app,if_pos (hget_lt hb)];exact hb
  have hmcW:∀ i,i < W.length->rnm mc ρ' i = ρW i:=fun i hi=>by
   simp only [rnm]
   rw [<-hmc,nthN_app (by rw [length_upto];exact hi),nthN_upto hi,Nat.zero_add]
   exact st.agree i (hWd i hi)
  have hmcO:∀ t,t < Bo.length->rnm mc ρ' (W.length + t) = ρ' (nthN outs t):=fun t ht=>by
   simp only [rnm]
   rw [<-hmc,nthN_app2 (by rw [length_upto];omega),length_upto,Nat.add_sub_cancel_left]
  have hkeep:∀ B,B < w.heap.size->w'.heap[B]? = w.heap[B]?:=fun B hB=>by
   by_cases hex:∃ j,Dm W j/\ρW j = B
   ·obtain ⟨j,⟨b,hj⟩,e⟩:=hex
    have hjl:=hget_lt hj
    obtain ⟨b0,hb0,ht,hlo,hhi,hcv⟩:=q2.at (hKW j b hj)
    have hag:cvals (rnm mc ρ') b.cells = cvals ρW b.cells:=cvals_agree (D:=Dm W) (fun t ⟨c,hc⟩=>hmcW t (hget_lt hc)) (rW.cok j b hj)
    rcases hW3 j b hj with h3 | h3
    ·obtain ⟨arr,fr,a1,a2,_⟩:=rW.win j b hj h3
     obtain ⟨arr',fr',b1,b2,_⟩:=rK0.win j b0 hb0 (by omega)
     rw [hmcW j hjl,e] at b1
     rw [e] at a1
     rw [hcv,hag,a2] at b2
     have e3:=wrapB_inj (Option.some.inj b2)
     rw [a1,b1,e3.1,e3.2,ht]
    ·have a1:=rW.row j b hj h3
     have b1:=rK0.row j b0 hb0 (by omega)
     rw [hmcW j hjl,e] at b1
     rw [e] at a1
     rw [a1,b1,hcv,hag,ht,hlo,hhi]
   ·exact st.keep B hB fun j hj e=>hex ⟨j,hj,e⟩
  have stF:StepR (fun _=>False) (fun _=>0) w (fun _=>False) (fun _=>0) w' :=
   ⟨fun _ _=>rfl,fun _ h=>h,st.size,st.os,st.tape,st.output,fun b hb _=>hkeep b hb,fun _ h=>h.elim⟩
  obtain ⟨hr1,st1⟩:=hr.keep stF
  have hBs:∀ b ∈ Bo,plainCs b.cells = true/\b.lo < 3:=fun b hb=>by
   have:=List.all_eq_true.1 hBo b hb
   simp only [Bool.and_eq_true,Nat.blt_eq] at this
   exact this
  have hKB:∀ t b,hget (Bo.map some) t = some b->hget (W ++ Bo.map some) (W.length + t) = some b:=fun t b hb=>by
   rw [hget_app,if_neg (by omega),Nat.add_sub_cancel_left];exact hb
  have hlB:∀ t b,hget (Bo.map some) t = some b->t < Bo.length/\b ∈ Bo:=fun t b hb=>by
   have h1:=hget_lt hb
   rw [hget_map] at hb
   exact ⟨by simpa using h1,List.mem_of_getElem? hb⟩
  have hokp:∀ b ∈ Bo,Go.Rq.cok (fun _=>False) b.cells:=fun b hb=>zok_of (v:=.agg b.cells) (hBs b hb).1
  have hplv:∀ b ∈ Bo,∀ ρ ρ',cvals ρ b.cells = cvals ρ' b.cells:=fun b hb ρ ρ'=>cvals_agree (D:=fun _=>False) (fun _ h=>h.elim) (hokp b hb)
  let σ:Ren:=fun t=>rnm mc ρ' (W.length + t)
  have hLK:∀ t,Lv (Bo.map some) t->Lv (pickH mc s'.h mc) (W.length + t):=fun t ⟨b,hb,hl⟩=>by
   obtain ⟨b0,e1,e2,e3,e4,e5⟩:=q2.at (hKB t b hb)
   exact ⟨b0,e1,by omega⟩
  have rB:RelH σ (Bo.map some) w':=by
   refine ⟨fun t b hb=>cok_mono (fun _ h=>h.elim) (hokp b (hlB t b hb).2),fun t b hb h0=>?_,fun t b hb h1=>?_,fun t b hb=>by have:=(hBs b (hlB t b hb).2).2;omega,fun i j hi hj he=>?_,fun t b hb h3=>?_,fun i j b hi hb h3=>?_⟩
   ·obtain ⟨b0,e1,e2,e3,e4,e5⟩:=q2.at (hKB t b hb)
    have:=rK0.row _ b0 e1 (by omega)
    rw [e2,e3,e4,e5,hplv b (hlB t b hb).2 _ σ] at this
    exact this
   ·obtain ⟨b0,e1,e2,e3,e4,e5⟩:=q2.at (hKB t b hb)
    obtain ⟨⟨cur,g1,g2,g3,g4,g5,g6⟩,g7⟩:=rK0.own _ b0 e1 (by omega)
    have hl:clen b0.cells = clen b.cells:=by rw [<-length_cvals fun _=>0,<-length_cvals fun _=>0,e5]
    have hd:=(heapB_spec hBo2 t b hb).2.2 h1
    rw [Nat.zero_add] at hd
    exact ⟨⟨cur,by rw [<-e2];exact g1,by rw [<-e4];exact g2,g3,g4,by rw [<-hl];exact g5,by rw [<-hl,g6,e5,hplv b (hlB t b hb).2 _ σ]⟩,hd⟩
   ·have:=rK0.inj _ _ (hLK i hi) (hLK j hj) he
    omega
   ·have:=(hBs b (hlB t b hb).2).2;omega
   ·have:=(hBs b (hlB j b hb).2).2;omega
  have hwinK:∀ j,Dm W j->∃ b0,hget (pickH mc s'.h mc) j = some b0/\(b0.lo = 3∨b0.lo = 0):=fun j ⟨b,hb⟩=>by
   obtain ⟨b0,e1,e2,e3,e4,e5⟩:=q2.at (hKW j b hb)
   exact ⟨b0,e1,by have:=hW3 j b hb;omega⟩
  have hnotW:∀ t,Lv (Bo.map some) t->∀ j,Dm W j->σ t ≠ ρW j:=fun t ht j hj e=>by
   obtain ⟨b0,e1,e2⟩:=hwinK j hj
   have e':rnm mc ρ' (W.length + t) = rnm mc ρ' j:=by rw [hmcW j (Dm_lt hj)];exact e
   rcases e2 with e2 | e2
   ·exact rK0.sep _ j b0 (hLK t ht) e1 e2 e'
   ·have:=rK0.inj _ _ (hLK t ht) ⟨b0,e1,by omega⟩ e'
    have:=Dm_lt hj
    omega
  have hfr:∀ t,t < Bo.length->Dm (Bo.map some) t->w.heap.size <= σ t∨∃ j,Dm W j/\σ t = ρW j:=fun t ht hd=>by
   have e:=hmcO t ht
   by_cases hdw:Dm W (nthN outs t)
   ·exact .inr ⟨_,hdw,by show rnm mc ρ' (W.length + t) = _;rw [e,st.agree _ hdw]⟩
   ·have hdd:Dm s'.h (nthN outs t):=by
     obtain ⟨b,hb⟩:=hd
     obtain ⟨b0,e1,_⟩:=q2.at (hKB t b hb)
     have:=hsubK0 _ ⟨b0,e1⟩
     rw [<-hmc,nthN_app2 (by rw [length_upto];omega),length_upto,Nat.add_sub_cancel_left] at this
     exact this
    rcases st.fresh _ hdd hdw with h3 | ⟨j,h3,h4⟩
    ·exact .inl (by show _ <= rnm mc ρ' (W.length + t);rw [e];exact h3)
    ·exact .inr ⟨j,h3,by show rnm mc ρ' (W.length + t) = _;rw [e,h4]⟩
  have hfrL:∀ t,Lv (Bo.map some) t->w.heap.size <= σ t:=fun t ht=>by
   have hl:t < Bo.length:=by have:=Dm_lt ht.dm;simpa using this
   rcases hfr t hl ht.dm with h1 | ⟨j,h1,h2⟩
   ·exact h1
   ·exact absurd h2 (hnotW t ht j h1)
  let ρ2:Ren:=fun i=>if slot <= i/\i < slot + Bo.length then σ (i - slot) else ρ i
  have hnd:∀ i,Dm h i->¬ (slot <= i/\i < slot + Bo.length):=fun i ⟨b,hb⟩ hi=>by
   have:=(isHole_lt (hho (i - slot) (by omega))).2
   rw [show slot + (i - slot) = i by omega,hb] at this
   cases this
  have hag:Agree (Dm h) ρ ρ2:=fun i hi=>if_neg (hnd i hi)
  have hnew:∀ t,t < Bo.length->ρ2 (slot + t) = σ t:=fun t ht=>by
   show (if _ then _ else _) = _
   rw [if_pos (by omega),Nat.add_sub_cancel_left]
  obtain ⟨rF,hF1,hF2,hF3⟩:=hr1.fill rB (fun b hb=>(hBs b hb).1) (fun b hb=>(hBs b hb).2) hho (fun t ht i b hi hl e=>by
   have h1:=hfrL t ht
   have h2:ρ i < w.heap.size:=by
    by_cases h3:b.lo = 3
    ·exact hr.ltW hi h3
    ·exact hr.lt ⟨b,hi,by have:=hr.few i b hi;omega⟩
   omega) hag hnew
  have hvok:V0.ok (Dm (Bo.map some)):=avB_spec hV
  have hlt:∀ t,Dm (Bo.map some) t->t < Bo.length:=fun t ht=>by have:=Dm_lt ht;simpa using this
  have hstep:StepR (Dm h) ρ w (Dm (fillH h slot Bo)) ρ2 w':=by
   refine ⟨hag,hF1,st.size,st.os,st.tape,st.output,fun b hb _=>hkeep b hb,fun i hi hni=>?_⟩
   obtain ⟨t,rfl,ht⟩:=hF3 i hi hni
   rw [hnew t ht]
   rcases hfr t ht ⟨Bo[t],by rw [hget_map];exact List.getElem?_eq_getElem ht⟩ with h1 | ⟨j,h1,h2⟩
   ·exact .inl h1
   ·obtain ⟨i,hi,e⟩:=hin j h1
    exact .inr ⟨i,hi,by rw [h2,e]⟩
  have:=hnext ρ2 w' hstep rF (mvAV_ok (D:=Dm (Bo.map some)) (fun t ht=>hF2 t (hlt t ht)) hvok)
  have e1:v'.val ρ' = (mvAV slot V0).val ρ2:=by
   rw [<-bkAV_val (ρ:=ρ') hD1 (avB_spec q3b),q4,mvAV_val,mvAV_val]
   exact (AV.val_agree (D:=Dm (Bo.map some)) (ρ:=fun i=>rnm mc ρ' (W.length + i)) (ρ':=fun i=>ρ2 (slot + i)) (fun t ht=>hnew t (hlt t ht)) hvok).symm
  rw [e1]
  exact this
 cases e with
 | normal=>exact fin q
 | ret=>exact fin q
 | exit j=>exact q.elim
 | goto l=>exact q.elim
 | panic ch=>exact q.elim
 | outgrown=>exact q.elim
end Go.Rq
namespace Go.Rq
open Go
def eqHs (h:Heap) (P:Prop):Nat->Heap->Prop
 | _,[]=>P
 | i,x :: r=>hget h i = x/\eqHs h P (i + 1) r
def FEndV (T:TT) (fn:Func) (v:AV) (W:Heap):Exit->AS->Prop
 | .normal,s | .ret,s=>eqHs s.h (∃ v',resA T s fn.results.toList = some v'/\vokB v' = true/\∀ ρ,v'.val ρ = v.val ρ) 0 W
 | _,_=>False
def plainH:Heap->Bool
 | []=>true
 | none :: r=>plainH r
 | some b :: r=>plainCs b.cells && plainH r
theorem eqHs_spec {h:Heap} {P:Prop}:∀ {W:Heap} {k:Nat},eqHs h P k W->P/\∀ i,i < W.length->hget h (k + i) = hget W i
 | [],_,e=>⟨e,fun i hi=>absurd hi (Nat.not_lt_zero _)⟩
 | x :: r,k,e=>by
  obtain ⟨h1,h2⟩:=eqHs_spec (W:=r) (k:=k + 1) e.2
  refine ⟨h1,fun i hi=>?_⟩
  cases i with
  | zero=>exact e.1
  | succ i =>
   have:=h2 i (by simpa using hi)
   rw [show k + (i + 1) = k + 1 + i by omega,this];rfl
theorem pick_same {m:List Nat} {h:Heap}:∀ {W:Heap} {k:Nat},plainH W = true->(∀ i,i < W.length->hget h (k + i) = hget W i)->pickH m h (upto k W.length) = W
 | [],_,_,_=>rfl
 | x :: r,k,hp,e=>by
  have h0:=e 0 (by simp)
  simp only [List.length_cons,upto,pickH]
  have hr:plainH r = true:=by
   cases x with
   | none=>exact hp
   | some b=>unfold plainH at hp;simp only [Bool.and_eq_true] at hp;exact hp.2
  rw [pick_same (W:=r) (k:=k + 1) hr fun i hi=>by
   have:=e (i + 1) (by simpa using hi)
   rw [show k + 1 + i = k + (i + 1) by omega,this];rfl]
  congr 1
  rw [Nat.add_zero] at h0
  rw [h0]
  cases x with
  | none=>rfl
  | some b =>
   unfold plainH at hp
   simp only [Bool.and_eq_true] at hp
   show some (bkBlk m b) = some b
   unfold bkBlk
   rw [bkCells_plain hp.1]
theorem mvSc_plain {k:Nat} {s:Sc} (h:zokS s = true):mvSc k s = s:=by
 cases s with
 | fn f caps =>
  cases caps with
  | nil=>rfl
  | cons c r=>cases h
 | pt _ _=>cases h
 | sl _ _ _ _=>cases h
 | so _ _=>cases h
 | sv _ _ _=>cases h
 | _=>rfl
theorem mvCells_plain {k:Nat}:∀ {cs:List Cell},plainCs cs = true->mvCells k cs = cs
 | [],_=>rfl
 | c :: r,h=>by
  unfold plainCs zokB at h
  simp only [List.all_cons,Bool.and_eq_true] at h
  have hr:mvCells k r = r:=mvCells_plain (cs:=r) h.2
  simp only [mvCells,hr]
  congr 1
  cases c with
  | ws _ n f=>rfl
  | one s=>exact congrArg Cell.one (mvSc_plain h.1)
theorem mvV1_plain {k:Nat} {v:V1} (h:zokB v = true):mvV1 k v = v:=by
 cases v with
 | sc s=>exact congrArg V1.sc (mvSc_plain h)
 | agg cs=>exact congrArg V1.agg (mvCells_plain h)
theorem mvAV_plain {k:Nat} {v:AV} (h:vokB v = true):mvAV k v = v:=by
 cases v with
 | v1 v=>exact congrArg AV.v1 (mvV1_plain h)
 | tup l =>
  unfold vokB at h
  have key:∀ l:List V1,l.all zokB = true->mvV1s k l = l:=by
   intro l
   induction l with
   | nil=>intro _;rfl
   | cons v r ih =>
    intro h
    simp only [List.all_cons,Bool.and_eq_true] at h
    simp only [mvV1s,mvV1_plain h.1,ih h.2]
  exact congrArg AV.tup (key l h)
 | raw v=>rfl
theorem simH_refl:∀ W:Heap,SimH W W
 | []=>trivial
 | none :: r=>⟨trivial,simH_refl r⟩
 | some _ :: r=>⟨⟨rfl,rfl,rfl,fun _=>rfl⟩,simH_refl r⟩
theorem rd_view {P:Program} {T:TT} (hT:TTOk P T) {f:FuncId} {fn:Func} (hf:P.funcs[f]? = some fn) (hb:fn.body = some (bodyOf fn)) (hn:(fn.name == "runtime.NumGoroutine") = false)
  {args:List AV} {h:Heap} {v:AV} (hv:vokB v = true)
  (hex:∀ ρ w,RelH ρ h w->∃ (ρW:Ren) (W:Heap) (args':List AV),RelH ρW W w/\(∀ i b,hget W i = some b->b.lo = 3∨b.lo = 0)/\(∀ i,i < W.length->Dm W i)/\(∀ j,Dm W j->∃ i,Dm h i/\ρW j = ρ i) /\
   args'.map (AV.val ρW) = args.map (AV.val ρ)/\args'.all (avB W) = true/\plainH W = true/\chkB (upto 0 W.length) W = true/\heapB W 0 W = true /\
   AWqS P (Dm W) (flatC (bodyOf fn)) (FEndV T fn v W) ⟨frame0 args' fn.ntmps,W⟩):CallOk P f args h v h:=by
 intro ρ w hr _ o a next Q hnext
 obtain ⟨ρW,W,args',rW,hW3,hWd,hin,hav,hab,hpl,hck,hhb,hwalk⟩:=hex ρ w hr
 have hmv:∀ k,mvAV k v = v:=fun k=>mvAV_plain hv
 have hW:upto 0 W.length ++ ([]:List Nat) = upto 0 W.length:=List.append_nil _
 refine view_core hT hf hb hn (args':=args') (W:=W) [] 0 [] v hr rW hW3 hWd hin hav (fun x hx=>avB_spec (List.all_eq_true.1 hab x hx)) rfl rfl (avB_plain hv) rfl (fun t ht=>absurd ht (Nat.not_lt_zero _)) ?_ o a next Q ?_
 ·rw [hW,hmv,List.map_nil,List.append_nil]
  refine hwalk.mono fun e s q=>?_
  have key:eqHs s.h (∃ v',resA T s fn.results.toList = some v'/\vokB v' = true/\∀ ρ,v'.val ρ = v.val ρ) 0 W->chkB (upto 0 W.length) (pickH (upto 0 W.length) s.h (upto 0 W.length)) = true/\heapB (pickH (upto 0 W.length) s.h (upto 0 W.length)) 0 (pickH (upto 0 W.length) s.h (upto 0 W.length)) = true/\SimH (pickH (upto 0 W.length) s.h (upto 0 W.length)) W /\
    ∃ v',resA T s fn.results.toList = some v'/\avB (pickH (upto 0 W.length) s.h (upto 0 W.length)) (bkAV (upto 0 W.length) v') = true/\∀ ρ,(bkAV (upto 0 W.length) v').val ρ = v.val ρ:=by
   intro q
   obtain ⟨⟨v',q2,q3,q4⟩,q5⟩:=eqHs_spec q
   have e:pickH (upto 0 W.length) s.h (upto 0 W.length) = W:=pick_same hpl q5
   rw [e]
   exact ⟨hck,hhb,simH_refl W,v',q2,by rw [bkAV_plain q3];exact avB_plain q3,fun ρ=>by rw [bkAV_plain q3];exact q4 ρ⟩
  cases e with
  | normal=>exact key q
  | ret=>exact key q
  | exit j=>exact q.elim
  | goto l=>exact q.elim
  | panic ch=>exact q.elim
  | outgrown=>exact q.elim
 ·intro ρ' w' h1 h2 h3
  rw [hmv] at h3 ⊢
  exact hnext ρ' w' h1 h2 h3
def SeeB (ρ:Ren) (h:Heap) (w:World) (i:Nat) (x:Option Blk):Prop :=
 ∃ b,x = some b/\plainCs b.cells = true/\((b.lo = 0/\hget h i = some b)∨(b.lo = 3/\(Lv h i∨∃ c,hget h i = some c/\c.lo = 3)/\WinAt ρ i b w))
theorem plain_cvals {cs:List Cell} (hp:plainCs cs = true) (ρ ρ':Ren):cvals ρ cs = cvals ρ' cs :=
 cvals_agree (D:=fun _=>False) (fun _ h=>h.elim) (zok_of (v:=.agg cs) hp)
theorem see_rel {ρ:Ren} {h:Heap} {w:World} (hr:RelH ρ h w) {ms:List Nat} {W:Heap} (hl:W.length = ms.length) (hnd:nodupB ms = true) (hs:∀ j,j < W.length->SeeB ρ h w (nthN ms j) (hget W j)) :
  RelH (rnm ms ρ) W w/\(∀ i b,hget W i = some b->b.lo = 3∨b.lo = 0)/\(∀ i,i < W.length->Dm W i)/\(∀ j,Dm W j->∃ i,Dm h i/\rnm ms ρ j = ρ i):=by
 have get:∀ j b,hget W j = some b->j < ms.length/\plainCs b.cells = true/\((b.lo = 0/\hget h (nthN ms j) = some b)∨(b.lo = 3/\(Lv h (nthN ms j)∨∃ c,hget h (nthN ms j) = some c/\c.lo = 3)/\WinAt ρ (nthN ms j) b w)):=fun j b hb=>by
  have hj:=hget_lt hb
  obtain ⟨c,e,h1,h2⟩:=hs j hj
  rw [hb] at e
  cases e
  exact ⟨by omega,h1,h2⟩
 have live:∀ i,Lv W i->i < ms.length/\Lv h (nthN ms i):=fun i ⟨b,hb,hbl⟩=>by
  obtain ⟨h1,h2,h3⟩:=get i b hb
  refine ⟨h1,?_⟩
  rcases h3 with ⟨h3,h4⟩ | ⟨h3,_⟩
  ·exact ⟨b,h4,hbl⟩
  ·omega
 refine ⟨⟨fun j b hb=>?_,fun j b hb h0=>?_,fun j b hb h1=>?_,fun j b hb=>?_,fun i j hi hj he=>?_,fun j b hb h3=>?_,fun i j b hi hb h3 he=>?_⟩,fun j b hb=>?_,fun i hi=>?_,fun j ⟨b,hb⟩=>?_⟩
 ·exact cok_mono (fun _ h=>h.elim) (zok_of (v:=.agg b.cells) (get j b hb).2.1)
 ·obtain ⟨_,h1,h2⟩:=get j b hb
  rcases h2 with ⟨_,h3⟩ | ⟨h3,_⟩
  ·rw [plain_cvals h1 (rnm ms ρ) ρ];exact hr.row _ b h3 h0
  ·omega
 ·obtain ⟨_,_,h2⟩:=get j b hb
  omega
 ·obtain ⟨_,_,h2⟩:=get j b hb
  omega
 ·obtain ⟨h1,h2⟩:=live i hi
  obtain ⟨h3,h4⟩:=live j hj
  exact nodupB_spec hnd i j h1 h3 (hr.inj _ _ h2 h4 he)
 ·obtain ⟨_,h1,h2⟩:=get j b hb
  rcases h2 with ⟨h2,_⟩ | ⟨_,_,arr,fr,a1,a2,a3⟩
  ·omega
  ·refine ⟨arr,fr,a1,?_,?_⟩
   ·rw [plain_cvals h1 (rnm ms ρ) ρ];exact a2
   ·rw [plain_cvals h1 (rnm ms ρ) ρ];exact a3
 ·obtain ⟨h1,h2⟩:=live i hi
  obtain ⟨k1,k2,k3⟩:=get j b hb
  rcases k3 with ⟨k3,_⟩ | ⟨_,hl | ⟨c,hc,h4⟩,_⟩
  ·omega
  ·have:=nodupB_spec hnd i j h1 k1 (hr.inj _ _ h2 hl he)
   subst this
   obtain ⟨b',hb',hl'⟩:=hi
   rw [hb] at hb';cases hb';omega
  ·exact hr.sep _ _ c h2 hc h4 he
 ·obtain ⟨_,_,h2⟩:=get j b hb
  omega
 ·obtain ⟨b,e,_⟩:=hs i hi
  exact ⟨b,e⟩
 ·obtain ⟨_,_,h2⟩:=get j b hb
  refine ⟨nthN ms j,?_,rfl⟩
  rcases h2 with ⟨_,h3⟩ | ⟨_,⟨c,h3,_⟩ | ⟨c,h3,_⟩,_⟩
  ·exact ⟨b,h3⟩
  ·exact ⟨c,h3⟩
  ·exact ⟨c,h3⟩
theorem see_row {ρ:Ren} {h:Heap} {w:World} {i:Nat} {b:Blk} (hb:hget h i = some b) (h0:b.lo = 0) (hp:plainCs b.cells = true):SeeB ρ h w i (some b):=⟨b,rfl,hp,.inl ⟨h0,hb⟩⟩
theorem rd_slsl {P:Program} {T:TT} (hT:TTOk P T) {f:FuncId} {fn:Func} (hf:P.funcs[f]? = some fn) (hb:fn.body = some (bodyOf fn)) (hn:(fn.name == "runtime.NumGoroutine") = false)
  {pre:List AV} {h:Heap} {v:AV} (hv:vokB v = true) (hpre:pre.all vokB = true) {b c n m:Nat} (hbc:Nat.beq b c = false) {x y:Blk} (hgb:hget h b = some x) (hgc:hget h c = some y) (lx:x.lo = 0) (ly:y.lo = 0)
  (hx:plainCs x.cells = true) (hy:plainCs y.cells = true)
  (hwalk:AWqS P (Dm [some x,some y]) (flatC (bodyOf fn)) (FEndV T fn v [some x,some y]) ⟨frame0 (pre ++ [.v1 (.sc (.sl 0 0 n n)),.v1 (.sc (.sl 1 0 m m))]) fn.ntmps,[some x,some y]⟩) :
  CallOk P f (pre ++ [.v1 (.sc (.sl b 0 n n)),.v1 (.sc (.sl c 0 m m))]) h v h:=by
 refine rd_view hT hf hb hn hv fun ρ w hr=>?_
 have hnd:nodupB [b,c] = true:=by simp only [nodupB,notIn,hbc]
 obtain ⟨r1,r2,r3,r4⟩:=see_rel hr (ms:=[b,c]) (W:=[some x,some y]) rfl hnd fun j hj=>by
  match j,hj with
  | 0,_=>exact see_row hgb lx hx
  | 1,_=>exact see_row hgc ly hy
 refine ⟨_,_,pre ++ [.v1 (.sc (.sl 0 0 n n)),.v1 (.sc (.sl 1 0 m m))],r1,r2,r3,r4,?_,?_,?_,?_,?_,hwalk⟩
 ·rw [List.map_append,List.map_append]
  congr 1
  refine List.map_congr_left fun x hx=>?_
  exact AV.val_agree (D:=fun _=>False) (fun _ h=>h.elim) (vok_of (List.all_eq_true.1 hpre x hx))
 ·rw [List.all_append,Bool.and_eq_true]
  exact ⟨List.all_eq_true.2 fun x hx=>avB_plain (List.all_eq_true.1 hpre x hx),rfl⟩
 ·show (plainCs x.cells && (plainCs y.cells && true)) = true
  rw [hx,hy];rfl
 ·show (nodupB [0,1] && (nextB [0,1] _ && _)) = true
  unfold nextB nextB
  rw [lx,ly]
  rfl
 ·show (cellsB _ x.cells && (ownB _ _ x.lo && (cellsB _ y.cells && (ownB _ _ y.lo && true)))) = true
  rw [cellsB_plain hx,cellsB_plain hy,lx,ly]
  rfl
end Go.Rq
namespace Go.Proofs.YtnjocbcjejpklaaGreat
open Go.Rq Go
set_option maxRecDepth 100000
set_option linter.unusedVariables false
set_option linter.unusedSimpArgs false
set_option maxHeartbeats 4000000
set_option maxRecDepth 100000
def endR2 (a b:AV):Prop:=∃ v',some a = some v'/\vokB v' = true/\∀ ρ,v'.val ρ = b.val ρ
theorem keepS {h:Heap} {s i:Nat} {b:Blk} (hs:isHole h s = true) (hi:Dm h i):hget (hset h s b) i = hget h i :=
 hget_hset_ne fun e=>by
  obtain ⟨c,hc⟩:=hi
  rw [e,(isHole_lt hs).2] at hc;cases hc
end Go.Proofs.YtnjocbcjejpklaaGreat
