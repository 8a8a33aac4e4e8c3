/- Layer 11, plain: what a look at a heap finds. No conditions. -/
import Derived.Test.YtpgjploaliefdaaGreatHa
import Derived.Test.YtpgjploaliefdaaGreatG03
import Derived.Test.YtpgjploaliefdaaGreatMp
namespace Go.Proofs.YtpgjploaliefdaaGreat.cp
open Go hp ob hd
set_option linter.unusedVariables false
set_option linter.unusedSimpArgs false
structure Hp where
 base:Int
 cap:Int
 tt:Int
 dJ:Bool
 scan:Int
 low:List Int
 high:List Int
 old:List Int
 far:List Int
 roots:List Int
def Hp.lay(h:Hp):Lay:=⟨h.base,h.cap,h.tt,h.low.length,h.high.length,h.old.length,h.far.length⟩
def Hp.part(h:Hp)(p:Nat):List Int:=if p=1 then h.low else if p=2 then h.high else if p=3 then h.old else h.far
structure dS where
 o1:List Ob
 o2:List Ob
 o3:List Ob
 o4:List Ob
 pf:Int->Option Int
 lf:Int->Option (Int×Int)
def dS.obs(s:dS)(p:Nat):List Ob:=if p=1 then s.o1 else if p=2 then s.o2 else if p=3 then s.o3 else s.o4
def dS.nil:dS:=⟨[],[],[],[],λ_=>none,λ_=>none⟩
def qI(L:Lay)(p at_:Int):Int:=if 0<=at_/\at_<jG L p then aA L p+at_ else 0
def I9(f:Int->Option Int)(a q:Int):Int->Option Int:=λx=>if x=a then some q else f x
def KZ(f:Int->Option (Int×Int))(a:Int)(q:Int×Int):Int->Option (Int×Int):=λx=>if x=a then some q else f x
def eX(L:Lay)(p:Int):List Ob->(Int->Option Int)->Int->Option Int
 |[],f=>f
 |o::l,f=>eX L p l (I9 f (qI L p o.pos) p)
def gY(L:Lay):List Ob->(Int->Option (Int×Int))->Int->Option (Int×Int)
 |[],f=>f
 |o::l,f=>gY L l (KZ f (qI L 1 o.pos) (o.s,o.p))
def dS.note(s:dS)(L:Lay)(p:Nat)(l:List Ob):dS:=
 ⟨if p=1 then l else s.o1,if p=2 then l else s.o2,if p=3 then l else s.o3,if p=4 then l else s.o4,eX L p l s.pf,if p=1 then gY L l s.lf else s.lf⟩
def dD(lf:Int->Option (Int×Int))(zs:List Int):Nat->Nat->List (Int×Int)->List (Int×Int)
 |0,_,acc=>acc
 |f+1,at_,acc=>if at_<zs.length then
   (if mD (zs.getD at_ 0)=0 then
    (match lf (gB (zs.getD at_ 0))with
    |none=>acc
    |some sp=>dD lf zs f (at_+1+sp.1.toNat) (acc++[sp]))
   else if rE (zs.getD at_ 0)=0 then dD lf zs f (at_+1+(rD (zs.getD at_ 0)).toNat) acc else acc)
  else acc
def dM(lf:Int->Option (Int×Int))(zs:List Int):List (Int×Int):=dD lf zs (zs.length+1) 0 []
def aP(pf:Int->Option Int)(x a b:Int):Bool:=decide (x=0)||(decide (mD x=0)&&(match pf (gB x)with|none=>false|some q=>decide (a<=q/\q<=b)))
def qg(P:Int->Int->Bool)(zs:List Int)(o:Ob)(n:Nat):Bool:=(List.range n).all λi=>P (o.pos+1+i) (zs.getD (o.pos.toNat+1+i) 0)
def aB(P:Int->Int->Bool)(zs:List Int)(os:List Ob):Bool:=os.all λo=>o.g||qg P zs o o.p.toNat
def bM(os:List Ob):Int:=os.foldl (λn o=>if o.g then n else n+(1+o.s)) 0
def mF(h:Hp)(p:Nat)(s:dS):TI:=if p<=2 then newF (h.part p)else iq (h.part p) (dM s.lf (h.part p))
def jD(h:Hp)(p:Nat)(s:dS):Option dS:=
 match mF h p s with
 | .ok l _=>some (s.note h.lay p l)
 | .err _ _=>none
def iw(h:Hp):Nat->Option dS
 |0=>some dS.nil
 |k+1=>(iw h k).bind (jD h (k+1))
theorem sG{h:Hp}{k:Nat}(e:iw h k=none):∀{n:Nat},k<=n->iw h n=none
 |0,hn=>by obtain rfl:k=0:=by omega
           exact e
 |n+1,hn=>by
  rcases Nat.lt_or_ge n k with h1|h1
  ·obtain rfl:k=n+1:=by omega
   exact e
  ·show(iw h n).bind _=none
   rw[sG e h1];rfl
def iL(pf:Int->Option Int):List Ob->(Int->Bool)->Nat->Option Nat
 |[],t,n=>some n
 |o::l,t,n=>if o.g then(if(pf o.t).getD 0=1/\t o.t=false then iL pf l (λx=>decide (x=o.t)||t x) (n+1)else none)else iL pf l t n
def aZ(h:Hp):Bool:=fZ h.lay&&decide (h.roots.length<=16/\0<=h.scan/\h.scan<=h.low.length)
def bW(h:Hp):Bool:=if h.dJ then decide (h.scan<h.low.length)else decide (h.old.length=0/\h.far.length=0/\h.scan=h.low.length)
def iH(h:Hp)(s:dS):Bool:= !h.dJ||decide (iL s.pf (s.o3++s.o4) (λ_=>false) 0=some s.o1.length)
def fM(h:Hp)(s:dS):Bool:=h.roots.all (λx=>aP s.pf x 1 2)&&(aB (λ_ x=>aP s.pf x 1 2) h.high s.o2&&aB (λat_ x=>decide (h.scan<=at_)||aP s.pf x 1 2) h.low s.o1)
def dO(h:Hp)(s:dS):Bool:=aB (λat_ x=>decide (at_<h.scan)||aP s.pf x 1 4) h.low s.o1
def leftB(h:Hp)(s:dS):Bool:=aB (λ_ x=>aP s.pf x 3 4) h.old s.o3&&aB (λ_ x=>aP s.pf x 3 4) h.far s.o4
def kS(h:Hp)(s:dS):Bool:=decide (h.low.length+h.high.length+bM (s.o3++s.o4)<=h.cap)
def uO(h:Hp)(i:Nat)(s:dS):Option dS:=
 if i=0 then(if aZ h then some s else none)else if i=1 then(if bW h then some s else none)else if i=2 then iw h 4 else if i=3 then(if iH h s then some s else none)
 else if i=4 then(if fM h s then some s else none)else if i=5 then(if dO h s then some s else none)else if i=6 then(if leftB h s then some s else none)else(if kS h s then some s else none)
def looks(h:Hp):Nat->Option dS
 |0=>some dS.nil
 |k+1=>(looks h k).bind (uO h k)
theorem iZ{h:Hp}{k:Nat}(e:looks h k=none):∀{n:Nat},k<=n->looks h n=none
 |0,hn=>by obtain rfl:k=0:=by omega
           exact e
 |n+1,hn=>by
  rcases Nat.lt_or_ge n k with h1|h1
  ·obtain rfl:k=n+1:=by omega
   exact e
  ·show(looks h n).bind _=_
   rw[iZ e h1];rfl
theorem gq{h:Hp}{k:Nat}{s:dS}(e:looks h (k+1)=some s):∃s0,looks h k=some s0/\uO h k s0=some s:=by
 have e:(looks h k).bind (uO h k)=some s:=e
 rcases hk:looks h k with _|s0
 ·rw[hk]at e;cases e
 ·rw[hk]at e
  exact⟨s0,rfl,e⟩
def dZ(h:Hp):Option dS:=looks h 8
def lM(n:Nat)(o:Ob):Prop:=0<=o.pos/\0<=o.s/\o.s<=255/\0<=o.p/\o.p<=o.s/\o.pos+1+o.s<=n
theorem Aw{bg:Nat->Nat->Int->Option (Ob×Nat)}{zs:List Int}{len:Nat}(hbg:∀k pos x o k',bg k pos x=some (o,k')->o.pos=pos/\0<=o.s/\o.s<=255/\0<=o.p/\o.p<=o.s):
  ∀{f k pos:Nat}{acc l:List Ob}{k2:Nat},(∀o∈acc,lM len o)->acc.length<=pos->aV bg zs len f k pos acc=.ok l k2->(∀o∈l,lM len o)/\(pos<=len->l.length<=len)
 |0,k,pos,acc,l,k2,ha,hn,h=>by cases h
 |f+1,k,pos,acc,l,k2,ha,hn,h=>by
  by_cases hp:pos<len
  ·rw[fC hp]at h
   split at h
   ·cases h
   ·rename_i o k' hb
    obtain⟨h1,h2,h3,h4,h5⟩:=hbg _ _ _ _ _ hb
    split at h
    ·cases h
    ·rename_i hfit
     split at h
     ·have:=Aw hbg (acc:=acc++[o]) (λo' ho'=>by
       rcases List.mem_append.1 ho' with h6|h6
       ·exact ha _ h6
       ·simp at h6;subst h6
        exact⟨by omega,h2,h3,h4,h5,by omega⟩) (by simp;omega) h
      exact⟨this.1,λ_=>this.2 (by omega)⟩
     ·cases h
  ·rw[gQ hp]at h
   cases h
   exact⟨ha,λh=>by omega⟩
theorem G9(k pos:Nat)(x:Int)(o:Ob)(k':Nat)(h:oL k pos x=some (o,k')):o.pos=pos/\0<=o.s/\o.s<=255/\0<=o.p/\o.p<=o.s:=by
 unfold oL at h
 split at h
 ·rename_i hu
  cases h
  have h2:=hu
  simp only[jF,Bool.and_eq_true]at h2
  obtain⟨h3,h4,h5,h6⟩:=kJ h2.2
  refine⟨rfl,?_⟩
  simp only[rD,BL,hu,if_true]
  exact⟨h3,h4,h5,h6⟩
 ·cases h
theorem Oq(n:Nat)(ss:List (Int×Int))(k pos:Nat)(x:Int)(o:Ob)(k':Nat)(h:jP n ss k pos x=some (o,k')):o.pos=pos/\0<=o.s/\o.s<=255/\0<=o.p/\o.p<=o.s:=by
 unfold jP at h
 split at h
 ·split at h
  ·rename_i hu
   cases h
   obtain⟨h3,h4,h5,h6⟩:=kJ hu.2
   exact⟨rfl,h3,h4,h5,h6⟩
  ·cases h
 ·exact G9 _ _ _ _ _ h
theorem nY{zs:List Int}{l:List Ob}{k:Nat}(h:newF zs=.ok l k):(∀o∈l,lM zs.length o)/\l.length<=zs.length:=by
 have:=Aw G9 (acc:=[]) (λo ho=>by simp at ho) (Nat.zero_le _) h
 exact⟨this.1,this.2 (Nat.zero_le _)⟩
theorem pJ{n k j:Nat}{a l:List Ob}(h:jv n (.ok a k)=.ok l j):l=a:=by
 by_cases hk:k<n
 ·rw[show jv n (.ok a k)=.err 3 k from by simp[jv,hk]]at h;cases h
 ·rw[show jv n (.ok a k)=.ok a k from by simp[jv,hk]]at h;cases h;rfl
theorem nZ{zs:List Int}{ss:List (Int×Int)}{l:List Ob}{k:Nat}(h:iq zs ss=.ok l k):(∀o∈l,lM zs.length o)/\l.length<=zs.length:=by
 unfold iq at h
 generalize hw:aV (jP ss.length ss) zs zs.length (zs.length+1) 0 0 []=r at h
 rcases r with⟨l',k'⟩|⟨c,k'⟩
 ·obtain rfl:=pJ h
  have:=Aw (Oq _ _) (acc:=[]) (λo ho=>by simp at ho) (Nat.zero_le _) hw
  exact⟨this.1,this.2 (Nat.zero_le _)⟩
 ·cases h
theorem abE{h:Hp}{p:Nat}{s:dS}{l:List Ob}{k:Nat}(e:mF h p s=.ok l k):(∀o∈l,lM (h.part p).length o)/\l.length<=(h.part p).length:=by
 unfold mF at e
 split at e
 ·exact nY e
 ·exact nZ e
theorem Uc{L:Lay}{p:Int}:∀{l:List Ob}{f:Int->Option Int}{a q:Int},eX L p l f a=some q->q=p\/f a=some q
 |[],f,a,q,h=>.inr h
 |o::l,f,a,q,h=>by
  rcases Uc (l:=l) h with h1|h1
  ·exact .inl h1
  ·unfold I9 at h1
   split at h1
   ·cases h1;exact .inl rfl
   ·exact .inr h1
theorem Ud{L:Lay}{n:Nat}:∀{l:List Ob}{f:Int->Option (Int×Int)}{a:Int}{q:Int×Int},(∀o∈l,lM n o)->(∀a q,f a=some q->0<=q.1/\q.1<=255)->gY L l f a=some q->0<=q.1/\q.1<=255
 |[],f,a,q,hl,hf,h=>hf _ _ h
 |o::l,f,a,q,hl,hf,h=>by
  refine Ud (l:=l) (λo' h'=>hl _ (List.mem_cons_of_mem _ h')) (λa' q' h'=> ?_) h
  unfold KZ at h'
  split at h'
  ·cases h'
   have:=hl o (by simp)
   exact⟨this.2.1,this.2.2.1⟩
  ·exact hf _ _ h'
end Go.Proofs.YtpgjploaliefdaaGreat.cp
namespace Go.Proofs.YtpgjploaliefdaaGreat.cp
open Go hp ob hd
set_option linter.unusedVariables false
set_option linter.unusedSimpArgs false
def iD(len:Nat):Nat->List Ob->Prop
 |pos,[]=>pos=len
 |pos,o::l=>o.pos=pos/\(0<=o.s/\o.s<=255/\0<=o.p/\o.p<=o.s)/\pos+1+o.s.toNat<=len/\iD len (pos+1+o.s.toNat) l
theorem vK{bg:Nat->Nat->Int->Option (Ob×Nat)}{zs:List Int}{len:Nat}(hbg:∀k pos x o k',bg k pos x=some (o,k')->o.pos=pos/\0<=o.s/\o.s<=255/\0<=o.p/\o.p<=o.s):
  ∀{f k pos:Nat}{acc l:List Ob}{k2:Nat},pos<=len->aV bg zs len f k pos acc=.ok l k2->∃l',l=acc++l'/\iD len pos l'
 |0,k,pos,acc,l,k2,hn,h=>by cases h
 |f+1,k,pos,acc,l,k2,hn,h=>by
  by_cases hp:pos<len
  ·rw[fC hp]at h
   split at h
   ·cases h
   ·rename_i o k' hb
    obtain⟨h1,h2,h3,h4,h5⟩:=hbg _ _ _ _ _ hb
    split at h
    ·cases h
    ·rename_i hfit
     split at h
     ·obtain⟨l',rfl,hc⟩:=vK hbg (acc:=acc++[o]) (by omega) h
      exact⟨o::l',by simp,h1,⟨h2,h3,h4,h5⟩,by omega,hc⟩
     ·cases h
  ·rw[gQ hp]at h
   cases h
   exact⟨[],by simp,(by show pos=len;omega)⟩
theorem qh{zs:List Int}{l:List Ob}{k:Nat}(h:newF zs=.ok l k):iD zs.length 0 l:=by
 obtain⟨l',rfl,hc⟩:=vK G9 (Nat.zero_le _) h
 exact hc
theorem tZ{zs:List Int}{ss:List (Int×Int)}{l:List Ob}{k:Nat}(h:iq zs ss=.ok l k):iD zs.length 0 l:=by
 unfold iq at h
 generalize hw:aV (jP ss.length ss) zs zs.length (zs.length+1) 0 0 []=r at h
 rcases r with⟨l',k'⟩|⟨c,k'⟩
 ·obtain rfl:=pJ h
  obtain⟨l',rfl,hc⟩:=vK (Oq _ _) (Nat.zero_le _) hw
  exact hc
 ·cases h
theorem YK{h:Hp}{p:Nat}{s:dS}{l:List Ob}{k:Nat}(e:mF h p s=.ok l k):iD (h.part p).length 0 l:=by
 unfold mF at e
 split at e
 ·exact qh e
 ·exact tZ e
theorem iD.from{len:Nat}:∀{pos:Nat}{l:List Ob},iD len pos l->∀o∈l,(pos:Int)<=o.pos/\lM len o
 |pos,[],h,o,ho=>by simp at ho
 |pos,a::l,⟨h1,h2,h3,h4⟩,o,ho=>by
  rcases List.mem_cons.1 ho with rfl|ho
  ·exact⟨by omega,by omega,h2.1,h2.2.1,h2.2.2.1,h2.2.2.2,by omega⟩
  ·have:=h4.from o ho
   exact⟨by omega,this.2⟩
theorem iD.apart{len:Nat}:∀{pos:Nat}{l:List Ob},iD len pos l->∀a∈l,∀b∈l,a.pos=b.pos->a=b
 |pos,[],h,a,ha,b,hb,e=>by simp at ha
 |pos,c::l,⟨h1,h2,h3,h4⟩,a,ha,b,hb,e=>by
  rcases List.mem_cons.1 ha with e1|ha1<;>rcases List.mem_cons.1 hb with e2|hb1
  ·rw[e1,e2]
  ·have:=(h4.from b hb1).1
   rw[e1]at e
   omega
  ·have:=(h4.from a ha1).1
   rw[e2]at e
   omega
  ·exact h4.apart a ha1 b hb1 e
theorem iD.nodup{len:Nat}:∀{pos:Nat}{l:List Ob},iD len pos l->l.Pairwise λa b=>a.pos<b.pos
 |pos,[],h=>List.Pairwise.nil
 |pos,c::l,⟨h1,h2,h3,h4⟩=>by
  refine List.pairwise_cons.2 ⟨λb hb=> ?_,h4.nodup⟩
  have:=(h4.from b hb).1
  omega
open Classical in
theorem sH{L:Lay}{p:Int}:∀{l:List Ob}{f:Int->Option Int}{a:Int},eX L p l f a=if∃o∈l,qI L p o.pos=a then some p else f a
 |[],f,a=>by simp[eX]
 |o::l,f,a=>by
  show eX L p l (I9 f (qI L p o.pos) p) a=_
  rw[sH]
  by_cases h1:∃o∈l,qI L p o.pos=a
  ·obtain⟨o',ho',e⟩:=h1
   rw[if_pos ⟨o',ho',e⟩,if_pos ⟨o',List.mem_cons_of_mem _ ho',e⟩]
  ·rw[if_neg h1]
   unfold I9
   by_cases h2:a=qI L p o.pos
   ·rw[if_pos h2,if_pos ⟨o,by simp,h2.symm⟩]
   ·rw[if_neg h2,if_neg]
    rintro⟨o',ho',e⟩
    rcases List.mem_cons.1 ho' with rfl|ho'
    ·exact h2 e.symm
    ·exact h1 ⟨o',ho',e⟩
theorem uf{L:Lay}:∀{l:List Ob}{f:Int->Option (Int×Int)}{a:Int},(¬∃o∈l,qI L 1 o.pos=a)->gY L l f a=f a
 |[],f,a,h=>rfl
 |o::l,f,a,h=>by
  show gY L l (KZ f (qI L 1 o.pos) (o.s,o.p)) a=_
  rw[uf (λ⟨o',ho',e⟩=>h ⟨o',List.mem_cons_of_mem _ ho',e⟩)]
  unfold KZ
  rw[if_neg (λe=>h ⟨o,by simp,e.symm⟩)]
theorem vM{L:Lay}:∀{l:List Ob}{f:Int->Option (Int×Int)}{o:Ob},(∀a∈l,∀b∈l,qI L 1 a.pos=qI L 1 b.pos->a=b)->l.Nodup->o∈l->gY L l f (qI L 1 o.pos)=some (o.s,o.p)
 |[],f,o,h,hn,ho=>by simp at ho
 |c::l,f,o,h,hn,ho=>by
  show gY L l (KZ f (qI L 1 c.pos) (c.s,c.p)) (qI L 1 o.pos)=_
  rcases List.mem_cons.1 ho with rfl|ho
  ·rw[uf]
   ·unfold KZ
    rw[if_pos rfl]
   ·rintro⟨o',ho',e⟩
    have:=h o' (List.mem_cons_of_mem _ ho') o (by simp) e
    subst this
    exact(List.nodup_cons.1 hn).1 ho'
  ·exact vM (λa ha b hb=>h a (List.mem_cons_of_mem _ ha) b (List.mem_cons_of_mem _ hb)) (List.nodup_cons.1 hn).2 ho
theorem DC{L:Lay}{p x:Int}(h:0<=x/\x<jG L p):qI L p x=aA L p+x:=if_pos h
theorem apart{L:Lay}(hr:fZ L=true){p q x y:Int}(hp:1<=p/\p<=4)(hq:1<=q/\q<=4)(hx:0<=x/\x<jG L p)(hy:0<=y/\y<jG L q)(e:aA L p+x=aA L q+y):p=q/\x=y:=by
 obtain⟨r1,r2,r3,r4,r5,r6,r7⟩:=pX hr
 unfold aA jG at*
 rcases(show p=1\/p=2\/p=3\/p=4 by omega)with rfl|rfl|rfl|rfl<;>rcases(show q=1\/q=2\/q=3\/q=4 by omega)with rfl|rfl|rfl|rfl<;>rcases r5 with h5|h5<;>rw[h5]at e<;>simp at* <;>omega
theorem qO{L:Lay}(hr:fZ L=true){p x:Int}(hp:1<=p/\p<=4)(hx:0<=x/\x<jG L p):1<=aA L p+x/\aA L p+x<9223372036854775808:=by
 obtain⟨r1,r2,r3,r4,r5,r6,r7⟩:=pX hr
 unfold aA jG at*
 rcases(show p=1\/p=2\/p=3\/p=4 by omega)with rfl|rfl|rfl|rfl<;>rcases r5 with h5|h5<;>rw[h5]<;>simp at* <;>omega
theorem xB(h:Hp)(p:Nat)(hp:1<=p/\p<=4):jG h.lay p=(h.part p).length:=by
 unfold jG Hp.lay Hp.part
 rcases(show p=1\/p=2\/p=3\/p=4 by omega)with rfl|rfl|rfl|rfl<;>simp
structure Found(h:Hp)(s:dS):Prop where
 o1:∃k,newF h.low=.ok s.o1 k
 o2:∃k,newF h.high=.ok s.o2 k
 o3:∃k,iq h.old (dM s.lf h.old)=.ok s.o3 k
 o4:∃k,iq h.far (dM s.lf h.far)=.ok s.o4 k
 lf:s.lf=gY h.lay s.o1 λ_=>none
 pf:s.pf=eX h.lay 4 s.o4 (eX h.lay 3 s.o3 (eX h.lay 2 s.o2 (eX h.lay 1 s.o1 λ_=>none)))
theorem sJ{h:Hp}{k:Nat}{s:dS}(e:iw h (k+1)=some s):∃s0 l j,iw h k=some s0/\mF h (k+1) s0=.ok l j/\s=s0.note h.lay (k+1) l:=by
 have e:(iw h k).bind (jD h (k+1))=some s:=e
 rcases hk:iw h k with _|s0
 ·rw[hk]at e;cases e
 ·rw[hk]at e
  have e:jD h (k+1) s0=some s:=e
  unfold jD at e
  split at e
  ·rename_i l j hw
   cases e
   exact⟨s0,l,j,rfl,hw,rfl⟩
  ·cases e
theorem vN{h:Hp}{s:dS}(e:iw h 4=some s):Found h s:=by
 obtain⟨s3,l4,j4,e3,w4,rfl⟩:=sJ e
 obtain⟨s2,l3,j3,e2,w3,rfl⟩:=sJ e3
 obtain⟨s1,l2,j2,e1,w2,rfl⟩:=sJ e2
 obtain⟨s0,l1,j1,e0,w1,rfl⟩:=sJ e1
 cases e0
 exact⟨⟨_,w1⟩,⟨_,w2⟩,⟨_,w3⟩,⟨_,w4⟩,rfl,rfl⟩
theorem Ja{h:Hp}{s:dS}(f:Found h s):iw h 4=some s:=by
 obtain⟨o1,o2,o3,o4,pf,lf⟩:=s
 obtain⟨⟨k1,e1⟩,⟨k2,e2⟩,⟨k3,e3⟩,⟨k4,e4⟩,e5,e6⟩:=f
 dsimp only at e1 e2 e3 e4 e5 e6
 subst e5 e6
 have r1:iw h 1=some (dS.nil.note h.lay 1 o1):=by
  show jD h 1 dS.nil=_
  unfold jD
  rw[show mF h 1 dS.nil=newF h.low from rfl,e1]
 have r2:iw h 2=some ((dS.nil.note h.lay 1 o1).note h.lay 2 o2):=by
  show(iw h 1).bind _=_
  rw[r1]
  show jD h 2 _=_
  unfold jD
  rw[show mF h 2 (dS.nil.note h.lay 1 o1)=newF h.high from rfl,e2]
 have r3:iw h 3=some (((dS.nil.note h.lay 1 o1).note h.lay 2 o2).note h.lay 3 o3):=by
  show(iw h 2).bind _=_
  rw[r2]
  show jD h 3 _=_
  unfold jD
  rw[show mF h 3 ((dS.nil.note h.lay 1 o1).note h.lay 2 o2)=iq h.old (dM (gY h.lay o1 λ_=>none) h.old)from rfl,e3]
 show(iw h 3).bind _=_
 rw[r3]
 show jD h 4 _=_
 unfold jD
 rw[show mF h 4 (((dS.nil.note h.lay 1 o1).note h.lay 2 o2).note h.lay 3 o3)=iq h.far (dM (gY h.lay o1 λ_=>none) h.far)from rfl,e4]
 rfl
theorem Found.chain{h:Hp}{s:dS}(f:Found h s)(p:Nat)(hp:1<=p/\p<=4):iD (h.part p).length 0 (s.obs p):=by
 obtain⟨⟨k1,e1⟩,⟨k2,e2⟩,⟨k3,e3⟩,⟨k4,e4⟩,e5,e6⟩:=f
 unfold Hp.part dS.obs
 rcases(show p=1\/p=2\/p=3\/p=4 by omega)with rfl|rfl|rfl|rfl
 ·exact qh e1
 ·exact qh e2
 ·exact tZ e3
 ·exact tZ e4
theorem Found.at{h:Hp}{s:dS}(f:Found h s){p:Nat}(hp:1<=p/\p<=4){o:Ob}(ho:o∈s.obs p):0<=o.pos/\o.pos<jG h.lay p/\qI h.lay p o.pos=aA h.lay p+o.pos:=by
 have h1:=((f.chain p hp).from o ho).2
 have h2:=xB h p hp
 have h3:0<=o.pos/\o.pos<jG h.lay p:=by
  obtain⟨a,b,c,d,e,g⟩:=h1
  omega
 exact⟨h3.1,h3.2,DC h3⟩
theorem Found.He{h:Hp}{s:dS}(f:Found h s)(hr:fZ h.lay=true)(a q:Int):s.pf a=some q↔∃p:Nat,q=p/\(1<=p/\p<=4)/\∃o∈s.obs p,aA h.lay p+o.pos=a:=by
 have key:∀(p p':Nat)(o o':Ob),1<=p/\p<=4->1<=p'/\p'<=4->o∈s.obs p->o'∈s.obs p'->qI h.lay p o.pos=a->aA h.lay p'+o'.pos=a->p=p':=by
  intro p p' o o' hp hp' ho ho' e e'
  obtain⟨a1,a2,a3⟩:=f.at hp ho
  obtain⟨b1,b2,b3⟩:=f.at hp' ho'
  have:=(apart hr (p:=p) (q:=p') (by omega) (by omega) ⟨a1,a2⟩ ⟨b1,b2⟩ (by rw[<-a3,e,e'])).1
  omega
 rw[f.pf,sH,sH,sH,sH]
 constructor
 ·intro e
  have fin:∀p:Nat,1<=p/\p<=4->(∃o∈s.obs p,qI h.lay p o.pos=a)->∃p':Nat,(p:Int)=p'/\(1<=p'/\p'<=4)/\∃o∈s.obs p',aA h.lay p'+o.pos=a:=λp hp⟨o,ho,e⟩=>⟨p,rfl,hp,o,ho,by rw[<-(f.at hp ho).2.2];exact e⟩
  split at e
  ·rename_i h4;cases e;exact fin 4 (by omega) h4
  ·split at e
   ·rename_i h4;cases e;exact fin 3 (by omega) h4
   ·split at e
    ·rename_i h4;cases e;exact fin 2 (by omega) h4
    ·split at e
     ·rename_i h4;cases e;exact fin 1 (by omega) h4
     ·cases e
 ·rintro⟨p,rfl,hp,o,ho,e⟩
  have hin:∃o∈s.obs p,qI h.lay p o.pos=a:=⟨o,ho,by rw[(f.at hp ho).2.2];exact e⟩
  have hno:∀p':Nat,1<=p'/\p'<=4->p'≠p->¬∃o∈s.obs p',qI h.lay p' o.pos=a:=λp' hp' hne⟨o',ho',e'⟩=>hne (key p' p o' o hp' hp ho' ho e' e)
  rcases(show p=1\/p=2\/p=3\/p=4 by omega)with rfl|rfl|rfl|rfl
  ·exact(if_neg (hno 4 (by omega) (by omega))).trans ((if_neg (hno 3 (by omega) (by omega))).trans ((if_neg (hno 2 (by omega) (by omega))).trans (if_pos hin)))
  ·exact(if_neg (hno 4 (by omega) (by omega))).trans ((if_neg (hno 3 (by omega) (by omega))).trans (if_pos hin))
  ·exact(if_neg (hno 4 (by omega) (by omega))).trans (if_pos hin)
  ·exact if_pos hin
theorem Found.LJ{h:Hp}{s:dS}(f:Found h s)(a:Int)(x:Int×Int):s.lf a=some x↔∃o∈s.o1,aA h.lay 1+o.pos=a/\x=(o.s,o.p):=by
 have hc:iD h.low.length 0 s.o1:=f.chain 1 (by omega)
 have h0:∀o∈s.o1,qI h.lay 1 o.pos=aA h.lay 1+o.pos:=λo ho=>(f.at (p:=1) (by omega) ho).2.2
 have h1:∀a∈s.o1,∀b∈s.o1,qI h.lay 1 a.pos=qI h.lay 1 b.pos->a=b:=λa ha b hb e=>by
  rw[h0 a ha,h0 b hb]at e
  exact hc.apart a ha b hb (by omega)
 have h2:s.o1.Nodup:=hc.nodup.imp λh e=>by subst e;omega
 rw[f.lf]
 constructor
 ·intro e
  by_cases h3:∃o∈s.o1,qI h.lay 1 o.pos=a
  ·obtain⟨o,ho,rfl⟩:=h3
   rw[vM h1 h2 ho]at e
   cases e
   exact⟨o,ho,(h0 o ho).symm,rfl⟩
  ·rw[uf h3]at e
   cases e
 ·rintro⟨o,ho,rfl,rfl⟩
  rw[<-h0 o ho]
  exact vM h1 h2 ho
end Go.Proofs.YtpgjploaliefdaaGreat.cp
namespace Go.Proofs.YtpgjploaliefdaaGreat.cp
open Go hp ob hd
set_option linter.unusedVariables false
set_option linter.unusedSimpArgs false
theorem DF{bg:Nat->Nat->Int->Option (Ob×Nat)}{zs:List Int}{len:Nat}(hz:∀i,0<=zs.getD i 0/\zs.getD i 0<18446744073709551616)(hbg:∀k pos x o k',0<=x/\x<18446744073709551616->bg k pos x=some (o,k')->0<=o.t/\o.t<18446744073709551616):
  ∀{f k pos:Nat}{acc l:List Ob}{k2:Nat},(∀o∈acc,0<=o.t/\o.t<18446744073709551616)->aV bg zs len f k pos acc=.ok l k2->∀o∈l,0<=o.t/\o.t<18446744073709551616
 |0,k,pos,acc,l,k2,ha,h=>by cases h
 |f+1,k,pos,acc,l,k2,ha,h=>by
  by_cases hp:pos<len
  ·rw[fC hp]at h
   split at h
   ·cases h
   ·rename_i o k' hb
    have h1:=hbg _ _ _ _ _ (hz pos) hb
    split at h
    ·cases h
    ·split at h
     ·exact DF hz hbg (acc:=acc++[o]) (λo' ho'=>by
       rcases List.mem_append.1 ho' with h6|h6
       ·exact ha _ h6
       ·simp at h6;subst h6;exact h1) h
     ·cases h
  ·rw[gQ hp]at h
   cases h
   exact ha
theorem zB{zs:List Int}{ss:List (Int×Int)}{l:List Ob}{k:Nat}(hz:∀i,0<=zs.getD i 0/\zs.getD i 0<18446744073709551616)(h:iq zs ss=.ok l k):∀o∈l,0<=o.t/\o.t<18446744073709551616:=by
 unfold iq at h
 generalize hw:aV (jP ss.length ss) zs zs.length (zs.length+1) 0 0 []=r at h
 rcases r with⟨l',k'⟩|⟨c,k'⟩
 ·obtain rfl:=pJ h
  refine DF hz (λk pos x o k' hx hb=> ?_) (acc:=[]) (λo ho=>by simp at ho) hw
  unfold jP at hb
  split at hb
  ·split at hb
   ·cases hb
    show 0<=gB x/\gB x<_
    unfold gB
    split<;>omega
   ·cases hb
  ·unfold oL at hb
   split at hb
   ·cases hb
    exact⟨Int.le_refl _,(show(0:Int)<18446744073709551616 by decide)⟩
   ·cases hb
 ·cases h
theorem P7{h:Hp}{s:dS}(e:looks h 2=some s):s=dS.nil/\fZ h.lay=true:=by
 obtain⟨s1,e1,r1⟩:=gq e
 obtain⟨s0,e0,r0⟩:=gq e1
 cases e0
 have r0:(if aZ h then some dS.nil else none)=some s1:=r0
 have r1:(if bW h then some s1 else none)=some s:=r1
 split at r0
 ·rename_i hb
  cases r0
  split at r1
  ·cases r1
   refine⟨rfl,?_⟩
   unfold aZ at hb
   rw[Bool.and_eq_true]at hb
   exact hb.1
  ·cases r1
 ·cases r0
theorem BO{h:Hp}{s:dS}:∀{k:Nat},looks h (k+3)=some s->iw h 4=some s
 |0,e=>by
  obtain⟨s0,e0,r0⟩:=gq e
  exact r0
 |k+1,e=>by
  obtain⟨s0,e0,r0⟩:=gq e
  have:s0=s:=by
   unfold uO at r0
   rw[if_neg (by omega),if_neg (by omega),if_neg (by omega)]at r0
   repeat' split at r0
   all_goals first|(cases r0;rfl)|cases r0
  subst this
  exact BO e0
end Go.Proofs.YtpgjploaliefdaaGreat.cp
namespace Go.Proofs.YtpgjploaliefdaaGreat.rf
open Go hp ob hd cp
set_option linter.unusedVariables false
set_option linter.unusedSimpArgs false
def ug(L:Lay)(p:Int)(l:List Ob)(a:Int):Option Ob:=l.find? λo=>decide (aA L p+o.pos=a)
def fV(L:Lay)(low:List Ob)(zs:List Int):Nat->Nat->List (Int×Int)->Option (List (Int×Int))
 |0,_,acc=>none
 |f+1,i,acc=>if i<zs.length then
   (if mD (zs.getD i 0)=0 then
    (match ug L 1 low (gB (zs.getD i 0))with
    |none=>none
    |some o=>fV L low zs f (i+1+o.s.toNat) (acc++[(o.s,o.p)]))
   else if rE (zs.getD i 0)=0 then fV L low zs f (i+1+(rD (zs.getD i 0)).toNat) acc else none)
  else some acc
def Ot(L:Lay)(low:List Ob)(zs:List Int):Option (List (Int×Int)):=fV L low zs (zs.length+1) 0 []
structure P4 where
 a:List Ob
 b:List Ob
 c:List Ob
 d:List Ob
def P4.obs(s:P4)(p:Nat):List Ob:=if p=1 then s.a else if p=2 then s.b else if p=3 then s.c else s.d
def kT(h:Hp):Option P4:=
 match newF h.low,newF h.high with
 | .ok l _,.ok m _=>(match Ot h.lay l h.old,Ot h.lay l h.far with
  |some p,some q=>(match iq h.old p,iq h.far q with
   | .ok o _,.ok f _=>some ⟨l,m,o,f⟩
   |_,_=>none)
  |_,_=>none)
 |_,_=>none
def dU(L:Lay)(s:P4)(w:Int)(x y:Nat):Bool:=decide (w=0)||(decide (mD w=0)&&((ug L x (s.obs x) (gB w)).isSome||(ug L y (s.obs y) (gB w)).isSome))
def qj(h:Hp)(s:P4)(p:Nat)(k w:Int):Bool:=
 if 2<p then dU h.lay s w 3 4 else if p=1/\h.scan<=k then(dU h.lay s w 1 2||dU h.lay s w 3 4)else dU h.lay s w 1 2
def gZ(h:Hp)(s:P4)(p:Nat):Bool:=(s.obs p).all λo=>(List.range o.p.toNat).all λi=>qj h s p (o.pos+1+i) ((h.part p).getD (o.pos.toNat+1+i) 0)
def FK(s:P4)(a:Int):Nat:=(s.c++s.d).countP λo=>o.g&&decide (o.t=a)
def qm(h:Hp):Bool:=(aZ h&&bW h)&&(match kT h with
 |none=>false
 |some s=>(!h.dJ||s.a.all λo=>decide (FK s (aA h.lay 1+o.pos)=1))&&(h.roots.all (λw=>dU h.lay s w 1 2)&&((gZ h s 1&&(gZ h s 2&&(gZ h s 3&&gZ h s 4)))&&decide (h.low.length+h.high.length+bM (s.c++s.d)<=h.cap))))
theorem zD{L:Lay}{p:Int}{l:List Ob}{a:Int}{o:Ob}(h:ug L p l a=some o):o∈l/\aA L p+o.pos=a:=by
 refine⟨List.mem_of_find?_eq_some h,?_⟩
 have:=List.find?_some h
 simpa using this
theorem DI{L:Lay}{p:Int}{l:List Ob}{a:Int}(h:ug L p l a=none):∀o∈l,aA L p+o.pos≠a:=λo ho e=>by
 have:=List.find?_eq_none.1 h o ho
 simp[e]at this
theorem Xj{L:Lay}{p:Int}{l:List Ob}{a:Int}:(ug L p l a).isSome=true↔∃o∈l,aA L p+o.pos=a:=by
 constructor
 ·intro h
  obtain⟨o,ho⟩:=Option.isSome_iff_exists.1 h
  exact⟨o,zD ho⟩
 ·rintro⟨o,ho,e⟩
  cases k:ug L p l a with
  |none=>exact absurd e (DI k o ho)
  |some o'=>rfl
def Ue(L:Lay)(low:List Ob)(lf:Int->Option (Int×Int)):Prop:=∀a,lf a=(ug L 1 low a).map λo=>(o.s,o.p)
theorem acs{h:Hp}{s:dS}(f:cp.Found h s):Ue h.lay s.o1 s.lf:=λa=>by
 have hc:iD h.low.length 0 s.o1:=f.chain 1 (by omega)
 cases k:ug h.lay 1 s.o1 a with
 |none=>
  cases e:s.lf a with
  |none=>rfl
  |some x=>
   obtain⟨o,ho,e1,_⟩:=(f.LJ a x).1 e
   exact absurd e1 (DI k o ho)
 |some o=>
  obtain⟨ho,e1⟩:=zD k
  exact(f.LJ a (o.s,o.p)).2 ⟨o,ho,e1,rfl⟩
theorem oU{L:Lay}{low:List Ob}{lf:Int->Option (Int×Int)}(hl:Ue L low lf){zs:List Int}:∀{f i:Nat}{acc ss:List (Int×Int)},fV L low zs f i acc=some ss->dD lf zs f i acc=ss
 |0,i,acc,ss,h=>by cases h
 |f+1,i,acc,ss,h=>by
  unfold fV at h
  unfold dD
  by_cases hi:i<zs.length
  ·rw[if_pos hi]at h⊢
   by_cases ha:mD (zs.getD i 0)=0
   ·rw[if_pos ha]at h⊢
    rw[hl]
    cases k:ug L 1 low (gB (zs.getD i 0))with
    |none=>rw[k]at h;cases h
    |some o=>rw[k]at h;exact oU hl h
   ·rw[if_neg ha]at h⊢
    by_cases hu:rE (zs.getD i 0)=0
    ·rw[if_pos hu]at h⊢
     exact oU hl h
    ·rw[if_neg hu]at h
     cases h
  ·rw[if_neg hi]at h⊢
   cases h
   rfl
theorem uh{L:Lay}{low:List Ob}{lf:Int->Option (Int×Int)}(hl:Ue L low lf){zs:List Int}{S:List (Int×Int)}:∀{f i:Nat}{acc:List (Int×Int)}{ac:List Ob}{l:List Ob}{k2:Nat},
  zs.length<f+i->fV L low zs f i acc=none->dD lf zs f i acc=S->aV (jP S.length S) zs zs.length f acc.length i ac≠ .ok l k2
 |0,i,acc,ac,l,k2,hf,h,e,w=>by cases w
 |f+1,i,acc,ac,l,k2,hf,h,e,w=>by
  unfold fV at h
  unfold dD at e
  by_cases hi:i<zs.length
  ·rw[if_pos hi]at h e
   rw[fC hi]at w
   by_cases ha:mD (zs.getD i 0)=0
   ·rw[if_pos ha]at h e
    rw[hl]at e
    unfold jP at w
    rw[if_pos ha]at w
    cases k:ug L 1 low (gB (zs.getD i 0))with
    |none=>
     rw[k]at e
     dsimp only[Option.map]at e
     subst e
     rw[if_neg (by omega)]at w
     cases w
    |some o=>
     rw[k]at h e
     dsimp only[Option.map]at e h
     have hacc:∃t,S=acc++[(o.s,o.p)]++t:=by
      rw[<-e]
      exact Jb _ _ _ _ _
     obtain⟨t,rfl⟩:=hacc
     have hget:(acc++[(o.s,o.p)]++t).getD acc.length (0,0)=(o.s,o.p):=by simp[List.getD]
     rw[hget]at w
     split at w
     ·cases w
     ·rename_i o1 k1 hb
      split at hb
      ·cases hb
       split at w
       ·cases w
       ·split at w
        ·rw[show acc.length+1=(acc++[(o.s,o.p)]).length by simp]at w
         exact uh hl (S:=acc++[(o.s,o.p)]++t) (f:=f) (i:=i+1+o.s.toNat) (acc:=acc++[(o.s,o.p)]) (by omega) h e w
        ·cases w
      ·cases hb
   ·rw[if_neg ha]at h e
    unfold jP oL at w
    rw[if_neg ha]at w
    by_cases hu:rE (zs.getD i 0)=0
    ·rw[if_pos hu]at h e
     split at w
     ·cases w
     ·rename_i o1 k1 hb
      split at hb
      ·cases hb
       split at w
       ·cases w
       ·split at w
        ·exact uh hl (S:=S) (f:=f) (acc:=acc) (by omega) h e w
        ·cases w
      ·cases hb
    ·split at w
     ·cases w
     ·rename_i o1 k1 hb
      split at hb
      ·rename_i hk
       exact hu (by unfold rE;rw[if_pos hk])
      ·cases hb
  ·rw[if_neg hi]at h
   cases h
where
 Jb (lf:Int->Option (Int×Int)) (zs:List Int):∀(f i:Nat)(acc:List (Int×Int)),∃t,dD lf zs f i acc=acc++t:=λf=>by
  induction f with
  |zero=>exactλi acc=>⟨[],by simp[dD]⟩
  |succ f ih=>
   intro i acc
   unfold dD
   split
   ·split
    ·split
     ·exact⟨[],by simp⟩
     ·obtain⟨t,e⟩:=ih _ (acc++[_])
      exact⟨_,by rw[e,List.append_assoc]⟩
    ·split
     ·exact ih _ _
     ·exact⟨[],by simp⟩
   ·exact⟨[],by simp⟩
theorem CU{L:Lay}{low:List Ob}{lf:Int->Option (Int×Int)}(hl:Ue L low lf){zs:List Int}{l:List Ob}{k:Nat}:iq zs (dM lf zs)=.ok l k↔∃ss,Ot L low zs=some ss/\iq zs ss=.ok l k:=by
 constructor
 ·intro h
  cases e:Ot L low zs with
  |some ss=>exact⟨ss,rfl,by rw[<-oU hl e];exact h⟩
  |none=>
   exfalso
   unfold iq at h
   generalize hw:aV (jP (dM lf zs).length (dM lf zs)) zs zs.length (zs.length+1) 0 0 []=r at h
   rcases r with⟨l',k'⟩|⟨c,k'⟩
   ·exact uh hl (acc:=[]) (by omega) e rfl hw
   ·cases h
 ·rintro⟨ss,e,h⟩
  rw[show dM lf zs=ss from oU hl e]
  exact h
theorem jJ{h:Hp}{s:dS}(e:iw h 4=some s):kT h=some ⟨s.o1,s.o2,s.o3,s.o4⟩:=by
 have f:=vN e
 have hl:=acs f
 obtain⟨⟨k1,e1⟩,⟨k2,e2⟩,⟨k3,e3⟩,⟨k4,e4⟩,e5,e6⟩:=f
 obtain⟨p,p1,p2⟩:=(CU hl).1 e3
 obtain⟨q,q1,q2⟩:=(CU hl).1 e4
 unfold kT
 rw[e1,e2]
 dsimp only
 rw[p1,q1]
 dsimp only
 rw[p2,q2]
theorem Jc{h:Hp}{s:P4}(e:kT h=some s):∃t,iw h 4=some t/\s=⟨t.o1,t.o2,t.o3,t.o4⟩:=by
 unfold kT at e
 split at e
 ·rename_i l kl m km e1 e2
  split at e
  ·rename_i p q e3 e4
   split at e
   ·rename_i o ko f kf e5 e6
    cases e
    have hch:=qh e1
    have F0:Ue h.lay l (gY h.lay l λ_=>none):=λa=>by
     have h0:∀o∈l,qI h.lay 1 o.pos=aA h.lay 1+o.pos:=λo ho=>by
      have h1:=(hch.from o ho).2
      have h2:jG h.lay 1=(h.part 1).length:=xB h 1 (by omega)
      have h3:(h.part 1).length=h.low.length:=rfl
      obtain⟨a,b,c,d,e,g⟩:=h1
      exact DC ⟨a,by rw[h2,h3];omega⟩
     have h1:∀a∈l,∀b∈l,qI h.lay 1 a.pos=qI h.lay 1 b.pos->a=b:=λa ha b hb e=>by
      rw[h0 a ha,h0 b hb]at e
      exact hch.apart a ha b hb (by omega)
     have h2:l.Nodup:=hch.nodup.imp λh e=>by subst e;omega
     cases k:ug h.lay 1 l a with
     |none=>
      rw[uf]
      ·rfl
      ·rintro⟨o,ho,e⟩
       exact DI k o ho (by rw[<-h0 o ho];exact e)
     |some o=>
      obtain⟨ho,e⟩:=zD k
      rw[<-e,<-h0 o ho,vM h1 h2 ho]
      rfl
    refine⟨⟨l,m,o,f,eX h.lay 4 f (eX h.lay 3 o (eX h.lay 2 m (eX h.lay 1 l λ_=>none))),gY h.lay l λ_=>none⟩,Ja ⟨⟨_,e1⟩,⟨_,e2⟩,⟨_,(CU F0).2 ⟨p,e3,e5⟩⟩,⟨_,(CU F0).2 ⟨q,e4,e6⟩⟩,rfl,rfl⟩,rfl⟩
   ·cases e
  ·cases e
 ·cases e
end Go.Proofs.YtpgjploaliefdaaGreat.rf
namespace Go.Proofs.YtpgjploaliefdaaGreat.im
open Go hp ob hd cp
set_option linter.unusedVariables false
set_option linter.unusedSimpArgs false
theorem qP{lf:Int->Option (Int×Int)}{zs:List Int}:∀(f at_:Nat)(acc:List (Int×Int)),dD lf zs f at_ acc=acc++dD lf zs f at_ []
 |0,at_,acc=>by simp[dD]
 |f+1,at_,acc=>by
  unfold dD
  split
  ·split
   ·split
    ·simp
    ·rename_i sp _
     rw[qP f _ (acc++[sp]),qP f _ ([]++[sp])]
     simp
   ·split
    ·exact qP f _ acc
    ·simp
  ·simp
theorem Az{lf:Int->Option (Int×Int)}{zs:List Int}{ss:List (Int×Int)}:∀{f k pos:Nat}{acc l:List Ob}{k2:Nat},ss.drop k=dD lf zs f pos []->(∀o∈acc,o.g=true->lf o.t=some (o.s,o.p))->aV (jP ss.length ss) zs zs.length f k pos acc=.ok l k2->∀o∈l,o.g=true->lf o.t=some (o.s,o.p)
 |0,k,pos,acc,l,k2,_,ha,h=>by cases h
 |f+1,k,pos,acc,l,k2,hd,ha,h=>by
  by_cases hp:pos<zs.length
  ·rw[fC hp]at h
   split at h
   ·cases h
   ·rename_i o k' hb
    split at h
    ·cases h
    ·split at h
     ·have hd2:=hd
      unfold dD at hd2
      rw[if_pos hp]at hd2
      unfold jP at hb
      by_cases hae:mD (zs.getD pos 0)=0
      ·rw[if_pos hae]at hb hd2
       split at hb
       ·rename_i hk
        cases hb
        have hkl:k<ss.length:=hk.1
        have hd3:ss.drop k=ss.getD k (0,0)::ss.drop (k+1):=by
         rw[List.drop_eq_getElem_cons hkl,List.getD_eq_getElem?_getD,List.getElem?_eq_getElem hkl]
         rfl
        rw[hd3]at hd2
        split at hd2
        ·cases hd2
        ·rename_i sp hlf
         rw[qP]at hd2
         simp only[List.nil_append,List.singleton_append,List.cons.injEq]at hd2
         refine Az (acc:=acc++[_]) ?_ (λo' ho' hg=> ?_) h
         ·rw[hd2.1];exact hd2.2
         ·rcases List.mem_append.1 ho' with h6|h6
          ·exact ha _ h6 hg
          ·simp at h6
           subst h6
           show lf (gB (zs.getD pos 0))=some ((ss.getD k (0,0)).1,(ss.getD k (0,0)).2)
           rw[hlf,hd2.1]
       ·cases hb
      ·rw[if_neg hae]at hb hd2
       unfold oL at hb
       split at hb
       ·rename_i hu
        cases hb
        rw[if_pos (by unfold rE;rw[if_pos hu])]at hd2
        refine Az (acc:=acc++[_]) hd2 (λo' ho' hg=> ?_) h
        rcases List.mem_append.1 ho' with h6|h6
        ·exact ha _ h6 hg
        ·simp at h6
         subst h6
         cases hg
       ·cases hb
     ·cases h
  ·rw[gQ hp]at h
   cases h
   exact ha
theorem Uf{lf:Int->Option (Int×Int)}{zs:List Int}{l:List Ob}{k:Nat}(h:iq zs (dM lf zs)=.ok l k):∀o∈l,o.g=true->lf o.t=some (o.s,o.p):=by
 unfold iq at h
 generalize hw:aV (jP (dM lf zs).length (dM lf zs)) zs zs.length (zs.length+1) 0 0 []=r at h
 rcases r with⟨l',k'⟩|⟨c,k'⟩
 ·obtain rfl:=pJ h
  exact Az (acc:=[]) (by rw[List.drop_zero];rfl) (λo ho=>by simp at ho) hw
 ·cases h
end Go.Proofs.YtpgjploaliefdaaGreat.im
namespace Go.Proofs.YtpgjploaliefdaaGreat.ck
open Go Go.RowKit hp ob hd cp mp
set_option linter.unusedVariables false
set_option linter.unusedSimpArgs false
structure Hv where
 l:Value
 h:Value
 o:Value
 f:Value
 r:Value
def fD(h:Hp)(v:Hv):Value:=.agg #[.int .u64 h.base,.int .i64 h.cap,.int .i64 h.tt,.bool h.dJ,.int .i64 h.scan,v.l,v.h,v.o,v.f,v.r]
structure kH(W:World)(h:Hp)(v:Hv):Prop where
 base:Og h.base
 cap:I64 h.cap
 tt:I64 h.tt
 scan:I64 h.scan
 low:aN W v.l h.low
 high:aN W v.h h.high
 old:aN W v.o h.old
 far:aN W v.f h.far
 roots:aN W v.r h.roots
 slow:Small h.low
 oM:Small h.high
 sold:Small h.old
 uX:Small h.far
 jd:Small h.roots
theorem kH.tr{W w:World}{h:Hp}{v:Hv}(a:kH W h v)(hb:Below W.heap.size W w):kH w h v:=
 ⟨a.base,a.cap,a.tt,a.scan,a.low.tr hb,a.high.tr hb,a.old.tr hb,a.far.tr hb,a.roots.tr hb,a.slow,a.oM,a.sold,a.uX,a.jd⟩
theorem dN{W:World}{v:Value}{zs:List Int}(h:aN W v zs):zs.length<1000000000000:=by
 obtain⟨_,_,_,_,_,_,_,h1,_⟩:=h
 exact h1.2
theorem kH.ok{W:World}{h:Hp}{v:Hv}(a:kH W h v):h.lay.ok:=by
 have h1:=dN a.low
 have h2:=dN a.high
 have h3:=dN a.old
 have h4:=dN a.far
 refine⟨a.base,a.cap,a.tt,?_,?_,?_,?_⟩<;>(unfold I64 Hp.lay;simp only;omega)
def shV(sp:Int×Int):Value:=.agg #[.int .i64 sp.1,.int .i64 sp.2]
def FM(f:Int->Option Int):Int->Option Value:=λa=>(f a).map λq=>.int .i64 q
def Hf(f:Int->Option (Int×Int)):Int->Option Value:=λa=>(f a).map shV
theorem Ou(f:Int->Option Int)(a q:Int):upd (FM f) a (.int .i64 q)=FM (I9 f a q):=by
 funext x
 unfold upd FM I9
 split<;>rfl
theorem Xk(f:Int->Option (Int×Int))(a:Int)(q:Int×Int):upd (Hf f) a (shV q)=Hf (KZ f a q):=by
 funext x
 unfold upd Hf KZ
 split<;>rfl
structure Ov where
 a:Value
 b:Value
 c:Value
 d:Value
def zF(h:Hp)(v:Hv)(ov:Ov)(bp bl:Nat):Array Value:=
 #[.int .u64 h.base,.int .i64 h.cap,.int .i64 h.tt,.bool h.dJ,.int .i64 h.scan,v.l,v.h,v.o,v.f,v.r,
  .int .u64 h.base,.int .i64 h.cap,.int .i64 h.tt,.int .i64 h.low.length,.int .i64 h.high.length,.int .i64 h.old.length,.int .i64 h.far.length,
  ov.a,ov.b,ov.c,ov.d,.map (some bp),.map (some bl)]
structure Pl where
 b:Nat
 bp:Nat
 bl:Nat
 B:Nat
structure afT(n:Nat)(p:Pl):Prop where
 b0:n<=p.b
 p0:n<=p.bp
 l0:n<=p.bl
 b1:p.b<p.B
 p1:p.bp<p.B
 l1:p.bl<p.B
 bp:p.b≠p.bp
 bl:p.b≠p.bl
 pl:p.bp≠p.bl
structure St(w0 w:World)(p:Pl)(h:Hp)(v:Hv)(s:dS)(ov:Ov):Prop where
 hin:kH w0 h v
 bel:Below w0.heap.size w0 w
 ok:afT w0.heap.size p
 B:p.B<=w.heap.size
 blk:aj w p.b (zF h v ov p.bp p.bl) 122
 o1:cu w p.B ov.a s.o1
 o2:cu w p.B ov.b s.o2
 o3:cu w p.B ov.c s.o3
 o4:cu w p.B ov.d s.o4
 pm:∃n,n<=s.o1.length+s.o2.length+s.o3.length+s.o4.length/\dh Tryz.prog 24 w p.bp n (FM s.pf)
 lm:∃n,n<=s.o1.length/\dh Tryz.prog 24 w p.bl n (Hf s.lf)
 f1:(∀o∈s.o1,lM h.low.length o)/\s.o1.length<=h.low.length
 f2:(∀o∈s.o2,lM h.high.length o)/\s.o2.length<=h.high.length
 f3:(∀o∈s.o3,lM h.old.length o)/\s.o3.length<=h.old.length
 f4:(∀o∈s.o4,lM h.far.length o)/\s.o4.length<=h.far.length
 rg:∀a q,s.pf a=some q->1<=q/\q<=4
 lr:∀a q,s.lf a=some q->0<=q.1/\q.1<=255
theorem acu{W w:World}{B:Nat}{v:Value}{l:List Ob}{r:Nat}(h:cu W B v l)(hg:W.grownBy w (some r))(hr:r<B):cu w B v l:=by
 refine World.ownsRow.kept h hg ?_
 rcases hv:v.ownBlock with _|k
 ·exact .inl rfl
 ·refine .inr λe=> ?_
  have:=World.ownsRow.lt h k hv
  cases e
  omega
variable {w0 w W : World} {p : Pl} {h : Hp} {v : Hv} {s : dS} {ov : Ov}
theorem zG{A B:World}{n r:Nat}(hg:A.grownBy B (some r))(hn:n<=A.heap.size)(hr:n<=r):Below n A B:=
 ⟨hg.os,hg.tape,hg.output,hg.size,λk hk=>hg.block k (by omega) (λe=>by cases e;omega)⟩
theorem St.tr(a:St w0 W p h v s ov)(hb:Below W.heap.size W w):St w0 w p h v s ov:=by
 obtain⟨n1,h1,m1⟩:=a.pm
 obtain⟨n2,h2,m2⟩:=a.lm
 exact⟨a.hin,au a.bel hb,a.ok,Nat.le_trans a.B hb.size,a.blk.tr hb,iW a.o1 hb,iW a.o2 hb,iW a.o3 hb,iW a.o4 hb,⟨n1,h1,m1.tr hb⟩,⟨n2,h2,m2.tr hb⟩,a.f1,a.f2,a.f3,a.f4,a.rg,a.lr⟩
theorem St.alloc(a:St w0 W p h v s ov)(o:Obj):St w0 (W.alloc o) p h v s ov:=a.tr ((Below.refl _ _).alloc (Nat.le_refl _) _)
theorem St.drew(a:St w0 W p h v s ov):St w0 W.drew p h v s ov:=a.tr (Below.refl _ _).drew
theorem St.now(a:St w0 W p h v s ov):kH W h v:=a.hin.tr a.bel
theorem Hp.DK{P:List Int->Prop}(h:Hp)(q:Nat)(h1:P h.low)(h2:P h.high)(h3:P h.old)(h4:P h.far):P (h.part q):=by
 unfold Hp.part
 repeat' split
 all_goals assumption
def Hv.part(v:Hv)(q:Nat):Value:=if q=1 then v.l else if q=2 then v.h else if q=3 then v.o else v.f
def Ov.part(v:Ov)(q:Nat):Value:=if q=1 then v.a else if q=2 then v.b else if q=3 then v.c else v.d
theorem kH.part(a:kH W h v)(q:Nat):aN W (v.part q) (h.part q)/\Small (h.part q):=by
 unfold Hp.part Hv.part
 repeat' split
 ·exact⟨a.low,a.slow⟩
 ·exact⟨a.high,a.oM⟩
 ·exact⟨a.old,a.sold⟩
 ·exact⟨a.far,a.uX⟩
theorem St.obs(a:St w0 W p h v s ov)(q:Nat):cu W p.B (ov.part q) (s.obs q)/\(∀o∈s.obs q,lM (h.part q).length o)/\(s.obs q).length<=(h.part q).length:=by
 unfold Ov.part dS.obs Hp.part
 repeat' split
 ·exact⟨a.o1,a.f1⟩
 ·exact⟨a.o2,a.f2⟩
 ·exact⟨a.o3,a.f3⟩
 ·exact⟨a.o4,a.f4⟩
end Go.Proofs.YtpgjploaliefdaaGreat.ck
namespace Go.Proofs.YtpgjploaliefdaaGreat.hp
open Go Go.RowKit cm cp ck
set_option linter.unusedVariables false
set_option linter.unusedSimpArgs false
set_option maxRecDepth 100000 in
set_option maxHeartbeats 4000000 in
theorem LK(h:Hp)(v:Hv)(w:World)(hin:kH w h v):
  Calls Tryz.prog 78 #[fD h v] w λe w'=>e=.returned (eY h.lay)/\Below w.heap.size w w':=by
 obtain⟨b0,b1,b2,b3,⟨la,lb,lo,lc,e1,l1,l2,⟨l3,l3'⟩,l4,l5⟩,⟨ha,hb,ho,hc,e2,h1,h2,⟨h3,h3'⟩,h4,h5⟩,⟨oa,ob,oo,oc,e3,o1,o2,⟨o3,o3'⟩,o4,o5⟩,⟨fa,fb,fo,fc,e4,f1,f2,⟨f3,f3'⟩,f4,f5⟩,⟨ra,rb,ro,rc,e5,r1,r2,⟨r3,r3'⟩,r4,r5⟩,s1,s2,s3,s4,s5⟩:=hin
 obtain⟨vl,vh,vo,vf,vr⟩:=v
 obtain⟨base,cap,tt,dJ,scan,low,high,old,far,roots⟩:=h
 dsimp only at*
 subst e1 e2 e3 e4 e5
 unfold fD eY Hp.lay
 dsimp only
 clear l1 l5 h1 h5 o1 o5 f1 f5 r1 r5 s1 s2 s3 s4 s5 b0 b1 b2 b3
 generalize low.length=nl at*
 generalize high.length=nh at*
 generalize old.length=no at*
 generalize far.length=nf at*
 generalize roots.length=nr at*
 go_enter Tryz.func78,Tryz.ntmps78
 go_wp2_with fail
 refine bodyPost_ret (v:=.agg #[.int .u64 base,.int .i64 cap,.int .i64 tt,.int .i64 nl,.int .i64 nh,.int .i64 no,.int .i64 nf]) (by simp only[results,Tryz.results78];go_simp) rfl ⟨rfl,?_⟩
 exact bm
theorem Ox{W w1:World}{n b c:Nat}(hb:Below n W w1)(hn:b<n)(hc:c<n){v1 v2 v3 v4 v5 v6 v7 v8:Value}(h:W.cell? ⟨b,0,none⟩=some v1/\W.cell? ⟨b,1,none⟩=some v2/\W.cell? ⟨b,2,none⟩=some v3/\W.cell? ⟨b,3,none⟩=some v4/\W.cell? ⟨b,4,none⟩=some v5/\W.cell? ⟨b,5,none⟩=some v6/\W.cell? ⟨b,6,none⟩=some v7/\W.cell? ⟨c,0,none⟩=some v8):
  w1.cell? ⟨b,0,none⟩=some v1/\w1.cell? ⟨b,1,none⟩=some v2/\w1.cell? ⟨b,2,none⟩=some v3/\w1.cell? ⟨b,3,none⟩=some v4/\w1.cell? ⟨b,4,none⟩=some v5/\w1.cell? ⟨b,5,none⟩=some v6/\w1.cell? ⟨b,6,none⟩=some v7/\w1.cell? ⟨c,0,none⟩=some v8:=by
 have hc1:∀o,w1.cell? ⟨b,o,none⟩=W.cell? ⟨b,o,none⟩:=λo=>hb.cell (p:=⟨b,o,none⟩) hn
 have hc2:∀o,w1.cell? ⟨c,o,none⟩=W.cell? ⟨c,o,none⟩:=λo=>hb.cell (p:=⟨c,o,none⟩) hc
 rw[hc1,hc1,hc1,hc1,hc1,hc1,hc1,hc2]
 exact h
set_option maxRecDepth 100000 in
set_option maxHeartbeats 40000000 in
theorem P8(L:Lay)(x:Int)(w:World)(ok:L.ok)(hr:fZ L=true)(hx:0<=x/\x<L.low):
  Calls Tryz.prog 125 #[eY L,.agg #[.int .i64 1,.int .i64 x]] w λe w'=>e=.returned (.tuple #[.int .u64 (aA L 1+x),.int .i64 0])/\Below w.heap.size w w':=by
 have R1:Hid (∀W,Calls Tryz.prog 106 #[eY L] W λe w'=>e=.returned (.bool true)/\Below W.heap.size W w'):=Lib.hid λW=>by
  have:=rV L W ok
  rw[hr]at this
  exact this
 have R2:Hid (∀W,Calls Tryz.prog 131 #[eY L] W λe w'=>e=.returned (yu L)/\Below W.heap.size W w'):=Lib.hid λW=>xg L W ok hr
 have hx3:=qO hr (p:=1) (x:=x) (by omega) hx
 have hx4:x<9223372036854775808:=by
  obtain⟨_,_,_,⟨_,h1⟩,⟨_,h2⟩,⟨_,h3⟩,⟨_,h4⟩⟩:=ok
  omega
 unfold yu at*
 obtain⟨base,cap,tt,low,high,old,far⟩:=L
 unfold eY at*
 dsimp only at*
 clear ok hr
 generalize aA ⟨base,cap,tt,low,high,old,far⟩ 1=A at*
 generalize aA ⟨base,cap,tt,low,high,old,far⟩ 2=B at*
 generalize aA ⟨base,cap,tt,low,high,old,far⟩ 3=C at*
 generalize aA ⟨base,cap,tt,low,high,old,far⟩ 4=D at*
 obtain⟨hx1,hx2⟩:=hx
 obtain⟨hx3,hx5⟩:=hx3
 go_enter Tryz.func125,Tryz.ntmps125
 go_wp2_with fail
 have K0:aj ((w.alloc (.cells #[.int .u64 base,.int .i64 cap,.int .i64 tt,.int .i64 low,.int .i64 high,.int .i64 old,.int .i64 far] 117)).alloc (.cells #[.int .i64 1,.int .i64 x] 113)) w.heap.size #[.int .u64 base,.int .i64 cap,.int .i64 tt,.int .i64 low,.int .i64 high,.int .i64 old,.int .i64 far] 117:=(aj.mk rfl).alloc _
 have K1:aj ((w.alloc (.cells #[.int .u64 base,.int .i64 cap,.int .i64 tt,.int .i64 low,.int .i64 high,.int .i64 old,.int .i64 far] 117)).alloc (.cells #[.int .i64 1,.int .i64 x] 113)) (w.heap.size+1) #[.int .i64 1,.int .i64 x] 113:=aj.mk (by simp)
 refine(R1.out _).mono ?_;rintro e w1 ⟨rfl,k1⟩
 replace K0:=K0.tr k1
 replace K1:=K1.tr k1
 have kW:Below w.heap.size w w1:=by exact bm
 clear k1
 obtain⟨l0,c0,f0⟩:=K0.get
 obtain⟨l1,c1,f1⟩:=K1.get
 go_wp2_with fail
 have hwz:IntKind.i64.wrap 0=0:=by decide
 have hix:∀W,Sem.run Tryz.prog (Instr.index 203 (.agg #[.int .u64 A,.int .i64 low,.int .u64 B,.int .i64 high,.int .u64 C,.int .i64 old,.int .u64 D,.int .i64 far]) (.int .i64 0)) W=.ok (.agg #[.int .u64 A,.int .i64 low]) W:=λW=>by kernel_rfl
 go_region_held3 (λw'=>w'.cell? ⟨w.heap.size,0,none⟩=some (.int .u64 base)/\w'.cell? ⟨w.heap.size,1,none⟩=some (.int .i64 cap)/\w'.cell? ⟨w.heap.size,2,none⟩=some (.int .i64 tt)/\w'.cell? ⟨w.heap.size,3,none⟩=some (.int .i64 low)/\w'.cell? ⟨w.heap.size,4,none⟩=some (.int .i64 high)/\w'.cell? ⟨w.heap.size,5,none⟩=some (.int .i64 old)/\w'.cell? ⟨w.heap.size,6,none⟩=some (.int .i64 far)/\w'.cell? ⟨w.heap.size+1,0,none⟩=some (.int .i64 1))
  ((refine Ox (W:=w1) (n:=w1.heap.size) ?_ l0 l1 ⟨c0 0,c0 1,c0 2,c0 3,c0 4,c0 5,c0 6,c1 0⟩;exact bm))
  (first
   |(go_at_call 131;refine(R2.out _).mono ?_;rintro e w2 ⟨rfl,k2⟩;obtain⟨k2c,k2f⟩:=vF k2;have kb:Below w1.heap.size w1 w2:=(by first|exact au (kP (Below.refl _ _)) k2|exact au (gu (kP (Below.refl _ _)) _) k2);have k2z:w1.heap.size<=w2.heap.size:=Nat.le_trans (by simp) k2.size))
 all_goals
  obtain⟨m1,d1,g1⟩:=(K1.tr kb).get
  have n1:¬w.heap.size+1=w2.heap.size:=by omega
  have n2:¬w.heap.size+1=w1.heap.size:=by omega
  go_wp2_with fail
  go_ret2
  refine⟨rfl,?_⟩
  exact bm
set_option maxRecDepth 100000 in
set_option maxHeartbeats 40000000 in
theorem P9(L:Lay)(x:Int)(w:World)(ok:L.ok)(hr:fZ L=true)(hx:0<=x/\x<L.high):
  Calls Tryz.prog 125 #[eY L,.agg #[.int .i64 2,.int .i64 x]] w λe w'=>e=.returned (.tuple #[.int .u64 (aA L 2+x),.int .i64 0])/\Below w.heap.size w w':=by
 have R1:Hid (∀W,Calls Tryz.prog 106 #[eY L] W λe w'=>e=.returned (.bool true)/\Below W.heap.size W w'):=Lib.hid λW=>by
  have:=rV L W ok
  rw[hr]at this
  exact this
 have R2:Hid (∀W,Calls Tryz.prog 131 #[eY L] W λe w'=>e=.returned (yu L)/\Below W.heap.size W w'):=Lib.hid λW=>xg L W ok hr
 have hx3:=qO hr (p:=2) (x:=x) (by omega) hx
 have hx4:x<9223372036854775808:=by
  obtain⟨_,_,_,⟨_,h1⟩,⟨_,h2⟩,⟨_,h3⟩,⟨_,h4⟩⟩:=ok
  omega
 unfold yu at*
 obtain⟨base,cap,tt,low,high,old,far⟩:=L
 unfold eY at*
 dsimp only at*
 clear ok hr
 generalize aA ⟨base,cap,tt,low,high,old,far⟩ 1=A at*
 generalize aA ⟨base,cap,tt,low,high,old,far⟩ 2=B at*
 generalize aA ⟨base,cap,tt,low,high,old,far⟩ 3=C at*
 generalize aA ⟨base,cap,tt,low,high,old,far⟩ 4=D at*
 obtain⟨hx1,hx2⟩:=hx
 obtain⟨hx3,hx5⟩:=hx3
 go_enter Tryz.func125,Tryz.ntmps125
 go_wp2_with fail
 have K0:aj ((w.alloc (.cells #[.int .u64 base,.int .i64 cap,.int .i64 tt,.int .i64 low,.int .i64 high,.int .i64 old,.int .i64 far] 117)).alloc (.cells #[.int .i64 2,.int .i64 x] 113)) w.heap.size #[.int .u64 base,.int .i64 cap,.int .i64 tt,.int .i64 low,.int .i64 high,.int .i64 old,.int .i64 far] 117:=(aj.mk rfl).alloc _
 have K1:aj ((w.alloc (.cells #[.int .u64 base,.int .i64 cap,.int .i64 tt,.int .i64 low,.int .i64 high,.int .i64 old,.int .i64 far] 117)).alloc (.cells #[.int .i64 2,.int .i64 x] 113)) (w.heap.size+1) #[.int .i64 2,.int .i64 x] 113:=aj.mk (by simp)
 refine(R1.out _).mono ?_;rintro e w1 ⟨rfl,k1⟩
 replace K0:=K0.tr k1
 replace K1:=K1.tr k1
 have kW:Below w.heap.size w w1:=by exact bm
 clear k1
 obtain⟨l0,c0,f0⟩:=K0.get
 obtain⟨l1,c1,f1⟩:=K1.get
 go_wp2_with fail
 have hwz:IntKind.i64.wrap 1=1:=by decide
 have hix:∀W,Sem.run Tryz.prog (Instr.index 203 (.agg #[.int .u64 A,.int .i64 low,.int .u64 B,.int .i64 high,.int .u64 C,.int .i64 old,.int .u64 D,.int .i64 far]) (.int .i64 1)) W=.ok (.agg #[.int .u64 B,.int .i64 high]) W:=λW=>by kernel_rfl
 go_region_held3 (λw'=>w'.cell? ⟨w.heap.size,0,none⟩=some (.int .u64 base)/\w'.cell? ⟨w.heap.size,1,none⟩=some (.int .i64 cap)/\w'.cell? ⟨w.heap.size,2,none⟩=some (.int .i64 tt)/\w'.cell? ⟨w.heap.size,3,none⟩=some (.int .i64 low)/\w'.cell? ⟨w.heap.size,4,none⟩=some (.int .i64 high)/\w'.cell? ⟨w.heap.size,5,none⟩=some (.int .i64 old)/\w'.cell? ⟨w.heap.size,6,none⟩=some (.int .i64 far)/\w'.cell? ⟨w.heap.size+1,0,none⟩=some (.int .i64 2))
  ((refine Ox (W:=w1) (n:=w1.heap.size) ?_ l0 l1 ⟨c0 0,c0 1,c0 2,c0 3,c0 4,c0 5,c0 6,c1 0⟩;exact bm))
  (first
   |(go_at_call 131;refine(R2.out _).mono ?_;rintro e w2 ⟨rfl,k2⟩;obtain⟨k2c,k2f⟩:=vF k2;have kb:Below w1.heap.size w1 w2:=(by first|exact au (kP (Below.refl _ _)) k2|exact au (gu (kP (Below.refl _ _)) _) k2);have k2z:w1.heap.size<=w2.heap.size:=Nat.le_trans (by simp) k2.size))
 all_goals
  obtain⟨m1,d1,g1⟩:=(K1.tr kb).get
  have n1:¬w.heap.size+1=w2.heap.size:=by omega
  have n2:¬w.heap.size+1=w1.heap.size:=by omega
  go_wp2_with fail
  go_ret2
  refine⟨rfl,?_⟩
  exact bm
set_option maxRecDepth 100000 in
set_option maxHeartbeats 40000000 in
theorem Qa(L:Lay)(x:Int)(w:World)(ok:L.ok)(hr:fZ L=true)(hx:0<=x/\x<L.old):
  Calls Tryz.prog 125 #[eY L,.agg #[.int .i64 3,.int .i64 x]] w λe w'=>e=.returned (.tuple #[.int .u64 (aA L 3+x),.int .i64 0])/\Below w.heap.size w w':=by
 have R1:Hid (∀W,Calls Tryz.prog 106 #[eY L] W λe w'=>e=.returned (.bool true)/\Below W.heap.size W w'):=Lib.hid λW=>by
  have:=rV L W ok
  rw[hr]at this
  exact this
 have R2:Hid (∀W,Calls Tryz.prog 131 #[eY L] W λe w'=>e=.returned (yu L)/\Below W.heap.size W w'):=Lib.hid λW=>xg L W ok hr
 have hx3:=qO hr (p:=3) (x:=x) (by omega) hx
 have hx4:x<9223372036854775808:=by
  obtain⟨_,_,_,⟨_,h1⟩,⟨_,h2⟩,⟨_,h3⟩,⟨_,h4⟩⟩:=ok
  omega
 unfold yu at*
 obtain⟨base,cap,tt,low,high,old,far⟩:=L
 unfold eY at*
 dsimp only at*
 clear ok hr
 generalize aA ⟨base,cap,tt,low,high,old,far⟩ 1=A at*
 generalize aA ⟨base,cap,tt,low,high,old,far⟩ 2=B at*
 generalize aA ⟨base,cap,tt,low,high,old,far⟩ 3=C at*
 generalize aA ⟨base,cap,tt,low,high,old,far⟩ 4=D at*
 obtain⟨hx1,hx2⟩:=hx
 obtain⟨hx3,hx5⟩:=hx3
 go_enter Tryz.func125,Tryz.ntmps125
 go_wp2_with fail
 have K0:aj ((w.alloc (.cells #[.int .u64 base,.int .i64 cap,.int .i64 tt,.int .i64 low,.int .i64 high,.int .i64 old,.int .i64 far] 117)).alloc (.cells #[.int .i64 3,.int .i64 x] 113)) w.heap.size #[.int .u64 base,.int .i64 cap,.int .i64 tt,.int .i64 low,.int .i64 high,.int .i64 old,.int .i64 far] 117:=(aj.mk rfl).alloc _
 have K1:aj ((w.alloc (.cells #[.int .u64 base,.int .i64 cap,.int .i64 tt,.int .i64 low,.int .i64 high,.int .i64 old,.int .i64 far] 117)).alloc (.cells #[.int .i64 3,.int .i64 x] 113)) (w.heap.size+1) #[.int .i64 3,.int .i64 x] 113:=aj.mk (by simp)
 refine(R1.out _).mono ?_;rintro e w1 ⟨rfl,k1⟩
 replace K0:=K0.tr k1
 replace K1:=K1.tr k1
 have kW:Below w.heap.size w w1:=by exact bm
 clear k1
 obtain⟨l0,c0,f0⟩:=K0.get
 obtain⟨l1,c1,f1⟩:=K1.get
 go_wp2_with fail
 have hwz:IntKind.i64.wrap 2=2:=by decide
 have hix:∀W,Sem.run Tryz.prog (Instr.index 203 (.agg #[.int .u64 A,.int .i64 low,.int .u64 B,.int .i64 high,.int .u64 C,.int .i64 old,.int .u64 D,.int .i64 far]) (.int .i64 2)) W=.ok (.agg #[.int .u64 C,.int .i64 old]) W:=λW=>by kernel_rfl
 go_region_held3 (λw'=>w'.cell? ⟨w.heap.size,0,none⟩=some (.int .u64 base)/\w'.cell? ⟨w.heap.size,1,none⟩=some (.int .i64 cap)/\w'.cell? ⟨w.heap.size,2,none⟩=some (.int .i64 tt)/\w'.cell? ⟨w.heap.size,3,none⟩=some (.int .i64 low)/\w'.cell? ⟨w.heap.size,4,none⟩=some (.int .i64 high)/\w'.cell? ⟨w.heap.size,5,none⟩=some (.int .i64 old)/\w'.cell? ⟨w.heap.size,6,none⟩=some (.int .i64 far)/\w'.cell? ⟨w.heap.size+1,0,none⟩=some (.int .i64 3))
  ((refine Ox (W:=w1) (n:=w1.heap.size) ?_ l0 l1 ⟨c0 0,c0 1,c0 2,c0 3,c0 4,c0 5,c0 6,c1 0⟩;exact bm))
  (first
   |(go_at_call 131;refine(R2.out _).mono ?_;rintro e w2 ⟨rfl,k2⟩;obtain⟨k2c,k2f⟩:=vF k2;have kb:Below w1.heap.size w1 w2:=(by first|exact au (kP (Below.refl _ _)) k2|exact au (gu (kP (Below.refl _ _)) _) k2);have k2z:w1.heap.size<=w2.heap.size:=Nat.le_trans (by simp) k2.size))
 all_goals
  obtain⟨m1,d1,g1⟩:=(K1.tr kb).get
  have n1:¬w.heap.size+1=w2.heap.size:=by omega
  have n2:¬w.heap.size+1=w1.heap.size:=by omega
  go_wp2_with fail
  go_ret2
  refine⟨rfl,?_⟩
  exact bm
set_option maxRecDepth 100000 in
set_option maxHeartbeats 40000000 in
theorem Qb(L:Lay)(x:Int)(w:World)(ok:L.ok)(hr:fZ L=true)(hx:0<=x/\x<L.far):
  Calls Tryz.prog 125 #[eY L,.agg #[.int .i64 4,.int .i64 x]] w λe w'=>e=.returned (.tuple #[.int .u64 (aA L 4+x),.int .i64 0])/\Below w.heap.size w w':=by
 have R1:Hid (∀W,Calls Tryz.prog 106 #[eY L] W λe w'=>e=.returned (.bool true)/\Below W.heap.size W w'):=Lib.hid λW=>by
  have:=rV L W ok
  rw[hr]at this
  exact this
 have R2:Hid (∀W,Calls Tryz.prog 131 #[eY L] W λe w'=>e=.returned (yu L)/\Below W.heap.size W w'):=Lib.hid λW=>xg L W ok hr
 have hx3:=qO hr (p:=4) (x:=x) (by omega) hx
 have hx4:x<9223372036854775808:=by
  obtain⟨_,_,_,⟨_,h1⟩,⟨_,h2⟩,⟨_,h3⟩,⟨_,h4⟩⟩:=ok
  omega
 unfold yu at*
 obtain⟨base,cap,tt,low,high,old,far⟩:=L
 unfold eY at*
 dsimp only at*
 clear ok hr
 generalize aA ⟨base,cap,tt,low,high,old,far⟩ 1=A at*
 generalize aA ⟨base,cap,tt,low,high,old,far⟩ 2=B at*
 generalize aA ⟨base,cap,tt,low,high,old,far⟩ 3=C at*
 generalize aA ⟨base,cap,tt,low,high,old,far⟩ 4=D at*
 obtain⟨hx1,hx2⟩:=hx
 obtain⟨hx3,hx5⟩:=hx3
 go_enter Tryz.func125,Tryz.ntmps125
 go_wp2_with fail
 have K0:aj ((w.alloc (.cells #[.int .u64 base,.int .i64 cap,.int .i64 tt,.int .i64 low,.int .i64 high,.int .i64 old,.int .i64 far] 117)).alloc (.cells #[.int .i64 4,.int .i64 x] 113)) w.heap.size #[.int .u64 base,.int .i64 cap,.int .i64 tt,.int .i64 low,.int .i64 high,.int .i64 old,.int .i64 far] 117:=(aj.mk rfl).alloc _
 have K1:aj ((w.alloc (.cells #[.int .u64 base,.int .i64 cap,.int .i64 tt,.int .i64 low,.int .i64 high,.int .i64 old,.int .i64 far] 117)).alloc (.cells #[.int .i64 4,.int .i64 x] 113)) (w.heap.size+1) #[.int .i64 4,.int .i64 x] 113:=aj.mk (by simp)
 refine(R1.out _).mono ?_;rintro e w1 ⟨rfl,k1⟩
 replace K0:=K0.tr k1
 replace K1:=K1.tr k1
 have kW:Below w.heap.size w w1:=by exact bm
 clear k1
 obtain⟨l0,c0,f0⟩:=K0.get
 obtain⟨l1,c1,f1⟩:=K1.get
 go_wp2_with fail
 have hwz:IntKind.i64.wrap 3=3:=by decide
 have hix:∀W,Sem.run Tryz.prog (Instr.index 203 (.agg #[.int .u64 A,.int .i64 low,.int .u64 B,.int .i64 high,.int .u64 C,.int .i64 old,.int .u64 D,.int .i64 far]) (.int .i64 3)) W=.ok (.agg #[.int .u64 D,.int .i64 far]) W:=λW=>by kernel_rfl
 go_region_held3 (λw'=>w'.cell? ⟨w.heap.size,0,none⟩=some (.int .u64 base)/\w'.cell? ⟨w.heap.size,1,none⟩=some (.int .i64 cap)/\w'.cell? ⟨w.heap.size,2,none⟩=some (.int .i64 tt)/\w'.cell? ⟨w.heap.size,3,none⟩=some (.int .i64 low)/\w'.cell? ⟨w.heap.size,4,none⟩=some (.int .i64 high)/\w'.cell? ⟨w.heap.size,5,none⟩=some (.int .i64 old)/\w'.cell? ⟨w.heap.size,6,none⟩=some (.int .i64 far)/\w'.cell? ⟨w.heap.size+1,0,none⟩=some (.int .i64 4))
  ((refine Ox (W:=w1) (n:=w1.heap.size) ?_ l0 l1 ⟨c0 0,c0 1,c0 2,c0 3,c0 4,c0 5,c0 6,c1 0⟩;exact bm))
  (first
   |(go_at_call 131;refine(R2.out _).mono ?_;rintro e w2 ⟨rfl,k2⟩;obtain⟨k2c,k2f⟩:=vF k2;have kb:Below w1.heap.size w1 w2:=(by first|exact au (kP (Below.refl _ _)) k2|exact au (gu (kP (Below.refl _ _)) _) k2);have k2z:w1.heap.size<=w2.heap.size:=Nat.le_trans (by simp) k2.size))
 all_goals
  obtain⟨m1,d1,g1⟩:=(K1.tr kb).get
  have n1:¬w.heap.size+1=w2.heap.size:=by omega
  have n2:¬w.heap.size+1=w1.heap.size:=by omega
  go_wp2_with fail
  go_ret2
  refine⟨rfl,?_⟩
  exact bm
theorem Jd(L:Lay)(p:Nat)(x:Int)(w:World)(ok:L.ok)(hr:fZ L=true)(hp:1<=p/\p<=4)(hx:0<=x/\x<jG L p):
  Calls Tryz.prog 125 #[eY L,.agg #[.int .i64 p,.int .i64 x]] w λe w'=>e=.returned (.tuple #[.int .u64 (aA L p+x),.int .i64 0])/\Below w.heap.size w w':=by
 rcases(show p=1\/p=2\/p=3\/p=4 by omega)with rfl|rfl|rfl|rfl
 ·exact P8 L x w ok hr hx
 ·exact P9 L x w ok hr hx
 ·exact Qa L x w ok hr hx
 ·exact Qb L x w ok hr hx
end Go.Proofs.YtpgjploaliefdaaGreat.hp
