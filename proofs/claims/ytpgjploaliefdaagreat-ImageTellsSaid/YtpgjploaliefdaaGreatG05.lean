/- The document's layer 11, plain: what is right for it is right for the program. No conditions. -/
import Derived.Test.YtpgjploaliefdaaGreatG04
import Derived.Test.YtpgjploaliefdaaGreatG03
namespace Go.Proofs.YtpgjploaliefdaaGreat.rf
open Go hp ob hd cp
set_option linter.unusedVariables false
set_option linter.unusedSimpArgs false
theorem vO{bg:Nat->Nat->Int->Option (Ob×Nat)}{zs:List Int}{len:Nat}:∀{f k pos:Nat}{acc l:List Ob}{k2:Nat},(∀o∈acc,iK o zs o.s.toNat=true)->aV bg zs len f k pos acc=.ok l k2->∀o∈l,iK o zs o.s.toNat=true
 |0,k,pos,acc,l,k2,ha,h=>by cases h
 |f+1,k,pos,acc,l,k2,ha,h=>by
  by_cases hp:pos<len
  ·rw[fC hp]at h
   split at h
   ·cases h
   ·rename_i o k' hb
    split at h
    ·cases h
    ·split at h
     ·rename_i hs
      exact vO (acc:=acc++[o]) (λo' ho'=>by
       rcases List.mem_append.1 ho' with h6|h6
       ·exact ha _ h6
       ·simp at h6;subst h6;exact hs) h
     ·cases h
  ·rw[gQ hp]at h
   cases h
   exact ha
theorem FN{zs:List Int}{ss:List (Int×Int)}{l:List Ob}{k:Nat}(h:iq zs ss=.ok l k):∀o∈l,iK o zs o.s.toNat=true:=by
 unfold iq at h
 generalize hw:aV (jP ss.length ss) zs zs.length (zs.length+1) 0 0 []=r at h
 rcases r with⟨l',k'⟩|⟨c,k'⟩
 ·obtain rfl:=pJ h
  exact vO (acc:=[]) (λo ho=>by simp at ho) hw
 ·cases h
theorem FP{zs:List Int}{l:List Ob}{k:Nat}(h:newF zs=.ok l k):∀o∈l,iK o zs o.s.toNat=true:=vO (acc:=[]) (λo ho=>by simp at ho) h
theorem Je{h:Hp}{s:dS}(f:cp.Found h s)(p:Nat):∀o∈s.obs p,iK o (h.part p) o.s.toNat=true:=by
 obtain⟨⟨k1,e1⟩,⟨k2,e2⟩,⟨k3,e3⟩,⟨k4,e4⟩,e5,e6⟩:=f
 unfold dS.obs Hp.part
 repeat' split
 ·exact FP e1
 ·exact FP e2
 ·exact FN e3
 ·exact FN e4
def P4.of(s:dS):P4:=⟨s.o1,s.o2,s.o3,s.o4⟩
theorem yA(s:dS)(p:Nat):(P4.of s).obs p=s.obs p:=rfl
theorem zH{L:Lay}{s:P4}{w:Int}{x y:Nat}:dU L s w x y=true↔w=0\/(mD w=0/\((∃o∈s.obs x,aA L x+o.pos=gB w)\/∃o∈s.obs y,aA L y+o.pos=gB w)):=by
 unfold dU
 simp only[Bool.or_eq_true,Bool.and_eq_true,decide_eq_true_eq,Xj]
theorem Oy{h:Hp}{s:dS}(f:cp.Found h s)(hr:fZ h.lay=true)(w a b:Int):aP s.pf w a b=true↔w=0\/(mD w=0/\∃p:Nat,(1<=p/\p<=4)/\(a<=p/\p<=b)/\∃o∈s.obs p,aA h.lay p+o.pos=gB w):=by
 unfold aP
 simp only[Bool.or_eq_true,Bool.and_eq_true,decide_eq_true_eq]
 constructor
 ·rintro(e|⟨e,k⟩)
  ·exact .inl e
  ·refine .inr ⟨e,?_⟩
   split at k
   ·cases k
   ·rename_i q hq
    obtain⟨p,rfl,hp,o,ho,eo⟩:=(f.He hr _ _).1 hq
    exact⟨p,hp,of_decide_eq_true k,o,ho,eo⟩
 ·rintro(e|⟨e,p,hp,hab,o,ho,eo⟩)
  ·exact .inl e
  ·refine .inr ⟨e,?_⟩
   rw[(f.He hr _ _).2 ⟨p,rfl,hp,o,ho,eo⟩]
   exact decide_eq_true hab
theorem Jf{h:Hp}{s:dS}(f:cp.Found h s)(hr:fZ h.lay=true)(w:Int)(x:Nat)(hx:x=1\/x=3):aP s.pf w x (x+1:Nat)=dU h.lay (P4.of s) w x (x+1):=by
 rw[Bool.eq_iff_iff,Oy f hr,zH,yA,yA]
 constructor
 ·rintro(e|⟨e,p,hp,hab,o,ho,eo⟩)
  ·exact .inl e
  ·refine .inr ⟨e,?_⟩
   rcases(show p=x\/p=x+1 by omega)with rfl|rfl
   ·exact .inl ⟨o,ho,eo⟩
   ·exact .inr ⟨o,ho,eo⟩
 ·rintro(e|⟨e,⟨o,ho,eo⟩|⟨o,ho,eo⟩⟩)
  ·exact .inl e
  ·exact .inr ⟨e,x,by omega,by omega,o,ho,eo⟩
  ·exact .inr ⟨e,x+1,by omega,by omega,o,ho,eo⟩
theorem Qc{h:Hp}{s:dS}(f:cp.Found h s)(hr:fZ h.lay=true)(w:Int):aP s.pf w 1 4=(dU h.lay (P4.of s) w 1 2||dU h.lay (P4.of s) w 3 4):=by
 rw[Bool.eq_iff_iff,Bool.or_eq_true,Oy f hr,zH,zH,yA,yA,yA,yA]
 constructor
 ·rintro(e|⟨e,p,hp,hab,o,ho,eo⟩)
  ·exact .inl (.inl e)
  ·rcases(show p=1\/p=2\/p=3\/p=4 by omega)with rfl|rfl|rfl|rfl
   ·exact .inl (.inr ⟨e,.inl ⟨o,ho,eo⟩⟩)
   ·exact .inl (.inr ⟨e,.inr ⟨o,ho,eo⟩⟩)
   ·exact .inr (.inr ⟨e,.inl ⟨o,ho,eo⟩⟩)
   ·exact .inr (.inr ⟨e,.inr ⟨o,ho,eo⟩⟩)
 ·rintro((e|⟨e,⟨o,ho,eo⟩|⟨o,ho,eo⟩⟩)|(e|⟨e,⟨o,ho,eo⟩|⟨o,ho,eo⟩⟩))
  ·exact .inl e
  ·exact .inr ⟨e,1,by omega,by omega,o,ho,eo⟩
  ·exact .inr ⟨e,2,by omega,by omega,o,ho,eo⟩
  ·exact .inl e
  ·exact .inr ⟨e,3,by omega,by omega,o,ho,eo⟩
  ·exact .inr ⟨e,4,by omega,by omega,o,ho,eo⟩
theorem Qd(L:Lay)(s:P4)(x y:Nat):dU L s 0 x y=true:=by rw[zH];exact .inl rfl
theorem LM(h:Hp)(s:P4)(p:Nat)(k:Int):qj h s p k 0=true:=by
 unfold qj
 repeat' split
 all_goals simp[Qd]
theorem CV{h:Hp}{s:dS}(f:cp.Found h s)(p:Nat)(hp:1<=p/\p<=4):gZ h (P4.of s) p=aB (qj h (P4.of s) p) (h.part p) (s.obs p):=by
 unfold gZ aB
 rw[yA,Bool.eq_iff_iff,List.all_eq_true,List.all_eq_true]
 have key:∀o∈s.obs p,(((List.range o.p.toNat).all λi=>qj h (P4.of s) p (o.pos+1+i) ((h.part p).getD (o.pos.toNat+1+i) 0))=(o.g||qg (qj h (P4.of s) p) (h.part p) o o.p.toNat)):=λo ho=>by
  cases hg:o.g with
  |false=>rfl
  |true=>
   rw[Bool.true_or,List.all_eq_true]
   intro i hi
   have hs:=(mP _ _ _).1 (Je f p o ho)
   have hc:=((f.chain p hp).from o ho).2
   obtain⟨c1,c2,c3,c4,c5,c6⟩:=hc
   have:=hs i (by have:=List.mem_range.1 hi;omega)
   unfold gU at this
   rw[hg,if_pos rfl]at this
   rw[of_decide_eq_true this]
   exact LM _ _ _ _
 exact⟨λa o ho=>by rw[<-key o ho];exact a o ho,λa o ho=>by rw[key o ho];exact a o ho⟩
theorem lQ{P Q:Int->Int->Bool}(k:∀a x,P a x=Q a x)(zs:List Int)(os:List Ob):aB P zs os=aB Q zs os:=by
 have:P=Q:=funext λa=>funext λx=>k a x
 rw[this]
theorem Hg(P Q:Int->Int->Bool)(zs:List Int)(os:List Ob):(aB P zs os&&aB Q zs os)=aB (λa x=>P a x&&Q a x) zs os:=by
 unfold aB qg
 rw[Bool.eq_iff_iff]
 simp only[Bool.and_eq_true,List.all_eq_true,Bool.or_eq_true]
 constructor
 ·rintro⟨a,b⟩ o ho
  rcases a o ho with e|e
  ·exact .inl e
  ·rcases b o ho with e'|e'
   ·exact .inl e'
   ·exact .inr λi hi=>⟨e i hi,e' i hi⟩
 ·intro a
  refine⟨λo ho=> ?_,λo ho=> ?_⟩
  ·rcases a o ho with e|e
   ·exact .inl e
   ·exact .inr λi hi=>(e i hi).1
  ·rcases a o ho with e|e
   ·exact .inl e
   ·exact .inr λi hi=>(e i hi).2
theorem Ug{h:Hp}{s:dS}(f:cp.Found h s)(hr:fZ h.lay=true):
  (fM h s&&(dO h s&&leftB h s))=(h.roots.all (λw=>dU h.lay (P4.of s) w 1 2)&&(gZ h (P4.of s) 1&&(gZ h (P4.of s) 2&&(gZ h (P4.of s) 3&&gZ h (P4.of s) 4)))):=by
 have g12:∀w,aP s.pf w 1 2=dU h.lay (P4.of s) w 1 2:=λw=>Jf f hr w 1 (.inl rfl)
 have g34:∀w,aP s.pf w 3 4=dU h.lay (P4.of s) w 3 4:=λw=>Jf f hr w 3 (.inr rfl)
 have e1:gZ h (P4.of s) 1=(aB (λat_ x=>decide (h.scan<=at_)||aP s.pf x 1 2) h.low s.o1&&aB (λat_ x=>decide (at_<h.scan)||aP s.pf x 1 4) h.low s.o1):=by
  rw[Hg,CV f 1 (by omega)]
  refine lQ (λa x=> ?_) _ _
  rw[g12,Qc f hr]
  unfold qj
  rw[if_neg (by omega)]
  by_cases hs:h.scan<=a
  ·rw[if_pos ⟨rfl,hs⟩,decide_eq_true hs,decide_eq_false (by omega)]
   simp
  ·rw[if_neg (λk=>hs k.2),decide_eq_false hs,decide_eq_true (by omega)]
   simp
 have e2:gZ h (P4.of s) 2=aB (λ_ x=>aP s.pf x 1 2) h.high s.o2:=by
  rw[CV f 2 (by omega)]
  refine lQ (λa x=> ?_) _ _
  rw[g12]
  unfold qj
  rw[if_neg (by omega),if_neg (by omega)]
 have e3:gZ h (P4.of s) 3=aB (λ_ x=>aP s.pf x 3 4) h.old s.o3:=by
  rw[CV f 3 (by omega)]
  refine lQ (λa x=> ?_) _ _
  rw[g34]
  unfold qj
  rw[if_pos (by omega)]
 have e4:gZ h (P4.of s) 4=aB (λ_ x=>aP s.pf x 3 4) h.far s.o4:=by
  rw[CV f 4 (by omega)]
  refine lQ (λa x=> ?_) _ _
  rw[g34]
  unfold qj
  rw[if_pos (by omega)]
 rw[e1,e2,e3,e4]
 unfold fM dO leftB
 rw[show(λx=>aP s.pf x 1 2)=(λw=>dU h.lay (P4.of s) w 1 2)from funext g12]
 generalize h.roots.all _=a
 generalize aB _ h.high s.o2=b
 generalize aB _ h.low s.o1=c
 generalize aB _ h.low s.o1=d
 generalize aB _ h.old s.o3=e
 generalize aB _ h.far s.o4=g
 cases a<;>cases b<;>cases c<;>cases d<;>cases e<;>cases g<;>rfl
def qU(l:List Ob):List Int:=(l.filter λo=>o.g).map λo=>o.t
theorem yB{pf:Int->Option Int}:∀{l:List Ob}{t:Int->Bool}{n m:Nat},iL pf l t n=some m↔(∀a∈qU l,(pf a).getD 0=1/\t a=false)/\(qU l).Nodup/\m=n+(qU l).length
 |[],t,n,m=>by
  show some n=some m↔_
  simp only[qU,List.filter_nil,List.map_nil,List.length_nil,Nat.add_zero,List.nodup_nil,List.not_mem_nil,false_implies,implies_true,true_and,Option.some.injEq]
  exact⟨λe=>e.symm,λe=>e.symm⟩
 |o::l,t,n,m=>by
  unfold iL
  cases hg:o.g with
  |false=>
   have e:qU (o::l)=qU l:=by simp[qU,hg]
   rw[if_neg (by simp),e]
   exact yB
  |true=>
   have e:qU (o::l)=o.t::qU l:=by simp[qU,hg]
   rw[if_pos rfl,e]
   by_cases hc:(pf o.t).getD 0=1/\t o.t=false
   ·rw[if_pos hc,yB]
    simp only[List.mem_cons,List.nodup_cons,List.length_cons,forall_eq_or_imp,Bool.or_eq_false_iff,decide_eq_false_iff_not]
    constructor
    ·rintro⟨a,b,c⟩
     exact⟨⟨hc,λx hx=>⟨(a x hx).1,(a x hx).2.2⟩⟩,⟨λhx=>(a _ hx).2.1 rfl,b⟩,by omega⟩
    ·rintro⟨⟨_,a⟩,⟨b1,b2⟩,c⟩
     exact⟨λx hx=>⟨(a x hx).1,λq=>b1 (by rw[<-q];exact hx),(a x hx).2⟩,b2,by omega⟩
   ·rw[if_neg hc]
    constructor
    ·intro k;cases k
    ·rintro⟨a,_⟩
     exact absurd (a o.t (by simp)) hc
theorem Qe{A G:List Int}(hA:A.Nodup)(hG:∀g∈G,g∈A):(A.map λa=>G.count a).sum=G.length:=by
 induction G with
 |nil=>
  clear hA hG
  induction A with
  |nil=>rfl
  |cons a A ih=>rw[List.map_cons,List.sum_cons,ih];rfl
 |cons g G ih=>
  have h1:(A.map λa=>(g::G).count a).sum=(A.map λa=>G.count a).sum+A.count g:=by
   clear ih hG hA
   induction A with
   |nil=>rfl
   |cons a A ih=>
    rw[List.map_cons,List.sum_cons,List.map_cons,List.sum_cons,ih,List.count_cons,List.count_cons]
    by_cases e:g=a
    ·subst e;simp;omega
    ·have e2:¬a=g:=λk=>e k.symm
     simp[e,e2];omega
  rw[h1,ih (λx hx=>hG x (List.mem_cons_of_mem _ hx)),hA.count (a:=g),if_pos (hG g (by simp)),List.length_cons]
theorem Xl{A:List Int}{f:Int->Nat}(h1:∀a∈A,f a<=1)(h:(A.map f).sum=A.length):∀a∈A,f a=1:=by
 induction A with
 |nil=>intro a ha;cases ha
 |cons b A ih=>
  rw[List.map_cons,List.sum_cons,List.length_cons]at h
  have h2:(A.map f).sum<=A.length:=by
   clear ih h
   induction A with
   |nil=>simp
   |cons c A ih=>
    have:=h1 c (by simp)
    have:=ih λa ha=>h1 a (by rcases List.mem_cons.1 ha with rfl|ha<;>simp[*])
    rw[List.map_cons,List.sum_cons,List.length_cons]
    omega
  have h3:=h1 b (by simp)
  intro a ha
  rcases List.mem_cons.1 ha with rfl|ha
  ·omega
  ·exact ih (λa ha=>h1 a (List.mem_cons_of_mem _ ha)) (by omega) a ha
theorem Uh{A G:List Int}(hA:A.Nodup)(hG:∀g∈G,g∈A):(∀a∈A,G.count a=1)↔G.Nodup/\G.length=A.length:=by
 have hs:=Qe hA hG
 constructor
 ·intro h
  refine⟨List.nodup_iff_count.2 λa=> ?_,?_⟩
  ·by_cases ha:a∈G
   ·exact Nat.le_of_eq (h a (hG a ha))
   ·rw[List.count_eq_zero.2 ha];omega
  ·have:(A.map λa=>G.count a)=A.map λ_=>1:=List.map_congr_left h
   rw[<-hs,this]
   clear hs h this hA hG
   induction A with
   |nil=>rfl
   |cons a A ih=>simp[ih];omega
 ·rintro⟨h1,h2⟩
  exact Xl (λa _=>List.nodup_iff_count.1 h1 a) (by rw[hs,h2])
theorem Ui(s:P4)(a:Int):FK s a=(qU (s.c++s.d)).count a:=by
 unfold FK qU
 generalize s.c++s.d=l
 induction l with
 |nil=>rfl
 |cons o l ih=>
  rw[List.countP_cons,ih,List.filter_cons]
  cases hg:o.g with
  |false=>simp
  |true=>
   rw[if_pos rfl,List.map_cons,List.count_cons]
   by_cases e:o.t=a<;>simp[e]
theorem Qg{h:Hp}{s:dS}(f:cp.Found h s)(hr:fZ h.lay=true):iH h s=(!h.dJ||(P4.of s).a.all λo=>decide (FK (P4.of s) (aA h.lay 1+o.pos)=1)):=by
 unfold iH
 congr 1
 have hc:iD h.low.length 0 s.o1:=f.chain 1 (by omega)
 have hA:(s.o1.map λo=>aA h.lay 1+o.pos).Nodup:=by
  rw[List.nodup_iff_pairwise_ne,List.pairwise_map]
  exact hc.nodup.imp λh=>by omega
 have hG:∀g∈qU (s.o3++s.o4),g∈s.o1.map λo=>aA h.lay 1+o.pos:=λg hg=>by
  obtain⟨o,ho,rfl⟩:=List.mem_map.1 hg
  obtain⟨ho,hgg⟩:=List.mem_filter.1 ho
  obtain⟨k1,k2,⟨k3,e3⟩,⟨k4,e4⟩,e5,e6⟩:=f
  have hl:s.lf o.t=some (o.s,o.p):=by
   rcases List.mem_append.1 ho with ho|ho
   ·exact im.Uf e3 o ho hgg
   ·exact im.Uf e4 o ho hgg
  obtain⟨o',ho',e,_⟩:=(cp.Found.LJ ⟨k1,k2,⟨k3,e3⟩,⟨k4,e4⟩,e5,e6⟩ _ _).1 hl
  exact List.mem_map.2 ⟨o',ho',e⟩
 have h1:=Uh hA hG
 have hlen:(s.o1.map λo=>aA h.lay 1+o.pos).length=s.o1.length:=by simp
 rw[hlen]at h1
 rw[Bool.eq_iff_iff,decide_eq_true_eq,yB,List.all_eq_true]
 have hpf:∀a∈qU (s.o3++s.o4),(s.pf a).getD 0=1:=λa ha=>by
  obtain⟨o,ho,e⟩:=List.mem_map.1 (hG a ha)
  rw[(f.He hr a 1).2 ⟨1,rfl,by omega,o,ho,e⟩]
  rfl
 constructor
 ·rintro⟨_,b,c⟩ o ho
  have:=h1.2 ⟨b,by omega⟩ _ (List.mem_map.2 ⟨o,ho,rfl⟩)
  rw[decide_eq_true_eq,Ui]
  exact this
 ·intro k
  have:=h1.1 λa ha=>by
   obtain⟨o,ho,rfl⟩:=List.mem_map.1 ha
   have:=of_decide_eq_true (k o ho)
   rw[Ui]at this
   exact this
  exact⟨λa ha=>⟨hpf a ha,rfl⟩,this.1,by omega⟩
theorem LP(h:Hp):dZ h=if aZ h&&bW h then(match iw h 4 with
  |none=>none
  |some s=>if(iH h s&&(fM h s&&(dO h s&&(leftB h s&&kS h s))))then some s else none)else none:=by
 have e1:looks h 1=if aZ h then some dS.nil else none:=rfl
 have e2:looks h 2=if aZ h&&bW h then some dS.nil else none:=by
  show(looks h 1).bind _=_
  rw[e1]
  cases aZ h<;>cases hb:bW h<;>simp[uO,hb]
 have e3:looks h 3=if aZ h&&bW h then iw h 4 else none:=by
  show(looks h 2).bind _=_
  rw[e2]
  cases(aZ h&&bW h)<;>simp[uO]
 unfold dZ
 show(((((looks h 3).bind (uO h 3)).bind (uO h 4)).bind (uO h 5)).bind (uO h 6)).bind (uO h 7)=_
 rw[e3]
 cases(aZ h&&bW h)with
 |false=>rfl
 |true=>
  simp only[if_true]
  cases iw h 4 with
  |none=>rfl
  |some s=>
   cases hc:iH h s<;>cases hs:fM h s<;>cases hu:dO h s<;>cases hl:leftB h s<;>cases hro:kS h s<;>simp[uO,hc,hs,hu,hl,hro]
theorem yD(h:Hp):qm h=(dZ h).isSome/\∀s,dZ h=some s->kT h=some (P4.of s):=by
 rw[LP]
 unfold qm
 cases hb:(aZ h&&bW h)with
 |false=>exact⟨rfl,λs k=>by cases k⟩
 |true=>
  have hr:fZ h.lay=true:=by
   rw[Bool.and_eq_true]at hb
   have:=hb.1
   unfold aZ at this
   rw[Bool.and_eq_true]at this
   exact this.1
  simp only[if_true,Bool.true_and]
  cases e:iw h 4 with
  |none=>
   cases p:kT h with
   |none=>exact⟨rfl,λs k=>by cases k⟩
   |some s=>
    obtain⟨t,ht,_⟩:=Jc p
    rw[e]at ht
    cases ht
  |some s=>
   have hp:=jJ e
   have f:=vN e
   rw[hp]
   dsimp only
   have h1:=Qg f hr
   have h2:=Ug f hr
   have h3:kS h s=decide (h.low.length+h.high.length+bM ((P4.of s).c++(P4.of s).d)<=h.cap):=rfl
   constructor
   ·show((!h.dJ||(P4.of s).a.all λo=>decide (FK (P4.of s) (aA h.lay 1+o.pos)=1))&&(h.roots.all (λw=>dU h.lay (P4.of s) w 1 2)&&((gZ h (P4.of s) 1&&(gZ h (P4.of s) 2&&(gZ h (P4.of s) 3&&gZ h (P4.of s) 4)))&&decide (h.low.length+h.high.length+bM ((P4.of s).c++(P4.of s).d)<=h.cap))))=_
    rw[<-h1,<-h3,<-Bool.and_assoc (h.roots.all _),<-h2]
    generalize iH h s=a
    generalize fM h s=b
    generalize dO h s=c
    generalize leftB h s=d
    generalize kS h s=e
    cases a<;>cases b<;>cases c<;>cases d<;>cases e<;>rfl
   ·intro s' k
    split at k
    ·cases k
     rfl
    ·cases k
end Go.Proofs.YtpgjploaliefdaaGreat.rf
namespace Go.Proofs.YtpgjploaliefdaaGreat.rh
open Go hp ob hd cp
set_option linter.unusedVariables false
set_option linter.unusedSimpArgs false
structure Rh where
 nodes:List (List Int×List Int)
 roots:List Int
 cls:List Int
 base:Int
 dR:Int
 scan:Int
 tt:Int
def nN(x:Rh):Nat:=min x.nodes.length 10
def bf(x:Rh)(i:Nat):List Int:=(((x.nodes.getD i ([],[])).1).take 4).map λc=>aC c ((nN x:Int)+1)-1
def dI(x:Rh)(i:Nat):List Int:=((x.nodes.getD i ([],[])).2).take 4
def bI(x:Rh):List Int:=if x.roots=[]then [(nN x:Int)-1]else(x.roots.take 5).map λc=>aC c ((nN x:Int)+1)-1
def iF(x:Rh)(i:Nat):Nat:=(bf x i).length+(dI x i).length
def Xm(x:Rh)(i:Nat):Int:=if x.cls=[]then(i:Int)else x.cls.getD (i%x.cls.length) 0
def Jg(x:Rh)(c:Bool)(i:Nat):Nat:=if(aC (Xm x i) 3).toNat=2/\c=false then 1 else(aC (Xm x i) 3).toNat
def Uj(x:Rh)(i:Nat):Bool:=decide (aC (Int.tdiv (Xm x i) 3) 2=1)
def hpt(x:Rh)(c:Bool)(i:Nat):Nat:=if Jg x c i<2 then 2-Jg x c i else 0
def opt(x:Rh)(c:Bool)(i:Nat):Nat:=if 0<Jg x c i/\c=true then(if Uj x i then 4 else 3)else 0
def qp(z:Nat->Nat)(q:Nat->Nat)(p:Nat):Nat->Nat
 |0=>0
 |i+1=>qp z q p i+if q i=p then 1+z i else 0
def hof(x:Rh)(c:Bool)(p i:Nat):Nat:=qp (iF x) (hpt x c) p i
def aY(x:Rh)(c:Bool)(p i:Nat):Nat:=qp (iF x) (opt x c) p i
def dP(x:Rh)(c:Bool):Nat:=max (hof x c 1 (nN x)+hof x c 2 (nN x)+hof x c 0 (nN x)) (aY x c 3 (nN x)+aY x c 4 (nN x))+(aC x.dR 12).toNat
def iU(x:Rh)(c:Bool):Nat:=if c=true/\0<hof x c 1 (nN x)then(aC x.scan (hof x c 1 (nN x))).toNat else hof x c 1 (nN x)
def dW(x:Rh)(c:Bool):Lay:=⟨1+x.base%(9223372036854775808-2*dP x c),dP x c,aC x.tt 2,hof x c 1 (nN x),hof x c 2 (nN x),aY x c 3 (nN x),aY x c 4 (nN x)⟩
def AA(L:Lay)(p a:Nat):Int:=if p=0 then 0 else 2*(aA L p+a)+1
def hrf(x:Rh)(c:Bool)(j:Nat):Int:=AA (dW x c) (hpt x c j) (hof x c (hpt x c j) j)
def Uk(x:Rh)(c:Bool)(j:Nat):Int:=AA (dW x c) (opt x c j) (aY x c (opt x c j) j)
def jl(x:Rh)(c:Bool)(p at_:Nat)(tg:Int)(tw:Int):Int:=
 if tg<0 then 0 else if 2<p then Uk x c tg.toNat
 else if(p=1/\iU x c<=at_)/\(hpt x c tg.toNat=0\/(0<opt x c tg.toNat/\tw.tmod 2=0))then Uk x c tg.toNat else hrf x c tg.toNat
def wr(n:Int):Int:=IntKind.i64.wrap n
def bZ(x:Rh)(c:Bool)(p a:Nat)(tw:Int)(k:Nat):List Int->List Int
 |[]=>[]
 |t::l=>jl x c p (a+1+k) t (wr (tw+k))::bZ x c p a tw (k+1) l
def La(x:Rh)(c:Bool)(i:Nat):Pc:=⟨bV (iF x i) (bf x i).length,iF x i,(bf x i).length,false,bZ x c (hpt x c i) (hof x c (hpt x c i) i) (wr (x.dR+i)) 0 (bf x i)++dI x i⟩
def vk(x:Rh)(c:Bool)(i:Nat):Pc:=if 0<hpt x c i then⟨hrf x c i,iF x i,(bf x i).length,true,List.replicate (iF x i) 0⟩
 else⟨bV (iF x i) (bf x i).length,iF x i,(bf x i).length,false,bZ x c (opt x c i) (aY x c (opt x c i) i) 0 0 (bf x i)++dI x i⟩
def pieces(q:Nat->Nat)(P:Nat->Pc)(p n:Nat):List Pc:=(List.range n).flatMap λi=>if q i=p then [P i]else []
def je(x:Rh)(c:Bool)(p n:Nat):List Pc:=pieces (hpt x c) (La x c) p n
def fE(x:Rh)(c:Bool)(p n:Nat):List Pc:=pieces (opt x c) (vk x c) p n
def uQ(x:Rh)(c:Bool)(r:Int):Int:=if 0<=r then hrf x c r.toNat else 0
def bF(x:Rh)(c:Bool):Hp:=⟨(dW x c).base,(dW x c).cap,(dW x c).tt,c,iU x c,wordsOf (je x c 1 (nN x)),wordsOf (je x c 2 (nN x)),wordsOf (fE x c 3 (nN x)),wordsOf (fE x c 4 (nN x)),(bI x).map (uQ x c)⟩
def gK(x:Rh):Hp:=if hof x true 1 (nN x)=0 then bF x false else bF x true
structure jT(x:Rh):Prop where
 base:Og x.base
 data:∀n∈x.nodes,∀d∈n.2,Og d
theorem pieces_succ(q:Nat->Nat)(P:Nat->Pc)(p n:Nat):pieces q P p (n+1)=pieces q P p n++if q n=p then [P n]else []:=by
 unfold pieces
 rw[List.range_succ,List.flatMap_append]
 simp
theorem lU{z:Nat->Nat}{q:Nat->Nat}{P:Nat->Pc}(h:∀i,(P i).s=z i/\(P i).ys.length=z i)(p:Nat):∀n,(wordsOf (pieces q P p n)).length=qp z q p n
 |0=>rfl
 |n+1=>by
  rw[pieces_succ,nX,List.length_append,lU h p n]
  show _=_+_
  congr 1
  split
  ·simp[wordsOf,(h n).2];omega
  ·rfl
theorem jf(x:Rh)(c:Bool)(p a:Nat)(tw:Int):∀(l:List Int)(k:Nat),(bZ x c p a tw k l).length=l.length
 |[],k=>rfl
 |t::l,k=>by simp[bZ,jf x c p a tw l (k+1)]
theorem DL(x:Rh)(c:Bool)(i:Nat):(La x c i).s=iF x i/\(La x c i).ys.length=iF x i:=by
 refine⟨rfl,?_⟩
 show(bZ _ _ _ _ _ _ _++dI x i).length=_
 rw[List.length_append,jf]
 rfl
theorem BP(x:Rh)(c:Bool)(i:Nat):(vk x c i).s=iF x i/\(vk x c i).ys.length=iF x i:=by
 unfold vk
 split
 ·exact⟨rfl,by simp⟩
 ·refine⟨rfl,?_⟩
  show(bZ _ _ _ _ _ _ _++dI x i).length=_
  rw[List.length_append,jf]
  rfl
theorem hlen(x:Rh)(c:Bool)(p n:Nat):(wordsOf (je x c p n)).length=hof x c p n:=lU (DL x c) p n
theorem AB(x:Rh)(c:Bool)(p n:Nat):(wordsOf (fE x c p n)).length=aY x c p n:=lU (BP x c) p n
theorem sK(x:Rh)(c:Bool):(bF x c).lay=dW x c:=by
 unfold Hp.lay bF
 simp only[hlen,AB]
 rfl
theorem uj(x:Rh)(i:Nat):iF x i<=8:=by
 unfold iF bf dI
 simp only[List.length_map,List.length_take]
 omega
theorem mX(z q:Nat->Nat)(p:Nat){i j:Nat}(h:i<=j):qp z q p i<=qp z q p j:=by
 induction j with
 |zero=>obtain rfl:i=0:=by omega
        exact Nat.le_refl _
 |succ j ih=>
  rcases Nat.lt_or_ge i (j+1)with h1|h1
  ·exact Nat.le_trans (ih (by omega)) (Nat.le_add_right _ _)
  ·obtain rfl:i=j+1:=by omega
   exact Nat.le_refl _
theorem oW{z q:Nat->Nat}{p i n:Nat}(h:i<n)(hq:q i=p):qp z q p i+1+z i<=qp z q p n:=by
 have:qp z q p (i+1)<=qp z q p n:=mX z q p h
 have e:qp z q p (i+1)=qp z q p i+(1+z i):=by show _+_=_;rw[if_pos hq]
 omega
theorem qw(z q:Nat->Nat)(hz:∀i,z i<=8)(ps:List Nat)(hp:ps.Nodup):∀n,(ps.map λp=>qp z q p n).sum<=9*n
 |0=>by
  have:∀l:List Nat,(l.map λp=>qp z q p 0).sum=0:=λl=>by
   induction l with
   |nil=>rfl
   |cons a l ih=>rw[List.map_cons,List.sum_cons,ih];rfl
  rw[this]
  exact Nat.le_refl _
 |n+1=>by
  have ih:=qw z q hz ps hp n
  have key:∀l:List Nat,l.Nodup->(l.map λp=>qp z q p (n+1)).sum<=(l.map λp=>qp z q p n).sum+if q n∈l then 1+z n else 0:=by
   intro l hl
   induction l with
   |nil=>simp
   |cons a l ih=>
    have h1:=ih (List.nodup_cons.1 hl).2
    have h2:=(List.nodup_cons.1 hl).1
    have e:qp z q a (n+1)=qp z q a n+if q n=a then 1+z n else 0:=rfl
    simp only[List.map_cons,List.sum_cons,e]
    by_cases h3:q n=a
    ·have h4:¬q n∈l:=by rw[h3];exact h2
     rw[if_neg h4]at h1
     rw[if_pos h3,if_pos (by rw[h3];exact List.mem_cons_self)]
     omega
    ·rw[if_neg h3]
     by_cases h4:q n∈l
     ·rw[if_pos h4]at h1
      rw[if_pos (List.mem_cons_of_mem _ h4)]
      omega
     ·rw[if_neg h4]at h1
      omega
  have:=key ps hp
  have hz1:=hz n
  split at this<;>omega
theorem DN(x:Rh):nN x<=10:=Nat.min_le_right _ _
theorem DR(x:Rh)(c:Bool):hof x c 1 (nN x)+hof x c 2 (nN x)+hof x c 0 (nN x)<=90:=by
 have:=qw (iF x) (hpt x c) (uj x) [1,2,0] (by decide) (nN x)
 have h1:=DN x
 simp only[List.map_cons,List.map_nil,List.sum_cons,List.sum_nil]at this
 unfold hof
 omega
theorem Hl(x:Rh)(c:Bool):aY x c 3 (nN x)+aY x c 4 (nN x)<=90:=by
 have:=qw (iF x) (opt x c) (uj x) [3,4] (by decide) (nN x)
 have h1:=DN x
 simp only[List.map_cons,List.map_nil,List.sum_cons,List.sum_nil]at this
 unfold aY
 omega
theorem Ul(x:Rh)(c:Bool):dP x c<=101:=by
 have h1:=DR x c
 have h2:=Hl x c
 have h3:=dw x.dR (n:=12) (by decide)
 unfold dP
 omega
theorem pK{x:Rh}(hx:0<=x.base)(c:Bool):fZ (dW x c)=true:=by
 have h1:=Ul x c
 have h2:=dw x.tt (n:=2) (by decide)
 have h3:0<=x.base%(9223372036854775808-2*(dP x c:Int))/\x.base%(9223372036854775808-2*(dP x c:Int))<9223372036854775808-2*(dP x c:Int):=⟨Int.emod_nonneg _ (by omega),Int.emod_lt_of_pos _ (by omega)⟩
 have h4:hof x c 1 (nN x)+hof x c 2 (nN x)<=dP x c:=by unfold dP;omega
 have h5:aY x c 3 (nN x)+aY x c 4 (nN x)<=dP x c:=by unfold dP;omega
 unfold fZ dW
 simp only[decide_eq_true_eq]
 omega
theorem Oz(x:Rh)(c:Bool):iU x c<=hof x c 1 (nN x)/\(c=true->0<hof x c 1 (nN x)->iU x c<hof x c 1 (nN x))/\(c=false->iU x c=hof x c 1 (nN x)):=by
 unfold iU
 split
 ·rename_i h
  have:=dw x.scan (n:=(hof x c 1 (nN x):Int)) (by omega)
  refine⟨by omega,λ_ _=>by omega,λe=>by rw[e]at h;cases h.1⟩
 ·rename_i h
  exact⟨Nat.le_refl _,λh1 h2=>absurd ⟨h1,h2⟩ h,λ_=>rfl⟩
end Go.Proofs.YtpgjploaliefdaaGreat.rh
namespace Go.Proofs.YtpgjploaliefdaaGreat.rh
open Go hp ob hd cp
set_option linter.unusedVariables false
set_option linter.unusedSimpArgs false
theorem ZH(x:Rh)(c:Bool)(i:Nat):Jg x c i<=2/\(c=false->Jg x c i<=1):=by
 have:=dw (Xm x i) (n:=3) (by decide)
 unfold Jg
 split
 ·exact⟨by omega,λ_=>by omega⟩
 ·rename_i h
  refine⟨by omega,λe=> ?_⟩
  have:¬(aC (Xm x i) 3).toNat=2:=λh2=>h ⟨h2,e⟩
  omega
theorem jJ(x:Rh)(c:Bool)(i:Nat):(Jg x c i=0/\hpt x c i=2/\opt x c i=0)\/(Jg x c i=1/\c=false/\hpt x c i=1/\opt x c i=0)\/(Jg x c i=1/\c=true/\hpt x c i=1/\(opt x c i=3\/opt x c i=4))\/(Jg x c i=2/\c=true/\hpt x c i=0/\(opt x c i=3\/opt x c i=4)):=by
 have h:=ZH x c i
 unfold hpt opt
 generalize Jg x c i=k at*
 cases c
 ·have h2:=h.2 rfl
  rcases(show k=0\/k=1 by omega)with rfl|rfl
  ·exact .inl ⟨rfl,rfl,rfl⟩
  ·exact .inr (.inl ⟨rfl,rfl,rfl,rfl⟩)
 ·rcases(show k=0\/k=1\/k=2 by omega)with rfl|rfl|rfl
  ·exact .inl ⟨rfl,rfl,rfl⟩
  ·exact .inr (.inr (.inl ⟨rfl,rfl,rfl,by simp only[and_self,if_true,Nat.lt_irrefl,Nat.zero_lt_one];split<;>simp⟩))
  ·exact .inr (.inr (.inr ⟨rfl,rfl,rfl,by simp only[and_self,if_true,show 0<2 from by decide];split<;>simp⟩))
theorem um(x:Rh)(c:Bool)(i:Nat):hpt x c i<=2:=by rcases jJ x c i with h|h|h|h<;>omega
theorem mY(x:Rh)(c:Bool)(i:Nat):opt x c i=0\/opt x c i=3\/opt x c i=4:=by rcases jJ x c i with h|h|h|h<;>omega
def LQ(x:Rh)(c:Bool)(p j:Nat):Prop:=(1<=p/\p<=2/\hpt x c j=p)\/(3<=p/\p<=4/\opt x c j=p)
def vP(x:Rh)(c:Bool)(p j:Nat):Nat:=if p<=2 then hof x c p j else aY x c p j
def Xn(x:Rh)(c:Bool)(p:Nat):Nat:=vP x c p (nN x)
theorem LU(x:Rh)(c:Bool){p:Nat}(hp:1<=p/\p<=4):jG (dW x c) p=Xn x c p:=by
 unfold jG dW Xn vP
 rcases(show p=1\/p=2\/p=3\/p=4 by omega)with rfl|rfl|rfl|rfl<;>simp
theorem Um{x:Rh}{c:Bool}{p j:Nat}(h:LQ x c p j):1<=p/\p<=4:=by
 rcases h with h|h<;>omega
theorem Ho{x:Rh}{c:Bool}{p j:Nat}(h:LQ x c p j)(hj:j<nN x):vP x c p j+1+iF x j<=Xn x c p:=by
 unfold Xn vP
 rcases h with⟨h1,h2,h3⟩|⟨h1,h2,h3⟩
 ·rw[if_pos h2,if_pos h2]
  exact oW hj h3
 ·rw[if_neg (by omega),if_neg (by omega)]
  exact oW hj h3
def vS(x:Rh)(c:Bool)(lo hi:Nat)(v:Int):Prop:=v=0\/∃p j,lo<=p/\p<=hi/\LQ x c p j/\j<nN x/\v=2*(aA (dW x c) p+vP x c p j)+1
theorem vS.wide{x:Rh}{c:Bool}{lo hi lo' hi':Nat}{v:Int}(h:vS x c lo hi v)(h1:lo'<=lo)(h2:hi<=hi'):vS x c lo' hi' v:=by
 rcases h with h|⟨p,j,a,b,d⟩
 ·exact .inl h
 ·exact .inr ⟨p,j,by omega,by omega,d⟩
theorem Hq{x:Rh}(hx:0<=x.base){c:Bool}{p j:Nat}(h:LQ x c p j)(hj:j<nN x):1<=aA (dW x c) p+vP x c p j/\aA (dW x c) p+vP x c p j<9223372036854775808:=by
 have h1:=Um h
 have h2:=Ho h hj
 exact qO (pK hx c) (p:=(p:Int)) (by omega) (by rw[LU x c h1];omega)
theorem vS.ptr{x:Rh}(hx:0<=x.base){c:Bool}{lo hi:Nat}{v:Int}(h:vS x c lo hi v):oO v=true/\0<=v/\v<18446744073709551616:=by
 rcases h with rfl|⟨p,j,_,_,h3,h4,rfl⟩
 ·exact⟨rfl,by decide,by decide⟩
 ·have:=Hq hx h3 h4
  refine⟨?_,by omega,by omega⟩
  unfold oO
  simp only[decide_eq_true_eq]
  omega
theorem LW(x:Rh)(c:Bool){j:Nat}(hj:j<nN x):vS x c 1 2 (hrf x c j):=by
 have h2:=um x c j
 unfold hrf AA
 by_cases h:hpt x c j=0
 ·rw[if_pos h];exact .inl rfl
 ·rw[if_neg h]
  exact .inr ⟨hpt x c j,j,by omega,h2,.inl ⟨by omega,h2,rfl⟩,hj,by unfold vP;rw[if_pos h2]⟩
theorem ZI(x:Rh)(c:Bool){j:Nat}(hj:j<nN x):vS x c 3 4 (Uk x c j):=by
 have h2:=mY x c j
 unfold Uk AA
 by_cases h:opt x c j=0
 ·rw[if_pos h];exact .inl rfl
 ·rw[if_neg h]
  exact .inr ⟨opt x c j,j,by omega,by omega,.inr ⟨by omega,by omega,rfl⟩,hj,by unfold vP;rw[if_neg (by omega)]⟩
theorem qV(x:Rh)(c:Bool){p at_:Nat}{tg tw:Int}(ht:tg<nN x):vS x c 1 4 (jl x c p at_ tg tw)/\(2<p->vS x c 3 4 (jl x c p at_ tg tw))/\(p<=2->(p=1->at_<iU x c)->vS x c 1 2 (jl x c p at_ tg tw)):=by
 unfold jl
 split
 ·exact⟨.inl rfl,λ_=>.inl rfl,λ_ _=>.inl rfl⟩
 ·rename_i h0
  have hj:tg.toNat<nN x:=by omega
  have h1:=LW x c hj
  have h2:=ZI x c hj
  split
  ·exact⟨h2.wide (by omega) (by omega),λ_=>h2,λh _=>by omega⟩
  ·rename_i hp
   split
   ·rename_i h3
    exact⟨h2.wide (by omega) (by omega),λh=>absurd h hp,λ_ h=>by have:=h h3.1.1;omega⟩
   ·exact⟨h1.wide (by omega) (by omega),λh=>absurd h hp,λ_ _=>h1⟩
theorem zI(x:Rh)(i:Nat):∀t∈bf x i,-1<=t/\t<nN x:=by
 intro t ht
 unfold bf at ht
 obtain⟨c,_,rfl⟩:=List.mem_map.1 ht
 have:=dw c (n:=(nN x:Int)+1) (by omega)
 omega
theorem AO(x:Rh):∀t∈bI x,-1<=t/\t<nN x:=by
 intro t ht
 unfold bI at ht
 split at ht
 ·simp at ht;omega
 ·obtain⟨c,_,rfl⟩:=List.mem_map.1 ht
  have:=dw c (n:=(nN x:Int)+1) (by omega)
  omega
theorem Un{x:Rh}(ok:jT x)(i:Nat):∀d∈dI x i,Og d:=by
 intro d hd
 unfold dI at hd
 have h1:=List.mem_of_mem_take hd
 by_cases hi:i<x.nodes.length
 ·rw[List.getD_eq_getElem?_getD,List.getElem?_eq_getElem hi]at h1
  exact ok.data _ (List.getElem_mem hi) d h1
 ·rw[List.getD_eq_getElem?_getD,List.getElem?_eq_none (by omega)]at h1
  simp at h1
theorem yE(x:Rh)(c:Bool)(p a:Nat)(tw:Int):∀(l:List Int)(k m:Nat),m<l.length->(bZ x c p a tw k l).getD m 0=jl x c p (a+1+(k+m)) (l.getD m 0) (wr (tw+((k+m:Nat):Int)))
 |[],k,m,h=>by simp at h
 |t::l,k,0,h=>rfl
 |t::l,k,m+1,h=>by
  have:=yE x c p a tw l (k+1) m (by simpa using h)
  simp only[bZ,List.getD_cons_succ]
  rw[this,show k+1+m=k+(m+1)from by omega]
theorem BQ{x:Rh}(ok:jT x)(c:Bool)(p a:Nat)(tw:Int)(i:Nat):Small (bZ x c p a tw 0 (bf x i)++dI x i):=by
 intro k
 have hl:=jf x c p a tw (bf x i) 0
 by_cases h1:k<(bf x i).length
 ·have e:(bZ x c p a tw 0 (bf x i)++dI x i).getD k 0=(bZ x c p a tw 0 (bf x i)).getD k 0:=by
   simp only[List.getD]
   rw[List.getElem?_append_left (by omega)]
  rw[e,yE _ _ _ _ _ _ _ _ h1]
  exact((qV x c (zI x i _ (by rw[List.getD_eq_getElem?_getD,List.getElem?_eq_getElem h1];exact List.getElem_mem h1)).2).1.ptr ok.base.1).2
 ·have e:(bZ x c p a tw 0 (bf x i)++dI x i).getD k 0=(dI x i).getD (k-(bf x i).length) 0:=by
   simp only[List.getD]
   rw[List.getElem?_append_right (by omega),hl]
  rw[e]
  by_cases h2:k-(bf x i).length<(dI x i).length
  ·rw[List.getD_eq_getElem?_getD,List.getElem?_eq_getElem h2]
   exact Un ok i _ (List.getElem_mem h2)
  ·rw[List.getD_eq_getElem?_getD,List.getElem?_eq_none (by omega)]
   exact⟨by decide,by decide⟩
theorem xE{x:Rh}(ok:jT x)(c:Bool)(p a:Nat)(tw:Int)(i k:Nat)(hk:k<(bf x i).length):
  ∃t Xo,t<(nN x:Int)/\(bZ x c p a tw 0 (bf x i)++dI x i).getD k 0=jl x c p (a+1+k) t Xo:=by
 have hl:=jf x c p a tw (bf x i) 0
 have e:(bZ x c p a tw 0 (bf x i)++dI x i).getD k 0=(bZ x c p a tw 0 (bf x i)).getD k 0:=by
  simp only[List.getD]
  rw[List.getElem?_append_left (by omega)]
 refine⟨_,_,?_,by rw[e,yE _ _ _ _ _ _ _ _ hk,Nat.zero_add]⟩
 exact(zI x i _ (by rw[List.getD_eq_getElem?_getD,List.getElem?_eq_getElem hk];exact List.getElem_mem hk)).2
theorem Jh{x:Rh}(ok:jT x)(c:Bool)(i:Nat):oD (La x c i):=by
 refine⟨(DL x c i).2.trans (DL x c i).1.symm,by rw[(DL x c i).1];have:=uj x i;omega,?_,BQ ok _ _ _ _ _,λ_=>⟨rfl,λk hk=> ?_⟩,λh=>(by cases h)⟩
 ·show(bf x i).length<=iF x i
  unfold iF;omega
 ·obtain⟨t,Xo,h1,h2⟩:=xE ok c (hpt x c i) (hof x c (hpt x c i) i) (wr (x.dR+i)) i k hk
  show oO ((bZ x c (hpt x c i) (hof x c (hpt x c i) i) (wr (x.dR+i)) 0 (bf x i)++dI x i).getD k 0)=true
  rw[h2]
  exact((qV x c h1).1.ptr ok.base.1).1
theorem DT{x:Rh}(ok:jT x)(c:Bool){i:Nat}(hi:i<nN x):oD (vk x c i):=by
 have hs:=uj x i
 have hp:(bf x i).length<=iF x i:=by unfold iF;omega
 have hpl:=um x c i
 unfold vk
 split
 ·rename_i h0
  refine⟨by simp,by show iF x i<=255;omega,hp,?_,λh=>(by cases h),λ_=> ?_⟩
  ·intro k
   simp only[List.getD,List.getElem?_replicate]
   split<;>simp
  ·have hat:LQ x c (hpt x c i) i:=.inl ⟨by omega,hpl,rfl⟩
   have:=Hq ok.base.1 hat hi
   refine⟨aA (dW x c) (hpt x c i)+vP x c (hpt x c i) i,this.1,this.2,?_,rfl⟩
   show hrf x c i=_
   unfold hrf AA vP
   rw[if_neg (by omega),if_pos hpl]
 ·refine⟨?_,by show iF x i<=255;omega,hp,BQ ok _ _ _ _ _,λ_=>⟨rfl,λk hk=> ?_⟩,λh=>(by cases h)⟩
  ·show(bZ _ _ _ _ _ _ _++dI x i).length=iF x i
   rw[List.length_append,jf]
   rfl
  ·obtain⟨t,Xo,h1,h2⟩:=xE ok c (opt x c i) (aY x c (opt x c i) i) 0 i k hk
   show oO ((bZ x c (opt x c i) (aY x c (opt x c i) i) 0 0 (bf x i)++dI x i).getD k 0)=true
   rw[h2]
   exact((qV x c h1).1.ptr ok.base.1).1
theorem uo{q:Nat->Nat}{P:Nat->Pc}{p n:Nat}{d:Pc}:d∈pieces q P p n↔∃i,i<n/\q i=p/\d=P i:=by
 unfold pieces
 rw[List.mem_flatMap]
 constructor
 ·rintro⟨i,hi,h⟩
  split at h
  ·rename_i hq
   exact⟨i,List.mem_range.1 hi,hq,List.mem_singleton.1 h⟩
  ·cases h
 ·rintro⟨i,hi,hq,rfl⟩
  exact⟨i,List.mem_range.2 hi,by rw[if_pos hq];exact List.mem_singleton.2 rfl⟩
theorem vT{q:Nat->Nat}{P:Nat->Pc}{n:Nat}(h:∀i,i<n->oD (P i))(p:Nat):ob.Good (pieces q P p n):=λd hd=>by
 obtain⟨i,hi,_,rfl⟩:=uo.1 hd
 exact h i hi
theorem AP{x:Rh}(ok:jT x)(c:Bool)(p:Nat):ob.Good (je x c p (nN x)):=vT (λi _=>Jh ok c i) p
theorem xG{x:Rh}(ok:jT x)(c:Bool)(p:Nat):ob.Good (fE x c p (nN x)):=vT (λi hi=>DT ok c hi) p
theorem DU{z q:Nat->Nat}{P:Nat->Pc}{n:Nat}(hz:∀i,(P i).s=z i/\(P i).ys.length=z i)(hg:∀i,i<n+1->oD (P i))(p:Nat):
  bY 0 (pieces q P p (n+1))=bY 0 (pieces q P p n)++if q n=p then [iY (qp z q p n) (P n)]else []:=by
 rw[pieces_succ,P5 _ _ (vT (λi hi=>hg i (by omega)) p),lU hz p n]
 congr 1
 split
 ·simp[bY]
 ·rfl
theorem Hr{z q:Nat->Nat}{P:Nat->Pc}(hz:∀i,(P i).s=z i/\(P i).ys.length=z i)(p:Nat):∀{n:Nat},(∀i,i<n->oD (P i))->∀o:Ob,(o∈bY 0 (pieces q P p n)↔∃i,i<n/\q i=p/\o=iY (qp z q p i) (P i))
 |0,_,o=>by
  constructor
  ·intro h;cases h
  ·rintro⟨i,hi,_⟩;omega
 |n+1,hg,o=>by
  rw[DU hz hg p,List.mem_append,Hr hz p (λi hi=>hg i (by omega)) o]
  constructor
  ·rintro(⟨i,hi,h⟩|h)
   ·exact⟨i,by omega,h⟩
   ·split at h
    ·rename_i hq
     exact⟨n,by omega,hq,List.mem_singleton.1 h⟩
    ·cases h
  ·rintro⟨i,hi,hq,rfl⟩
   rcases Nat.lt_or_ge i n with h|h
   ·exact .inl ⟨i,h,hq,rfl⟩
   ·obtain rfl:i=n:=by omega
    exact .inr (by rw[if_pos hq];exact List.mem_singleton.2 rfl)
theorem DV{z q:Nat->Nat}{P:Nat->Pc}(hz:∀i,(P i).s=z i/\(P i).ys.length=z i){p:Nat}:∀{n i:Nat},i<n->q i=p->∃C,wordsOf (pieces q P p n)=wordsOf (pieces q P p i)++wordsOf [P i]++C
 |0,i,h,_=>by omega
 |n+1,i,h,hq=>by
  rw[pieces_succ,nX]
  rcases Nat.lt_or_ge i n with h1|h1
  ·obtain⟨C,e⟩:=DV hz (P:=P) h1 hq
   exact⟨C++wordsOf (if q n=p then [P n]else []),by rw[e,List.append_assoc]⟩
  ·obtain rfl:i=n:=by omega
   exact⟨[],by rw[if_pos hq,List.append_nil]⟩
theorem OB{z q:Nat->Nat}{P:Nat->Pc}(hz:∀i,(P i).s=z i/\(P i).ys.length=z i){p n i k:Nat}(hi:i<n)(hq:q i=p)(hk:k<z i):(wordsOf (pieces q P p n)).getD (qp z q p i+1+k) 0=(P i).ys.getD k 0:=by
 obtain⟨C,e⟩:=DV hz hi hq
 rw[e,<-lU hz p i]
 exact FH (TU _ _ _) (by rw[(hz i).2];exact hk)
end Go.Proofs.YtpgjploaliefdaaGreat.rh
namespace Go.Proofs.YtpgjploaliefdaaGreat.rh
open Go hp ob hd cp
set_option linter.unusedVariables false
set_option linter.unusedSimpArgs false
theorem Qh{lf:Int->Option (Int×Int)}{l:List Pc}:∀{zs:List Int}{f pos:Nat}{acc:List (Int×Int)},ob.Good l->(∀d∈l,d.g=true->lf (gB d.h)=some ((d.s:Int),(d.p:Int)))->rH zs pos (wordsOf l)->pos+(wordsOf l).length<=zs.length->
  dD lf zs (f+l.length) pos acc=dD lf zs f (pos+(wordsOf l).length) (acc++aJ l):=by
 induction l with
 |nil=>intro zs f pos acc _ _ _ _;simp[wordsOf,aJ]
 |cons c l ih=>
  intro zs f pos acc hg hs hz hl
  have hc:=hg c List.mem_cons_self
  have hw:(wordsOf (c::l)).length=1+c.s+(wordsOf l).length:=by rw[eG];simp[hc.len];omega
  have hd:=FD hz
  have ih1:=λa=>ih (zs:=zs) (f:=f) (pos:=pos+1+c.s) (acc:=a) (λd hd=>hg d (List.mem_cons_of_mem _ hd)) (λd hd=>hs d (List.mem_cons_of_mem _ hd)) (xA hc.len hz) (by omega)
  have ep:pos+(wordsOf (c::l)).length=pos+1+c.s+(wordsOf l).length:=by omega
  rw[show f+(c::l).length=(f+l.length)+1 from by simp;omega,ep]
  show(if pos<zs.length then _ else _)=_
  rw[if_pos (by omega),hd]
  cases hcg:c.g with
  |false=>
   have hsh:aJ (c::l)=aJ l:=by simp[aJ,hcg]
   have hh:=(hc.new hcg).1
   obtain⟨u1,u2,u3⟩:=G8 (s:=c.s) (p:=c.p) (by have:=hc.s6;omega) hc.ps
   have he:c.h%2=0:=by rw[hh];exact FI (by have:=hc.s6;omega) hc.ps
   rw[if_neg (TV he),hsh,hh,if_pos (by unfold rE;rw[if_pos u1]),u2]
   rw[show((c.s:Int)).toNat=c.s from by simp]
   exact ih1 acc
  |true=>
   have hsh:aJ (c::l)=((c.s:Int),(c.p:Int))::aJ l:=by simp[aJ,hcg]
   obtain⟨t,t1,t2,t3,t4⟩:=hc.gone hcg
   have h1:mD c.h=0:=by rw[t3];exact(zA t1).1
   rw[if_pos h1,hs c List.mem_cons_self hcg,hsh]
   dsimp only
   rw[show((c.s:Int)).toNat=c.s from by simp,ih1]
   simp
theorem LX{lf:Int->Option (Int×Int)}{l:List Pc}(hg:ob.Good l)(hs:∀d∈l,d.g=true->lf (gB d.h)=some ((d.s:Int),(d.p:Int))):dM lf (wordsOf l)=aJ l:=by
 unfold dM
 have hl:=Au (l:=l)
 rw[show(wordsOf l).length+1=((wordsOf l).length+1-l.length)+l.length from by omega]
 rw[Qh hg hs (λj hj=>by simp) (by omega)]
 rw[show(wordsOf l).length+1-l.length=((wordsOf l).length-l.length)+1 from by omega]
 show(if _ then _ else _)=_
 rw[if_neg (by omega)]
 rfl
def Ji(x:Rh)(c:Bool):dS:=
 ⟨bY 0 (je x c 1 (nN x)),bY 0 (je x c 2 (nN x)),bY 0 (fE x c 3 (nN x)),bY 0 (fE x c 4 (nN x)),
  eX (dW x c) 4 (bY 0 (fE x c 4 (nN x))) (eX (dW x c) 3 (bY 0 (fE x c 3 (nN x))) (eX (dW x c) 2 (bY 0 (je x c 2 (nN x))) (eX (dW x c) 1 (bY 0 (je x c 1 (nN x))) λ_=>none))),
  gY (dW x c) (bY 0 (je x c 1 (nN x))) λ_=>none⟩
variable {x : Rh} (c : Bool)
theorem Uo{x:Rh}(ok:jT x)(c:Bool)(p:Nat)(o:Ob):o∈bY 0 (je x c p (nN x))↔∃i,i<nN x/\hpt x c i=p/\o=iY (hof x c p i) (La x c i):=Hr (DL x c) p (λi _=>Jh ok c i) o
theorem Ur{x:Rh}(ok:jT x)(c:Bool)(p:Nat)(o:Ob):o∈bY 0 (fE x c p (nN x))↔∃i,i<nN x/\opt x c i=p/\o=iY (aY x c p i) (vk x c i):=Hr (BP x c) p (λi hi=>DT ok c hi) o
theorem hnew{x:Rh}(ok:jT x)(c:Bool)(p:Nat):newF (wordsOf (je x c p (nN x)))=.ok (bY 0 (je x c p (nN x))) 0:=Xh (AP ok c p) λd hd=>by
 obtain⟨i,_,_,rfl⟩:=uo.1 hd
 rfl
theorem acv{x:Rh}(ok:jT x)(c:Bool){i:Nat}(hi:i<nN x)(hq:hpt x c i=1):(Ji x c).lf (aA (dW x c) 1+hof x c 1 i)=some ((iF x i:Int),((bf x i).length:Int)):=by
 have hc:iD (wordsOf (je x c 1 (nN x))).length 0 (bY 0 (je x c 1 (nN x))):=qh (hnew ok c 1)
 have hin:∀o∈bY 0 (je x c 1 (nN x)),0<=o.pos/\o.pos<jG (dW x c) 1:=λo ho=>by
  obtain⟨a,b,d,e,g,h⟩:=(hc.from o ho).2
  rw[hlen]at h
  have:jG (dW x c) 1=hof x c 1 (nN x):=rfl
  omega
 have h0:∀o∈bY 0 (je x c 1 (nN x)),qI (dW x c) 1 o.pos=aA (dW x c) 1+o.pos:=λo ho=>DC (hin o ho)
 have h1:∀a∈bY 0 (je x c 1 (nN x)),∀b∈bY 0 (je x c 1 (nN x)),qI (dW x c) 1 a.pos=qI (dW x c) 1 b.pos->a=b:=λa ha b hb e=>by
  rw[h0 a ha,h0 b hb]at e
  exact hc.apart a ha b hb (by omega)
 have h2:(bY 0 (je x c 1 (nN x))).Nodup:=hc.nodup.imp λh e=>by subst e;omega
 have hm:=(Uo ok c 1 _).2 ⟨i,hi,hq,rfl⟩
 have:=vM (L:=dW x c) (f:=λ_=>none) h1 h2 hm
 rw[h0 _ hm]at this
 exact this
theorem Jj(i:Nat):(vk x c i).g=decide (0<hpt x c i):=by
 unfold vk
 split
 ·rename_i h;exact(decide_eq_true h).symm
 ·rename_i h;exact(decide_eq_false h).symm
theorem Jk{i p:Nat}(hp:3<=p)(hq:opt x c i=p)(hg:0<hpt x c i):hpt x c i=1:=by
 rcases jJ x c i with h|h|h|h<;>omega
theorem Jl{x:Rh}(ok:jT x)(c:Bool){i:Nat}(hi:i<nN x)(h1:hpt x c i=1):(vk x c i).h=hrf x c i/\gB (hrf x c i)=aA (dW x c) 1+hof x c 1 i/\(vk x c i).p=(bf x i).length:=by
 have hat:LQ x c 1 i:=.inl ⟨by omega,by omega,h1⟩
 have:=Hq ok.base.1 hat hi
 have e:hrf x c i=2*(aA (dW x c) 1+hof x c 1 i)+1:=by
  unfold hrf AA
  rw[h1,if_neg (by decide)]
  rfl
 have e2:vP x c 1 i=hof x c 1 i:=rfl
 rw[e2]at this
 refine⟨?_,?_,?_⟩
 ·unfold vk;rw[if_pos (by omega)]
 ·rw[e];exact(zA this.1).2
 ·unfold vk;split<;>rfl
theorem Xp{x:Rh}(ok:jT x)(c:Bool){p:Nat}(hp:3<=p):dM (Ji x c).lf (wordsOf (fE x c p (nN x)))=aJ (fE x c p (nN x)):=LX (xG ok c p) λd hd hg=>by
 obtain⟨i,hi,hq,rfl⟩:=uo.1 hd
 rw[Jj]at hg
 have h1:=Jk c hp hq (of_decide_eq_true hg)
 obtain⟨e1,e2,e3⟩:=Jl ok c hi h1
 rw[e1,e2,e3,(BP x c i).1]
 exact acv ok c hi h1
theorem ZJ{x:Rh}(ok:jT x)(c:Bool){p:Nat}(hp:3<=p):iq (wordsOf (fE x c p (nN x))) (dM (Ji x c).lf (wordsOf (fE x c p (nN x))))=.ok (bY 0 (fE x c p (nN x))) (aJ (fE x c p (nN x))).length:=by
 rw[Xp ok c hp]
 have:=Xi (xG ok c p) []
 rw[List.append_nil,if_pos rfl]at this
 exact this
theorem Jm{x:Rh}(ok:jT x)(c:Bool):cp.Found (bF x c) (Ji x c):=by
 refine⟨⟨_,hnew ok c 1⟩,⟨_,hnew ok c 2⟩,⟨_,ZJ ok c (by omega)⟩,⟨_,ZJ ok c (by omega)⟩,?_,?_⟩
 ·rw[sK];rfl
 ·rw[sK];rfl
theorem YL{x:Rh}(ok:jT x)(c:Bool){p j:Nat}(h:LQ x c p j)(hj:j<nN x):(Ji x c).pf (aA (dW x c) p+vP x c p j)=some (p:Int):=by
 have hf:=Jm ok c
 have hp:=Um h
 rw[hf.He (by rw[sK];exact pK ok.base.1 c)]
 refine⟨p,rfl,hp,?_⟩
 rw[sK]
 rcases h with⟨h1,h2,h3⟩|⟨h1,h2,h3⟩
 ·refine⟨iY (hof x c p j) (La x c j),?_,?_⟩
  ·have:=(Uo ok c p _).2 ⟨j,hj,h3,rfl⟩
   unfold dS.obs
   rcases(show p=1\/p=2 by omega)with rfl|rfl
   ·exact this
   ·exact this
  ·unfold vP;rw[if_pos h2];rfl
 ·refine⟨iY (aY x c p j) (vk x c j),?_,?_⟩
  ·have:=(Ur ok c p _).2 ⟨j,hj,h3,rfl⟩
   unfold dS.obs
   rcases(show p=3\/p=4 by omega)with rfl|rfl
   ·exact this
   ·exact this
  ·unfold vP;rw[if_neg (by omega)];rfl
theorem pR{x:Rh}(ok:jT x)(c:Bool){lo hi:Nat}{v:Int}(h:vS x c lo hi v):aP (Ji x c).pf v lo hi=true:=by
 unfold aP
 rcases h with rfl|⟨p,j,h1,h2,h3,h4,rfl⟩
 ·rfl
 ·have h5:=Hq ok.base.1 h3 h4
  rw[(zA h5.1).1,(zA h5.1).2,YL ok c h3 h4]
  simp
  omega
theorem LY{x:Rh}(ok:jT x)(c:Bool){P:Int->Int->Bool}{p:Nat}(h:∀(a:Nat)(t tw:Int),t<(nN x:Int)->P a (jl x c p a t tw)=true):aB P (wordsOf (je x c p (nN x))) (bY 0 (je x c p (nN x)))=true:=by
 unfold aB
 rw[List.all_eq_true]
 intro o ho
 obtain⟨i,hi,hq,rfl⟩:=(Uo ok c p o).1 ho
 show(false||qg P _ _ _)=true
 rw[Bool.false_or]
 unfold qg
 rw[List.all_eq_true]
 intro k hk
 have hk:k<(bf x i).length:=by simpa [iY,La]using List.mem_range.1 hk
 have hks:k<iF x i:=by unfold iF;omega
 have e:=OB (DL x c) (P:=La x c) hi hq hks
 obtain⟨t,Xo,h1,h2⟩:=xE ok c (hpt x c i) (hof x c (hpt x c i) i) (wr (x.dR+i)) i k hk
 have e2:(La x c i).ys.getD k 0=jl x c (hpt x c i) (hof x c (hpt x c i) i+1+k) t Xo:=h2
 have e3:(iY (hof x c p i) (La x c i)).pos.toNat+1+k=qp (iF x) (hpt x c) p i+1+k:=by simp[iY,hof]
 rw[e3]
 show P _ ((wordsOf (pieces (hpt x c) (La x c) p (nN x))).getD _ 0)=true
 rw[e,e2,hq]
 have:=h (hof x c p i+1+k) t Xo h1
 have e4:(iY (hof x c p i) (La x c i)).pos+1+(k:Int)=((hof x c p i+1+k:Nat):Int):=by simp[iY]
 rw[e4]
 exact this
theorem Us{x:Rh}(ok:jT x)(c:Bool){P:Int->Int->Bool}{p:Nat}(h:∀(a:Nat)(t tw:Int),t<(nN x:Int)->P a (jl x c p a t tw)=true):aB P (wordsOf (fE x c p (nN x))) (bY 0 (fE x c p (nN x)))=true:=by
 unfold aB
 rw[List.all_eq_true]
 intro o ho
 obtain⟨i,hi,hq,rfl⟩:=(Ur ok c p o).1 ho
 show((vk x c i).g||qg P _ _ _)=true
 rw[Jj]
 by_cases h0:0<hpt x c i
 ·rw[decide_eq_true h0];rfl
 rw[decide_eq_false h0,Bool.false_or]
 unfold qg
 rw[List.all_eq_true]
 intro k hk
 have ey:vk x c i=⟨bV (iF x i) (bf x i).length,iF x i,(bf x i).length,false,bZ x c (opt x c i) (aY x c (opt x c i) i) 0 0 (bf x i)++dI x i⟩:=if_neg h0
 have hk:k<(bf x i).length:=by rw[ey]at hk;simpa [iY]using List.mem_range.1 hk
 have hks:k<iF x i:=by unfold iF;omega
 have e:=OB (BP x c) (P:=vk x c) hi hq hks
 obtain⟨t,Xo,h1,h2⟩:=xE ok c (opt x c i) (aY x c (opt x c i) i) 0 i k hk
 have e2:(vk x c i).ys.getD k 0=jl x c (opt x c i) (aY x c (opt x c i) i+1+k) t Xo:=by rw[ey];exact h2
 have e3:(iY (aY x c p i) (vk x c i)).pos.toNat+1+k=qp (iF x) (opt x c) p i+1+k:=by simp[iY,aY]
 rw[e3]
 show P _ ((wordsOf (pieces (opt x c) (vk x c) p (nN x))).getD _ 0)=true
 rw[e,e2,hq]
 have:=h (aY x c p i+1+k) t Xo h1
 have e4:(iY (aY x c p i) (vk x c i)).pos+1+(k:Int)=((aY x c p i+1+k:Nat):Int):=by simp[iY]
 rw[e4]
 exact this
theorem DW{pf:Int->Option Int}:∀{l:List Ob}{t:Int->Bool}{n:Nat},(∀o∈l,o.g=true->pf o.t=some 1/\t o.t=false)->l.Pairwise (λa b=>a.g=true->b.g=true->a.t≠b.t)->iL pf l t n=some (n+(l.filter (·.g)).length)
 |[],t,n,h,hp=>rfl
 |o::l,t,n,h,hp=>by
  have hp2:=List.pairwise_cons.1 hp
  show(if o.g then _ else _)=_
  cases hg:o.g with
  |true=>
   obtain⟨h1,h2⟩:=h o List.mem_cons_self hg
   rw[if_pos rfl,if_pos ⟨by rw[h1];rfl,h2⟩]
   rw[DW (λo' ho' hg'=>⟨(h o' (List.mem_cons_of_mem _ ho') hg').1,by
    rw[(h o' (List.mem_cons_of_mem _ ho') hg').2,Bool.or_false]
    exact decide_eq_false λe=>hp2.1 o' ho' hg hg' e.symm⟩) hp2.2]
   rw[List.filter_cons_of_pos hg,List.length_cons]
   exact congrArg some (Nat.add_right_comm n 1 _)
  |false=>
   rw[if_neg (by decide),DW (λo' ho'=>h o' (List.mem_cons_of_mem _ ho')) hp2.2]
   rw[List.filter_cons_of_neg (by rw[hg];decide)]
theorem AQ{x:Rh}(ok:jT x)(c:Bool){p:Nat}(hp:3<=p){o:Ob}(ho:o∈bY 0 (fE x c p (nN x)))(hg:o.g=true):∃i,i<nN x/\opt x c i=p/\hpt x c i=1/\o=iY (aY x c p i) (vk x c i)/\o.t=aA (dW x c) 1+hof x c 1 i:=by
 obtain⟨i,hi,hq,rfl⟩:=(Ur ok c p o).1 ho
 have h00:(vk x c i).g=true:=hg
 have h0:=h00
 rw[Jj]at h0
 have h1:=Jk c hp hq (of_decide_eq_true h0)
 obtain⟨e1,e2,e3⟩:=Jl ok c hi h1
 refine⟨i,hi,hq,h1,rfl,?_⟩
 show(if(vk x c i).g=true then gB (vk x c i).h else 0)=_
 rw[if_pos h00,e1,e2]
theorem Ut{i j:Nat}(hi:hpt x c i=1)(hj:hpt x c j=1)(h:i≠j):hof x c 1 i≠hof x c 1 j:=by
 unfold hof
 rcases Nat.lt_or_gt_of_ne h with h1|h1
 ·have:=oW (z:=iF x) (q:=hpt x c) h1 hi;omega
 ·have:=oW (z:=iF x) (q:=hpt x c) h1 hj;omega
theorem acw{x:Rh}(ok:jT x)(c:Bool){p:Nat}(hp:3<=p):(bY 0 (fE x c p (nN x))).Pairwise (λa b=>a.g=true->b.g=true->a.t≠b.t):=by
 have hc:iD (wordsOf (fE x c p (nN x))).length 0 (bY 0 (fE x c p (nN x))):=tZ (ZJ ok c hp)
 refine List.Pairwise.imp_of_mem (R:=λa b:Ob=>a.pos<b.pos) (λ{a b}ha hb hlt hga hgb e=> ?_) hc.nodup
 obtain⟨i,i1,i2,i3,i4,i5⟩:=AQ ok c hp ha hga
 obtain⟨j,j1,j2,j3,j4,j5⟩:=AQ ok c hp hb hgb
 have hij:i≠j:=λh=>by
  subst h
  rw[i4,j4]at hlt
  exact absurd hlt (by simp)
 have:=Ut c i3 j3 hij
 omega
theorem DX{l:List Pc}:∀pos,((bY pos l).filter (·.g)).length=(l.filter (·.g)).length:=by
 induction l with
 |nil=>intro pos;rfl
 |cons a l ih=>
  intro pos
  show((iY pos a::bY (pos+1+a.s) l).filter (·.g)).length=_
  have e:(iY pos a).g=a.g:=rfl
  cases h:a.g with
  |true=>rw[List.filter_cons_of_pos (by rw[e,h]),List.filter_cons_of_pos h,List.length_cons,List.length_cons,ih]
  |false=>rw[List.filter_cons_of_neg (by rw[e,h];decide),List.filter_cons_of_neg (by rw[h];decide),ih]
theorem DY:∀n,((fE x true 3 n).filter (·.g)).length+((fE x true 4 n).filter (·.g)).length=(je x true 1 n).length
 |0=>rfl
 |n+1=>by
  have ih:=DY n
  unfold fE je at*
  rw[pieces_succ,pieces_succ,pieces_succ,List.filter_append,List.filter_append,List.length_append,List.length_append,List.length_append]
  have hg:=Jj (x:=x) true n
  rcases jJ x true n with⟨_,h2,h3⟩|⟨_,h2,_⟩|⟨_,_,h2,h3⟩|⟨_,_,h2,h3⟩
  ·rw[h2,h3];simp;omega
  ·cases h2
  ·rw[h2]at hg
   have hg:(vk x true n).g=true:=hg
   rcases h3 with h3|h3<;>rw[h2,h3]<;>simp[hg]<;>omega
  ·rw[h2]at hg
   have hg:(vk x true n).g=false:=hg
   rcases h3 with h3|h3<;>rw[h2,h3]<;>simp[hg]<;>omega
theorem Qi{x:Rh}(ok:jT x)(c:Bool):iH (bF x c) (Ji x c)=true:=by
 unfold iH
 cases c with
 |false=>rfl
 |true=>
  show(false||_)=true
  rw[Bool.false_or,decide_eq_true_eq]
  have hm:∀o∈(Ji x true).o3++(Ji x true).o4,o.g=true->∃i,i<nN x/\hpt x true i=1/\o.t=aA (dW x true) 1+hof x true 1 i/\((opt x true i=3/\o∈(Ji x true).o3)\/(opt x true i=4/\o∈(Ji x true).o4)):=λo ho hg=>by
   rcases List.mem_append.1 ho with h|h
   ·obtain⟨i,i1,i2,i3,i4,i5⟩:=AQ ok true (p:=3) (by omega) h hg
    exact⟨i,i1,i3,i5,.inl ⟨i2,h⟩⟩
   ·obtain⟨i,i1,i2,i3,i4,i5⟩:=AQ ok true (p:=4) (by omega) h hg
    exact⟨i,i1,i3,i5,.inr ⟨i2,h⟩⟩
  have k1:∀o∈(Ji x true).o3++(Ji x true).o4,o.g=true->(Ji x true).pf o.t=some 1/\(λ_:Int=>false) o.t=false:=λo ho hg=>by
   obtain⟨i,i1,i2,i3,_⟩:=hm o ho hg
   rw[i3]
   exact⟨YL ok true (p:=1) (.inl ⟨by omega,by omega,i2⟩) i1,rfl⟩
  have k2:((Ji x true).o3++(Ji x true).o4).Pairwise (λa b=>a.g=true->b.g=true->a.t≠b.t):=by
   refine List.pairwise_append.2 ⟨acw ok true (p:=3) (by omega),acw ok true (p:=4) (by omega),λa ha b hb ga gb e=> ?_⟩
   obtain⟨i,i1,i2,i3,i4,i5⟩:=AQ ok true (p:=3) (by omega) ha ga
   obtain⟨j,j1,j2,j3,j4,j5⟩:=AQ ok true (p:=4) (by omega) hb gb
   have:=Ut true i3 j3 (λh=>by subst h;omega)
   omega
  rw[DW k1 k2]
  ·rw[Nat.zero_add,List.filter_append,List.length_append]
   show some (((bY 0 (fE x true 3 (nN x))).filter (·.g)).length+((bY 0 (fE x true 4 (nN x))).filter (·.g)).length)=some (bY 0 (je x true 1 (nN x))).length
   rw[DX,DX,P6,DY]
theorem DZ(l m:List Ob):bM (l++m)=bM l+bM m:=by
 have key:∀(l:List Ob)(n:Int),l.foldl (λn o=>if o.g then n else n+(1+o.s)) n=n+bM l:=by
  intro l
  unfold bM
  induction l with
  |nil=>intro n;simp
  |cons o l ih=>
   intro n
   simp only[List.foldl_cons]
   cases hg:o.g with
   |true=>rw[if_pos rfl,if_pos rfl];exact ih n
   |false=>rw[if_neg (by decide),if_neg (by decide),ih (n+(1+o.s)),ih (0+(1+o.s))];omega
 have:=key m (bM l)
 rw[<-this]
 unfold bM
 rw[List.foldl_append]
theorem LZ{n:Nat}:(∀i,i<n->oD (vk x c i))->bM (bY 0 (fE x c 3 n))+bM (bY 0 (fE x c 4 n))=hof x c 0 n:=by
 induction n with
 |zero=>intro _;rfl
 |succ n ih=>
  intro hg
  have ih:=ih λi hi=>hg i (by omega)
  unfold fE at*
  rw[DU (BP x c) hg,DU (BP x c) hg,DZ,DZ]
  have e:hof x c 0 (n+1)=hof x c 0 n+if hpt x c n=0 then 1+iF x n else 0:=rfl
  rw[e]
  have hgn:=Jj (x:=x) c n
  have hs:=(BP x c n).1
  rcases jJ x c n with⟨_,h2,h3⟩|⟨_,_,h2,h3⟩|⟨_,_,h2,h3⟩|⟨_,_,h2,h3⟩
  ·rw[h2,h3];simp[bM]at ih⊢;omega
  ·rw[h2,h3];simp[bM]at ih⊢;omega
  ·rw[h2]at hgn
   have hg2:(vk x c n).g=true:=hgn
   rcases h3 with h3|h3<;>rw[h2,h3]<;>simp[bM,iY,hg2]at ih⊢<;>omega
  ·rw[h2]at hgn
   have hg2:(vk x c n).g=false:=hgn
   rcases h3 with h3|h3<;>rw[h2,h3]<;>simp[bM,iY,hg2,hs]at ih⊢<;>omega
theorem Xq{h:Hp}{s:dS}(h0:aZ h=true)(h1:bW h=true)(h2:iw h 4=some s)(h3:iH h s=true)(h4:fM h s=true)(h5:dO h s=true)(h6:leftB h s=true)(h7:kS h s=true):dZ h=some s:=by
 have l1:looks h 1=some dS.nil:=if_pos h0
 have l2:looks h 2=some dS.nil:=by
  show(looks h 1).bind _=_
  rw[l1];exact if_pos h1
 have l3:looks h 3=some s:=by
  show(looks h 2).bind _=_
  rw[l2];exact h2
 have l4:looks h 4=some s:=by
  show(looks h 3).bind _=_
  rw[l3];exact if_pos h3
 have l5:looks h 5=some s:=by
  show(looks h 4).bind _=_
  rw[l4];exact if_pos h4
 have l6:looks h 6=some s:=by
  show(looks h 5).bind _=_
  rw[l5];exact if_pos h5
 have l7:looks h 7=some s:=by
  show(looks h 6).bind _=_
  rw[l6];exact if_pos h6
 show(looks h 7).bind _=_
 rw[l7];exact if_pos h7
theorem FQ{p n:Nat}(hp:3<=p):fE x false p n=[]:=by
 refine List.eq_nil_iff_forall_not_mem.2 λd hd=> ?_
 obtain⟨i,hi,hq,rfl⟩:=uo.1 hd
 rcases jJ x false i with h|h|h|h<;>first|omega|(obtain⟨_,h2,_⟩:=h;cases h2)
theorem AU:(bI x).length<=5:=by
 unfold bI
 split
 ·simp
 ·simp;omega
theorem D6{x:Rh}(ok:jT x)(c:Bool)(hc:c=true->0<hof x c 1 (nN x)):dZ (bF x c)=some (Ji x c):=by
 have hl:(bF x c).low.length=hof x c 1 (nN x):=hlen x c 1 (nN x)
 have hh:(bF x c).high.length=hof x c 2 (nN x):=hlen x c 2 (nN x)
 have ho:(bF x c).old.length=aY x c 3 (nN x):=AB x c 3 (nN x)
 have hf:(bF x c).far.length=aY x c 4 (nN x):=AB x c 4 (nN x)
 have hsc:=Oz x c
 have hse:(bF x c).scan=(iU x c:Int):=rfl
 refine Xq ?_ ?_ (Ja (Jm ok c)) (Qi ok c) ?_ ?_ ?_ ?_
 ·unfold aZ
  rw[sK,pK ok.base.1 c,Bool.true_and,decide_eq_true_eq,hl,hse]
  refine⟨?_,by omega,by omega⟩
  show((bI x).map _).length<=16
  rw[List.length_map]
  have:=AU (x:=x)
  omega
 ·unfold bW
  have e:(bF x c).dJ=c:=rfl
  rw[e,hl,ho,hf,hse]
  cases c with
  |true=>
   rw[if_pos rfl,decide_eq_true_eq]
   have:=hsc.2.1 rfl (hc rfl)
   omega
  |false=>
   rw[if_neg (by decide),decide_eq_true_eq]
   have h1:aY x false 3 (nN x)=0:=by rw[<-AB,FQ (by omega)];rfl
   have h2:aY x false 4 (nN x)=0:=by rw[<-AB,FQ (by omega)];rfl
   have:=hsc.2.2 rfl
   omega
 ·unfold fM
  rw[Bool.and_eq_true,Bool.and_eq_true,List.all_eq_true]
  refine⟨λv hv=> ?_,LY ok c λa t tw ht=>pR ok c ((qV x c ht).2.2 (by omega) (λh=>by cases h)),LY ok c λa t tw ht=> ?_⟩
  ·obtain⟨r,hr,rfl⟩:=List.mem_map.1 hv
   have:=AO x r hr
   unfold uQ
   split
   ·exact pR ok c (LW x c (by omega))
   ·rfl
  ·rw[Bool.or_eq_true,decide_eq_true_eq,hse]
   rcases Nat.lt_or_ge a (iU x c)with h|h
   ·exact .inr (pR ok c ((qV x c ht).2.2 (by omega) (λ_=>h)))
   ·exact .inl (by omega)
 ·unfold dO
  exact LY ok c λa t tw ht=>by
   rw[Bool.or_eq_true]
   exact .inr (pR ok c (qV x c ht).1)
 ·unfold leftB
  rw[Bool.and_eq_true]
  exact⟨Us ok c λa t tw ht=>pR ok c ((qV x c ht).2.1 (by omega)),Us ok c λa t tw ht=>pR ok c ((qV x c ht).2.1 (by omega))⟩
 ·unfold kS
  rw[decide_eq_true_eq,hl,hh,DZ]
  show _+(bM (bY 0 (fE x c 3 (nN x)))+bM (bY 0 (fE x c 4 (nN x))))<=((dP x c:Nat):Int)
  rw[LZ c (λi hi=>DT ok c hi)]
  unfold dP
  omega
theorem Jo{x:Rh}(ok:jT x):∃s,dZ (gK x)=some s:=by
 unfold gK
 split
 ·exact⟨_,D6 ok false λh=>by cases h⟩
 ·rename_i h
  exact⟨_,D6 ok true λ_=>by omega⟩
end Go.Proofs.YtpgjploaliefdaaGreat.rh
