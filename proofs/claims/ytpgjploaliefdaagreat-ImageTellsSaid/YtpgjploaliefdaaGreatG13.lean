/- check: walked. No conditions. -/
import Derived.Test.YtpgjploaliefdaaGreatG12
import Derived.WalkMore
import Derived.Test.YtpgjploaliefdaaGreatG04
namespace Go.Proofs.YtpgjploaliefdaaGreat.ck
open Go Go.RowKit hp ob hd cp mp cm gr
set_option linter.unusedVariables false
set_option linter.unusedSimpArgs false
set_option maxRecDepth 100000
set_option maxHeartbeats 4000000
variable {w0 w W : World} {p : Pl} {h : Hp} {v : Hv} {s : dS} {ov : Ov}
theorem MO(s:dS)(L:Lay){q j:Nat}(l:List Ob)(hj:j≠q)(h1:1<=j/\j<=4):(s.note L q l).obs j=s.obs j:=by
 rcases(show j=1\/j=2\/j=3\/j=4 by omega)with rfl|rfl|rfl|rfl
 ·show(if q=1 then l else s.o1)=s.o1
  rw[if_neg (λe=>hj e.symm)]
 ·show(if q=2 then l else s.o2)=s.o2
  rw[if_neg (λe=>hj e.symm)]
 ·show(if q=3 then l else s.o3)=s.o3
  rw[if_neg (λe=>hj e.symm)]
 ·show(if q=4 then l else s.o4)=s.o4
  rw[if_neg (λe=>hj e.symm)]
theorem qy{h:Hp}:∀{k:Nat}{s:dS},iw h k=some s->∀j,k<j->j<=4->s.obs j=[]
 |0,s,e,j,h1,h2=>by
  cases e
  rcases(show j=1\/j=2\/j=3\/j=4 by omega)with rfl|rfl|rfl|rfl<;>rfl
 |k+1,s,e,j,h1,h2=>by
  obtain⟨s0,l,i,e0,_,rfl⟩:=sJ e
  rw[MO s0 h.lay l (by omega) ⟨by omega,h2⟩]
  exact qy e0 j (by omega) h2
theorem vZ{W:World}{B C:Nat}{v:Value}{l:List Ob}(h:cu W B v l)(hb:C<=B):cu W C v l:=by
 refine⟨h.1,?_⟩
 rcases h.2 with h|⟨g,cap,cur,h1,h2,h3⟩
 ·exact .inl h
 ·exact .inr ⟨g,cap,cur,h1,by omega,h3⟩
def MP(w0 W:World)(p:Pl)(h:Hp)(v:Hv)(e:Ending)(w':World):Prop:=
 (iw h 4=none/\e=.returned (.bool false)/\Below w0.heap.size w0 w')\/(∃s ov,iw h 4=some s/\e=.returned (.bool true)/\St w0 w' p h v s ov/\K3 p W w')
theorem zS{zs:List Int}{ss:List (Int×Int)}{c:Int}{k:Nat}(h:iq zs ss=.err c k):c≠0:=by
 unfold iq at h
 generalize hw:aV (jP ss.length ss) zs zs.length (zs.length+1) 0 0 []=r at h
 rcases r with⟨a,j⟩|⟨c',j⟩
 ·by_cases hk:j<ss.length
  ·rw[show jv ss.length (.ok a j)=.err 3 j from by simp[jv,hk]]at h
   cases h
   decide
  ·rw[show jv ss.length (.ok a j)=.ok a j from by simp[jv,hk]]at h
   cases h
 ·have h:TI.err c' j=.err c k:=h
  cases h
  exact xk hw
theorem zT{zs:List Int}{c:Int}{k:Nat}(h:newF zs=.err c k):c≠0:=xk h
theorem MQ(a:St w0 W p h v dS.nil ov)(hr:fZ h.lay=true):
  Calls Tryz.prog 96 #[.pointer (some ⟨p.b,0,none⟩)] W λe w'=>MP w0 W p h v e w':=by
 have A0:=Lib.hid a
 have HW:Hid (∀(W:World)(q:Nat)(s:dS)(ov:Ov),1<=q/\q<=4->St w0 W p h v s ov->Calls Tryz.prog 108 #[.pointer (some ⟨p.b,0,none⟩),.int .i64 q] W λe w'=>e=.returned (v.part q)/\Below W.heap.size W w'):=Lib.hid λW q s ov hq a=>xK a q hq
 have HS:Hid (∀(W:World)(q:Nat)(s:dS)(ov:Ov),St w0 W p h v s ov->Calls Tryz.prog 110 #[.pointer (some ⟨p.b,0,none⟩),v.part q] W λe w'=>(∃x,e=.returned x/\dV w' x (dM s.lf (h.part q)))/\Below W.heap.size W w'):=Lib.hid λW q s ov a=>uy a _ _ (a.now.part q).1 (a.now.part q).2
 have HN:Hid (∀(W:World)(q:Nat)(s:dS)(ov:Ov)(u:Value)(l:List Ob),1<=q/\q<=4->St w0 W p h v s ov->cu W p.B u l->((∀o∈l,lM (h.part q).length o)/\l.length<=(h.part q).length)->s.obs q=[]->Calls Tryz.prog 111 #[.pointer (some ⟨p.b,0,none⟩),.int .i64 q,u] W λe w'=>e=.returned (.tuple #[])/\St w0 w' p h v (s.note h.lay q l) (ov.put q u)/\K3 p W w'):=
  Lib.hid λW q s ov u l hq a hu hf he=>note_any a hr q hq u l hu hf he
 clear a hr
 go_enter Tryz.func96,Tryz.ntmps96
 go_step
 go_wp2_with fail
 apply wp_scope_straight
 go_step
 go_wp2_with fail
 apply wp_label
 go_wp2_with fail
 go_loopw [8,3] (λi fi wr=>∃(k:Nat)(s:dS)(ov:Ov),k<=4/\i=.int .i64 k/\fi=.bool true/\Hid (iw h k=some s)/\Hid (St w0 wr p h v s ov)/\Hid (K3 p W wr)) (λi _ _=>5-(intOf i).toNat)
 case atStart=>exact⟨0,dS.nil,ov,Nat.zero_le _,rfl,rfl,rfl,A0.out,K3.refl _ _⟩
 case round=>
  obtain⟨k,s,ov,hk,rfl,rfl,hrw,hst,hk3⟩:=hrel
  clear A0
  rcases(show k=0\/k=1\/k=2\/k=3\/k=4 by omega)with rfl|rfl|rfl|rfl|rfl
  ·go_wp2_with fail
   refine(HW.out wr 1 s ov ⟨by decide,by decide⟩ hst.out).mono ?_;rintro e w1 ⟨rfl,k1⟩
   have hs1:=Lib.hid (hst.out.tr k1)
   go_wp2_with fail
   refine(walk_in (v.part 1) (h.part 1) w1 (hs1.out.now.part 1).1 (hs1.out.now.part 1).2).mono ?_;rintro e w2 ⟨hwk,k2⟩
   have hs2:=Lib.hid (hs1.out.tr k2)
   have hwk:jk (w1.heap.size+6) (newF (h.part 1)) e w2:=hwk
   have HKz:=Lib.hid (hk3.out.trans ((K3.below k1).trans (K3.below k2)))
   clear k1 k2 hst
   have Ia:Hid (iw h (0+1)=jD h (0+1) s):=by
    show(iw h 0).bind _=_
    rw[hrw.out];rfl
   rcases hres:newF (h.part 1)with⟨l,j⟩|⟨c,j⟩<;>rw[hres]at hwk
   ·obtain⟨u,rfl,hu⟩:=hwk
    have HU:=Lib.hid (vZ hu (by have:=hs1.out.B;omega):cu w2 p.B u l)
    have HF:Hid ((∀o∈l,lM (h.part 1).length o)/\l.length<=(h.part 1).length):=nY hres
    have HE:Hid (iw h (0+1)=some (s.note h.lay 1 l)):=by
     show _=_
     rw[Ia.out]
     unfold jD
     rw[show mF h (0+1) s=newF (h.part 1)from rfl,hres]
    clear hu Ia
    go_wp2_with fail
    refine(HN.out w2 1 s ov u l ⟨by decide,by decide⟩ hs2.out HU.out HF.out (qy hrw.out 1 (by decide) (by decide))).mono ?_;rintro e w3 ⟨rfl,hs3,kk⟩
    have CY:=Lib.hid hs3
    have HK3:=Lib.hid (HKz.out.trans kk)
    clear hs3 kk
    go_wp2_with fail
    exact⟨⟨0+1,_,_,by decide,by go_num,rfl,HE.out,CY.out,HK3.out⟩,by simp[intOf]⟩
   ·have hwk:e=.returned (.tuple #[.slice none 0 0,.int .i64 c]):=hwk
    subst hwk
    have hc0:=zT hres
    have hcb:(c==0)=false:=beq_eq_false_iff_ne.mpr hc0
    have HE:Hid (iw h 4=none):=sG (k:=0+1) (by
     rw[Ia.out]
     unfold jD
     rw[show mF h (0+1) s=newF (h.part 1)from rfl,hres]) (by decide)
    clear Ia hc0
    go_wp2_with fail
    go_ret
    exact .inl ⟨HE.out,rfl,hs2.out.bel⟩
  ·go_wp2_with fail
   refine(HW.out wr 2 s ov ⟨by decide,by decide⟩ hst.out).mono ?_;rintro e w1 ⟨rfl,k1⟩
   have hs1:=Lib.hid (hst.out.tr k1)
   go_wp2_with fail
   refine(walk_in (v.part 2) (h.part 2) w1 (hs1.out.now.part 2).1 (hs1.out.now.part 2).2).mono ?_;rintro e w2 ⟨hwk,k2⟩
   have hs2:=Lib.hid (hs1.out.tr k2)
   have hwk:jk (w1.heap.size+6) (newF (h.part 2)) e w2:=hwk
   have HKz:=Lib.hid (hk3.out.trans ((K3.below k1).trans (K3.below k2)))
   clear k1 k2 hst
   have Ia:Hid (iw h (1+1)=jD h (1+1) s):=by
    show(iw h 1).bind _=_
    rw[hrw.out];rfl
   rcases hres:newF (h.part 2)with⟨l,j⟩|⟨c,j⟩<;>rw[hres]at hwk
   ·obtain⟨u,rfl,hu⟩:=hwk
    have HU:=Lib.hid (vZ hu (by have:=hs1.out.B;omega):cu w2 p.B u l)
    have HF:Hid ((∀o∈l,lM (h.part 2).length o)/\l.length<=(h.part 2).length):=nY hres
    have HE:Hid (iw h (1+1)=some (s.note h.lay 2 l)):=by
     show _=_
     rw[Ia.out]
     unfold jD
     rw[show mF h (1+1) s=newF (h.part 2)from rfl,hres]
    clear hu Ia
    go_wp2_with fail
    refine(HN.out w2 2 s ov u l ⟨by decide,by decide⟩ hs2.out HU.out HF.out (qy hrw.out 2 (by decide) (by decide))).mono ?_;rintro e w3 ⟨rfl,hs3,kk⟩
    have CY:=Lib.hid hs3
    have HK3:=Lib.hid (HKz.out.trans kk)
    clear hs3 kk
    go_wp2_with fail
    exact⟨⟨1+1,_,_,by decide,by go_num,rfl,HE.out,CY.out,HK3.out⟩,by simp[intOf]⟩
   ·have hwk:e=.returned (.tuple #[.slice none 0 0,.int .i64 c]):=hwk
    subst hwk
    have hc0:=zT hres
    have hcb:(c==0)=false:=beq_eq_false_iff_ne.mpr hc0
    have HE:Hid (iw h 4=none):=sG (k:=1+1) (by
     rw[Ia.out]
     unfold jD
     rw[show mF h (1+1) s=newF (h.part 2)from rfl,hres]) (by decide)
    clear Ia hc0
    go_wp2_with fail
    go_ret
    exact .inl ⟨HE.out,rfl,hs2.out.bel⟩
  ·go_wp2_with fail
   refine(HW.out wr 3 s ov ⟨by decide,by decide⟩ hst.out).mono ?_;rintro e w0' ⟨rfl,k0⟩
   have hs0:=Lib.hid (hst.out.tr k0)
   go_wp2_with fail
   refine(HW.out w0' 3 s ov ⟨by decide,by decide⟩ hs0.out).mono ?_;rintro e aap ⟨rfl,k0'⟩
   have MR:=Lib.hid (hs0.out.tr k0')
   go_wp2_with fail
   refine(HS.out aap 3 s ov MR.out).mono ?_;rintro e w1 ⟨⟨sh,rfl,hsh⟩,k1⟩
   have hs1:=Lib.hid (MR.out.tr k1)
   go_wp2_with fail
   refine(Dz (v.part 3) sh (h.part 3) (dM s.lf (h.part 3)) w1 (hs1.out.now.part 3).1 (hs1.out.now.part 3).2 hsh).mono ?_;rintro e w2 ⟨⟨B,hB,hwk⟩,k2⟩
   have hs2:=Lib.hid (hs1.out.tr k2)
   have HKz:=Lib.hid (hk3.out.trans ((K3.below k0).trans ((K3.below k0').trans ((K3.below k1).trans (K3.below k2)))))
   clear k0 k0' k1 k2 hst hs0 MR hsh
   have Ia:Hid (iw h (2+1)=jD h (2+1) s):=by
    show(iw h 2).bind _=_
    rw[hrw.out];rfl
   rcases hres:iq (h.part 3) (dM s.lf (h.part 3))with⟨l,j⟩|⟨c,j⟩<;>rw[hres]at hwk
   ·obtain⟨u,rfl,hu⟩:=hwk
    have HU:=Lib.hid (vZ hu (by have:=hs1.out.B;omega):cu w2 p.B u l)
    have HF:Hid ((∀o∈l,lM (h.part 3).length o)/\l.length<=(h.part 3).length):=nZ hres
    have HE:Hid (iw h (2+1)=some (s.note h.lay 3 l)):=by
     show _=_
     rw[Ia.out]
     unfold jD
     rw[show mF h (2+1) s=iq (h.part 3) (dM s.lf (h.part 3))from rfl,hres]
    clear hu Ia
    go_wp2_with fail
    refine(HN.out w2 3 s ov u l ⟨by decide,by decide⟩ hs2.out HU.out HF.out (qy hrw.out 3 (by decide) (by decide))).mono ?_;rintro e w3 ⟨rfl,hs3,kk⟩
    have CY:=Lib.hid hs3
    have HK3:=Lib.hid (HKz.out.trans kk)
    clear hs3 kk
    go_wp2_with fail
    exact⟨⟨2+1,_,_,by decide,by go_num,rfl,HE.out,CY.out,HK3.out⟩,by simp[intOf]⟩
   ·have hwk:e=.returned (.tuple #[.slice none 0 0,.int .i64 c]):=hwk
    subst hwk
    have hc0:=zS hres
    have hcb:(c==0)=false:=beq_eq_false_iff_ne.mpr hc0
    have HE:Hid (iw h 4=none):=sG (k:=2+1) (by
     rw[Ia.out]
     unfold jD
     rw[show mF h (2+1) s=iq (h.part 3) (dM s.lf (h.part 3))from rfl,hres]) (by decide)
    clear Ia hc0
    go_wp2_with fail
    go_ret
    exact .inl ⟨HE.out,rfl,hs2.out.bel⟩
  ·go_wp2_with fail
   refine(HW.out wr 4 s ov ⟨by decide,by decide⟩ hst.out).mono ?_;rintro e w0' ⟨rfl,k0⟩
   have hs0:=Lib.hid (hst.out.tr k0)
   go_wp2_with fail
   refine(HW.out w0' 4 s ov ⟨by decide,by decide⟩ hs0.out).mono ?_;rintro e aap ⟨rfl,k0'⟩
   have MR:=Lib.hid (hs0.out.tr k0')
   go_wp2_with fail
   refine(HS.out aap 4 s ov MR.out).mono ?_;rintro e w1 ⟨⟨sh,rfl,hsh⟩,k1⟩
   have hs1:=Lib.hid (MR.out.tr k1)
   go_wp2_with fail
   refine(Dz (v.part 4) sh (h.part 4) (dM s.lf (h.part 4)) w1 (hs1.out.now.part 4).1 (hs1.out.now.part 4).2 hsh).mono ?_;rintro e w2 ⟨⟨B,hB,hwk⟩,k2⟩
   have hs2:=Lib.hid (hs1.out.tr k2)
   have HKz:=Lib.hid (hk3.out.trans ((K3.below k0).trans ((K3.below k0').trans ((K3.below k1).trans (K3.below k2)))))
   clear k0 k0' k1 k2 hst hs0 MR hsh
   have Ia:Hid (iw h (3+1)=jD h (3+1) s):=by
    show(iw h 3).bind _=_
    rw[hrw.out];rfl
   rcases hres:iq (h.part 4) (dM s.lf (h.part 4))with⟨l,j⟩|⟨c,j⟩<;>rw[hres]at hwk
   ·obtain⟨u,rfl,hu⟩:=hwk
    have HU:=Lib.hid (vZ hu (by have:=hs1.out.B;omega):cu w2 p.B u l)
    have HF:Hid ((∀o∈l,lM (h.part 4).length o)/\l.length<=(h.part 4).length):=nZ hres
    have HE:Hid (iw h (3+1)=some (s.note h.lay 4 l)):=by
     show _=_
     rw[Ia.out]
     unfold jD
     rw[show mF h (3+1) s=iq (h.part 4) (dM s.lf (h.part 4))from rfl,hres]
    clear hu Ia
    go_wp2_with fail
    refine(HN.out w2 4 s ov u l ⟨by decide,by decide⟩ hs2.out HU.out HF.out (qy hrw.out 4 (by decide) (by decide))).mono ?_;rintro e w3 ⟨rfl,hs3,kk⟩
    have CY:=Lib.hid hs3
    have HK3:=Lib.hid (HKz.out.trans kk)
    clear hs3 kk
    go_wp2_with fail
    exact⟨⟨3+1,_,_,by decide,by go_num,rfl,HE.out,CY.out,HK3.out⟩,by simp[intOf]⟩
   ·have hwk:e=.returned (.tuple #[.slice none 0 0,.int .i64 c]):=hwk
    subst hwk
    have hc0:=zS hres
    have hcb:(c==0)=false:=beq_eq_false_iff_ne.mpr hc0
    have HE:Hid (iw h 4=none):=sG (k:=3+1) (by
     rw[Ia.out]
     unfold jD
     rw[show mF h (3+1) s=iq (h.part 4) (dM s.lf (h.part 4))from rfl,hres]) (by decide)
    clear Ia hc0
    go_wp2_with fail
    go_ret
    exact .inl ⟨HE.out,rfl,hs2.out.bel⟩
  ·go_wp2_with fail
   go_ret
   exact .inr ⟨s,ov,hrw.out,rfl,hst.out,hk3.out⟩
end Go.Proofs.YtpgjploaliefdaaGreat.ck
namespace Go.Proofs.YtpgjploaliefdaaGreat.ck
open Go Go.RowKit hp ob hd cp mp cm gr
set_option linter.unusedVariables false
set_option linter.unusedSimpArgs false
set_option maxRecDepth 100000
set_option maxHeartbeats 4000000
variable {w0 w W : World} {p : Pl} {h : Hp} {v : Hv} {s : dS} {ov : Ov}
def ovN:Ov:=⟨.slice none 0 0,.slice none 0 0,.slice none 0 0,.slice none 0 0⟩
theorem St.start(hin:kH w h v)(b bp bl:Nat)(hb:Below w.heap.size w W)(K:aj W b (zF h v ovN bp bl) 122)(m1:dh Tryz.prog 24 W bp 0 (λ_=>none))(m2:dh Tryz.prog 24 W bl 0 (λ_=>none))(h1:w.heap.size<=b)(h2:w.heap.size<=bp)(h3:w.heap.size<=bl)(n1:b≠bp)(n2:b≠bl)(n3:bp≠bl):
  ∃p:Pl,(Value.pointer (some ⟨b,0,none⟩))=.pointer (some ⟨p.b,0,none⟩)/\St w W p h v dS.nil ovN:=
 ⟨⟨b,bp,bl,W.heap.size⟩,rfl,hin,hb,⟨h1,h2,h3,K.lt,m1.lt,m2.lt,n1,n2,n3⟩,Nat.le_refl _,K,World.ownsRow_nil _ _ _ _,World.ownsRow_nil _ _ _ _,World.ownsRow_nil _ _ _ _,World.ownsRow_nil _ _ _ _,⟨0,Nat.zero_le _,m1⟩,⟨0,Nat.zero_le _,m2⟩,⟨(λo ho=>by cases ho),Nat.zero_le _⟩,⟨(λo ho=>by cases ho),Nat.zero_le _⟩,⟨(λo ho=>by cases ho),Nat.zero_le _⟩,⟨(λo ho=>by cases ho),Nat.zero_le _⟩,(λa q e=>by cases(e:none=some q)),(λa q e=>by cases(e:none=some q))⟩
theorem U2{P:Program}{k:TypeId}{W:World}{b n:Nat}{f:Int->Option Value}(h:dh P k W b n f)(o:Obj):dh P k (W.alloc o) b n f:=h.tr ((Below.refl _ _).alloc (Nat.le_refl _) _)
theorem U3{P:Program}{k:TypeId}{W:World}{b n:Nat}{f:Int->Option Value}(h:dh P k W b n f):dh P k W.drew b n f:=h.tr (Below.refl _ _).drew
theorem QO{P:Program}{k:TypeId}{W:World}{b:Nat}(h:b=W.heap.size):dh P k (W.alloc (.map #[] 0)) b 0 (λ_=>none):=by subst h;exact dh.made W
def fnV(k:Nat):Value:=.func (.func k) #[] #[]
theorem QU(w:World):Calls Tryz.prog 79 #[] w λe w'=>e=.returned (.slice (some ⟨w.heap.size,0,none⟩) 8 8)/\w'=w.alloc (.cells #[.func (.func 94) #[] #[],.func (.func 95) #[] #[],.func (.func 96) #[] #[],.func (.func 97) #[] #[],.func (.func 98) #[] #[],.func (.func 99) #[] #[],.func (.func 100) #[] #[],.func (.func 101) #[] #[]] 144):=by
 go_enter Tryz.func79,Tryz.ntmps79
 go_wp2_with fail
 go_ret
 exact⟨rfl,rfl⟩
theorem JL(P:Program)(w:World)(a:Addr)(fn:Fn)(first captured:Array Value)(m:Mode):(store a (.func fn first captured) m).run P w=stored P w a (.func fn first captured) m:=run_store P w a _ m rfl
def Es(w:World)(h:Hp)(v:Hv)(e:Ending)(w':World):Prop:=
 (dZ h=none/\e=.returned (.tuple #[.pointer none,.bool false])/\Below w.heap.size w w')\/
 (∃p s ov,dZ h=some s/\e=.returned (.tuple #[.pointer (some ⟨p.b,0,none⟩),.bool true])/\St w w' p h v s ov)
theorem JM(h:Hp)(v:Hv)(w:World)(hin:kH w h v):Calls Tryz.prog 54 #[fD h v] w λe w'=>Es w h v e w':=by
 have vC:=Lib.hid hin
 have HL:Hid (∀W,kH W h v->Calls Tryz.prog 78 #[fD h v] W λe w'=>e=.returned (eY h.lay)/\Below W.heap.size W w'):=Lib.hid λW hin=>LK h v W hin
 obtain⟨la,lc,e1⟩:=ay hin.low
 obtain⟨ha,hc,e2⟩:=ay hin.high
 obtain⟨oa,oc,e3⟩:=ay hin.old
 obtain⟨fa,fc,e4⟩:=ay hin.far
 obtain⟨ra,rc,e5⟩:=ay hin.roots
 obtain⟨vl,vh,vo,vf,vr⟩:=v
 dsimp only at e1 e2 e3 e4 e5
 subst e1 e2 e3 e4 e5
 have hmm:= @run_makeMap Tryz.prog
 clear hin
 unfold fD eY Hp.lay at*
 dsimp only at*
 have K0:aj (w.alloc (.cells #[.int .u64 h.base,.int .i64 h.cap,.int .i64 h.tt,.bool h.dJ,.int .i64 h.scan,.slice la h.low.length lc,.slice ha h.high.length hc,.slice oa h.old.length oc,.slice fa h.far.length fc,.slice ra h.roots.length rc] 32)) w.heap.size #[.int .u64 h.base,.int .i64 h.cap,.int .i64 h.tt,.bool h.dJ,.int .i64 h.scan,.slice la h.low.length lc,.slice ha h.high.length hc,.slice oa h.old.length oc,.slice fa h.far.length fc,.slice ra h.roots.length rc] 32:=aj.new _ _ _
 have kW:Below w.heap.size w (w.alloc (.cells #[.int .u64 h.base,.int .i64 h.cap,.int .i64 h.tt,.bool h.dJ,.int .i64 h.scan,.slice la h.low.length lc,.slice ha h.high.length hc,.slice oa h.old.length oc,.slice fa h.far.length fc,.slice ra h.roots.length rc] 32)):=by exact bm
 go_enter Tryz.func54,Tryz.ntmps54
 go_upto_region 1 with(fail)
 generalize w.alloc (.cells #[.int .u64 h.base,.int .i64 h.cap,.int .i64 h.tt,.bool h.dJ,.int .i64 h.scan,.slice la h.low.length lc,.slice ha h.high.length hc,.slice oa h.old.length oc,.slice fa h.far.length fc,.slice ra h.roots.length rc] 32)=W1 at*
 obtain⟨l0,c0,f0⟩:=K0.get
 have hcc:W1.cell? ⟨w.heap.size,0,none⟩=some (.int .u64 h.base)/\W1.cell? ⟨w.heap.size,1,none⟩=some (.int .i64 h.cap)/\W1.cell? ⟨w.heap.size,2,none⟩=some (.int .i64 h.tt)/\W1.cell? ⟨w.heap.size,3,none⟩=some (.bool h.dJ)/\W1.cell? ⟨w.heap.size,4,none⟩=some (.int .i64 h.scan)/\W1.cell? ⟨w.heap.size,5,none⟩=some (.slice la h.low.length lc)/\W1.cell? ⟨w.heap.size,6,none⟩=some (.slice ha h.high.length hc)/\W1.cell? ⟨w.heap.size,7,none⟩=some (.slice oa h.old.length oc)/\W1.cell? ⟨w.heap.size,8,none⟩=some (.slice fa h.far.length fc)/\W1.cell? ⟨w.heap.size,9,none⟩=some (.slice ra h.roots.length rc):=
  ⟨c0 0,c0 1,c0 2,c0 3,c0 4,c0 5,c0 6,c0 7,c0 8,c0 9⟩
 clear c0 f0
 go_cut [4] (λx wx=>∃p:Pl,x=.pointer (some ⟨p.b,0,none⟩)/\St w wx p h ⟨.slice la h.low.length lc,.slice ha h.high.length hc,.slice oa h.old.length oc,.slice fa h.far.length fc,.slice ra h.roots.length rc⟩ dS.nil ovN)
 case first=>
  go_wp2_with fail
  go_region_held3 (λw'=>w'.cell? ⟨w.heap.size,0,none⟩=some (.int .u64 h.base)/\w'.cell? ⟨w.heap.size,1,none⟩=some (.int .i64 h.cap)/\w'.cell? ⟨w.heap.size,2,none⟩=some (.int .i64 h.tt)/\w'.cell? ⟨w.heap.size,3,none⟩=some (.bool h.dJ)/\w'.cell? ⟨w.heap.size,4,none⟩=some (.int .i64 h.scan)/\w'.cell? ⟨w.heap.size,5,none⟩=some (.slice la h.low.length lc)/\w'.cell? ⟨w.heap.size,6,none⟩=some (.slice ha h.high.length hc)/\w'.cell? ⟨w.heap.size,7,none⟩=some (.slice oa h.old.length oc)/\w'.cell? ⟨w.heap.size,8,none⟩=some (.slice fa h.far.length fc)/\w'.cell? ⟨w.heap.size,9,none⟩=some (.slice ra h.roots.length rc))
   ((refine vY (W:=W1) ?_ l0 hcc;exact bm))
   (first
    |(go_at_call 78;refine(HL.out _ (vC.out.tr (by exact bm))).mono ?_;rintro e w2 ⟨rfl,k2⟩))
  all_goals
   first|go_meet|(go_wp2_with fail;go_meet)
   have hs2:=k2.size
   simp at hs2
   refine St.start vC.out _ _ _ (by exact bm) (aj.mk (by simp)) ?_ ?_ ?_ ?_ ?_ ?_ ?_ ?_
  all_goals first
   |omega
   |(repeat(first|(refine QO ?_;(simp;done))|with_reducible refine U2 ?_ _|with_reducible refine U3 ?_|with_reducible refine dh.tr ?_ k2))
 case rest=>
 obtain⟨p,rfl,hst⟩:=hcut
 clear hcc K0 kW l0
 generalize hvv:(⟨.slice la h.low.length lc,.slice ha h.high.length hc,.slice oa h.old.length oc,.slice fa h.far.length fc,.slice ra h.roots.length rc⟩:Hv)=v at*
 have FW:=Lib.hid hst
 have HVV:=Lib.hid hvv
 clear hst hvv
 go_wp2_with fail
 refine(QU _).mono ?_;rintro e w3 ⟨rfl,rfl⟩
 have KR:=Lib.hid (aj.new wc #[.func (.func 94) #[] #[],.func (.func 95) #[] #[],.func (.func 96) #[] #[],.func (.func 97) #[] #[],.func (.func 98) #[] #[],.func (.func 99) #[] #[],.func (.func 100) #[] #[],.func (.func 101) #[] #[]] 144)
 have QM:=Lib.hid (FW.out.alloc (.cells #[.func (.func 94) #[] #[],.func (.func 95) #[] #[],.func (.func 96) #[] #[],.func (.func 97) #[] #[],.func (.func 98) #[] #[],.func (.func 99) #[] #[],.func (.func 100) #[] #[],.func (.func 101) #[] #[]] 144))
 have hpr:p.B<=wc.heap.size:=FW.out.B
 go_wp2_with fail
 generalize wc.heap.size=rb at*
 clear FW
 go_loopw [16] (λi wr=>∃(k:Nat)(s:dS)(ov:Ov),k<=8/\i=.int .i64 k/\Hid (looks h k=some s)/\Hid (St w wr p h v s ov)/\Hid (aj wr rb #[.func (.func 94) #[] #[],.func (.func 95) #[] #[],.func (.func 96) #[] #[],.func (.func 97) #[] #[],.func (.func 98) #[] #[],.func (.func 99) #[] #[],.func (.func 100) #[] #[],.func (.func 101) #[] #[]] 144)) (λi _=>9-(intOf i).toNat)
 case atStart=>exact⟨0,_,_,by omega,rfl,rfl,QM.out,KR.out⟩
 case round=>
  obtain⟨k,s,ov,hk,rfl,hlk,hst,hkr⟩:=hrel
  clear QM KR
  obtain⟨lr,cr,fr⟩:=hkr.out.get
  have hsf:=JL Tryz.prog
  rcases(show k=0\/k=1\/k=2\/k=3\/k=4\/k=5\/k=6\/k=7\/k=8 by omega)with rfl|rfl|rfl|rfl|rfl|rfl|rfl|rfl|rfl
  ·skip
   have HE:Hid (looks h (0+1)=if aZ h then some s else none):=by
    show(looks h 0).bind _=_
    rw[hlk.out];rfl
   go_wp2_with fail
   refine(JK (hst.out.alloc _)).mono ?_;rintro e w3 ⟨rfl,k3⟩
   have hs3:=Lib.hid ((hst.out.alloc _).tr k3)
   have yN:=Lib.hid ((hkr.out.alloc _).tr k3)
   clear hst hkr lr cr fr k3
   generalize aZ h=bb at*
   rcases bb with _|_
   ·have HE2:Hid (dZ h=none):=iZ (k:=0+1) HE.out (by decide)
    go_wp2_with fail
    go_ret2
    exact .inl ⟨HE2.out,rfl,hs3.out.bel⟩
   ·go_wp2_with fail
    exact⟨⟨0+1,s,ov,by decide,by go_num,HE.out,hs3.out,yN.out⟩,by simp[intOf]⟩
  ·skip
   have HE:Hid (looks h (1+1)=if bW h then some s else none):=by
    show(looks h 1).bind _=_
    rw[hlk.out];rfl
   go_wp2_with fail
   refine(JF (hst.out.alloc _)).mono ?_;rintro e w3 ⟨rfl,k3⟩
   have hs3:=Lib.hid ((hst.out.alloc _).tr k3)
   have yN:=Lib.hid ((hkr.out.alloc _).tr k3)
   clear hst hkr lr cr fr k3
   generalize bW h=bb at*
   rcases bb with _|_
   ·have HE2:Hid (dZ h=none):=iZ (k:=1+1) HE.out (by decide)
    go_wp2_with fail
    go_ret2
    exact .inl ⟨HE2.out,rfl,hs3.out.bel⟩
   ·go_wp2_with fail
    exact⟨⟨1+1,s,ov,by decide,by go_num,HE.out,hs3.out,yN.out⟩,by simp[intOf]⟩
  ·obtain⟨hs0,hlr⟩:=P7 hlk.out
   subst hs0
   go_wp2_with fail
   refine(MQ (hst.out.alloc _) hlr).mono ?_
   rintro e w3 (⟨hn,rfl,hb⟩|⟨s',ov',hn,rfl,hs3,k3⟩)
   ·have HE:Hid (dZ h=none):=iZ (k:=3) (by
     show(looks h 2).bind _=_
     rw[hlk.out]
     exact hn) (by decide)
    go_wp2_with fail
    go_ret2
    exact .inl ⟨HE.out,rfl,hb⟩
   ·have HE:Hid (looks h 3=some s'):=by
     show(looks h 2).bind _=_
     rw[hlk.out]
     exact hn
    have hs4:=Lib.hid hs3
    have yN:=Lib.hid (k3.blk (hkr.out.alloc _) (by have:=hst.out.ok.b1;omega) (by have:=hst.out.ok.p1;omega) (by have:=hst.out.ok.l1;omega))
    clear hs3 k3 hst hkr lr cr fr
    go_wp2_with fail
    exact⟨⟨3,s',ov',by decide,by go_num,HE.out,hs4.out,yN.out⟩,by simp[intOf]⟩
  ·have HF:=vN (BO (k:=0) hlk.out)
   obtain⟨j3,e3⟩:=HF.o3
   obtain⟨j4,e4⟩:=HF.o4
   have T3:=Lib.hid (show OL s.o3 from zB vC.out.sold e3)
   have T4:=Lib.hid (show OL s.o4 from zB vC.out.uX e4)
   clear HF e3 e4
   have HE:Hid (looks h (3+1)=if iH h s then some s else none):=by
    show(looks h 3).bind _=_
    rw[hlk.out];rfl
   go_wp2_with fail
   refine(MK (hst.out.alloc _) T3.out T4.out).mono ?_;rintro e w3 ⟨rfl,k3⟩
   have hs3:=Lib.hid ((hst.out.alloc _).tr k3)
   have yN:=Lib.hid ((hkr.out.alloc _).tr k3)
   clear hst hkr lr cr fr k3
   generalize iH h s=bb at*
   rcases bb with _|_
   ·have HE2:Hid (dZ h=none):=iZ (k:=3+1) HE.out (by decide)
    go_wp2_with fail
    go_ret2
    exact .inl ⟨HE2.out,rfl,hs3.out.bel⟩
   ·go_wp2_with fail
    exact⟨⟨3+1,s,ov,by decide,by go_num,HE.out,hs3.out,yN.out⟩,by simp[intOf]⟩
  ·skip
   have HE:Hid (looks h (4+1)=if fM h s then some s else none):=by
    show(looks h 4).bind _=_
    rw[hlk.out];rfl
   go_wp2_with fail
   refine(JE (hst.out.alloc _)).mono ?_;rintro e w3 ⟨rfl,k3⟩
   have hs3:=Lib.hid ((hst.out.alloc _).tr k3)
   have yN:=Lib.hid ((hkr.out.alloc _).tr k3)
   clear hst hkr lr cr fr k3
   generalize fM h s=bb at*
   rcases bb with _|_
   ·have HE2:Hid (dZ h=none):=iZ (k:=4+1) HE.out (by decide)
    go_wp2_with fail
    go_ret2
    exact .inl ⟨HE2.out,rfl,hs3.out.bel⟩
   ·go_wp2_with fail
    exact⟨⟨4+1,s,ov,by decide,by go_num,HE.out,hs3.out,yN.out⟩,by simp[intOf]⟩
  ·skip
   have HE:Hid (looks h (5+1)=if dO h s then some s else none):=by
    show(looks h 5).bind _=_
    rw[hlk.out];rfl
   go_wp2_with fail
   refine(EY (hst.out.alloc _)).mono ?_;rintro e w3 ⟨rfl,k3⟩
   have hs3:=Lib.hid ((hst.out.alloc _).tr k3)
   have yN:=Lib.hid ((hkr.out.alloc _).tr k3)
   clear hst hkr lr cr fr k3
   generalize dO h s=bb at*
   rcases bb with _|_
   ·have HE2:Hid (dZ h=none):=iZ (k:=5+1) HE.out (by decide)
    go_wp2_with fail
    go_ret2
    exact .inl ⟨HE2.out,rfl,hs3.out.bel⟩
   ·go_wp2_with fail
    exact⟨⟨5+1,s,ov,by decide,by go_num,HE.out,hs3.out,yN.out⟩,by simp[intOf]⟩
  ·skip
   have HE:Hid (looks h (6+1)=if leftB h s then some s else none):=by
    show(looks h 6).bind _=_
    rw[hlk.out];rfl
   go_wp2_with fail
   refine(UZ (hst.out.alloc _)).mono ?_;rintro e w3 ⟨rfl,k3⟩
   have hs3:=Lib.hid ((hst.out.alloc _).tr k3)
   have yN:=Lib.hid ((hkr.out.alloc _).tr k3)
   clear hst hkr lr cr fr k3
   generalize leftB h s=bb at*
   rcases bb with _|_
   ·have HE2:Hid (dZ h=none):=iZ (k:=6+1) HE.out (by decide)
    go_wp2_with fail
    go_ret2
    exact .inl ⟨HE2.out,rfl,hs3.out.bel⟩
   ·go_wp2_with fail
    exact⟨⟨6+1,s,ov,by decide,by go_num,HE.out,hs3.out,yN.out⟩,by simp[intOf]⟩
  ·skip
   have HE:Hid (looks h (7+1)=if kS h s then some s else none):=by
    show(looks h 7).bind _=_
    rw[hlk.out];rfl
   go_wp2_with fail
   refine(QJ (hst.out.alloc _)).mono ?_;rintro e w3 ⟨rfl,k3⟩
   have hs3:=Lib.hid ((hst.out.alloc _).tr k3)
   have yN:=Lib.hid ((hkr.out.alloc _).tr k3)
   clear hst hkr lr cr fr k3
   generalize kS h s=bb at*
   rcases bb with _|_
   ·have HE2:Hid (dZ h=none):=iZ (k:=7+1) HE.out (by decide)
    go_wp2_with fail
    go_ret2
    exact .inl ⟨HE2.out,rfl,hs3.out.bel⟩
   ·go_wp2_with fail
    exact⟨⟨7+1,s,ov,by decide,by go_num,HE.out,hs3.out,yN.out⟩,by simp[intOf]⟩
  ·go_wp2_with fail
   go_ret2
   exact .inr ⟨p,s,ov,hlk.out,rfl,by rw[HVV.out];exact hst.out⟩
end Go.Proofs.YtpgjploaliefdaaGreat.ck
namespace Go.Proofs.YtpgjploaliefdaaGreat.ck
open Go Go.RowKit hp ob hd cp mp cm gr
set_option linter.unusedVariables false
set_option linter.unusedSimpArgs false
set_option maxRecDepth 100000
set_option maxHeartbeats 4000000
variable {w0 w W : World} {p : Pl} {h : Hp} {v : Hv} {s : dS} {ov : Ov}
theorem kY(h:Hp)(v:Hv)(w:World)(hin:kH w h v):Calls Tryz.prog 19 #[fD h v] w λe w'=>e=.returned (.bool (dZ h).isSome)/\Below w.heap.size w w':=by
 have HL:Hid (∀W,kH W h v->Calls Tryz.prog 54 #[fD h v] W λe w'=>Es W h v e w'):=Lib.hid λW hin=>JM h v W hin
 have vC:=Lib.hid hin
 obtain⟨la,lc,e1⟩:=ay hin.low
 obtain⟨ha,hc,e2⟩:=ay hin.high
 obtain⟨oa,oc,e3⟩:=ay hin.old
 obtain⟨fa,fc,e4⟩:=ay hin.far
 obtain⟨ra,rc,e5⟩:=ay hin.roots
 clear hin
 obtain⟨vl,vh,vo,vf,vr⟩:=v
 dsimp only at e1 e2 e3 e4 e5
 subst e1 e2 e3 e4 e5
 unfold fD at*
 dsimp only at*
 have HI1:=Lib.hid (vC.out.tr ((Below.refl _ _).alloc (Nat.le_refl _) (.cells #[.int .u64 h.base,.int .i64 h.cap,.int .i64 h.tt,.bool h.dJ,.int .i64 h.scan,.slice la h.low.length lc,.slice ha h.high.length hc,.slice oa h.old.length oc,.slice fa h.far.length fc,.slice ra h.roots.length rc] 32)))
 have HR:Hid ((dZ h).isSome=(dZ h).isSome):=rfl
 generalize hRR:(dZ h).isSome=R at*
 have HRR:=Lib.hid hRR
 clear HR hRR
 go_enter Tryz.func19,Tryz.ntmps19
 go_wp2_with fail
 refine(HL.out _ HI1.out).mono ?_
 rintro e w1 (⟨hn,rfl,hb⟩|⟨p,s,ov,hn,rfl,hst⟩)
 ·obtain rfl:R=false:=by rw[<-HRR.out,hn];rfl
  have HB:=Lib.hid hb
  clear hn hb
  go_wp2_with fail
  go_ret
  refine⟨rfl,?_⟩
  have:=HB.out
  exact bm
 ·obtain rfl:R=true:=by rw[<-HRR.out,hn];rfl
  have HB:=Lib.hid hst.bel
  clear hn hst
  go_wp2_with fail
  go_ret
  refine⟨rfl,?_⟩
  have:=HB.out
  exact bm
def U4(w:World)(h:Hp)(q:Nat)(e:Ending)(w':World):Prop:=
 (dZ h=none/\e=.returned (.tuple #[.slice none 0 0,.int .i64 1]))\/(∃s u,dZ h=some s/\e=.returned (.tuple #[u,.int .i64 0])/\cu w' w.heap.size u (s.obs q))
theorem JO(h:Hp)(v:Hv)(q:Nat)(hq:1<=q/\q<=4)(w:World)(hin:kH w h v):Calls Tryz.prog 28 #[fD h v,.int .i64 q] w λe w'=>U4 w h q e w'/\Below w.heap.size w w':=by
 have HL:Hid (∀W,kH W h v->Calls Tryz.prog 54 #[fD h v] W λe w'=>Es W h v e w'):=Lib.hid λW hin=>JM h v W hin
 have vC:=Lib.hid hin
 obtain⟨la,lc,e1⟩:=ay hin.low
 obtain⟨ha,hc,e2⟩:=ay hin.high
 obtain⟨oa,oc,e3⟩:=ay hin.old
 obtain⟨fa,fc,e4⟩:=ay hin.far
 obtain⟨ra,rc,e5⟩:=ay hin.roots
 clear hin
 obtain⟨vl,vh,vo,vf,vr⟩:=v
 dsimp only at e1 e2 e3 e4 e5
 subst e1 e2 e3 e4 e5
 unfold fD at*
 dsimp only at*
 have HI1:=Lib.hid (vC.out.tr ((Below.refl _ _).alloc (Nat.le_refl _) (.cells #[.int .u64 h.base,.int .i64 h.cap,.int .i64 h.tt,.bool h.dJ,.int .i64 h.scan,.slice la h.low.length lc,.slice ha h.high.length hc,.slice oa h.old.length oc,.slice fa h.far.length fc,.slice ra h.roots.length rc] 32)))
 obtain⟨hq1,hq2⟩:=hq
 have i1:¬(q:Int)<1:=by omega
 have i2:¬(4:Int)<q:=by omega
 go_enter Tryz.func28,Tryz.ntmps28
 go_wp2_with fail
 refine(HL.out _ HI1.out).mono ?_
 rintro e w1 (⟨hn,rfl,hb⟩|⟨p,s,ov,hn,rfl,hst⟩)
 ·have HB:=Lib.hid hb
  have HN:=Lib.hid hn
  clear hn hb
  go_wp2_with fail
  go_ret2
  refine⟨.inl ⟨HN.out,rfl⟩,?_⟩
  have:=HB.out
  exact bm
 ·have HB:=Lib.hid hst.bel
  have HN:=Lib.hid hn
  have HS:=Lib.hid hst
  obtain⟨lb,cb,fb⟩:=hst.blk.get
  have hcq:w1.cell? ⟨p.b,17+(q-1),none⟩=some (ov.part q):=(cb _).trans (zQ _ _ _ _ _ _ ⟨hq1,hq2⟩)
  obtain⟨Gh,oc',eo⟩:=zy (hst.obs q).1
  rw[eo]at hcq
  clear hn hst cb fb
  go_wp2_with fail
  go_ret2
  refine⟨.inr ⟨s,_,HN.out,rfl,?_⟩,?_⟩
  ·rw[<-eo]
   have h1:=HS.out.ok.b0
   have h2:=HS.out.ok.b1
   exact vZ (HS.out.obs q).1 (by simp at h1;omega)
  ·have:=HB.out
   exact bm
end Go.Proofs.YtpgjploaliefdaaGreat.ck
