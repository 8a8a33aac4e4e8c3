/- The document's layer 11: Parts. No conditions. -/
import Derived.Test.YtpgjploaliefdaaGreatG10
import Derived.Test.YtpgjploaliefdaaGreatG13
import Derived.Test.YtpgjploaliefdaaGreatG07
import Derived.Test.YtpgjploaliefdaaGreatG08
import Derived.Test.YtpgjploaliefdaaGreatG14
import Derived.Test.YtpgjploaliefdaaGreatG05
import Derived.Deep.CutBlock
import Derived.Deep.DeepCutAuto
import Derived.Deep.CutRange
namespace Go.Proofs.YtpgjploaliefdaaGreat.rf
open Go Go.RowKit hp ob hd cp ck gr lx rh
set_option linter.unusedVariables false
set_option linter.unusedSimpArgs false
set_option maxRecDepth 100000
set_option maxHeartbeats 4000000
theorem QZ{W:World}{v:Value}{ss:List (Int×Int)}(h:fH 2 AZ W v ss)(h0:0<W.heap.size)(hl:ss.length<1000000000000):dV W v ss:=by
 obtain⟨ad,b,off,cap,rfl,h1,h2,h3,h4,h5,h6⟩:=h.form
 rcases Nat.eq_zero_or_pos ss.length with hz|hz
 ·have:ss=[]:=List.eq_nil_of_length_eq_zero hz
  subst this
  exact⟨ad,0,0,cap,rfl,⟨λh=>by simp at h,h2⟩,Nat.zero_le _,by first|exact⟨h4,hl⟩|exact h4,h0,cZ.none _ _ _ _⟩
 ·have:=h1 hz
  subst this
  refine⟨_,b,off,cap,rfl,⟨λ_=>rfl,h2⟩,h3,by first|exact⟨h4,hl⟩|exact h4,h5 hz,?_⟩
  unfold cZ
  intro i hi
  have h7:=h6.at (i:=i) (x:=ss[i]) (List.getElem?_eq_getElem hi)
  have h8:ss.getD i (0,0)=ss[i]:=by simp[List.getD,hi]
  rw[h8]
  exact⟨h7 0 _ rfl,h7 1 _ rfl⟩
theorem Ig{L:Lay}{low:List Ob}{zs:List Int}:∀{f i:Nat}{acc ss:List (Int×Int)},fV L low zs f i acc=some ss->ss.length<=acc.length+f
 |0,i,acc,ss,h=>by cases h
 |f+1,i,acc,ss,h=>by
  unfold fV at h
  split at h
  ·split at h
   ·split at h
    ·cases h
    ·have:=Ig h
     rw[List.length_append,List.length_singleton]at this
     omega
   ·split at h
    ·have:=Ig h
     omega
    ·cases h
  ·cases h
   omega
def Ve(r:TI)(e:Ending)(w':World):Prop:=∃(a:Option Addr)(n c:Nat)(E:Int)(l:List Ob),e=.returned (.tuple #[.slice a n c,.int .i64 E])/\bT w' (.slice a n c) l/\((E=0/\∃k,r=.ok l k)\/(E≠0/\∃c k,r=.err c k))
theorem Ih{B:Nat}{r:TI}{e:Ending}{W:World}(h:jk B r e W)(h0:0<W.heap.size)(h1:∀l k,r=.ok l k->l.length<1000000000000)(h2:∀c k,r=.err c k->c≠0):Ve r e W:=by
 rcases r with⟨l,k⟩|⟨c,k⟩
 ·obtain⟨v,rfl,ho⟩:=h
  have hin:=nV ho h0 (h1 l k rfl)
  obtain⟨va,vc,rfl⟩:=zy ho
  exact⟨va,_,vc,0,l,rfl,hin,.inl ⟨rfl,k,rfl⟩⟩
 ·obtain rfl:e=_:=h
  exact⟨none,0,0,c,[],rfl,bT.nil h0,.inr ⟨h2 c k rfl,c,k,rfl⟩⟩
def ShR(r:Option (List (Int×Int)))(e:Ending)(w':World):Prop:=∃(a:Option Addr)(n c:Nat)(b:Bool)(ss:List (Int×Int)),e=.returned (.tuple #[.slice a n c,.bool b])/\dV w' (.slice a n c) ss/\ss.length<1000000/\((b=true/\r=some ss)\/(b=false/\r=none))
theorem Vf{B:Nat}{L:Lay}{low:List Ob}{zs:List Int}{e:Ending}{W:World}(h:UD B (Ot L low zs) e W)(h0:0<W.heap.size)(hl:zs.length<900000):ShR (Ot L low zs) e W:=by
 cases k:Ot L low zs with
 |none=>
  rw[k]at h
  obtain rfl:e=_:=h
  exact⟨none,0,0,false,[],rfl,dV.nil h0,by simp,.inr ⟨rfl,rfl⟩⟩
 |some ss=>
  rw[k]at h
  obtain⟨X,rfl,ho⟩:=h
  have hle:=Ig k
  simp only[List.length_nil]at hle
  have hin:=QZ (ho.sees zM) h0 (by omega)
  obtain⟨va,vl,vc,rfl⟩:=aH ho zM
  exact⟨va,vl,vc,true,ss,rfl,hin,by omega,.inl ⟨rfl,rfl⟩⟩
def Gi(r:Option P4)(e:Ending)(w':World):Prop:=
 match r with
 |some s=>∃b,e=.returned (.tuple #[.slice (some ⟨b,0,none⟩) 5 5,.bool true])/\Ba w' (.slice (some ⟨b,0,none⟩) 5 5) s
 |none=>e=.returned (.tuple #[.slice none 0 0,.bool false])
theorem jL{W:World}{h:Hp}{v:Hv}(a:kH W h v):∃la lc ha hc oa oc fa fc ra rc,v=⟨.slice la h.low.length lc,.slice ha h.high.length hc,.slice oa h.old.length oc,.slice fa h.far.length fc,.slice ra h.roots.length rc⟩:=by
 obtain⟨vl,vh,vo,vf,vr⟩:=v
 obtain⟨_,_,_,_,h1,h2,h3,h4,h5,_,_,_,_,_⟩:=a
 obtain⟨_,_,_,_,e1,_⟩:=(dX h1).form
 obtain⟨_,_,_,_,e2,_⟩:=(dX h2).form
 obtain⟨_,_,_,_,e3,_⟩:=(dX h3).form
 obtain⟨_,_,_,_,e4,_⟩:=(dX h4).form
 obtain⟨_,_,_,_,e5,_⟩:=(dX h5).form
 exact⟨_,_,_,_,_,_,_,_,_,_,by rw[Hv.mk.injEq];exact⟨e1,e2,e3,e4,e5⟩⟩
theorem Ey{W:World}{h:Hp}{v:Hv}(a:kH W h v):HF h v:=by
 obtain⟨la,lc,ha,hc,oa,oc,fa,fc,ra,rc,rfl⟩:=jL a
 exact⟨⟨_,_,rfl⟩,⟨_,_,rfl⟩,⟨_,_,rfl⟩,⟨_,_,rfl⟩,⟨_,_,_,rfl⟩⟩
theorem Vg{W:World}{v:Value}{zs:List Int}(h:aN W v zs):0<W.heap.size:=by
 obtain⟨_,_,_,_,_,_,_,_,h5,_⟩:=h
 omega
theorem Gj(h:Hp)(v:Hv)(w:World)(hin:kH w h v)(hr:fZ h.lay=true)(hl:∀q,(h.part q).length<100000):
  Calls Tryz.prog 62 #[fD h v] w λe w'=>Gi (kT h) e w'/\Below w.heap.size w w':=by
 have hf:=Ey hin
 have h0:∀{W:World},Below w.heap.size w W->0<W.heap.size:=λhb=>Nat.lt_of_lt_of_le (Vg hin.low) hb.size
 have hl1:h.low.length<100000:=hl 1
 have hl2:h.high.length<100000:=hl 2
 have hl3:h.old.length<100000:=hl 3
 have hl4:h.far.length<100000:=hl 4
 have HW1:Hid (∀W,Below w.heap.size w W->Calls Tryz.prog 88 #[v.l] W λe w'=>Ve (newF h.low) e w'/\Below W.heap.size W w'):=Lib.hid λW hb=>(Em v.l h.low W (hin.low.tr hb) hin.slow (by omega)).mono λe w' k=>⟨Ih k.1 (h0 (au hb k.2)) (λl j e=>by have:=(nY e).2;omega) (λc j e=>zT e),k.2⟩
 have HW2:Hid (∀W,Below w.heap.size w W->Calls Tryz.prog 88 #[v.h] W λe w'=>Ve (newF h.high) e w'/\Below W.heap.size W w'):=Lib.hid λW hb=>(Em v.h h.high W (hin.high.tr hb) hin.oM (by omega)).mono λe w' k=>⟨Ih k.1 (h0 (au hb k.2)) (λl j e=>by have:=(nY e).2;omega) (λc j e=>zT e),k.2⟩
 have HS:Hid (∀W lv l k,Below w.heap.size w W->bT W lv l->newF h.low=.ok l k->(Calls Tryz.prog 89 #[fD h v,v.o,lv] W λe w'=>ShR (Ot h.lay l h.old) e w'/\Below W.heap.size W w')/\Calls Tryz.prog 89 #[fD h v,v.f,lv] W λe w'=>ShR (Ot h.lay l h.far) e w'/\Below W.heap.size W w'):=Lib.hid λW lv l k hb ho e=>by
  have hfit:∀o∈l,(0<=o.pos/\o.pos<jG h.lay 1)/\0<=o.s/\o.s<=255:=λo k=>by
   obtain⟨c1,c2,c3,c4,c5,c6⟩:=(nY e).1 o k
   have:jG h.lay 1=h.low.length:=xB h 1 (by omega)
   omega
  exact⟨(uy h v v.o lv h.old l W hf hr (hin.old.tr hb) hin.sold (by omega) ho hfit).mono λe w' k=>⟨Vf k.1 (h0 (au hb k.2)) (by omega),k.2⟩,(uy h v v.f lv h.far l W hf hr (hin.far.tr hb) hin.uX (by omega) ho hfit).mono λe w' k=>⟨Vf k.1 (h0 (au hb k.2)) (by omega),k.2⟩⟩
 have HO:Hid (∀W p ss,Below w.heap.size w W->dV W p ss->ss.length<1000000->(Calls Tryz.prog 13 #[v.o,p] W λe w'=>Ve (iq h.old ss) e w'/\Below W.heap.size W w')/\Calls Tryz.prog 13 #[v.f,p] W λe w'=>Ve (iq h.far ss) e w'/\Below W.heap.size W w'):=Lib.hid λW p ss hb hs hn=>
  ⟨(rM v.o p h.old ss W (hin.old.tr hb) hin.sold hs (by omega) hn).mono λe w' k=>⟨Ih k.1 (h0 (au hb k.2)) (λl j e=>by have:=(nZ e).2;omega) (λc j e=>zS e),k.2⟩,(rM v.f p h.far ss W (hin.far.tr hb) hin.uX hs (by omega) hn).mono λe w' k=>⟨Ih k.1 (h0 (au hb k.2)) (λl j e=>by have:=(nZ e).2;omega) (λc j e=>zS e),k.2⟩⟩
 obtain⟨la,lc,ha,hc,oa,oc,fa,fc,ra,rc,rfl⟩:=jL hin
 clear hin hf hr hl h0 hl1 hl2 hl3 hl4
 unfold fD at*
 dsimp only at*
 have HP:Hid (kT h=match newF h.low,newF h.high with
 | .ok l _,.ok m _=>(match Ot h.lay l h.old,Ot h.lay l h.far with
  |some p,some q=>(match iq h.old p,iq h.far q with
   | .ok o _,.ok f _=>some ⟨l,m,o,f⟩
   |_,_=>none)
  |_,_=>none)
 |_,_=>none):=rfl
 generalize kT h=PR at*
 generalize h.base=B1 at*
 generalize h.cap=C1 at*
 generalize h.tt=T1 at*
 generalize h.dJ=Y1 at*
 generalize h.scan=S1 at*
 generalize h.low.length=m1 at*
 generalize h.high.length=m2 at*
 generalize h.old.length=m3 at*
 generalize h.far.length=m4 at*
 generalize h.roots.length=m5 at*
 go_enter Tryz.func62,Tryz.ntmps62
 go_wp2_with fail
 refine(HW1.out _ bm).mono ?_;rintro e w1 ⟨⟨a1,n1,d1,E1,L1,rfl,i1,r1⟩,k1⟩
 have K1:aj w1 w.heap.size #[Value.int .u64 B1,.int .i64 C1,.int .i64 T1,.bool Y1,.int .i64 S1,.slice la m1 lc,.slice ha m2 hc,.slice oa m3 oc,.slice fa m4 fc,.slice ra m5 rc] 32:=aj.tr (.new _ _ _) k1
 have b1:Below w.heap.size w w1:=bm
 have hi1:=Lib.hid i1
 have hr1:=Lib.hid r1
 clear i1 r1 k1
 obtain⟨lx,cx,fx⟩:=K1.get
 go_wp2_with fail
 refine(HW2.out _ bm).mono ?_;rintro e w2 ⟨⟨a2,n2,d2,E2,L2,rfl,i2,r2⟩,k2⟩
 have K2:=K1.tr k2
 have b2:=au b1 k2
 have hi2:=Lib.hid i2
 have hr2:=Lib.hid r2
 replace hi1:=Lib.hid (hi1.out.tr k2)
 clear i2 r2 k2 lx cx fx b1 K1
 obtain⟨lx,cx,fx⟩:=K2.get
 rcases hr1.out with⟨rfl,j1,e1⟩|⟨hE1,c,j1,e1⟩
 ·rcases hr2.out with⟨rfl,j2,e2⟩|⟨hE2,c,j2,e2⟩
  ·rw[e1,e2]at HP
   dsimp only at HP
   have Y4:=Lib.hid λW(hb:Below w.heap.size w W)(ho:bT W (.slice a1 n1 d1) L1)=>HS.out W _ L1 j1 hb ho e1
   clear e1 e2 hr1 hr2 HS
   go_wp2_with fail
   refine(Y4.out _ bm (hi1.out.tr bm)).1.mono ?_;rintro e w3 ⟨⟨a3,n3,d3,E3,S3,rfl,i3,hlen3,r3⟩,k3⟩
   have K3:=K2.tr k3
   have b3:=au b2 k3
   replace hi1:=Lib.hid (hi1.out.tr k3)
   replace hi2:=Lib.hid (hi2.out.tr k3)
   have hi3:=Lib.hid i3
   have hr3:=Lib.hid r3
   clear i3 r3 k3 lx cx fx b2 K2
   obtain⟨lx,cx,fx⟩:=K3.get
   go_wp2_with fail
   refine(Y4.out _ bm (hi1.out.tr bm)).2.mono ?_;rintro e w4 ⟨⟨a4,n4,d4,E4,S4,rfl,i4,Y5,r4⟩,k4⟩
   have K4:=K3.tr k4
   have b4:=au b3 k4
   replace hi1:=Lib.hid (hi1.out.tr k4)
   replace hi2:=Lib.hid (hi2.out.tr k4)
   replace hi3:=Lib.hid (hi3.out.tr k4)
   have hi4:=Lib.hid i4
   have hr4:=Lib.hid r4
   clear i4 r4 k4 lx cx fx b3 K3 Y4
   obtain⟨lx,cx,fx⟩:=K4.get
   go_wp2_with fail
   refine(HO.out _ _ S3 bm (hi3.out.tr bm) hlen3).1.mono ?_;rintro e w5 ⟨⟨a5,n5,d5,E5,L5,rfl,i5,r5⟩,k5⟩
   have K5:=K4.tr k5
   have b5:=au b4 k5
   replace hi1:=Lib.hid (hi1.out.tr k5)
   replace hi2:=Lib.hid (hi2.out.tr k5)
   replace hi4:=Lib.hid (hi4.out.tr k5)
   have hi5:=Lib.hid i5
   have Iy:=Lib.hid r5
   clear i5 r5 k5 lx cx fx b4 K4
   obtain⟨lx,cx,fx⟩:=K5.get
   go_wp2_with fail
   refine(HO.out _ _ S4 bm (hi4.out.tr bm) Y5).2.mono ?_;rintro e w6 ⟨⟨a6,n6,d6,E6,L6,rfl,i6,r6⟩,k6⟩
   have b6:=au b5 k6
   replace hi1:=Lib.hid (hi1.out.tr k6)
   replace hi2:=Lib.hid (hi2.out.tr k6)
   replace hi5:=Lib.hid (hi5.out.tr k6)
   have hi6:=Lib.hid i6
   have E8:=Lib.hid r6
   clear i6 r6 k6 lx cx fx b5 K5 hi3 hi4 HO hlen3 Y5
   rcases hr3.out with⟨rfl,e3⟩|⟨rfl,e3⟩
   ·rcases hr4.out with⟨rfl,e4⟩|⟨rfl,e4⟩
    ·rw[e3,e4]at HP
     dsimp only at HP
     rcases Iy.out with⟨rfl,j5,e5⟩|⟨hE5,c,j5,e5⟩
     ·rcases E8.out with⟨rfl,j6,e6⟩|⟨hE6,c,j6,e6⟩
      ·rw[e5,e6]at HP
       dsimp only at HP
       clear e3 e4 e5 e6 hr3 hr4 Iy E8
       go_wp2_with fail
       go_ret2
       refine⟨?_,bm⟩
       rw[HP.out]
       have KN:aj (w6.alloc (.cells #[.slice none 0 0,.slice a1 n1 d1,.slice a2 n2 d2,.slice a5 n5 d5,.slice a6 n6 d6] 28)) w6.heap.size _ _:=aj.new _ _ _
       obtain⟨lN,cN,fN⟩:=KN.get
       have bN:Below w6.heap.size w6 (w6.alloc (.cells #[.slice none 0 0,.slice a1 n1 d1,.slice a2 n2 d2,.slice a5 n5 d5,.slice a6 n6 d6] 28)):=bm
       refine⟨w6.heap.size,rfl,w6.heap.size,λx=>if x=1 then .slice a1 n1 d1 else if x=2 then .slice a2 n2 d2 else if x=3 then .slice a5 n5 d5 else .slice a6 n6 d6,rfl,lN,λx h1 h4=> ?_,λx h1 h4=> ?_⟩
       ·rcases(show x=1\/x=2\/x=3\/x=4 by omega)with rfl|rfl|rfl|rfl
        ·exact⟨_,_,_,rfl⟩
        ·exact⟨_,_,_,rfl⟩
        ·exact⟨_,_,_,rfl⟩
        ·exact⟨_,_,_,rfl⟩
       ·rcases(show x=1\/x=2\/x=3\/x=4 by omega)with rfl|rfl|rfl|rfl
        ·exact⟨cN 1,hi1.out.tr bN⟩
        ·exact⟨cN 2,hi2.out.tr bN⟩
        ·exact⟨cN 3,hi5.out.tr bN⟩
        ·exact⟨cN 4,hi6.out.tr bN⟩
      ·rw[e5,e6]at HP
       clear e3 e4 e5 e6 hr3 hr4 Iy E8
       go_wp2_with fail
       go_ret2
       exact⟨by rw[HP.out];rfl,bm⟩
     ·rw[e5]at HP
      clear e3 e4 e5 hr3 hr4 Iy E8
      go_wp2_with fail
      go_ret2
      exact⟨by rw[HP.out];rfl,bm⟩
    ·rw[e3,e4]at HP
     clear e3 e4 hr3 hr4 Iy E8
     go_wp2_with fail
     go_ret2
     exact⟨by rw[HP.out];rfl,bm⟩
   ·rw[e3]at HP
    clear e3 hr3 hr4 Iy E8
    go_wp2_with fail
    go_ret2
    exact⟨by rw[HP.out];rfl,bm⟩
  ·rw[e1,e2]at HP
   clear e1 e2 hr1 hr2
   go_wp2_with fail
   go_ret2
   exact⟨by rw[HP.out];rfl,bm⟩
 ·rw[e1]at HP
  clear e1 hr1 hr2
  go_wp2_with fail
  go_ret2
  exact⟨by rw[HP.out];rfl,bm⟩
end Go.Proofs.YtpgjploaliefdaaGreat.rf
namespace Go.Proofs.YtpgjploaliefdaaGreat.rf
open Go Go.RowKit hp ob hd cp ck gr lx rh
set_option linter.unusedVariables false
set_option linter.unusedSimpArgs false
set_option maxRecDepth 100000
set_option maxHeartbeats 4000000
theorem Nb(L:Lay)(w:World)(hb:Og L.base)(hc:I64 L.cap)(ht:I64 L.tt)(hl:(0<=L.low/\L.low<1000000000000)/\(0<=L.high/\L.high<1000000000000)/\(0<=L.old/\L.old<1000000000000)/\(0<=L.far/\L.far<1000000000000)):
  Calls Tryz.prog 87 #[eY L] w λe w'=>e=.returned (.bool (fZ L))/\Below w.heap.size w w':=by
 by_cases hr:fZ L=true
 ·rw[hr]
  exact FX L w hr
 obtain⟨base,cap,tt,low,high,old,far⟩:=L
 obtain⟨a1,a2⟩:=hb
 obtain⟨b1,b2⟩:=hc
 obtain⟨c1,c2⟩:=ht
 obtain⟨⟨d1,d2⟩,⟨e1,e2⟩,⟨f1,f2⟩,⟨g1,g2⟩⟩:=hl
 dsimp only at a1 a2 b1 b2 c1 c2 d1 d2 e1 e2 f1 f2 g1 g2
 unfold eY
 dsimp only
 have HR:Hid (fZ ⟨base,cap,tt,low,high,old,far⟩=decide (0<=cap/\cap<=4096/\1<=base/\base<=9223372036854775808-2*cap/\(tt=0\/tt=1)/\(0<=low/\0<=high/\low+high<=cap)/\(0<=old/\0<=far/\old+far<=cap))):=rfl
 have HN:=Lib.hid hr
 clear hr
 rcases Int.lt_or_le base 1 with h3|h3
 ·go_enter Tryz.func87,Tryz.ntmps87
  go_wp2_with fail
  all_goals first
   |(exfalso;omega)
   |(go_ret;exact iy (by rw[HR.out];first|exact(decide_eq_false (by omega)).symm|exact decide_eq_decide.2 (by omega)) bm)
 rcases Int.lt_or_le cap 0 with h1|h1
 ·go_enter Tryz.func87,Tryz.ntmps87
  go_wp2_with fail
  all_goals first
   |(exfalso;omega)
   |(go_ret;exact iy (by rw[HR.out];first|exact(decide_eq_false (by omega)).symm|exact decide_eq_decide.2 (by omega)) bm)
 rcases Int.lt_or_le 4096 cap with h2|h2
 ·go_enter Tryz.func87,Tryz.ntmps87
  go_wp2_with fail
  all_goals first
   |(exfalso;omega)
   |(go_ret;exact iy (by rw[HR.out];first|exact(decide_eq_false (by omega)).symm|exact decide_eq_decide.2 (by omega)) bm)
 have w1:IntKind.u64.wrap cap=cap:=IntWalk.u64_in _ (by omega)
 have w2:IntKind.u64.wrap (2*cap)=2*cap:=IntWalk.u64_in _ (by omega)
 have w3:IntKind.u64.wrap (9223372036854775808-2*cap)=9223372036854775808-2*cap:=IntWalk.u64_in _ (by omega)
 rcases Int.lt_or_le (9223372036854775808-2*cap) base with h4|h4
 ·go_enter Tryz.func87,Tryz.ntmps87
  go_wp2_with fail
  all_goals first
   |(exfalso;omega)
   |(go_ret;exact iy (by rw[HR.out];first|exact(decide_eq_false (by omega)).symm|exact decide_eq_decide.2 (by omega)) bm)
 have w4:IntKind.i64.wrap (cap-low)=cap-low:=IntWalk.i64_in _ (by omega)
 have w5:IntKind.i64.wrap (cap-old)=cap-old:=IntWalk.i64_in _ (by omega)
 rcases Int.lt_or_le tt 0 with h5|h5
 ·go_enter Tryz.func87,Tryz.ntmps87
  go_wp2_with fail
  all_goals first
   |(exfalso;omega)
   |(go_ret;exact iy (by rw[HR.out];first|exact(decide_eq_false (by omega)).symm|exact decide_eq_decide.2 (by omega)) bm)
 rcases Int.lt_or_le 1 tt with h6|h6
 ·go_enter Tryz.func87,Tryz.ntmps87
  go_wp2_with fail
  all_goals first
   |(exfalso;omega)
   |(go_ret;exact iy (by rw[HR.out];first|exact(decide_eq_false (by omega)).symm|exact decide_eq_decide.2 (by omega)) bm)
 rcases(show tt=0\/tt=1 by omega)with rfl|rfl
 all_goals
  rcases Int.lt_or_le cap low with h7|h7
  ·go_enter Tryz.func87,Tryz.ntmps87
   go_wp2_with fail
   all_goals first
    |(exfalso;omega)
    |(go_ret;exact iy (by rw[HR.out];first|exact(decide_eq_false (by omega)).symm|exact decide_eq_decide.2 (by omega)) bm)
  rcases Int.lt_or_le (cap-low) high with h8|h8
  ·go_enter Tryz.func87,Tryz.ntmps87
   go_wp2_with fail
   all_goals first
    |(exfalso;omega)
    |(go_ret;exact iy (by rw[HR.out];first|exact(decide_eq_false (by omega)).symm|exact decide_eq_decide.2 (by omega)) bm)
  rcases Int.lt_or_le cap old with h9|h9
  ·go_enter Tryz.func87,Tryz.ntmps87
   go_wp2_with fail
   all_goals first
    |(exfalso;omega)
    |(go_ret;exact iy (by rw[HR.out];first|exact(decide_eq_false (by omega)).symm|exact decide_eq_decide.2 (by omega)) bm)
  rcases Int.lt_or_le (cap-old) far with h10|h10
  ·go_enter Tryz.func87,Tryz.ntmps87
   go_wp2_with fail
   all_goals first
    |(exfalso;omega)
    |(go_ret;exact iy (by rw[HR.out];first|exact(decide_eq_false (by omega)).symm|exact decide_eq_decide.2 (by omega)) bm)
  exfalso
  refine HN.out ?_
  rw[HR.out,decide_eq_true_eq]
  omega
end Go.Proofs.YtpgjploaliefdaaGreat.rf
namespace Go.Proofs.YtpgjploaliefdaaGreat.rf
open Go Go.RowKit hp ob hd cp ck gr lx rh
set_option linter.unusedVariables false
set_option linter.unusedSimpArgs false
set_option maxRecDepth 100000
set_option maxHeartbeats 4000000
theorem JW(h:Hp)(v:Hv)(w:World)(hin:kH w h v):Calls Tryz.prog 61 #[fD h v] w λe w'=>e=.returned (.bool (aZ h&&bW h))/\Below w.heap.size w w':=by
 have hf:=Ey hin
 have HL:Hid (∀W,Calls Tryz.prog 83 #[fD h v] W λe w'=>e=.returned (eY h.lay)/\Below W.heap.size W w'):=Lib.hid λW=>uw h v W hf.l hf.hi hf.o hf.f hf.r
 have n1:=dN hin.low
 have n2:=dN hin.high
 have n3:=dN hin.old
 have n4:=dN hin.far
 have n5:=dN hin.roots
 have HR:Hid (∀W,Calls Tryz.prog 87 #[eY h.lay] W λe w'=>e=.returned (.bool (fZ h.lay))/\Below W.heap.size W w'):=Lib.hid λW=>Nb h.lay W hin.base hin.cap hin.tt (by
  unfold Hp.lay
  dsimp only
  omega)
 have hsc:=hin.scan
 have HS:=Lib.hid hsc
 clear hsc
 have HG:Hid ((aZ h&&bW h)=((fZ h.lay&&decide (h.roots.length<=16/\0<=h.scan/\h.scan<=h.low.length))&&(if h.dJ then decide (h.scan<h.low.length)else decide (h.old.length=0/\h.far.length=0/\h.scan=h.low.length)))):=rfl
 obtain⟨la,lc,ha,hc,oa,oc,fa,fc,ra,rc,rfl⟩:=jL hin
 clear hin hf
 generalize(aZ h&&bW h)=G at*
 generalize fZ h.lay=LR at*
 generalize eY h.lay=LV at*
 unfold fD at*
 dsimp only at*
 generalize h.base=B1 at*
 generalize h.cap=C1 at*
 generalize h.tt=T1 at*
 generalize h.dJ=Y1 at*
 generalize h.scan=S1 at*
 generalize h.low.length=m1 at*
 generalize h.high.length=m2 at*
 generalize h.old.length=m3 at*
 generalize h.far.length=m4 at*
 generalize h.roots.length=m5 at*
 cases LR
 ·go_enter Tryz.func61,Tryz.ntmps61
  go_wp2_with fail
  refine(HL.out _).mono ?_;rintro e w1 ⟨rfl,k1⟩
  have K1:aj w1 w.heap.size _ 32:=aj.tr (.new _ _ _) k1
  obtain⟨lx,cx,fx⟩:=K1.get
  go_wp2_with fail
  refine(HR.out _).mono ?_;rintro e w2 ⟨rfl,k2⟩
  have K2:=K1.tr k2
  obtain⟨ly,cy,fy⟩:=K2.get
  go_wp2_with fail
  all_goals first
   |(exfalso;omega)
   |(go_ret;exact iy (by rw[HG.out];symm;simp;try omega) bm)
 rcases Nat.lt_or_ge 16 m5 with q1|q1
 ·have q1':(16:Int)<(m5:Int):=by omega
  go_enter Tryz.func61,Tryz.ntmps61
  go_wp2_with fail
  refine(HL.out _).mono ?_;rintro e w1 ⟨rfl,k1⟩
  have K1:aj w1 w.heap.size _ 32:=aj.tr (.new _ _ _) k1
  obtain⟨lx,cx,fx⟩:=K1.get
  go_wp2_with fail
  refine(HR.out _).mono ?_;rintro e w2 ⟨rfl,k2⟩
  have K2:=K1.tr k2
  obtain⟨ly,cy,fy⟩:=K2.get
  go_wp2_with fail
  all_goals first
   |(exfalso;omega)
   |(go_ret;exact iy (by rw[HG.out];symm;simp;try omega) bm)
 have q1':¬(16:Int)<(m5:Int):=by omega
 rcases Int.lt_or_le S1 0 with q2|q2
 ·go_enter Tryz.func61,Tryz.ntmps61
  go_wp2_with fail
  refine(HL.out _).mono ?_;rintro e w1 ⟨rfl,k1⟩
  have K1:aj w1 w.heap.size _ 32:=aj.tr (.new _ _ _) k1
  obtain⟨lx,cx,fx⟩:=K1.get
  go_wp2_with fail
  refine(HR.out _).mono ?_;rintro e w2 ⟨rfl,k2⟩
  have K2:=K1.tr k2
  obtain⟨ly,cy,fy⟩:=K2.get
  go_wp2_with fail
  all_goals first
   |(exfalso;omega)
   |(go_ret;exact iy (by rw[HG.out];symm;simp;try omega) bm)
 rcases Int.lt_or_le m1 S1 with q3|q3
 ·go_enter Tryz.func61,Tryz.ntmps61
  go_wp2_with fail
  refine(HL.out _).mono ?_;rintro e w1 ⟨rfl,k1⟩
  have K1:aj w1 w.heap.size _ 32:=aj.tr (.new _ _ _) k1
  obtain⟨lx,cx,fx⟩:=K1.get
  go_wp2_with fail
  refine(HR.out _).mono ?_;rintro e w2 ⟨rfl,k2⟩
  have K2:=K1.tr k2
  obtain⟨ly,cy,fy⟩:=K2.get
  go_wp2_with fail
  all_goals first
   |(exfalso;omega)
   |(go_ret;exact iy (by rw[HG.out];symm;simp;try omega) bm)
 cases Y1
 ·by_cases q4:S1=m1
  ·subst q4
   by_cases q5:m3=0
   ·subst q5
    by_cases q6:m4=0
    ·subst q6
     go_enter Tryz.func61,Tryz.ntmps61
     go_wp2_with fail
     refine(HL.out _).mono ?_;rintro e w1 ⟨rfl,k1⟩
     have K1:aj w1 w.heap.size _ 32:=aj.tr (.new _ _ _) k1
     obtain⟨lx,cx,fx⟩:=K1.get
     go_wp2_with fail
     refine(HR.out _).mono ?_;rintro e w2 ⟨rfl,k2⟩
     have K2:=K1.tr k2
     obtain⟨ly,cy,fy⟩:=K2.get
     go_wp2_with fail
     all_goals first
      |(exfalso;omega)
      |(go_ret;exact iy (by rw[HG.out];symm;simp;try omega) bm)
    ·have q6':((m4:Int)==0)=false:=by rw[beq_eq_false_iff_ne];omega
     go_enter Tryz.func61,Tryz.ntmps61
     go_wp2_with fail
     refine(HL.out _).mono ?_;rintro e w1 ⟨rfl,k1⟩
     have K1:aj w1 w.heap.size _ 32:=aj.tr (.new _ _ _) k1
     obtain⟨lx,cx,fx⟩:=K1.get
     go_wp2_with fail
     refine(HR.out _).mono ?_;rintro e w2 ⟨rfl,k2⟩
     have K2:=K1.tr k2
     obtain⟨ly,cy,fy⟩:=K2.get
     go_wp2_with fail
     all_goals first
      |(exfalso;omega)
      |(go_ret;exact iy (by rw[HG.out];symm;simp;try omega) bm)
   ·have q5':((m3:Int)==0)=false:=by rw[beq_eq_false_iff_ne];omega
    go_enter Tryz.func61,Tryz.ntmps61
    go_wp2_with fail
    refine(HL.out _).mono ?_;rintro e w1 ⟨rfl,k1⟩
    have K1:aj w1 w.heap.size _ 32:=aj.tr (.new _ _ _) k1
    obtain⟨lx,cx,fx⟩:=K1.get
    go_wp2_with fail
    refine(HR.out _).mono ?_;rintro e w2 ⟨rfl,k2⟩
    have K2:=K1.tr k2
    obtain⟨ly,cy,fy⟩:=K2.get
    go_wp2_with fail
    all_goals first
     |(exfalso;omega)
     |(go_ret;exact iy (by rw[HG.out];symm;simp;try omega) bm)
  ·go_enter Tryz.func61,Tryz.ntmps61
   go_wp2_with fail
   refine(HL.out _).mono ?_;rintro e w1 ⟨rfl,k1⟩
   have K1:aj w1 w.heap.size _ 32:=aj.tr (.new _ _ _) k1
   obtain⟨lx,cx,fx⟩:=K1.get
   go_wp2_with fail
   refine(HR.out _).mono ?_;rintro e w2 ⟨rfl,k2⟩
   have K2:=K1.tr k2
   obtain⟨ly,cy,fy⟩:=K2.get
   go_wp2_with fail
   all_goals first
    |(exfalso;omega)
    |(go_ret;exact iy (by rw[HG.out];symm;simp;try omega) bm)
 ·go_enter Tryz.func61,Tryz.ntmps61
  go_wp2_with fail
  refine(HL.out _).mono ?_;rintro e w1 ⟨rfl,k1⟩
  have K1:aj w1 w.heap.size _ 32:=aj.tr (.new _ _ _) k1
  obtain⟨lx,cx,fx⟩:=K1.get
  go_wp2_with fail
  refine(HR.out _).mono ?_;rintro e w2 ⟨rfl,k2⟩
  have K2:=K1.tr k2
  obtain⟨ly,cy,fy⟩:=K2.get
  go_wp2_with fail
  all_goals first
   |(exfalso;omega)
   |(go_ret;exact iy (by rw[HG.out];symm;simp;try omega) bm)
end Go.Proofs.YtpgjploaliefdaaGreat.rf
namespace Go.Proofs.YtpgjploaliefdaaGreat.rf
open Go Go.RowKit hp ob hd cp ck gr lx rh
set_option linter.unusedVariables false
set_option linter.unusedSimpArgs false
set_option maxRecDepth 100000
set_option maxHeartbeats 4000000
def XW(h:Hp)(s:P4)(p:Nat)(o:Ob)(i:Nat):Bool:=qj h s p (o.pos+1+i) ((h.part p).getD (o.pos.toNat+1+i) 0)
def Vh(h:Hp)(s:P4)(p:Nat)(o:Ob):Bool:=(List.range o.p.toNat).all (XW h s p o)
theorem JX{os:List Ob}{F:Ob->Bool}{k:Nat}(h:k<os.length):(os.drop k).all F=(F (dL os k)&&(os.drop (k+1)).all F):=by
 rw[tN h,List.all_cons]
theorem jh(h:Hp)(v:Hv)(u:Value)(s:P4)(p:Nat)(w:World)(hin:kH w h v)(hr:fZ h.lay=true)(hp:1<=p/\p<=4)(hu:Ba w u s)(hst:Stand h s)(hl:∀q,(h.part q).length<100000)(hfit:∀o∈s.obs p,lM (h.part p).length o):
  Calls Tryz.prog 66 #[fD h v,u,.int .i64 p] w λe w'=>e=.returned (.bool (gZ h s p))/\Below w.heap.size w w':=by
 have hf:=Ey hin
 have HG1:Hid (∀W z,0<=z/\z<18446744073709551616->Below w.heap.size w W->Calls Tryz.prog 65 #[fD h v,u,.int .u64 z,.int .i64 1,.int .i64 2] W λe w'=>e=.returned (.bool (dU h.lay s z 1 2))/\Below W.heap.size W w'):=Lib.hid λW z hz hb=>Eb h v u s 1 2 z W hf hr (by omega) (by omega) (hu.tr hb) hst hz
 have HG3:Hid (∀W z,0<=z/\z<18446744073709551616->Below w.heap.size w W->Calls Tryz.prog 65 #[fD h v,u,.int .u64 z,.int .i64 3,.int .i64 4] W λe w'=>e=.returned (.bool (dU h.lay s z 3 4))/\Below W.heap.size W w'):=Lib.hid λW z hz hb=>Eb h v u s 3 4 z W hf hr (by omega) (by omega) (hu.tr hb) hst hz
 have hlp:=hl p
 obtain⟨hn,hsm⟩:=hin.part p
 obtain⟨wa,wb,wo,wc,ew,⟨w1,w2⟩,w3,w4,w5,w6⟩:=hn
 have Iw:Hid (∀W,Calls Tryz.prog 24 #[fD h v,.int .i64 p] W λe w'=>e=.returned (.slice wa (h.part p).length wc)/\Below W.heap.size W w'):=Lib.hid λW=>by rw[<-ew];exact qA h v p hp W hf.sf
 obtain⟨b,vs,rfl,hb,hvs,hcs⟩:=hu
 obtain⟨hc0,hob⟩:=hcs p hp.1 hp.2
 obtain⟨ad,Y6,oo,cap,ev,⟨a1,a2⟩,a3,a4,a5,a6⟩:=hob
 rw[ev]at hc0
 have HWS:=Lib.hid w6
 have HWA:=Lib.hid w1
 have Nc:=Lib.hid a1
 have HOS:=Lib.hid a6
 have Qu:=Lib.hid hsm
 have HFT:Hid (∀k,k<(s.obs p).length->lM (h.part p).length (dL (s.obs p) k)):=Lib.hid λk hk=>hfit _ (by unfold dL;rw[List.getD_eq_getElem?_getD,List.getElem?_eq_getElem hk];exact List.getElem_mem hk)
 have HR0:Hid (gZ h s p=(s.obs p).all (Vh h s p)):=rfl
 have HPF:Hid (∀o i,XW h s p o i=qj h s p (o.pos+1+i) ((h.part p).getD (o.pos.toNat+1+i) 0)):=Lib.hid λo i=>rfl
 have Bj:Hid (∀k z,qj h s p k z=if 2<p then dU h.lay s z 3 4 else if p=1/\h.scan<=k then(dU h.lay s z 1 2||dU h.lay s z 3 4)else dU h.lay s z 1 2):=Lib.hid λk z=>rfl
 have HFD:Hid (∀o,Vh h s p o=(List.range o.p.toNat).all (XW h s p o)):=Lib.hid λo=>rfl
 generalize hFF:Vh h s p=FF at*
 generalize ag3:XW h s p=PF at*
 have hp5:(p:Int)<5:=by omega
 obtain⟨la,lc,ha,hc,oa,oc,fa,fc,ra,rc,rfl⟩:=jL hin
 clear hin hf hr hst hl hfit hsm w1 w2 w6 a1 a2 a6 hvs hcs ev hFF ag3
 rw[HR0.out]
 clear HR0
 unfold fD at*
 dsimp only at*
 generalize(λz=>dU h.lay s z 1 2)=dummy at*
 generalize hG1:(λz=>dU h.lay s z 1 2)=g1 at*
 generalize hG3:(λz=>dU h.lay s z 3 4)=g3 at*
 have e1:∀z,dU h.lay s z 1 2=g1 z:=λz=>by rw[<-hG1]
 have e3:∀z,dU h.lay s z 3 4=g3 z:=λz=>by rw[<-hG3]
 simp only[e1,e3]at HG1 HG3 Bj
 generalize hok:(λk z=>qj h s p k z)=ok at*
 have eok:∀k z,qj h s p k z=ok k z:=λk z=>by rw[<-hok]
 simp only[eok]at Bj HPF
 clear e1 e3 hG1 hG3 hok eok
 generalize s.obs p=os at*
 generalize h.part p=zs at*
 generalize h.base=B1 at*
 generalize h.cap=C1 at*
 generalize h.tt=T1 at*
 generalize h.dJ=Y1 at*
 generalize h.scan=S1 at*
 generalize h.low.length=m1 at*
 generalize h.high.length=m2 at*
 generalize h.old.length=m3 at*
 generalize h.far.length=m4 at*
 generalize h.roots.length=m5 at*
 have HAD:Hid (∀k,k<os.length->(os.drop k).all FF=(FF (dL os k)&&(os.drop (k+1)).all FF)):=Lib.hid λk hk=>JX hk
 have HAE:Hid ((os.drop os.length).all FF=true):=Lib.hid (by rw[List.drop_length];rfl)
 generalize hn:os.length=n at*
 generalize hN:zs.length=N at*
 have HN:=Lib.hid hn
 have HNN:=Lib.hid hN
 clear hn hN
 generalize hAL:(λk=>(os.drop k).all FF)=AL at*
 have eAL:∀k,(os.drop k).all FF=AL k:=λk=>by rw[<-hAL]
 have e0:os.all FF=AL 0:=by rw[<-hAL];rfl
 simp only[eAL]at HAD HAE
 rw[e0]
 clear e0 eAL hAL
 go_enter Tryz.func66,Tryz.ntmps66
 go_wp2_with fail
 refine(Iw.out _).mono ?_;rintro e W0 ⟨rfl,k0⟩
 have K0:aj W0 w.heap.size #[Value.int .u64 B1,.int .i64 C1,.int .i64 T1,.bool Y1,.int .i64 S1,.slice la m1 lc,.slice ha m2 hc,.slice oa m3 oc,.slice fa m4 fc,.slice ra m5 rc] 32:=aj.tr (.new _ _ _) k0
 have b0:Below w.heap.size w W0:=bm
 have hK0:=Lib.hid K0
 have hb0:=Lib.hid b0
 clear K0 k0 b0
 go_wp2_with fail
 go_loopw [8] (λi wr=>∃k:Nat,k<=n/\i=.int .i64 k/\Hid (AL 0=AL k)/\Below W0.heap.size W0 wr) (λi _=>n-(intOf i).toNat)
 case atStart=>exact⟨0,Nat.zero_le _,rfl,Lib.hid rfl,Below.refl _ _⟩
 case round=>
  obtain⟨k,hk,rfl,hal,bel⟩:=hrel
  have bw:Below w.heap.size w wr:=au hb0.out bel
  have hcell:=ah bw hc0
  by_cases hlt:k<n
  ·obtain rfl:=Nc.out (by omega)
   have hxk:=(HOS.out.block (bw.block Y6 a5)).at k hlt
   have hfk:=HFT.out k hlt
   have hAk:=Lib.hid (hal.out.trans (HAD.out k hlt))
   generalize dL os k=o at*
   have aaA:=Lib.hid (HFD.out o)
   have ado:=Lib.hid (HPF.out o)
   generalize hfo:FF o=FO at*
   clear hfo
   obtain⟨p0,s0,q0,g0,t0⟩:=o
   obtain⟨f1,f2,f3,f4,f5,f6⟩:=hfk
   dsimp only at f1 f2 f3 f4 f5 f6 aaA ado
   obtain⟨x0,x1,x2,x3,x4⟩:=hxk
   dsimp only at x0 x1 x2 x3 x4
   obtain⟨a,rfl⟩:=Int.eq_ofNat_of_zero_le f1
   obtain⟨P,rfl⟩:=Int.eq_ofNat_of_zero_le f4
   obtain⟨A1,hA1⟩:∃m,a+1=m:=⟨_,rfl⟩
   obtain⟨BB,hBB⟩:∃m,a+1+P=m:=⟨_,rfl⟩
   have hw1:IntKind.i64.wrap ((a:Int)+1)=(A1:Int):=by rw[IntWalk.i64_in _ (by omega)];omega
   have hw2:IntKind.i64.wrap ((A1:Int)+(P:Int))=(BB:Int):=by rw[IntWalk.i64_in _ (by omega)];omega
   have hab:A1<=BB:=by omega
   have hbN:BB<=N:=by omega
   have HAB:=Lib.hid (And.intro hA1 hBB)
   clear hA1 hBB f1 f2 f3 f4 f5 f6
   go_upto_region 6 with(fail)
   have KO:aj (wr.alloc (.cells #[.int .i64 a,.int .i64 s0,.int .i64 P,.bool g0,.int .u64 t0] 58)) wr.heap.size #[.int .i64 a,.int .i64 s0,.int .i64 P,.bool g0,.int .u64 t0] 58:=aj.new _ _ _
   have K1:=(hK0.out.tr bel).alloc (.cells #[.int .i64 a,.int .i64 s0,.int .i64 P,.bool g0,.int .u64 t0] 58)
   have bw1:Below w.heap.size w (wr.alloc (.cells #[.int .i64 a,.int .i64 s0,.int .i64 P,.bool g0,.int .u64 t0] 58)):=gu bw _
   have bW1:Below W0.heap.size W0 (wr.alloc (.cells #[.int .i64 a,.int .i64 s0,.int .i64 P,.bool g0,.int .u64 t0] 58)):=gu bel _
   obtain⟨ob2,adp⟩:∃m,wr.heap.size=m:=⟨_,rfl⟩
   rw[adp]at KO⊢
   clear adp x0 x1 x2 x3 x4 hcell
   generalize wr.alloc (.cells #[.int .i64 a,.int .i64 s0,.int .i64 P,.bool g0,.int .u64 t0] 58)=w1 at*
   have HKO:=Lib.hid KO
   have HK1:=Lib.hid K1
   have HBW:=Lib.hid bw1
   have ag5:=Lib.hid bW1
   obtain⟨lO,cO,fO⟩:=KO.get
   clear KO K1 bw1 bW1 bel bw
   go_wp2_with fail
   go_loopw [10] (λi ws=>∃K:Nat,(A1<=K/\K<=BB)/\i=.int .i64 K/\Hid (∀j,j<K-A1->PF ⟨(a:Int),s0,(P:Int),g0,t0⟩ j=true)/\Below w1.heap.size w1 ws) (λi _=>BB-(intOf i).toNat)
   case atStart=>exact⟨A1,by omega,rfl,Lib.hid λj hj=>by omega,Below.refl _ _⟩
   case round=>
    obtain⟨K,⟨hK1,hK2⟩,rfl,hall,bel⟩:=hrel
    have KO:=HKO.out.tr bel
    obtain⟨lO,cO,fO⟩:=KO.get
    by_cases hKl:K<BB
    ·obtain rfl:=HWA.out (by omega)
     have bwr:Below w.heap.size w wr:=au HBW.out bel
     have hzc:=ah bwr (HWS.out.at K (by omega))
     have hz:=Qu.out K
     have hpf:PF ⟨(a:Int),s0,(P:Int),g0,t0⟩ (K-A1)=ok K (zs.getD K 0):=by
      obtain⟨h1,h2⟩:=HAB.out
      rw[ado.out]
      rw[show(a:Int)+1+((K-A1:Nat):Int)=(K:Int) by omega,show(a:Int).toNat+1+(K-A1)=K by omega]
     rw[Bj.out]at hpf
     generalize zs.getD K 0=Z at*
     have HGa:=Lib.hid λW hb=>HG1.out W Z hz hb
     have HGb:=Lib.hid λW hb=>HG3.out W Z hz hb
     generalize g1 Z=G1 at*
     generalize g3 Z=G3 at*
     have hpf:=Lib.hid hpf
     have YS:=HK1.out.tr bel
     have hbel:=Lib.hid bel
     obtain⟨l1,c1,f1⟩:=YS.get
     have hKN:(K:Int)<(N:Int):=by omega
     clear bel
     go_upto_region 9 with(fail)
     have aaB:Hid (∀W':World,Below wr.heap.size wr W'->(∀i,W'.cell? ⟨w.heap.size,i,none⟩= #[Value.int .u64 B1,.int .i64 C1,.int .i64 T1,.bool Y1,.int .i64 S1,.slice la m1 lc,.slice ha m2 hc,.slice oa m3 oc,.slice fa m4 fc,.slice ra m5 rc][i]?)/\W'.cell? ⟨wb,wo+K,none⟩=some (.int .u64 Z)):=Lib.hid λW' h=>⟨(YS.tr h).get.2.1,ah h hzc⟩
     refine wp_region_held_drew (S:=(λW'=>(∀i,W'.cell? ⟨w.heap.size,i,none⟩= #[Value.int .u64 B1,.int .i64 C1,.int .i64 T1,.bool Y1,.int .i64 S1,.slice la m1 lc,.slice ha m2 hc,.slice oa m3 oc,.slice fa m4 fc,.slice ra m5 rc][i]?)/\W'.cell? ⟨wb,wo+K,none⟩=some (.int .u64 Z))) (by kernel_rfl) ?_ (λhHeld=> ?_)
     ·(try dsimp only);exact aaB.out _ bm
     refine tk 0 ?_
     refine tk 1 ?_
     refine tk 2 ?_
     refine tk 3 ?_
     refine tk 4 ?_
     refine tk 5 ?_
     refine co 6 λK hK=> ?_
     go_simp
     go_at_call 65;refine(HGa.out _ bm).mono ?_;rintro e w2 ⟨rfl,k9⟩;go_wp2_with fail
     refine hK.out _ _ ?_ (λhHeld=> ?_)
     ·(try dsimp only);exact aaB.out _ bm
     clear hK K
     refine nx ?_
     refine tk 7 ?_
     refine wpAnyH_done (by kernel_rfl) ?_ _
     have b29:Below wr.heap.size wr w2:=bm
     have K2r:=YS.tr b29
     have ads:=ah b29 hzc
     have bw2:=au bwr b29
     clear hHeld aaB k9 bwr l1 c1 f1
     obtain⟨l1,c1,f1⟩:=K2r.get
     go_upto_region 10 with(fail)
     have Vj:Hid (∀W':World,Below w2.heap.size w2 W'->(∀i,W'.cell? ⟨w.heap.size,i,none⟩= #[Value.int .u64 B1,.int .i64 C1,.int .i64 T1,.bool Y1,.int .i64 S1,.slice la m1 lc,.slice ha m2 hc,.slice oa m3 oc,.slice fa m4 fc,.slice ra m5 rc][i]?)/\W'.cell? ⟨wb,wo+K,none⟩=some (.int .u64 Z)):=Lib.hid λW' h=>⟨(K2r.tr h).get.2.1,ah h ads⟩
     refine wp_region_held_drew (S:=(λW'=>(∀i,W'.cell? ⟨w.heap.size,i,none⟩= #[Value.int .u64 B1,.int .i64 C1,.int .i64 T1,.bool Y1,.int .i64 S1,.slice la m1 lc,.slice ha m2 hc,.slice oa m3 oc,.slice fa m4 fc,.slice ra m5 rc][i]?)/\W'.cell? ⟨wb,wo+K,none⟩=some (.int .u64 Z))) (by kernel_rfl) ?_ (λhHeld=> ?_)
     ·(try dsimp only);exact Vj.out _ bm
     refine tk 0 ?_
     refine tk 1 ?_
     refine tk 2 ?_
     refine tk 3 ?_
     refine tk 4 ?_
     refine tk 5 ?_
     refine co 6 λK hK=> ?_
     go_simp
     go_at_call 65;refine(HGb.out _ bm).mono ?_;rintro e w3 ⟨rfl,k10⟩;go_wp2_with fail
     refine hK.out _ _ ?_ (λhHeld=> ?_)
     ·(try dsimp only);exact Vj.out _ bm
     clear hK K
     refine nx ?_
     refine tk 7 ?_
     refine wpAnyH_done (by kernel_rfl) ?_ _
     have b30:Below w2.heap.size w2 w3:=bm
     have K3r:=K2r.tr b30
     have bw3:=au bw2 b30
     have B3:Hid (Below w1.heap.size w1 w3):=Lib.hid (au hbel.out (au b29 b30))
     clear hHeld Vj k10 bw2 l1 c1 f1 b29 b30 YS K2r hzc ads hbel
     obtain⟨l1,c1,f1⟩:=K3r.get
     have HT:Hid (PF ⟨(a:Int),s0,(P:Int),g0,t0⟩ (K-A1)=true->∀j,j<K+1-A1->PF ⟨(a:Int),s0,(P:Int),g0,t0⟩ j=true):=Lib.hid λe j hj=>by
      rcases Nat.lt_or_ge j (K-A1)with h1|h1
      ·exact hall.out j h1
      ·obtain rfl:j=K-A1:=by omega
       exact e
     have HF:Hid (PF ⟨(a:Int),s0,(P:Int),g0,t0⟩ (K-A1)=false->AL 0=false):=Lib.hid λe=>by
      obtain⟨h1,h2⟩:=HAB.out
      have:FO=false:=by
       rw[aaA.out,List.all_eq_false]
       exact⟨K-A1,List.mem_range.2 (by show K-A1<((P:Int)).toNat;omega),by rw[e];decide⟩
      rw[hAk.out,this]
      rfl
     by_cases h2p:2<p
     ·have h2i:(2:Int)<(p:Int):=by omega
      have e:=hpf.out.trans (if_pos h2p)
      cases G3
      ·have HV:=Lib.hid (HF.out e)
       clear e
       go_wp2_with fail
       go_ret
       exact⟨by rw[HV.out];rfl,bm⟩
      ·have HV:=Lib.hid (HT.out e)
       clear e
       go_wp2_with fail
       exact⟨⟨K+1,by omega,by go_num,HV,B3.out⟩,by simp[intOf];omega⟩
     ·have h2i:¬(2:Int)<(p:Int):=by omega
      have e:=hpf.out.trans (if_neg h2p)
      by_cases h1p:p=1
      ·subst h1p
       by_cases hsc:S1<=K
       ·rw[if_pos ⟨rfl,hsc⟩]at e
        cases G1<;>cases G3
        ·have HV:=Lib.hid (HF.out e)
         clear e
         go_wp2_with fail
         go_ret
         exact⟨by rw[HV.out];rfl,bm⟩
        all_goals
         have HV:=Lib.hid (HT.out e)
         clear e
         go_wp2_with fail
         exact⟨⟨K+1,by omega,by go_num,HV,B3.out⟩,by simp[intOf];omega⟩
       ·rw[if_neg (λq=>hsc q.2)]at e
        cases G1
        ·have HV:=Lib.hid (HF.out e)
         clear e
         go_wp2_with fail
         go_ret
         exact⟨by rw[HV.out];rfl,bm⟩
        ·have HV:=Lib.hid (HT.out e)
         clear e
         go_wp2_with fail
         exact⟨⟨K+1,by omega,by go_num,HV,B3.out⟩,by simp[intOf];omega⟩
      ·have h1i:((p:Int)==1)=false:=by rw[beq_eq_false_iff_ne];omega
       rw[if_neg (λq=>h1p q.1)]at e
       cases G1
       ·have HV:=Lib.hid (HF.out e)
        clear e
        go_wp2_with fail
        go_ret
        exact⟨by rw[HV.out];rfl,bm⟩
       ·have HV:=Lib.hid (HT.out e)
        clear e
        go_wp2_with fail
        exact⟨⟨K+1,by omega,by go_num,HV,B3.out⟩,by simp[intOf];omega⟩
    ·obtain rfl:K=BB:=by omega
     have HV:Hid (AL 0=AL (k+1)):=Lib.hid (by
      obtain⟨h1,h2⟩:=HAB.out
      have:FO=true:=by
       rw[aaA.out,List.all_eq_true]
       intro j hj
       have:=List.mem_range.1 hj
       exact hall.out j (by have h3:j<((P:Int)).toNat:=this;omega)
      rw[hAk.out,this]
      rfl)
     have B3:Hid (Below W0.heap.size W0 wr):=Lib.hid (au ag5.out bel)
     go_wp2_with fail
     exact⟨⟨k+1,by omega,by go_num,HV,B3.out⟩,by simp[intOf];omega⟩
  ·obtain rfl:k=n:=by omega
   have HV:Hid (AL 0=true):=Lib.hid (hal.out.trans HAE.out)
   go_wp2_with fail
   go_ret
   exact⟨by rw[HV.out];rfl,bm⟩
end Go.Proofs.YtpgjploaliefdaaGreat.rf
namespace Go.Proofs.YtpgjploaliefdaaGreat.rf
open Go Go.RowKit hp ob hd cp ck gr lx rh
set_option linter.unusedVariables false
set_option linter.unusedSimpArgs false
set_option maxRecDepth 100000
set_option maxHeartbeats 4000000
theorem Gl{h:Hp}{s:P4}(e:kT h=some s)(q:Nat)(hq:1<=q/\q<=4):(∀o∈s.obs q,lM (h.part q).length o)/\(s.obs q).length<=(h.part q).length:=by
 obtain⟨t,ht,rfl⟩:=Jc e
 obtain⟨⟨k1,e1⟩,⟨k2,e2⟩,⟨k3,e3⟩,⟨k4,e4⟩,_,_⟩:=vN ht
 rcases(show q=1\/q=2\/q=3\/q=4 by omega)with rfl|rfl|rfl|rfl
 ·exact nY e1
 ·exact nY e2
 ·exact nZ e3
 ·exact nZ e4
theorem JY{h:Hp}{s:P4}(e:kT h=some s):Stand h s:=λx h1 h4 o ho=>by
 obtain⟨c1,c2,c3,c4,c5,c6⟩:=(Gl e x ⟨h1,h4⟩).1 o ho
 have:=xB h x ⟨h1,h4⟩
 omega
theorem JZ{h:Hp}(hr:fZ h.lay=true)(q:Nat):(h.part q).length<100000:=by
 obtain⟨r1,r2,r3,r4,r5,⟨r6,r7,r8⟩,⟨r9,r10,r11⟩⟩:=pX hr
 unfold Hp.lay at*
 dsimp only at*
 refine Hp.DK (P:=λl=>l.length<100000) h q ?_ ?_ ?_ ?_<;>omega
def rgt(h:Hp)(s:P4):Bool:=(!h.dJ||s.a.all λo=>decide (FK s (aA h.lay 1+o.pos)=1))&&(h.roots.all (λw=>dU h.lay s w 1 2)&&((gZ h s 1&&(gZ h s 2&&(gZ h s 3&&gZ h s 4)))&&decide (h.low.length+h.high.length+bM (s.c++s.d)<=h.cap)))
theorem Q7{zs:List Int}{F:Int->Bool}{k:Nat}(h:k<zs.length):(zs.drop k).all F=(F (zs.getD k 0)&&(zs.drop (k+1)).all F):=by
 rw[List.drop_eq_getElem_cons h,List.all_cons]
 simp[List.getD,h]
theorem wC(h:Hp)(v:Hv)(w:World)(hin:kH w h v):
  Calls Tryz.prog 34 #[fD h v] w λe w'=>e=.returned (.bool (qm h))/\Below w.heap.size w w':=by
 have Y7:Hid (∀W,Below w.heap.size w W->Calls Tryz.prog 61 #[fD h v] W λe w'=>e=.returned (.bool (aZ h&&bW h))/\Below W.heap.size W w'):=Lib.hid λW hb=>JW h v W (hin.tr hb)
 have HRR:Hid (qm h=((aZ h&&bW h)&&(match kT h with
 |none=>false
 |some s=>rgt h s))):=rfl
 cases hbr:(aZ h&&bW h)with
 |false=>
  rw[hbr]at Y7 HRR
  have HR:Hid (qm h=false):=Lib.hid (HRR.out.trans rfl)
  clear HRR hbr
  generalize qm h=R at*
  obtain⟨la,lc,ha,hc,oa,oc,fa,fc,ra,rc,rfl⟩:=jL hin
  clear hin
  unfold fD at*
  dsimp only at*
  go_enter Tryz.func34,Tryz.ntmps34
  go_wp2_with fail
  refine(Y7.out _ bm).mono ?_;rintro e w1 ⟨rfl,k1⟩
  go_wp2_with fail
  go_ret
  exact⟨by rw[HR.out];rfl,bm⟩
 |true=>
  rw[hbr]at Y7 HRR
  have hr:fZ h.lay=true:=by
   rw[Bool.and_eq_true]at hbr
   have:=hbr.1
   unfold aZ at this
   rw[Bool.and_eq_true]at this
   exact this.1
  have hl:=JZ hr
  have XY:Hid (∀W,Below w.heap.size w W->Calls Tryz.prog 62 #[fD h v] W λe w'=>Gi (kT h) e w'/\Below W.heap.size W w'):=Lib.hid λW hb=>Gj h v W (hin.tr hb) hr hl
  cases hp:kT h with
  |none=>
   rw[hp]at XY HRR
   have HR:Hid (qm h=false):=Lib.hid (HRR.out.trans rfl)
   clear HRR hbr hp hr hl
   generalize qm h=R at*
   obtain⟨la,lc,ha,hc,oa,oc,fa,fc,ra,rc,rfl⟩:=jL hin
   clear hin
   unfold fD at*
   dsimp only at*
   go_enter Tryz.func34,Tryz.ntmps34
   go_wp2_with fail
   refine(Y7.out _ bm).mono ?_;rintro e w1 ⟨rfl,k1⟩
   have K1:aj w1 w.heap.size _ 32:=aj.tr (.new _ _ _) k1
   obtain⟨lx,cx,fx⟩:=K1.get
   go_wp2_with fail
   refine(XY.out _ bm).mono ?_;rintro e w2 ⟨hpp,k2⟩
   obtain rfl:e=_:=hpp
   go_wp2_with fail
   go_ret
   exact⟨by rw[HR.out];rfl,bm⟩
  |some s=>
   rw[hp]at XY HRR
   have HR:Hid (qm h=rgt h s):=Lib.hid (HRR.out.trans (Bool.true_and _))
   have hst:=JY hp
   have hft:=Gl hp
   rw[HR.out]
   clear HRR HR
   have hf:=Ey hin
   have HST:Hid (∀W k,k<s.a.length->Calls Tryz.prog 64 #[fD h v,.int .i64 1,.int .i64 (dL s.a k).pos] W λe w'=>e=.returned (.int .u64 (aA h.lay 1+(dL s.a k).pos))/\Below W.heap.size W w'):=Lib.hid λW k hk=>by
    have hm:dL s.a k∈s.obs 1:=by show dL s.a k∈s.a;unfold dL;rw[List.getD_eq_getElem?_getD,List.getElem?_eq_getElem hk];exact List.getElem_mem hk
    obtain⟨h1,h2⟩:=hst 1 (by omega) (by omega) _ hm
    obtain⟨a,ea⟩:=Int.eq_ofNat_of_zero_le h1
    have:=FY h v 1 a W hf hr (by omega) (by omega)
    rwa[<-ea]at this
   have HTG:Hid (∀W u A,Ba W u s->Calls Tryz.prog 63 #[u,.int .u64 A] W λe w'=>e=.returned (.int .i64 (FK s A))/\Below W.heap.size W w'):=Lib.hid λW u A hu=>Js u s A W hu λp h3 h4=>Nat.lt_of_le_of_lt (hft p ⟨by omega,h4⟩).2 (hl p)
   have HGO:Hid (∀W u z,0<=z/\z<18446744073709551616->Ba W u s->Calls Tryz.prog 65 #[fD h v,u,.int .u64 z,.int .i64 1,.int .i64 2] W λe w'=>e=.returned (.bool (dU h.lay s z 1 2))/\Below W.heap.size W w'):=Lib.hid λW u z hz hu=>Eb h v u s 1 2 z W hf hr (by omega) (by omega) hu hst hz
   have HPS:Hid (∀W u(p:Nat),1<=p/\p<=4->Below w.heap.size w W->Ba W u s->Calls Tryz.prog 66 #[fD h v,u,.int .i64 p] W λe w'=>e=.returned (.bool (gZ h s p))/\Below W.heap.size W w'):=Lib.hid λW u p hp' hb hu=>jh h v u s p W (hin.tr hb) hr hp' hu hst hl (hft p hp').1
   have HWT:Hid (∀W u,Ba W u s->Calls Tryz.prog 67 #[u] W λe w'=>e=.returned (.int .i64 (bM (s.c++s.d)))/\Below W.heap.size W w'):=Lib.hid λW u hu=>vV u s W hu λp h3 h4=>⟨λo ho=>by
    obtain⟨c1,c2,c3,c4,c5,c6⟩:=(hft p ⟨by omega,h4⟩).1 o ho
    exact⟨c2,c3⟩,Nat.lt_of_le_of_lt (hft p ⟨by omega,h4⟩).2 (hl p)⟩
   have hwn:0<=bM (s.c++s.d)/\bM (s.c++s.d)<100000000:=by
    have h3:=hft 3 (by omega)
    have h4:=hft 4 (by omega)
    have hm:∀o∈s.c++s.d,0<=o.s/\o.s<=255:=λo ho=>by
     rcases List.mem_append.1 ho with ho|ho
     ·obtain⟨c1,c2,c3,c4,c5,c6⟩:=h3.1 o ho
      exact⟨c2,c3⟩
     ·obtain⟨c1,c2,c3,c4,c5,c6⟩:=h4.1 o ho
      exact⟨c2,c3⟩
    have:=Jr hm
    rw[List.length_append]at this
    have l3:s.c.length<=(h.part 3).length:=h3.2
    have l4:s.d.length<=(h.part 4).length:=h4.2
    have:=hl 3
    have:=hl 4
    omega
   have Q8:Hid (rgt h s=((!h.dJ||s.a.all λo=>decide (FK s (aA h.lay 1+o.pos)=1))&&(h.roots.all (λw=>dU h.lay s w 1 2)&&((gZ h s 1&&(gZ h s 2&&(gZ h s 3&&gZ h s 4)))&&decide (h.low.length+h.high.length+bM (s.c++s.d)<=h.cap))))):=rfl
   have Zz:Hid (∀k,k<s.a.length->(s.a.drop k).all (λo=>decide (FK s (aA h.lay 1+o.pos)=1))=(decide (FK s (aA h.lay 1+(dL s.a k).pos)=1)&&(s.a.drop (k+1)).all (λo=>decide (FK s (aA h.lay 1+o.pos)=1)))):=Lib.hid λk hk=>JX hk
   have HSE:Hid ((s.a.drop s.a.length).all (λo=>decide (FK s (aA h.lay 1+o.pos)=1))=true):=Lib.hid (by rw[List.drop_length];rfl)
   have Nc:Hid (∀k,k<h.roots.length->(h.roots.drop k).all (λw=>dU h.lay s w 1 2)=(dU h.lay s (h.roots.getD k 0) 1 2&&(h.roots.drop (k+1)).all (λw=>dU h.lay s w 1 2))):=Lib.hid λk hk=>Q7 hk
   have Nh:Hid ((h.roots.drop h.roots.length).all (λw=>dU h.lay s w 1 2)=true):=Lib.hid (by rw[List.drop_length];rfl)
   have HTL:Hid (∀A,(FK s A:Int)=1↔FK s A=1):=Lib.hid λA=>by omega
   generalize hSA:(λk=>(s.a.drop k).all (λo=>decide (FK s (aA h.lay 1+o.pos)=1)))=SA at*
   have eSA:∀k,(s.a.drop k).all (λo=>decide (FK s (aA h.lay 1+o.pos)=1))=SA k:=λk=>by rw[<-hSA]
   have eS0:s.a.all (λo=>decide (FK s (aA h.lay 1+o.pos)=1))=SA 0:=by rw[<-hSA];rfl
   generalize hOA:(λk=>(h.roots.drop k).all (λw=>dU h.lay s w 1 2))=OA at*
   have eOA:∀k,(h.roots.drop k).all (λw=>dU h.lay s w 1 2)=OA k:=λk=>by rw[<-hOA]
   have eO0:h.roots.all (λw=>dU h.lay s w 1 2)=OA 0:=by rw[<-hOA];rfl
   rw[eS0,eO0]at Q8
   simp only[eSA]at Zz HSE
   simp only[eOA]at Nc Nh
   clear eSA eS0 eOA eO0 hSA hOA hbr hp hst hf
   have adt:=hl 1
   have adu:=hl 2
   have hr1:h.low.length<100000:=adt
   have hr2:h.high.length<100000:=adu
   have hro:=hin.roots
   have HRS:=Lib.hid hin.jd
   obtain⟨la,lc,ha,hc,oa,oc,fa,fc,ra,rc,rfl⟩:=jL hin
   obtain⟨ra',rb,ro,rc',er,⟨q1,q2⟩,q3,q4,q5,q6⟩:=hro
   cases er
   have HQ1:=Lib.hid q1
   have HQ6:=Lib.hid q6
   have hcap:=hin.cap
   have HCP:=Lib.hid hcap
   have H5:Hid ((s.a).length<100000):=Lib.hid (Nat.lt_of_le_of_lt (hft 1 (by omega)).2 (hl 1))
   clear hin hft hr hl q1 q2 q6 adt adu hcap
   unfold fD at*
   dsimp only at*
   generalize rgt h s=RG at*
   generalize gZ h s=PR at*
   generalize bM (s.c++s.d)=WN at*
   generalize aA h.lay 1=F1 at*
   generalize hg:(λz=>dU h.lay s z 1 2)=GO at*
   have eg:∀z,dU h.lay s z 1 2=GO z:=λz=>by rw[<-hg]
   simp only[eg]at HGO Nc
   clear hg eg
   generalize h.base=B1 at*
   generalize h.cap=C1 at*
   generalize h.tt=T1 at*
   generalize h.dJ=Y1 at*
   generalize h.scan=S1 at*
   generalize h.low.length=m1 at*
   generalize h.high.length=m2 at*
   generalize h.old.length=m3 at*
   generalize h.far.length=m4 at*
   generalize hm5:h.roots.length=m5 at*
   generalize h.roots=zs at*
   have HM5:=Lib.hid hm5
   clear hm5
   go_enter Tryz.func34,Tryz.ntmps34
   go_wp2_with fail
   refine(Y7.out _ bm).mono ?_;rintro e w1 ⟨rfl,k1⟩
   have K1:aj w1 w.heap.size #[Value.int .u64 B1,.int .i64 C1,.int .i64 T1,.bool Y1,.int .i64 S1,.slice la m1 lc,.slice ha m2 hc,.slice oa m3 oc,.slice fa m4 fc,.slice ra m5 rc] 32:=aj.tr (.new _ _ _) k1
   have b1:Below w.heap.size w w1:=bm
   obtain⟨lx,cx,fx⟩:=K1.get
   clear k1
   go_wp2_with fail
   refine(XY.out _ bm).mono ?_;rintro e w2 ⟨hpp,k2⟩
   obtain⟨b,rfl,hu⟩:=hpp
   have hK2:=Lib.hid (K1.tr k2)
   have hB2:=Lib.hid (au b1 k2)
   have HU:=Lib.hid hu
   clear k2 b1 K1 lx cx fx hu
   obtain⟨b',vs,eb,hbs,hvs,hcs⟩:=HU.out
   cases eb
   obtain⟨hc1,ho1⟩:=hcs 1 (by omega) (by omega)
   obtain⟨ad,Y6,oo,cap,ev,⟨a1,a2⟩,a3,a4,a5,a6⟩:=ho1
   rw[ev]at hc1
   have HA1:=Lib.hid a1
   have HA6:=Lib.hid a6
   clear hcs hvs ev a1 a2 a6
   have eo:s.obs 1=s.a:=rfl
   rw[eo]at HA1 HA6 a3 a4 hc1
   clear eo
   generalize hnn:s.a.length=n at*
   have HNN:=Lib.hid hnn
   clear hnn
   obtain⟨lx,cx,fx⟩:=hK2.out.get
   have adv:=Nat.lt_of_lt_of_le q5 hB2.out.size
   go_upto_block 0 with fail
   go_cut [] (λwx=>Hid (RG=(OA 0&&((PR 1&&(PR 2&&(PR 3&&PR 4)))&&decide ((m1:Int)+m2+WN<=C1))))/\Below w2.heap.size w2 wx)
   case first=>
    go_wp2_with fail
    go_loopw [5] (λi wr=>∃k:Nat,k<=n/\i=.int .i64 k/\Hid (SA 0=SA k)/\Below w2.heap.size w2 wr) (λi _=>n-(intOf i).toNat)
    case atStart=>exact⟨0,Nat.zero_le _,rfl,Lib.hid rfl,Below.refl _ _⟩
    case round=>
     obtain⟨k,hk,rfl,hsa,bel⟩:=hrel
     have K:=hK2.out.tr bel
     have hc1':=ah bel hc1
     clear lx cx fx
     obtain⟨lx,cx,fx⟩:=K.get
     cases Y1
     ·have HV:=Lib.hid (Q8.out.trans rfl:RG=(OA 0&&((PR 1&&(PR 2&&(PR 3&&PR 4)))&&decide ((m1:Int)+m2+WN<=C1))))
      by_cases hlt:k<n
      ·go_wp2_with fail
       go_meet
       exact⟨HV,bel⟩
      ·obtain rfl:k=n:=by omega
       go_wp2_with fail
       go_meet
       exact⟨HV,bel⟩
     ·by_cases hlt:k<n
      ·obtain rfl:=HA1.out (by omega)
       have hxk:=(HA6.out.block (bel.block Y6 a5)).at k hlt
       have Qs:=Lib.hid λW=>HST.out W k hlt
       have HAk:=Lib.hid (hsa.out.trans (Zz.out k hlt))
       generalize dL s.a k=o at*
       obtain⟨p0,s0,q0,g0,t0⟩:=o
       obtain⟨x0,x1,x2,x3,x4⟩:=hxk
       dsimp only at x0 x1 x2 x3 x4 Qs HAk
       clear x1 x2 x3 x4
       generalize F1+p0=SV at*
       have HTk:=Lib.hid λW hu=>HTG.out W (.slice (some ⟨b,0,none⟩) 5 5) SV hu
       have HTl:=Lib.hid (HTL.out SV)
       generalize FK s SV=TN at*
       have hwr:Below w2.heap.size w2 wr:=bel
       go_upto_region 9 with(fail)
       have mZ:Hid (∀W':World,Below wr.heap.size wr W'->(∀i,W'.cell? ⟨w.heap.size,i,none⟩= #[Value.int .u64 B1,.int .i64 C1,.int .i64 T1,.bool true,.int .i64 S1,.slice la m1 lc,.slice ha m2 hc,.slice oa m3 oc,.slice fa m4 fc,.slice ra m5 rc][i]?)/\W'.cell? ⟨b,1,none⟩=some (.slice (some ⟨Y6,oo,none⟩) n cap)/\W'.cell? ⟨Y6,oo+k*5,none⟩=some (.int .i64 p0)):=Lib.hid λW' h=>⟨(K.tr h).get.2.1,ah h hc1',ah h x0⟩
       refine wp_region_held_drew (S:=(λW'=>(∀i,W'.cell? ⟨w.heap.size,i,none⟩= #[Value.int .u64 B1,.int .i64 C1,.int .i64 T1,.bool true,.int .i64 S1,.slice la m1 lc,.slice ha m2 hc,.slice oa m3 oc,.slice fa m4 fc,.slice ra m5 rc][i]?)/\W'.cell? ⟨b,1,none⟩=some (.slice (some ⟨Y6,oo,none⟩) n cap)/\W'.cell? ⟨Y6,oo+k*5,none⟩=some (.int .i64 p0))) (by kernel_rfl) ?_ (λhHeld=> ?_)
       ·(try dsimp only);exact mZ.out _ bm
       refine tk 0 ?_
       refine tk 1 ?_
       refine tk 2 ?_
       refine tk 3 ?_
       refine tk 4 ?_
       refine tk 5 ?_
       refine tk 6 ?_
       refine tk 7 ?_
       refine tk 8 ?_
       refine co 9 λK hK=> ?_
       go_simp
       go_at_call 64;refine(Qs.out _).mono ?_;rintro e w3 ⟨rfl,k3⟩;go_wp2_with fail
       refine hK.out _ _ ?_ (λhHeld=> ?_)
       ·(try dsimp only);exact mZ.out _ bm
       clear hK K
       refine nx ?_
       have b3:Hid (Below w2.heap.size w2 w3):=Lib.hid bm
       refine co 10 λK hK=> ?_
       go_simp
       go_at_call 63;refine(HTk.out _ (HU.out.tr b3.out)).mono ?_;rintro e w4 ⟨rfl,k4⟩;go_wp2_with fail
       refine hK.out _ _ ?_ (λhHeld=> ?_)
       ·(try dsimp only);exact mZ.out _ bm
       clear hK K
       refine nx ?_
       refine tk 11 ?_
       refine wpAnyH_done (by kernel_rfl) ?_ _
       have b4:Below w2.heap.size w2 w4:=au b3.out k4
       by_cases ht:TN=1
       ·subst ht
        have HV:Hid (SA 0=SA (k+1)):=Lib.hid (by rw[HAk.out];rfl)
        go_wp2_with fail
        exact⟨⟨k+1,by omega,by go_num,HV,b4⟩,by simp[intOf];omega⟩
       ·have hti:((TN:Int)==1)=false:=by rw[beq_eq_false_iff_ne];omega
        have HV:Hid (RG=false):=Lib.hid (by rw[Q8.out,HAk.out,decide_eq_false ht];rfl)
        go_wp2_with fail
        go_ret
        have:=hB2.out
        exact⟨by rw[HV.out];rfl,bm⟩
      ·obtain rfl:k=n:=by omega
       have HV:=Lib.hid (by rw[Q8.out,hsa.out,HSE.out];rfl:RG=(OA 0&&((PR 1&&(PR 2&&(PR 3&&PR 4)))&&decide ((m1:Int)+m2+WN<=C1))))
       go_wp2_with fail
       go_meet
       exact⟨HV,bel⟩
   case rest=>
   obtain⟨HR1,hb1⟩:=hcut
   clear Q8 Zz HSE HST HTG HTL HA1 HA6 hc1 lx cx fx
   have hK3:=Lib.hid (hK2.out.tr hb1)
   have uY:=Lib.hid (HU.out.tr hb1)
   have hB3:=Lib.hid (au hB2.out hb1)
   have ahb:=Nat.lt_of_lt_of_le adv hb1.size
   clear hK2 HU hB2 hb1 adv
   obtain⟨lx,cx,fx⟩:=hK3.out.get
   go_upto_block 2 with fail
   go_cut [] (λwx=>Hid (RG=((PR 1&&(PR 2&&(PR 3&&PR 4)))&&decide ((m1:Int)+m2+WN<=C1)))/\Below wc.heap.size wc wx)
   case first=>
    go_wp2_with fail
    go_loopw [6] (λi wr=>∃k:Nat,k<=m5/\i=.int .i64 k/\Hid (OA 0=OA k)/\Below wc.heap.size wc wr) (λi _=>m5-(intOf i).toNat)
    case atStart=>exact⟨0,Nat.zero_le _,rfl,Lib.hid rfl,Below.refl _ _⟩
    case round=>
     obtain⟨k,hk,rfl,hsa,bel⟩:=hrel
     have K:=hK3.out.tr bel
     clear lx cx fx
     obtain⟨lx,cx,fx⟩:=K.get
     by_cases hlt:k<m5
     ·obtain rfl:=HQ1.out (by omega)
      have hzc:=ah bel (ah hB3.out (HQ6.out.at k hlt))
      have hz:=HRS.out k
      have HAk:=Lib.hid (hsa.out.trans (Nc.out k hlt))
      generalize zs.getD k 0=Z at*
      have HGk:=Lib.hid λW hu=>HGO.out W (.slice (some ⟨b,0,none⟩) 5 5) Z hz hu
      generalize GO Z=GZ at*
      have Y8:=Lib.hid bel
      clear bel
      go_upto_region 14 with(fail)
      have mZ:Hid (∀W':World,Below wr.heap.size wr W'->(∀i,W'.cell? ⟨w.heap.size,i,none⟩= #[Value.int .u64 B1,.int .i64 C1,.int .i64 T1,.bool Y1,.int .i64 S1,.slice la m1 lc,.slice ha m2 hc,.slice oa m3 oc,.slice fa m4 fc,.slice (some ⟨rb,ro,none⟩) m5 rc][i]?)/\W'.cell? ⟨rb,ro+k,none⟩=some (.int .u64 Z)):=Lib.hid λW' h=>⟨(K.tr h).get.2.1,ah h hzc⟩
      refine wp_region_held_drew (S:=(λW'=>(∀i,W'.cell? ⟨w.heap.size,i,none⟩= #[Value.int .u64 B1,.int .i64 C1,.int .i64 T1,.bool Y1,.int .i64 S1,.slice la m1 lc,.slice ha m2 hc,.slice oa m3 oc,.slice fa m4 fc,.slice (some ⟨rb,ro,none⟩) m5 rc][i]?)/\W'.cell? ⟨rb,ro+k,none⟩=some (.int .u64 Z))) (by kernel_rfl) ?_ (λhHeld=> ?_)
      ·(try dsimp only);exact mZ.out _ bm
      refine tk 0 ?_
      refine tk 1 ?_
      refine tk 2 ?_
      refine tk 3 ?_
      refine tk 4 ?_
      refine tk 5 ?_
      refine tk 6 ?_
      refine co 7 λK hK=> ?_
      go_simp
      go_at_call 65;refine(HGk.out _ (uY.out.tr (au Y8.out bm))).mono ?_;rintro e w4 ⟨rfl,k4⟩;go_wp2_with fail
      refine hK.out _ _ ?_ (λhHeld=> ?_)
      ·(try dsimp only);exact mZ.out _ bm
      clear hK K
      refine nx ?_
      refine tk 8 ?_
      refine wpAnyH_done (by kernel_rfl) ?_ _
      have b4:Hid (Below wc.heap.size wc w4):=Lib.hid (au Y8.out bm)
      cases GZ
      ·have HV:Hid (RG=false):=Lib.hid (by rw[HR1.out,HAk.out];rfl)
       go_wp2_with fail
       go_ret
       exact⟨by rw[HV.out];rfl,au hB3.out b4.out⟩
      ·have HV:Hid (OA 0=OA (k+1)):=Lib.hid (by rw[HAk.out];rfl)
       go_wp2_with fail
       exact⟨⟨k+1,by omega,by go_num,HV,b4.out⟩,by simp[intOf];omega⟩
     ·obtain rfl:k=m5:=by omega
      have HV:=Lib.hid (by rw[HR1.out,hsa.out,Nh.out];rfl:RG=((PR 1&&(PR 2&&(PR 3&&PR 4)))&&decide ((m1:Int)+m2+WN<=C1)))
      go_wp2_with fail
      go_meet
      exact⟨HV,bel⟩
   case rest=>
   obtain⟨HR2,hb1⟩:=hcut
   have hK4:=Lib.hid (hK3.out.tr hb1)
   have vw:=Lib.hid (uY.out.tr hb1)
   have hB4:=Lib.hid (au hB3.out hb1)
   clear hK3 uY hB3 hb1 HR1 Nc Nh HGO HQ1 HQ6 ahb lx cx fx
   generalize wc=w5 at*
   obtain⟨lx,cx,fx⟩:=hK4.out.get
   go_wp2_with fail
   go_loopw [7] (λi wr=>∃p:Nat,(1<=p/\p<=5)/\i=.int .i64 p/\Hid (∀q,1<=q->q<p->PR q=true)/\Below w5.heap.size w5 wr) (λi _=>5-(intOf i).toNat)
   case atStart=>exact⟨1,by omega,rfl,Lib.hid (λq h1 h2=>by omega),Below.refl _ _⟩
   case round=>
    obtain⟨p,hp,rfl,hpr,bel⟩:=hrel
    have K:=hK4.out.tr bel
    clear lx cx fx
    obtain⟨lx,cx,fx⟩:=K.get
    have hbel:=Lib.hid bel
    by_cases XA:p<=4
    ·have HPp:=Lib.hid λW hb hu=>HPS.out W (.slice (some ⟨b,0,none⟩) 5 5) p ⟨hp.1,XA⟩ hb hu
     have HF:Hid (PR p=false->RG=false):=Lib.hid λe=>by
      rw[HR2.out]
      rcases(show p=1\/p=2\/p=3\/p=4 by omega)with rfl|rfl|rfl|rfl<;>rw[e]<;>simp
     have HT:Hid (PR p=true->∀q,1<=q->q<p+1->PR q=true):=Lib.hid λe q h1 h2=>by
      rcases Nat.lt_or_ge q p with h3|h3
      ·exact hpr.out q h1 h3
      ·obtain rfl:q=p:=by omega
       exact e
     generalize ahc:PR p=PP at*
     clear ahc bel
     go_wp2_with fail
     refine(HPp.out _ (au hB4.out (au hbel.out bm)) (vw.out.tr (au hbel.out bm))).mono ?_;rintro e w6 ⟨rfl,k6⟩
     cases PP
     ·have HV:=Lib.hid (HF.out rfl)
      go_wp2_with fail
      go_ret
      exact⟨by rw[HV.out];rfl,au hB4.out (au hbel.out bm)⟩
     ·have HV:=Lib.hid (HT.out rfl)
      go_wp2_with fail
      exact⟨⟨p+1,by omega,by go_num,HV,au hbel.out bm⟩,by simp[intOf];omega⟩
    ·obtain rfl:p=5:=by omega
     have HV:Hid (RG=decide ((m1:Int)+m2+WN<=C1)):=Lib.hid (by rw[HR2.out,hpr.out 1 (by omega) (by omega),hpr.out 2 (by omega) (by omega),hpr.out 3 (by omega) (by omega),hpr.out 4 (by omega) (by omega)];rfl)
     obtain⟨M,hM⟩:∃m,m1+m2=m:=⟨_,rfl⟩
     have hw1:IntKind.i64.wrap ((m1:Int)+(m2:Int))=(M:Int):=by rw[IntWalk.i64_in _ (by omega)];omega
     obtain⟨T,hT⟩:∃m,(M:Int)+WN=m:=⟨_,rfl⟩
     have hw2:IntKind.i64.wrap ((M:Int)+WN)=T:=by rw[IntWalk.i64_in _ (by omega)];exact hT
     have HV2:Hid (RG=decide (T<=C1)):=Lib.hid (by rw[HV.out,<-hT,<-hM];simp)
     clear hM hT HV bel
     go_upto_region 21 with(fail)
     have mZ:Hid (∀W':World,Below wr.heap.size wr W'->(∀i,W'.cell? ⟨w.heap.size,i,none⟩= #[Value.int .u64 B1,.int .i64 C1,.int .i64 T1,.bool Y1,.int .i64 S1,.slice la m1 lc,.slice ha m2 hc,.slice oa m3 oc,.slice fa m4 fc,.slice ra m5 rc][i]?)):=Lib.hid λW' h=>(K.tr h).get.2.1
     refine wp_region_held_drew (S:=(λW'=>(∀i,W'.cell? ⟨w.heap.size,i,none⟩= #[Value.int .u64 B1,.int .i64 C1,.int .i64 T1,.bool Y1,.int .i64 S1,.slice la m1 lc,.slice ha m2 hc,.slice oa m3 oc,.slice fa m4 fc,.slice ra m5 rc][i]?))) (by kernel_rfl) ?_ (λhHeld=> ?_)
     ·(try dsimp only);exact mZ.out _ bm
     refine tk 0 ?_
     refine tk 1 ?_
     refine tk 2 ?_
     refine tk 3 ?_
     refine tk 4 ?_
     refine tk 5 ?_
     refine tk 6 ?_
     refine tk 7 ?_
     refine tk 10 ?_
     refine tk 11 ?_
     refine co 8 λK hK=> ?_
     go_simp
     go_at_call 67;refine(HWT.out _ _ (vw.out.tr (au hbel.out bm))).mono ?_;rintro e w6 ⟨rfl,k6⟩;go_wp2_with fail
     refine hK.out _ _ ?_ (λhHeld=> ?_)
     ·(try dsimp only);exact mZ.out _ bm
     clear hK K
     refine nx ?_
     refine tk 9 ?_
     refine tk 12 ?_
     refine tk 13 ?_
     refine wpAnyH_done (by kernel_rfl) ?_ _
     go_wp2_with fail
     go_ret
     exact⟨by rw[HV2.out];rfl,au hB4.out (au hbel.out bm)⟩
theorem Fa(h:Hp)(v:Hv)(s:dS)(q:Nat)(hq:1<=q/\q<=4)(w:World)(hin:kH w h v)(hl:dZ h=some s):
  Calls Tryz.prog 37 #[fD h v,.int .i64 q] w λe w'=>(∃a n c,e=.returned (.tuple #[.slice a n c,.int .i64 0])/\bT w' (.slice a n c) (s.obs q))/\Below w.heap.size w w':=by
 have hrt:=yD h
 have h1:qm h=true:=by rw[hrt.1,hl];rfl
 have h2:=hrt.2 s hl
 have aaC:fZ h.lay=true:=by
  have:(aZ h&&bW h)=true:=by
   unfold qm at h1
   rw[Bool.and_eq_true]at h1
   exact h1.1
  rw[Bool.and_eq_true]at this
  have:=this.1
  unfold aZ at this
  rw[Bool.and_eq_true]at this
  exact this.1
 have HRI:Hid (∀W,Below w.heap.size w W->Calls Tryz.prog 34 #[fD h v] W λe w'=>e=.returned (.bool true)/\Below W.heap.size W w'):=Lib.hid λW hb=>by
  have:=wC h v W (hin.tr hb)
  rwa[h1]at this
 have XY:Hid (∀W,Below w.heap.size w W->Calls Tryz.prog 62 #[fD h v] W λe w'=>(∃b,e=.returned (.tuple #[.slice (some ⟨b,0,none⟩) 5 5,.bool true])/\Ba w' (.slice (some ⟨b,0,none⟩) 5 5) (P4.of s))/\Below W.heap.size W w'):=Lib.hid λW hb=>by
  have:=Gj h v W (hin.tr hb) aaC (JZ aaC)
  rw[h2]at this
  exact this
 obtain⟨la,lc,ha,hc,oa,oc,fa,fc,ra,rc,rfl⟩:=jL hin
 clear hin hl hrt h1 h2 aaC
 have q1:¬(q:Int)<1:=by omega
 have q4:¬(4:Int)<(q:Int):=by omega
 have q5:(q:Int)<5:=by omega
 unfold fD at*
 dsimp only at*
 generalize h.base=B1 at*
 generalize h.cap=C1 at*
 generalize h.tt=T1 at*
 generalize h.dJ=Y1 at*
 generalize h.scan=S1 at*
 generalize h.low.length=m1 at*
 generalize h.high.length=m2 at*
 generalize h.old.length=m3 at*
 generalize h.far.length=m4 at*
 generalize h.roots.length=m5 at*
 go_enter Tryz.func37,Tryz.ntmps37
 go_wp2_with fail
 refine(HRI.out _ bm).mono ?_;rintro e w1 ⟨rfl,k1⟩
 have K1:aj w1 w.heap.size #[Value.int .u64 B1,.int .i64 C1,.int .i64 T1,.bool Y1,.int .i64 S1,.slice la m1 lc,.slice ha m2 hc,.slice oa m3 oc,.slice fa m4 fc,.slice ra m5 rc] 32:=aj.tr (.new _ _ _) k1
 obtain⟨lx,cx,fx⟩:=K1.get
 go_wp2_with fail
 refine(XY.out _ bm).mono ?_;rintro e w2 ⟨⟨b,rfl,hu⟩,k2⟩
 obtain⟨b',vs,eb,hbs,hvs,hcs⟩:=hu
 cases eb
 obtain⟨hc1,ho1⟩:=hcs q hq.1 hq.2
 obtain⟨a,n,c,ev⟩:=hvs q hq.1 hq.2
 rw[ev]at hc1 ho1
 have HO:=Lib.hid ho1
 clear ho1 hcs hvs
 go_wp2_with fail
 go_ret2
 exact⟨⟨a,n,c,rfl,HO.out⟩,bm⟩
end Go.Proofs.YtpgjploaliefdaaGreat.rf
