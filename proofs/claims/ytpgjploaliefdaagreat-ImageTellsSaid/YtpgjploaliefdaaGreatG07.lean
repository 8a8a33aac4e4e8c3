/- Layer 11's raw heaps: what becomes of a node. No conditions. -/
import Derived.Test.YtpgjploaliefdaaGreatG06
import Derived.Test.YtpgjploaliefdaaGreatMh
import Derived.Test.YtpgjploaliefdaaGreatTk
import Derived.Test.YtpgjploaliefdaaGreatG04
import Derived.Test.YtpgjploaliefdaaGreatLu
namespace Go.Proofs.YtpgjploaliefdaaGreat.rh
open Go Go.RowKit hp ob hd cp ck gr lx
set_option linter.unusedVariables false
set_option linter.unusedSimpArgs false
set_option maxRecDepth 100000
set_option maxHeartbeats 4000000
structure Xv where
 n:Sl
 r:Sl
 c:Sl
def gG(X:Xv)(x:Rh):Array Value:= #[aS X.n,aS X.r,aS X.c,.int .u64 x.base,.int .i64 x.dR,.int .i64 x.scan,.int .i64 x.tt]
structure Qq(W:World)(X:Xv)(x:Rh):Prop where
 nodes:nM W (aS X.n) x.nodes
 roots:fH 1 zK W (aS X.r) x.roots
 cls:fH 1 zK W (aS X.c) x.cls
 num:NIn x
 ok:jT x
theorem Qq.tr{W w:World}{X:Xv}{x:Rh}(h:Qq W X x)(hb:Below W.heap.size W w):Qq w X x:=⟨h.nodes.tr hb,h.roots.tr hb,h.cls.tr hb,h.num,h.ok⟩
theorem YQ{C:Int}(h:I64 C):IntKind.i64.wrap (C.tdiv 3)=C.tdiv 3/\I64 (C.tdiv 3):=by
 have key: -9223372036854775808<=C.tdiv 3/\C.tdiv 3<9223372036854775808:=by
  obtain⟨h1,h2⟩:=h
  rcases Int.lt_or_le C 0 with h0|h0
  ·have e:C.tdiv 3= -((-C).tdiv 3):=by rw[Int.neg_tdiv];omega
   rw[e,Int.tdiv_eq_ediv_of_nonneg (by omega)]
   omega
  ·rw[Int.tdiv_eq_ediv_of_nonneg h0]
   omega
 exact⟨IntWalk.i64_in _ (by omega),key⟩
theorem Qr(X:Xv)(x:Rh)(i:Nat)(hi:i<10)(c:Bool)(w:World)(hx:Qq w X x):
  Calls Tryz.prog 57 #[.agg (gG X x),.int .i64 i,.bool c] w λe w'=>e=.returned (.tuple #[.int .i64 (Jg x c i),.bool (Uj x i)])/\Below w.heap.size w w':=by
 obtain⟨⟨a1,n1,c1⟩,⟨a2,n2,c2⟩,⟨a3,n3,c3⟩⟩:=X
 obtain⟨ca,cb,co,cc,e1,h1,h2,h3,h4,h5,h6⟩:=hx.cls.form
 simp only[aS,Value.slice.injEq]at e1
 obtain⟨rfl,rfl,rfl⟩:=e1
 have H6:=Lib.hid h6
 have HN:=Lib.hid hx.num.cls
 clear h6 h2 hx
 unfold gG aS
 dsimp only
 by_cases hcl:x.cls.length=0
 ·have hC:Hid (Xm x i=(i:Int)):=Lib.hid (by unfold Xm;rw[if_pos (List.eq_nil_of_length_eq_zero hcl)])
  have HC:Hid (I64 (i:Int)):=Lib.hid ⟨by omega,by omega⟩
  generalize x.cls.length=cn at*
  subst hcl
  go_enter Tryz.func57,Tryz.ntmps57
  go_wp2_with fail
  refine(iE (i:Int) 3 _ (by decide) (by decide) HC.out.1 HC.out.2).mono ?_;rintro e w3 ⟨rfl,rfl⟩
  have hK:Hid (Jg x c i=if(aC (i:Int) 3).toNat=2/\c=false then 1 else(aC (i:Int) 3).toNat):=Lib.hid (by unfold Jg;rw[hC.out])
  have hF:Hid (Uj x i=decide (aC (Int.tdiv (i:Int) 3) 2=1)):=Lib.hid (by unfold Uj;rw[hC.out])
  have hp3:=dw (i:Int) (n:=3) (by decide)
  have hp2:=dw (Int.tdiv (i:Int) 3) (n:=2) (by decide)
  obtain⟨hd1,hd2⟩:=YQ HC.out
  have HD2:=Lib.hid hd2
  generalize aC (i:Int) 3=K0 at*
  have hPK:Hid (∀W,Calls Tryz.prog 23 #[.int .i64 (Int.tdiv (i:Int) 3),.int .i64 2] W λe w'=>e=.returned (.int .i64 (aC (Int.tdiv (i:Int) 3) 2))/\W=w'):=Lib.hid λW=>iE (Int.tdiv (i:Int) 3) 2 W (by decide) (by decide) HD2.out.1 HD2.out.2
  generalize aC (Int.tdiv (i:Int) 3) 2=F0 at*
  clear hd2 HD2 HC hC
  rcases(show F0=0\/F0=1 by omega)with rfl|rfl<;>rcases(show K0=0\/K0=1\/K0=2 by omega)with rfl|rfl|rfl<;>cases c
  all_goals
   go_wp2_with fail
   refine(hPK.out _).mono ?_;rintro e w4 ⟨rfl,rfl⟩
   go_wp2_with fail
   go_ret2
   refine⟨by rw[hK.out,hF.out];rfl,?_⟩
   exact bm
 ·have hpos:0<x.cls.length:=by omega
  have had:=h1 hpos
  subst had
  have hlt:i%x.cls.length<x.cls.length:=Nat.mod_lt _ hpos
  have hcell:=H6.out.at (i:=i%x.cls.length) (List.getElem?_eq_getElem hlt) 0 _ rfl
  rw[Nat.mul_one,Nat.add_zero]at hcell
  have hC:Hid (Xm x i=x.cls[i%x.cls.length]):=Lib.hid (by
   unfold Xm
   rw[if_neg (λe=>hcl (by rw[e];rfl)),List.getD_eq_getElem?_getD,List.getElem?_eq_getElem hlt]
   rfl)
  have HC:Hid (I64 x.cls[i%x.cls.length]):=Lib.hid (HN.out _ (List.getElem_mem hlt))
  have hmod:(i:Int).tmod (x.cls.length:Int)=((i%x.cls.length:Nat):Int):=by rw[Int.tmod_eq_emod_of_nonneg (by omega)];simp
  generalize x.cls[i%x.cls.length]=C at*
  generalize i%x.cls.length=I at*
  have hgt:((x.cls.length:Int)>0):=by omega
  have hli:(I:Int)<(x.cls.length:Int):=by omega
  go_enter Tryz.func57,Tryz.ntmps57
  go_wp2_with fail
  go_quiet (fail)
  go_wp2_with fail
  refine(iE C 3 _ (by decide) (by decide) HC.out.1 HC.out.2).mono ?_;rintro e w3 ⟨rfl,rfl⟩
  have hK:Hid (Jg x c i=if(aC C 3).toNat=2/\c=false then 1 else(aC C 3).toNat):=Lib.hid (by unfold Jg;rw[hC.out])
  have hF:Hid (Uj x i=decide (aC (Int.tdiv C 3) 2=1)):=Lib.hid (by unfold Uj;rw[hC.out])
  have hp3:=dw C (n:=3) (by decide)
  have hp2:=dw (Int.tdiv C 3) (n:=2) (by decide)
  obtain⟨hd1,hd2⟩:=YQ HC.out
  have HD2:=Lib.hid hd2
  generalize aC C 3=K0 at*
  have hPK:Hid (∀W,Calls Tryz.prog 23 #[.int .i64 (Int.tdiv C 3),.int .i64 2] W λe w'=>e=.returned (.int .i64 (aC (Int.tdiv C 3) 2))/\W=w'):=Lib.hid λW=>iE (Int.tdiv C 3) 2 W (by decide) (by decide) HD2.out.1 HD2.out.2
  generalize aC (Int.tdiv C 3) 2=F0 at*
  clear hd2 HD2 HC hC
  rcases(show F0=0\/F0=1 by omega)with rfl|rfl<;>rcases(show K0=0\/K0=1\/K0=2 by omega)with rfl|rfl|rfl<;>cases c
  all_goals
   go_wp2_with fail
   refine(hPK.out _).mono ?_;rintro e w4 ⟨rfl,rfl⟩
   go_wp2_with fail
   go_ret2
   refine⟨by rw[hK.out,hF.out];rfl,?_⟩
   exact bm
end Go.Proofs.YtpgjploaliefdaaGreat.rh
namespace Go.Proofs.YtpgjploaliefdaaGreat.rh
open Go Go.RowKit hp ob hd cp ck gr lx
set_option linter.unusedVariables false
set_option linter.unusedSimpArgs false
set_option maxRecDepth 100000
set_option maxHeartbeats 4000000
def jg(h:Hp)(v:Hv)(gv qv hv ov:Value):Array Value:= #[.int .u64 h.base,.int .i64 h.cap,.int .i64 h.tt,.bool h.dJ,.int .i64 h.scan,v.l,v.h,v.o,v.f,v.r,gv,qv,hv,ov]
def dA(h:Hp)(v:Hv)(gv qv hv ov:Value):Value:=.agg (jg h v gv qv hv ov)
structure HF(h:Hp)(v:Hv):Prop where
 l:∃a c,v.l=.slice a h.low.length c
 hi:∃a c,v.h=.slice a h.high.length c
 o:∃a c,v.o=.slice a h.old.length c
 f:∃a c,v.f=.slice a h.far.length c
 r:∃a n c,v.r=.slice a n c
theorem Xx{W w1:World}{b c:Nat}{cs ds:Array Value}(hb:Below W.heap.size W w1)(h1:b<W.heap.size)(h2:c<W.heap.size)(d1:∀i,W.cell? ⟨b,i,none⟩=cs[i]?)(d2:∀i,W.cell? ⟨c,i,none⟩=ds[i]?):(∀i,w1.cell? ⟨b,i,none⟩=cs[i]?)/\(∀i,w1.cell? ⟨c,i,none⟩=ds[i]?):=⟨λi=>(hb.cell (p:=⟨b,i,none⟩) h1).trans (d1 i),λi=>(hb.cell (p:=⟨c,i,none⟩) h2).trans (d2 i)⟩
theorem OG(h:Hp)(v:Hv)(gs qs hs os:Sl)(p a:Nat)(w:World)(hf:HF h v)(hr:fZ h.lay=true)(hp:p=0\/((1<=p/\p<=4)/\(a:Int)<jG h.lay p)):
  Calls Tryz.prog 59 #[dA h v (aS gs) (aS qs) (aS hs) (aS os),.agg #[.int .i64 p,.int .i64 a]] w λe w'=>e=.returned (.int .u64 (AA h.lay p a))/\Below w.heap.size w w':=by
 obtain⟨vl,vh,vo,vf,vr⟩:=v
 obtain⟨⟨la,lc,e1⟩,⟨ha,hc,e2⟩,⟨oa,oc,e3⟩,⟨fa,fc,e4⟩,⟨ra,rn,rc,e5⟩⟩:=hf
 dsimp only at e1 e2 e3 e4 e5
 subst e1 e2 e3 e4 e5
 have HL:Hid (∀W,Calls Tryz.prog 83 #[fD h ⟨.slice la h.low.length lc,.slice ha h.high.length hc,.slice oa h.old.length oc,.slice fa h.far.length fc,.slice ra rn rc⟩] W λe w'=>e=.returned (eY h.lay)/\Below W.heap.size W w'):=Lib.hid λW=>uw h _ W ⟨_,_,rfl⟩ ⟨_,_,rfl⟩ ⟨_,_,rfl⟩ ⟨_,_,rfl⟩ ⟨_,_,_,rfl⟩
 rcases hp with rfl|⟨hp,ha2⟩
 ·have HR:Hid (AA h.lay 0 a=0):=rfl
  unfold dA jg aS
  dsimp only
  clear HL
  generalize h.low.length=m1 at*
  generalize h.high.length=m2 at*
  generalize h.old.length=m3 at*
  generalize h.far.length=m4 at*
  go_enter Tryz.func59,Tryz.ntmps59
  go_wp2_with fail
  go_ret
  refine⟨by rw[HR.out];rfl,?_⟩
  exact bm
 ·have HR:Hid (AA h.lay p a=2*(aA h.lay p+a)+1):=Lib.hid (by unfold AA;rw[if_neg (by omega)])
  have HA:Hid (∀W,Calls Tryz.prog 82 #[eY h.lay,.agg #[.int .i64 p,.int .i64 a]] W λe w'=>e=.returned (.tuple #[.int .u64 (aA h.lay p+a),.int .i64 0])/\Below W.heap.size W w'):=Lib.hid λW=>Jq h.lay p a hp W hr ha2
  have hpos:=qO hr (p:=(p:Int)) (x:=(a:Int)) (by omega) ⟨by omega,ha2⟩
  have HF5:Hid (∀W,Calls Tryz.prog 84 #[.int .u64 (aA h.lay p+a)] W λe w'=>e=.returned (.tuple #[.int .u64 (2*(aA h.lay p+a)+1),.int .i64 0])/\W=w'):=Lib.hid λW=>Xw _ W hpos.1 hpos.2
  have hp0:((p:Int)==0)=false:=by rw[beq_eq_false_iff_ne];omega
  rw[<-HR.out]at HF5
  generalize AA h.lay p a=RV at*
  generalize aA h.lay p+(a:Int)=AV at*
  generalize eY h.lay=LV at*
  unfold dA jg aS
  unfold fD at*
  dsimp only at*
  clear hr ha2 hpos hp HR
  generalize h.low.length=m1 at*
  generalize h.high.length=m2 at*
  generalize h.old.length=m3 at*
  generalize h.far.length=m4 at*
  go_enter Tryz.func59,Tryz.ntmps59
  go_upto_region 3 with(fail)
  have K1:aj ((w.alloc (.cells #[.int .u64 h.base,.int .i64 h.cap,.int .i64 h.tt,.bool h.dJ,.int .i64 h.scan,.slice la m1 lc,.slice ha m2 hc,.slice oa m3 oc,.slice fa m4 fc,.slice ra rn rc,.slice gs.fst gs.snd.fst gs.snd.snd,.slice qs.fst qs.snd.fst qs.snd.snd,.slice hs.fst hs.snd.fst hs.snd.snd,.slice os.fst os.snd.fst os.snd.snd] 64)).alloc (.cells #[.int .i64 p,.int .i64 a] 113)) w.heap.size #[.int .u64 h.base,.int .i64 h.cap,.int .i64 h.tt,.bool h.dJ,.int .i64 h.scan,.slice la m1 lc,.slice ha m2 hc,.slice oa m3 oc,.slice fa m4 fc,.slice ra rn rc,.slice gs.fst gs.snd.fst gs.snd.snd,.slice qs.fst qs.snd.fst qs.snd.snd,.slice hs.fst hs.snd.fst hs.snd.snd,.slice os.fst os.snd.fst os.snd.snd] 64:=(aj.new _ _ _).alloc _
  have K2:aj ((w.alloc (.cells #[.int .u64 h.base,.int .i64 h.cap,.int .i64 h.tt,.bool h.dJ,.int .i64 h.scan,.slice la m1 lc,.slice ha m2 hc,.slice oa m3 oc,.slice fa m4 fc,.slice ra rn rc,.slice gs.fst gs.snd.fst gs.snd.snd,.slice qs.fst qs.snd.fst qs.snd.snd,.slice hs.fst hs.snd.fst hs.snd.snd,.slice os.fst os.snd.fst os.snd.snd] 64)).alloc (.cells #[.int .i64 p,.int .i64 a] 113)) (w.heap.size+1) #[.int .i64 p,.int .i64 a] 113:=aj.mk (by simp)
  have kW:Below w.heap.size w ((w.alloc (.cells #[.int .u64 h.base,.int .i64 h.cap,.int .i64 h.tt,.bool h.dJ,.int .i64 h.scan,.slice la m1 lc,.slice ha m2 hc,.slice oa m3 oc,.slice fa m4 fc,.slice ra rn rc,.slice gs.fst gs.snd.fst gs.snd.snd,.slice qs.fst qs.snd.fst qs.snd.snd,.slice hs.fst hs.snd.fst hs.snd.snd,.slice os.fst os.snd.fst os.snd.snd] 64)).alloc (.cells #[.int .i64 p,.int .i64 a] 113)):=by exact bm
  generalize(w.alloc (.cells #[.int .u64 h.base,.int .i64 h.cap,.int .i64 h.tt,.bool h.dJ,.int .i64 h.scan,.slice la m1 lc,.slice ha m2 hc,.slice oa m3 oc,.slice fa m4 fc,.slice ra rn rc,.slice gs.fst gs.snd.fst gs.snd.snd,.slice qs.fst qs.snd.fst qs.snd.snd,.slice hs.fst hs.snd.fst hs.snd.snd,.slice os.fst os.snd.fst os.snd.snd] 64)).alloc (.cells #[.int .i64 p,.int .i64 a] 113)=W0 at*
  obtain⟨l1,d1,f1⟩:=K1.get
  obtain⟨l2,d2,f2⟩:=K2.get
  go_region_held3 (λw'=>(∀i,w'.cell? ⟨w.heap.size,i,none⟩= #[.int .u64 h.base,.int .i64 h.cap,.int .i64 h.tt,.bool h.dJ,.int .i64 h.scan,.slice la m1 lc,.slice ha m2 hc,.slice oa m3 oc,.slice fa m4 fc,.slice ra rn rc,.slice gs.fst gs.snd.fst gs.snd.snd,.slice qs.fst qs.snd.fst qs.snd.snd,.slice hs.fst hs.snd.fst hs.snd.snd,.slice os.fst os.snd.fst os.snd.snd][i]?)/\(∀i,w'.cell? ⟨w.heap.size+1,i,none⟩= #[Value.int .i64 p,.int .i64 a][i]?))
   (first|(refine Xx (W:=W0) ?_ l1 l2 d1 d2;exact bm))
   (first
    |(go_at_call 83;refine(HL.out _).mono ?_;rintro e w3 ⟨rfl,k3⟩)
    |(go_at_call 82;refine(HA.out _).mono ?_;rintro e w4 ⟨rfl,k4⟩))
  go_wp2_with fail
  refine(HF5.out _).mono ?_;rintro e w5 ⟨rfl,rfl⟩
  go_wp2_with fail
  go_ret
  refine⟨rfl,?_⟩
  exact bm
end Go.Proofs.YtpgjploaliefdaaGreat.rh
namespace Go.Proofs.YtpgjploaliefdaaGreat.rf
open Go Go.RowKit hp ob hd cp ck gr lx rh
set_option linter.unusedVariables false
set_option linter.unusedSimpArgs false
set_option maxRecDepth 100000
set_option maxHeartbeats 4000000
theorem FY(h:Hp)(v:Hv)(p a:Nat)(w:World)(hf:HF h v)(hr:fZ h.lay=true)(hp:1<=p/\p<=4)(ha:(a:Int)<jG h.lay p):
  Calls Tryz.prog 64 #[fD h v,.int .i64 p,.int .i64 a] w λe w'=>e=.returned (.int .u64 (aA h.lay p+a))/\Below w.heap.size w w':=by
 have HL:Hid (∀W,Calls Tryz.prog 83 #[fD h v] W λe w'=>e=.returned (eY h.lay)/\Below W.heap.size W w'):=Lib.hid λW=>uw h v W hf.l hf.hi hf.o hf.f hf.r
 have HA:Hid (∀W,Calls Tryz.prog 82 #[eY h.lay,.agg #[.int .i64 p,.int .i64 a]] W λe w'=>e=.returned (.tuple #[.int .u64 (aA h.lay p+a),.int .i64 0])/\Below W.heap.size W w'):=Lib.hid λW=>Jq h.lay p a hp W hr ha
 clear hr hp ha
 generalize aA h.lay p+(a:Int)=AV at*
 generalize eY h.lay=LV at*
 obtain⟨vl,vh,vo,vf,vr⟩:=v
 obtain⟨⟨la,lc,e1⟩,⟨ha,hc,e2⟩,⟨oa,oc,e3⟩,⟨fa,fc,e4⟩,⟨ra,rn,rc,e5⟩⟩:=hf
 dsimp only at e1 e2 e3 e4 e5
 subst e1 e2 e3 e4 e5
 unfold fD at*
 dsimp only at*
 generalize h.base=B1 at*
 generalize h.cap=C1 at*
 generalize h.tt=T1 at*
 generalize h.dJ=Y1 at*
 generalize h.scan=S1 at*
 generalize h.low.length=m1 at*
 generalize h.high.length=m2 at*
 generalize h.old.length=m3 at*
 generalize h.far.length=m4 at*
 generalize rn=m5 at*
 go_enter Tryz.func64,Tryz.ntmps64
 go_wp2_with fail
 refine(HL.out _).mono ?_;rintro e w1 ⟨rfl,k1⟩
 go_wp2_with fail
 refine(HA.out _).mono ?_;rintro e w2 ⟨rfl,k2⟩
 go_wp2_with fail
 go_ret
 exact⟨rfl,bm⟩
def ZN:Ob:=⟨0,0,0,false,0⟩
theorem UA{L:Lay}{p:Int}{os:List Ob}{A:Int}{k:Nat}(hk:k<os.length):ug L p (os.drop k) A=if aA L p+(dL os k).pos=A then some (dL os k)else ug L p (os.drop (k+1)) A:=by
 rw[tN hk]
 unfold ug
 rw[List.find?_cons]
 by_cases e:aA L p+(dL os k).pos=A
 ·rw[if_pos e];simp[e]
 ·rw[if_neg e];simp[e]
theorem L9(h:Hp)(v:Hv)(p:Nat)(u:Value)(os:List Ob)(A:Int)(w:World)(hf:HF h v)(hr:fZ h.lay=true)(hp:1<=p/\p<=4)(ho:bT w u os)(hin:∀o∈os,0<=o.pos/\o.pos<jG h.lay p):
  Calls Tryz.prog 90 #[fD h v,.int .i64 p,u,.int .u64 A] w λe w'=>e=.returned (.tuple #[oV ((ug h.lay p os A).getD ZN),.bool (ug h.lay p os A).isSome])/\Below w.heap.size w w':=by
 have HS:Hid (∀W k,k<os.length->Calls Tryz.prog 64 #[fD h v,.int .i64 p,.int .i64 (dL os k).pos] W λe w'=>e=.returned (.int .u64 (aA h.lay p+(dL os k).pos))/\Below W.heap.size W w'):=Lib.hid λW k hk=>by
  have hm:dL os k∈os:=by unfold dL;rw[List.getD_eq_getElem?_getD,List.getElem?_eq_getElem hk];exact List.getElem_mem hk
  obtain⟨h1,h2⟩:=hin _ hm
  obtain⟨a,ea⟩:=Int.eq_ofNat_of_zero_le h1
  have:=FY h v p a W hf hr hp (by omega)
  rwa[<-ea]at this
 have HD:Hid (∀k,k<os.length->ug h.lay p (os.drop k) A=if aA h.lay p+(dL os k).pos=A then some (dL os k)else ug h.lay p (os.drop (k+1)) A):=Lib.hid λk hk=>UA hk
 have HE:Hid (ug h.lay p (os.drop os.length) A=none):=Lib.hid (by rw[List.drop_length];rfl)
 obtain⟨ad,b,off,cap,rfl,⟨a1,a2⟩,a3,a4,a5,a6⟩:=ho
 have HA:=Lib.hid a1
 have HC:=Lib.hid a6
 clear hr hp a1 a2 a6 hin
 generalize hL:h.lay=L at*
 clear hL
 obtain⟨vl,vh,vo,vf,vr⟩:=v
 obtain⟨⟨la,lc,e1⟩,⟨ha,hc,e2⟩,⟨oa,oc,e3⟩,⟨fa,fc,e4⟩,⟨ra,rn,rc,e5⟩⟩:=hf
 dsimp only at e1 e2 e3 e4 e5
 subst e1 e2 e3 e4 e5
 unfold fD at*
 dsimp only at*
 generalize hn:os.length=n at*
 have HN:=Lib.hid hn
 clear hn
 generalize hQ:(λk=>ug L p (os.drop k) A)=Q at*
 have YR:∀k,ug L p (os.drop k) A=Q k:=λk=>by rw[<-hQ]
 have h0:ug L p os A=Q 0:=by rw[<-hQ];rfl
 simp only[YR]at HD HE
 rw[h0]
 clear h0 YR hQ
 generalize h.base=B1 at*
 generalize h.cap=C1 at*
 generalize h.tt=T1 at*
 generalize h.dJ=Y1 at*
 generalize h.scan=S1 at*
 generalize h.low.length=m1 at*
 generalize h.high.length=m2 at*
 generalize h.old.length=m3 at*
 generalize h.far.length=m4 at*
 generalize rn=m5 at*
 go_enter Tryz.func90,Tryz.ntmps90
 go_upto_region 1 with(fail)
 have K1:aj ((w.alloc (.cells #[Value.int .u64 B1,.int .i64 C1,.int .i64 T1,.bool Y1,.int .i64 S1,.slice la m1 lc,.slice ha m2 hc,.slice oa m3 oc,.slice fa m4 fc,.slice ra m5 rc] 32)).alloc (.cells #[.int .i64 0,.int .i64 0,.int .i64 0,.bool false,.int .u64 0] 58)) w.heap.size #[Value.int .u64 B1,.int .i64 C1,.int .i64 T1,.bool Y1,.int .i64 S1,.slice la m1 lc,.slice ha m2 hc,.slice oa m3 oc,.slice fa m4 fc,.slice ra m5 rc] 32:=(aj.new _ _ _).alloc _
 have K2:aj ((w.alloc (.cells #[Value.int .u64 B1,.int .i64 C1,.int .i64 T1,.bool Y1,.int .i64 S1,.slice la m1 lc,.slice ha m2 hc,.slice oa m3 oc,.slice fa m4 fc,.slice ra m5 rc] 32)).alloc (.cells #[.int .i64 0,.int .i64 0,.int .i64 0,.bool false,.int .u64 0] 58)) (w.heap.size+1) _ 58:=aj.mk (by simp)
 have kW:Below w.heap.size w ((w.alloc (.cells #[Value.int .u64 B1,.int .i64 C1,.int .i64 T1,.bool Y1,.int .i64 S1,.slice la m1 lc,.slice ha m2 hc,.slice oa m3 oc,.slice fa m4 fc,.slice ra m5 rc] 32)).alloc (.cells #[.int .i64 0,.int .i64 0,.int .i64 0,.bool false,.int .u64 0] 58)):=bm
 generalize(w.alloc (.cells #[Value.int .u64 B1,.int .i64 C1,.int .i64 T1,.bool Y1,.int .i64 S1,.slice la m1 lc,.slice ha m2 hc,.slice oa m3 oc,.slice fa m4 fc,.slice ra m5 rc] 32)).alloc (.cells #[.int .i64 0,.int .i64 0,.int .i64 0,.bool false,.int .u64 0] 58)=W0 at*
 have hK1:=Lib.hid K1
 have hK2:=Lib.hid K2
 clear K1 K2
 go_wp2_with fail
 go_loopw [10] (λi wr=>∃k:Nat,k<=n/\i=.int .i64 k/\Hid (Q 0=Q k)/\Below W0.heap.size W0 wr) (λi _=>n-(intOf i).toNat)
 case atStart=>exact⟨0,Nat.zero_le _,rfl,rfl,Below.refl _ _⟩
 case round=>
  obtain⟨k,hk,rfl,hq,bel⟩:=hrel
  have K1:=hK1.out.tr bel
  have K2:=hK2.out.tr bel
  obtain⟨l1,d1,f1⟩:=K1.get
  obtain⟨l2,d2,f2⟩:=K2.get
  by_cases hlt:k<n
  ·obtain rfl:=HA.out (by omega)
   have hxk:=((HC.out.block (kW.block b a5)).block (bel.block b (Nat.lt_of_lt_of_le a5 kW.size))).at k hlt
   have Qs:=Lib.hid λW=>HS.out W k hlt
   have HDk:=Lib.hid (HD.out k hlt)
   generalize dL os k=o at*
   obtain⟨p0,s0,q0,g0,t0⟩:=o
   obtain⟨x0,x1,x2,x3,x4⟩:=hxk
   dsimp only at x0 x1 x2 x3 x4 Qs HDk
   generalize aA L p+p0=SV at*
   have hbl:b<wr.heap.size:=Nat.lt_of_lt_of_le (Nat.lt_of_lt_of_le a5 kW.size) bel.size
   go_upto_region 4 with(fail)
   have mZ:Hid (∀W':World,Below wr.heap.size wr W'->(∀i,W'.cell? ⟨w.heap.size,i,none⟩= #[Value.int .u64 B1,.int .i64 C1,.int .i64 T1,.bool Y1,.int .i64 S1,.slice la m1 lc,.slice ha m2 hc,.slice oa m3 oc,.slice fa m4 fc,.slice ra m5 rc][i]?)/\W'.cell? ⟨b,off+k*5,none⟩=some (.int .i64 p0)):=Lib.hid λW' h=>⟨(K1.tr h).get.2.1,ah h x0⟩
   refine wp_region_held_drew (S:=(λW'=>(∀i,W'.cell? ⟨w.heap.size,i,none⟩= #[Value.int .u64 B1,.int .i64 C1,.int .i64 T1,.bool Y1,.int .i64 S1,.slice la m1 lc,.slice ha m2 hc,.slice oa m3 oc,.slice fa m4 fc,.slice ra m5 rc][i]?)/\W'.cell? ⟨b,off+k*5,none⟩=some (.int .i64 p0))) (by kernel_rfl) ?_ (λhHeld=> ?_)
   ·(try dsimp only);exact mZ.out _ bm
   refine tk 0 ?_
   refine tk 1 ?_
   refine tk 2 ?_
   refine tk 3 ?_
   refine tk 4 ?_
   refine tk 5 ?_
   refine tk 6 ?_
   refine tk 8 ?_
   refine co 7 λK hK=> ?_
   go_simp
   go_at_call 64;refine(Qs.out _).mono ?_;rintro e w2 ⟨rfl,k2⟩;go_wp2_with fail
   refine hK.out _ _ ?_ (λhHeld=> ?_)
   ·(try dsimp only);exact mZ.out _ bm
   clear hK K
   refine nx ?_
   refine tk 9 ?_
   refine wpAnyH_done (by kernel_rfl) ?_ _
   have k2':Below wr.heap.size wr w2:=bm
   have K2':=K2.tr k2'
   obtain⟨l2',d2',f2'⟩:=K2'.get
   have y0:=ah k2' x0
   have y1:=ah k2' x1
   have y2:=ah k2' x2
   have y3:=ah k2' x3
   have y4:=ah k2' x4
   by_cases hA:SV=A
   ·have HR:Hid (Q 0=some ⟨p0,s0,q0,g0,t0⟩):=Lib.hid (by rw[hq.out,HDk.out,if_pos hA])
    subst hA
    go_wp2_with fail
    refine bodyPost_ret (v:=.tuple #[.agg #[.int .i64 p0,.int .i64 s0,.int .i64 q0,.bool g0,.int .u64 t0],.bool true]) (by simp only[results,Tryz.results90];go_simp) rfl ⟨?_,?_⟩
    ·rw[HR.out];rfl
    ·exact bm
   ·have HR:Hid (Q 0=Q (k+1)):=Lib.hid (by rw[hq.out,HDk.out,if_neg hA])
    go_wp2_with fail
    exact⟨⟨k+1,by omega,by go_num,HR,bm⟩,by simp[intOf];omega⟩
  ·obtain rfl:k=n:=by omega
   have HR:Hid (Q 0=none):=Lib.hid (hq.out.trans HE.out)
   go_wp2_with fail
   refine bodyPost_ret (v:=.tuple #[.agg #[.int .i64 0,.int .i64 0,.int .i64 0,.bool false,.int .u64 0],.bool false]) (by simp only[results,Tryz.results90];go_simp) rfl ⟨?_,?_⟩
   ·rw[HR.out];rfl
   ·exact bm
end Go.Proofs.YtpgjploaliefdaaGreat.rf
namespace Go.Proofs.YtpgjploaliefdaaGreat.rf
open Go Go.RowKit hp ob hd cp ck gr lx rh
set_option linter.unusedVariables false
set_option linter.unusedSimpArgs false
set_option maxRecDepth 100000
set_option maxHeartbeats 4000000
def AZ(x:Int×Int):List Value:=[.int .i64 x.1,.int .i64 x.2]
theorem zM(x:Int×Int):(AZ x).length=2:=rfl
theorem UC(x:Int×Int):∀u∈AZ x,u.oneCell'=true:=λu hu=>by
 unfold AZ at hu
 simp only[List.mem_cons,List.not_mem_nil,or_false]at hu
 rcases hu with rfl|rfl<;>rfl
theorem Xy:(Tryz.prog.info? 56).map (λi=>(i.zero,i.size,i.bytes))=some (some (.agg #[.int .i64 0,.int .i64 0]),2,16):=by kernel_rfl
theorem ZO{ops:Array Oper}{rest:List Oper}{o:Oper}{a:Act}{Q:Exit->Act->World->Prop}(w:World)(hw:Region.wanted o (yielded ops a.tmps)=true)(s x:Operand)
  (ho:o.op=.call {callee:=.builtin .append,args:= #[s,x],argTypes:= #[39,39]})
  (B:Nat) (v u:Value) (xs ys:List (Int×Int)) (hs:a.eval s=v) (hx:a.eval x=u) (hown:ak 56 2 AZ w B v xs) (hys:fH 2 AZ w u ys) (hbig:xs.length+ys.length<100000000000) (hB:B<=w.heap.size)
  (h:∀v' w',ak 56 2 AZ w' B v' (xs++ys)->w.grownBy w' v.ownBlock->(v'.ownBlock=v.ownBlock\/v'.ownBlock=some w.heap.size)->wpList Tryz.prog ops Q rest (a.put o.dst v') w'):wpList Tryz.prog ops Q (o::rest) a w:=
 Fq (k:=2) (en:=AZ) w hw s x _ ho zM UC _ 16 Tryz.underlying39 Xy rfl (by decide) (by decide) B v u xs ys hs hx hown hys hbig hB h
theorem ZP(w:World)(x:Int×Int){m:Nat}(hm:m=w.heap.size):fH 2 AZ (w.alloc (.cells #[.int .i64 x.1,.int .i64 x.2] 56)) (.slice (some ⟨m,0,none⟩) 1 1) [x]:=jC w x _ rfl _ hm
def UD(B:Nat)(r:Option (List (Int×Int)))(e:Ending)(w':World):Prop:=
 match r with
 |some ss=>∃X,e=.returned (.tuple #[X,.bool true])/\ak 56 2 AZ w' B X ss
 |none=>e=.returned (.tuple #[.slice none 0 0,.bool false])
theorem Hu{L:Lay}{low:List Ob}{zs:List Int}{f i:Nat}{acc:List (Int×Int)}(hi:i<zs.length):fV L low zs (f+1) i acc=if mD (zs.getD i 0)=0 then
        (match ug L 1 low (gB (zs.getD i 0))with
        |none=>none
        |some o=>fV L low zs f (i+1+o.s.toNat) (acc++[(o.s,o.p)]))
   else if rE (zs.getD i 0)=0 then fV L low zs f (i+1+(rD (zs.getD i 0)).toNat) acc else none:=by
 conv=>lhs;unfold fV
 rw[if_pos hi]
 rfl
theorem uy(h:Hp)(v:Hv)(u lv:Value)(zs:List Int)(low:List Ob)(w:World)(hf:HF h v)(hr:fZ h.lay=true)(hz:aN w u zs)(hs:Small zs)(hlen:zs.length<1000000)(ho:bT w lv low)(hin:∀o∈low,(0<=o.pos/\o.pos<jG h.lay 1)/\0<=o.s/\o.s<=255):
  Calls Tryz.prog 89 #[fD h v,u,lv] w λe w'=>UD w.heap.size (Ot h.lay low zs) e w'/\Below w.heap.size w w':=by
 have HAT:Hid (∀W A,Below w.heap.size w W->Calls Tryz.prog 90 #[fD h v,.int .i64 1,lv,.int .u64 A] W λe w'=>e=.returned (.tuple #[oV ((ug h.lay 1 low A).getD ZN),.bool (ug h.lay 1 low A).isSome])/\Below W.heap.size W w'):=Lib.hid λW A hb=>L9 h v 1 lv low A W hf hr (by omega) (ho.tr hb) λo k=>(hin o k).1
 have Qu:Hid (∀A o,ug h.lay 1 low A=some o->0<=o.s/\o.s<=255):=Lib.hid λA o e=>(hin o (zD e).1).2
 have HZ:=Lib.hid hs
 obtain⟨ad,b,off,cap,rfl,⟨a1,a2⟩,a3,a4,a5,a6⟩:=hz
 have HA:=Lib.hid a1
 have HC:=Lib.hid a6
 obtain⟨lad,lb,lof,amC,rfl,_⟩:=ho
 generalize hL:h.lay=L at*
 have HST:Hid (∀(f i:Nat)acc,i<zs.length->fV L low zs (f+1) i acc=if mD (zs.getD i 0)=0 then
    (match ug L 1 low (gB (zs.getD i 0))with
    |none=>none
    |some o=>fV L low zs f (i+1+o.s.toNat) (acc++[(o.s,o.p)]))
   else if rE (zs.getD i 0)=0 then fV L low zs f (i+1+(rD (zs.getD i 0)).toNat) acc else none):=Lib.hid λf i acc hi=>Hu hi
 have HEN:Hid (∀(f i:Nat)acc,¬i<zs.length->fV L low zs (f+1) i acc=some acc):=Lib.hid λf i acc hi=>by
  unfold fV
  rw[if_neg hi]
 have HSH:Hid (Ot L low zs=fV L low zs (zs.length+1) 0 []):=rfl
 have HUN:Hid (∀W z,0<=z/\z<18446744073709551616->Calls Tryz.prog 72 #[.int .u64 z] W λe w'=>e=.returned (.tuple #[.agg #[.int .i64 (rD z),.int .i64 (BL z)],.int .i64 (rE z)])/\Below W.heap.size W w'):=Lib.hid λW z hz=>kK z W hz.1 hz.2
 have HAD:Hid (∀W z,0<=z/\z<18446744073709551616->Calls Tryz.prog 53 #[.int .u64 z] W λe w'=>e=.returned (.tuple #[.int .u64 (gB z),.int .i64 (mD z)])/\W=w'):=Lib.hid λW z hz=>iT z W hz.1 hz.2
 have YN:Hid (∀z,0<=rD z/\rD z<=255):=Lib.hid λz=>by
  cases k:jF z with
  |true=>exact rX k
  |false=>unfold rD;rw[k];simp
 clear hr hin hs a1 a2 a6 hL
 generalize Ot L low zs=SH at*
 obtain⟨vl,vh,vo,vf,vr⟩:=v
 obtain⟨⟨la,lc,e1⟩,⟨ha,hc,e2⟩,⟨oa,oc,e3⟩,⟨fa,fc,e4⟩,⟨ra,rn,rc,e5⟩⟩:=hf
 dsimp only at e1 e2 e3 e4 e5
 subst e1 e2 e3 e4 e5
 unfold fD oV at*
 dsimp only at*
 generalize hn:zs.length=n at*
 have HN:=Lib.hid hn
 clear hn
 generalize low.length=ln at*
 generalize h.base=B1 at*
 generalize h.cap=C1 at*
 generalize h.tt=T1 at*
 generalize h.dJ=Y1 at*
 generalize h.scan=S1 at*
 generalize h.low.length=m1 at*
 generalize h.high.length=m2 at*
 generalize h.old.length=m3 at*
 generalize h.far.length=m4 at*
 generalize rn=m5 at*
 go_enter Tryz.func89,Tryz.ntmps89
 go_upto_region 1 with(fail)
 have K1:=Lib.hid (aj.new w #[Value.int .u64 B1,.int .i64 C1,.int .i64 T1,.bool Y1,.int .i64 S1,.slice la m1 lc,.slice ha m2 hc,.slice oa m3 oc,.slice fa m4 fc,.slice ra m5 rc] 32)
 have kW:Below w.heap.size w (w.alloc (.cells #[Value.int .u64 B1,.int .i64 C1,.int .i64 T1,.bool Y1,.int .i64 S1,.slice la m1 lc,.slice ha m2 hc,.slice oa m3 oc,.slice fa m4 fc,.slice ra m5 rc] 32)):=bm
 generalize w.alloc (.cells #[Value.int .u64 B1,.int .i64 C1,.int .i64 T1,.bool Y1,.int .i64 S1,.slice la m1 lc,.slice ha m2 hc,.slice oa m3 oc,.slice fa m4 fc,.slice ra m5 rc] 32)=W0 at*
 go_wp2_with fail
 go_loopw [9,8] (λi x wr=>∃(k f:Nat)(acc:List (Int×Int)),i=.int .i64 k/\(n<f+k/\1<=f)/\k<=n+256/\acc.length<=k/\Hid (SH=fV L low zs f k acc)/\Hid (ak 56 2 AZ wr W0.heap.size x acc)/\Below W0.heap.size W0 wr) (λi _ _=>n+256-(intOf i).toNat)
 case atStart=>exact⟨0,n+1,[],rfl,by omega,by omega,Nat.zero_le _,Lib.hid HSH.out,Lib.hid (ak.nil _ _),Below.refl _ _⟩
 case round=>
  obtain⟨k,f,acc,rfl,hf1,hkn,hak,hsh,hown,bel⟩:=hrel
  obtain⟨va,vl,vc,rfl⟩:=aH hown.out zM
  have YS:=K1.out.tr bel
  obtain⟨l1,d1,f1⟩:=YS.get
  by_cases hlt:k<n
  ·obtain⟨f,rfl⟩:∃m,f=m+1:=⟨f-1,by omega⟩
   obtain rfl:=HA.out (by omega)
   have hxk:=((HC.out.block (kW.block b a5)).block (bel.block b (Nat.lt_of_lt_of_le a5 kW.size))).at k hlt
   have rU:=HZ.out k
   have hst:=Lib.hid (hsh.out.trans (HST.out f k acc hlt))
   have hus:=YN.out (zs.getD k 0)
   generalize zs.getD k 0=Z at*
   have agc:=Lib.hid λW=>HUN.out W Z rU
   have Qv:=Lib.hid λW=>HAD.out W Z rU
   have Mc:=Lib.hid λW hb=>HAT.out W (gB Z) hb
   have acK:=Lib.hid (Qu.out (gB Z))
   generalize rD Z=US at*
   generalize BL Z=UP at*
   generalize hUE:rE Z=UE at*
   generalize hAE:mD Z=AE at*
   generalize gB Z=AV at*
   clear hUE hAE
   go_wp2_with fail
   refine(agc.out _).mono ?_;rintro e w2 ⟨rfl,k2⟩
   have hx2:=ah k2 hxk
   have hbl:b<w2.heap.size:=World.block_lt_of_cell? _ _ hx2
   have K1b:=YS.tr k2
   obtain⟨l2,d2,f2⟩:=K1b.get
   have Xz:=Lib.hid (hown.out.tr k2)
   go_wp2_with fail
   refine(Qv.out _).mono ?_;rintro e w3 ⟨rfl,rfl⟩
   have KS:aj (w2.alloc (.cells #[.int .i64 US,.int .i64 UP] 56)) w2.heap.size #[.int .i64 US,.int .i64 UP] 56:=aj.new _ _ _
   have b23:Below w2.heap.size w2 (w2.alloc (.cells #[.int .i64 US,.int .i64 UP] 56)):=bm
   have bw2:Below w.heap.size w w2:=au kW (au bel k2)
   have hW2:W0.heap.size<=w2.heap.size:=Nat.le_trans bel.size k2.size
   have hol:∀g,(Value.slice va vl vc).ownBlock=some g->g<w2.heap.size:=ak.lt Xz.out
   have bel2:Below W0.heap.size W0 w2:=au bel k2
   have amF:(w2.alloc (.cells #[.int .i64 US,.int .i64 UP] 56)).heap.size=w2.heap.size+1:=by simp
   clear k2 hxk l1 d1 f1 l2 d2 f2 hx2 bel YS hown
   generalize w2.alloc (.cells #[.int .i64 US,.int .i64 UP] 56)=w3 at*
   have K1c:=K1b.tr b23
   obtain⟨l1c,c1c,f1c⟩:=K1c.get
   obtain⟨lS,cS,fS⟩:=KS.get
   by_cases hAE:AE=0
   ·subst hAE
    replace hst:=Lib.hid (hst.out.trans (if_pos rfl))
    cases hat:ug L 1 low AV with
    |none=>
     rw[hat]at Mc hst
     simp only[Option.getD_none,Option.isSome_none,ZN]at Mc hst
     go_wp2_with fail
     refine(Mc.out _ bm).mono ?_;rintro e w4 ⟨rfl,k4⟩
     go_wp2_with fail
     go_ret2
     exact⟨by rw[hst.out];rfl,bm⟩
    |some o=>
     rw[hat]at Mc hst
     have hs5:=acK.out _ hat
     simp only[Option.getD_some,Option.isSome_some]at Mc hst
     obtain⟨o0,o1,o2,o3,o4⟩:=o
     dsimp only at Mc hst hs5
     obtain⟨S,rfl⟩:=Int.eq_ofNat_of_zero_le hs5.1
     clear hat acK
     go_wp2_with fail
     refine(Mc.out _ bm).mono ?_;rintro e w4 ⟨rfl,k4⟩
     have K4:=KS.tr k4
     obtain⟨l4,c4,f4⟩:=K4.get
     have own4:=Lib.hid ((Xz.out.tr b23).tr k4)
     go_upto_region 12 with(fail)
     have KT:aj (((w4.setCell ⟨w2.heap.size,0,none⟩ (.int .i64 S)).setCell ⟨w2.heap.size,1,none⟩ (.int .i64 o2)).alloc (.cells #[.int .i64 o0,.int .i64 S,.int .i64 o2,.bool o3,.int .u64 o4] 58)) w2.heap.size #[.int .i64 S,.int .i64 o2] 56:=((K4.set 0 _).set 1 _).alloc _
     have b25:Below w2.heap.size w2 (((w4.setCell ⟨w2.heap.size,0,none⟩ (.int .i64 S)).setCell ⟨w2.heap.size,1,none⟩ (.int .i64 o2)).alloc (.cells #[.int .i64 o0,.int .i64 S,.int .i64 o2,.bool o3,.int .u64 o4] 58)):=by
      have k24:Below w2.heap.size w2 w4:=au b23 k4
      clear b23 k4
      exact bm
     clear K4 l4 c4 f4 own4 k4 K1c l1c c1c f1c lS cS fS KS
     generalize(((w4.setCell ⟨w2.heap.size,0,none⟩ (.int .i64 S)).setCell ⟨w2.heap.size,1,none⟩ (.int .i64 o2)).alloc (.cells #[.int .i64 o0,.int .i64 S,.int .i64 o2,.bool o3,.int .u64 o4] 58))=w5 at*
     have acL:=Lib.hid (Xz.out.tr b25)
     have amJ:=b25.size
     obtain⟨lT,cT,fT⟩:=KT.get
     go_wp2_with (at_builtin;refine ZO _ rfl _ _ rfl W0.heap.size _ _ acc [((S:Int),o2)] rfl rfl (acL.out.tr ?e0) (ZP _ ((S:Int),o2) rfl) ?c0 ?c1 ?c2)
     case e0=>exact bm
     case c0=>simp;omega
     case c1=>simp;omega
     case c2=>
     intro v6 w6 o6 qJ uz
     have H6:Hid (ak 56 2 AZ w6 W0.heap.size v6 (acc++[((S:Int),o2)])):=Lib.hid o6
     have KT6:aj w6 w2.heap.size #[.int .i64 S,.int .i64 o2] 56:=aj.of ((qJ.block w2.heap.size (by simp;omega) (by
      intro e
      have:=hol w2.heap.size e.symm
      omega)).trans (KT.alloc _).raw)
     have b6:Below W0.heap.size W0 w6:=dF qJ (au bel2 (au b25 (gu (Below.refl _ _) _))) (Nat.le_refl _) acL.out.block
     clear o6 qJ uz KT cT fT lT
     obtain⟨lT,cT,fT⟩:=KT6.get
     have hw1:IntKind.i64.wrap ((k:Int)+1)=((k+1:Nat):Int):=by rw[IntWalk.i64_in _ (by omega)];omega
     have hw2:IntKind.i64.wrap (((k+1:Nat):Int)+(S:Int))=((k+1+S:Nat):Int):=by rw[IntWalk.i64_in _ (by omega)];omega
     go_wp2_with fail
     exact⟨⟨k+1+S,f,acc++[((S:Int),o2)],by first|rfl|simp,by omega,by omega,by simp;omega,Lib.hid (by rw[hst.out];simp),H6,b6⟩,by simp[intOf];omega⟩
   ·replace hst:=Lib.hid (hst.out.trans (if_neg hAE))
    by_cases hUE:UE=0
    ·subst hUE
     replace hst:=Lib.hid (hst.out.trans (if_pos rfl))
     obtain⟨S,rfl⟩:=Int.eq_ofNat_of_zero_le hus.1
     have hw1:IntKind.i64.wrap ((k:Int)+1)=((k+1:Nat):Int):=by rw[IntWalk.i64_in _ (by omega)];omega
     have hw2:IntKind.i64.wrap (((k+1:Nat):Int)+(S:Int))=((k+1+S:Nat):Int):=by rw[IntWalk.i64_in _ (by omega)];omega
     have H3:=Lib.hid (Xz.out.tr b23)
     have H4:Below W0.heap.size W0 w3:=au bel2 b23
     go_wp2_with fail
     exact⟨⟨k+1+S,f,acc,by first|rfl|simp,by omega,by omega,by omega,Lib.hid (by rw[hst.out];simp),H3,H4⟩,by simp[intOf];omega⟩
    ·replace hst:=Lib.hid (hst.out.trans (if_neg hUE))
     go_wp2_with fail
     go_ret2
     exact⟨by rw[hst.out];rfl,bm⟩
  ·obtain⟨f,rfl⟩:∃m,f=m+1:=⟨f-1,by omega⟩
   have hst:=Lib.hid (hsh.out.trans (HEN.out f k acc hlt))
   have H3:Hid (ak 56 2 AZ wr w.heap.size (.slice va vl vc) acc):=Lib.hid (ak.lift hown.out kW.size)
   go_wp2_with fail
   go_ret2
   exact⟨by rw[hst.out];exact⟨_,rfl,H3.out⟩,bm⟩
end Go.Proofs.YtpgjploaliefdaaGreat.rf
namespace Go.Proofs.YtpgjploaliefdaaGreat.rh
open Go.ChangeShapes Go.WideShapes Go.ChangeAt Go.RowKit Go.Joins gr lx hp
set_option linter.unusedVariables false
set_option linter.unusedSimpArgs false
set_option maxRecDepth 100000
section
variable {H : Type} {enc : TypeId × Value → H} {w : World} {base : Nat} {spare : Nat → Bool} {held : Bool} {P : Program}
theorem D9{α:Type}{k:Nat}{en:α->List Value}{ok:α->Prop}{T E:TypeId}{c:Value}{m0:Nat}{y0:DataW H×List MemPlace}(hT:P.underlying T=some (.slice E))(hC:P.cellsOf E=k)(hk0:0<k)
  (hrd:∀(n:Nat)(cs:List Value)(y:DataW H×List MemPlace),DataW.trod enc P w base spare held n E cs=some y->∃x:α,cs=en x/\(en x).length=k/\ok x)
  (hf:DataW.trod enc P w base spare held m0 T [c]=some y0):∃l:List α,fH k en w c l/\∀x∈l,ok x:=by
 rcases Go.Deep.open_slice hT hf with⟨hcs,_⟩|⟨a,len,cap,m,n,D,Pl,hcs,_,hl,hm,hmm,_,hx⟩
 ·simp at hcs
  subst hcs
  exact⟨[],fH.nil,λx hx=>by simp at hx⟩
 ·simp at hcs
  subst hcs
  have hml:len<=m:=by rw[hmm];split<;>omega
  have key:∀i,i<len->∃x:α,(∀j y,(en x)[j]? =some y->w.cell? ((a.add (i*k)).add j)=some y)/\(en x).length=k/\ok x:=by
   intro i hi
   obtain⟨cs',h1,h2⟩:=hx i (by omega)
   rw[hC]at h1
   obtain⟨_,hz,hcell⟩:=World.cells?_some h1
   obtain⟨x,rfl,hlk,hok⟩:=hrd _ _ _ h2
   refine⟨x,λj y hy=> ?_,hlk,hok⟩
   have hj:j<(en x).length:=by
    rcases Nat.lt_or_ge j (en x).length with h|h
    ·exact h
    ·rw[List.getElem?_eq_none h]at hy;cases hy
   rw[hcell j (by omega),hy]
  obtain⟨l,hll,hp⟩:=Jp key
  refine⟨l,?_,λx hx=> ?_⟩
  ·have hspot:0<len->a=⟨a.block,a.off,none⟩/\a.block<w.heap.size:=λh0=>by
    have hx0:l[0]? =some l[0]:=List.getElem?_eq_getElem (by omega)
    obtain⟨h1,h2,_⟩:=hp 0 _ hx0
    have hlt:0<(en l[0]).length:=by omega
    have h3:=h1 0 _ (List.getElem?_eq_getElem hlt)
    rw[Nat.zero_mul]at h3
    have e0:(a.add 0).add 0=a:=by unfold Addr.add;simp
    rw[e0]at h3
    exact⟨zJ h3,World.block_lt_of_cell? _ _ h3⟩
   refine fH.mk (ad:=some a) (b:=a.block) (off:=a.off) (cap:=cap) (by rw[hll]) (λh0=>by rw[<-(hspot (by omega)).1]) (λe=>by cases e) (by omega) (by unfold maxLen at hm;omega) (λh0=>(hspot (by omega)).2) (λi j x y hx hy=> ?_)
   have hi:i<len:=by
    rcases Nat.lt_or_ge i l.length with h|h
    ·omega
    ·rw[List.getElem?_eq_none h]at hx;cases hx
   have h1:=(hp i x hx).1 j y hy
   have hs:=(hspot (by omega)).1
   have e:(a.add (i*k)).add j=⟨a.block,a.off+i*k+j,none⟩:=by
    obtain⟨b,o,s⟩:=a
    have hs2:s=none:=by simpa using hs
    subst hs2
    unfold Addr.add
    by_cases h1:i*k=0<;>by_cases h2:j=0<;>simp[h1,h2]
   rw[<-e]
   exact h1
  ·obtain⟨i,hi,rfl⟩:=List.getElem_of_mem hx
   exact(hp i _ (List.getElem?_eq_getElem hi)).2.2
theorem Hw{t:TypeId}{f0 f1 f2 f3 f4 f5 f6:Field}{fuel:Nat}{cs:List Value}{x:DataW H×List MemPlace}(ht:P.underlying t=some (.struct #[f0,f1,f2,f3,f4,f5,f6]))(h:DataW.trod enc P w base spare held fuel t cs=some x):
  ∃y0 y1 y2 y3 y4 y5 y6 n,cs.length=P.cellsOf t/\DataW.trod enc P w base spare held n f0.type ((cs.drop f0.offset).take (P.cellsOf f0.type))=some y0/\DataW.trod enc P w base spare held n f1.type ((cs.drop f1.offset).take (P.cellsOf f1.type))=some y1/\
   DataW.trod enc P w base spare held n f2.type ((cs.drop f2.offset).take (P.cellsOf f2.type))=some y2/\DataW.trod enc P w base spare held n f3.type ((cs.drop f3.offset).take (P.cellsOf f3.type))=some y3/\DataW.trod enc P w base spare held n f4.type ((cs.drop f4.offset).take (P.cellsOf f4.type))=some y4/\
   DataW.trod enc P w base spare held n f5.type ((cs.drop f5.offset).take (P.cellsOf f5.type))=some y5/\DataW.trod enc P w base spare held n f6.type ((cs.drop f6.offset).take (P.cellsOf f6.type))=some y6:=by
 obtain⟨xs,n,_,rfl,hl,hlen,hf⟩:=DataW.trod_struct ht h
 match xs,hlen with
 |[y0,y1,y2,y3,y4,y5,y6],_=>exact⟨y0,y1,y2,y3,y4,y5,y6,n,hl,by simpa using hf 0 f0 rfl,by simpa using hf 1 f1 rfl,by simpa using hf 2 f2 rfl,by simpa using hf 3 f3 rfl,by simpa using hf 4 f4 rfl,by simpa using hf 5 f5 rfl,by simpa using hf 6 f6 rfl⟩
end
section
variable {H : Type} {enc : TypeId × Value → H} {w : World} {base : Nat} {spare : Nat → Bool} {held : Bool}
def Md(w:World)(a:Sl×Sl):Prop:=∃b:List Int×List Int,lW w a b/\(∀c∈b.1,I64 c)/\∀d∈b.2,Og d
theorem A8{c:Value}{n:Nat}{y:DataW H×List MemPlace}(h:DataW.trod enc Tryz.prog w base spare held n 23 [c]=some y):∃l:List Int,fH 1 zK w c l/\∀x∈l,I64 x:=
 D9 (P:=Tryz.prog) Tryz.underlying23 (by kernel_rfl) (by omega) (λn cs y h=>by
  obtain⟨x,rfl,hw⟩:=xH Tryz.underlying3 h
  exact⟨x,rfl,rfl,qL hw⟩) h
theorem Qw{c:Value}{n:Nat}{y:DataW H×List MemPlace}(h:DataW.trod enc Tryz.prog w base spare held n 29 [c]=some y):∃l:List Int,fH 1 oG w c l/\∀x∈l,Og x:=
 D9 (P:=Tryz.prog) Tryz.underlying29 (by kernel_rfl) (by omega) (λn cs y h=>by
  obtain⟨x,rfl,hw⟩:=xH Tryz.underlying24 h
  exact⟨x,rfl,rfl,wZ hw⟩) h
theorem Ea{α:Type}{k:Nat}{en:α->List Value}{W:World}{v:Value}{zs:List α}(h:fH k en W v zs):∃s:Sl,v=aS s:=by
 obtain⟨ad,b,off,cap,e,_⟩:=h.form
 exact⟨(ad,zs.length,cap),e⟩
theorem node_cells{n:Nat}{cs:List Value}{y:DataW H×List MemPlace}(h:DataW.trod enc Tryz.prog w base spare held n 145 cs=some y):∃a:Sl×Sl,cs=Qk a/\(Qk a).length=2/\Md w a:=by
 obtain⟨y0,y1,m,rfl,hl,h0,h1⟩:=trod_struct2 Tryz.underlying145 h
 have hC:Program.cellsOf Tryz.prog 145=2:=by kernel_rfl
 have hi:Program.cellsOf Tryz.prog 23=1:=by kernel_rfl
 have hs:Program.cellsOf Tryz.prog 29=1:=by kernel_rfl
 rw[hC]at hl
 match cs,hl with
 |[c0,c1],_=>
  have h0':DataW.trod enc Tryz.prog w base spare held m 23 (([c0,c1].drop 0).take (Program.cellsOf Tryz.prog 23))=some y0:=h0
  have h1':DataW.trod enc Tryz.prog w base spare held m 29 (([c0,c1].drop 1).take (Program.cellsOf Tryz.prog 29))=some y1:=h1
  rw[hi]at h0'
  rw[hs]at h1'
  simp only[List.drop_zero,List.drop_succ_cons,List.take_succ_cons,List.take_zero]at h0' h1'
  obtain⟨l0,r0,k0⟩:=A8 h0'
  obtain⟨l1,r1,k1⟩:=Qw h1'
  obtain⟨s0,rfl⟩:=Ea r0
  obtain⟨s1,rfl⟩:=Ea r1
  exact⟨(s0,s1),rfl,rfl,(l0,l1),⟨r0,r1⟩,k0,k1⟩
open Classical in
theorem Me{c:Value}{n:Nat}{y:DataW H×List MemPlace}(h:DataW.trod enc Tryz.prog w base spare held n 22 [c]=some y):∃l:List (List Int×List Int),nM w c l/\∀b∈l,(∀c∈b.1,I64 c)/\∀d∈b.2,Og d:=by
 obtain⟨vs,h1,h2⟩:=D9 (P:=Tryz.prog) (k:=2) (en:=Qk) (ok:=Md w) Tryz.underlying22 (by kernel_rfl) (by omega) (λn cs y h=>node_cells h) h
 let g:Sl×Sl->List Int×List Int:=λa=>if e:Md w a then Classical.choose e else([],[])
 have hg:∀a∈vs,lW w a (g a)/\(∀c∈(g a).1,I64 c)/\∀d∈(g a).2,Og d:=λa ha=>by
  have e:=h2 a ha
  have:g a=Classical.choose e:=dif_pos e
  rw[this]
  exact Classical.choose_spec e
 refine⟨vs.map g,⟨vs,by simp,h1,λi a b ha hb=> ?_⟩,λb hb=> ?_⟩
 ·rw[List.getElem?_map,ha]at hb
  cases hb
  exact(hg a (List.mem_of_getElem? ha)).1
 ·obtain⟨a,ha,rfl⟩:=List.mem_map.1 hb
  exact(hg a ha).2
theorem UF{r:Reach}{b0:Nat}{v:Value}{d:DataW H}{p:List MemPlace}(hv:Value.okWide Tryz.prog w r b0 26 v)(h:DataW.Trod enc Tryz.prog w base spare held 26 v d p):
  ∃(X:Xv)(x:Rh),v=.agg (gG X x)/\Qq w X x:=by
 obtain⟨cs,rfl,hsz⟩:=okWide_struct Tryz.underlying26 hv
 obtain⟨fuel,hf⟩:=h
 obtain⟨y0,y1,y2,y3,y4,y5,y6,m,hl,h0,h1,h2,h3,h4,h5,h6⟩:=Hw Tryz.underlying26 hf
 have hC:Program.cellsOf Tryz.prog 26=7:=by kernel_rfl
 have hn:Program.cellsOf Tryz.prog 22=1:=by kernel_rfl
 have hi:Program.cellsOf Tryz.prog 23=1:=by kernel_rfl
 have hu:Program.cellsOf Tryz.prog 24=1:=by kernel_rfl
 have hj:Program.cellsOf Tryz.prog 3=1:=by kernel_rfl
 have hcs:(Value.agg cs).cells.toList=cs.toList:=by simp[Value.cells]
 rw[hC,hcs]at hl
 rw[hcs]at h0 h1 h2 h3 h4 h5 h6
 obtain⟨L,rfl⟩:∃L,cs=L.toArray:=⟨cs.toList,by simp⟩
 simp only[List.toList_toArray]at hl h0 h1 h2 h3 h4 h5 h6
 match L,hl with
 |[c0,c1,c2,c3,c4,c5,c6],_=>
  have h0':DataW.trod enc Tryz.prog w base spare held m 22 (([c0,c1,c2,c3,c4,c5,c6].drop 0).take (Program.cellsOf Tryz.prog 22))=some y0:=h0
  have h1':DataW.trod enc Tryz.prog w base spare held m 23 (([c0,c1,c2,c3,c4,c5,c6].drop 1).take (Program.cellsOf Tryz.prog 23))=some y1:=h1
  have h2':DataW.trod enc Tryz.prog w base spare held m 23 (([c0,c1,c2,c3,c4,c5,c6].drop 2).take (Program.cellsOf Tryz.prog 23))=some y2:=h2
  have h3':DataW.trod enc Tryz.prog w base spare held m 24 (([c0,c1,c2,c3,c4,c5,c6].drop 3).take (Program.cellsOf Tryz.prog 24))=some y3:=h3
  have h4':DataW.trod enc Tryz.prog w base spare held m 3 (([c0,c1,c2,c3,c4,c5,c6].drop 4).take (Program.cellsOf Tryz.prog 3))=some y4:=h4
  have h5':DataW.trod enc Tryz.prog w base spare held m 3 (([c0,c1,c2,c3,c4,c5,c6].drop 5).take (Program.cellsOf Tryz.prog 3))=some y5:=h5
  have h6':DataW.trod enc Tryz.prog w base spare held m 3 (([c0,c1,c2,c3,c4,c5,c6].drop 6).take (Program.cellsOf Tryz.prog 3))=some y6:=h6
  rw[hn]at h0'
  rw[hi]at h1' h2'
  rw[hu]at h3'
  rw[hj]at h4' h5' h6'
  simp only[List.drop_zero,List.drop_succ_cons,List.take_succ_cons,List.take_zero]at h0' h1' h2' h3' h4' h5' h6'
  obtain⟨l0,r0,k0⟩:=Me h0'
  obtain⟨l1,r1,k1⟩:=A8 h1'
  obtain⟨l2,r2,k2⟩:=A8 h2'
  obtain⟨a3,e3,_,w3⟩:=DataW.trod_int Tryz.underlying24 h3'
  obtain⟨a4,e4,_,w4⟩:=DataW.trod_int Tryz.underlying3 h4'
  obtain⟨a5,e5,_,w5⟩:=DataW.trod_int Tryz.underlying3 h5'
  obtain⟨a6,e6,_,w6⟩:=DataW.trod_int Tryz.underlying3 h6'
  simp at e3 e4 e5 e6
  subst e3 e4 e5 e6
  obtain⟨vs,agf,acM,agh⟩:=r0
  obtain⟨s0,rfl⟩:=Ea acM
  obtain⟨s1,rfl⟩:=Ea r1
  obtain⟨s2,rfl⟩:=Ea r2
  exact⟨⟨s0,s1,s2⟩,⟨l0,l1,l2,a3,a4,a5,a6⟩,rfl,⟨⟨vs,agf,acM,agh⟩,r1,r2,⟨λn hn=>(k0 n hn).1,k1,k2,qL w4,qL w5,qL w6⟩,⟨wZ w3,λn hn=>(k0 n hn).2⟩⟩⟩
end
end Go.Proofs.YtpgjploaliefdaaGreat.rh
