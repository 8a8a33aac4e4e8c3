/- Layer 18: ImageTells. No conditions. -/
import Derived.Test.YtpgjploaliefdaaGreatVf
import Derived.Test.YtpgjploaliefdaaGreatVg
import Derived.Test.YtpgjploaliefdaaGreatNc
import Derived.Test.YtpgjploaliefdaaGreatMx
import Derived.Deep.CutBlock
import Derived.Deep.DeepCutAuto
import Derived.Deep.CutRange
namespace Go.Proofs.YtpgjploaliefdaaGreat.im
open Go Go.RowKit hp ob hd cp ck gr lx rh rf
open fr (eH)
set_option linter.unusedVariables false
set_option linter.unusedSimpArgs false
set_option maxRecDepth 100000
set_option maxHeartbeats 4000000
def WC(e:Ending)(w':World):Prop:=∃(h:Hp)(Yq Yr Yt Yu Yv:Option Addr)(Yw Yx Yy Yz YA YB YC YD YE YF:Nat),e=.returned (.agg #[Value.int .u64 h.base,.int .i64 h.cap,.int .i64 h.tt,.bool h.dJ,.int .i64 h.scan,.slice Yq Yw YB,.slice Yr Yx YC,.slice Yt Yy YD,.slice Yu Yz YE,.slice Yv YA YF])/\kH w' h ⟨.slice Yq Yw YB,.slice Yr Yx YC,.slice Yt Yy YD,.slice Yu Yz YE,.slice Yv YA YF⟩
theorem WE{H:Hp}{n0:Nat}{w w':World}{e:Ending}(k:Pj H n0 w e w'):WC e w':=by
 obtain⟨⟨⟨a1,n1,c1⟩,⟨a2,n2,c2⟩,⟨a3,n3,c3⟩,⟨a4,n4,c4⟩,⟨a5,n5,c5⟩,rfl,hu⟩,_⟩:=k
 exact⟨H,a1,a2,a3,a4,a5,n1,n2,n3,n4,n5,c1,c2,c3,c4,c5,rfl,hu.now⟩
theorem RY(h:Hp)(v:Hv)(W:World)(hin:kH W h v):∃T F,
  (∀W',Below W.heap.size W W'->Calls Tryz.prog 10 #[fD h v] W' λe w'=>e=.returned (.tuple #[.string T,.int .i64 F])/\Below W'.heap.size W' w')/\
  (∀W',Below W.heap.size W W'->Calls Tryz.prog 11 #[fD h v] W' λe w'=>e=.returned (.tuple #[.string T,.int .i64 F])/\Below W'.heap.size W' w'):=by
 cases e:dZ h with
 |none=>exact⟨⟨#[]⟩,1,λW' hb=>Gx h v W' (hin.tr hb) e,λW' hb=>Kw h v W' (hin.tr hb) e⟩
 |some s=>exact⟨_,_,λW' hb=>Gy h v s W' (hin.tr hb) e,λW' hb=>Ky h v s W' (hin.tr hb) e⟩
def Ai(W:World)(u:Value):Prop:=∃a n c zs,u=.slice a n c/\aN W (.slice a n c) zs/\Small zs/\zs.length<1000000
def NI(W:World)(u:Value):Prop:=∃a n c os,u=.slice a n c/\bT W (.slice a n c) os/\OL os/\os.length<100000
theorem Ai.tr{W w:World}{u:Value}(h:Ai W u)(hb:Below W.heap.size W w):Ai w u:=by
 obtain⟨a,n,c,zs,e,h1,h2,h3⟩:=h
 exact⟨a,n,c,zs,e,h1.tr hb,h2,h3⟩
theorem NI.tr{W w:World}{u:Value}(h:NI W u)(hb:Below W.heap.size W w):NI w u:=by
 obtain⟨a,n,c,zs,e,h1,h2,h3⟩:=h
 exact⟨a,n,c,zs,e,h1.tr hb,h2,h3⟩
theorem RZ{old:Bool}{L:List Rw}{l:List Pc}(h:zN old L l)(hl:l.length<=8):Small (wordsOf l):=rh.sD λz hz=>by
 unfold wordsOf at hz
 obtain⟨c,hc,hz⟩:=List.mem_flatMap.1 hz
 obtain⟨i,hi,rfl⟩:=List.getElem_of_mem hc
 have hp:=h i hi
 have e:YU l i=l[i]:=by simp[YU,List.getD,hi]
 rw[e]at hp
 have h6:=hp.s6
 have ps:=hp.ps
 rcases List.mem_cons.1 hz with rfl|hz
 ·cases hg:l[i].g with
  |true=>
   have:=(hp.gone hg).1
   omega
  |false=>
   rw[(hp.new hg).1]
   unfold bV
   split<;>omega
 ·exact Ae hp.small z hz
theorem Si(l:List Pc):(aJ l).length<=l.length:=by
 unfold aJ
 rw[List.length_map]
 exact List.length_filter_le _ _
def WoR(e:Ending)(w':World):Prop:=∃(a:Option Addr)(n c:Nat)(E:Int),e=.returned (.tuple #[.slice a n c,.int .i64 E])/\NI w' (.slice a n c)
theorem aeu{zs:List Int}{ss:List (Int×Int)}{B:Nat}{e:Ending}{W:World}(h:jk B (iq zs ss) e W)(h0:0<W.heap.size)(hz:Small zs)(hl:zs.length<10000):WoR e W:=by
 cases k:iq zs ss with
 |ok l j=>
  rw[k]at h
  obtain⟨v,rfl,ho⟩:=h
  have hfit:=(nZ k).2
  have hin:=nV ho h0 (by omega)
  obtain⟨va,vc,rfl⟩:=zy ho
  exact⟨va,_,vc,0,rfl,va,_,vc,l,rfl,hin,zB hz k,by omega⟩
 |err c j=>
  rw[k]at h
  obtain rfl:e=_:=h
  exact⟨none,0,0,c,rfl,none,0,0,[],rfl,bT.nil h0,(λo ho=>by cases ho),by simp⟩
theorem NJ(c n:Int)(w:World)(hn:1<=n)(hn2:n<1000000)(h1: -9223372036854775808<=c)(h2:c<9223372036854775808):
  Calls Tryz.prog 14 #[.int .i64 c,.int .i64 n] w λe w'=>e=.returned (.int .i64 (aC c n))/\w=w':=by
 by_cases h:c<0
 ·have HP:Hid (aC c n= -(c+1)%n):=by unfold aC;rw[if_pos h];rfl
  go_enter Tryz.func14,Tryz.ntmps14
  go_wp2
  go_ret
  exact zi (by rw[HP.out,<-Int.neg_tmod,Int.tmod_eq_emod_of_nonneg (by omega)]) rfl
 ·have HP:Hid (aC c n=c%n):=by unfold aC;rw[if_neg h];rfl
  go_enter Tryz.func14,Tryz.ntmps14
  go_wp2
  go_ret
  exact zi (by rw[HP.out];try rw[Int.tmod_eq_emod_of_nonneg (by omega)]) rfl
theorem WG{W:World}{a a':Option Addr}{n c n' c':Nat}(h1:Ai W (.slice a n c))(h2:NI W (.slice a' n' c')):∃T F,
  (∀W',Below W.heap.size W W'->Calls Tryz.prog 15 #[.slice a n c,.slice a' n' c'] W' λe w'=>e=.returned (.tuple #[.string T,.int .i64 F])/\Below W'.heap.size W' w')/\
  (∀W',Below W.heap.size W W'->Calls Tryz.prog 16 #[.slice a n c,.slice a' n' c'] W' λe w'=>e=.returned (.tuple #[.string T,.int .i64 F])/\Below W'.heap.size W' w'):=by
 obtain⟨_,_,_,zs,e,g1,g2,g3⟩:=h1
 cases e
 obtain⟨_,_,_,os,e,k1,k2,k3⟩:=h2
 cases e
 exact⟨_,_,λW' hb=>Ac _ _ zs os W' (g1.tr hb) g2 (k1.tr hb) k2 g3 (by omega),λW' hb=>EG _ _ zs os W' (g1.tr hb) g2 (k1.tr hb) k2 g3 (by omega)⟩
theorem WH{W:World}{a:Option Addr}{n c:Nat}(h1:Ai W (.slice a n c)):∃T F,
  (∀W',Below W.heap.size W W'->Calls Tryz.prog 17 #[.slice a n c] W' λe w'=>e=.returned (.tuple #[.string T,.int .i64 F])/\Below W'.heap.size W' w')/\
  (∀W',Below W.heap.size W W'->Calls Tryz.prog 18 #[.slice a n c] W' λe w'=>e=.returned (.tuple #[.string T,.int .i64 F])/\Below W'.heap.size W' w'):=by
 obtain⟨_,_,_,zs,e,g1,g2,g3⟩:=h1
 cases e
 exact⟨_,_,λW' hb=>wK _ zs W' (g1.tr hb) g2 g3,λW' hb=>yV _ zs W' (g1.tr hb) g2 g3⟩
theorem NK(X:Xv)(x:Rh)(which n z:Int)(lv:Value)(L:List Rw)(ov:Value)(OS:List Ob)(sv:Value)(SS:List Int)(w:World)(hx:Qq w X x)(hwh:I64 which)(hn:I64 n)(hz:Og z)(hL:Bf w lv L)(hO:fH 5 dG w ov OS/\∀o∈OS,0<=o.t/\o.t<18446744073709551616)(hS:fH 1 oG w sv SS/\∀x∈SS,0<=x/\x<18446744073709551616):
  Calls Tryz.prog 3 #[.agg (gG X x),.int .i64 which,.int .i64 n,.int .u64 z,lv,ov,sv] w λe w'=>e=.returned (.bool true)/\Below w.heap.size w w':=by
 have HAW:Hid (∀W,Calls Tryz.prog 6 #[] W λe w'=>e=.returned (.bool true)/\Below W.heap.size W w'/\0<w'.heap.size):=Lib.hid λW=>RN W
 obtain⟨⟨xa1,xn1,xc1⟩,⟨xa2,xn2,xc2⟩,⟨xa3,xn3,xc3⟩⟩:=X
 obtain⟨s,hs⟩:=Jo hx.ok
 obtain⟨p1,p2,p3,p4,p5,p6,p7,p8,hl⟩:=qF hs
 have OE:Hid ((∀q,((gK x).part q).length<=100000)/\(gK x).roots.length<=100000):=Lib.hid (by
  have q1:=hl 1 (by omega)
  have q2:=hl 2 (by omega)
  have q3:=hl 3 (by omega)
  have q4:=hl 4 (by omega)
  refine⟨λq=>Hp.DK (P:=λl=>l.length<=100000) _ q ?_ ?_ ?_ ?_,by omega⟩
  ·exact Nat.le_trans (show(gK x).low.length<=4096 from q1) (by decide)
  ·exact Nat.le_trans (show(gK x).high.length<=4096 from q2) (by decide)
  ·exact Nat.le_trans (show(gK x).old.length<=4096 from q3) (by decide)
  ·exact Nat.le_trans (show(gK x).far.length<=4096 from q4) (by decide))
 have HSX:Hid (∀W,Below w.heap.size w W->Calls Tryz.prog 9 #[.agg (gG ⟨(xa1,xn1,xc1),(xa2,xn2,xc2),(xa3,xn3,xc3)⟩ x)] W λe w'=>WC e w'/\Below W.heap.size W w'):=Lib.hid λW hb=>(GK _ x W (hx.tr hb)).mono λe w' k=>⟨WE k,k.2⟩
 have HHA:Hid (∀W,Below w.heap.size w W->Calls Tryz.prog 7 #[.agg (gG ⟨(xa1,xn1,xc1),(xa2,xn2,xc2),(xa3,xn3,xc3)⟩ x)] W λe w'=>(∃(NM NQ Dx NR IB:Option Addr)(NS NT NU NV NW NY NZ Dy N7 IC:Nat),e=.returned (.agg #[Value.int .u64 (gK x).base,.int .i64 (gK x).cap,.int .i64 (gK x).tt,.bool (gK x).dJ,.int .i64 (gK x).scan,.slice NM NS NY,.slice NQ NT NZ,.slice Dx NU Dy,.slice NR NV N7,.slice IB NW IC])/\kH w' (gK x) ⟨.slice NM NS NY,.slice NQ NT NZ,.slice Dx NU Dy,.slice NR NV N7,.slice IB NW IC⟩)/\Below W.heap.size W w'):=Lib.hid λW hb=>by
  refine(KU _ x W (hx.tr hb)).mono ?_
  rintro e w' ⟨⟨⟨a1,n1,c1⟩,⟨a2,n2,c2⟩,⟨a3,n3,c3⟩,⟨a4,n4,c4⟩,⟨a5,n5,c5⟩,rfl,hu⟩,k⟩
  exact⟨⟨a1,a2,a3,a4,a5,n1,n2,n3,n4,n5,c1,c2,c3,c4,c5,rfl,hu.now⟩,k⟩
 have HTU:Hid (∀W v,kH W (gK x) v->Calls Tryz.prog 8 #[fD (gK x) v,.int .i64 which,.int .i64 n,.int .u64 z] W λe w'=>WC e w'/\Below W.heap.size W w'):=Lib.hid λW v hin=>by
  refine(Nz (gK x) v which n z W hin OE.out.1 OE.out.2 hwh hn hz).mono ?_
  rintro e w' ⟨⟨h',⟨a1,n1,c1⟩,⟨a2,n2,c2⟩,⟨a3,n3,c3⟩,⟨a4,n4,c4⟩,⟨a5,n5,c5⟩,rfl,hu⟩,k⟩
  exact⟨⟨h',a1,a2,a3,a4,a5,n1,n2,n3,n4,n5,c1,c2,c3,c4,c5,rfl,hu⟩,k⟩
 have HCM:Hid (∀(h:Hp)(v:Hv)(W:World),kH W h v->∃T F,
  (∀W',Below W.heap.size W W'->Calls Tryz.prog 10 #[fD h v] W' λe w'=>e=.returned (.tuple #[.string T,.int .i64 F])/\Below W'.heap.size W' w')/\
  (∀W',Below W.heap.size W W'->Calls Tryz.prog 11 #[fD h v] W' λe w'=>e=.returned (.tuple #[.string T,.int .i64 F])/\Below W'.heap.size W' w')):=Lib.hid λh v W hin=>RY h v W hin
 clear hx p1 p2 p3 p4 p5 p6 p7 p8 hl hwh OE hs s
 have HL:=Lib.hid hL
 have HO:=Lib.hid hO
 have Y4:=Lib.hid hS
 have HN:=Lib.hid hn
 have HZ:=Lib.hid hz
 obtain⟨la,lb,lo,lc,rfl,_⟩:=hL
 obtain⟨oa,Y6,oo,oc,eo,_,_,_,_,_,_⟩:=hO.1.form
 subst eo
 obtain⟨sa,sb,so,sc,es,_,_,_,_,_,_⟩:=hS.1.form
 subst es
 clear hO hS hn hz
 generalize gK x=A at*
 unfold fD at HTU HCM
 unfold gG aS at*
 dsimp only at*
 go_enter Tryz.func3,Tryz.ntmps3
 go_wp2_with fail
 refine(HAW.out _).mono ?_;rintro e w1 ⟨rfl,k1,hpos⟩
 have K1:aj w1 w.heap.size #[Value.slice xa1 xn1 xc1,.slice xa2 xn2 xc2,.slice xa3 xn3 xc3,.int .u64 x.base,.int .i64 x.dR,.int .i64 x.scan,.int .i64 x.tt] 26:=aj.tr (.new _ _ _) k1
 have b1:Below w.heap.size w w1:=bm
 clear k1
 obtain⟨l1,c1,f1⟩:=K1.get
 go_wp2_with fail
 refine(HHA.out _ b1).mono ?_
 rintro e w2 ⟨⟨NM,NQ,Dx,NR,IB,NS,NT,NU,NV,NW,NY,NZ,Dy,N7,IC,rfl,hin⟩,k2⟩
 have vC:=Lib.hid hin
 have b2:Below w.heap.size w w2:=au b1 k2
 have Zn:0<w2.heap.size:=Nat.lt_of_lt_of_le hpos k2.size
 replace K1:=K1.tr k2
 clear hin k2 b1 l1 c1 f1 hpos
 obtain⟨l1,c1,f1⟩:=K1.get
 go_upto_region 3 with(fail)
 have K2:aj (w2.alloc (.cells #[Value.int .u64 A.base,.int .i64 A.cap,.int .i64 A.tt,.bool A.dJ,.int .i64 A.scan,.slice NM NS NY,.slice NQ NT NZ,.slice Dx NU Dy,.slice NR NV N7,.slice IB NW IC] 32)) w2.heap.size #[Value.int .u64 A.base,.int .i64 A.cap,.int .i64 A.tt,.bool A.dJ,.int .i64 A.scan,.slice NM NS NY,.slice NQ NT NZ,.slice Dx NU Dy,.slice NR NV N7,.slice IB NW IC] 32:=aj.new _ _ _
 have K1':=K1.alloc (.cells #[Value.int .u64 A.base,.int .i64 A.cap,.int .i64 A.tt,.bool A.dJ,.int .i64 A.scan,.slice NM NS NY,.slice NQ NT NZ,.slice Dx NU Dy,.slice NR NV N7,.slice IB NW IC] 32)
 have b3:Below w.heap.size w (w2.alloc (.cells #[Value.int .u64 A.base,.int .i64 A.cap,.int .i64 A.tt,.bool A.dJ,.int .i64 A.scan,.slice NM NS NY,.slice NQ NT NZ,.slice Dx NU Dy,.slice NR NV N7,.slice IB NW IC] 32)):=gu b2 _
 have abx:=Lib.hid (vC.out.tr (gu (Below.refl _ _) (.cells #[Value.int .u64 A.base,.int .i64 A.cap,.int .i64 A.tt,.bool A.dJ,.int .i64 A.scan,.slice NM NS NY,.slice NQ NT NZ,.slice Dx NU Dy,.slice NR NV N7,.slice IB NW IC] 32)))
 have hb3:=Lib.hid b3
 obtain⟨ab,hab⟩:∃b,w2.heap.size=b:=⟨_,rfl⟩
 rw[hab]at K2⊢
 have hp3:0<(w2.alloc (.cells #[Value.int .u64 A.base,.int .i64 A.cap,.int .i64 A.tt,.bool A.dJ,.int .i64 A.scan,.slice NM NS NY,.slice NQ NT NZ,.slice Dx NU Dy,.slice NR NV N7,.slice IB NW IC] 32)).heap.size:=Nat.lt_of_lt_of_le Zn (by simp)
 clear hab l1 c1 f1 K1 b2 vC b3 Zn
 generalize w2.alloc (.cells #[Value.int .u64 A.base,.int .i64 A.cap,.int .i64 A.tt,.bool A.dJ,.int .i64 A.scan,.slice NM NS NY,.slice NQ NT NZ,.slice Dx NU Dy,.slice NR NV N7,.slice IB NW IC] 32)=w3 at*
 obtain⟨l1,c1,f1⟩:=K1'.get
 obtain⟨l2,c2,f2⟩:=K2.get
 have mZ:Hid (∀W',Below w3.heap.size w3 W'->(∀i,W'.cell? ⟨w.heap.size,i,none⟩= #[Value.slice xa1 xn1 xc1,.slice xa2 xn2 xc2,.slice xa3 xn3 xc3,.int .u64 x.base,.int .i64 x.dR,.int .i64 x.scan,.int .i64 x.tt][i]?)/\∀i,W'.cell? ⟨ab,i,none⟩= #[Value.int .u64 A.base,.int .i64 A.cap,.int .i64 A.tt,.bool A.dJ,.int .i64 A.scan,.slice NM NS NY,.slice NQ NT NZ,.slice Dx NU Dy,.slice NR NV N7,.slice IB NW IC][i]?):=Lib.hid λW' hb=>⟨(K1'.tr hb).get.2.1,(K2.tr hb).get.2.1⟩
 refine wp_region_held_drew (S:=(λW'=>(∀i,W'.cell? ⟨w.heap.size,i,none⟩= #[Value.slice xa1 xn1 xc1,.slice xa2 xn2 xc2,.slice xa3 xn3 xc3,.int .u64 x.base,.int .i64 x.dR,.int .i64 x.scan,.int .i64 x.tt][i]?)/\∀i,W'.cell? ⟨ab,i,none⟩= #[Value.int .u64 A.base,.int .i64 A.cap,.int .i64 A.tt,.bool A.dJ,.int .i64 A.scan,.slice NM NS NY,.slice NQ NT NZ,.slice Dx NU Dy,.slice NR NV N7,.slice IB NW IC][i]?)) (by kernel_rfl) ?_ (λhHeld=> ?_)
 ·(try dsimp only);exact mZ.out _ bm
 refine tk 0 ?_
 refine tk 1 ?_
 refine tk 2 ?_
 refine tk 3 ?_
 refine tk 4 ?_
 refine tk 6 ?_
 refine tk 10 ?_
 refine co 5 λK hK=> ?_
 go_simp
 go_at_call 8;refine(HTU.out _ _ (abx.out.tr bm)).mono ?_;rintro e w5 ⟨⟨h2,qa1,qa2,qa3,qa4,qa5,qn1,qn2,qn3,qn4,qn5,qc1,qc2,qc3,qc4,qc5,rfl,hin2⟩,k5⟩;go_wp2_with fail
 refine hK.out _ _ ?_ (λhHeld=> ?_)
 ·(try dsimp only);exact mZ.out _ bm
 clear hK K
 refine nx ?_
 refine co 7 λK hK=> ?_
 go_simp
 go_at_call 9;refine(HSX.out _ (au hb3.out bm)).mono ?_;rintro e w6 ⟨⟨h3,ra1,ra2,ra3,ra4,ra5,rn1,rn2,rn3,rn4,rn5,rc1,rc2,rc3,rc4,rc5,rfl,aeD⟩,k6⟩;go_wp2_with fail
 refine hK.out _ _ ?_ (λhHeld=> ?_)
 ·(try dsimp only);exact mZ.out _ bm
 clear hK K
 refine nx ?_
 refine co 8 λK hK=> ?_
 go_simp
 skip
 refine hK.out _ _ ?_ (λhHeld=> ?_)
 ·(try dsimp only);exact mZ.out _ bm
 clear hK K
 refine nx ?_
 refine tk 9 ?_
 refine wpAnyH_done (by kernel_rfl) ?_ _
 have b36:Below w3.heap.size w3 w6:=bm
 have HH:Hid (∀k,k<3->∃(h:Hp)(Yq Yr Yt Yu Yv:Option Addr)(Yw Yx Yy Yz YA YB YC YD YE YF:Nat),kH w6 h ⟨.slice Yq Yw YB,.slice Yr Yx YC,.slice Yt Yy YD,.slice Yu Yz YE,.slice Yv YA YF⟩/\∀j,j<10-> #[Value.int .u64 A.base,.int .i64 A.cap,.int .i64 A.tt,.bool A.dJ,.int .i64 A.scan,.slice NM NS NY,.slice NQ NT NZ,.slice Dx NU Dy,.slice NR NV N7,.slice IB NW IC,.int .u64 h2.base,.int .i64 h2.cap,.int .i64 h2.tt,.bool h2.dJ,.int .i64 h2.scan,.slice qa1 qn1 qc1,.slice qa2 qn2 qc2,.slice qa3 qn3 qc3,.slice qa4 qn4 qc4,.slice qa5 qn5 qc5,.int .u64 h3.base,.int .i64 h3.cap,.int .i64 h3.tt,.bool h3.dJ,.int .i64 h3.scan,.slice ra1 rn1 rc1,.slice ra2 rn2 rc2,.slice ra3 rn3 rc3,.slice ra4 rn4 rc4,.slice ra5 rn5 rc5][k*10+j]? = #[Value.int .u64 h.base,.int .i64 h.cap,.int .i64 h.tt,.bool h.dJ,.int .i64 h.scan,.slice Yq Yw YB,.slice Yr Yx YC,.slice Yt Yy YD,.slice Yu Yz YE,.slice Yv YA YF][j]?):=Lib.hid λk hk=>by
  rcases(show k=0\/k=1\/k=2 by omega)with rfl|rfl|rfl
  ·refine⟨A,NM,NQ,Dx,NR,IB,NS,NT,NU,NV,NW,NY,NZ,Dy,N7,IC,abx.out.tr b36,λj hj=> ?_⟩
   rcases(show j=0\/j=1\/j=2\/j=3\/j=4\/j=5\/j=6\/j=7\/j=8\/j=9 by omega)with rfl|rfl|rfl|rfl|rfl|rfl|rfl|rfl|rfl|rfl<;>rfl
  ·refine⟨h2,qa1,qa2,qa3,qa4,qa5,qn1,qn2,qn3,qn4,qn5,qc1,qc2,qc3,qc4,qc5,hin2.tr k6,λj hj=> ?_⟩
   rcases(show j=0\/j=1\/j=2\/j=3\/j=4\/j=5\/j=6\/j=7\/j=8\/j=9 by omega)with rfl|rfl|rfl|rfl|rfl|rfl|rfl|rfl|rfl|rfl<;>rfl
  ·refine⟨h3,ra1,ra2,ra3,ra4,ra5,rn1,rn2,rn3,rn4,rn5,rc1,rc2,rc3,rc4,rc5,aeD,λj hj=> ?_⟩
   rcases(show j=0\/j=1\/j=2\/j=3\/j=4\/j=5\/j=6\/j=7\/j=8\/j=9 by omega)with rfl|rfl|rfl|rfl|rfl|rfl|rfl|rfl|rfl|rfl<;>rfl
 have b6:=Lib.hid (au hb3.out b36)
 have hp6:0<w6.heap.size:=Nat.lt_of_lt_of_le hp3 b36.size
 generalize #[Value.int .u64 A.base,.int .i64 A.cap,.int .i64 A.tt,.bool A.dJ,.int .i64 A.scan,.slice NM NS NY,.slice NQ NT NZ,.slice Dx NU Dy,.slice NR NV N7,.slice IB NW IC,.int .u64 h2.base,.int .i64 h2.cap,.int .i64 h2.tt,.bool h2.dJ,.int .i64 h2.scan,.slice qa1 qn1 qc1,.slice qa2 qn2 qc2,.slice qa3 qn3 qc3,.slice qa4 qn4 qc4,.slice qa5 qn5 qc5,.int .u64 h3.base,.int .i64 h3.cap,.int .i64 h3.tt,.bool h3.dJ,.int .i64 h3.scan,.slice ra1 rn1 rc1,.slice ra2 rn2 rc2,.slice ra3 rn3 rc3,.slice ra4 rn4 rc4,.slice ra5 rn5 rc5]=C at*
 clear hin2 aeD k5 k6 hHeld mZ abx K1' K2 l1 c1 f1 l2 c2 f2 b36 hb3
 have KC:aj (w6.alloc (.cells C 32)) w6.heap.size C 32:=aj.new _ _ _
 have HW8:Hid (Below w6.heap.size w6 (w6.alloc (.cells C 32))):=Lib.hid (gu (Below.refl w6.heap.size w6) _)
 have b8:Hid (Below w.heap.size w (w6.alloc (.cells C 32))):=Lib.hid (gu b6.out _)
 have hp8:0<(w6.alloc (.cells C 32)).heap.size:=by simp
 clear b6 hp6 hp3
 obtain⟨bb,hbb⟩:∃b,w6.heap.size=b:=⟨_,rfl⟩
 rw[hbb]at KC⊢
 clear hbb
 generalize w6.alloc (.cells C 32)=W8 at*
 go_upto_block 0 with fail
 go_cut [] (λwx=>Below W8.heap.size W8 wx)
 case first=>
  go_wp2_with fail
  go_loopw [54] (λi wr=>∃k:Nat,k<=3/\i=.int .i64 k/\Below W8.heap.size W8 wr) (λi _=>3-(intOf i).toNat)
  case atStart=>exact⟨0,by omega,rfl,Below.refl _ _⟩
  case round=>
   obtain⟨k,hk,rfl,bel⟩:=hrel
   by_cases hlt:k<3
   ·obtain⟨h,Yq,Yr,Yt,Yu,Yv,Yw,Yx,Yy,Yz,YA,YB,YC,YD,YE,YF,hin,hc⟩:=HH.out k hlt
    have hcj:∀j,j<10->wr.cell? ⟨bb,k*10+j,none⟩= #[Value.int .u64 h.base,.int .i64 h.cap,.int .i64 h.tt,.bool h.dJ,.int .i64 h.scan,.slice Yq Yw YB,.slice Yr Yx YC,.slice Yt Yy YD,.slice Yu Yz YE,.slice Yv YA YF][j]? :=λj hj=>((KC.tr bel).get.2.1 _).trans (hc j hj)
    have hc0:wr.cell? ⟨bb,k*10,none⟩=some (.int .u64 h.base):=hcj 0 (by omega)
    obtain⟨T,F,hD,hR⟩:=HCM.out h ⟨.slice Yq Yw YB,.slice Yr Yx YC,.slice Yt Yy YD,.slice Yu Yz YE,.slice Yv YA YF⟩ wr ((hin.tr HW8.out).tr bel)
    have HD:=Lib.hid hD
    have HR:=Lib.hid hR
    clear hD hR hc hin
    dsimp only at HD HR
    have hb:=(KC.tr bel).lt
    have hbel:=Lib.hid bel
    clear bel
    go_wp2_with fail
    refine(HD.out _ bm).mono ?_;rintro e w9 ⟨rfl,k9⟩
    have KB:aj w9 wr.heap.size #[Value.int .u64 h.base,.int .i64 h.cap,.int .i64 h.tt,.bool h.dJ,.int .i64 h.scan,.slice Yq Yw YB,.slice Yr Yx YC,.slice Yt Yy YD,.slice Yu Yz YE,.slice Yv YA YF] 32:=aj.tr (.mk rfl) k9
    obtain⟨lB,cB,fB⟩:=KB.get
    have b9:Hid (Below wr.heap.size wr w9):=Lib.hid bm
    clear k9
    go_wp2_with fail
    refine(HR.out _ b9.out).mono ?_;rintro e w10 ⟨rfl,k10⟩
    have b10:Hid (Below W8.heap.size W8 w10):=Lib.hid (au hbel.out (au b9.out k10))
    go_wp2_with fail
    exact⟨⟨k+1,by omega,by go_num,b10.out⟩,by simp[intOf];omega⟩
   ·obtain rfl:k=3:=by omega
    go_wp2_with fail
    go_meet
    exact bel
 case rest=>
 have b9:=Lib.hid (au b8.out hcut)
 have hp9:0<wc.heap.size:=Nat.lt_of_lt_of_le hp8 hcut.size
 clear hcut b8 HW8 KC HH HCM HTU HSX HHA hp8
 obtain⟨m,hm,aeE,hm2⟩:∃m:Nat,min (SS.length:Int) 30=(m:Int)/\m<=SS.length/\m<=30:=⟨min SS.length 30,by omega,by omega,by omega⟩
 obtain⟨q,hq,aeF,hq2⟩:∃q:Nat,min (OS.length:Int) 6=(q:Int)/\q<=OS.length/\q<=6:=⟨min OS.length 6,by omega,by omega,by omega⟩
 have hsc:SS.length<=sc:=by
  obtain⟨_,_,_,_,e,_,_,h,_⟩:=Y4.out.1.form
  cases e
  exact h
 have hoc:OS.length<=oc:=by
  obtain⟨_,_,_,_,e,_,_,h,_⟩:=HO.out.1.form
  cases e
  exact h
 have hmc:(m:Int)<=(sc:Int):=by omega
 have hqc:(q:Int)<=(oc:Int):=by omega
 have Yk:Hid (Ai wc (.slice sa m sc)):=Lib.hid ⟨_,_,_,SS.take m,rfl,lV (Kz (Y4.out.1.tr b9.out) m aeE) hp9 (by simp;omega),rh.sD λz hz=>Y4.out.2 z (List.mem_of_mem_take hz),by simp;omega⟩
 have Nc:Hid (NI wc (.slice oa q oc)):=Lib.hid ⟨_,_,_,OS.take q,rfl,RP (HO.out.1.tr b9.out) q aeF hp9 (by omega),λo ho=>HO.out.2 o (List.mem_of_mem_take ho),by simp;omega⟩
 clear aeE aeF hsc hoc Y4 HO
 generalize SS.length=sn at*
 generalize OS.length=wB at*
 go_wp2_with fail
 refine(xK _ true L _ (HL.out.tr b9.out)).mono ?_;rintro e wD ⟨⟨oZ,v24,v25,rfl,hlen,hok,hown,hsh⟩,kD⟩
 have hpl:oZ.length<=8:=by omega
 have hws:=RZ hok hpl
 have hwl:=xJ hok
 have hsl:=Si oZ
 have hpD:0<wD.heap.size:=Nat.lt_of_lt_of_le hp9 kD.size
 have aeG:=hown.sees hpD (by omega)
 have aby:=hsh.sees hpD (by omega)
 obtain⟨a24,n24,c24,rfl,h24⟩:=hown.form
 subst h24
 have hsf:∃a n c,v25=.slice a n c:=by
  obtain⟨a,_,_,c,e,_⟩:=aby
  exact⟨a,_,c,e⟩
 obtain⟨a25,n25,c25,rfl⟩:=hsf
 generalize wordsOf oZ=zs at*
 generalize aJ oZ=ss at*
 replace Yk:=Lib.hid (Yk.out.tr kD)
 replace Nc:=Lib.hid (Nc.out.tr kD)
 have bD:=Lib.hid (au b9.out kD)
 have abz:=Lib.hid aeG
 have aeH:=Lib.hid aby
 clear hown hsh kD b9 hp9 aeG aby hok hlen
 go_wp2_with fail
 refine(rM _ _ zs ss _ abz.out hws aeH.out (by omega) (by omega)).mono ?_;rintro e wE ⟨hwo,kE⟩
 have hpE:0<wE.heap.size:=Nat.lt_of_lt_of_le hpD kE.size
 obtain⟨a26,n26,c26,E26,rfl,hob⟩:=aeu hwo hpE hws (by omega)
 replace Yk:=Lib.hid (Yk.out.tr kE)
 replace Nc:=Lib.hid (Nc.out.tr kE)
 have Om:=Lib.hid hob
 have bE:=Lib.hid (au bD.out kE)
 have Zk:=Lib.hid (abz.out.tr kE)
 clear hwo hob kE bD abz aeH hpD
 go_wp2_with (at_builtin;refine D7 _ rfl _ _ rfl wE.heap.size (.slice none 0 0) _ [] zs rfl rfl (ak.nil _ _) (dX Zk.out) ?e1 ?e2 ?e3)
 case e1=>simp;omega
 case e2=>exact Nat.le_refl _
 case e3=>
 intro v28 wF o28 aeJ aeK
 have kF:Below wE.heap.size wE wF:=dF aeJ (Below.refl _ _) (Nat.le_refl _) (λk hk=>by cases hk)
 have hpF:0<wF.heap.size:=Nat.lt_of_lt_of_le hpE kF.size
 obtain⟨ad,cap,rfl,hc1,hc2,hc3,hc4⟩:=o28.form fJ
 have O28:Hid (ak 24 1 oG wF wE.heap.size (.slice ad zs.length cap) zs):=Lib.hid o28
 have HRW:Hid (Ai wE (.slice a24 zs.length c24)):=Lib.hid ⟨_,_,_,zs,rfl,Zk.out,hws,by omega⟩
 have HKF:=Lib.hid kF
 have HWS:=Lib.hid hws
 clear o28 aeJ aeK Zk hws hpE kF
 have HLZ:Hid (zs.length<=56):=Lib.hid (by omega)
 generalize hnz:zs.length=N at*
 have Ak:=Lib.hid hnz
 have aeN:0<N->∃g,ad=some ⟨g,0,none⟩/\wE.heap.size<=g:=λh=>by
  obtain⟨g,e1,e2,_⟩:=hc4 h
  exact⟨g,e1,e2⟩
 clear hnz hc4
 go_upto_if 97 with(fail)
 go_cut [] (λwx=>Below wE.heap.size wE wx/\Ai wx (.slice ad N cap)/\0<wx.heap.size)
 case first=>
  rcases Nat.eq_zero_or_pos N with hN0|hN0
  ·subst hN0
   go_wp2_with fail
   go_meet
   exact⟨HKF.out,⟨_,_,_,zs,rfl,lV (O28.out.sees fJ) hpF (by have:=HLZ.out;have:=Ak.out;omega),HWS.out,by have:=Ak.out;omega⟩,hpF⟩
  ·obtain⟨g,rfl,hgB⟩:=aeN hN0
   have aoi:=HLZ.out
   have hgN:(N:Int)>0:=by omega
   have hpk:=dw n (n:=(N:Int)) (by omega)
   obtain⟨k,hk⟩:∃k:Nat,aC n N=(k:Int):=⟨(aC n N).toNat,by omega⟩
   have hkN:k<N:=by omega
   have Iu:Hid (∀W,Calls Tryz.prog 14 #[.int .i64 n,.int .i64 N] W λe w'=>e=.returned (.int .i64 k)/\W=w'):=Lib.hid λW=>by rw[<-hk];exact NJ n N W (by omega) (by omega) HN.out.1 HN.out.2
   clear hk hpk
   obtain⟨y,hy⟩:=sS O28.out (k:=k) (by rw[Ak.out];exact hkN)
   have hgf:=kX O28.out
   go_wp2_with fail
   refine(Iu.out _).mono ?_;rintro e w4 ⟨rfl,rfl⟩
   go_wp2_with fail
   go_meet
   have o3:=xP (k:=k) O28.out z
   have hs3:(wF.setCell ⟨g,k,none⟩ (.int .u64 z)).heap.size=wF.heap.size:=by simp[World.setCell]
   refine⟨pV HKF.out hgB _,⟨_,_,_,zs.set k z,rfl,?_,rh.Bc HWS.out HZ.out k,?_⟩,by rw[hs3];exact hpF⟩
   ·have:=lV (o3.sees fJ) (by rw[hs3];exact hpF) (by simp;have:=Ak.out;omega)
    exact this
   ·simp
    have:=Ak.out
    omega
 case rest=>
 obtain⟨kG,hrG,hpG⟩:=hcut
 have Q8:=Lib.hid hrG
 replace Yk:=Lib.hid (Yk.out.tr kG)
 replace HRW:=Lib.hid (HRW.out.tr kG)
 replace Nc:=Lib.hid (Nc.out.tr kG)
 replace Om:=Lib.hid (Om.out.tr kG)
 have bG:=Lib.hid (au bE.out kG)
 clear kG hrG hpG O28 HKF aeN HWS bE hc1 hc2 hc3 hwl hsl hpF
 generalize wc=wG at*
 have HR3:Hid (∀k:Nat,k<3->∃(a:Option Addr)(n c:Nat),#[Value.slice sa m sc,.slice a24 N c24,.slice ad N cap][k]? =some (.slice a n c)/\Ai wG (.slice a n c)):=Lib.hid λk hk=>by
  rcases(show k=0\/k=1\/k=2 by omega)with rfl|rfl|rfl
  ·exact⟨_,_,_,rfl,Yk.out⟩
  ·exact⟨_,_,_,rfl,HRW.out⟩
  ·exact⟨_,_,_,rfl,Q8.out⟩
 have ZE:Hid (∀k:Nat,k<2->∃(a:Option Addr)(n c:Nat),#[Value.slice a26 n26 c26,.slice oa q oc][k]? =some (.slice a n c)/\NI wG (.slice a n c)):=Lib.hid λk hk=>by
  rcases(show k=0\/k=1 by omega)with rfl|rfl
  ·exact⟨_,_,_,rfl,Om.out⟩
  ·exact⟨_,_,_,rfl,Nc.out⟩
 clear Yk HRW Q8 Nc Om
 have K9:aj (wG.alloc (.cells #[Value.slice sa m sc,.slice a24 N c24,.slice ad N cap] 29)) wG.heap.size #[Value.slice sa m sc,.slice a24 N c24,.slice ad N cap] 29:=aj.new _ _ _
 have k9:Hid (Below wG.heap.size wG (wG.alloc (.cells #[Value.slice sa m sc,.slice a24 N c24,.slice ad N cap] 29))):=Lib.hid (gu (Below.refl _ _) _)
 go_upto_block 2 with fail
 obtain⟨cb,hcb⟩:∃b,wG.heap.size=b:=⟨_,rfl⟩
 rw[hcb]at K9⊢
 clear hcb
 generalize wG.alloc (.cells #[Value.slice sa m sc,.slice a24 N c24,.slice ad N cap] 29)=W9 at*
 go_wp2_with fail
 go_loopw [110] (λi wr=>∃k:Nat,k<=3/\i=.int .i64 k/\Below W9.heap.size W9 wr) (λi _=>3-(intOf i).toNat)
 case atStart=>exact⟨0,by omega,rfl,Below.refl _ _⟩
 case round=>
  obtain⟨k,hk,rfl,bel⟩:=hrel
  by_cases hlt:k<3
  ·obtain⟨ra,rn,rc,hc,hrow⟩:=HR3.out k hlt
   have hc0:wr.cell? ⟨cb,k,none⟩=some (.slice ra rn rc):=((K9.tr bel).get.2.1 _).trans hc
   have aeO:=Lib.hid ((hrow.tr k9.out).tr bel)
   have hbel:=Lib.hid bel
   have hkr:=Lib.hid (au k9.out bel)
   have KD:aj (wr.alloc (.cells #[Value.slice a26 n26 c26,.slice oa q oc] 28)) wr.heap.size #[Value.slice a26 n26 c26,.slice oa q oc] 28:=aj.new _ _ _
   have kd:Hid (Below wr.heap.size wr (wr.alloc (.cells #[Value.slice a26 n26 c26,.slice oa q oc] 28))):=Lib.hid (gu (Below.refl _ _) _)
   clear bel hc hrow
   go_upto_block 4 with fail
   obtain⟨db,hdb⟩:∃b,wr.heap.size=b:=⟨_,rfl⟩
   rw[hdb]at KD⊢
   clear hdb hc0
   generalize wr.alloc (.cells #[Value.slice a26 n26 c26,.slice oa q oc] 28)=Wd at*
   rw[show decide ((k:Int)<3)=true from decide_eq_true (by omega)]
   go_cut [] (λwx=>Below Wd.heap.size Wd wx)
   case first=>
    go_wp2_with fail
    go_loopw [122] (λi wq=>∃j:Nat,j<=2/\i=.int .i64 j/\Below Wd.heap.size Wd wq) (λi _=>2-(intOf i).toNat)
    case atStart=>exact⟨0,by omega,rfl,Below.refl _ _⟩
    case round=>
     obtain⟨j,hj,rfl,bel⟩:=hrel
     by_cases hlt2:j<2
     ·obtain⟨qa,qn,qc,hc,hob⟩:=ZE.out j hlt2
      have hc1:wr.cell? ⟨db,j,none⟩=some (.slice qa qn qc):=((KD.tr bel).get.2.1 _).trans hc
      obtain⟨T,F,hD,hR⟩:=WG ((aeO.out.tr kd.out).tr bel) (((hob.tr hkr.out).tr kd.out).tr bel)
      have HD:=Lib.hid hD
      have HR:=Lib.hid hR
      have aeP:=Lib.hid bel
      clear hD hR bel hc hob
      go_wp2_with fail
      refine(HD.out _ (Below.refl _ _)).mono ?_;rintro e w9 ⟨rfl,kk⟩
      have b9:=Lib.hid kk
      clear kk
      go_wp2_with fail
      refine(HR.out _ b9.out).mono ?_;rintro e w10 ⟨rfl,kk⟩
      have b10:=Lib.hid (au aeP.out (au b9.out kk))
      clear kk
      go_wp2_with fail
      exact⟨⟨j+1,by omega,by go_num,b10.out⟩,by simp[intOf];omega⟩
     ·obtain rfl:j=2:=by omega
      go_wp2_with fail
      go_meet
      exact bel
   case rest=>
   have b11:=Lib.hid (au hbel.out (au kd.out hcut))
   obtain⟨T,F,hD,hR⟩:=WH ((aeO.out.tr kd.out).tr hcut)
   have HD:=Lib.hid hD
   have HR:=Lib.hid hR
   clear hD hR hcut
   go_wp2_with fail
   refine(HD.out _ (Below.refl _ _)).mono ?_;rintro e w12 ⟨rfl,kk⟩
   have b12:=Lib.hid kk
   clear kk
   go_wp2_with fail
   refine(HR.out _ b12.out).mono ?_;rintro e w13 ⟨rfl,kk⟩
   have b13:=Lib.hid (au b11.out (au b12.out kk))
   clear kk
   go_wp2_with fail
   exact⟨⟨k+1,by omega,by go_num,b13.out⟩,by simp[intOf];omega⟩
  ·obtain rfl:k=3:=by omega
   have b14:=Lib.hid (au bG.out (au k9.out bel))
   clear bel
   go_wp2_with fail
   go_ret
   exact⟨rfl,b14.out⟩
end Go.Proofs.YtpgjploaliefdaaGreat.im
