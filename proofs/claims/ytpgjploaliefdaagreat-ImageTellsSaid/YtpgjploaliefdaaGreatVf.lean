/- The document's layer 18: Dump. No conditions. -/
import Derived.Test.YtpgjploaliefdaaGreatG15
import Derived.Test.YtpgjploaliefdaaGreatVe
import Derived.Test.YtpgjploaliefdaaGreatG19
import Derived.Test.YtpgjploaliefdaaGreatG22
namespace Go.Proofs.YtpgjploaliefdaaGreat.im
open Go Go.RowKit cm cw ga gr hp ob hd cp ck rf rh
open fr (aG aW bQ sW leB aF aX iI gI eH jV lI)
set_option linter.unusedVariables false
set_option linter.unusedSimpArgs false
set_option maxRecDepth 100000
set_option maxHeartbeats 4000000
theorem VU(zs:List Int)(w:World)(b:Nat)(cs:Array Value)(hb:aj w b cs 24)(hc:cs=(zs.map λn:Int=>Value.int .u64 n).toArray)(hl:zs.length=6)(hz:∀z∈zs,0<=z/\z<18446744073709551616):
  Calls Tryz.prog 50 #[.slice (some ⟨b,0,none⟩) 6 6] w λe w'=>e=.returned (.string (CO zs))/\Below w.heap.size w w':=by
 have:=EF _ zs w (nums_cells w zs cs b hb hc (by omega) (by omega)) (wL hz) (by omega)
 rwa[hl]at this
theorem Fe(h:Hp)(v:Hv)(w:World)(hin:kH w h v)(hc0:0<=h.cap)(ht0:0<=h.tt)(hs0:0<=h.scan):
  Calls Tryz.prog 35 #[fD h v] w λe w'=>e=.returned (.string (aG (bQ (jq h))))/\Below w.heap.size w w':=by
 have b1:=hin.base
 have b2:=hin.cap
 have b3:=hin.tt
 have b4:=hin.scan
 have hwc:IntKind.u64.wrap h.cap=h.cap:=IntWalk.u64_in _ (by obtain⟨_,_⟩:=b2;omega)
 have hwt:IntKind.u64.wrap h.tt=h.tt:=IntWalk.u64_in _ (by obtain⟨_,_⟩:=b3;omega)
 have hws:IntKind.u64.wrap h.scan=h.scan:=IntWalk.u64_in _ (by obtain⟨_,_⟩:=b4;omega)
 have HZ:Hid (∀z∈[(1:Int),h.base,h.cap,h.tt,(if h.dJ then 1 else 0),h.scan],0<=z/\z<18446744073709551616):=Lib.hid λz hz=>by
  obtain⟨_,_⟩:=b1
  obtain⟨_,_⟩:=b2
  obtain⟨_,_⟩:=b3
  obtain⟨_,_⟩:=b4
  simp only[List.mem_cons,List.not_mem_nil,or_false]at hz
  rcases hz with rfl|rfl|rfl|rfl|rfl|rfl
  ·omega
  ·omega
  ·omega
  ·omega
  ·split<;>omega
  ·omega
 have HH:Hid (CO [(1:Int),h.base,h.cap,h.tt,(if h.dJ then 1 else 0),h.scan]=aG (bQ (jq h))):=Lib.hid (by
  unfold CO jq
  congr 2
  simp only[List.map_cons,List.map_nil]
  cases h.dJ<;>rfl)
 obtain⟨la,lc,ha,hc,oa,oc,fa,fc,ra,rc,rfl⟩:=jL hin
 clear hin b1 b2 b3 b4 hc0 ht0 hs0
 generalize aG (bQ (jq h))=HD at*
 unfold fD at*
 dsimp only at*
 generalize h.base=B1 at*
 generalize h.low.length=m1 at*
 generalize h.high.length=m2 at*
 generalize h.old.length=m3 at*
 generalize h.far.length=m4 at*
 generalize h.roots.length=m5 at*
 generalize h.cap=C1 at*
 generalize h.tt=T1 at*
 generalize h.scan=S1 at*
 cases hcy:h.dJ
 ·rw[hcy]at HZ HH
  go_enter Tryz.func35,Tryz.ntmps35
  go_wp2_with fail
  refine(VU [(1:Int),B1,C1,T1,0,S1] _ (w.heap.size+1) #[.int .u64 1,.int .u64 B1,.int .u64 C1,.int .u64 T1,.int .u64 0,.int .u64 S1] bk rfl rfl HZ.out).mono ?_;rintro e w2 ⟨rfl,k2⟩
  go_wp2_with fail
  go_ret
  exact⟨by rw[<-HH.out];rfl,bm⟩
 ·rw[hcy]at HZ HH
  go_enter Tryz.func35,Tryz.ntmps35
  go_wp2_with fail
  refine(VU [(1:Int),B1,C1,T1,1,S1] _ (w.heap.size+1) #[.int .u64 1,.int .u64 B1,.int .u64 C1,.int .u64 T1,.int .u64 1,.int .u64 S1] bk rfl rfl HZ.out).mono ?_;rintro e w2 ⟨rfl,k2⟩
  go_wp2_with fail
  go_ret
  exact⟨by rw[<-HH.out];rfl,bm⟩
theorem Yh{α:Type}{k:Nat}{en:α->List Value}{T:TypeId}{W:World}{B g n:Nat}{cs:Array Value}{zs:List α}(hk:∀x:α,(en x).length=k)(h:aj W g cs T)(hc:cs.toList=zs.flatMap en)(hn:zs.length=n)(hB:B<=g)(h63:n<1000000):ak T k en W B (.slice (some ⟨g,0,none⟩) n n) zs:=by
 subst hn
 unfold ak
 have hl:=zk (hk:=hk) zs
 refine⟨hl,.inr ⟨g,zs.length,cs,rfl,hB,h.raw,Nat.le_refl _,by unfold maxLen;omega,?_,?_⟩⟩
 ·rw[<-Array.length_toList,hc,hl]
 ·rw[<-hl,hc,List.take_length]
theorem Kw(h:Hp)(v:Hv)(w:World)(hin:kH w h v)(hn:dZ h=none):
  Calls Tryz.prog 11 #[fD h v] w λe w'=>e=.returned (.tuple #[.string ⟨#[]⟩,.int .i64 1])/\Below w.heap.size w w':=by
 have HRI:Hid (∀W,Below w.heap.size w W->Calls Tryz.prog 34 #[fD h v] W λe w'=>e=.returned (.bool false)/\Below W.heap.size W w'):=Lib.hid λW hb=>by
  have:=wC h v W (hin.tr hb)
  rw[(yD h).1,hn]at this
  exact this
 obtain⟨la,lc,ha,hc,oa,oc,fa,fc,ra,rc,rfl⟩:=jL hin
 clear hin hn
 unfold fD at*
 dsimp only at*
 generalize h.base=B1 at*
 generalize h.low.length=m1 at*
 generalize h.high.length=m2 at*
 generalize h.old.length=m3 at*
 generalize h.far.length=m4 at*
 generalize h.roots.length=m5 at*
 go_enter Tryz.func11,Tryz.ntmps11
 go_wp2_with fail
 refine(HRI.out _ bm).mono ?_;rintro e w1 ⟨rfl,k1⟩
 go_wp2_with fail
 go_ret2
 exact⟨rfl,bm⟩
theorem Yi(v:Hv)(q:Nat)(hf:SF v):∃a n c,v.part q=.slice a n c:=by
 obtain⟨vl,vh,vo,vf,vr⟩:=v
 obtain⟨⟨la,ln,lc,e1⟩,⟨ha,hn,hc,e2⟩,⟨oa,wB,oc,e3⟩,⟨fa,fn,fc,e4⟩,⟨ra,rn,rc,e5⟩⟩:=hf
 unfold Hv.part
 dsimp only at*
 repeat' split
 ·exact⟨_,_,_,e1⟩
 ·exact⟨_,_,_,e2⟩
 ·exact⟨_,_,_,e3⟩
 ·exact⟨_,_,_,e4⟩
theorem Ky(h:Hp)(v:Hv)(s:dS)(w:World)(hin:kH w h v)(hlk:dZ h=some s):
  Calls Tryz.prog 11 #[fD h v] w λe w'=>e=.returned (.tuple #[.string (eH (aK h s)).1,.int .i64 (eH (aK h s)).2])/\Below w.heap.size w w':=by
 obtain⟨p1,p2,p3,p4,p5,p6,p7,p8,hl⟩:=qF hlk
 obtain⟨a1,a2,hF,a4⟩:=ji hlk
 have hsf:=(Ey hin).sf
 have HRI:Hid (∀W,Below w.heap.size w W->Calls Tryz.prog 34 #[fD h v] W λe w'=>e=.returned (.bool true)/\Below W.heap.size W w'):=Lib.hid λW hb=>by
  have:=wC h v W (hin.tr hb)
  rw[(yD h).1,hlk]at this
  exact this
 have HRF:Hid (∀W,Below w.heap.size w W->Calls Tryz.prog 18 #[v.r] W λe w'=>e=.returned (.tuple #[.string ⟨(bn h.roots).toArray⟩,.int .i64 0])/\Below W.heap.size W w'):=Lib.hid λW hb=>by
  have:=yV v.r h.roots W (hin.roots.tr hb) hin.jd (by omega)
  rw[show jO h.roots=(⟨(bn h.roots).toArray⟩,0)from if_pos (J9 hlk)]at this
  exact this
 have Y7:Hid (∀W,Below w.heap.size w W->Calls Tryz.prog 35 #[fD h v] W λe w'=>e=.returned (.string (aG (bQ (jq h))))/\Below W.heap.size W w'):=Lib.hid λW hb=>Fe h v W (hin.tr hb) p1 p2 p3
 have HPU:Hid (∀W,Calls Tryz.prog 36 #[.int .u64 (h.roots.length:Nat)] W λe w'=>e=.returned (.string (aG (aW h.roots.length)))/\Below W.heap.size W w'):=Lib.hid λW=>fr.wJ h.roots.length W (by omega)
 have Om:Hid (∀W(q:Nat),1<=q/\q<=4->Below w.heap.size w W->Calls Tryz.prog 37 #[fD h v,.int .i64 q] W λe w'=>(∃a n c,e=.returned (.tuple #[.slice a n c,.int .i64 0])/\bT w' (.slice a n c) (s.obs q))/\Below W.heap.size W w'):=Lib.hid λW q hq hb=>Fa h v s q hq W (hin.tr hb) hlk
 have Iw:Hid (∀W(q:Nat),1<=q/\q<=4->∃a n c,(v.part q=.slice a n c)/\Calls Tryz.prog 24 #[fD h v,.int .i64 q] W λe w'=>e=.returned (.slice a n c)/\Below W.heap.size W w'):=Lib.hid λW q hq=>by
  obtain⟨a,n,c,e⟩:=Yi v q hsf
  have:=qA h v q hq W hsf
  rw[e]at this
  exact⟨a,n,c,e,this⟩
 have HOU:Hid (∀W(q:Nat)u,1<=q/\q<=4->Below w.heap.size w W->bT W u (s.obs q)->Calls Tryz.prog 16 #[v.part q,u] W λe w'=>e=.returned (.tuple #[.string (fU h s q),.int .i64 0])/\Below W.heap.size W w'):=Lib.hid λW q u hq hb ho=>by
  have h1:=sZ (hF.chain q hq)
  have h2:=hl q hq
  have:=EG (v.part q) u (h.part q) (s.obs q) W ((hin.part q).1.tr hb) (hin.part q).2 ho (EH hF hin.slow hin.oM hin.sold hin.uX q hq) (by omega) (by omega)
  rw[Ip hlk q hq]at this
  exact this
 have Zj:=Lib.hid (BG hlk hin.base hin.slow hin.oM hin.sold hin.uX hin.jd)
 have HJ:Hid (∀W u,fH 2 lI W u (aK h s)->Calls Tryz.prog 38 #[u] W λe w'=>e=.returned (.tuple #[.string (eH (aK h s)).1,.int .i64 (eH (aK h s)).2])/\Below W.heap.size W w'):=Lib.hid λW u hu=>fr.Ro u (aK h s) W hu (by unfold aK;simp) (λf hf=>Zj.out f hf) Gv
 have hrl:=nH h.roots (jW hin.jd)
 have hs2:(⟨(bn h.roots).toArray⟩:ByteArray).size<=1000:=by
  show(bn h.roots).toArray.size<=_
  rw[List.size_toArray]
  omega
 have hs1:(aG (aW h.roots.length)).size<=10:=by rw[aF];exact aX (by omega)
 have hwm:IntKind.u64.wrap (h.roots.length:Int)=(h.roots.length:Int):=IntWalk.u64_in _ (by omega)
 have H2:Hid ((aK h s).take 2=[(1,aG (bQ (jq h))),(2,aG (aW h.roots.length)++⟨(bn h.roots).toArray⟩)]):=rfl
 have HN:Hid (∀q:Nat,1<=q->q<=4->(aK h s).take (q+2)=(aK h s).take (q+1)++[((q:Int)+2,fU h s q)]):=Lib.hid λq h1 h4=>by
  rcases(show q=1\/q=2\/q=3\/q=4 by omega)with rfl|rfl|rfl|rfl<;>rfl
 have H6:Hid ((aK h s).take 6=aK h s):=rfl
 obtain⟨la,lc,ha,hc,oa,oc,fa,fc,ra,rc,hv⟩:=jL hin
 have er:v.r=.slice ra h.roots.length rc:=by rw[hv]
 rw[er]at HRF
 have ehp:fD h v=.agg #[.int .u64 h.base,.int .i64 h.cap,.int .i64 h.tt,.bool h.dJ,.int .i64 h.scan,.slice la h.low.length lc,.slice ha h.high.length hc,.slice oa h.old.length oc,.slice fa h.far.length fc,.slice ra h.roots.length rc]:=by unfold fD;rw[hv]
 rw[ehp]at HRI Y7 Om Iw⊢
 clear hin hlk p1 p2 p3 p4 p5 p6 p7 p8 hl a1 a2 hF a4 hsf hv er ehp Zj hrl
 generalize aK h s=FS at*
 generalize aG (bQ (jq h))=HD at*
 generalize aG (aW h.roots.length)=PB at*
 generalize(⟨(bn h.roots).toArray⟩:ByteArray)=RB at*
 have Vq:=gI PB RB (by omega)
 generalize fU h s=PU at*
 generalize h.base=B1 at*
 generalize h.cap=C1 at*
 generalize h.tt=T1 at*
 generalize h.dJ=Y1 at*
 generalize h.scan=S1 at*
 generalize h.low.length=m1 at*
 generalize h.high.length=m2 at*
 generalize h.old.length=m3 at*
 generalize h.far.length=m4 at*
 generalize h.roots.length=m5 at*
 go_enter Tryz.func11,Tryz.ntmps11
 go_wp2_with fail
 refine(HRI.out _ bm).mono ?_;rintro e w1 ⟨rfl,k1⟩
 have K1:aj w1 w.heap.size #[Value.int .u64 B1,.int .i64 C1,.int .i64 T1,.bool Y1,.int .i64 S1,.slice la m1 lc,.slice ha m2 hc,.slice oa m3 oc,.slice fa m4 fc,.slice ra m5 rc] 32:=aj.tr (.new _ _ _) k1
 have b1:Below w.heap.size w w1:=bm
 obtain⟨lx,cx,fx⟩:=K1.get
 clear k1
 go_wp2_with fail
 refine(HRF.out _ bm).mono ?_;rintro e w2 ⟨rfl,k2⟩
 have K2:=K1.tr k2
 have hb2:=Lib.hid (au b1 k2)
 clear k2 b1 K1 lx cx fx
 obtain⟨lx,cx,fx⟩:=K2.get
 go_upto_region 5 with(fail)
 have mZ:Hid (∀W':World,Below w2.heap.size w2 W'->∀i,W'.cell? ⟨w.heap.size,i,none⟩= #[Value.int .u64 B1,.int .i64 C1,.int .i64 T1,.bool Y1,.int .i64 S1,.slice la m1 lc,.slice ha m2 hc,.slice oa m3 oc,.slice fa m4 fc,.slice ra m5 rc][i]?):=Lib.hid λW' h=>(K2.tr h).get.2.1
 refine wp_region_held_drew (S:=(λW'=>∀i,W'.cell? ⟨w.heap.size,i,none⟩= #[Value.int .u64 B1,.int .i64 C1,.int .i64 T1,.bool Y1,.int .i64 S1,.slice la m1 lc,.slice ha m2 hc,.slice oa m3 oc,.slice fa m4 fc,.slice ra m5 rc][i]?)) (by kernel_rfl) ?_ (λhHeld=> ?_)
 ·(try dsimp only);exact mZ.out _ bm
 refine tk 0 ?_
 refine tk 3 ?_
 refine tk 4 ?_
 refine tk 5 ?_
 refine tk 6 ?_
 refine tk 8 ?_
 refine co 1 λK hK=> ?_
 go_simp
 go_at_call 35;refine(Y7.out _ (au hb2.out bm)).mono ?_;rintro e w3 ⟨rfl,k3⟩;go_wp2_with fail
 refine hK.out _ _ ?_ (λhHeld=> ?_)
 ·(try dsimp only);exact mZ.out _ bm
 clear hK K
 refine nx ?_
 refine tk 2 ?_
 refine co 7 λK hK=> ?_
 go_simp
 go_at_call 36;refine(HPU.out _).mono ?_;rintro e w4 ⟨rfl,k4⟩;go_wp2_with fail
 refine hK.out _ _ ?_ (λhHeld=> ?_)
 ·(try dsimp only);exact mZ.out _ bm
 clear hK K
 refine nx ?_
 refine tk 9 ?_
 refine tk 10 ?_
 refine co 11 λK hK=> ?_
 go_simp
 skip
 refine hK.out _ _ ?_ (λhHeld=> ?_)
 ·(try dsimp only);exact mZ.out _ bm
 clear hK K
 refine nx ?_
 refine tk 12 ?_
 refine wpAnyH_done (by kernel_rfl) ?_ _
 have hb5:Hid (Below w.heap.size w (w4.alloc (.cells #[.int .i64 1,.string HD,.int .i64 2,.string (PB++RB)] 77))):=Lib.hid (au hb2.out bm)
 have K5:aj (w4.alloc (.cells #[.int .i64 1,.string HD,.int .i64 2,.string (PB++RB)] 77)) w.heap.size #[Value.int .u64 B1,.int .i64 C1,.int .i64 T1,.bool Y1,.int .i64 S1,.slice la m1 lc,.slice ha m2 hc,.slice oa m3 oc,.slice fa m4 fc,.slice ra m5 rc] 32:=K2.tr bm
 have Lm:w2.heap.size<=w4.heap.size:=by
  have b:Below w2.heap.size w2 w4:=bm
  exact b.size
 have hown:Hid (ak 77 2 lI (w4.alloc (.cells #[.int .i64 1,.string HD,.int .i64 2,.string (PB++RB)] 77)) w2.heap.size (.slice (some ⟨w4.heap.size,0,none⟩) 2 2) (FS.take 2)):=Lib.hid (by
  rw[H2.out]
  exact Yh (λ_=>rfl) (aj.new _ _ _) rfl rfl Lm (by omega))
 have hbg:Below w2.heap.size w2 (w4.alloc (.cells #[.int .i64 1,.string HD,.int .i64 2,.string (PB++RB)] 77)):=bm
 have adR:Hid (w2.heap.size<=(w4.alloc (.cells #[.int .i64 1,.string HD,.int .i64 2,.string (PB++RB)] 77)).heap.size):=Lib.hid hbg.size
 clear hHeld mZ k3 k4 hbg Lm lx cx fx
 have hlow:w.heap.size<w2.heap.size:=K2.lt
 clear K2
 obtain⟨LS,hLS⟩:∃L:Option Addr,L=some ⟨w4.heap.size,0,none⟩:=⟨_,rfl⟩
 rw[<-hLS]at hown⊢
 clear hLS
 generalize w4.alloc (.cells #[.int .i64 1,.string HD,.int .i64 2,.string (PB++RB)] 77)=W5 at*
 have hK5:=Lib.hid K5
 clear K5
 go_wp2_with fail
 go_loopw [8,7] (λi l wr=>∃q:Nat,(1<=q/\q<=5)/\i=.int .i64 q/\Hid (ak 77 2 lI wr w2.heap.size l (FS.take (q+1)))/\Hid (aj wr w.heap.size #[Value.int .u64 B1,.int .i64 C1,.int .i64 T1,.bool Y1,.int .i64 S1,.slice la m1 lc,.slice ha m2 hc,.slice oa m3 oc,.slice fa m4 fc,.slice ra m5 rc] 32)/\Hid (w2.heap.size<=wr.heap.size)/\Hid (Below w.heap.size w wr)) (λi _ _=>5-(intOf i).toNat)
 case atStart=>exact⟨1,by omega,rfl,hown,hK5,adR,hb5⟩
 case round=>
  obtain⟨q,hq,rfl,ho,hK,hsz,hb⟩:=hrel
  clear hown hK5 adR hb5
  obtain⟨va,vl,vc,rfl⟩:=aH ho.out (λ_=>rfl)
  obtain⟨lx,cx,fx⟩:=hK.out.get
  by_cases hq4:q<=4
  ·obtain⟨pa,pn,pc,epv,hpa⟩:=Iw.out wr q ⟨hq.1,hq4⟩
   have ahw:=Lib.hid λW hb=>Om.out W q ⟨hq.1,hq4⟩ hb
   have adS:=Lib.hid λW u hb ho=>HOU.out W q u ⟨hq.1,hq4⟩ hb ho
   have ahx:Hid (∀W,Calls Tryz.prog 24 #[.agg #[Value.int .u64 B1,.int .i64 C1,.int .i64 T1,.bool Y1,.int .i64 S1,.slice la m1 lc,.slice ha m2 hc,.slice oa m3 oc,.slice fa m4 fc,.slice ra m5 rc],.int .i64 q] W λe w'=>e=.returned (.slice pa pn pc)/\Below W.heap.size W w'):=Lib.hid λW=>by
    obtain⟨a,n,c,e,k⟩:=Iw.out W q ⟨hq.1,hq4⟩
    rw[epv]at e
    cases e
    exact k
   rw[epv]at adS
   have HNq:=Lib.hid (HN.out q hq.1 hq4)
   have hlen:Hid ((FS.take (q+1)).length+1<100000000000):=Lib.hid (by
    have:(FS.take (q+1)).length<=q+1:=List.length_take_le _ _
    omega)
   have hw1:IntKind.i64.wrap ((q:Int)+2)=(q:Int)+2:=IntWalk.i64_in _ (by omega)
   clear hpa epv
   generalize FS.take (q+1)=done at*
   generalize PU q=PQ at*
   go_wp2_with fail
   refine(ahw.out _ hb.out).mono ?_;rintro e w6 ⟨⟨a6,n6,c6,rfl,i6⟩,k6⟩
   have K6:=hK.out.tr k6
   have hi6:=Lib.hid i6
   have Va:=Lib.hid (ho.out.tr k6)
   have hb6:=Lib.hid (au hb.out k6)
   have hs6:Hid (w2.heap.size<=w6.heap.size):=Lib.hid (Nat.le_trans hsz.out k6.size)
   clear i6 k6 ho hb hsz hK lx cx fx
   obtain⟨lx,cx,fx⟩:=K6.get
   go_wp2_with fail
   refine(ahx.out _).mono ?_;rintro e w7 ⟨rfl,k7⟩
   have K7:=K6.tr k7
   have hi7:=Lib.hid (hi6.out.tr k7)
   have ho7:=Lib.hid (Va.out.tr k7)
   have hb7:=Lib.hid (au hb6.out k7)
   have hs7:Hid (w2.heap.size<=w7.heap.size):=Lib.hid (Nat.le_trans hs6.out k7.size)
   clear k7 K6 hi6 Va hb6 hs6 lx cx fx
   go_wp2_with fail
   refine(adS.out _ _ hb7.out hi7.out).mono ?_;rintro e w8 ⟨rfl,k8⟩
   have K8:=K7.tr k8
   have ho8:=Lib.hid (ho7.out.tr k8)
   have hb8:=Lib.hid (au hb7.out k8)
   have hs8:Hid (w2.heap.size<=w8.heap.size):=Lib.hid (Nat.le_trans hs7.out k8.size)
   clear k8 K7 hi7 ho7 hb7 hs7
   go_wp2_with (at_builtin;refine jV _ rfl _ _ rfl w2.heap.size _ _ done ((q:Int)+2,PQ) rfl rfl ?d0 ?d1 hlen.out ?d3 ?d4)
   case d0=>exact ho8.out.tr bm
   case d1=>refine jC _ ((q:Int)+2,PQ) _ rfl _ ?_;try simp
   case d3=>have:=hs8.out;simp;omega
   case d4=>
   intro v' w9 ho9 hg hat
   have H2':Hid (ak 77 2 lI w9 w2.heap.size v' (FS.take (q+1+1))):=Lib.hid (by
    show ak _ _ _ _ _ _ (FS.take (q+2))
    rw[HNq.out]
    exact ho9)
   have b89:Below w2.heap.size w8 w9:=dF hg (by
    have:=hs8.out
    exact(bm:Below w8.heap.size w8 _).mono this) hs8.out ho8.out.block
   have K9:Hid (aj w9 w.heap.size #[Value.int .u64 B1,.int .i64 C1,.int .i64 T1,.bool Y1,.int .i64 S1,.slice la m1 lc,.slice ha m2 hc,.slice oa m3 oc,.slice fa m4 fc,.slice ra m5 rc] 32):=Lib.hid (aj.of ((b89.block _ hlow).trans K8.raw))
   have hs9:Hid (w2.heap.size<=w9.heap.size):=Lib.hid (Nat.le_trans hs8.out b89.size)
   have hb9:Hid (Below w.heap.size w w9):=Lib.hid (hb8.out.trans (b89.mono (Nat.le_of_lt hlow)))
   clear ho9 hg hat b89 K8
   go_wp2_with fail
   exact⟨⟨q+1,by omega,by go_num,H2',K9,hs9,hb9⟩,by simp[intOf];omega⟩
  ·obtain rfl:q=5:=by omega
   have hfs:=Lib.hid (H6.out▸ho.out.sees (λ_=>rfl):fH 2 lI wr (.slice va vl vc) FS)
   go_wp2_with fail
   refine(HJ.out _ _ hfs.out).mono ?_;rintro e w6 ⟨rfl,k6⟩
   go_wp2_with fail
   go_ret2
   exact⟨rfl,au hb.out k6⟩
end Go.Proofs.YtpgjploaliefdaaGreat.im
