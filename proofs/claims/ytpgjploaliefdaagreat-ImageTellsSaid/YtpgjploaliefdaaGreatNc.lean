/- Layer 11's heaps in which one thing is turned. No conditions. -/
import Derived.Test.YtpgjploaliefdaaGreatTk
import Derived.Test.YtpgjploaliefdaaGreatG14
import Derived.Deep.CutBlock
import Derived.Deep.DeepCutAuto
import Derived.Deep.CutRange
namespace Go.Proofs.YtpgjploaliefdaaGreat.rh
open Go Go.RowKit hp ob hd cp ck gr lx
set_option linter.unusedVariables false
set_option linter.unusedSimpArgs false
set_option maxRecDepth 100000
set_option maxHeartbeats 4000000
theorem O8{W:World}{h:Hp}{v:Hv}(a:kH W h v):∃l h o f r:Sl,v=⟨aS l,aS h,aS o,aS f,aS r⟩:=by
 obtain⟨vl,vh,vo,vf,vr⟩:=v
 obtain⟨_,_,_,_,h1,h2,h3,h4,h5,_,_,_,_,_⟩:=a
 obtain⟨_,_,_,_,e1,_⟩:=(dX h1).form
 obtain⟨_,_,_,_,e2,_⟩:=(dX h2).form
 obtain⟨_,_,_,_,e3,_⟩:=(dX h3).form
 obtain⟨_,_,_,_,e4,_⟩:=(dX h4).form
 obtain⟨_,_,_,_,e5,_⟩:=(dX h5).form
 exact⟨(_,_,_),(_,_,_),(_,_,_),(_,_,_),(_,_,_),by rw[Hv.mk.injEq];exact⟨e1,e2,e3,e4,e5⟩⟩
theorem sD{zs:List Int}(h:∀z∈zs,0<=z/\z<18446744073709551616):Small zs:=λi=>by
 simp only[List.getD]
 by_cases hi:i<zs.length
 ·rw[List.getElem?_eq_getElem hi]
  exact h _ (List.getElem_mem hi)
 ·rw[List.getElem?_eq_none (by omega)]
  exact⟨by decide,by decide⟩
theorem Ae{zs:List Int}(h:Small zs)(x:Int)(hx:x∈zs):0<=x/\x<18446744073709551616:=by
 obtain⟨i,hi,rfl⟩:=List.getElem_of_mem hx
 have:=h i
 rwa[List.getD_eq_getElem?_getD,List.getElem?_eq_getElem hi]at this
theorem VX{W w:World}{v:Value}{zs:List Int}(h:aN W v zs)(hs:W.heap.size<=w.heap.size)(hg:∀j,j<W.heap.size->w.heap[j]? =W.heap[j]?):aN w v zs:=
 lV (lY (dX h) hs hg) (by obtain⟨_,_,_,_,_,_,_,_,h5,_⟩:=h;omega) (dN h)
theorem wO{W wx:World}{v:Value}{zs:List Int}(h:aN W v zs)(hb:Below W.heap.size W wx)(m:Nat):Off wx W.heap.size m λW=>aN W v zs:=λW' hs hg=>
 VX h (Nat.le_trans hb.size hs) λj hj=>(hg j (Nat.lt_of_lt_of_le hj hb.size) (.inl hj)).trans (hb.block j hj)
theorem uM{W wx:World}{h:Hp}{v:Hv}(a:kH W h v)(hb:Below W.heap.size W wx)(m:Nat):Off wx W.heap.size m λW=>kH W h v:=λW' hs hg=>
 ⟨a.base,a.cap,a.tt,a.scan,wO a.low hb m W' hs hg,wO a.high hb m W' hs hg,wO a.old hb m W' hs hg,wO a.far hb m W' hs hg,wO a.roots hb m W' hs hg,a.slow,a.oM,a.sold,a.uX,a.jd⟩
theorem wQ{W:World}{n m B:Nat}{v:Value}{zs:List Int}(h:ak 24 1 oG W B v zs)(hB:m<=B)(hl:zs.length<1000000000000)(h0:0<W.heap.size):Off W n m λW=>aN W v zs:=λW' hs hg=>
 lV (nR (n:=n) fJ h hB W' hs hg) (by omega) hl
theorem VY{W:World}{h:Hp}{v:Hv}(a:kH W h v)(p:Nat){u:Value}{zs:List Int}(k:aN W u zs)(s:Small zs):kH W (setH h p zs) (vg v p u):=by
 unfold setH vg
 repeat' split
 ·exact⟨a.base,a.cap,a.tt,a.scan,k,a.high,a.old,a.far,a.roots,s,a.oM,a.sold,a.uX,a.jd⟩
 ·exact⟨a.base,a.cap,a.tt,a.scan,a.low,k,a.old,a.far,a.roots,a.slow,s,a.sold,a.uX,a.jd⟩
 ·exact⟨a.base,a.cap,a.tt,a.scan,a.low,a.high,k,a.far,a.roots,a.slow,a.oM,s,a.uX,a.jd⟩
 ·exact⟨a.base,a.cap,a.tt,a.scan,a.low,a.high,a.old,k,a.roots,a.slow,a.oM,a.sold,s,a.jd⟩
theorem adT{C:Int}(h:I64 C):IntKind.i64.wrap (C.tdiv 4)=C.tdiv 4/\I64 (C.tdiv 4):=by
 have key: -9223372036854775808<=C.tdiv 4/\C.tdiv 4<9223372036854775808:=by
  obtain⟨h1,h2⟩:=h
  rcases Int.lt_or_le C 0 with h0|h0
  ·have e:C.tdiv 4= -((-C).tdiv 4):=by rw[Int.neg_tdiv];omega
   rw[e,Int.tdiv_eq_ediv_of_nonneg (by omega)]
   omega
  ·rw[Int.tdiv_eq_ediv_of_nonneg h0]
   omega
 exact⟨IntWalk.i64_in _ (by omega),key⟩
def hC(h:Hp)(l hi o f r:Sl):Array Value:= #[.int .u64 h.base,.int .i64 h.cap,.int .i64 h.tt,.bool h.dJ,.int .i64 h.scan,aS l,aS hi,aS o,aS f,aS r]
def zC:Array Value:= #[.int .u64 0,.int .i64 0,.int .i64 0,.bool false,.int .i64 0,.slice none 0 0,.slice none 0 0,.slice none 0 0,.slice none 0 0,.slice none 0 0]
def Gz(w:World)(wx:World):Prop:=∃(h:Hp)(l hi o f r:Sl),aj wx w.heap.size (hC h l hi o f r) 32/\(Off wx w.heap.size (w.heap.size+2) λW=>kH W h ⟨aS l,aS hi,aS o,aS f,aS r⟩)/\aj wx (w.heap.size+1) zC 32/\Below w.heap.size w wx
theorem Yj(h:Hp)(p:Nat)(zs:List Int):(setH h p zs).base=h.base/\(setH h p zs).cap=h.cap/\(setH h p zs).tt=h.tt/\(setH h p zs).dJ=h.dJ/\(setH h p zs).scan=h.scan:=by
 unfold setH
 repeat' split
 all_goals exact⟨rfl,rfl,rfl,rfl,rfl⟩
theorem RQ{w w2:World}{h:Hp}{l hi o f r:Sl}(b:Below w.heap.size w w2)(hin:kH w h ⟨aS l,aS hi,aS o,aS f,aS r⟩)(K1:aj w2 w.heap.size (hC h l hi o f r) 32)(K2:aj w2 (w.heap.size+1) zC 32):Gz w w2:=
 ⟨h,l,hi,o,f,r,K1,uM hin b _,K2,b⟩
theorem wR{w w2:World}{h:Hp}{l hi o f r:Sl}{c1:Array Value}(b:Below w.heap.size w w2)(hoff:Off w2 w.heap.size (w.heap.size+2) λW=>kH W h ⟨aS l,aS hi,aS o,aS f,aS r⟩)(K1:aj w2 w.heap.size c1 32)(K2:aj w2 (w.heap.size+1) zC 32)(i:Nat)(u:Value)
  (he:hC h l hi o f r=c1.setIfInBounds i u):Gz w (w2.setCell ⟨w.heap.size,i,none⟩ u):=
 ⟨h,l,hi,o,f,r,by rw[he];exact K1.set i u,Off.set hoff (p:=⟨w.heap.size,i,none⟩) (Nat.le_refl _) (by show w.heap.size<_;omega) u,K2.other (p:=⟨w.heap.size,i,none⟩) (by show¬_=w.heap.size;omega) u,low_set b (p:=⟨w.heap.size,i,none⟩) (Nat.le_refl _) u⟩
theorem nJ{w w2:World}{h:Hp}{v:Hv}{p:Nat}{u:Value}{zs:List Int}{l0 i0 o0 f0 r0:Sl}{l1 h1 o1 f1 r1:Option Addr}{l2 l3 h2 h3 o2 o3 f2 f3 r2 r3:Nat}(b:Below w.heap.size w w2)(hin:kH w h v)
  (ho:Off w2 w.heap.size (w.heap.size+2) λW=>aN W u zs) (hs:Small zs) (e:vg v p u=⟨.slice l1 l2 l3,.slice h1 h2 h3,.slice o1 o2 o3,.slice f1 f2 f3,.slice r1 r2 r3⟩)
  (K1:aj w2 w.heap.size (hC h l0 i0 o0 f0 r0) 32) (K2:aj w2 (w.heap.size+1) zC 32):
  Gz w ((((((((((w2.setCell ⟨w.heap.size,0,none⟩ (.int .u64 h.base)).setCell ⟨w.heap.size,1,none⟩ (.int .i64 h.cap)).setCell ⟨w.heap.size,2,none⟩ (.int .i64 h.tt)).setCell ⟨w.heap.size,3,none⟩ (.bool h.dJ)).setCell ⟨w.heap.size,4,none⟩ (.int .i64 h.scan)).setCell ⟨w.heap.size,5,none⟩ (.slice l1 l2 l3)).setCell ⟨w.heap.size,6,none⟩ (.slice h1 h2 h3)).setCell ⟨w.heap.size,7,none⟩ (.slice o1 o2 o3)).setCell ⟨w.heap.size,8,none⟩ (.slice f1 f2 f3)).setCell ⟨w.heap.size,9,none⟩ (.slice r1 r2 r3)):=by
 have hoff:Off w2 w.heap.size (w.heap.size+2) λW=>kH W (setH h p zs) ⟨aS (l1,l2,l3),aS (h1,h2,h3),aS (o1,o2,o3),aS (f1,f2,f3),aS (r1,r2,r3)⟩:=by
  have e':vg v p u=⟨aS (l1,l2,l3),aS (h1,h2,h3),aS (o1,o2,o3),aS (f1,f2,f3),aS (r1,r2,r3)⟩:=e
  rw[<-e']
  exact((uM hin b _).and ho).imp λW k=>VY k.1 p k.2 hs
 have T:Gz w (bU w2 w.heap.size [(0,.int .u64 h.base),(1,.int .i64 h.cap),(2,.int .i64 h.tt),(3,.bool h.dJ),(4,.int .i64 h.scan),(5,.slice l1 l2 l3),(6,.slice h1 h2 h3),(7,.slice o1 o2 o3),(8,.slice f1 f2 f3),(9,.slice r1 r2 r3)]):=by
  refine⟨setH h p zs,_,_,_,_,_,?_,Off.bU hoff (Nat.le_refl _) (by omega),aj.dQ K2 (by omega),fQ b (Nat.le_refl _)⟩
  obtain⟨e1,e2,e3,e4,e5⟩:=Yj h p zs
  have:=aj.bU (L:=[(0,Value.int .u64 h.base),(1,.int .i64 h.cap),(2,.int .i64 h.tt),(3,.bool h.dJ),(4,.int .i64 h.scan),(5,.slice l1 l2 l3),(6,.slice h1 h2 h3),(7,.slice o1 o2 o3),(8,.slice f1 f2 f3),(9,.slice r1 r2 r3)]) K1
  unfold hC aS at this
  unfold hC aS
  rw[e1,e2,e3,e4,e5]
  simp only[rJ,List.setIfInBounds_toArray,List.set_cons_zero,List.set_cons_succ]at this
  exact this
 simp only[bU]at T
 exact T
theorem Kz{W:World}{ad:Option Addr}{n c:Nat}{zs:List Int}(h:fH 1 oG W (.slice ad n c) zs)(k:Nat)(hk:k<=n):fH 1 oG W (.slice ad k c) (zs.take k):=by
 obtain⟨ad',b,off,cap,e,h1,h2,h3,h4,h5,h6⟩:=h.form
 cases e
 have hl:(zs.take k).length=k:=by simp;omega
 refine fH.mk (ad:=ad) (b:=b) (off:=off) (cap:=c) (by rw[hl]) (λh=>h1 (by omega)) h2 (by omega) h4 (λh=>h5 (by omega)) λi j x y hx hy=> ?_
 have hi:i<k:=by
  rcases Nat.lt_or_ge i k with e|e
  ·exact e
  ·rw[List.getElem?_eq_none (by omega)]at hx;cases hx
 rw[List.getElem?_take,if_pos hi]at hx
 obtain rfl:=h1 (by have:=List.getElem?_eq_some_iff.1 hx;omega)
 exact h6.at hx j y hy
theorem EK{W:World}{n m B:Nat}{ad:Option Addr}{N cap:Nat}{zs:List Int}(h:ak 24 1 oG W B (.slice ad N cap) zs)(hB:m<=B)(hl:zs.length<1000000000000)(h0:0<W.heap.size)(k:Nat)(hk:k<=N):Off W n m λW=>aN W (.slice ad k cap) (zs.take k):=λW' hs hg=>
 lV (Kz (nR (n:=n) fJ h hB W' hs hg) k hk) (by omega) (by simp;omega)
theorem aj.low{W w:World}{n C:Nat}{cs:Array Value}{T:TypeId}(h:aj W n cs T)(hb:Below C W w)(hn:n<C):aj w n cs T:=aj.of ((hb.block n hn).trans h.raw)
theorem xU{xs:List Int}{x:Int}(h:Small xs)(hx:Og x):Small (xs++[x]):=sD λz hz=>by
 rcases List.mem_append.1 hz with k|k
 ·exact Ae h z k
 ·obtain rfl:=List.mem_singleton.1 k
  exact hx
theorem Bc{xs:List Int}{x:Int}(h:Small xs)(hx:Og x)(k:Nat):Small (xs.set k x):=sD λz hz=>by
 rcases List.mem_or_eq_of_mem_set hz with k|rfl
 ·exact Ae h z k
 ·exact hx
theorem yY{xs:List Int}(h:Small xs)(k:Nat):Small (xs.take k):=sD λz hz=>Ae h z (List.mem_of_mem_take hz)
theorem Nz(h:Hp)(v:Hv)(which n x:Int)(w:World)(hin:kH w h v)(hl:∀q,(h.part q).length<=100000)(hr:h.roots.length<=100000)(hwh:I64 which)(hn:I64 n)(hx:Og x):
  Calls Tryz.prog 8 #[fD h v,.int .i64 which,.int .i64 n,.int .u64 x] w λe w'=>(∃h' l hi o f r,e=.returned (fD h' ⟨aS l,aS hi,aS o,aS f,aS r⟩)/\kH w' h' ⟨aS l,aS hi,aS o,aS f,aS r⟩)/\Below w.heap.size w w':=by
 obtain⟨hq1,hq2⟩:=adT hwh
 have XA:=dw which (n:=4) (by decide)
 have anQ:=dw (Int.tdiv which 4) (n:=11) (by decide)
 have HP4:Hid (∀W,Calls Tryz.prog 23 #[.int .i64 which,.int .i64 4] W λe w'=>e=.returned (.int .i64 (aC which 4))/\W=w'):=Lib.hid λW=>iE which 4 W (by decide) (by decide) hwh.1 hwh.2
 have adU:Hid (∀W,Calls Tryz.prog 23 #[.int .i64 (Int.tdiv which 4),.int .i64 11] W λe w'=>e=.returned (.int .i64 (aC (Int.tdiv which 4) 11))/\W=w'):=Lib.hid λW=>iE _ 11 W (by decide) (by decide) hq2.1 hq2.2
 have HPN:Hid (∀W(m:Nat),1<=m->m<1000000->Calls Tryz.prog 23 #[.int .i64 n,.int .i64 m] W λe w'=>e=.returned (.int .i64 (aC n m))/\W=w'):=Lib.hid λW m h1 h2=>iE n m W (by omega) (by omega) hn.1 hn.2
 generalize aC (Int.tdiv which 4) 11=C0 at*
 obtain⟨p,hp⟩:∃p:Nat,(p:Int)=1+aC which 4:=⟨(1+aC which 4).toNat,by omega⟩
 have hpp:1<=p/\p<=4:=by omega
 have hw1:IntKind.i64.wrap (1+aC which 4)=(p:Int):=by rw[<-hp,IntWalk.i64_in _ (by omega)]
 generalize aC which 4=P4 at*
 have hPN:=(hin.part p)
 have hlen:=hl p
 have VZ:=hPN.2
 have hrow:=dX hPN.1
 obtain⟨pa,pb,po,pc,e3,r1,r2,r3,r4,r5,r6⟩:=hrow.form
 have vC:=Lib.hid hin
 have HX:=Lib.hid hx
 have HN:=Lib.hid hn
 have hsf:SF v:=by
  obtain⟨_,_,_,_,_,rfl⟩:=O8 hin
  exact⟨⟨_,_,_,rfl⟩,⟨_,_,_,rfl⟩,⟨_,_,_,rfl⟩,⟨_,_,_,rfl⟩,⟨_,_,_,rfl⟩⟩
 have Iw:Hid (∀W,Calls Tryz.prog 24 #[fD h v,.int .i64 p] W λe w'=>e=.returned (.slice pa (h.part p).length pc)/\Below W.heap.size W w'):=Lib.hid λW=>by rw[<-e3];exact qA h v p hpp W hsf
 have QV:Hid (∀W ua un uc,Calls Tryz.prog 25 #[fD h v,.int .i64 p,.slice ua un uc] W λe w'=>(∃l h' o f r:Sl,e=.returned (fD h ⟨aS l,aS h',aS o,aS f,aS r⟩)/\vg v p (.slice ua un uc)=⟨aS l,aS h',aS o,aS f,aS r⟩)/\Below W.heap.size W w'):=Lib.hid λW ua un uc=>by
  refine(yQ h v p hpp ua un uc W hsf).mono ?_
  rintro e w' ⟨rfl,k⟩
  obtain⟨l,h',o,f,r,e⟩:=hsf.aau p ua un uc
  exact⟨⟨l,h',o,f,r,by rw[e],e⟩,k⟩
 obtain⟨⟨la,ln,lc⟩,⟨ha,hn',hc⟩,⟨oa,wB,oc⟩,⟨fa,fn,fc⟩,⟨ra,rn,rc⟩,hv⟩:=O8 hin
 subst hv
 have NC:=dX hin.roots
 have hra:rn=h.roots.length:=by
  obtain⟨_,_,_,_,e,_⟩:=NC.form
  unfold aS at e
  injection e
 have HRO:=Lib.hid NC
 have Qu:=Lib.hid VZ
 have HSR:=Lib.hid hin.jd
 clear hin hx hn hl hwh hq2 hPN NC hp VZ hsf
 generalize hPv:h.part p=P at*
 rw[e3]at hrow
 clear e3 r1 r2 r3 r4 r5 r6
 have adW:=Lib.hid hrow
 clear hrow
 unfold fD at Iw QV⊢
 unfold aS at Iw QV⊢
 dsimp only at*
 generalize hNP:P.length=N at*
 have Lc:=Lib.hid hNP
 have HPV:=Lib.hid hPv
 have Yk:=Lib.hid hra
 clear hNP hPv hra
 go_enter Tryz.func8,Tryz.ntmps8
 go_wp2_with fail
 refine(HP4.out _).mono ?_;rintro e w0 ⟨rfl,rfl⟩
 go_wp2_with fail
 refine(Iw.out _).mono ?_;rintro e w1 ⟨rfl,k1⟩
 have K1:aj w1 w.heap.size #[.int .u64 h.base,.int .i64 h.cap,.int .i64 h.tt,.bool h.dJ,.int .i64 h.scan,.slice la ln lc,.slice ha hn' hc,.slice oa wB oc,.slice fa fn fc,.slice ra rn rc] 32:=aj.tr (.alloc (.new _ _ _) _) k1
 have K2:aj w1 (w.heap.size+1) _ 32:=aj.tr (.mk (by simp)) k1
 have b1:Below w.heap.size w w1:=by exact bm
 clear k1
 obtain⟨l1,c1,f1⟩:=K1.get
 obtain⟨l2,c2,f2⟩:=K2.get
 go_wp2_with (at_builtin;refine D7 _ rfl _ _ rfl w1.heap.size (.slice none 0 0) _ [] P rfl rfl (ak.nil _ _) (adW.out.tr ?e0) ?e1 ?e2 ?e3)
 case e0=>exact b1
 case e1=>have:=Lc.out;simp;omega
 case e2=>exact Nat.le_refl _
 case e3=>
 intro v2 w2 o2 hg2 I8
 have k2:Below w1.heap.size w1 w2:=dF hg2 (Below.refl _ _) (Nat.le_refl _) (λk hk=>by cases hk)
 obtain⟨ad,cap,rfl,hc1,hc2,hc3,hc4⟩:=o2.form fJ
 rw[Lc.out]at o2 hc1 hc4⊢
 have o2:=Lib.hid o2
 have b2:Below w.heap.size w w2:=by exact bm
 replace K1:=K1.tr k2
 replace K2:=K2.tr k2
 have hle1:=b1.size
 have hle2:=k2.size
 have hsz1:=K2.lt
 have hsz0:w.heap.size<w2.heap.size:=by omega
 have HW1:Hid (w.heap.size+2<=w1.heap.size):=Lib.hid (by omega)
 have HW2:Hid (w1.heap.size<=w2.heap.size):=Lib.hid hle2
 clear hg2 I8 k2 b1 l1 c1 f1 l2 c2 f2 Iw adW HP4
 obtain⟨l1,c1,f1⟩:=K1.get
 obtain⟨l2,c2,f2⟩:=K2.get
 go_wp2_with fail
 refine(adU.out _).mono ?_;rintro e w3 ⟨rfl,rfl⟩
 clear adU
 go_upto_block 0 with fail
 go_cut [] (λwx=>Gz w wx)
 case first=>
  rcases(show C0=0\/C0=1\/C0=2\/C0=3\/C0=4\/C0=5\/C0=6\/7<=C0 by omega)with rfl|rfl|rfl|rfl|rfl|rfl|rfl|hC7
  ·go_wp2_with fail
   go_meet
   refine wR (h:={h with dJ:= !h.dJ}) (l:=(la,ln,lc)) (hi:=(ha,hn',hc)) (o:=(oa,wB,oc)) (f:=(fa,fn,fc)) (r:=(ra,rn,rc)) b2 ((uM vC.out b2 _).imp λW a=>⟨a.base,a.cap,a.tt,a.scan,a.low,a.high,a.old,a.far,a.roots,a.slow,a.oM,a.sold,a.uX,a.jd⟩) K1 K2 _ _ ?_
   rfl
  ·go_wp2_with fail
   go_meet
   refine wR (h:={h with scan:=n}) (l:=(la,ln,lc)) (hi:=(ha,hn',hc)) (o:=(oa,wB,oc)) (f:=(fa,fn,fc)) (r:=(ra,rn,rc)) b2 ((uM vC.out b2 _).imp λW a=>⟨a.base,a.cap,a.tt,HN.out,a.low,a.high,a.old,a.far,a.roots,a.slow,a.oM,a.sold,a.uX,a.jd⟩) K1 K2 _ _ ?_
   rfl
  ·go_wp2_with fail
   go_meet
   refine wR (h:={h with cap:=n}) (l:=(la,ln,lc)) (hi:=(ha,hn',hc)) (o:=(oa,wB,oc)) (f:=(fa,fn,fc)) (r:=(ra,rn,rc)) b2 ((uM vC.out b2 _).imp λW a=>⟨a.base,HN.out,a.tt,a.scan,a.low,a.high,a.old,a.far,a.roots,a.slow,a.oM,a.sold,a.uX,a.jd⟩) K1 K2 _ _ ?_
   rfl
  ·go_wp2_with fail
   go_meet
   refine wR (h:={h with tt:=n}) (l:=(la,ln,lc)) (hi:=(ha,hn',hc)) (o:=(oa,wB,oc)) (f:=(fa,fn,fc)) (r:=(ra,rn,rc)) b2 ((uM vC.out b2 _).imp λW a=>⟨a.base,a.cap,HN.out,a.scan,a.low,a.high,a.old,a.far,a.roots,a.slow,a.oM,a.sold,a.uX,a.jd⟩) K1 K2 _ _ ?_
   rfl
  ·go_wp2_with (at_builtin;refine D7 _ rfl _ _ rfl w2.heap.size (.slice none 0 0) _ [] h.roots rfl rfl (ak.nil _ _) (HRO.out.tr b2) ?e1 ?e2 ?e3)
   case e1=>simp;omega
   case e2=>exact Nat.le_refl _
   case e3=>
   intro v4 w4 o4 hg4 iG
   have k4:Below w2.heap.size w2 w4:=dF hg4 (Below.refl _ _) (Nat.le_refl _) (λk hk=>by cases hk)
   obtain⟨va,vl,vc,rfl⟩:=aH o4 fJ
   have hs4:=hg4.size
   replace K1:=K1.tr k4
   replace K2:=K2.tr k4
   have q4:=Lib.hid o4
   clear o4 hg4 iG l1 c1 f1 l2 c2 f2
   obtain⟨l1,c1,f1⟩:=K1.get
   obtain⟨l2,c2,f2⟩:=K2.get
   go_wp2_with (at_builtin;refine D7 _ rfl _ _ rfl w2.heap.size _ _ ([]++h.roots) [x] rfl rfl (q4.out.tr ?c0) (FT _ _ rfl) ?c1 ?c2 ?c3)
   case c0=>exact bm
   case c1=>simp;omega
   case c2=>simp;omega
   case c3=>
   intro v5 w5 o5 hg5 XG
   have hs5:=hg5.size
   have anS:w4.heap.size+1<=w5.heap.size:=by simpa using hs5
   have k5:Below w2.heap.size w2 w5:=dF hg5 (by exact bm) (Nat.le_refl _) q4.out.block
   have L5:Below w2.heap.size w4 w5:=dF hg5 (by(repeat(first|with_reducible exact Below.refl _ _|with_reducible assumption|with_reducible refine low_alloc ?_ (by omega) _|with_reducible refine aI ?_|with_reducible refine low_set ?_ (by first|omega|(simp;done)|(simp;omega)) _))) hs4 q4.out.block
   replace K1:=aj.low K1 L5 hsz0
   replace K2:=aj.low K2 L5 hsz1
   obtain⟨IB,vl5,IC,rfl⟩:=aH o5 fJ
   have q5:Hid (ak 24 1 oG w5 w2.heap.size (.slice IB vl5 IC) (h.roots++[x])):=Lib.hid o5
   have B5:Hid (Below w.heap.size w w5):=Lib.hid (au b2 k5)
   clear o5 hg5 XG l1 c1 f1 l2 c2 f2 k4 k5 L5 q4
   obtain⟨l1,c1,f1⟩:=K1.get
   obtain⟨l2,c2,f2⟩:=K2.get
   go_wp2_with fail
   go_meet
   have h2:=HW1.out
   have h3:=HW2.out
   refine wR (h:={h with roots:=h.roots++[x]}) (l:=(la,ln,lc)) (hi:=(ha,hn',hc)) (o:=(oa,wB,oc)) (f:=(fa,fn,fc)) (r:=(IB,vl5,IC)) B5.out (((uM vC.out B5.out _).and (wQ q5.out (by omega) (by simp;omega) (by omega))).imp λW k=>⟨k.1.base,k.1.cap,k.1.tt,k.1.scan,k.1.low,k.1.high,k.1.old,k.1.far,k.2,k.1.slow,k.1.oM,k.1.sold,k.1.uX,xU HSR.out HX.out⟩) K1 K2 _ _ ?_
   rfl
  ·go_upto_region 18 with(fail)
   refine wp_region_held_drew (S:=(λ_=>True)) (by kernel_rfl) ?_ (λhHeld=> ?_)
   ·(try dsimp only);skip
   refine tk 1 ?_
   refine tk 2 ?_
   refine tk 3 ?_
   refine wpAnyH_ready (rs:=[0,4]) (by kernel_rfl) (by simp) ?_
   refine AllReadyH.cons rfl (λK hK=> ?_) (AllReadyH.cons rfl (λK hK=> ?_) AllReadyH.nil)
   ·go_simp
    refine hK.out _ _ trivial (λhHeld=> ?_)
    clear hK K
    try simp only[List.getElem_toArray,List.getElem_cons_succ,List.getElem_cons_zero,Act.put,List.setIfInBounds_toArray,List.set_cons_zero,List.set_cons_succ]
    refine co 4 λK hK=> ?_
    go_simp
    skip
    refine hK.out _ _ ?_ (λhHeld=> ?_)
    ·(try dsimp only);skip
    clear hK K
    refine nx ?_
    refine wpAnyH_ready (rs:=[5]) (by kernel_rfl) (by simp) ?_
    refine AllReadyH.cons rfl (λK hK=> ?_) AllReadyH.nil
    refine D8 rfl (.tmp 66) (.tmp 68) rfl w1.heap.size (.slice ad N cap) _ P [x] rfl rfl (o2.out.tr (by exact bm)) ((FT _ _ rfl).tr (Below.refl _ _).drew) ?_ ?_ ?_
    ·have:=Lc.out;simp;omega
    ·have:=HW2.out;simp;omega
    intro v4 w4 p4 hg4 iG
    have k4:Below w1.heap.size w2 w4:=dF hg4 (by(repeat(first|with_reducible exact Below.refl _ _|with_reducible assumption|with_reducible refine low_alloc ?_ (by omega) _|with_reducible refine aI ?_|with_reducible refine low_set ?_ (by first|omega|(simp;done)|(simp;omega)) _))) HW2.out o2.out.block
    have q4:=Lib.hid p4
    have Lm:=hg4.size
    clear hg4 iG p4
    obtain⟨va,vl,vc,rfl⟩:=aH q4.out fJ
    have hle1:=HW1.out
    have K4:=aj.low K1 k4 (by omega)
    obtain⟨l4,c4,f4⟩:=K4.get
    refine hK.out _ _ ?_ (λhHeld=> ?_)
    ·trivial
    clear hK K
    try simp only[List.getElem_toArray,List.getElem_cons_succ,List.getElem_cons_zero,Act.put,List.setIfInBounds_toArray,List.set_cons_zero,List.set_cons_succ]
    refine co 6 λK hK=> ?_
    go_simp
    go_at_call 25;refine(QV.out _ _ _ _).mono ?_;rintro e w5 ⟨⟨⟨l1,l2,l3⟩,⟨h1,h2,h3⟩,⟨o1,o3,o4⟩,⟨f3,f4,f5⟩,⟨r1,r2,r3⟩,rfl,hsv⟩,k5⟩;replace hsv:=Lib.hid hsv;go_wp2_with fail
    refine hK.out _ _ ?_ (λhHeld=> ?_)
    ·(try dsimp only);skip
    clear hK K
    refine nx ?_
    have K5:=K4.tr k5
    have G5:=(aj.low K2 k4 (by omega)).tr k5
    obtain⟨lk,ck,fk⟩:=K5.get
    have B5:Hid (Below w.heap.size w w5):=Lib.hid (au ((b2.trans (k4.mono (Nat.le_trans (by omega) hle1)))) k5)
    have Q5:=Lib.hid (q4.out.tr k5)
    have hs5:=k5.size
    clear k4 k5 q4
    refine co 7 λK hK=> ?_
    go_simp
    skip
    refine hK.out _ _ ?_ (λhHeld=> ?_)
    ·(try dsimp only);skip
    clear hK K
    refine nx ?_
    refine wpAnyH_done (by kernel_rfl) ?_ _
    go_wp2_with fail
    go_meet
    refine nJ (h:=h) (p:=p) (zs:=P++[x]) (l0:=(la,ln,lc)) (i0:=(ha,hn',hc)) (o0:=(oa,wB,oc)) (f0:=(fa,fn,fc)) (r0:=(ra,rn,rc)) B5.out vC.out (wQ Q5.out HW1.out (by have:=Lc.out;simp;omega) (by omega)) (xU Qu.out HX.out) hsv.out K5 G5
   ·go_simp
    refine hK.out _ _ trivial (λhHeld=> ?_)
    clear hK K
    try simp only[List.getElem_toArray,List.getElem_cons_succ,List.getElem_cons_zero,Act.put,List.setIfInBounds_toArray,List.set_cons_zero,List.set_cons_succ]
    refine wpAnyH_ready (rs:=[0,5]) (by kernel_rfl) (by simp) ?_
    refine AllReadyH.cons rfl (λK hK=> ?_) (AllReadyH.cons rfl (λK hK=> ?_) AllReadyH.nil)
    ·go_simp
     refine hK.out _ _ trivial (λhHeld=> ?_)
     clear hK K
     try simp only[List.getElem_toArray,List.getElem_cons_succ,List.getElem_cons_zero,Act.put,List.setIfInBounds_toArray,List.set_cons_zero,List.set_cons_succ]
     refine wpAnyH_ready (rs:=[5]) (by kernel_rfl) (by simp) ?_
     refine AllReadyH.cons rfl (λK hK=> ?_) AllReadyH.nil
     refine D8 rfl (.tmp 66) (.tmp 68) rfl w1.heap.size (.slice ad N cap) _ P [x] rfl rfl (o2.out.tr (by exact bm)) ((FT _ _ rfl).tr (Below.refl _ _).drew) ?_ ?_ ?_
     ·have:=Lc.out;simp;omega
     ·have:=HW2.out;simp;omega
     intro v4 w4 p4 hg4 iG
     have k4:Below w1.heap.size w2 w4:=dF hg4 (by(repeat(first|with_reducible exact Below.refl _ _|with_reducible assumption|with_reducible refine low_alloc ?_ (by omega) _|with_reducible refine aI ?_|with_reducible refine low_set ?_ (by first|omega|(simp;done)|(simp;omega)) _))) HW2.out o2.out.block
     have q4:=Lib.hid p4
     have Lm:=hg4.size
     clear hg4 iG p4
     obtain⟨va,vl,vc,rfl⟩:=aH q4.out fJ
     have hle1:=HW1.out
     have K4:=aj.low K1 k4 (by omega)
     obtain⟨l4,c4,f4⟩:=K4.get
     refine hK.out _ _ ?_ (λhHeld=> ?_)
     ·trivial
     clear hK K
     try simp only[List.getElem_toArray,List.getElem_cons_succ,List.getElem_cons_zero,Act.put,List.setIfInBounds_toArray,List.set_cons_zero,List.set_cons_succ]
     refine co 6 λK hK=> ?_
     go_simp
     go_at_call 25;refine(QV.out _ _ _ _).mono ?_;rintro e w5 ⟨⟨⟨l1,l2,l3⟩,⟨h1,h2,h3⟩,⟨o1,o3,o4⟩,⟨f3,f4,f5⟩,⟨r1,r2,r3⟩,rfl,hsv⟩,k5⟩;replace hsv:=Lib.hid hsv;go_wp2_with fail
     refine hK.out _ _ ?_ (λhHeld=> ?_)
     ·(try dsimp only);skip
     clear hK K
     refine nx ?_
     have K5:=K4.tr k5
     have G5:=(aj.low K2 k4 (by omega)).tr k5
     obtain⟨lk,ck,fk⟩:=K5.get
     have B5:Hid (Below w.heap.size w w5):=Lib.hid (au ((b2.trans (k4.mono (Nat.le_trans (by omega) hle1)))) k5)
     have Q5:=Lib.hid (q4.out.tr k5)
     have hs5:=k5.size
     clear k4 k5 q4
     refine co 7 λK hK=> ?_
     go_simp
     skip
     refine hK.out _ _ ?_ (λhHeld=> ?_)
     ·(try dsimp only);skip
     clear hK K
     refine nx ?_
     refine wpAnyH_done (by kernel_rfl) ?_ _
     go_wp2_with fail
     go_meet
     refine nJ (h:=h) (p:=p) (zs:=P++[x]) (l0:=(la,ln,lc)) (i0:=(ha,hn',hc)) (o0:=(oa,wB,oc)) (f0:=(fa,fn,fc)) (r0:=(ra,rn,rc)) B5.out vC.out (wQ Q5.out HW1.out (by have:=Lc.out;simp;omega) (by omega)) (xU Qu.out HX.out) hsv.out K5 G5
    ·refine D8 rfl (.tmp 66) (.tmp 68) rfl w1.heap.size (.slice ad N cap) _ P [x] rfl rfl (o2.out.tr (by exact bm)) ((FT _ _ rfl).tr (Below.refl _ _).drew) ?_ ?_ ?_
     ·have:=Lc.out;simp;omega
     ·have:=HW2.out;simp;omega
     intro v4 w4 p4 hg4 iG
     have k4:Below w1.heap.size w2 w4:=dF hg4 (by(repeat(first|with_reducible exact Below.refl _ _|with_reducible assumption|with_reducible refine low_alloc ?_ (by omega) _|with_reducible refine aI ?_|with_reducible refine low_set ?_ (by first|omega|(simp;done)|(simp;omega)) _))) HW2.out o2.out.block
     have q4:=Lib.hid p4
     have Lm:=hg4.size
     clear hg4 iG p4
     obtain⟨va,vl,vc,rfl⟩:=aH q4.out fJ
     have hle1:=HW1.out
     have K4:=aj.low K1 k4 (by omega)
     obtain⟨l4,c4,f4⟩:=K4.get
     refine hK.out _ _ ?_ (λhHeld=> ?_)
     ·trivial
     clear hK K
     try simp only[List.getElem_toArray,List.getElem_cons_succ,List.getElem_cons_zero,Act.put,List.setIfInBounds_toArray,List.set_cons_zero,List.set_cons_succ]
     refine co 0 λK hK=> ?_
     go_simp
     skip
     refine hK.out _ _ ?_ (λhHeld=> ?_)
     ·(try dsimp only);skip
     clear hK K
     refine nx ?_
     refine co 6 λK hK=> ?_
     go_simp
     go_at_call 25;refine(QV.out _ _ _ _).mono ?_;rintro e w5 ⟨⟨⟨l1,l2,l3⟩,⟨h1,h2,h3⟩,⟨o1,o3,o4⟩,⟨f3,f4,f5⟩,⟨r1,r2,r3⟩,rfl,hsv⟩,k5⟩;replace hsv:=Lib.hid hsv;go_wp2_with fail
     refine hK.out _ _ ?_ (λhHeld=> ?_)
     ·(try dsimp only);skip
     clear hK K
     refine nx ?_
     have K5:=K4.tr k5
     have G5:=(aj.low K2 k4 (by omega)).tr k5
     obtain⟨lk,ck,fk⟩:=K5.get
     have B5:Hid (Below w.heap.size w w5):=Lib.hid (au ((b2.trans (k4.mono (Nat.le_trans (by omega) hle1)))) k5)
     have Q5:=Lib.hid (q4.out.tr k5)
     have hs5:=k5.size
     clear k4 k5 q4
     refine co 7 λK hK=> ?_
     go_simp
     skip
     refine hK.out _ _ ?_ (λhHeld=> ?_)
     ·(try dsimp only);skip
     clear hK K
     refine nx ?_
     refine wpAnyH_done (by kernel_rfl) ?_ _
     go_wp2_with fail
     go_meet
     refine nJ (h:=h) (p:=p) (zs:=P++[x]) (l0:=(la,ln,lc)) (i0:=(ha,hn',hc)) (o0:=(oa,wB,oc)) (f0:=(fa,fn,fc)) (r0:=(ra,rn,rc)) B5.out vC.out (wQ Q5.out HW1.out (by have:=Lc.out;simp;omega) (by omega)) (xU Qu.out HX.out) hsv.out K5 G5
  ·obtain⟨M,hM⟩:∃M,N+1=M:=⟨_,rfl⟩
   have hNM:IntKind.i64.wrap ((N:Int)+1)=(M:Int):=by rw[IntWalk.i64_in _ (by omega)];omega
   have hpk:=dw n (n:=(M:Int)) (by omega)
   obtain⟨k,hk⟩:∃k:Nat,aC n M=(k:Int):=⟨(aC n M).toNat,by omega⟩
   have hkN:k<=N:=by omega
   have hkc:k<=cap:=by omega
   have Iu:Hid (∀W,Calls Tryz.prog 23 #[.int .i64 n,.int .i64 M] W λe w'=>e=.returned (.int .i64 k)/\W=w'):=Lib.hid λW=>by rw[<-hk];exact HPN.out W M (by omega) (by omega)
   clear hk hpk hM
   go_upto_region 20 with(fail)
   refine wp_region_held_drew (S:=(λ_=>True)) (by kernel_rfl) ?_ (λhHeld=> ?_)
   ·(try dsimp only);skip
   refine tk 1 ?_
   refine tk 2 ?_
   refine tk 3 ?_
   refine tk 4 ?_
   refine tk 5 ?_
   refine tk 6 ?_
   refine wpAnyH_ready (rs:=[0,7]) (by kernel_rfl) (by simp) ?_
   refine AllReadyH.cons rfl (λK hK=> ?_) (AllReadyH.cons rfl (λK hK=> ?_) AllReadyH.nil)
   ·go_simp
    refine hK.out _ _ trivial (λhHeld=> ?_)
    clear hK K
    try simp only[List.getElem_toArray,List.getElem_cons_succ,List.getElem_cons_zero,Act.put,List.setIfInBounds_toArray,List.set_cons_zero,List.set_cons_succ]
    refine co 7 λK hK=> ?_
    go_simp
    go_at_call 23;refine(Iu.out _).mono ?_;rintro e w4 ⟨rfl,rfl⟩;go_wp2_with fail
    refine hK.out _ _ ?_ (λhHeld=> ?_)
    ·(try dsimp only);skip
    clear hK K
    refine nx ?_
    refine co 8 λK hK=> ?_
    go_simp
    skip
    refine hK.out _ _ ?_ (λhHeld=> ?_)
    ·(try dsimp only);skip
    clear hK K
    refine nx ?_
    refine co 9 λK hK=> ?_
    go_simp
    go_at_call 25;refine(QV.out _ _ _ _).mono ?_;rintro e w5 ⟨⟨⟨l1,l2,l3⟩,⟨h1,h2,h3⟩,⟨o1,o3,o4⟩,⟨f3,f4,f5⟩,⟨r1,r2,r3⟩,rfl,hsv⟩,k5⟩;replace hsv:=Lib.hid hsv;go_wp2_with fail
    refine hK.out _ _ ?_ (λhHeld=> ?_)
    ·(try dsimp only);skip
    clear hK K
    refine nx ?_
    have hle1:=HW1.out
    have b25:Below w2.heap.size w2 w5:=by exact bm
    have K5:=K1.tr b25
    have G5:=K2.tr b25
    obtain⟨lk,ck,fk⟩:=K5.get
    have B5:Hid (Below w.heap.size w w5):=Lib.hid (au b2 b25)
    have Q5:=Lib.hid (o2.out.tr b25)
    have hs5:=b25.size
    clear k5 b25
    refine co 10 λK hK=> ?_
    go_simp
    skip
    refine hK.out _ _ ?_ (λhHeld=> ?_)
    ·(try dsimp only);skip
    clear hK K
    refine nx ?_
    refine wpAnyH_done (by kernel_rfl) ?_ _
    go_wp2_with fail
    go_meet
    exact nJ (h:=h) (p:=p) (zs:=P.take k) (l0:=(la,ln,lc)) (i0:=(ha,hn',hc)) (o0:=(oa,wB,oc)) (f0:=(fa,fn,fc)) (r0:=(ra,rn,rc)) B5.out vC.out (EK Q5.out HW1.out (by have:=Lc.out;omega) (by omega) k hkN) (yY Qu.out k) hsv.out K5 G5
   ·go_simp
    go_at_call 23;refine(Iu.out _).mono ?_;rintro e w4 ⟨rfl,rfl⟩;go_wp2_with fail
    refine hK.out _ _ trivial (λhHeld=> ?_)
    clear hK K
    try simp only[List.getElem_toArray,List.getElem_cons_succ,List.getElem_cons_zero,Act.put,List.setIfInBounds_toArray,List.set_cons_zero,List.set_cons_succ]
    refine wpAnyH_ready (rs:=[0,8]) (by kernel_rfl) (by simp) ?_
    refine AllReadyH.cons rfl (λK hK=> ?_) (AllReadyH.cons rfl (λK hK=> ?_) AllReadyH.nil)
    ·go_simp
     refine hK.out _ _ trivial (λhHeld=> ?_)
     clear hK K
     try simp only[List.getElem_toArray,List.getElem_cons_succ,List.getElem_cons_zero,Act.put,List.setIfInBounds_toArray,List.set_cons_zero,List.set_cons_succ]
     refine co 8 λK hK=> ?_
     go_simp
     skip
     refine hK.out _ _ ?_ (λhHeld=> ?_)
     ·(try dsimp only);skip
     clear hK K
     refine nx ?_
     refine co 9 λK hK=> ?_
     go_simp
     go_at_call 25;refine(QV.out _ _ _ _).mono ?_;rintro e w5 ⟨⟨⟨l1,l2,l3⟩,⟨h1,h2,h3⟩,⟨o1,o3,o4⟩,⟨f3,f4,f5⟩,⟨r1,r2,r3⟩,rfl,hsv⟩,k5⟩;replace hsv:=Lib.hid hsv;go_wp2_with fail
     refine hK.out _ _ ?_ (λhHeld=> ?_)
     ·(try dsimp only);skip
     clear hK K
     refine nx ?_
     have hle1:=HW1.out
     have b25:Below w2.heap.size w2 w5:=by exact bm
     have K5:=K1.tr b25
     have G5:=K2.tr b25
     obtain⟨lk,ck,fk⟩:=K5.get
     have B5:Hid (Below w.heap.size w w5):=Lib.hid (au b2 b25)
     have Q5:=Lib.hid (o2.out.tr b25)
     have hs5:=b25.size
     clear k5 b25
     refine co 10 λK hK=> ?_
     go_simp
     skip
     refine hK.out _ _ ?_ (λhHeld=> ?_)
     ·(try dsimp only);skip
     clear hK K
     refine nx ?_
     refine wpAnyH_done (by kernel_rfl) ?_ _
     go_wp2_with fail
     go_meet
     exact nJ (h:=h) (p:=p) (zs:=P.take k) (l0:=(la,ln,lc)) (i0:=(ha,hn',hc)) (o0:=(oa,wB,oc)) (f0:=(fa,fn,fc)) (r0:=(ra,rn,rc)) B5.out vC.out (EK Q5.out HW1.out (by have:=Lc.out;omega) (by omega) k hkN) (yY Qu.out k) hsv.out K5 G5
    ·go_simp
     refine hK.out _ _ trivial (λhHeld=> ?_)
     clear hK K
     try simp only[List.getElem_toArray,List.getElem_cons_succ,List.getElem_cons_zero,Act.put,List.setIfInBounds_toArray,List.set_cons_zero,List.set_cons_succ]
     refine co 0 λK hK=> ?_
     go_simp
     skip
     refine hK.out _ _ ?_ (λhHeld=> ?_)
     ·(try dsimp only);skip
     clear hK K
     refine nx ?_
     refine co 9 λK hK=> ?_
     go_simp
     go_at_call 25;refine(QV.out _ _ _ _).mono ?_;rintro e w5 ⟨⟨⟨l1,l2,l3⟩,⟨h1,h2,h3⟩,⟨o1,o3,o4⟩,⟨f3,f4,f5⟩,⟨r1,r2,r3⟩,rfl,hsv⟩,k5⟩;replace hsv:=Lib.hid hsv;go_wp2_with fail
     refine hK.out _ _ ?_ (λhHeld=> ?_)
     ·(try dsimp only);skip
     clear hK K
     refine nx ?_
     have hle1:=HW1.out
     have b25:Below w2.heap.size w2 w5:=by exact bm
     have K5:=K1.tr b25
     have G5:=K2.tr b25
     obtain⟨lk,ck,fk⟩:=K5.get
     have B5:Hid (Below w.heap.size w w5):=Lib.hid (au b2 b25)
     have Q5:=Lib.hid (o2.out.tr b25)
     have hs5:=b25.size
     clear k5 b25
     refine co 10 λK hK=> ?_
     go_simp
     skip
     refine hK.out _ _ ?_ (λhHeld=> ?_)
     ·(try dsimp only);skip
     clear hK K
     refine nx ?_
     refine wpAnyH_done (by kernel_rfl) ?_ _
     go_wp2_with fail
     go_meet
     exact nJ (h:=h) (p:=p) (zs:=P.take k) (l0:=(la,ln,lc)) (i0:=(ha,hn',hc)) (o0:=(oa,wB,oc)) (f0:=(fa,fn,fc)) (r0:=(ra,rn,rc)) B5.out vC.out (EK Q5.out HW1.out (by have:=Lc.out;omega) (by omega) k hkN) (yY Qu.out k) hsv.out K5 G5
  ·rcases Nat.eq_zero_or_pos N with rfl|hN0
   ·go_wp2_with fail
    go_meet
    exact RQ (h:=h) (l:=(la,ln,lc)) (hi:=(ha,hn',hc)) (o:=(oa,wB,oc)) (f:=(fa,fn,fc)) (r:=(ra,rn,rc)) b2 vC.out K1 K2
   ·obtain⟨g,rfl,hgB,hgl,hgc⟩:=hc4 hN0
    have hgf:=kX o2.out
    have hgN:(N:Int)>0:=by omega
    have hpk:=dw n (n:=(N:Int)) (by omega)
    obtain⟨k,hk⟩:∃k:Nat,aC n N=(k:Int):=⟨(aC n N).toNat,by omega⟩
    have hkN:k<N:=by omega
    have Iu:Hid (∀W,Calls Tryz.prog 23 #[.int .i64 n,.int .i64 N] W λe w'=>e=.returned (.int .i64 k)/\W=w'):=Lib.hid λW=>by rw[<-hk];exact HPN.out W N hN0 (by omega)
    clear hk hpk
    obtain⟨y,hy⟩:=sS o2.out (k:=k) (by rw[Lc.out];exact hkN)
    have hne:w.heap.size≠g:=by have:=HW1.out;omega
    have hne1:w.heap.size+1≠g:=by have:=HW1.out;omega
    go_upto_region 5 with(fail)
    go_wp2_with fail
    refine(Iu.out _).mono ?_;rintro e w4 ⟨rfl,rfl⟩
    go_upto_region 6 with(fail)
    have K3:=K1.other (p:=⟨g,k,none⟩) hne (.int .u64 x)
    have G3:=K2.other (p:=⟨g,k,none⟩) hne1 (.int .u64 x)
    have q3:=xP (k:=k) o2.out x
    have b3:=low_set b2 (p:=⟨g,k,none⟩) (by have:=HW1.out;show w.heap.size<=g;omega) (.int .u64 x)
    have hs3:(w2.setCell ⟨g,k,none⟩ (.int .u64 x)).heap.size=w2.heap.size:=by simp[World.setCell]
    clear hy hgf l1 c1 f1 l2 c2 f2 K1 K2 b2 o2
    generalize w2.setCell ⟨g,k,none⟩ (.int .u64 x)=w3 at*
    replace q3:=Lib.hid q3
    obtain⟨l3,c3,f3⟩:=K3.get
    go_wp2_with fail
    refine(QV.out _ _ _ _).mono ?_;rintro e w5 ⟨⟨⟨l1,l2,l3'⟩,⟨h1,h2,h3⟩,⟨o1,o3,o4⟩,⟨f3',f4,f5⟩,⟨r1,r2,r3⟩,rfl,hsv⟩,k5⟩
    replace hsv:=Lib.hid hsv
    have K5:=K3.tr k5
    have G5:=G3.tr k5
    have q5:=Lib.hid (q3.out.tr k5)
    have B5:=Lib.hid (au b3 k5)
    have hs5:=k5.size
    clear l3 c3 f3 K3 G3 b3 k5 q3
    obtain⟨l5,c5,f5⟩:=K5.get
    go_wp2_with fail
    go_meet
    have ahz:=HW1.out
    have anT:=HW2.out
    exact nJ (h:=h) (p:=p) (zs:=P.set k x) (l0:=(la,ln,lc)) (i0:=(ha,hn',hc)) (o0:=(oa,wB,oc)) (f0:=(fa,fn,fc)) (r0:=(ra,rn,rc)) B5.out vC.out (wQ q5.out ahz (by have:=Lc.out;simp;omega) (by omega)) (Bc Qu.out HX.out k) hsv.out K5 G5
 case rest=>
  unfold Gz at hcut
  obtain⟨h',⟨l1,l2,l3⟩,⟨h1,h2,h3⟩,⟨o1,o3,o4⟩,⟨f3,f4,f5⟩,⟨r1,r2,r3⟩,KA,hoff,KB,bw⟩:=hcut
  unfold hC aS at KA
  unfold zC at KB
  dsimp only at KA
  have HO:=Lib.hid hoff
  clear hoff
  obtain⟨lA,cA,fA⟩:=KA.get
  obtain⟨lB,cB,fB⟩:=KB.get
  go_wp2_with fail
  refine bodyPost_ret (v:=.agg #[Value.int .u64 h'.base,.int .i64 h'.cap,.int .i64 h'.tt,.bool h'.dJ,.int .i64 h'.scan,.slice l1 l2 l3,.slice h1 h2 h3,.slice o1 o3 o4,.slice f3 f4 f5,.slice r1 r2 r3]) (by simp only[results,Tryz.results8];go_simp) rfl ⟨⟨h',(l1,l2,l3),(h1,h2,h3),(o1,o3,o4),(f3,f4,f5),(r1,r2,r3),rfl,?_⟩,?_⟩
  ·have:=(Off.bU (b:=w.heap.size+1) (L:=[(0,Value.int .u64 h'.base),(1,.int .i64 h'.cap),(2,.int .i64 h'.tt),(3,.bool h'.dJ),(4,.int .i64 h'.scan),(5,.slice l1 l2 l3),(6,.slice h1 h2 h3),(7,.slice o1 o3 o4),(8,.slice f3 f4 f5),(9,.slice r1 r2 r3)]) HO.out (by omega) (by omega)).now
   simp only[bU]at this
   exact this
  ·exact bm
end Go.Proofs.YtpgjploaliefdaaGreat.rh
