/- Layer 11's raw heaps: the heap of raw numbers is laid. No conditions. -/
import Derived.Test.YtpgjploaliefdaaGreatTk
import Derived.Test.YtpgjploaliefdaaGreatG14
namespace Go.Proofs.YtpgjploaliefdaaGreat.rh
open Go Go.RowKit hp ob hd cp ck gr lx
set_option linter.unusedVariables false
set_option linter.unusedSimpArgs false
set_option maxRecDepth 100000
set_option maxHeartbeats 4000000
theorem aa7(v:Hv)(p:Nat)(u:Value):(vg v p u).r=v.r:=by
 unfold vg
 repeat' split
 all_goals rfl
theorem GH{v:Hv}(h:SF v)(hr:v.r=.slice none 0 0)(p:Nat)(a:Option Addr)(n c:Nat):∃l h' o f:Sl,vg v p (.slice a n c)=⟨aS l,aS h',aS o,aS f,.slice none 0 0⟩:=by
 obtain⟨l,h',o,f,r,e⟩:=h.aau p a n c
 have:=aa7 v p (.slice a n c)
 rw[e,hr]at this
 exact⟨l,h',o,f,by rw[e];exact congrArg _ this⟩
theorem aa8(H:Hp)(p:Nat)(z:List Int)(v:Hv)(a b c d:Value):dA (setH H p z) v a b c d=dA H v a b c d:=by
 unfold setH dA jg
 repeat' split
 all_goals rfl
theorem O9(x:Rh)(c:Bool)(ok:jT x)(H:Hp)(v:Hv)(gs qs hs os:Sl)(p a:Nat)(nd:Sl×Sl)(ps ds:List Int)(tw:Int)(W:World)(n m n0:Nat)(hn0:n0<=W.heap.size)(hF:Off W n m λW=>Off W 0 n0 λW=>y8 W x c H v gs qs hs os)(hnd:lW W nd (ps,ds))(hp:1<=p/\p<=4)(hm:m<=W.heap.size)
  (hfit:a+1+ps.length+ds.length<=(H.part p).length) (hlen:(H.part p).length<=900) (hps:∀t∈ps,t<nN x) (hpl:ps.length<=4) (hdl:ds.length<=4):
  Calls Tryz.prog 58 #[dA H v (aS gs) (aS qs) (aS hs) (aS os),.agg #[.int .i64 p,.int .i64 a],.agg #[aS nd.1,aS nd.2],.int .i64 tw] W λe w'=>(∃l h o f:Sl,e=.returned (dA H ⟨aS l,aS h,aS o,aS f,.slice none 0 0⟩ (aS gs) (aS qs) (aS hs) (aS os))/\Off w' n m λW=>Off W 0 n0 λW=>y8 W x c (setH H p (l9 (H.part p) a (bV ((ps.length+ds.length:Nat):Int) ps.length::(bZ x c p a tw 0 ps++ds)))) ⟨aS l,aS h,aS o,aS f,.slice none 0 0⟩ gs qs hs os)/\Below W.heap.size W w':=by
 have F:=hF.now.now
 refine(U8 x c ok H v gs qs hs os p a nd ps ds tw W F.bin (F.part p) hnd hp hfit hlen hps hpl hdl).mono ?_
 rintro e w' ⟨⟨u,rfl,hu⟩,hb⟩
 obtain⟨ua,uc,eu⟩:=Ew (hu.sees fJ)
 obtain⟨l,h,o,f,e⟩:=GH F.bin.hf.sf F.r p ua (l9 (H.part p) a (bV ((ps.length+ds.length:Nat):Int) ps.length::(bZ x c p a tw 0 ps++ds))).length uc
 rw[<-eu]at e
 refine⟨⟨l,h,o,f,by rw[e],?_⟩,hb⟩
 rw[<-e]
 refine((hF.tr hb).and (JU fJ hu hm hn0)).imp λW hW=>(hW.1.and hW.2).imp λW hW=>hW.1.put hW.2 (Ie ?_)
 rw[List.length_cons,List.length_append,jf]
 omega
theorem aa9(x:Rh)(c:Bool){k:Nat}(hk:k<nN x)(h0:0<hpt x c k):hof x c (hpt x c k) k+1+(bf x k).length+(dI x k).length<=((mg x c k).part (hpt x c k)).length:=by
 have h1:=oW (z:=iF x) (q:=hpt x c) hk rfl
 have h2:=um x c k
 rw[zY x c (Nat.le_of_lt hk)]
 have h3:iF x k=(bf x k).length+(dI x k).length:=rfl
 unfold hof at*
 rcases(show hpt x c k=1\/hpt x c k=2 by omega)with h|h
 ·rw[h]at h1⊢
  rw[if_pos rfl]
  omega
 ·rw[h]at h1⊢
  rw[if_neg (by decide),if_pos rfl]
  omega
theorem V3(x:Rh)(c:Bool){k:Nat}(hk:k<nN x)(h0:0<opt x c k):aY x c (opt x c k) k+1+(bf x k).length+(dI x k).length<=((mg x c k).part (opt x c k)).length:=by
 have h1:=oW (z:=iF x) (q:=opt x c) hk rfl
 have h2:=mY x c k
 rw[zY x c (Nat.le_of_lt hk)]
 have h3:iF x k=(bf x k).length+(dI x k).length:=rfl
 unfold aY at*
 rcases(show opt x c k=3\/opt x c k=4 by omega)with h|h
 ·rw[h]at h1⊢
  rw[if_neg (by decide),if_neg (by decide),if_pos rfl]
  omega
 ·rw[h]at h1⊢
  rw[if_neg (by decide),if_neg (by decide),if_neg (by decide)]
  omega
theorem V4(x:Rh)(c:Bool)(p:Nat){k:Nat}(hk:k<=10):hof x c p k<=90/\aY x c p k<=90:=by
 have h1:=qw (iF x) (hpt x c) (uj x) [p] (by simp) k
 have h2:=qw (iF x) (opt x c) (uj x) [p] (by simp) k
 simp only[List.map_cons,List.map_nil,List.sum_cons,List.sum_nil]at h1 h2
 unfold hof aY
 omega
theorem rC(x:Rh)(c:Bool){i:Nat}(hi:i<=nN x)(p:Nat):((mg x c i).part p).length<=90:=by
 have:=DN x
 rw[zY x c hi]
 repeat' split
 all_goals first
  |exact(V4 x c _ this).1
  |exact(V4 x c _ this).2
theorem Af(x:Rh)(k:Nat):(bf x k).length<=4/\(dI x k).length<=4:=by
 unfold bf dI
 simp only[List.length_map,List.length_take]
 omega
section
variable {x : Rh} {c : Bool} {v : Hv} {gs qs hs os : Sl} {nd : Sl × Sl} {W : World} {n m n0 k : Nat}
theorem abb(ok:jT x)(hn0:n0<=W.heap.size)(hk:k<nN x)(h0:0<hpt x c k)(hF:Off W n m λW=>Off W 0 n0 λW=>y8 W x c (mg x c k) v gs qs hs os)(hnd:lW W nd (bf x k,dI x k))(hm:m<=W.heap.size):
  Calls Tryz.prog 58 #[dA (mg x c k) v (aS gs) (aS qs) (aS hs) (aS os),.agg #[.int .i64 (hpt x c k),.int .i64 (hof x c (hpt x c k) k)],.agg #[aS nd.1,aS nd.2],.int .i64 (wr (x.dR+k))] W λe w'=>(∃l h o f:Sl,e=.returned (dA (mg x c k) ⟨aS l,aS h,aS o,aS f,.slice none 0 0⟩ (aS gs) (aS qs) (aS hs) (aS os))/\Off w' n m λW=>Off W 0 n0 λW=>y8 W x c (OT x c k) ⟨aS l,aS h,aS o,aS f,.slice none 0 0⟩ gs qs hs os)/\Below W.heap.size W w':=
 O9 x c ok (mg x c k) v gs qs hs os _ _ nd _ _ _ W n m n0 hn0 hF hnd ⟨by omega,by have:=um x c k;omega⟩ hm (aa9 x c hk h0) (by have:=rC x c (Nat.le_of_lt hk) (hpt x c k);omega) (λt ht=>(zI x k t ht).2) (Af x k).1 (Af x k).2
theorem abd(ok:jT x)(hn0:n0<=W.heap.size)(hk:k<nN x)(h0:0<opt x c k)(h1:hpt x c k=0)(hF:Off W n m λW=>Off W 0 n0 λW=>y8 W x c (mg x c k) v gs qs hs os)(hnd:lW W nd (bf x k,dI x k))(hm:m<=W.heap.size):
  Calls Tryz.prog 58 #[dA (mg x c k) v (aS gs) (aS qs) (aS hs) (aS os),.agg #[.int .i64 (opt x c k),.int .i64 (aY x c (opt x c k) k)],.agg #[aS nd.1,aS nd.2],.int .i64 0] W λe w'=>(∃l h o f:Sl,e=.returned (dA (mg x c k) ⟨aS l,aS h,aS o,aS f,.slice none 0 0⟩ (aS gs) (aS qs) (aS hs) (aS os))/\Off w' n m λW=>Off W 0 n0 λW=>y8 W x c (mg x c (k+1)) ⟨aS l,aS h,aS o,aS f,.slice none 0 0⟩ gs qs hs os)/\Below W.heap.size W w':=by
 have e:vk x c k=⟨bV (iF x k) (bf x k).length,iF x k,(bf x k).length,false,bZ x c (opt x c k) (aY x c (opt x c k) k) 0 0 (bf x k)++dI x k⟩:=if_neg (by omega)
 have s:=aay (x:=x) (c:=c) hk rfl h0 h1
 rw[e]at s
 rw[<-s]
 exact O9 x c ok (mg x c k) v gs qs hs os _ _ nd _ _ _ W n m n0 hn0 hF hnd ⟨by omega,by have:=mY x c k;omega⟩ hm (V3 x c hk h0) (by have:=rC x c (Nat.le_of_lt hk) (opt x c k);omega) (λt ht=>(zI x k t ht).2) (Af x k).1 (Af x k).2
end
theorem xW:∀{L:List (Nat×Value)}{W:World}{b:Nat},(bU W b L).heap.size=W.heap.size
 |[],_,_=>rfl
 |q::L,_,_=>(xW (L:=L)).trans (by simp[World.setCell])
theorem NG{W w1:World}{b:Nat}{cs:Array Value}{p:Addr}{v:Value}(hb:Below W.heap.size W w1)(h1:b<W.heap.size)(d1:∀i,W.cell? ⟨b,i,none⟩=cs[i]?)(h:W.cell? p=some v):(∀i,w1.cell? ⟨b,i,none⟩=cs[i]?)/\w1.cell? p=some v:=⟨λi=>(hb.cell (p:=⟨b,i,none⟩) h1).trans (d1 i),ah hb h⟩
theorem V5{W w1:World}{b:Nat}{cs:Array Value}{p1 p2 p3 p4:Addr}{v1 v2 v3 v4:Value}(hb:Below W.heap.size W w1)(h1:b<W.heap.size)(d1:∀i,W.cell? ⟨b,i,none⟩=cs[i]?)(h2:W.cell? p1=some v1)(h3:W.cell? p2=some v2)(h4:W.cell? p3=some v3)(h5:W.cell? p4=some v4):
  (∀i,w1.cell? ⟨b,i,none⟩=cs[i]?)/\w1.cell? p1=some v1/\w1.cell? p2=some v2/\w1.cell? p3=some v3/\w1.cell? p4=some v4:=⟨λi=>(hb.cell (p:=⟨b,i,none⟩) h1).trans (d1 i),ah hb h2,ah hb h3,ah hb h4,ah hb h5⟩
theorem ahA(H:Hp)(p:Nat)(z:List Int)(v:Hv):fD (setH H p z) v=fD H v:=by
 unfold setH fD
 repeat' split
 all_goals rfl
theorem Pg{W w1:World}(hb:Below W.heap.size W w1){p1 p2 p3 p4 p5 p6:Addr}{v1 v2 v3 v4 v5 v6:Value}(h1:W.cell? p1=some v1)(h2:W.cell? p2=some v2)(h3:W.cell? p3=some v3)(h4:W.cell? p4=some v4)(h5:W.cell? p5=some v5)(h6:W.cell? p6=some v6):
  w1.cell? p1=some v1/\w1.cell? p2=some v2/\w1.cell? p3=some v3/\w1.cell? p4=some v4/\w1.cell? p5=some v5/\w1.cell? p6=some v6:=⟨ah hb h1,ah hb h2,ah hb h3,ah hb h4,ah hb h5,ah hb h6⟩
theorem V6(x:Rh)(c:Bool)(X:Xv)(v:Hv)(gs qs hs os:Sl)(w:World)(n0:Nat)(hn0:n0<=w.heap.size)(hff:Off w 0 n0 λW=>y8 W x c (aO x c) v gs qs hs os)(hx:Qq w X x):
  Calls Tryz.prog 22 #[dA (aO x c) v (aS gs) (aS qs) (aS hs) (aS os),.agg (gG X x)] w λe w'=>(∃u,e=.returned (fD (bF x c) u)/\Off w' 0 n0 λW=>kH W (bF x c) u)/\Below w.heap.size w w':=by
 have ok:=hx.ok
 have hf:=hff.now
 obtain⟨ia2,ib,io,ic2,e1,i1,i2,i3,i4,i5,i6⟩:=hf.bin.hl.form
 obtain⟨oa2,jb,jo,oc2,e2,o1,o2,o3,o4,o5,o6⟩:=hf.bin.ol.form
 have hll:(iP x c (nN x)).length=nN x:=by unfold iP;simp
 have oll:(ku x c (nN x)).length=nN x:=by unfold ku;simp
 rw[hll]at e1 i1 i5
 rw[oll]at e2 o1 o5
 obtain⟨vs0,adX,adY,ahC⟩:=hf.nodes
 obtain⟨ga2,gb,go,gc2,e3,g1,g2,g3,g4,g5,g6⟩:=adY.form
 obtain⟨qa2,qb,qo,qc2,e4,q1,q2,q3,q4,q5,q6⟩:=hf.roots.form
 have hgl:(lX x).length=nN x:=by unfold lX;simp
 rw[adX,hgl]at e3 g1 g5
 obtain⟨ga,gn,gc⟩:=gs
 obtain⟨qa,qn,qc⟩:=qs
 obtain⟨ia,inn,ic⟩:=hs
 obtain⟨ja,jn,jc⟩:=os
 simp only[aS,Value.slice.injEq]at e1 e2 e3 e4
 obtain⟨rfl,rfl,rfl⟩:=e1
 obtain⟨rfl,rfl,rfl⟩:=e2
 obtain⟨rfl,rfl,rfl⟩:=e3
 obtain⟨rfl,hqn,rfl⟩:=e4
 have HQN:=Lib.hid hqn
 clear hqn i2 i3 i4 i6 o2 o3 o4 o6 hll oll adX adY ahC g2 g3 g4 g6 hgl q2 q3 q4 q6
 have hr:=hf.r
 obtain⟨⟨la,lc,e1⟩,⟨ha,hc,e2⟩,⟨oa,oc,e3⟩,⟨fa,fc,e4⟩,_⟩:=hf.bin.hf
 obtain⟨vl,vh,vo,vf,vr⟩:=v
 dsimp only at e1 e2 e3 e4 hr
 subst e1 e2 e3 e4 hr
 obtain⟨⟨a1,n1,c1⟩,⟨a2,n2,c2⟩,⟨a3,n3,c3⟩⟩:=X
 have HF0:=Lib.hid hff
 have anW:=Lib.hid hx.num
 have ahE:=DN x
 have anX:Hid (∀k p,k<=nN x->hof x c p k<=90/\aY x c p k<=90):=Lib.hid λk p hk=>by
  have h1:=qw (iF x) (hpt x c) (uj x) [p] (by simp) k
  have h2:=qw (iF x) (opt x c) (uj x) [p] (by simp) k
  simp only[List.map_cons,List.map_nil,List.sum_cons,List.sum_nil]at h1 h2
  unfold hof aY
  omega
 have HI0:=Lib.hid (Vb x c)
 clear hf hx hff
 unfold dA jg gG aS
 dsimp only
 have hsb:(aO x c).base=(dW x c).base:=rfl
 have hsc:(aO x c).cap=(dW x c).cap:=rfl
 have hst:(aO x c).tt=(dW x c).tt:=rfl
 have hsy:(aO x c).dJ=c:=rfl
 have hss:(aO x c).scan=iU x c:=rfl
 rw[hsb,hsc,hst,hsy,hss]
 generalize(aO x c).low.length=ln at*
 generalize(aO x c).high.length=hn at*
 generalize(aO x c).old.length=wB at*
 generalize(aO x c).far.length=fn at*
 have zh:Hid (∀k,(mg x c k).base=(dW x c).base/\(mg x c k).cap=(dW x c).cap/\(mg x c k).tt=(dW x c).tt/\(mg x c k).dJ=c/\(mg x c k).scan=(iU x c:Int)):=Lib.hid λk=>⟨rfl,rfl,rfl,rfl,rfl⟩
 have HRV:Hid ((bF x c).base=(dW x c).base/\(bF x c).cap=(dW x c).cap/\(bF x c).tt=(dW x c).tt/\(bF x c).dJ=c/\(bF x c).scan=(iU x c:Int)):=Lib.hid ⟨rfl,rfl,rfl,rfl,rfl⟩
 have HLY:Hid (∀k,k<=nN x->∀p,((mg x c k).part p).length=if p=1 then hof x c 1 (nN x)else if p=2 then hof x c 2 (nN x)else if p=3 then aY x c 3 (nN x)else aY x c 4 (nN x)):=Lib.hid λk hk p=>zY x c hk p
 generalize(dW x c).base=BS at*
 generalize(dW x c).cap=CP at*
 generalize(dW x c).tt=TT at*
 generalize hSC:(iU x c:Int)=SC at*
 generalize hNe:nN x=N at*
 have Zk:=Lib.hid hNe
 clear hSC hsb hsc hst hsy hss hNe
 go_enter Tryz.func22,Tryz.ntmps22
 go_wp2_with fail
 go_loopw [5] (λi wr=>∃(k:Nat)(l h o f:Sl),k<=N/\i=.int .i64 k/\Hid (aj wr w.heap.size #[.int .u64 BS,.int .i64 CP,.int .i64 TT,.bool c,.int .i64 SC,aS l,aS h,aS o,aS f,.slice none 0 0,.slice ga N gc,.slice qa qn qc,.slice ia N ic,.slice ja N jc] 64)/\Hid (Off wr w.heap.size (w.heap.size+3) λW=>Off W 0 n0 λW=>y8 W x c (mg x c k) ⟨aS l,aS h,aS o,aS f,.slice none 0 0⟩ (ga,N,gc) (qa,qn,qc) (ia,N,ic) (ja,N,jc))/\Hid (aj wr (w.heap.size+1) #[.slice a1 n1 c1,.slice a2 n2 c2,.slice a3 n3 c3,.int .u64 x.base,.int .i64 x.dR,.int .i64 x.scan,.int .i64 x.tt] 26)/\Hid (aj wr (w.heap.size+2) #[.int .u64 0,.int .i64 0,.int .i64 0,.bool false,.int .i64 0,.slice none 0 0,.slice none 0 0,.slice none 0 0,.slice none 0 0,.slice none 0 0] 32)/\Hid (Below w.heap.size w wr)/\w.heap.size+3<=wr.heap.size) (λi _=>N-(intOf i).toNat)
 case atStart=>
  refine⟨0,(la,ln,lc),(ha,hn,hc),(oa,wB,oc),(fa,fn,fc),Nat.zero_le _,rfl,Lib.hid (.alloc (.alloc (.new w _ _) _) _),Lib.hid ?_,Lib.hid (.alloc (.mk (by simp)) _),Lib.hid (.mk (by simp)),Lib.hid (by exact bm),by simp⟩
  rw[HI0.out]
  exact off2 HF0.out (by exact bm)
 case round=>
  obtain⟨k,⟨la,ln,lc⟩,⟨ha,hn,hc⟩,⟨ua,un,uc⟩,⟨fa,fn,fc⟩,hk,rfl,HB,HF,HX,HR,HW,hsz⟩:=hrel
  unfold aS at HB HF
  dsimp only at HB HF
  by_cases hlt:k<N
  ·obtain rfl:=i1 (by omega)
   obtain rfl:=o1 (by omega)
   obtain rfl:=g1 (by omega)
   have hib:=i5 (by omega)
   have hjb:=o5 (by omega)
   have hgb:=g5 (by omega)
   have hkx:k<nN x:=by rw[Zk.out];exact hlt
   have F:=HF.out.now.now
   have hc0:=F.bin.hl.at (i:=k) (rQ hkx) 0 (.int .i64 (uZ x c k).1) rfl
   have hc1:=F.bin.hl.at (i:=k) (rQ hkx) 1 (.int .i64 (uZ x c k).2) rfl
   have BZ:=F.bin.ol.at (i:=k) (rQ hkx) 0 (.int .i64 (Aj x c k).1) rfl
   have EZ:=F.bin.ol.at (i:=k) (rQ hkx) 1 (.int .i64 (Aj x c k).2) rfl
   rw[Nat.add_zero]at hc0 BZ
   obtain⟨vs,hvl,hvs,hnn⟩:=F.nodes
   have hvk:k<vs.length:=by rw[hvl];unfold lX;simp[hkx]
   obtain⟨⟨⟨pa,pn,pc⟩,⟨da,dn,dc⟩⟩,hae⟩:∃a,vs[k]=a:=⟨_,rfl⟩
   have nd0:=hvs.at (i:=k) (List.getElem?_eq_getElem hvk) 0 (.slice pa pn pc) (by rw[hae];rfl)
   have nd1:=hvs.at (i:=k) (List.getElem?_eq_getElem hvk) 1 (.slice da dn dc) (by rw[hae];rfl)
   rw[Nat.add_zero]at nd0
   have XT:=Lib.hid (hnn k ((pa,pn,pc),(da,dn,dc)) (bf x k,dI x k) (by rw[List.getElem?_eq_getElem hvk,hae]) (by unfold lX;rw[List.getElem?_map,List.getElem?_range hkx];rfl))
   clear hvl hvs hnn hae hvk F
   have hbb:=HB.out
   have hxx:=HX.out
   obtain⟨lb,cb,fb⟩:=hbb.get
   obtain⟨lx,cx,fx⟩:=hxx.get
   have hph:(uZ x c k).1=hpt x c k:=rfl
   have hpo:(Aj x c k).1=opt x c k:=rfl
   have HP2:Hid (0<hpt x c k->(uZ x c k).2=hof x c (hpt x c k) k):=Lib.hid λh=>by unfold uZ;dsimp only;rw[if_neg (by omega)]
   have OP2:Hid (0<opt x c k->(Aj x c k).2=aY x c (opt x c k) k):=Lib.hid λh=>by unfold Aj;dsimp only;rw[if_neg (by omega)]
   rw[hph]at hc0
   rw[hpo]at BZ
   generalize(uZ x c k).2=H2 at*
   generalize(Aj x c k).2=O2 at*
   have HHP:=Lib.hid (jJ x c k)
   obtain⟨HP,hHP⟩:∃m,hpt x c k=m:=⟨_,rfl⟩
   obtain⟨OP,hOP⟩:∃m,opt x c k=m:=⟨_,rfl⟩
   rw[hHP]at hc0
   rw[hOP]at BZ
   have Le:=Lib.hid hHP
   have Nh:=Lib.hid hOP
   have hcas:(0<HP/\HP<=2)\/(HP=0/\0<OP/\OP<=4):=by have h1:=jJ x c k;rw[hHP,hOP]at h1;omega
   clear hHP hOP hph hpo
   go_upto_region 5 with(fail)
   have b0:Below wr.heap.size wr (wr.alloc (.cells #[.slice pa pn pc,.slice da dn dc] 111)):=by exact bm
   have KN:=aj.new wr #[.slice pa pn pc,.slice da dn dc] 111
   have HW0:Hid (Below w.heap.size w (wr.alloc (.cells #[.slice pa pn pc,.slice da dn dc] 111))):=Lib.hid (au HW.out b0)
   replace HB:=Lib.hid (HB.out.tr b0)
   replace HX:=Lib.hid (HX.out.tr b0)
   replace HR:=Lib.hid (HR.out.tr b0)
   replace HF:=Lib.hid (HF.out.tr b0)
   replace XT:=Lib.hid (XT.out.tr b0)
   replace hc0:=ah b0 hc0
   replace hc1:=ah b0 hc1
   replace BZ:=ah b0 BZ
   replace EZ:=ah b0 EZ
   have hs0:w.heap.size+3<=(wr.alloc (.cells #[.slice pa pn pc,.slice da dn dc] 111)).heap.size:=Nat.le_trans hsz b0.size
   have hNB:wr.heap.size≠w.heap.size:=by omega
   clear hbb hxx lb cb fb lx cx fx nd0 nd1 b0 HW
   generalize wr.alloc (.cells #[.slice pa pn pc,.slice da dn dc] 111)=W0 at*
   generalize wr.heap.size=NB at*
   have hbb:=HB.out
   have hxx:=HX.out
   obtain⟨lb,cb,fb⟩:=hbb.get
   obtain⟨lx,cx,fx⟩:=hxx.get
   obtain⟨ln_,cn,fn_⟩:=KN.get
   rcases hcas with⟨hp0,hp2⟩|⟨rfl,op0,op4⟩
   ·have hgt:(HP:Int)>0:=by omega
    obtain⟨TW,hTW⟩:∃m,IntKind.i64.wrap (x.dR+(k:Int))=m:=⟨_,rfl⟩
    have ad6:rh.wr (x.dR+k)=TW:=hTW
    have hh2:H2=hof x c (hpt x c k) k:=HP2.out (by rw[Le.out];exact hp0)
    have XH:Hid (∀W,Below W0.heap.size W0 W->Calls Tryz.prog 58 #[.agg #[Value.int .u64 BS,.int .i64 CP,.int .i64 TT,.bool c,.int .i64 SC,.slice la ln lc,.slice ha hn hc,.slice ua un uc,.slice fa fn fc,.slice none 0 0,.slice (some ⟨gb,go,none⟩) N gc,.slice qa qn qc,.slice (some ⟨ib,io,none⟩) N ic,.slice (some ⟨jb,jo,none⟩) N jc],.agg #[.int .i64 HP,.int .i64 H2],.agg #[.slice pa pn pc,.slice da dn dc],.int .i64 TW] W λe w'=>(∃l h o f:Sl,e=.returned (.agg #[.int .u64 BS,.int .i64 CP,.int .i64 TT,.bool c,.int .i64 SC,.slice l.1 l.2.1 l.2.2,.slice h.1 h.2.1 h.2.2,.slice o.1 o.2.1 o.2.2,.slice f.1 f.2.1 f.2.2,.slice none 0 0,.slice (some ⟨gb,go,none⟩) N gc,.slice qa qn qc,.slice (some ⟨ib,io,none⟩) N ic,.slice (some ⟨jb,jo,none⟩) N jc])/\Off w' w.heap.size (w.heap.size+3) λW=>Off W 0 n0 λW=>y8 W x c (OT x c k) ⟨.slice l.1 l.2.1 l.2.2,.slice h.1 h.2.1 h.2.2,.slice o.1 o.2.1 o.2.2,.slice f.1 f.2.1 f.2.2,.slice none 0 0⟩ (some ⟨gb,go,none⟩,N,gc) (qa,qn,qc) (some ⟨ib,io,none⟩,N,ic) (some ⟨jb,jo,none⟩,N,jc))/\Below W.heap.size W w'):=Lib.hid λW hW=>by
     have hsw:=hW.size
     have h1:=abb (nd:=((pa,pn,pc),(da,dn,dc))) ok (by omega) hkx (by rw[Le.out];exact hp0) (HF.out.tr hW) (XT.out.tr hW) (Nat.le_trans hs0 hsw)
     rw[<-hh2,Le.out,ad6]at h1
     unfold dA jg aS at h1
     dsimp only at h1
     rw[(zh.out k).1,(zh.out k).2.1,(zh.out k).2.2.1,(zh.out k).2.2.2.1,(zh.out k).2.2.2.2]at h1
     exact h1
    clear hh2 ad6
    go_upto_region 6 with(fail)
    refine wp_region_held_drew (S:=(λw'=>w'.cell? ⟨w.heap.size,12,none⟩=some (.slice (some ⟨ib,io,none⟩) N ic)/\w'.cell? ⟨ib,io+k*2,none⟩=some (.int .i64 HP)/\w'.cell? ⟨ib,io+k*2+1,none⟩=some (.int .i64 H2)/\w'.cell? ⟨NB,0,none⟩=some (.slice pa pn pc)/\w'.cell? ⟨NB,1,none⟩=some (.slice da dn dc)/\w'.cell? ⟨w.heap.size+1,4,none⟩=some (.int .i64 x.dR))) (by kernel_rfl) ?_ (λhHeld=> ?_)
    ·(try dsimp only);refine Pg (W:=W0) ?_ (cb 12) hc0 hc1 (cn 0) (cn 1) (cx 4);exact bm
    refine tk 1 ?_
    refine tk 2 ?_
    refine tk 3 ?_
    refine tk 4 ?_
    refine tk 5 ?_
    refine tk 6 ?_
    refine tk 7 ?_
    refine tk 8 ?_
    refine tk 9 ?_
    refine tk 10 ?_
    have hkeep:Hid (∀W1:World,Below W0.heap.size W0 W1->W1.cell? ⟨w.heap.size,12,none⟩=some (.slice (some ⟨ib,io,none⟩) N ic)/\W1.cell? ⟨ib,io+k*2,none⟩=some (.int .i64 HP)/\W1.cell? ⟨ib,io+k*2+1,none⟩=some (.int .i64 H2)/\W1.cell? ⟨NB,0,none⟩=some (.slice pa pn pc)/\W1.cell? ⟨NB,1,none⟩=some (.slice da dn dc)/\W1.cell? ⟨w.heap.size+1,4,none⟩=some (.int .i64 x.dR)):=Lib.hid λW1 h=>Pg (W:=W0) h (cb 12) hc0 hc1 (cn 0) (cn 1) (cx 4)
    refine co 0 λK hK=> ?_
    go_simp
    skip
    refine hK.out _ _ ?_ (λhHeld=> ?_)
    ·(try dsimp only);refine hkeep.out _ ?_;exact bm
    clear hK K
    refine nx ?_
    refine co 11 λK hK=> ?_
    go_simp
    go_at_call 58;refine(XH.out _ (by exact bm)).mono ?_;rintro e w5 ⟨⟨⟨l1,l2,l3⟩,⟨h1,h2,h3⟩,⟨u1,u2,u3⟩,⟨f1,f2,f3⟩,rfl,hf5⟩,k5⟩;go_wp2_with fail
    refine hK.out _ _ ?_ (λhHeld=> ?_)
    ·(try dsimp only);refine hkeep.out _ ?_;exact bm
    clear hK K
    refine nx ?_
    have b5:Below W0.heap.size W0 w5:=by exact bm
    have SE:=HB.out.tr b5
    obtain⟨lb5,cb5,fb5⟩:=SE.get
    have hnx:w.heap.size+1≠w.heap.size:=by omega
    have hnr:w.heap.size+2≠w.heap.size:=by omega
    obtain⟨LV,lH⟩:∃L:List (Nat×Value),L=[(0,Value.int .u64 BS),(1,.int .i64 CP),(2,.int .i64 TT),(3,.bool c),(4,.int .i64 SC),(5,.slice l1 l2 l3),(6,.slice h1 h2 h3),(7,.slice u1 u2 u3),(8,.slice f1 f2 f3),(9,.slice none 0 0),(10,.slice (some ⟨gb,go,none⟩) N gc),(11,.slice qa qn qc),(12,.slice (some ⟨ib,io,none⟩) N ic),(13,.slice (some ⟨jb,jo,none⟩) N jc)]:=⟨_,rfl⟩
    have hW:((((((((((((((w5.setCell ⟨w.heap.size,0,none⟩ (.int .u64 BS)).setCell ⟨w.heap.size,1,none⟩ (.int .i64 CP)).setCell ⟨w.heap.size,2,none⟩ (.int .i64 TT)).setCell ⟨w.heap.size,3,none⟩ (.bool c)).setCell ⟨w.heap.size,4,none⟩ (.int .i64 SC)).setCell ⟨w.heap.size,5,none⟩ (.slice l1 l2 l3)).setCell ⟨w.heap.size,6,none⟩ (.slice h1 h2 h3)).setCell ⟨w.heap.size,7,none⟩ (.slice u1 u2 u3)).setCell ⟨w.heap.size,8,none⟩ (.slice f1 f2 f3)).setCell ⟨w.heap.size,9,none⟩ (.slice none 0 0)).setCell ⟨w.heap.size,10,none⟩ (.slice (some ⟨gb,go,none⟩) N gc)).setCell ⟨w.heap.size,11,none⟩ (.slice qa qn qc)).setCell ⟨w.heap.size,12,none⟩ (.slice (some ⟨ib,io,none⟩) N ic)).setCell ⟨w.heap.size,13,none⟩ (.slice (some ⟨jb,jo,none⟩) N jc))=bU w5 w.heap.size LV:=by rw[lH];simp only[bU]
    have NH:=Lib.hid hW
    have V7:=Lib.hid lH
    clear hW
    have y9:=aj.bU (L:=LV) SE
    have h12:(bU w5 w.heap.size LV).cell? ⟨w.heap.size,12,none⟩=some (.slice (some ⟨ib,io,none⟩) N ic):=by
     rw[y9.get.2.1 12,lH]
     simp only[rJ,List.setIfInBounds_toArray,List.set_cons_zero,List.set_cons_succ]
     rfl
    clear lH
    have H12:=Lib.hid h12
    have y9:=Lib.hid y9
    clear h12
    have HC0:=Lib.hid hc0
    have EL:=Lib.hid hc1
    have HD0:=Lib.hid BZ
    have HD1:=Lib.hid EZ
    have B5:=Lib.hid b5
    clear hc0 hc1 BZ EZ hxx lx cx fx ln_ cn fn_ hkeep lb cb fb hbb b5
    refine co 12 λK hK=> ?_
    go_simp
    skip
    refine hK.out _ _ ?_ (λhHeld=> ?_)
    ·(try dsimp only);rw[NH.out];exact⟨H12.out,dK hHeld.2.1 (Nat.ne_of_lt hib),dK hHeld.2.2.1 (Nat.ne_of_lt hib),dK hHeld.2.2.2.1 hNB,dK hHeld.2.2.2.2.1 hNB,dK hHeld.2.2.2.2.2 hnx⟩
    clear hK K
    refine nx ?_
    refine wpAnyH_done (by kernel_rfl) ?_ _
    have b5:=B5.out
    have hc0:=HC0.out
    have hc1:=EL.out
    have BZ:=HD0.out
    have EZ:=HD1.out
    have HX6:=aj.dQ (L:=LV) (b:=w.heap.size) (HX.out.tr b5) hnx
    have y7:=aj.dQ (L:=LV) (b:=w.heap.size) (HR.out.tr b5) hnr
    have HF6:=Off.bU (L:=LV) hf5 (Nat.le_refl _) (show w.heap.size<w.heap.size+3 by omega)
    have HW6:=fQ (L:=LV) (au HW0.out b5) (Nat.le_refl _)
    have hs6:w.heap.size+3<=(bU w5 w.heap.size LV).heap.size:=by rw[xW];exact Nat.le_trans hs0 b5.size
    have V8:=dK (L:=LV) (ah b5 hc0) (Nat.ne_of_lt hib)
    have hc16:=dK (L:=LV) (ah b5 hc1) (Nat.ne_of_lt hib)
    have Ir:=dK (L:=LV) (ah b5 BZ) (Nat.ne_of_lt hjb)
    have V9:=dK (L:=LV) (ah b5 EZ) (Nat.ne_of_lt hjb)
    replace y9:=y9.out
    rw[<-NH.out]at y9 HX6 y7 HF6 HW6 hs6 V8 hc16 Ir V9
    clear NH H12 SE lb5 cb5 fb5 b5 hf5 k5 hHeld KN HB HX HR HF XT HW0 hc0 hc1 BZ EZ hs0 hsz XH hTW HC0 EL HD0 HD1 B5
    generalize((((((((((((((w5.setCell ⟨w.heap.size,0,none⟩ (.int .u64 BS)).setCell ⟨w.heap.size,1,none⟩ (.int .i64 CP)).setCell ⟨w.heap.size,2,none⟩ (.int .i64 TT)).setCell ⟨w.heap.size,3,none⟩ (.bool c)).setCell ⟨w.heap.size,4,none⟩ (.int .i64 SC)).setCell ⟨w.heap.size,5,none⟩ (.slice l1 l2 l3)).setCell ⟨w.heap.size,6,none⟩ (.slice h1 h2 h3)).setCell ⟨w.heap.size,7,none⟩ (.slice u1 u2 u3)).setCell ⟨w.heap.size,8,none⟩ (.slice f1 f2 f3)).setCell ⟨w.heap.size,9,none⟩ (.slice none 0 0)).setCell ⟨w.heap.size,10,none⟩ (.slice (some ⟨gb,go,none⟩) N gc)).setCell ⟨w.heap.size,11,none⟩ (.slice qa qn qc)).setCell ⟨w.heap.size,12,none⟩ (.slice (some ⟨ib,io,none⟩) N ic)).setCell ⟨w.heap.size,13,none⟩ (.slice (some ⟨jb,jo,none⟩) N jc))=W1 at*
    rw[V7.out]at y9
    simp only[rJ,List.setIfInBounds_toArray,List.set_cons_zero,List.set_cons_succ]at y9
    clear V7
    have Yl:=Lib.hid y9
    have HXN:=Lib.hid HX6
    have Ym:=Lib.hid y7
    have Yn:=Lib.hid HF6
    have HWN:=Lib.hid HW6
    obtain⟨lb,cb,fb⟩:=y9.get
    clear HX6 y7 HF6 HW6
    rcases Nat.eq_zero_or_pos OP with rfl|op0
    ·clear y9
     have hst:OT x c k=mg x c (k+1):=aax hkx rfl (by rw[Le.out];exact hp0) Nh.out
     rw[hst]at Yn
     go_wp2_with fail
     exact⟨⟨k+1,(l1,l2,l3),(h1,h2,h3),(u1,u2,u3),(f1,f2,f3),by omega,by go_num,Yl,Yn,HXN,Ym,HWN,hs6⟩,by simp[intOf];omega⟩
    ·have ad9:OP<=4:=by have h1:=HHP.out;have h2:=Le.out;have h3:=Nh.out;rw[h2,h3]at h1;omega
     have hgo:(OP:Int)>0:=by omega
     have hne0:((HP:Int)==0)=false:=by rw[beq_eq_false_iff_ne];omega
     have hk1:=Yn.out.now.now
     have abj:3<=OP:=by have h1:=HHP.out;have h2:=Le.out;have h3:=Nh.out;rw[h2,h3]at h1;omega
     have Yo:=hk1.bin.hf.sf
     have hrow:=hk1.part OP
     rw[JV (by rw[Le.out];exact hp0) abj]at hrow
     have ho2:O2=aY x c (opt x c k) k:=OP2.out (by rw[Nh.out];exact op0)
     have hfit:=V3 x c hkx (by rw[Nh.out];exact op0)
     have ahI:=rC x c (Nat.le_of_lt hkx) OP
     rw[<-ho2,Nh.out]at hfit
     have Qu:Hid (setH (OT x c k) OP (((mg x c k).part OP).set O2 (hrf x c k))=mg x c (k+1)):=Lib.hid (by
      have:=aaz (x:=x) (c:=c) hkx (by rw[Le.out];exact hp0) rfl (by rw[Nh.out];exact abj)
      rw[Nh.out]at this ho2
      rw[ho2]
      exact this)
     have HRF:Hid (∀W,Calls Tryz.prog 59 #[.agg #[Value.int .u64 BS,.int .i64 CP,.int .i64 TT,.bool c,.int .i64 SC,.slice l1 l2 l3,.slice h1 h2 h3,.slice u1 u2 u3,.slice f1 f2 f3,.slice none 0 0,.slice (some ⟨gb,go,none⟩) N gc,.slice qa qn qc,.slice (some ⟨ib,io,none⟩) N ic,.slice (some ⟨jb,jo,none⟩) N jc],.agg #[.int .i64 HP,.int .i64 H2]] W λe w'=>e=.returned (.int .u64 (hrf x c k))/\Below W.heap.size W w'):=Lib.hid λW=>by
      have h1:=U5 hk1.bin ok hkx W
      have h2:dA (OT x c k)=dA (mg x c k):=by funext v a b c d;exact aa8 _ _ _ _ _ _ _ _
      have h3:(uZ x c k).1=HP:=Le.out
      have h4:(uZ x c k).2=H2:=by unfold uZ;dsimp only;rw[if_neg (by rw[Le.out];omega)];exact(HP2.out (by rw[Le.out];exact hp0)).symm
      rw[h2,h3,h4]at h1
      unfold dA jg aS at h1
      dsimp only at h1
      rw[(zh.out k).1,(zh.out k).2.1,(zh.out k).2.2.1,(zh.out k).2.2.2.1,(zh.out k).2.2.2.2]at h1
      exact h1
     obtain⟨ra,rc,er⟩:=Ew hrow
     have Iw:Hid (∀W,Calls Tryz.prog 24 #[.agg #[Value.int .u64 BS,.int .i64 CP,.int .i64 TT,.bool c,.int .i64 SC,.slice l1 l2 l3,.slice h1 h2 h3,.slice u1 u2 u3,.slice f1 f2 f3,.slice none 0 0],.int .i64 OP] W λe w'=>e=.returned (.slice ra ((mg x c k).part OP).length rc)/\Below W.heap.size W w'):=Lib.hid λW=>by
      have h1:=qA (mg x c k) _ OP ⟨by omega,ad9⟩ W Yo
      rw[er]at h1
      unfold fD at h1
      rw[(zh.out k).1,(zh.out k).2.1,(zh.out k).2.2.1,(zh.out k).2.2.2.1,(zh.out k).2.2.2.2]at h1
      exact h1
     have QV:Hid (∀W ua un uc,Calls Tryz.prog 25 #[.agg #[Value.int .u64 BS,.int .i64 CP,.int .i64 TT,.bool c,.int .i64 SC,.slice l1 l2 l3,.slice h1 h2 h3,.slice u1 u2 u3,.slice f1 f2 f3,.slice none 0 0],.int .i64 OP,.slice ua un uc] W λe w'=>(∃l h o f:Sl,e=.returned (.agg #[.int .u64 BS,.int .i64 CP,.int .i64 TT,.bool c,.int .i64 SC,.slice l.1 l.2.1 l.2.2,.slice h.1 h.2.1 h.2.2,.slice o.1 o.2.1 o.2.2,.slice f.1 f.2.1 f.2.2,.slice none 0 0])/\vg ⟨.slice l1 l2 l3,.slice h1 h2 h3,.slice u1 u2 u3,.slice f1 f2 f3,.slice none 0 0⟩ OP (.slice ua un uc)=⟨.slice l.1 l.2.1 l.2.2,.slice h.1 h.2.1 h.2.2,.slice o.1 o.2.1 o.2.2,.slice f.1 f.2.1 f.2.2,.slice none 0 0⟩)/\Below W.heap.size W w'):=Lib.hid λW ua un uc=>by
      have h1:=yQ (mg x c k) _ OP ⟨by omega,ad9⟩ ua un uc W Yo
      unfold fD at h1
      rw[(zh.out k).1,(zh.out k).2.1,(zh.out k).2.2.1,(zh.out k).2.2.2.1,(zh.out k).2.2.2.2]at h1
      refine h1.mono ?_
      rintro e w' ⟨rfl,hb⟩
      obtain⟨l,h',o,f,e⟩:=GH Yo rfl OP ua un uc
      refine⟨⟨l,h',o,f,?_,e⟩,hb⟩
      rw[e]
      rfl
     rw[er]at hrow
     have HPM:Hid ((OT x c k).part OP=(mg x c k).part OP):=Lib.hid (JV (by rw[Le.out];exact hp0) abj)
     generalize(mg x c k).part OP=P at*
     obtain⟨n,hn⟩:∃n,P.length=n:=⟨_,rfl⟩
     rw[hn]at hfit ahI hrow Iw
     have HN:=Lib.hid hn
     generalize hrf x c k=RV at*
     have hOn:O2<n:=by omega
     clear hk1 Yo er hn ho2 hfit
     go_upto_region 10 with(fail)
     refine wp_region_held_drew (S:=(λw'=>(∀i,w'.cell? ⟨w.heap.size,i,none⟩= #[Value.int .u64 BS,.int .i64 CP,.int .i64 TT,.bool c,.int .i64 SC,.slice l1 l2 l3,.slice h1 h2 h3,.slice u1 u2 u3,.slice f1 f2 f3,.slice none 0 0,.slice (some ⟨gb,go,none⟩) N gc,.slice qa qn qc,.slice (some ⟨ib,io,none⟩) N ic,.slice (some ⟨jb,jo,none⟩) N jc][i]?)/\w'.cell? ⟨jb,jo+k*2,none⟩=some (.int .i64 OP))) (by kernel_rfl) ?_ (λhHeld=> ?_)
     ·(try dsimp only);refine NG (W:=W1) ?_ lb cb Ir;exact bm
     refine tk 0 ?_
     refine tk 1 ?_
     refine tk 2 ?_
     refine tk 3 ?_
     refine tk 4 ?_
     refine tk 5 ?_
     refine tk 6 ?_
     refine tk 7 ?_
     refine co 8 λK hK=> ?_
     go_simp
     go_at_call 24;refine(Iw.out _).mono ?_;rintro e w2 ⟨rfl,k2⟩;go_wp2_with fail
     refine hK.out _ _ ?_ (λhHeld=> ?_)
     ·(try dsimp only);refine NG (W:=W1) ?_ lb cb Ir;exact bm
     clear hK K
     refine nx ?_
     refine wpAnyH_ready (rs:=[9]) (by kernel_rfl) (by simp) ?_
     refine AllReadyH.cons rfl (λK hK=> ?_) AllReadyH.nil
     refine D8 rfl (.const (.slice none 0 0)) (.tmp 92) rfl W1.heap.size (.slice none 0 0) (.slice ra n rc) [] P rfl rfl (ak.nil _ _) (hrow.tr (by exact bm)) ?_ ?_ ?_
     ·have:=HN.out;simp;omega
     ·have:=k2.size;simpa using this
     intro v3 w3 o3 hg3 UK
     have b3:Below W1.heap.size W1 w3:=dF hg3 (by exact bm) (Nat.le_refl _) (λk hk=>by cases hk)
     refine hK.out _ _ ?_ (λhHeld=> ?_)
     ·(try dsimp only);refine NG (W:=W1) b3 lb cb Ir
     clear hK K
     try simp only[List.getElem_toArray,List.getElem_cons_succ,List.getElem_cons_zero,Act.put,List.setIfInBounds_toArray,List.set_cons_zero,List.set_cons_succ]
     refine tk 10 ?_
     refine wpAnyH_done (by kernel_rfl) ?_ _
     have o3':ak 24 1 oG w3 W1.heap.size v3 P:=o3
     clear o3
     obtain⟨g,cap,rfl,hgB,hgl,hgc,hgf⟩:=OQ o3' (by rw[HN.out];omega)
     rw[HN.out]at o3' hgc⊢
     obtain⟨y3,hy3⟩:=sS o3' (k:=O2) (by rw[HN.out];exact hOn)
     have aea:=(Yl.out).tr b3
     obtain⟨lb3,cb3,fb3⟩:=aea.get
     have ahJ:=ah b3 V8
     have ahK:=ah b3 hc16
     have ahL:=ah b3 Ir
     have ahM:=ah b3 V9
     clear hg3 UK k2 hHeld Iw hrow
     go_upto_region 11 with(fail)
     go_region_held3 (λw'=>(∀i,w'.cell? ⟨w.heap.size,i,none⟩= #[Value.int .u64 BS,.int .i64 CP,.int .i64 TT,.bool c,.int .i64 SC,.slice l1 l2 l3,.slice h1 h2 h3,.slice u1 u2 u3,.slice f1 f2 f3,.slice none 0 0,.slice (some ⟨gb,go,none⟩) N gc,.slice qa qn qc,.slice (some ⟨ib,io,none⟩) N ic,.slice (some ⟨jb,jo,none⟩) N jc][i]?)/\w'.cell? ⟨ib,io+k*2,none⟩=some (.int .i64 HP)/\w'.cell? ⟨ib,io+k*2+1,none⟩=some (.int .i64 H2)/\w'.cell? ⟨jb,jo+k*2,none⟩=some (.int .i64 OP)/\w'.cell? ⟨jb,jo+k*2+1,none⟩=some (.int .i64 O2))
      (first|(refine V5 (W:=W1) ?_ lb cb V8 hc16 Ir V9;exact bm))
      (first|(go_at_call 59;refine(HRF.out _).mono ?_;rintro e w5 ⟨rfl,k5⟩;have kk:Below w3.heap.size w3 w5:=(by exact bm);have XU:=o3'.tr kk;have adh:=kX XU;have adi:=ah kk hy3;have hg5:=Nat.lt_of_lt_of_le hgl kk.size))
     have Va:=xP (k:=O2) XU RV
     have b6:Below W1.heap.size W1 (w5.setCell ⟨g,O2,none⟩ (.int .u64 RV)):=by exact bm
     have abk:=Yl.out.tr b6
     have aeb:=ah b6 Ir
     have aec:(w5.setCell ⟨g,O2,none⟩ (.int .u64 RV)).cell? ⟨w.heap.size,13,none⟩=some (.slice (some ⟨jb,jo,none⟩) N jc):=abk.get.2.1 13
     have ahN:W1.heap.size<=(w5.setCell ⟨g,O2,none⟩ (.int .u64 RV)).heap.size:=b6.size
     clear XU adh adi hg5 kk k5 lb3 cb3 fb3 ahJ ahK ahL ahM aea o3' hgl hgf hy3 b3 HRF
     generalize w5.setCell ⟨g,O2,none⟩ (.int .u64 RV)=W6 at*
     have ahO:w.heap.size<W6.heap.size:=by omega
     obtain⟨lb6,cb6,fb6⟩:=abk.get
     have mZ:Hid (∀W':World,Below W6.heap.size W6 W'->W'.cell? ⟨w.heap.size,13,none⟩=some (.slice (some ⟨jb,jo,none⟩) N jc)/\W'.cell? ⟨jb,jo+k*2,none⟩=some (.int .i64 OP)):=Lib.hid λW' h=>⟨ah h aec,ah h aeb⟩
     clear lb cb fb y9
     go_upto_region 12 with(fail)
     refine wp_region_held_drew (S:=(λw'=>w'.cell? ⟨w.heap.size,13,none⟩=some (.slice (some ⟨jb,jo,none⟩) N jc)/\w'.cell? ⟨jb,jo+k*2,none⟩=some (.int .i64 OP))) (by kernel_rfl) ?_ (λhHeld=> ?_)
     ·(try dsimp only);refine mZ.out _ ?_;exact bm
     refine tk 0 ?_
     refine tk 2 ?_
     refine tk 3 ?_
     refine tk 4 ?_
     refine tk 5 ?_
     refine tk 6 ?_
     refine tk 7 ?_
     refine tk 8 ?_
     refine co 1 λK hK=> ?_
     go_simp
     skip
     refine hK.out _ _ ?_ (λhHeld=> ?_)
     ·(try dsimp only);refine mZ.out _ ?_;exact bm
     clear hK K
     refine nx ?_
     refine co 9 λK hK=> ?_
     go_simp
     go_at_call 25;refine(QV.out _ _ _ _).mono ?_;rintro e w7 ⟨⟨⟨l4,l5,l6⟩,⟨h4,h5,h6⟩,⟨u4,u5,u6⟩,⟨f4,f5,f6⟩,rfl,hsv⟩,k7⟩;have MW:=Lib.hid hsv;clear hsv;go_wp2_with fail
     refine hK.out _ _ ?_ (λhHeld=> ?_)
     ·(try dsimp only);refine mZ.out _ ?_;exact bm
     clear hK K
     refine nx ?_
     refine tk 10 ?_
     have b7:Below W6.heap.size W6 w7:=by exact bm
     have b17:=au b6 b7
     have abo:=Yl.out.tr b17
     obtain⟨lb7,cb7,fb7⟩:=abo.get
     obtain⟨Zl,lH⟩:∃L:List (Nat×Value),L=[(0,Value.int .u64 BS),(1,.int .i64 CP),(2,.int .i64 TT),(3,.bool c),(4,.int .i64 SC),(5,.slice l4 l5 l6),(6,.slice h4 h5 h6),(7,.slice u4 u5 u6),(8,.slice f4 f5 f6),(9,.slice none 0 0)]:=⟨_,rfl⟩
     have hW:((((((((((w7.setCell ⟨w.heap.size,0,none⟩ (.int .u64 BS)).setCell ⟨w.heap.size,1,none⟩ (.int .i64 CP)).setCell ⟨w.heap.size,2,none⟩ (.int .i64 TT)).setCell ⟨w.heap.size,3,none⟩ (.bool c)).setCell ⟨w.heap.size,4,none⟩ (.int .i64 SC)).setCell ⟨w.heap.size,5,none⟩ (.slice l4 l5 l6)).setCell ⟨w.heap.size,6,none⟩ (.slice h4 h5 h6)).setCell ⟨w.heap.size,7,none⟩ (.slice u4 u5 u6)).setCell ⟨w.heap.size,8,none⟩ (.slice f4 f5 f6)).setCell ⟨w.heap.size,9,none⟩ (.slice none 0 0))=bU w7 w.heap.size Zl:=by rw[lH];simp only[bU]
     have NH:=Lib.hid hW
     have V7:=Lib.hid lH
     clear hW
     have hb8:=aj.bU (L:=Zl) abo
     have h13:(bU w7 w.heap.size Zl).cell? ⟨w.heap.size,13,none⟩=some (.slice (some ⟨jb,jo,none⟩) N jc):=by
      rw[hb8.get.2.1 13,lH]
      simp only[rJ,List.setIfInBounds_toArray,List.set_cons_zero,List.set_cons_succ]
      rfl
     clear lH
     have H13:=Lib.hid h13
     have WO:=Lib.hid hb8
     have B17:=Lib.hid b17
     have B7:=Lib.hid b7
     clear h13 hb8 b17 b7 abk lb6 cb6 fb6 aec aeb abo
     refine co 11 λK hK=> ?_
     go_simp
     skip
     refine hK.out _ _ ?_ (λhHeld=> ?_)
     ·(try dsimp only);rw[NH.out];exact⟨H13.out,dK hHeld.2 (Nat.ne_of_lt hjb)⟩
     clear hK K
     refine nx ?_
     refine wpAnyH_done (by kernel_rfl) ?_ _
     have b17:=B17.out
     have HX8:=aj.dQ (L:=Zl) (b:=w.heap.size) (HXN.out.tr b17) hnx
     have HR8:=aj.dQ (L:=Zl) (b:=w.heap.size) (Ym.out.tr b17) hnr
     have HF8:Off w7 w.heap.size (w.heap.size+3) λW=>Off W 0 n0 λW=>y8 W x c (setH (OT x c k) OP (P.set O2 RV)) (vg ⟨.slice l1 l2 l3,.slice h1 h2 h3,.slice u1 u2 u3,.slice f1 f2 f3,.slice none 0 0⟩ OP (.slice (some ⟨g,0,none⟩) n cap)) (some ⟨gb,go,none⟩,N,gc) (qa,qn,qc) (some ⟨ib,io,none⟩,N,ic) (some ⟨jb,jo,none⟩,N,jc):=
      ((Yn.out.tr b17).and (JU fJ (Va.tr B7.out) hs6 (by omega))).imp λW hW=>(hW.1.and hW.2).imp λW hW=>y8.put hW.1 hW.2 (by rw[HPM.out,List.length_set])
     rw[Qu.out,MW.out]at HF8
     replace HF8:=Off.bU (L:=Zl) HF8 (Nat.le_refl _) (show w.heap.size<w.heap.size+3 by omega)
     have HW8:=fQ (L:=Zl) (au HWN.out b17) (Nat.le_refl _)
     have hs8:w.heap.size+3<=(bU w7 w.heap.size Zl).heap.size:=by rw[xW];exact Nat.le_trans hs6 b17.size
     have WO:=WO.out
     rw[<-NH.out]at WO HX8 HR8 HF8 HW8 hs8
     clear NH H13 B17 B7 b17 lb7 cb7 fb7 mZ hHeld Yl HXN Ym Yn HWN hs6 ahN ahO b6 Va k7
     generalize((((((((((w7.setCell ⟨w.heap.size,0,none⟩ (.int .u64 BS)).setCell ⟨w.heap.size,1,none⟩ (.int .i64 CP)).setCell ⟨w.heap.size,2,none⟩ (.int .i64 TT)).setCell ⟨w.heap.size,3,none⟩ (.bool c)).setCell ⟨w.heap.size,4,none⟩ (.int .i64 SC)).setCell ⟨w.heap.size,5,none⟩ (.slice l4 l5 l6)).setCell ⟨w.heap.size,6,none⟩ (.slice h4 h5 h6)).setCell ⟨w.heap.size,7,none⟩ (.slice u4 u5 u6)).setCell ⟨w.heap.size,8,none⟩ (.slice f4 f5 f6)).setCell ⟨w.heap.size,9,none⟩ (.slice none 0 0))=W8 at*
     rw[V7.out]at WO
     simp only[rJ,List.setIfInBounds_toArray,List.set_cons_zero,List.set_cons_succ]at WO
     clear V7
     have Yl:=Lib.hid WO
     have HXN:=Lib.hid HX8
     have Ym:=Lib.hid HR8
     have Yn:=Lib.hid HF8
     have HWN:=Lib.hid HW8
     clear WO HX8 HR8 HF8 HW8
     go_wp2_with fail
     exact⟨⟨k+1,(l4,l5,l6),(h4,h5,h6),(u4,u5,u6),(f4,f5,f6),by omega,by go_num,Yl,Yn,HXN,Ym,HWN,hs8⟩,by simp[intOf];omega⟩
   ·have hgo:(OP:Int)>0:=by omega
    have hh2:O2=aY x c (opt x c k) k:=OP2.out (by rw[Nh.out];exact op0)
    have XH:Hid (∀W,Below W0.heap.size W0 W->Calls Tryz.prog 58 #[.agg #[Value.int .u64 BS,.int .i64 CP,.int .i64 TT,.bool c,.int .i64 SC,.slice la ln lc,.slice ha hn hc,.slice ua un uc,.slice fa fn fc,.slice none 0 0,.slice (some ⟨gb,go,none⟩) N gc,.slice qa qn qc,.slice (some ⟨ib,io,none⟩) N ic,.slice (some ⟨jb,jo,none⟩) N jc],.agg #[.int .i64 OP,.int .i64 O2],.agg #[.slice pa pn pc,.slice da dn dc],.int .i64 0] W λe w'=>(∃l h o f:Sl,e=.returned (.agg #[.int .u64 BS,.int .i64 CP,.int .i64 TT,.bool c,.int .i64 SC,.slice l.1 l.2.1 l.2.2,.slice h.1 h.2.1 h.2.2,.slice o.1 o.2.1 o.2.2,.slice f.1 f.2.1 f.2.2,.slice none 0 0,.slice (some ⟨gb,go,none⟩) N gc,.slice qa qn qc,.slice (some ⟨ib,io,none⟩) N ic,.slice (some ⟨jb,jo,none⟩) N jc])/\Off w' w.heap.size (w.heap.size+3) λW=>Off W 0 n0 λW=>y8 W x c (mg x c (k+1)) ⟨.slice l.1 l.2.1 l.2.2,.slice h.1 h.2.1 h.2.2,.slice o.1 o.2.1 o.2.2,.slice f.1 f.2.1 f.2.2,.slice none 0 0⟩ (some ⟨gb,go,none⟩,N,gc) (qa,qn,qc) (some ⟨ib,io,none⟩,N,ic) (some ⟨jb,jo,none⟩,N,jc))/\Below W.heap.size W w'):=Lib.hid λW hW=>by
     have hsw:=hW.size
     have h1:=abd (nd:=((pa,pn,pc),(da,dn,dc))) ok (by omega) hkx (by rw[Nh.out];exact op0) Le.out (HF.out.tr hW) (XT.out.tr hW) (Nat.le_trans hs0 hsw)
     rw[<-hh2,Nh.out]at h1
     unfold dA jg aS at h1
     dsimp only at h1
     rw[(zh.out k).1,(zh.out k).2.1,(zh.out k).2.2.1,(zh.out k).2.2.2.1,(zh.out k).2.2.2.2]at h1
     exact h1
    clear hh2
    go_upto_region 8 with(fail)
    refine wp_region_held_drew (S:=(λw'=>w'.cell? ⟨w.heap.size,13,none⟩=some (.slice (some ⟨jb,jo,none⟩) N jc)/\w'.cell? ⟨jb,jo+k*2,none⟩=some (.int .i64 OP)/\w'.cell? ⟨jb,jo+k*2+1,none⟩=some (.int .i64 O2)/\w'.cell? ⟨NB,0,none⟩=some (.slice pa pn pc)/\w'.cell? ⟨NB,1,none⟩=some (.slice da dn dc)/\w'.cell? ⟨w.heap.size+1,4,none⟩=some (.int .i64 x.dR))) (by kernel_rfl) ?_ (λhHeld=> ?_)
    ·(try dsimp only);refine Pg (W:=W0) ?_ (cb 13) BZ EZ (cn 0) (cn 1) (cx 4);exact bm
    refine tk 1 ?_
    refine tk 2 ?_
    refine tk 3 ?_
    refine tk 4 ?_
    refine tk 5 ?_
    refine tk 6 ?_
    have hkeep:Hid (∀W1:World,Below W0.heap.size W0 W1->W1.cell? ⟨w.heap.size,13,none⟩=some (.slice (some ⟨jb,jo,none⟩) N jc)/\W1.cell? ⟨jb,jo+k*2,none⟩=some (.int .i64 OP)/\W1.cell? ⟨jb,jo+k*2+1,none⟩=some (.int .i64 O2)/\W1.cell? ⟨NB,0,none⟩=some (.slice pa pn pc)/\W1.cell? ⟨NB,1,none⟩=some (.slice da dn dc)/\W1.cell? ⟨w.heap.size+1,4,none⟩=some (.int .i64 x.dR)):=Lib.hid λW1 h=>Pg (W:=W0) h (cb 13) BZ EZ (cn 0) (cn 1) (cx 4)
    refine co 0 λK hK=> ?_
    go_simp
    skip
    refine hK.out _ _ ?_ (λhHeld=> ?_)
    ·(try dsimp only);refine hkeep.out _ ?_;exact bm
    clear hK K
    refine nx ?_
    refine co 7 λK hK=> ?_
    go_simp
    go_at_call 58;refine(XH.out _ (by exact bm)).mono ?_;rintro e w5 ⟨⟨⟨l1,l2,l3⟩,⟨h1,h2,h3⟩,⟨u1,u2,u3⟩,⟨f1,f2,f3⟩,rfl,hf5⟩,k5⟩;go_wp2_with fail
    refine hK.out _ _ ?_ (λhHeld=> ?_)
    ·(try dsimp only);refine hkeep.out _ ?_;exact bm
    clear hK K
    refine nx ?_
    have b5:Below W0.heap.size W0 w5:=by exact bm
    have SE:=HB.out.tr b5
    obtain⟨lb5,cb5,fb5⟩:=SE.get
    have hnx:w.heap.size+1≠w.heap.size:=by omega
    have hnr:w.heap.size+2≠w.heap.size:=by omega
    obtain⟨LV,lH⟩:∃L:List (Nat×Value),L=[(0,Value.int .u64 BS),(1,.int .i64 CP),(2,.int .i64 TT),(3,.bool c),(4,.int .i64 SC),(5,.slice l1 l2 l3),(6,.slice h1 h2 h3),(7,.slice u1 u2 u3),(8,.slice f1 f2 f3),(9,.slice none 0 0),(10,.slice (some ⟨gb,go,none⟩) N gc),(11,.slice qa qn qc),(12,.slice (some ⟨ib,io,none⟩) N ic),(13,.slice (some ⟨jb,jo,none⟩) N jc)]:=⟨_,rfl⟩
    have hW:((((((((((((((w5.setCell ⟨w.heap.size,0,none⟩ (.int .u64 BS)).setCell ⟨w.heap.size,1,none⟩ (.int .i64 CP)).setCell ⟨w.heap.size,2,none⟩ (.int .i64 TT)).setCell ⟨w.heap.size,3,none⟩ (.bool c)).setCell ⟨w.heap.size,4,none⟩ (.int .i64 SC)).setCell ⟨w.heap.size,5,none⟩ (.slice l1 l2 l3)).setCell ⟨w.heap.size,6,none⟩ (.slice h1 h2 h3)).setCell ⟨w.heap.size,7,none⟩ (.slice u1 u2 u3)).setCell ⟨w.heap.size,8,none⟩ (.slice f1 f2 f3)).setCell ⟨w.heap.size,9,none⟩ (.slice none 0 0)).setCell ⟨w.heap.size,10,none⟩ (.slice (some ⟨gb,go,none⟩) N gc)).setCell ⟨w.heap.size,11,none⟩ (.slice qa qn qc)).setCell ⟨w.heap.size,12,none⟩ (.slice (some ⟨ib,io,none⟩) N ic)).setCell ⟨w.heap.size,13,none⟩ (.slice (some ⟨jb,jo,none⟩) N jc))=bU w5 w.heap.size LV:=by rw[lH];simp only[bU]
    have NH:=Lib.hid hW
    have V7:=Lib.hid lH
    clear hW
    have y9:=aj.bU (L:=LV) SE
    have h12:(bU w5 w.heap.size LV).cell? ⟨w.heap.size,13,none⟩=some (.slice (some ⟨jb,jo,none⟩) N jc):=by
     rw[y9.get.2.1 13,lH]
     simp only[rJ,List.setIfInBounds_toArray,List.set_cons_zero,List.set_cons_succ]
     rfl
    clear lH
    have H12:=Lib.hid h12
    have y9:=Lib.hid y9
    clear h12
    have HC0:=Lib.hid hc0
    have EL:=Lib.hid hc1
    have HD0:=Lib.hid BZ
    have HD1:=Lib.hid EZ
    have B5:=Lib.hid b5
    clear hc0 hc1 BZ EZ hxx lx cx fx ln_ cn fn_ hkeep lb cb fb hbb b5
    refine co 8 λK hK=> ?_
    go_simp
    skip
    refine hK.out _ _ ?_ (λhHeld=> ?_)
    ·(try dsimp only);rw[NH.out];exact⟨H12.out,dK hHeld.2.1 (Nat.ne_of_lt hjb),dK hHeld.2.2.1 (Nat.ne_of_lt hjb),dK hHeld.2.2.2.1 hNB,dK hHeld.2.2.2.2.1 hNB,dK hHeld.2.2.2.2.2 hnx⟩
    clear hK K
    refine nx ?_
    refine wpAnyH_done (by kernel_rfl) ?_ _
    have b5:=B5.out
    have hc0:=HC0.out
    have hc1:=EL.out
    have BZ:=HD0.out
    have EZ:=HD1.out
    have HX6:=aj.dQ (L:=LV) (b:=w.heap.size) (HX.out.tr b5) hnx
    have y7:=aj.dQ (L:=LV) (b:=w.heap.size) (HR.out.tr b5) hnr
    have HF6:=Off.bU (L:=LV) hf5 (Nat.le_refl _) (show w.heap.size<w.heap.size+3 by omega)
    have HW6:=fQ (L:=LV) (au HW0.out b5) (Nat.le_refl _)
    have hs6:w.heap.size+3<=(bU w5 w.heap.size LV).heap.size:=by rw[xW];exact Nat.le_trans hs0 b5.size
    have V8:=dK (L:=LV) (ah b5 hc0) (Nat.ne_of_lt hib)
    have hc16:=dK (L:=LV) (ah b5 hc1) (Nat.ne_of_lt hib)
    have Ir:=dK (L:=LV) (ah b5 BZ) (Nat.ne_of_lt hjb)
    have V9:=dK (L:=LV) (ah b5 EZ) (Nat.ne_of_lt hjb)
    replace y9:=y9.out
    rw[<-NH.out]at y9 HX6 y7 HF6 HW6 hs6 V8 hc16 Ir V9
    clear NH H12 SE lb5 cb5 fb5 b5 hf5 k5 hHeld KN HB HX HR HF XT HW0 hc0 hc1 BZ EZ hs0 hsz XH HC0 EL HD0 HD1 B5
    generalize((((((((((((((w5.setCell ⟨w.heap.size,0,none⟩ (.int .u64 BS)).setCell ⟨w.heap.size,1,none⟩ (.int .i64 CP)).setCell ⟨w.heap.size,2,none⟩ (.int .i64 TT)).setCell ⟨w.heap.size,3,none⟩ (.bool c)).setCell ⟨w.heap.size,4,none⟩ (.int .i64 SC)).setCell ⟨w.heap.size,5,none⟩ (.slice l1 l2 l3)).setCell ⟨w.heap.size,6,none⟩ (.slice h1 h2 h3)).setCell ⟨w.heap.size,7,none⟩ (.slice u1 u2 u3)).setCell ⟨w.heap.size,8,none⟩ (.slice f1 f2 f3)).setCell ⟨w.heap.size,9,none⟩ (.slice none 0 0)).setCell ⟨w.heap.size,10,none⟩ (.slice (some ⟨gb,go,none⟩) N gc)).setCell ⟨w.heap.size,11,none⟩ (.slice qa qn qc)).setCell ⟨w.heap.size,12,none⟩ (.slice (some ⟨ib,io,none⟩) N ic)).setCell ⟨w.heap.size,13,none⟩ (.slice (some ⟨jb,jo,none⟩) N jc))=W1 at*
    rw[V7.out]at y9
    simp only[rJ,List.setIfInBounds_toArray,List.set_cons_zero,List.set_cons_succ]at y9
    clear V7
    have Yl:=Lib.hid y9
    have HXN:=Lib.hid HX6
    have Ym:=Lib.hid y7
    have Yn:=Lib.hid HF6
    have HWN:=Lib.hid HW6
    obtain⟨lb,cb,fb⟩:=y9.get
    clear HX6 y7 HF6 HW6
    clear y9
    go_wp2_with fail
    exact⟨⟨k+1,(l1,l2,l3),(h1,h2,h3),(u1,u2,u3),(f1,f2,f3),by omega,by go_num,Yl,Yn,HXN,Ym,HWN,hs6⟩,by simp[intOf];omega⟩
  ·obtain rfl:k=N:=by omega
   have hbb:=HB.out
   obtain⟨lb,cb,fb⟩:=hbb.get
   have HRR:Hid (∀j(h:j<(bI x).length),(bI x)[j]<(k:Int)/\ -1<=(bI x)[j]):=Lib.hid λj h=>by
    have:=AO x _ (List.getElem_mem h)
    rw[Zk.out]at this
    exact⟨this.2,this.1⟩
   obtain⟨RL,hRL⟩:∃l,l=(bI x).map (uQ x c):=⟨_,rfl⟩
   have HRL:=Lib.hid hRL
   have HRQ:Hid (∀j(h:j<(bI x).length),RL.take (j+1)=RL.take j++[uQ x c (bI x)[j]]):=Lib.hid λj h=>by
    rw[hRL,List.take_succ_eq_append_getElem (by simpa using h)]
    simp
   have Ym:Hid (RL.length=qn):=Lib.hid (by rw[hRL,List.length_map,HQN.out])
   clear hRL
   have hq5:qn<=5:=by rw[HQN.out];exact AU (x:=x)
   go_wp2_with fail
   go_loopw [8,9] (λrv i ws=>∃j:Nat,j<=qn/\i=.int .i64 j/\Hid (ak 24 1 oG ws wr.heap.size rv (RL.take j))/\Below wr.heap.size wr ws) (λ_ i _=>qn-(intOf i).toNat)
   case atStart=>exact⟨0,Nat.zero_le _,rfl,Lib.hid (ak.nil _ _),Below.refl _ _⟩
   case round=>
    obtain⟨j,hj,rfl,ho,bel⟩:=hrel
    rename World=>w0'
    have hbv:=hbb.tr bel
    obtain⟨lb',cb',fb'⟩:=hbv.get
    have hsv:=bel.size
    by_cases hj2:j<qn
    ·have hjr:j<(bI x).length:=by rw[<-HQN.out];exact hj2
     obtain rfl:=q1 (by omega)
     have F:=HF.out.now.now
     have aed:=F.roots.at (i:=j) (List.getElem?_eq_getElem hjr) 0 _ rfl
     rw[Nat.mul_one,Nat.add_zero]at aed
     have hqb:=q5 (by omega)
     have hqw:=HW.out.size
     have hrt:=ah bel aed
     obtain⟨hr1,hr2⟩:=HRR.out j hjr
     have Q8:=Lib.hid (HRQ.out j hjr)
     have OE:Hid ((RL.take j).length+1<100000000000):=Lib.hid (by rw[List.length_take];omega)
     generalize(bI x)[j]=R at*
     clear hjr
     generalize hdn:RL.take j=done at*
     clear hdn
     by_cases hR:R<0
     ·have hv0:uQ x c R=0:=by unfold uQ;rw[if_neg (by omega)]
      rw[hv0]at Q8
      clear hv0
      go_wp2_with (at_builtin;refine D7 _ rfl _ _ rfl wr.heap.size _ _ _ [0] rfl rfl (ho.out.tr ?e0) (FT _ _ rfl) ?e1 ?e2 ?e3)
      case e0=>exact bm
      case e1=>exact OE.out
      case e2=>have:=bel.size;simp;omega
      case e3=>
      intro v4 w4 o4 hg4 iG
      have b4:Below wr.heap.size wr w4:=iM hg4 (by(repeat(first|with_reducible exact Below.refl _ _|with_reducible assumption|with_reducible refine low_alloc ?_ (by omega) _|with_reducible refine aI ?_|with_reducible refine low_set ?_ (by first|omega|(simp;done)|(simp;omega)) _))) ho.out.block (Nat.le_refl _) (Nat.le_refl _)
      have O4:Hid (ak 24 1 oG w4 wr.heap.size v4 (RL.take (j+1))):=Lib.hid (by rw[Q8.out];exact o4)
      go_wp2_with fail
      exact⟨⟨j+1,by omega,by go_num,O4,b4⟩,by simp[intOf];omega⟩
     ·obtain⟨r,rfl⟩:=Int.eq_ofNat_of_zero_le (show 0<=R by omega)
      have hrk:r<k:=by omega
      have hrx:r<nN x:=by rw[Zk.out];exact hrk
      obtain rfl:=i1 (by omega)
      have hib:=i5 (by omega)
      have hv0:uQ x c (r:Int)=hrf x c r:=by unfold uQ;rw[if_pos (by omega)];simp
      rw[hv0]at Q8
      have hc0:=ah bel (F.bin.hl.at (i:=r) (rQ hrx) 0 (.int .i64 (uZ x c r).1) rfl)
      have hc1:=ah bel (F.bin.hl.at (i:=r) (rQ hrx) 1 (.int .i64 (uZ x c r).2) rfl)
      rw[Nat.add_zero]at hc0
      have HRF:Hid (∀W,Calls Tryz.prog 59 #[.agg #[Value.int .u64 BS,.int .i64 CP,.int .i64 TT,.bool c,.int .i64 SC,.slice la ln lc,.slice ha hn hc,.slice ua un uc,.slice fa fn fc,.slice none 0 0,.slice ga k gc,.slice (some ⟨qb,qo,none⟩) qn qc,.slice (some ⟨ib,io,none⟩) k ic,.slice ja k jc],.agg #[.int .i64 (uZ x c r).1,.int .i64 (uZ x c r).2]] W λe w'=>e=.returned (.int .u64 (hrf x c r))/\Below W.heap.size W w'):=Lib.hid λW=>by
       have h1:=U5 F.bin ok hrx W
       unfold dA jg aS at h1
       dsimp only at h1
       rw[(zh.out k).1,(zh.out k).2.1,(zh.out k).2.2.1,(zh.out k).2.2.2.1,(zh.out k).2.2.2.2]at h1
       exact h1
      generalize(uZ x c r).1=HP at*
      generalize(uZ x c r).2=H2 at*
      generalize hrf x c r=RV at*
      clear hv0 F hrx
      have hri:(r:Int)>=0:=by omega
      have an5:(r:Int)<(k:Int):=by omega
      go_upto_region 19 with(fail)
      go_region_held3 (λw'=>(∀i,w'.cell? ⟨w.heap.size,i,none⟩= #[Value.int .u64 BS,.int .i64 CP,.int .i64 TT,.bool c,.int .i64 SC,.slice la ln lc,.slice ha hn hc,.slice ua un uc,.slice fa fn fc,.slice none 0 0,.slice ga k gc,.slice (some ⟨qb,qo,none⟩) qn qc,.slice (some ⟨ib,io,none⟩) k ic,.slice ja k jc][i]?)/\w'.cell? ⟨qb,qo+j,none⟩=some (.int .i64 (r:Int))/\w'.cell? ⟨ib,io+r*2,none⟩=some (.int .i64 HP)/\w'.cell? ⟨ib,io+r*2+1,none⟩=some (.int .i64 H2)/\w'.cell? ⟨qb,qo+j,none⟩=some (.int .i64 (r:Int)))
       (first|(refine V5 (W:=w0') ?_ lb' cb' hrt hc0 hc1 hrt;exact bm))
       (first|(go_at_call 59;refine(HRF.out _).mono ?_;rintro e w5 ⟨rfl,k5⟩))
      have b5:Below w0'.heap.size w0' w5:=by exact bm
      have XU:=ho.out.tr b5
      have ahR:=au bel b5
      go_wp2_with (at_builtin;refine D7 _ rfl _ _ rfl wr.heap.size _ _ _ [RV] rfl rfl (XU.tr ?e0) (FT _ _ rfl) ?e1 ?e2 ?e3)
      case e0=>exact bm
      case e1=>exact OE.out
      case e2=>have:=ahR.size;simp;omega
      case e3=>
      intro v4 w4 o4 hg4 iG
      have b4:Below wr.heap.size wr w4:=iM hg4 (by(repeat(first|with_reducible exact Below.refl _ _|with_reducible assumption|with_reducible refine low_alloc ?_ (by omega) _|with_reducible refine aI ?_|with_reducible refine low_set ?_ (by first|omega|(simp;done)|(simp;omega)) _))) XU.block (Nat.le_refl _) (Nat.le_refl _)
      have O4:Hid (ak 24 1 oG w4 wr.heap.size v4 (RL.take (j+1))):=Lib.hid (by rw[Q8.out];exact o4)
      go_wp2_with fail
      exact⟨⟨j+1,by omega,by go_num,O4,b4⟩,by simp[intOf];omega⟩
    ·obtain rfl:j=qn:=by omega
     have HRE:Hid (RL.take j=RL):=Lib.hid (by rw[<-Ym.out,List.take_length])
     have ho2:=ho.out
     rw[HRE.out,HRL.out]at ho2
     clear ho
     obtain⟨SI,SK,SN,rfl⟩:=aH ho2 fJ
     have hb0:w.heap.size<wr.heap.size:=by omega
     have hb2:w.heap.size+1+1<wr.heap.size:=by omega
     have hr0:w.heap.size+1+1≠w.heap.size:=by omega
     have hbw:=au HW.out bel
     have Yp:aj w0' (w.heap.size+1+1) _ 32:=HR.out.tr bel
     have hF9:=HF.out.tr bel
     go_upto_region 22 with(fail)
     replace hbv:=hbv.set 9 (.slice SI SK SN)
     replace Yp:=Yp.other (p:=⟨w.heap.size,9,none⟩) hr0 (.slice SI SK SN)
     replace hF9:=Off.set hF9 (p:=⟨w.heap.size,9,none⟩) (Nat.le_refl _) (show w.heap.size<w.heap.size+3 by omega) (.slice SI SK SN)
     replace ho2:=ak.aU ho2 (p:=⟨w.heap.size,9,none⟩) hb0 (.slice SI SK SN)
     replace hbw:=low_set hbw (p:=⟨w.heap.size,9,none⟩) (Nat.le_refl _) (.slice SI SK SN)
     clear lb' cb' fb' lb cb fb hbb bel HB HX HR HF HW hsv
     generalize w0'.setCell ⟨w.heap.size,9,none⟩ (.slice SI SK SN)=W9 at*
     simp only[List.setIfInBounds_toArray,List.set_cons_zero,List.set_cons_succ]at hbv
     obtain⟨lb,cb,fb⟩:=hbv.get
     obtain⟨lr,cr,fr⟩:=Yp.get
     go_wp2_with fail
     obtain⟨LV,lH⟩:∃L:List (Nat×Value),L=[(0,Value.int .u64 BS),(1,.int .i64 CP),(2,.int .i64 TT),(3,.bool c),(4,.int .i64 SC),(5,.slice la ln lc),(6,.slice ha hn hc),(7,.slice ua un uc),(8,.slice fa fn fc),(9,.slice SI SK SN)]:=⟨_,rfl⟩
     have hW:((((((((((W9.setCell ⟨w.heap.size+1+1,0,none⟩ (.int .u64 BS)).setCell ⟨w.heap.size+1+1,1,none⟩ (.int .i64 CP)).setCell ⟨w.heap.size+1+1,2,none⟩ (.int .i64 TT)).setCell ⟨w.heap.size+1+1,3,none⟩ (.bool c)).setCell ⟨w.heap.size+1+1,4,none⟩ (.int .i64 SC)).setCell ⟨w.heap.size+1+1,5,none⟩ (.slice la ln lc)).setCell ⟨w.heap.size+1+1,6,none⟩ (.slice ha hn hc)).setCell ⟨w.heap.size+1+1,7,none⟩ (.slice ua un uc)).setCell ⟨w.heap.size+1+1,8,none⟩ (.slice fa fn fc)).setCell ⟨w.heap.size+1+1,9,none⟩ (.slice SI SK SN))=bU W9 (w.heap.size+1+1) LV:=by rw[lH];simp only[bU]
     replace Yp:=aj.bU (L:=LV) Yp
     replace hF9:=Off.bU (L:=LV) (b:=w.heap.size+1+1) hF9 (by omega) (by omega)
     replace ho2:=ak.dQ (L:=LV) ho2 hb2
     replace hbw:=fQ (L:=LV) (b:=w.heap.size+1+1) hbw (by omega)
     rw[<-hW]at Yp hF9 ho2 hbw
     clear hW lb cb fb lr cr fr hbv
     generalize((((((((((W9.setCell ⟨w.heap.size+1+1,0,none⟩ (.int .u64 BS)).setCell ⟨w.heap.size+1+1,1,none⟩ (.int .i64 CP)).setCell ⟨w.heap.size+1+1,2,none⟩ (.int .i64 TT)).setCell ⟨w.heap.size+1+1,3,none⟩ (.bool c)).setCell ⟨w.heap.size+1+1,4,none⟩ (.int .i64 SC)).setCell ⟨w.heap.size+1+1,5,none⟩ (.slice la ln lc)).setCell ⟨w.heap.size+1+1,6,none⟩ (.slice ha hn hc)).setCell ⟨w.heap.size+1+1,7,none⟩ (.slice ua un uc)).setCell ⟨w.heap.size+1+1,8,none⟩ (.slice fa fn fc)).setCell ⟨w.heap.size+1+1,9,none⟩ (.slice SI SK SN))=W10 at*
     rw[lH]at Yp
     simp only[rJ,List.setIfInBounds_toArray,List.set_cons_zero,List.set_cons_succ]at Yp
     clear lH
     obtain⟨lr,cr,fr⟩:=Yp.get
     have hfin:Off W10 0 n0 λW=>kH W (bF x c) ⟨.slice la ln lc,.slice ha hn hc,.slice ua un uc,.slice fa fn fc,.slice SI SK SN⟩:=λW' hq1 hq2=>XV ok (by rw[Zk.out];exact hF9.now W' hq1 hq2) (nR fJ (n:=0) (m:=n0) ho2 (by omega) W' hq1 hq2) (by omega)
     refine bodyPost_ret (v:=.agg #[Value.int .u64 BS,.int .i64 CP,.int .i64 TT,.bool c,.int .i64 SC,.slice la ln lc,.slice ha hn hc,.slice ua un uc,.slice fa fn fc,.slice SI SK SN]) (by simp only[results,Tryz.results22];go_simp) rfl ⟨⟨⟨.slice la ln lc,.slice ha hn hc,.slice ua un uc,.slice fa fn fc,.slice SI SK SN⟩,?_,hfin⟩,hbw⟩
     unfold fD
     rw[HRV.out.1,HRV.out.2.1,HRV.out.2.2.1,HRV.out.2.2.2.1,HRV.out.2.2.2.2]
end Go.Proofs.YtpgjploaliefdaaGreat.rh
