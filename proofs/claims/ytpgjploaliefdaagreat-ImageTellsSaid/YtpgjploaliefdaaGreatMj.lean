/- Layer 11's raw heaps: where each node stands. No conditions. -/
import Derived.Test.YtpgjploaliefdaaGreatTk
import Derived.Test.YtpgjploaliefdaaGreatG14
namespace Go.Proofs.YtpgjploaliefdaaGreat.rh
open Go Go.RowKit hp ob hd cp ck gr lx
set_option linter.unusedVariables false
set_option linter.unusedSimpArgs false
set_option maxRecDepth 100000
set_option maxHeartbeats 4000000
def EM(x:Rh)(c:Bool)(w:World)(e:Ending)(w':World):Prop:=(∃(v:Hv)(gs qs hs os:Sl),e=.returned (dA (aO x c) v (aS gs) (aS qs) (aS hs) (aS os))/\Off w' 0 w.heap.size λW=>y8 W x c (aO x c) v gs qs hs os)/\Below w.heap.size w w'
theorem GI(X:Xv)(x:Rh)(c:Bool)(w:World)(hx:Qq w X x):
  Calls Tryz.prog 21 #[.agg (gG X x),.bool c] w λe w'=>EM x c w e w':=by
 obtain⟨⟨a1,n1,c1⟩,⟨a2,n2,c2⟩,⟨a3,n3,c3⟩⟩:=X
 have HXI:=Lib.hid hx
 have hg:Hid (∀W,Below w.heap.size w W->Calls Tryz.prog 56 #[.slice a1 n1 c1,.slice a2 n2 c2] W λe w'=>(∃gv qv,e=.returned (.agg #[gv,qv])/\Safe w' (W.heap.size+1) none (λW=>nM W gv (lX x))/\Safe w' (W.heap.size+1) none (λW=>fH 1 zK W qv (bI x)))/\Below W.heap.size W w'):=Lib.hid λW hb=>Qm _ _ x W (hx.nodes.tr hb) (hx.roots.tr hb) hx.num
 have hcl:Hid (∀W(i:Nat),i<10->Below w.heap.size w W->Calls Tryz.prog 57 #[.agg (gG ⟨(a1,n1,c1),(a2,n2,c2),(a3,n3,c3)⟩ x),.int .i64 i,.bool c] W λe w'=>e=.returned (.tuple #[.int .i64 (Jg x c i),.bool (Uj x i)])/\Below W.heap.size W w'):=Lib.hid λW i hi hb=>Qr _ x i hi c W (hx.tr hb)
 unfold gG aS at*
 dsimp only at*
 clear hx
 go_enter Tryz.func21,Tryz.ntmps21
 go_wp2_with fail
 refine(hg.out _ ?_).mono ?_
 ·exact bm
 rintro e w1 ⟨⟨gv,qv,rfl,hgs,hgr⟩,k1⟩
 have hgn:=hgs.now
 have hgq:=hgr.now
 have hww:w.heap.size+2<=w1.heap.size:=by have:=k1.size;simpa using this
 have KX:=((aj.new w #[.slice a1 n1 c1,.slice a2 n2 c2,.slice a3 n3 c3,.int .u64 x.base,.int .i64 x.dR,.int .i64 x.scan,.int .i64 x.tt] 26).alloc (.cells (Et (.slice none 0 0) (.slice none 0 0) (.slice none 0 0) (.slice none 0 0)) 64)).tr k1
 have KR:aj w1 (w.heap.size+1) (Et (.slice none 0 0) (.slice none 0 0) (.slice none 0 0) (.slice none 0 0)) 64:=(aj.mk (by simp)).tr k1
 have HGS:=Lib.hid hgs
 have ZM:=Lib.hid hgr
 obtain⟨vs,hvl,hvs,hnn⟩:=hgn
 obtain⟨ga,gb,go,gc,rfl,g1,g2,g3,g4,g5,g6⟩:=hvs.form
 obtain⟨qa,qb,qo,qc,rfl,q1,q2,q3,q4,q5,q6⟩:=hgq.form
 have hgl:(lX x).length=nN x:=by unfold lX;simp
 have ahE:=DN x
 rw[hvl,hgl]at g1 g3 g5
 rw[hvl,hgl]at HGS
 have HVS:=Lib.hid g6
 have HNN:=Lib.hid hnn
 have HHL:=Lib.hid (DR x c)
 have HOL:=Lib.hid (Hl x c)
 have IE:Hid (∀p k,k<=nN x->hof x c p k<=hof x c p (nN x)):=Lib.hid λp k h=>mX _ _ p h
 have SQ:Hid (∀p k,k<=nN x->aY x c p k<=aY x c p (nN x)):=Lib.hid λp k h=>mX _ _ p h
 have HVL:Hid (vs.length=nN x):=Lib.hid (by rw[hvl,hgl])
 have HGN:Hid (∀k,k<nN x->(lX x)[k]? =some (bf x k,dI x k)):=Lib.hid λk hk=>by unfold lX;rw[List.getElem?_map,List.getElem?_range hk];rfl
 rw[hvl,hgl]
 generalize hNe:nN x=N at*
 clear g6 hnn hvs hvl hgl g2 hgs hgr
 go_wp2_with fail
 go_loopw [7,8] (λwt i wr=>∃(k:Nat)(hv ov:Value),k<=N/\i=.int .i64 k/\wt=.int .i64 (hof x c 0 k)/\Hid (MV x c w w1 ⟨(a1,n1,c1),(a2,n2,c2),(a3,n3,c3)⟩ (.slice ga N gc) (.slice qa (bI x).length qc) k hv ov wr)) (λ_ i _=>N-(intOf i).toNat)
 case atStart=>
  refine⟨0,.slice none 0 0,.slice none 0 0,Nat.zero_le _,rfl,rfl,Lib.hid ⟨(aj.new _ _ _).alloc _,aj.mk (by simp),ak.nil _ _,ak.nil _ _,.inl rfl,?_,by simp⟩⟩
  exact bm
 case round=>
  obtain⟨k,hv,ov,hk,rfl,rfl,hI⟩:=hrel
  obtain⟨ib,inn,ih,io,IG,dB,isz⟩:=hI.out
  unfold Et at ib
  by_cases hlt:k<N
  ·have hkv:k<vs.length:=by rw[HVL.out];exact hlt
   have had:=g1 (by omega)
   subst had
   obtain⟨⟨⟨pa,pn,pc⟩,⟨da,dn,dc⟩⟩,ha⟩:∃a,vs[k]=a:=⟨_,rfl⟩
   have hc0:=ah dB (HVS.out.at (i:=k) (List.getElem?_eq_getElem hkv) 0 (.slice pa pn pc) (by rw[ha];rfl))
   have hc1:=ah dB (HVS.out.at (i:=k) (List.getElem?_eq_getElem hkv) 1 (.slice da dn dc) (by rw[ha];rfl))
   rw[Nat.add_zero]at hc0
   obtain⟨hp0,hd0⟩:=HNN.out k ((pa,pn,pc),(da,dn,dc)) (bf x k,dI x k) (by rw[List.getElem?_eq_getElem hkv,ha]) (HGN.out k hlt)
   obtain⟨_,_,_,_,e1,_⟩:=hp0.form
   obtain⟨_,_,_,_,e2,_⟩:=hd0.form
   simp only[aS,Value.slice.injEq]at e1 e2
   obtain⟨rfl,rfl,rfl⟩:=e1
   obtain⟨rfl,rfl,rfl⟩:=e2
   have hsl:=uj x k
   obtain⟨Z,hZ⟩:∃Z,Z=1+iF x k:=⟨_,rfl⟩
   have hZ2:Z=1+((bf x k).length+(dI x k).length):=hZ
   have hZ9:Z<=9:=by omega
   have HZ:=Lib.hid hZ
   generalize(bf x k).length=P at*
   generalize(dI x k).length=D at*
   obtain⟨lb,cb,fb⟩:=ib.get
   obtain⟨ln,cn,fn⟩:=inn.get
   have hw1:IntKind.i64.wrap (1+(P:Int))=1+(P:Int):=IntWalk.i64_in _ (by omega)
   have hw2:IntKind.i64.wrap (1+(P:Int)+(D:Int))=(Z:Int):=by rw[IntWalk.i64_in _ (by omega)];omega
   have hPD:1+P<=9:=by omega
   clear hp0 hd0 hkv ha hZ hZ2 hsl
   rcases jJ x c k with⟨hK,hH,hO⟩|⟨hK,rfl,hH,hO⟩|⟨hK,rfl,hH,hO⟩|⟨hK,rfl,hH,hO⟩
   ·have EL:Hid (∀W,Below w.heap.size w W->Calls Tryz.prog 57 #[.agg #[.slice a1 n1 c1,.slice a2 n2 c2,.slice a3 n3 c3,.int .u64 x.base,.int .i64 x.dR,.int .i64 x.scan,.int .i64 x.tt],.int .i64 k,.bool _] W λe w'=>e=.returned (.tuple #[.int .i64 0,.bool (Uj x k)])/\Below W.heap.size W w'):=Lib.hid λW hb=>by
     have:=hcl.out W k (by omega) hb
     rw[hK]at this
     try rw[hf]at this
     exact this
    have hbw:Below w.heap.size w wr:=by exact bm
    have kx:=KX.tr dB
    obtain⟨lx,cx,fx⟩:=kx.get
    go_wp2_with fail
    refine(EL.out _ ?_).mono ?_
    ·exact bm
    rintro e w2 ⟨rfl,k2⟩
    replace ib:=ib.tr k2
    replace inn:=inn.tr k2
    replace ih:=ih.tr k2
    replace io:=io.tr k2
    replace hc0:=ah k2 hc0
    replace hc1:=ah k2 hc1
    have hs2:=k2.size
    replace dB:=au dB k2
    obtain⟨lb,cb,fb⟩:=ib.get
    obtain⟨ln,cn,fn⟩:=inn.get
    clear EL hbw kx lx cx fx k2 hI
    go_upto_region 8 with(fail)
    go_quiet (fail)
    have kq:Below w2.heap.size w2 (w2.drewN nq):=below_drewN (Below.refl _ _) nq
    replace ib:=ib.tr kq
    replace inn:=inn.tr kq
    replace ih:=ih.tr kq
    replace io:=io.tr kq
    replace dB:=au dB kq
    have hsq:=kq.size
    clear lb cb fb ln cn fn kq
    generalize w2.drewN nq=W2 at*
    obtain⟨lb,cb,fb⟩:=ib.get
    obtain⟨ln,cn,fn⟩:=inn.get
    have hisz:w1.heap.size+2<=W2.heap.size:=by omega
    have hKr:Hid (∀j,hv.ownBlock=some j->j<W2.heap.size):=Lib.hid λj hj=>ih.lt j hj
    have EN:Hid (hof x c 0 (k+1)=hof x c 0 k+if hpt x c k=0 then 1+iF x k else 0):=rfl
    have yx:Hid (hof x c 1 (k+1)=hof x c 1 k+if hpt x c k=1 then 1+iF x k else 0):=rfl
    have Ag:Hid (hof x c 2 (k+1)=hof x c 2 k+if hpt x c k=2 then 1+iF x k else 0):=rfl
    have uY:Hid (aY x c 3 (k+1)=aY x c 3 k+if opt x c k=3 then 1+iF x k else 0):=rfl
    have vw:Hid (aY x c 4 (k+1)=aY x c 4 k+if opt x c k=4 then 1+iF x k else 0):=rfl
    have hm0:=IE.out 0 k (by omega)
    have hm1:=IE.out 1 k (by omega)
    have hm2:=IE.out 2 k (by omega)
    have JI:=SQ.out 3 k (by omega)
    have hm4:=SQ.out 4 k (by omega)
    have SX:=HHL.out
    have hol:=HOL.out
    have EO:Hid (uZ x c k=(hpt x c k,if hpt x c k=0 then 0 else hof x c (hpt x c k) k)):=rfl
    have EP:Hid (Aj x c k=(opt x c k,if opt x c k=0 then 0 else aY x c (opt x c k) k)):=rfl
    have KE:=Lib.hid (ny x c k)
    have KF:=Lib.hid (pU x c k)
    have Wh:Hid ((iP x c k).length=k):=Lib.hid (by unfold iP;simp)
    have Wi:Hid ((ku x c k).length=k):=Lib.hid (by unfold ku;simp)
    rw[hH]at EN yx Ag EO
    rw[hO]at uY vw EP
    rw[<-HZ.out]at EN yx Ag uY vw
    have hb0:hof x c 0 k<=90:=by omega
    have hb1:hof x c 1 k<=90:=by omega
    have hb2:hof x c 2 k<=90:=by omega
    have hb3:aY x c 3 k<=90:=by omega
    have hb4:aY x c 4 k<=90:=by omega
    clear hm0 hm1 hm2 JI hm4 SX hol
    generalize hof x c 0 k=A0 at*
    generalize hof x c 1 k=A1 at*
    generalize hof x c 2 k=A2 at*
    generalize aY x c 3 k=A3 at*
    generalize aY x c 4 k=A4 at*
    have hz0:IntKind.i64.wrap ((A0:Int)+(Z:Int))=(A0:Int)+(Z:Int):=IntWalk.i64_in _ (by omega)
    have hz1:IntKind.i64.wrap ((A1:Int)+(Z:Int))=(A1:Int)+(Z:Int):=IntWalk.i64_in _ (by omega)
    have hz2:IntKind.i64.wrap ((A2:Int)+(Z:Int))=(A2:Int)+(Z:Int):=IntWalk.i64_in _ (by omega)
    have hz3:IntKind.i64.wrap ((A3:Int)+(Z:Int))=(A3:Int)+(Z:Int):=IntWalk.i64_in _ (by omega)
    have Wj:IntKind.i64.wrap ((A4:Int)+(Z:Int))=(A4:Int)+(Z:Int):=IntWalk.i64_in _ (by omega)
    go_upto_region 21 with(fail)
    have hSP:SP (W2.setCell ⟨w1.heap.size+1,2,none⟩ (.int .i64 ((A2:Int)+(Z:Int)))) w1 _ _ _ _ _ _ W2.heap.size:=SP.set ⟨ib,inn,ih,io,dB,rfl⟩ 2 _
    clear ib inn ih io dB lb cb fb ln cn fn
    generalize W2.setCell ⟨w1.heap.size+1,2,none⟩ (.int .i64 ((A2:Int)+(Z:Int)))=Wn at*
    obtain⟨ib,inn,ih,io,dB,qG⟩:=hSP
    generalize W2.heap.size=S at*
    have K1:aj ((Wn.alloc (.cells #[.int .i64 2,.int .i64 A2] 113)).alloc (.cells #[.int .i64 0,.int .i64 0] 113)) S #[.int .i64 2,.int .i64 A2] 113:=(aj.mk qG.symm).alloc _
    have K2:aj ((Wn.alloc (.cells #[.int .i64 2,.int .i64 A2] 113)).alloc (.cells #[.int .i64 0,.int .i64 0] 113)) (S+1) #[.int .i64 0,.int .i64 0] 113:=aj.mk (by simp[qG])
    have kA:Below Wn.heap.size Wn ((Wn.alloc (.cells #[.int .i64 2,.int .i64 A2] 113)).alloc (.cells #[.int .i64 0,.int .i64 0] 113)):=by exact bm
    replace ib:=ib.tr kA
    replace inn:=inn.tr kA
    replace ih:=ih.tr kA
    replace io:=io.tr kA
    replace dB:=au dB kA
    have hs3:=kA.size
    clear kA qG
    generalize(Wn.alloc (.cells #[.int .i64 2,.int .i64 A2] 113)).alloc (.cells #[.int .i64 0,.int .i64 0] 113)=W3 at*
    obtain⟨lb,cb,fb⟩:=ib.get
    obtain⟨l1,d1,f1⟩:=K1.get
    obtain⟨l2,d2,f2⟩:=K2.get
    obtain⟨hva,hvl,Fh,rfl⟩:=aH ih bP
    obtain⟨xZ,l9,x9,rfl⟩:=aH io bP
    have hS3:w1.heap.size+2<=W3.heap.size:=by omega
    go_wp2_with (at_builtin;refine uT _ rfl _ _ rfl (w1.heap.size+2) _ _ (iP x c k) [(2,A2)] rfl rfl (ih.tr ?e0) (jC _ ((2:Nat),(A2:Nat)) _ rfl _ rfl) ?e1 ?e2 ?e3)
    case e0=>exact bm
    case e1=>have:=Wh.out;first|omega|(simp;omega)
    case e2=>first|omega|(simp;omega)
    case e3=>
    intro v4 w4 o4 hg4 iG
    obtain⟨va,vl,vc,rfl⟩:=aH o4 bP
    have ER:=bK hg4 (ib.alloc _) (λj hj=>by have:=ih.block j hj;omega)
    have wU:=bK hg4 (inn.alloc _) (λj hj=>by have:=ih.block j hj;omega)
    have KG:=bK hg4 (K2.alloc _) (λj hj=>by have:=ih.lt j hj;have:=hKr.out j hj;omega)
    have KH:ak 113 2 CJ w4 (w1.heap.size+2) (.slice xZ l9 x9) (ku x c k):=ak.row (io.tr (Below.alloc (Below.refl _ _) (Nat.le_refl _) _)) hg4 IG.sym
    have qH:xX (.slice va vl vc) (.slice xZ l9 x9):=xX.left IG iG (λj hj=>by have:=io.lt j hj;simp;omega)
    have ou:Below w1.heap.size w1 w4:=iM (B:=w1.heap.size+2) hg4 (low_alloc dB (Nat.le_refl _) _) ih.block (by omega) (Nat.le_refl _)
    have hs4:=hg4.size
    have Wp:W3.heap.size+1<=w4.heap.size:=by simpa using hs4
    have wV:=ak.aU KH (p:=⟨w1.heap.size,12,none⟩) (show w1.heap.size<w1.heap.size+2 by omega) (.slice va vl vc)
    have o5:=ak.aU o4 (p:=⟨w1.heap.size,12,none⟩) (show w1.heap.size<w1.heap.size+2 by omega) (.slice va vl vc)
    have KI:=ER.set 12 (.slice va vl vc)
    have wW:=wU.other (p:=⟨w1.heap.size,12,none⟩) (by simp) (.slice va vl vc)
    have oz:=low_set ou (p:=⟨w1.heap.size,12,none⟩) (Nat.le_refl _) (.slice va vl vc)
    obtain⟨lb4,cb4,fb4⟩:=ER.get
    obtain⟨lk4,ck4,fk4⟩:=KG.get
    have hs5:(w4.setCell ⟨w1.heap.size,12,none⟩ (.slice va vl vc)).heap.size=w4.heap.size:=by simp[World.setCell]
    clear lb cb fb d1 f1 d2 f2 K1 K2 ib ih io hg4 iG ER wU KH o4 ou dB hs4
    go_wp2_with (at_builtin;refine uT _ rfl _ _ rfl (w1.heap.size+2) _ _ (ku x c k) [(0,0)] rfl rfl (wV.tr ?e0) (jC _ ((0:Nat),(0:Nat)) _ rfl _ ?e9) ?e1 ?e2 ?e3)
    case e0=>exact bm
    case e1=>have:=Wi.out;first|omega|(simp;omega)
    case e2=>first|omega|(simp[World.setCell];omega)
    case e9=>first|rfl|simp[World.setCell]
    case e3=>
    intro v6 w6 o6 qJ uz
    obtain⟨ua,ul,uc,rfl⟩:=aH o6 bP
    have ES:=bK qJ (KI.alloc _) (λj hj=>by have:=wV.block j hj;omega)
    have wX:=bK qJ (wW.alloc _) (λj hj=>by have:=wV.block j hj;omega)
    have KJ:ak 113 2 CJ w6 (w1.heap.size+2) (.slice va vl vc) _:=ak.row (o5.tr (Below.alloc (Below.refl _ _) (Nat.le_refl _) _)) qJ qH
    have wY:xX (.slice va vl vc) (.slice ua ul uc):=(xX.left qH.sym uz (λj hj=>by have:=o5.lt j hj;simp;omega)).sym
    have oC:Below w1.heap.size w1 w6:=iM (B:=w1.heap.size+2) qJ (low_alloc oz (Nat.le_refl _) _) wV.block (by omega) (Nat.le_refl _)
    have hs6:=qJ.size
    have Wq:w4.heap.size+1<=w6.heap.size:=by simpa [World.setCell]using hs6
    obtain⟨lb6,cb6,fb6⟩:=ES.get
    have hfin:Hid (MV x c w w1 ⟨(a1,n1,c1),(a2,n2,c2),(a3,n3,c3)⟩ (.slice (some ⟨gb,go,none⟩) N gc) (.slice qa (bI x).length qc) (k+1) (.slice va vl vc) (.slice ua ul uc) (w6.setCell ⟨w1.heap.size,13,none⟩ (.slice ua ul uc))):=Lib.hid (by
     refine⟨?_,?_,?_,?_,wY,low_set oC (Nat.le_refl _) _,by simp[World.setCell];omega⟩
     ·exact ES.set 13 (.slice ua ul uc)
     ·have:=wX.other (p:=⟨w1.heap.size,13,none⟩) (by simp) (.slice ua ul uc)
      rw[yx.out,Ag.out,uY.out,vw.out]
      simpa using this
     ·rw[KE.out,EO.out]
      exact ak.aU KJ (show w1.heap.size<w1.heap.size+2 by omega) _
     ·rw[KF.out,EP.out]
      exact ak.aU o6 (show w1.heap.size<w1.heap.size+2 by omega) _)
    clear ES wX KJ wY oC o6 qJ uz KI wW wV o5 oz KG qH IG KE KF EO EP yx Ag uY vw
    go_wp2_with fail
    exact⟨⟨k+1,_,_,by omega,by go_num,by rw[EN.out];simp,hfin⟩,by simp[intOf];omega⟩
   ·have EL:Hid (∀W,Below w.heap.size w W->Calls Tryz.prog 57 #[.agg #[.slice a1 n1 c1,.slice a2 n2 c2,.slice a3 n3 c3,.int .u64 x.base,.int .i64 x.dR,.int .i64 x.scan,.int .i64 x.tt],.int .i64 k,.bool _] W λe w'=>e=.returned (.tuple #[.int .i64 1,.bool (Uj x k)])/\Below W.heap.size W w'):=Lib.hid λW hb=>by
     have:=hcl.out W k (by omega) hb
     rw[hK]at this
     try rw[hf]at this
     exact this
    have hbw:Below w.heap.size w wr:=by exact bm
    have kx:=KX.tr dB
    obtain⟨lx,cx,fx⟩:=kx.get
    go_wp2_with fail
    refine(EL.out _ ?_).mono ?_
    ·exact bm
    rintro e w2 ⟨rfl,k2⟩
    replace ib:=ib.tr k2
    replace inn:=inn.tr k2
    replace ih:=ih.tr k2
    replace io:=io.tr k2
    replace hc0:=ah k2 hc0
    replace hc1:=ah k2 hc1
    have hs2:=k2.size
    replace dB:=au dB k2
    obtain⟨lb,cb,fb⟩:=ib.get
    obtain⟨ln,cn,fn⟩:=inn.get
    clear EL hbw kx lx cx fx k2 hI
    go_upto_region 8 with(fail)
    go_quiet (fail)
    have kq:Below w2.heap.size w2 (w2.drewN nq):=below_drewN (Below.refl _ _) nq
    replace ib:=ib.tr kq
    replace inn:=inn.tr kq
    replace ih:=ih.tr kq
    replace io:=io.tr kq
    replace dB:=au dB kq
    have hsq:=kq.size
    clear lb cb fb ln cn fn kq
    generalize w2.drewN nq=W2 at*
    obtain⟨lb,cb,fb⟩:=ib.get
    obtain⟨ln,cn,fn⟩:=inn.get
    have hisz:w1.heap.size+2<=W2.heap.size:=by omega
    have hKr:Hid (∀j,hv.ownBlock=some j->j<W2.heap.size):=Lib.hid λj hj=>ih.lt j hj
    have EN:Hid (hof x false 0 (k+1)=hof x false 0 k+if hpt x false k=0 then 1+iF x k else 0):=rfl
    have yx:Hid (hof x false 1 (k+1)=hof x false 1 k+if hpt x false k=1 then 1+iF x k else 0):=rfl
    have Ag:Hid (hof x false 2 (k+1)=hof x false 2 k+if hpt x false k=2 then 1+iF x k else 0):=rfl
    have uY:Hid (aY x false 3 (k+1)=aY x false 3 k+if opt x false k=3 then 1+iF x k else 0):=rfl
    have vw:Hid (aY x false 4 (k+1)=aY x false 4 k+if opt x false k=4 then 1+iF x k else 0):=rfl
    have hm0:=IE.out 0 k (by omega)
    have hm1:=IE.out 1 k (by omega)
    have hm2:=IE.out 2 k (by omega)
    have JI:=SQ.out 3 k (by omega)
    have hm4:=SQ.out 4 k (by omega)
    have SX:=HHL.out
    have hol:=HOL.out
    have EO:Hid (uZ x false k=(hpt x false k,if hpt x false k=0 then 0 else hof x false (hpt x false k) k)):=rfl
    have EP:Hid (Aj x false k=(opt x false k,if opt x false k=0 then 0 else aY x false (opt x false k) k)):=rfl
    have KE:=Lib.hid (ny x false k)
    have KF:=Lib.hid (pU x false k)
    have Wh:Hid ((iP x false k).length=k):=Lib.hid (by unfold iP;simp)
    have Wi:Hid ((ku x false k).length=k):=Lib.hid (by unfold ku;simp)
    rw[hH]at EN yx Ag EO
    rw[hO]at uY vw EP
    rw[<-HZ.out]at EN yx Ag uY vw
    have hb0:hof x false 0 k<=90:=by omega
    have hb1:hof x false 1 k<=90:=by omega
    have hb2:hof x false 2 k<=90:=by omega
    have hb3:aY x false 3 k<=90:=by omega
    have hb4:aY x false 4 k<=90:=by omega
    clear hm0 hm1 hm2 JI hm4 SX hol
    generalize hof x false 0 k=A0 at*
    generalize hof x false 1 k=A1 at*
    generalize hof x false 2 k=A2 at*
    generalize aY x false 3 k=A3 at*
    generalize aY x false 4 k=A4 at*
    have hz0:IntKind.i64.wrap ((A0:Int)+(Z:Int))=(A0:Int)+(Z:Int):=IntWalk.i64_in _ (by omega)
    have hz1:IntKind.i64.wrap ((A1:Int)+(Z:Int))=(A1:Int)+(Z:Int):=IntWalk.i64_in _ (by omega)
    have hz2:IntKind.i64.wrap ((A2:Int)+(Z:Int))=(A2:Int)+(Z:Int):=IntWalk.i64_in _ (by omega)
    have hz3:IntKind.i64.wrap ((A3:Int)+(Z:Int))=(A3:Int)+(Z:Int):=IntWalk.i64_in _ (by omega)
    have Wj:IntKind.i64.wrap ((A4:Int)+(Z:Int))=(A4:Int)+(Z:Int):=IntWalk.i64_in _ (by omega)
    go_upto_region 21 with(fail)
    have hSP:SP (W2.setCell ⟨w1.heap.size+1,1,none⟩ (.int .i64 ((A1:Int)+(Z:Int)))) w1 _ _ _ _ _ _ W2.heap.size:=(SP.set ⟨ib,inn,ih,io,dB,rfl⟩ 1 _)
    clear ib inn ih io dB lb cb fb ln cn fn
    generalize(W2.setCell ⟨w1.heap.size+1,1,none⟩ (.int .i64 ((A1:Int)+(Z:Int))))=Wn at*
    obtain⟨ib,inn,ih,io,dB,qG⟩:=hSP
    generalize W2.heap.size=S at*
    have K1:aj ((Wn.alloc (.cells #[.int .i64 1,.int .i64 A1] 113)).alloc (.cells #[.int .i64 0,.int .i64 0] 113)) S #[.int .i64 1,.int .i64 A1] 113:=(aj.mk qG.symm).alloc _
    have K2:aj ((Wn.alloc (.cells #[.int .i64 1,.int .i64 A1] 113)).alloc (.cells #[.int .i64 0,.int .i64 0] 113)) (S+1) #[.int .i64 0,.int .i64 0] 113:=aj.mk (by simp[qG])
    have kA:Below Wn.heap.size Wn ((Wn.alloc (.cells #[.int .i64 1,.int .i64 A1] 113)).alloc (.cells #[.int .i64 0,.int .i64 0] 113)):=by exact bm
    replace ib:=ib.tr kA
    replace inn:=inn.tr kA
    replace ih:=ih.tr kA
    replace io:=io.tr kA
    replace dB:=au dB kA
    have hs3:=kA.size
    clear kA qG
    generalize(Wn.alloc (.cells #[.int .i64 1,.int .i64 A1] 113)).alloc (.cells #[.int .i64 0,.int .i64 0] 113)=W3 at*
    obtain⟨lb,cb,fb⟩:=ib.get
    obtain⟨l1,d1,f1⟩:=K1.get
    obtain⟨l2,d2,f2⟩:=K2.get
    obtain⟨hva,hvl,Fh,rfl⟩:=aH ih bP
    obtain⟨xZ,l9,x9,rfl⟩:=aH io bP
    have hS3:w1.heap.size+2<=W3.heap.size:=by omega
    go_wp2_with (at_builtin;refine uT _ rfl _ _ rfl (w1.heap.size+2) _ _ (iP x false k) [(1,A1)] rfl rfl (ih.tr ?e0) (jC _ ((1:Nat),(A1:Nat)) _ rfl _ rfl) ?e1 ?e2 ?e3)
    case e0=>exact bm
    case e1=>have:=Wh.out;first|omega|(simp;omega)
    case e2=>first|omega|(simp;omega)
    case e3=>
    intro v4 w4 o4 hg4 iG
    obtain⟨va,vl,vc,rfl⟩:=aH o4 bP
    have ER:=bK hg4 (ib.alloc _) (λj hj=>by have:=ih.block j hj;omega)
    have wU:=bK hg4 (inn.alloc _) (λj hj=>by have:=ih.block j hj;omega)
    have KG:=bK hg4 (K2.alloc _) (λj hj=>by have:=ih.lt j hj;have:=hKr.out j hj;omega)
    have KH:ak 113 2 CJ w4 (w1.heap.size+2) (.slice xZ l9 x9) (ku x false k):=ak.row (io.tr (Below.alloc (Below.refl _ _) (Nat.le_refl _) _)) hg4 IG.sym
    have qH:xX (.slice va vl vc) (.slice xZ l9 x9):=xX.left IG iG (λj hj=>by have:=io.lt j hj;simp;omega)
    have ou:Below w1.heap.size w1 w4:=iM (B:=w1.heap.size+2) hg4 (low_alloc dB (Nat.le_refl _) _) ih.block (by omega) (Nat.le_refl _)
    have hs4:=hg4.size
    have Wp:W3.heap.size+1<=w4.heap.size:=by simpa using hs4
    have wV:=ak.aU KH (p:=⟨w1.heap.size,12,none⟩) (show w1.heap.size<w1.heap.size+2 by omega) (.slice va vl vc)
    have o5:=ak.aU o4 (p:=⟨w1.heap.size,12,none⟩) (show w1.heap.size<w1.heap.size+2 by omega) (.slice va vl vc)
    have KI:=ER.set 12 (.slice va vl vc)
    have wW:=wU.other (p:=⟨w1.heap.size,12,none⟩) (by simp) (.slice va vl vc)
    have oz:=low_set ou (p:=⟨w1.heap.size,12,none⟩) (Nat.le_refl _) (.slice va vl vc)
    obtain⟨lb4,cb4,fb4⟩:=ER.get
    obtain⟨lk4,ck4,fk4⟩:=KG.get
    have hs5:(w4.setCell ⟨w1.heap.size,12,none⟩ (.slice va vl vc)).heap.size=w4.heap.size:=by simp[World.setCell]
    clear lb cb fb d1 f1 d2 f2 K1 K2 ib ih io hg4 iG ER wU KH o4 ou dB hs4
    go_wp2_with (at_builtin;refine uT _ rfl _ _ rfl (w1.heap.size+2) _ _ (ku x false k) [(0,0)] rfl rfl (wV.tr ?e0) (jC _ ((0:Nat),(0:Nat)) _ rfl _ ?e9) ?e1 ?e2 ?e3)
    case e0=>exact bm
    case e1=>have:=Wi.out;first|omega|(simp;omega)
    case e2=>first|omega|(simp[World.setCell];omega)
    case e9=>first|rfl|simp[World.setCell]
    case e3=>
    intro v6 w6 o6 qJ uz
    obtain⟨ua,ul,uc,rfl⟩:=aH o6 bP
    have ES:=bK qJ (KI.alloc _) (λj hj=>by have:=wV.block j hj;omega)
    have wX:=bK qJ (wW.alloc _) (λj hj=>by have:=wV.block j hj;omega)
    have KJ:ak 113 2 CJ w6 (w1.heap.size+2) (.slice va vl vc) _:=ak.row (o5.tr (Below.alloc (Below.refl _ _) (Nat.le_refl _) _)) qJ qH
    have wY:xX (.slice va vl vc) (.slice ua ul uc):=(xX.left qH.sym uz (λj hj=>by have:=o5.lt j hj;simp;omega)).sym
    have oC:Below w1.heap.size w1 w6:=iM (B:=w1.heap.size+2) qJ (low_alloc oz (Nat.le_refl _) _) wV.block (by omega) (Nat.le_refl _)
    have hs6:=qJ.size
    have Wq:w4.heap.size+1<=w6.heap.size:=by simpa [World.setCell]using hs6
    obtain⟨lb6,cb6,fb6⟩:=ES.get
    have hfin:Hid (MV x false w w1 ⟨(a1,n1,c1),(a2,n2,c2),(a3,n3,c3)⟩ (.slice (some ⟨gb,go,none⟩) N gc) (.slice qa (bI x).length qc) (k+1) (.slice va vl vc) (.slice ua ul uc) (w6.setCell ⟨w1.heap.size,13,none⟩ (.slice ua ul uc))):=Lib.hid (by
     refine⟨?_,?_,?_,?_,wY,low_set oC (Nat.le_refl _) _,by simp[World.setCell];omega⟩
     ·exact ES.set 13 (.slice ua ul uc)
     ·have:=wX.other (p:=⟨w1.heap.size,13,none⟩) (by simp) (.slice ua ul uc)
      rw[yx.out,Ag.out,uY.out,vw.out]
      simpa using this
     ·rw[KE.out,EO.out]
      exact ak.aU KJ (show w1.heap.size<w1.heap.size+2 by omega) _
     ·rw[KF.out,EP.out]
      exact ak.aU o6 (show w1.heap.size<w1.heap.size+2 by omega) _)
    clear ES wX KJ wY oC o6 qJ uz KI wW wV o5 oz KG qH IG KE KF EO EP yx Ag uY vw
    go_wp2_with fail
    exact⟨⟨k+1,_,_,by omega,by go_num,by rw[EN.out];simp,hfin⟩,by simp[intOf];omega⟩
   ·cases hf:Uj x k with
    |true=>
     replace hO:opt x true k=4:=by unfold opt;rw[hK,hf];rfl
     have EL:Hid (∀W,Below w.heap.size w W->Calls Tryz.prog 57 #[.agg #[.slice a1 n1 c1,.slice a2 n2 c2,.slice a3 n3 c3,.int .u64 x.base,.int .i64 x.dR,.int .i64 x.scan,.int .i64 x.tt],.int .i64 k,.bool _] W λe w'=>e=.returned (.tuple #[.int .i64 1,.bool (true)])/\Below W.heap.size W w'):=Lib.hid λW hb=>by
      have:=hcl.out W k (by omega) hb
      rw[hK]at this
      try rw[hf]at this
      exact this
     have hbw:Below w.heap.size w wr:=by exact bm
     have kx:=KX.tr dB
     obtain⟨lx,cx,fx⟩:=kx.get
     go_wp2_with fail
     refine(EL.out _ ?_).mono ?_
     ·exact bm
     rintro e w2 ⟨rfl,k2⟩
     replace ib:=ib.tr k2
     replace inn:=inn.tr k2
     replace ih:=ih.tr k2
     replace io:=io.tr k2
     replace hc0:=ah k2 hc0
     replace hc1:=ah k2 hc1
     have hs2:=k2.size
     replace dB:=au dB k2
     obtain⟨lb,cb,fb⟩:=ib.get
     obtain⟨ln,cn,fn⟩:=inn.get
     clear EL hbw kx lx cx fx k2 hI
     go_upto_region 8 with(fail)
     go_quiet (fail)
     have kq:Below w2.heap.size w2 (w2.drewN nq):=below_drewN (Below.refl _ _) nq
     replace ib:=ib.tr kq
     replace inn:=inn.tr kq
     replace ih:=ih.tr kq
     replace io:=io.tr kq
     replace dB:=au dB kq
     have hsq:=kq.size
     clear lb cb fb ln cn fn kq
     generalize w2.drewN nq=W2 at*
     obtain⟨lb,cb,fb⟩:=ib.get
     obtain⟨ln,cn,fn⟩:=inn.get
     have hisz:w1.heap.size+2<=W2.heap.size:=by omega
     have hKr:Hid (∀j,hv.ownBlock=some j->j<W2.heap.size):=Lib.hid λj hj=>ih.lt j hj
     have EN:Hid (hof x true 0 (k+1)=hof x true 0 k+if hpt x true k=0 then 1+iF x k else 0):=rfl
     have yx:Hid (hof x true 1 (k+1)=hof x true 1 k+if hpt x true k=1 then 1+iF x k else 0):=rfl
     have Ag:Hid (hof x true 2 (k+1)=hof x true 2 k+if hpt x true k=2 then 1+iF x k else 0):=rfl
     have uY:Hid (aY x true 3 (k+1)=aY x true 3 k+if opt x true k=3 then 1+iF x k else 0):=rfl
     have vw:Hid (aY x true 4 (k+1)=aY x true 4 k+if opt x true k=4 then 1+iF x k else 0):=rfl
     have hm0:=IE.out 0 k (by omega)
     have hm1:=IE.out 1 k (by omega)
     have hm2:=IE.out 2 k (by omega)
     have JI:=SQ.out 3 k (by omega)
     have hm4:=SQ.out 4 k (by omega)
     have SX:=HHL.out
     have hol:=HOL.out
     have EO:Hid (uZ x true k=(hpt x true k,if hpt x true k=0 then 0 else hof x true (hpt x true k) k)):=rfl
     have EP:Hid (Aj x true k=(opt x true k,if opt x true k=0 then 0 else aY x true (opt x true k) k)):=rfl
     have KE:=Lib.hid (ny x true k)
     have KF:=Lib.hid (pU x true k)
     have Wh:Hid ((iP x true k).length=k):=Lib.hid (by unfold iP;simp)
     have Wi:Hid ((ku x true k).length=k):=Lib.hid (by unfold ku;simp)
     rw[hH]at EN yx Ag EO
     rw[hO]at uY vw EP
     rw[<-HZ.out]at EN yx Ag uY vw
     have hb0:hof x true 0 k<=90:=by omega
     have hb1:hof x true 1 k<=90:=by omega
     have hb2:hof x true 2 k<=90:=by omega
     have hb3:aY x true 3 k<=90:=by omega
     have hb4:aY x true 4 k<=90:=by omega
     clear hm0 hm1 hm2 JI hm4 SX hol
     generalize hof x true 0 k=A0 at*
     generalize hof x true 1 k=A1 at*
     generalize hof x true 2 k=A2 at*
     generalize aY x true 3 k=A3 at*
     generalize aY x true 4 k=A4 at*
     have hz0:IntKind.i64.wrap ((A0:Int)+(Z:Int))=(A0:Int)+(Z:Int):=IntWalk.i64_in _ (by omega)
     have hz1:IntKind.i64.wrap ((A1:Int)+(Z:Int))=(A1:Int)+(Z:Int):=IntWalk.i64_in _ (by omega)
     have hz2:IntKind.i64.wrap ((A2:Int)+(Z:Int))=(A2:Int)+(Z:Int):=IntWalk.i64_in _ (by omega)
     have hz3:IntKind.i64.wrap ((A3:Int)+(Z:Int))=(A3:Int)+(Z:Int):=IntWalk.i64_in _ (by omega)
     have Wj:IntKind.i64.wrap ((A4:Int)+(Z:Int))=(A4:Int)+(Z:Int):=IntWalk.i64_in _ (by omega)
     go_upto_region 21 with(fail)
     have hSP:SP ((W2.setCell ⟨w1.heap.size+1,1,none⟩ (.int .i64 ((A1:Int)+(Z:Int)))).setCell ⟨w1.heap.size+1,4,none⟩ (.int .i64 ((A4:Int)+(Z:Int)))) w1 _ _ _ _ _ _ W2.heap.size:=(SP.set (SP.set ⟨ib,inn,ih,io,dB,rfl⟩ 1 _) 4 _)
     clear ib inn ih io dB lb cb fb ln cn fn
     generalize((W2.setCell ⟨w1.heap.size+1,1,none⟩ (.int .i64 ((A1:Int)+(Z:Int)))).setCell ⟨w1.heap.size+1,4,none⟩ (.int .i64 ((A4:Int)+(Z:Int))))=Wn at*
     obtain⟨ib,inn,ih,io,dB,qG⟩:=hSP
     generalize W2.heap.size=S at*
     have K1:aj ((Wn.alloc (.cells #[.int .i64 1,.int .i64 A1] 113)).alloc (.cells #[.int .i64 4,.int .i64 A4] 113)) S #[.int .i64 1,.int .i64 A1] 113:=(aj.mk qG.symm).alloc _
     have K2:aj ((Wn.alloc (.cells #[.int .i64 1,.int .i64 A1] 113)).alloc (.cells #[.int .i64 4,.int .i64 A4] 113)) (S+1) #[.int .i64 4,.int .i64 A4] 113:=aj.mk (by simp[qG])
     have kA:Below Wn.heap.size Wn ((Wn.alloc (.cells #[.int .i64 1,.int .i64 A1] 113)).alloc (.cells #[.int .i64 4,.int .i64 A4] 113)):=by exact bm
     replace ib:=ib.tr kA
     replace inn:=inn.tr kA
     replace ih:=ih.tr kA
     replace io:=io.tr kA
     replace dB:=au dB kA
     have hs3:=kA.size
     clear kA qG
     generalize(Wn.alloc (.cells #[.int .i64 1,.int .i64 A1] 113)).alloc (.cells #[.int .i64 4,.int .i64 A4] 113)=W3 at*
     obtain⟨lb,cb,fb⟩:=ib.get
     obtain⟨l1,d1,f1⟩:=K1.get
     obtain⟨l2,d2,f2⟩:=K2.get
     obtain⟨hva,hvl,Fh,rfl⟩:=aH ih bP
     obtain⟨xZ,l9,x9,rfl⟩:=aH io bP
     have hS3:w1.heap.size+2<=W3.heap.size:=by omega
     go_wp2_with (at_builtin;refine uT _ rfl _ _ rfl (w1.heap.size+2) _ _ (iP x true k) [(1,A1)] rfl rfl (ih.tr ?e0) (jC _ ((1:Nat),(A1:Nat)) _ rfl _ rfl) ?e1 ?e2 ?e3)
     case e0=>exact bm
     case e1=>have:=Wh.out;first|omega|(simp;omega)
     case e2=>first|omega|(simp;omega)
     case e3=>
     intro v4 w4 o4 hg4 iG
     obtain⟨va,vl,vc,rfl⟩:=aH o4 bP
     have ER:=bK hg4 (ib.alloc _) (λj hj=>by have:=ih.block j hj;omega)
     have wU:=bK hg4 (inn.alloc _) (λj hj=>by have:=ih.block j hj;omega)
     have KG:=bK hg4 (K2.alloc _) (λj hj=>by have:=ih.lt j hj;have:=hKr.out j hj;omega)
     have KH:ak 113 2 CJ w4 (w1.heap.size+2) (.slice xZ l9 x9) (ku x true k):=ak.row (io.tr (Below.alloc (Below.refl _ _) (Nat.le_refl _) _)) hg4 IG.sym
     have qH:xX (.slice va vl vc) (.slice xZ l9 x9):=xX.left IG iG (λj hj=>by have:=io.lt j hj;simp;omega)
     have ou:Below w1.heap.size w1 w4:=iM (B:=w1.heap.size+2) hg4 (low_alloc dB (Nat.le_refl _) _) ih.block (by omega) (Nat.le_refl _)
     have hs4:=hg4.size
     have Wp:W3.heap.size+1<=w4.heap.size:=by simpa using hs4
     have wV:=ak.aU KH (p:=⟨w1.heap.size,12,none⟩) (show w1.heap.size<w1.heap.size+2 by omega) (.slice va vl vc)
     have o5:=ak.aU o4 (p:=⟨w1.heap.size,12,none⟩) (show w1.heap.size<w1.heap.size+2 by omega) (.slice va vl vc)
     have KI:=ER.set 12 (.slice va vl vc)
     have wW:=wU.other (p:=⟨w1.heap.size,12,none⟩) (by simp) (.slice va vl vc)
     have oz:=low_set ou (p:=⟨w1.heap.size,12,none⟩) (Nat.le_refl _) (.slice va vl vc)
     obtain⟨lb4,cb4,fb4⟩:=ER.get
     obtain⟨lk4,ck4,fk4⟩:=KG.get
     have hs5:(w4.setCell ⟨w1.heap.size,12,none⟩ (.slice va vl vc)).heap.size=w4.heap.size:=by simp[World.setCell]
     clear lb cb fb d1 f1 d2 f2 K1 K2 ib ih io hg4 iG ER wU KH o4 ou dB hs4
     go_wp2_with (at_builtin;refine uT _ rfl _ _ rfl (w1.heap.size+2) _ _ (ku x true k) [(4,A4)] rfl rfl (wV.tr ?e0) (jC _ ((4:Nat),(A4:Nat)) _ rfl _ ?e9) ?e1 ?e2 ?e3)
     case e0=>exact bm
     case e1=>have:=Wi.out;first|omega|(simp;omega)
     case e2=>first|omega|(simp[World.setCell];omega)
     case e9=>first|rfl|simp[World.setCell]
     case e3=>
     intro v6 w6 o6 qJ uz
     obtain⟨ua,ul,uc,rfl⟩:=aH o6 bP
     have ES:=bK qJ (KI.alloc _) (λj hj=>by have:=wV.block j hj;omega)
     have wX:=bK qJ (wW.alloc _) (λj hj=>by have:=wV.block j hj;omega)
     have KJ:ak 113 2 CJ w6 (w1.heap.size+2) (.slice va vl vc) _:=ak.row (o5.tr (Below.alloc (Below.refl _ _) (Nat.le_refl _) _)) qJ qH
     have wY:xX (.slice va vl vc) (.slice ua ul uc):=(xX.left qH.sym uz (λj hj=>by have:=o5.lt j hj;simp;omega)).sym
     have oC:Below w1.heap.size w1 w6:=iM (B:=w1.heap.size+2) qJ (low_alloc oz (Nat.le_refl _) _) wV.block (by omega) (Nat.le_refl _)
     have hs6:=qJ.size
     have Wq:w4.heap.size+1<=w6.heap.size:=by simpa [World.setCell]using hs6
     obtain⟨lb6,cb6,fb6⟩:=ES.get
     have hfin:Hid (MV x true w w1 ⟨(a1,n1,c1),(a2,n2,c2),(a3,n3,c3)⟩ (.slice (some ⟨gb,go,none⟩) N gc) (.slice qa (bI x).length qc) (k+1) (.slice va vl vc) (.slice ua ul uc) (w6.setCell ⟨w1.heap.size,13,none⟩ (.slice ua ul uc))):=Lib.hid (by
      refine⟨?_,?_,?_,?_,wY,low_set oC (Nat.le_refl _) _,by simp[World.setCell];omega⟩
      ·exact ES.set 13 (.slice ua ul uc)
      ·have:=wX.other (p:=⟨w1.heap.size,13,none⟩) (by simp) (.slice ua ul uc)
       rw[yx.out,Ag.out,uY.out,vw.out]
       simpa using this
      ·rw[KE.out,EO.out]
       exact ak.aU KJ (show w1.heap.size<w1.heap.size+2 by omega) _
      ·rw[KF.out,EP.out]
       exact ak.aU o6 (show w1.heap.size<w1.heap.size+2 by omega) _)
     clear ES wX KJ wY oC o6 qJ uz KI wW wV o5 oz KG qH IG KE KF EO EP yx Ag uY vw
     go_wp2_with fail
     exact⟨⟨k+1,_,_,by omega,by go_num,by rw[EN.out];simp,hfin⟩,by simp[intOf];omega⟩
    |false=>
     replace hO:opt x true k=3:=by unfold opt;rw[hK,hf];rfl
     have EL:Hid (∀W,Below w.heap.size w W->Calls Tryz.prog 57 #[.agg #[.slice a1 n1 c1,.slice a2 n2 c2,.slice a3 n3 c3,.int .u64 x.base,.int .i64 x.dR,.int .i64 x.scan,.int .i64 x.tt],.int .i64 k,.bool _] W λe w'=>e=.returned (.tuple #[.int .i64 1,.bool (false)])/\Below W.heap.size W w'):=Lib.hid λW hb=>by
      have:=hcl.out W k (by omega) hb
      rw[hK]at this
      try rw[hf]at this
      exact this
     have hbw:Below w.heap.size w wr:=by exact bm
     have kx:=KX.tr dB
     obtain⟨lx,cx,fx⟩:=kx.get
     go_wp2_with fail
     refine(EL.out _ ?_).mono ?_
     ·exact bm
     rintro e w2 ⟨rfl,k2⟩
     replace ib:=ib.tr k2
     replace inn:=inn.tr k2
     replace ih:=ih.tr k2
     replace io:=io.tr k2
     replace hc0:=ah k2 hc0
     replace hc1:=ah k2 hc1
     have hs2:=k2.size
     replace dB:=au dB k2
     obtain⟨lb,cb,fb⟩:=ib.get
     obtain⟨ln,cn,fn⟩:=inn.get
     clear EL hbw kx lx cx fx k2 hI
     go_upto_region 8 with(fail)
     go_quiet (fail)
     have kq:Below w2.heap.size w2 (w2.drewN nq):=below_drewN (Below.refl _ _) nq
     replace ib:=ib.tr kq
     replace inn:=inn.tr kq
     replace ih:=ih.tr kq
     replace io:=io.tr kq
     replace dB:=au dB kq
     have hsq:=kq.size
     clear lb cb fb ln cn fn kq
     generalize w2.drewN nq=W2 at*
     obtain⟨lb,cb,fb⟩:=ib.get
     obtain⟨ln,cn,fn⟩:=inn.get
     have hisz:w1.heap.size+2<=W2.heap.size:=by omega
     have hKr:Hid (∀j,hv.ownBlock=some j->j<W2.heap.size):=Lib.hid λj hj=>ih.lt j hj
     have EN:Hid (hof x true 0 (k+1)=hof x true 0 k+if hpt x true k=0 then 1+iF x k else 0):=rfl
     have yx:Hid (hof x true 1 (k+1)=hof x true 1 k+if hpt x true k=1 then 1+iF x k else 0):=rfl
     have Ag:Hid (hof x true 2 (k+1)=hof x true 2 k+if hpt x true k=2 then 1+iF x k else 0):=rfl
     have uY:Hid (aY x true 3 (k+1)=aY x true 3 k+if opt x true k=3 then 1+iF x k else 0):=rfl
     have vw:Hid (aY x true 4 (k+1)=aY x true 4 k+if opt x true k=4 then 1+iF x k else 0):=rfl
     have hm0:=IE.out 0 k (by omega)
     have hm1:=IE.out 1 k (by omega)
     have hm2:=IE.out 2 k (by omega)
     have JI:=SQ.out 3 k (by omega)
     have hm4:=SQ.out 4 k (by omega)
     have SX:=HHL.out
     have hol:=HOL.out
     have EO:Hid (uZ x true k=(hpt x true k,if hpt x true k=0 then 0 else hof x true (hpt x true k) k)):=rfl
     have EP:Hid (Aj x true k=(opt x true k,if opt x true k=0 then 0 else aY x true (opt x true k) k)):=rfl
     have KE:=Lib.hid (ny x true k)
     have KF:=Lib.hid (pU x true k)
     have Wh:Hid ((iP x true k).length=k):=Lib.hid (by unfold iP;simp)
     have Wi:Hid ((ku x true k).length=k):=Lib.hid (by unfold ku;simp)
     rw[hH]at EN yx Ag EO
     rw[hO]at uY vw EP
     rw[<-HZ.out]at EN yx Ag uY vw
     have hb0:hof x true 0 k<=90:=by omega
     have hb1:hof x true 1 k<=90:=by omega
     have hb2:hof x true 2 k<=90:=by omega
     have hb3:aY x true 3 k<=90:=by omega
     have hb4:aY x true 4 k<=90:=by omega
     clear hm0 hm1 hm2 JI hm4 SX hol
     generalize hof x true 0 k=A0 at*
     generalize hof x true 1 k=A1 at*
     generalize hof x true 2 k=A2 at*
     generalize aY x true 3 k=A3 at*
     generalize aY x true 4 k=A4 at*
     have hz0:IntKind.i64.wrap ((A0:Int)+(Z:Int))=(A0:Int)+(Z:Int):=IntWalk.i64_in _ (by omega)
     have hz1:IntKind.i64.wrap ((A1:Int)+(Z:Int))=(A1:Int)+(Z:Int):=IntWalk.i64_in _ (by omega)
     have hz2:IntKind.i64.wrap ((A2:Int)+(Z:Int))=(A2:Int)+(Z:Int):=IntWalk.i64_in _ (by omega)
     have hz3:IntKind.i64.wrap ((A3:Int)+(Z:Int))=(A3:Int)+(Z:Int):=IntWalk.i64_in _ (by omega)
     have Wj:IntKind.i64.wrap ((A4:Int)+(Z:Int))=(A4:Int)+(Z:Int):=IntWalk.i64_in _ (by omega)
     go_upto_region 21 with(fail)
     have hSP:SP ((W2.setCell ⟨w1.heap.size+1,1,none⟩ (.int .i64 ((A1:Int)+(Z:Int)))).setCell ⟨w1.heap.size+1,3,none⟩ (.int .i64 ((A3:Int)+(Z:Int)))) w1 _ _ _ _ _ _ W2.heap.size:=(SP.set (SP.set ⟨ib,inn,ih,io,dB,rfl⟩ 1 _) 3 _)
     clear ib inn ih io dB lb cb fb ln cn fn
     generalize((W2.setCell ⟨w1.heap.size+1,1,none⟩ (.int .i64 ((A1:Int)+(Z:Int)))).setCell ⟨w1.heap.size+1,3,none⟩ (.int .i64 ((A3:Int)+(Z:Int))))=Wn at*
     obtain⟨ib,inn,ih,io,dB,qG⟩:=hSP
     generalize W2.heap.size=S at*
     have K1:aj ((Wn.alloc (.cells #[.int .i64 1,.int .i64 A1] 113)).alloc (.cells #[.int .i64 3,.int .i64 A3] 113)) S #[.int .i64 1,.int .i64 A1] 113:=(aj.mk qG.symm).alloc _
     have K2:aj ((Wn.alloc (.cells #[.int .i64 1,.int .i64 A1] 113)).alloc (.cells #[.int .i64 3,.int .i64 A3] 113)) (S+1) #[.int .i64 3,.int .i64 A3] 113:=aj.mk (by simp[qG])
     have kA:Below Wn.heap.size Wn ((Wn.alloc (.cells #[.int .i64 1,.int .i64 A1] 113)).alloc (.cells #[.int .i64 3,.int .i64 A3] 113)):=by exact bm
     replace ib:=ib.tr kA
     replace inn:=inn.tr kA
     replace ih:=ih.tr kA
     replace io:=io.tr kA
     replace dB:=au dB kA
     have hs3:=kA.size
     clear kA qG
     generalize(Wn.alloc (.cells #[.int .i64 1,.int .i64 A1] 113)).alloc (.cells #[.int .i64 3,.int .i64 A3] 113)=W3 at*
     obtain⟨lb,cb,fb⟩:=ib.get
     obtain⟨l1,d1,f1⟩:=K1.get
     obtain⟨l2,d2,f2⟩:=K2.get
     obtain⟨hva,hvl,Fh,rfl⟩:=aH ih bP
     obtain⟨xZ,l9,x9,rfl⟩:=aH io bP
     have hS3:w1.heap.size+2<=W3.heap.size:=by omega
     go_wp2_with (at_builtin;refine uT _ rfl _ _ rfl (w1.heap.size+2) _ _ (iP x true k) [(1,A1)] rfl rfl (ih.tr ?e0) (jC _ ((1:Nat),(A1:Nat)) _ rfl _ rfl) ?e1 ?e2 ?e3)
     case e0=>exact bm
     case e1=>have:=Wh.out;first|omega|(simp;omega)
     case e2=>first|omega|(simp;omega)
     case e3=>
     intro v4 w4 o4 hg4 iG
     obtain⟨va,vl,vc,rfl⟩:=aH o4 bP
     have ER:=bK hg4 (ib.alloc _) (λj hj=>by have:=ih.block j hj;omega)
     have wU:=bK hg4 (inn.alloc _) (λj hj=>by have:=ih.block j hj;omega)
     have KG:=bK hg4 (K2.alloc _) (λj hj=>by have:=ih.lt j hj;have:=hKr.out j hj;omega)
     have KH:ak 113 2 CJ w4 (w1.heap.size+2) (.slice xZ l9 x9) (ku x true k):=ak.row (io.tr (Below.alloc (Below.refl _ _) (Nat.le_refl _) _)) hg4 IG.sym
     have qH:xX (.slice va vl vc) (.slice xZ l9 x9):=xX.left IG iG (λj hj=>by have:=io.lt j hj;simp;omega)
     have ou:Below w1.heap.size w1 w4:=iM (B:=w1.heap.size+2) hg4 (low_alloc dB (Nat.le_refl _) _) ih.block (by omega) (Nat.le_refl _)
     have hs4:=hg4.size
     have Wp:W3.heap.size+1<=w4.heap.size:=by simpa using hs4
     have wV:=ak.aU KH (p:=⟨w1.heap.size,12,none⟩) (show w1.heap.size<w1.heap.size+2 by omega) (.slice va vl vc)
     have o5:=ak.aU o4 (p:=⟨w1.heap.size,12,none⟩) (show w1.heap.size<w1.heap.size+2 by omega) (.slice va vl vc)
     have KI:=ER.set 12 (.slice va vl vc)
     have wW:=wU.other (p:=⟨w1.heap.size,12,none⟩) (by simp) (.slice va vl vc)
     have oz:=low_set ou (p:=⟨w1.heap.size,12,none⟩) (Nat.le_refl _) (.slice va vl vc)
     obtain⟨lb4,cb4,fb4⟩:=ER.get
     obtain⟨lk4,ck4,fk4⟩:=KG.get
     have hs5:(w4.setCell ⟨w1.heap.size,12,none⟩ (.slice va vl vc)).heap.size=w4.heap.size:=by simp[World.setCell]
     clear lb cb fb d1 f1 d2 f2 K1 K2 ib ih io hg4 iG ER wU KH o4 ou dB hs4
     go_wp2_with (at_builtin;refine uT _ rfl _ _ rfl (w1.heap.size+2) _ _ (ku x true k) [(3,A3)] rfl rfl (wV.tr ?e0) (jC _ ((3:Nat),(A3:Nat)) _ rfl _ ?e9) ?e1 ?e2 ?e3)
     case e0=>exact bm
     case e1=>have:=Wi.out;first|omega|(simp;omega)
     case e2=>first|omega|(simp[World.setCell];omega)
     case e9=>first|rfl|simp[World.setCell]
     case e3=>
     intro v6 w6 o6 qJ uz
     obtain⟨ua,ul,uc,rfl⟩:=aH o6 bP
     have ES:=bK qJ (KI.alloc _) (λj hj=>by have:=wV.block j hj;omega)
     have wX:=bK qJ (wW.alloc _) (λj hj=>by have:=wV.block j hj;omega)
     have KJ:ak 113 2 CJ w6 (w1.heap.size+2) (.slice va vl vc) _:=ak.row (o5.tr (Below.alloc (Below.refl _ _) (Nat.le_refl _) _)) qJ qH
     have wY:xX (.slice va vl vc) (.slice ua ul uc):=(xX.left qH.sym uz (λj hj=>by have:=o5.lt j hj;simp;omega)).sym
     have oC:Below w1.heap.size w1 w6:=iM (B:=w1.heap.size+2) qJ (low_alloc oz (Nat.le_refl _) _) wV.block (by omega) (Nat.le_refl _)
     have hs6:=qJ.size
     have Wq:w4.heap.size+1<=w6.heap.size:=by simpa [World.setCell]using hs6
     obtain⟨lb6,cb6,fb6⟩:=ES.get
     have hfin:Hid (MV x true w w1 ⟨(a1,n1,c1),(a2,n2,c2),(a3,n3,c3)⟩ (.slice (some ⟨gb,go,none⟩) N gc) (.slice qa (bI x).length qc) (k+1) (.slice va vl vc) (.slice ua ul uc) (w6.setCell ⟨w1.heap.size,13,none⟩ (.slice ua ul uc))):=Lib.hid (by
      refine⟨?_,?_,?_,?_,wY,low_set oC (Nat.le_refl _) _,by simp[World.setCell];omega⟩
      ·exact ES.set 13 (.slice ua ul uc)
      ·have:=wX.other (p:=⟨w1.heap.size,13,none⟩) (by simp) (.slice ua ul uc)
       rw[yx.out,Ag.out,uY.out,vw.out]
       simpa using this
      ·rw[KE.out,EO.out]
       exact ak.aU KJ (show w1.heap.size<w1.heap.size+2 by omega) _
      ·rw[KF.out,EP.out]
       exact ak.aU o6 (show w1.heap.size<w1.heap.size+2 by omega) _)
     clear ES wX KJ wY oC o6 qJ uz KI wW wV o5 oz KG qH IG KE KF EO EP yx Ag uY vw
     go_wp2_with fail
     exact⟨⟨k+1,_,_,by omega,by go_num,by rw[EN.out];simp,hfin⟩,by simp[intOf];omega⟩
   ·cases hf:Uj x k with
    |true=>
     replace hO:opt x true k=4:=by unfold opt;rw[hK,hf];rfl
     have EL:Hid (∀W,Below w.heap.size w W->Calls Tryz.prog 57 #[.agg #[.slice a1 n1 c1,.slice a2 n2 c2,.slice a3 n3 c3,.int .u64 x.base,.int .i64 x.dR,.int .i64 x.scan,.int .i64 x.tt],.int .i64 k,.bool _] W λe w'=>e=.returned (.tuple #[.int .i64 2,.bool (true)])/\Below W.heap.size W w'):=Lib.hid λW hb=>by
      have:=hcl.out W k (by omega) hb
      rw[hK]at this
      try rw[hf]at this
      exact this
     have hbw:Below w.heap.size w wr:=by exact bm
     have kx:=KX.tr dB
     obtain⟨lx,cx,fx⟩:=kx.get
     go_wp2_with fail
     refine(EL.out _ ?_).mono ?_
     ·exact bm
     rintro e w2 ⟨rfl,k2⟩
     replace ib:=ib.tr k2
     replace inn:=inn.tr k2
     replace ih:=ih.tr k2
     replace io:=io.tr k2
     replace hc0:=ah k2 hc0
     replace hc1:=ah k2 hc1
     have hs2:=k2.size
     replace dB:=au dB k2
     obtain⟨lb,cb,fb⟩:=ib.get
     obtain⟨ln,cn,fn⟩:=inn.get
     clear EL hbw kx lx cx fx k2 hI
     go_upto_region 8 with(fail)
     go_quiet (fail)
     have kq:Below w2.heap.size w2 (w2.drewN nq):=below_drewN (Below.refl _ _) nq
     replace ib:=ib.tr kq
     replace inn:=inn.tr kq
     replace ih:=ih.tr kq
     replace io:=io.tr kq
     replace dB:=au dB kq
     have hsq:=kq.size
     clear lb cb fb ln cn fn kq
     generalize w2.drewN nq=W2 at*
     obtain⟨lb,cb,fb⟩:=ib.get
     obtain⟨ln,cn,fn⟩:=inn.get
     have hisz:w1.heap.size+2<=W2.heap.size:=by omega
     have hKr:Hid (∀j,hv.ownBlock=some j->j<W2.heap.size):=Lib.hid λj hj=>ih.lt j hj
     have EN:Hid (hof x true 0 (k+1)=hof x true 0 k+if hpt x true k=0 then 1+iF x k else 0):=rfl
     have yx:Hid (hof x true 1 (k+1)=hof x true 1 k+if hpt x true k=1 then 1+iF x k else 0):=rfl
     have Ag:Hid (hof x true 2 (k+1)=hof x true 2 k+if hpt x true k=2 then 1+iF x k else 0):=rfl
     have uY:Hid (aY x true 3 (k+1)=aY x true 3 k+if opt x true k=3 then 1+iF x k else 0):=rfl
     have vw:Hid (aY x true 4 (k+1)=aY x true 4 k+if opt x true k=4 then 1+iF x k else 0):=rfl
     have hm0:=IE.out 0 k (by omega)
     have hm1:=IE.out 1 k (by omega)
     have hm2:=IE.out 2 k (by omega)
     have JI:=SQ.out 3 k (by omega)
     have hm4:=SQ.out 4 k (by omega)
     have SX:=HHL.out
     have hol:=HOL.out
     have EO:Hid (uZ x true k=(hpt x true k,if hpt x true k=0 then 0 else hof x true (hpt x true k) k)):=rfl
     have EP:Hid (Aj x true k=(opt x true k,if opt x true k=0 then 0 else aY x true (opt x true k) k)):=rfl
     have KE:=Lib.hid (ny x true k)
     have KF:=Lib.hid (pU x true k)
     have Wh:Hid ((iP x true k).length=k):=Lib.hid (by unfold iP;simp)
     have Wi:Hid ((ku x true k).length=k):=Lib.hid (by unfold ku;simp)
     rw[hH]at EN yx Ag EO
     rw[hO]at uY vw EP
     rw[<-HZ.out]at EN yx Ag uY vw
     have hb0:hof x true 0 k<=90:=by omega
     have hb1:hof x true 1 k<=90:=by omega
     have hb2:hof x true 2 k<=90:=by omega
     have hb3:aY x true 3 k<=90:=by omega
     have hb4:aY x true 4 k<=90:=by omega
     clear hm0 hm1 hm2 JI hm4 SX hol
     generalize hof x true 0 k=A0 at*
     generalize hof x true 1 k=A1 at*
     generalize hof x true 2 k=A2 at*
     generalize aY x true 3 k=A3 at*
     generalize aY x true 4 k=A4 at*
     have hz0:IntKind.i64.wrap ((A0:Int)+(Z:Int))=(A0:Int)+(Z:Int):=IntWalk.i64_in _ (by omega)
     have hz1:IntKind.i64.wrap ((A1:Int)+(Z:Int))=(A1:Int)+(Z:Int):=IntWalk.i64_in _ (by omega)
     have hz2:IntKind.i64.wrap ((A2:Int)+(Z:Int))=(A2:Int)+(Z:Int):=IntWalk.i64_in _ (by omega)
     have hz3:IntKind.i64.wrap ((A3:Int)+(Z:Int))=(A3:Int)+(Z:Int):=IntWalk.i64_in _ (by omega)
     have Wj:IntKind.i64.wrap ((A4:Int)+(Z:Int))=(A4:Int)+(Z:Int):=IntWalk.i64_in _ (by omega)
     go_upto_region 21 with(fail)
     have hSP:SP (W2.setCell ⟨w1.heap.size+1,4,none⟩ (.int .i64 ((A4:Int)+(Z:Int)))) w1 _ _ _ _ _ _ W2.heap.size:=(SP.set ⟨ib,inn,ih,io,dB,rfl⟩ 4 _)
     clear ib inn ih io dB lb cb fb ln cn fn
     generalize(W2.setCell ⟨w1.heap.size+1,4,none⟩ (.int .i64 ((A4:Int)+(Z:Int))))=Wn at*
     obtain⟨ib,inn,ih,io,dB,qG⟩:=hSP
     generalize W2.heap.size=S at*
     have K1:aj ((Wn.alloc (.cells #[.int .i64 0,.int .i64 0] 113)).alloc (.cells #[.int .i64 4,.int .i64 A4] 113)) S #[.int .i64 0,.int .i64 0] 113:=(aj.mk qG.symm).alloc _
     have K2:aj ((Wn.alloc (.cells #[.int .i64 0,.int .i64 0] 113)).alloc (.cells #[.int .i64 4,.int .i64 A4] 113)) (S+1) #[.int .i64 4,.int .i64 A4] 113:=aj.mk (by simp[qG])
     have kA:Below Wn.heap.size Wn ((Wn.alloc (.cells #[.int .i64 0,.int .i64 0] 113)).alloc (.cells #[.int .i64 4,.int .i64 A4] 113)):=by exact bm
     replace ib:=ib.tr kA
     replace inn:=inn.tr kA
     replace ih:=ih.tr kA
     replace io:=io.tr kA
     replace dB:=au dB kA
     have hs3:=kA.size
     clear kA qG
     generalize(Wn.alloc (.cells #[.int .i64 0,.int .i64 0] 113)).alloc (.cells #[.int .i64 4,.int .i64 A4] 113)=W3 at*
     obtain⟨lb,cb,fb⟩:=ib.get
     obtain⟨l1,d1,f1⟩:=K1.get
     obtain⟨l2,d2,f2⟩:=K2.get
     obtain⟨hva,hvl,Fh,rfl⟩:=aH ih bP
     obtain⟨xZ,l9,x9,rfl⟩:=aH io bP
     have hS3:w1.heap.size+2<=W3.heap.size:=by omega
     go_wp2_with (at_builtin;refine uT _ rfl _ _ rfl (w1.heap.size+2) _ _ (iP x true k) [(0,0)] rfl rfl (ih.tr ?e0) (jC _ ((0:Nat),(0:Nat)) _ rfl _ rfl) ?e1 ?e2 ?e3)
     case e0=>exact bm
     case e1=>have:=Wh.out;first|omega|(simp;omega)
     case e2=>first|omega|(simp;omega)
     case e3=>
     intro v4 w4 o4 hg4 iG
     obtain⟨va,vl,vc,rfl⟩:=aH o4 bP
     have ER:=bK hg4 (ib.alloc _) (λj hj=>by have:=ih.block j hj;omega)
     have wU:=bK hg4 (inn.alloc _) (λj hj=>by have:=ih.block j hj;omega)
     have KG:=bK hg4 (K2.alloc _) (λj hj=>by have:=ih.lt j hj;have:=hKr.out j hj;omega)
     have KH:ak 113 2 CJ w4 (w1.heap.size+2) (.slice xZ l9 x9) (ku x true k):=ak.row (io.tr (Below.alloc (Below.refl _ _) (Nat.le_refl _) _)) hg4 IG.sym
     have qH:xX (.slice va vl vc) (.slice xZ l9 x9):=xX.left IG iG (λj hj=>by have:=io.lt j hj;simp;omega)
     have ou:Below w1.heap.size w1 w4:=iM (B:=w1.heap.size+2) hg4 (low_alloc dB (Nat.le_refl _) _) ih.block (by omega) (Nat.le_refl _)
     have hs4:=hg4.size
     have Wp:W3.heap.size+1<=w4.heap.size:=by simpa using hs4
     have wV:=ak.aU KH (p:=⟨w1.heap.size,12,none⟩) (show w1.heap.size<w1.heap.size+2 by omega) (.slice va vl vc)
     have o5:=ak.aU o4 (p:=⟨w1.heap.size,12,none⟩) (show w1.heap.size<w1.heap.size+2 by omega) (.slice va vl vc)
     have KI:=ER.set 12 (.slice va vl vc)
     have wW:=wU.other (p:=⟨w1.heap.size,12,none⟩) (by simp) (.slice va vl vc)
     have oz:=low_set ou (p:=⟨w1.heap.size,12,none⟩) (Nat.le_refl _) (.slice va vl vc)
     obtain⟨lb4,cb4,fb4⟩:=ER.get
     obtain⟨lk4,ck4,fk4⟩:=KG.get
     have hs5:(w4.setCell ⟨w1.heap.size,12,none⟩ (.slice va vl vc)).heap.size=w4.heap.size:=by simp[World.setCell]
     clear lb cb fb d1 f1 d2 f2 K1 K2 ib ih io hg4 iG ER wU KH o4 ou dB hs4
     go_wp2_with (at_builtin;refine uT _ rfl _ _ rfl (w1.heap.size+2) _ _ (ku x true k) [(4,A4)] rfl rfl (wV.tr ?e0) (jC _ ((4:Nat),(A4:Nat)) _ rfl _ ?e9) ?e1 ?e2 ?e3)
     case e0=>exact bm
     case e1=>have:=Wi.out;first|omega|(simp;omega)
     case e2=>first|omega|(simp[World.setCell];omega)
     case e9=>first|rfl|simp[World.setCell]
     case e3=>
     intro v6 w6 o6 qJ uz
     obtain⟨ua,ul,uc,rfl⟩:=aH o6 bP
     have ES:=bK qJ (KI.alloc _) (λj hj=>by have:=wV.block j hj;omega)
     have wX:=bK qJ (wW.alloc _) (λj hj=>by have:=wV.block j hj;omega)
     have KJ:ak 113 2 CJ w6 (w1.heap.size+2) (.slice va vl vc) _:=ak.row (o5.tr (Below.alloc (Below.refl _ _) (Nat.le_refl _) _)) qJ qH
     have wY:xX (.slice va vl vc) (.slice ua ul uc):=(xX.left qH.sym uz (λj hj=>by have:=o5.lt j hj;simp;omega)).sym
     have oC:Below w1.heap.size w1 w6:=iM (B:=w1.heap.size+2) qJ (low_alloc oz (Nat.le_refl _) _) wV.block (by omega) (Nat.le_refl _)
     have hs6:=qJ.size
     have Wq:w4.heap.size+1<=w6.heap.size:=by simpa [World.setCell]using hs6
     obtain⟨lb6,cb6,fb6⟩:=ES.get
     have hfin:Hid (MV x true w w1 ⟨(a1,n1,c1),(a2,n2,c2),(a3,n3,c3)⟩ (.slice (some ⟨gb,go,none⟩) N gc) (.slice qa (bI x).length qc) (k+1) (.slice va vl vc) (.slice ua ul uc) (w6.setCell ⟨w1.heap.size,13,none⟩ (.slice ua ul uc))):=Lib.hid (by
      refine⟨?_,?_,?_,?_,wY,low_set oC (Nat.le_refl _) _,by simp[World.setCell];omega⟩
      ·exact ES.set 13 (.slice ua ul uc)
      ·have:=wX.other (p:=⟨w1.heap.size,13,none⟩) (by simp) (.slice ua ul uc)
       rw[yx.out,Ag.out,uY.out,vw.out]
       simpa using this
      ·rw[KE.out,EO.out]
       exact ak.aU KJ (show w1.heap.size<w1.heap.size+2 by omega) _
      ·rw[KF.out,EP.out]
       exact ak.aU o6 (show w1.heap.size<w1.heap.size+2 by omega) _)
     clear ES wX KJ wY oC o6 qJ uz KI wW wV o5 oz KG qH IG KE KF EO EP yx Ag uY vw
     go_wp2_with fail
     exact⟨⟨k+1,_,_,by omega,by go_num,by rw[EN.out];simp,hfin⟩,by simp[intOf];omega⟩
    |false=>
     replace hO:opt x true k=3:=by unfold opt;rw[hK,hf];rfl
     have EL:Hid (∀W,Below w.heap.size w W->Calls Tryz.prog 57 #[.agg #[.slice a1 n1 c1,.slice a2 n2 c2,.slice a3 n3 c3,.int .u64 x.base,.int .i64 x.dR,.int .i64 x.scan,.int .i64 x.tt],.int .i64 k,.bool _] W λe w'=>e=.returned (.tuple #[.int .i64 2,.bool (false)])/\Below W.heap.size W w'):=Lib.hid λW hb=>by
      have:=hcl.out W k (by omega) hb
      rw[hK]at this
      try rw[hf]at this
      exact this
     have hbw:Below w.heap.size w wr:=by exact bm
     have kx:=KX.tr dB
     obtain⟨lx,cx,fx⟩:=kx.get
     go_wp2_with fail
     refine(EL.out _ ?_).mono ?_
     ·exact bm
     rintro e w2 ⟨rfl,k2⟩
     replace ib:=ib.tr k2
     replace inn:=inn.tr k2
     replace ih:=ih.tr k2
     replace io:=io.tr k2
     replace hc0:=ah k2 hc0
     replace hc1:=ah k2 hc1
     have hs2:=k2.size
     replace dB:=au dB k2
     obtain⟨lb,cb,fb⟩:=ib.get
     obtain⟨ln,cn,fn⟩:=inn.get
     clear EL hbw kx lx cx fx k2 hI
     go_upto_region 8 with(fail)
     go_quiet (fail)
     have kq:Below w2.heap.size w2 (w2.drewN nq):=below_drewN (Below.refl _ _) nq
     replace ib:=ib.tr kq
     replace inn:=inn.tr kq
     replace ih:=ih.tr kq
     replace io:=io.tr kq
     replace dB:=au dB kq
     have hsq:=kq.size
     clear lb cb fb ln cn fn kq
     generalize w2.drewN nq=W2 at*
     obtain⟨lb,cb,fb⟩:=ib.get
     obtain⟨ln,cn,fn⟩:=inn.get
     have hisz:w1.heap.size+2<=W2.heap.size:=by omega
     have hKr:Hid (∀j,hv.ownBlock=some j->j<W2.heap.size):=Lib.hid λj hj=>ih.lt j hj
     have EN:Hid (hof x true 0 (k+1)=hof x true 0 k+if hpt x true k=0 then 1+iF x k else 0):=rfl
     have yx:Hid (hof x true 1 (k+1)=hof x true 1 k+if hpt x true k=1 then 1+iF x k else 0):=rfl
     have Ag:Hid (hof x true 2 (k+1)=hof x true 2 k+if hpt x true k=2 then 1+iF x k else 0):=rfl
     have uY:Hid (aY x true 3 (k+1)=aY x true 3 k+if opt x true k=3 then 1+iF x k else 0):=rfl
     have vw:Hid (aY x true 4 (k+1)=aY x true 4 k+if opt x true k=4 then 1+iF x k else 0):=rfl
     have hm0:=IE.out 0 k (by omega)
     have hm1:=IE.out 1 k (by omega)
     have hm2:=IE.out 2 k (by omega)
     have JI:=SQ.out 3 k (by omega)
     have hm4:=SQ.out 4 k (by omega)
     have SX:=HHL.out
     have hol:=HOL.out
     have EO:Hid (uZ x true k=(hpt x true k,if hpt x true k=0 then 0 else hof x true (hpt x true k) k)):=rfl
     have EP:Hid (Aj x true k=(opt x true k,if opt x true k=0 then 0 else aY x true (opt x true k) k)):=rfl
     have KE:=Lib.hid (ny x true k)
     have KF:=Lib.hid (pU x true k)
     have Wh:Hid ((iP x true k).length=k):=Lib.hid (by unfold iP;simp)
     have Wi:Hid ((ku x true k).length=k):=Lib.hid (by unfold ku;simp)
     rw[hH]at EN yx Ag EO
     rw[hO]at uY vw EP
     rw[<-HZ.out]at EN yx Ag uY vw
     have hb0:hof x true 0 k<=90:=by omega
     have hb1:hof x true 1 k<=90:=by omega
     have hb2:hof x true 2 k<=90:=by omega
     have hb3:aY x true 3 k<=90:=by omega
     have hb4:aY x true 4 k<=90:=by omega
     clear hm0 hm1 hm2 JI hm4 SX hol
     generalize hof x true 0 k=A0 at*
     generalize hof x true 1 k=A1 at*
     generalize hof x true 2 k=A2 at*
     generalize aY x true 3 k=A3 at*
     generalize aY x true 4 k=A4 at*
     have hz0:IntKind.i64.wrap ((A0:Int)+(Z:Int))=(A0:Int)+(Z:Int):=IntWalk.i64_in _ (by omega)
     have hz1:IntKind.i64.wrap ((A1:Int)+(Z:Int))=(A1:Int)+(Z:Int):=IntWalk.i64_in _ (by omega)
     have hz2:IntKind.i64.wrap ((A2:Int)+(Z:Int))=(A2:Int)+(Z:Int):=IntWalk.i64_in _ (by omega)
     have hz3:IntKind.i64.wrap ((A3:Int)+(Z:Int))=(A3:Int)+(Z:Int):=IntWalk.i64_in _ (by omega)
     have Wj:IntKind.i64.wrap ((A4:Int)+(Z:Int))=(A4:Int)+(Z:Int):=IntWalk.i64_in _ (by omega)
     go_upto_region 21 with(fail)
     have hSP:SP (W2.setCell ⟨w1.heap.size+1,3,none⟩ (.int .i64 ((A3:Int)+(Z:Int)))) w1 _ _ _ _ _ _ W2.heap.size:=(SP.set ⟨ib,inn,ih,io,dB,rfl⟩ 3 _)
     clear ib inn ih io dB lb cb fb ln cn fn
     generalize(W2.setCell ⟨w1.heap.size+1,3,none⟩ (.int .i64 ((A3:Int)+(Z:Int))))=Wn at*
     obtain⟨ib,inn,ih,io,dB,qG⟩:=hSP
     generalize W2.heap.size=S at*
     have K1:aj ((Wn.alloc (.cells #[.int .i64 0,.int .i64 0] 113)).alloc (.cells #[.int .i64 3,.int .i64 A3] 113)) S #[.int .i64 0,.int .i64 0] 113:=(aj.mk qG.symm).alloc _
     have K2:aj ((Wn.alloc (.cells #[.int .i64 0,.int .i64 0] 113)).alloc (.cells #[.int .i64 3,.int .i64 A3] 113)) (S+1) #[.int .i64 3,.int .i64 A3] 113:=aj.mk (by simp[qG])
     have kA:Below Wn.heap.size Wn ((Wn.alloc (.cells #[.int .i64 0,.int .i64 0] 113)).alloc (.cells #[.int .i64 3,.int .i64 A3] 113)):=by exact bm
     replace ib:=ib.tr kA
     replace inn:=inn.tr kA
     replace ih:=ih.tr kA
     replace io:=io.tr kA
     replace dB:=au dB kA
     have hs3:=kA.size
     clear kA qG
     generalize(Wn.alloc (.cells #[.int .i64 0,.int .i64 0] 113)).alloc (.cells #[.int .i64 3,.int .i64 A3] 113)=W3 at*
     obtain⟨lb,cb,fb⟩:=ib.get
     obtain⟨l1,d1,f1⟩:=K1.get
     obtain⟨l2,d2,f2⟩:=K2.get
     obtain⟨hva,hvl,Fh,rfl⟩:=aH ih bP
     obtain⟨xZ,l9,x9,rfl⟩:=aH io bP
     have hS3:w1.heap.size+2<=W3.heap.size:=by omega
     go_wp2_with (at_builtin;refine uT _ rfl _ _ rfl (w1.heap.size+2) _ _ (iP x true k) [(0,0)] rfl rfl (ih.tr ?e0) (jC _ ((0:Nat),(0:Nat)) _ rfl _ rfl) ?e1 ?e2 ?e3)
     case e0=>exact bm
     case e1=>have:=Wh.out;first|omega|(simp;omega)
     case e2=>first|omega|(simp;omega)
     case e3=>
     intro v4 w4 o4 hg4 iG
     obtain⟨va,vl,vc,rfl⟩:=aH o4 bP
     have ER:=bK hg4 (ib.alloc _) (λj hj=>by have:=ih.block j hj;omega)
     have wU:=bK hg4 (inn.alloc _) (λj hj=>by have:=ih.block j hj;omega)
     have KG:=bK hg4 (K2.alloc _) (λj hj=>by have:=ih.lt j hj;have:=hKr.out j hj;omega)
     have KH:ak 113 2 CJ w4 (w1.heap.size+2) (.slice xZ l9 x9) (ku x true k):=ak.row (io.tr (Below.alloc (Below.refl _ _) (Nat.le_refl _) _)) hg4 IG.sym
     have qH:xX (.slice va vl vc) (.slice xZ l9 x9):=xX.left IG iG (λj hj=>by have:=io.lt j hj;simp;omega)
     have ou:Below w1.heap.size w1 w4:=iM (B:=w1.heap.size+2) hg4 (low_alloc dB (Nat.le_refl _) _) ih.block (by omega) (Nat.le_refl _)
     have hs4:=hg4.size
     have Wp:W3.heap.size+1<=w4.heap.size:=by simpa using hs4
     have wV:=ak.aU KH (p:=⟨w1.heap.size,12,none⟩) (show w1.heap.size<w1.heap.size+2 by omega) (.slice va vl vc)
     have o5:=ak.aU o4 (p:=⟨w1.heap.size,12,none⟩) (show w1.heap.size<w1.heap.size+2 by omega) (.slice va vl vc)
     have KI:=ER.set 12 (.slice va vl vc)
     have wW:=wU.other (p:=⟨w1.heap.size,12,none⟩) (by simp) (.slice va vl vc)
     have oz:=low_set ou (p:=⟨w1.heap.size,12,none⟩) (Nat.le_refl _) (.slice va vl vc)
     obtain⟨lb4,cb4,fb4⟩:=ER.get
     obtain⟨lk4,ck4,fk4⟩:=KG.get
     have hs5:(w4.setCell ⟨w1.heap.size,12,none⟩ (.slice va vl vc)).heap.size=w4.heap.size:=by simp[World.setCell]
     clear lb cb fb d1 f1 d2 f2 K1 K2 ib ih io hg4 iG ER wU KH o4 ou dB hs4
     go_wp2_with (at_builtin;refine uT _ rfl _ _ rfl (w1.heap.size+2) _ _ (ku x true k) [(3,A3)] rfl rfl (wV.tr ?e0) (jC _ ((3:Nat),(A3:Nat)) _ rfl _ ?e9) ?e1 ?e2 ?e3)
     case e0=>exact bm
     case e1=>have:=Wi.out;first|omega|(simp;omega)
     case e2=>first|omega|(simp[World.setCell];omega)
     case e9=>first|rfl|simp[World.setCell]
     case e3=>
     intro v6 w6 o6 qJ uz
     obtain⟨ua,ul,uc,rfl⟩:=aH o6 bP
     have ES:=bK qJ (KI.alloc _) (λj hj=>by have:=wV.block j hj;omega)
     have wX:=bK qJ (wW.alloc _) (λj hj=>by have:=wV.block j hj;omega)
     have KJ:ak 113 2 CJ w6 (w1.heap.size+2) (.slice va vl vc) _:=ak.row (o5.tr (Below.alloc (Below.refl _ _) (Nat.le_refl _) _)) qJ qH
     have wY:xX (.slice va vl vc) (.slice ua ul uc):=(xX.left qH.sym uz (λj hj=>by have:=o5.lt j hj;simp;omega)).sym
     have oC:Below w1.heap.size w1 w6:=iM (B:=w1.heap.size+2) qJ (low_alloc oz (Nat.le_refl _) _) wV.block (by omega) (Nat.le_refl _)
     have hs6:=qJ.size
     have Wq:w4.heap.size+1<=w6.heap.size:=by simpa [World.setCell]using hs6
     obtain⟨lb6,cb6,fb6⟩:=ES.get
     have hfin:Hid (MV x true w w1 ⟨(a1,n1,c1),(a2,n2,c2),(a3,n3,c3)⟩ (.slice (some ⟨gb,go,none⟩) N gc) (.slice qa (bI x).length qc) (k+1) (.slice va vl vc) (.slice ua ul uc) (w6.setCell ⟨w1.heap.size,13,none⟩ (.slice ua ul uc))):=Lib.hid (by
      refine⟨?_,?_,?_,?_,wY,low_set oC (Nat.le_refl _) _,by simp[World.setCell];omega⟩
      ·exact ES.set 13 (.slice ua ul uc)
      ·have:=wX.other (p:=⟨w1.heap.size,13,none⟩) (by simp) (.slice ua ul uc)
       rw[yx.out,Ag.out,uY.out,vw.out]
       simpa using this
      ·rw[KE.out,EO.out]
       exact ak.aU KJ (show w1.heap.size<w1.heap.size+2 by omega) _
      ·rw[KF.out,EP.out]
       exact ak.aU o6 (show w1.heap.size<w1.heap.size+2 by omega) _)
     clear ES wX KJ wY oC o6 qJ uz KI wW wV o5 oz KG qH IG KE KF EO EP yx Ag uY vw
     go_wp2_with fail
     exact⟨⟨k+1,_,_,by omega,by go_num,by rw[EN.out];simp,hfin⟩,by simp[intOf];omega⟩
  ·obtain rfl:k=N:=by omega
   obtain⟨hva,hvl,Fh,rfl⟩:=aH ih bP
   obtain⟨xZ,l9,x9,rfl⟩:=aH io bP
   have SX:=HHL.out
   have hol:=HOL.out
   have HIH:=Lib.hid (ih.sees bP)
   have HIO:=Lib.hid (io.sees bP)
   have hbx:=KX.tr dB
   have HXS:=Lib.hid HXI.out.num
   obtain⟨hsl1,hsl2⟩:=HXS.out.dR
   obtain⟨hsc1,hsc2⟩:=HXS.out.scan
   obtain⟨ahS,ahT⟩:=HXS.out.tt
   have XY:Hid (∀W,Calls Tryz.prog 23 #[.int .i64 x.tt,.int .i64 2] W λe w'=>e=.returned (.int .i64 (aC x.tt 2))/\W=w'):=Lib.hid λW=>iE _ 2 W (by decide) (by decide) ahS ahT
   have HPS:Hid (∀W,Calls Tryz.prog 23 #[.int .i64 x.dR,.int .i64 12] W λe w'=>e=.returned (.int .i64 (aC x.dR 12))/\W=w'):=Lib.hid λW=>iE _ 12 W (by decide) (by decide) hsl1 hsl2
   have ael:=λW=>Ic (hof x c 1 k) W (by omega)
   have aem:=λW=>Ic (hof x c 2 k) W (by omega)
   have aen:=λW=>Ic (aY x c 3 k) W (by omega)
   have aeo:=λW=>Ic (aY x c 4 k) W (by omega)
   obtain⟨lx,cx,fx⟩:=hbx.get
   obtain⟨lb,cb,fb⟩:=ib.get
   obtain⟨ln,cn,fn⟩:=inn.get
   clear hI
   go_upto_region 23 with(fail)
   refine wp_region_held_drew (S:=(λw'=>(∀i,w'.cell? ⟨w.heap.size,i,none⟩= #[Value.slice a1 n1 c1,.slice a2 n2 c2,.slice a3 n3 c3,.int .u64 x.base,.int .i64 x.dR,.int .i64 x.scan,.int .i64 x.tt][i]?)/\(∀i,w'.cell? ⟨w1.heap.size+1,i,none⟩= #[Value.int .i64 0,.int .i64 (hof x c 1 k),.int .i64 (hof x c 2 k),.int .i64 (aY x c 3 k),.int .i64 (aY x c 4 k)][i]?))) (by kernel_rfl) ?_ (λhHeld=> ?_)
   ·(try dsimp only);refine kN (W:=wr) ?_ lx ln cx cn;exact bm
   refine tk 0 ?_
   refine tk 1 ?_
   refine tk 3 ?_
   refine tk 4 ?_
   refine tk 5 ?_
   refine tk 7 ?_
   refine tk 8 ?_
   refine tk 10 ?_
   refine tk 11 ?_
   refine tk 13 ?_
   refine tk 14 ?_
   refine five.agS (i1:=2) (i2:=6) (i3:=9) (i4:=12) (i5:=15) (d1:=109) (d2:=113) (d3:=116) (d4:=119) (d5:=122) (f:=3)
    (λo1 o2 o3 o4 o5 w'=>Below wr.heap.size wr w'/\(∀v,o1=some v->v=.int .i64 (aC x.tt 2))/\(∀v,o2=some v->ZW w.heap.size w' (hof x c 1 k) v)/\(∀v,o3=some v->ZW w.heap.size w' (hof x c 2 k) v)/\(∀v,o4=some v->ZW w.heap.size w' (aY x c 3 k) v)/\(∀v,o5=some v->ZW w.heap.size w' (aY x c 4 k) v))
    (by decide) (by decide) ?_ ?_ ?_ ?_ ?_ ?_ ?_ hHeld ⟨by exact bm,(λv h=>by cases h),(λv h=>by cases h),(λv h=>by cases h),(λv h=>by cases h),(λv h=>by cases h)⟩
   ·intro o1 o2 o3 o4 o5 hc
    cases o1<;>cases o2<;>cases o3<;>cases o4<;>cases o5
    all_goals first
     |(exfalso;simp[five.cnt]at hc;done)
     |kernel_rfl
   ·intro o2 o3 o4 o5 W hG
    obtain⟨BJ,Ws,S9,Tc,Td,Tf⟩:=hG
    refine five.XQ (o:={dst:=some 109,op:=.call {callee:=.value (.func 23),args:= #[.tmp 108,.const (.int .i64 2)],argTypes:= #[3,3]},type:=3,pos:= "law.go:85",after:= #[{on:=1,ground:=Ground.data}],guard:=none}) rfl rfl (f:=23) (args:= #[.int .i64 x.tt,.int .i64 2]) (v:=.int .i64 (aC x.tt 2)) ?_ (XY.out W) ⟨_,rfl,kN (W:=wr) BJ lx ln cx cn,BJ,(λv hv=>by cases hv;rfl),S9,Tc,Td,Tf⟩
    have ev:∀a0:Act,a0.eval (.tmp 108)=.int .i64 x.tt->Act.eval (five.A5 109 113 116 119 122 a0 none o2 o3 o4 o5) (.tmp 108)=.int .i64 x.tt:=λa0 h=>by
     unfold five.A5
     repeat rw[five.zU (by decide)]
     exact h
    simp only[execOp,resolve,invoke,Sem.run_bind,Sem.run_pure,Result.andThen_ok,List.map_toArray,List.map_cons,List.map_nil]
    rw[ev]
    ·rfl
    ·rfl
   ·intro o1 o3 o4 o5 W hG
    obtain⟨BJ,Ws,S9,Tc,Td,Tf⟩:=hG
    have kW:Below W.heap.size W (W.alloc (.cells (jK (hof x c 1 k)) 24)):=by exact bm
    have ev:∀a0:Act,a0.eval (.tmp 112)=.int .i64 (hof x c 1 k)->Act.eval (five.A5 109 113 116 119 122 a0 o1 none o3 o4 o5) (.tmp 112)=.int .i64 (hof x c 1 k):=λa0 h=>by
     unfold five.A5
     repeat rw[five.zU (by decide)]
     exact h
    refine five.zW rfl rfl (v:=.slice (some ⟨W.heap.size,0,none⟩) (hof x c 1 k) (hof x c 1 k)) (w':=W.alloc (.cells (jK (hof x c 1 k)) 24)) ?_ ⟨_,rfl,?_,?_⟩
    ·refine five.run_make (ev _ rfl) ?_
     exact ael W
    ·have kk:=au BJ kW
     refine kN (W:=wr) kk lx ln cx cn
    ·refine⟨au BJ kW,Ws,?_,?_,?_,?_⟩
     all_goals
      intro v hv
      first
       |(cases hv;exact⟨_,rfl,aj.new _ _ _,by have:=BJ.size;omega⟩)
       |exact(S9 v hv).tr kW
       |exact(Tc v hv).tr kW
       |exact(Td v hv).tr kW
       |exact(Tf v hv).tr kW
   ·intro o1 o2 o4 o5 W hG
    obtain⟨BJ,Ws,S9,Tc,Td,Tf⟩:=hG
    have kW:Below W.heap.size W (W.alloc (.cells (jK (hof x c 2 k)) 24)):=by exact bm
    have ev:∀a0:Act,a0.eval (.tmp 115)=.int .i64 (hof x c 2 k)->Act.eval (five.A5 109 113 116 119 122 a0 o1 o2 none o4 o5) (.tmp 115)=.int .i64 (hof x c 2 k):=λa0 h=>by
     unfold five.A5
     repeat rw[five.zU (by decide)]
     exact h
    refine five.zW rfl rfl (v:=.slice (some ⟨W.heap.size,0,none⟩) (hof x c 2 k) (hof x c 2 k)) (w':=W.alloc (.cells (jK (hof x c 2 k)) 24)) ?_ ⟨_,rfl,?_,?_⟩
    ·refine five.run_make (ev _ rfl) ?_
     exact aem W
    ·have kk:=au BJ kW
     refine kN (W:=wr) kk lx ln cx cn
    ·refine⟨au BJ kW,Ws,?_,?_,?_,?_⟩
     all_goals
      intro v hv
      first
       |(cases hv;exact⟨_,rfl,aj.new _ _ _,by have:=BJ.size;omega⟩)
       |exact(S9 v hv).tr kW
       |exact(Tc v hv).tr kW
       |exact(Td v hv).tr kW
       |exact(Tf v hv).tr kW
   ·intro o1 o2 o3 o5 W hG
    obtain⟨BJ,Ws,S9,Tc,Td,Tf⟩:=hG
    have kW:Below W.heap.size W (W.alloc (.cells (jK (aY x c 3 k)) 24)):=by exact bm
    have ev:∀a0:Act,a0.eval (.tmp 118)=.int .i64 (aY x c 3 k)->Act.eval (five.A5 109 113 116 119 122 a0 o1 o2 o3 none o5) (.tmp 118)=.int .i64 (aY x c 3 k):=λa0 h=>by
     unfold five.A5
     repeat rw[five.zU (by decide)]
     exact h
    refine five.zW rfl rfl (v:=.slice (some ⟨W.heap.size,0,none⟩) (aY x c 3 k) (aY x c 3 k)) (w':=W.alloc (.cells (jK (aY x c 3 k)) 24)) ?_ ⟨_,rfl,?_,?_⟩
    ·refine five.run_make (ev _ rfl) ?_
     exact aen W
    ·have kk:=au BJ kW
     refine kN (W:=wr) kk lx ln cx cn
    ·refine⟨au BJ kW,Ws,?_,?_,?_,?_⟩
     all_goals
      intro v hv
      first
       |(cases hv;exact⟨_,rfl,aj.new _ _ _,by have:=BJ.size;omega⟩)
       |exact(S9 v hv).tr kW
       |exact(Tc v hv).tr kW
       |exact(Td v hv).tr kW
       |exact(Tf v hv).tr kW
   ·intro o1 o2 o3 o4 W hG
    obtain⟨BJ,Ws,S9,Tc,Td,Tf⟩:=hG
    have kW:Below W.heap.size W (W.alloc (.cells (jK (aY x c 4 k)) 24)):=by exact bm
    have ev:∀a0:Act,a0.eval (.tmp 121)=.int .i64 (aY x c 4 k)->Act.eval (five.A5 109 113 116 119 122 a0 o1 o2 o3 o4 none) (.tmp 121)=.int .i64 (aY x c 4 k):=λa0 h=>by
     unfold five.A5
     repeat rw[five.zU (by decide)]
     exact h
    refine five.zW rfl rfl (v:=.slice (some ⟨W.heap.size,0,none⟩) (aY x c 4 k) (aY x c 4 k)) (w':=W.alloc (.cells (jK (aY x c 4 k)) 24)) ?_ ⟨_,rfl,?_,?_⟩
    ·refine five.run_make (ev _ rfl) ?_
     exact aeo W
    ·have kk:=au BJ kW
     refine kN (W:=wr) kk lx ln cx cn
    ·refine⟨au BJ kW,Ws,?_,?_,?_,?_⟩
     all_goals
      intro v hv
      first
       |(cases hv;exact⟨_,rfl,aj.new _ _ _,by have:=BJ.size;omega⟩)
       |exact(S9 v hv).tr kW
       |exact(Tc v hv).tr kW
       |exact(Td v hv).tr kW
       |exact(Tf v hv).tr kW
   ·intro v1 v2 v3 v4 v5 W3 hHeld hG
    obtain⟨BJ,Ws,S9,Tc,Td,Tf⟩:=hG
    obtain rfl:=Ws v1 rfl
    obtain⟨z1,rfl,yg,abq⟩:=S9 v2 rfl
    obtain⟨z2,rfl,yh,abr⟩:=Tc v3 rfl
    obtain⟨z3,rfl,yj,abt⟩:=Td v4 rfl
    obtain⟨z4,rfl,yt,abu⟩:=Tf v5 rfl
    have HCX:=Lib.hid (And.intro cx cn)
    clear Ws S9 Tc Td Tf ael aem aen aeo hcl hg XY cb cn cx fb fx
    simp only[five.A5,five.L5,five.pO,five.lO,Act.put,List.setIfInBounds_toArray,List.set_cons_zero,List.set_cons_succ]
    refine tk 16 ?_
    refine tk 17 ?_
    have tu:=ib.tr BJ
    have BK:=inn.tr BJ
    have RS:=hbx.tr BJ
    have bel3:=au dB BJ
    have ih3:=ih.tr BJ
    have Ah:=io.tr BJ
    obtain⟨lb3,cb3,fb3⟩:=tu.get
    have hS0:=Lib.hid (kN (W:=wr) BJ lx ln HCX.out.1 HCX.out.2)
    have Wu:w.heap.size≠w1.heap.size:=by omega
    have Wv:w1.heap.size+1≠w1.heap.size:=by omega
    have Fj:w1.heap.size<w1.heap.size+2:=by omega
    have RU:w.heap.size+1<w1.heap.size+2:=by omega
    refine co 18 λK hK=> ?_
    go_simp
    skip
    refine hK.out _ _ ?_ (λhHeld=> ?_)
    ·(try dsimp only);(repeat(first|with_reducible exact hS0.out|with_reducible refine wu ?_ Wu Wv _))
    clear hK K
    refine nx ?_
    refine wpAnyH_done (by kernel_rfl) ?_ _
    have hz1:=kC yg tu (by decide)
    have hz2:=kC yh tu (by decide)
    have hz3:=kC yj tu (by decide)
    have Wj:=kC yt tu (by decide)
    clear lb3 cb3 fb3 hHeld HCX hS0 BJ hbx ib inn dB lx lb ln fn ih io
    obtain⟨LV,lH⟩:∃L:List (Nat×Value),L=[(0,Value.int .u64 0),(1,.int .i64 0),(2,.int .i64 (aC x.tt 2)),(3,.bool c),(4,.int .i64 0),(5,.slice (some ⟨z1,0,none⟩) (hof x c 1 k) (hof x c 1 k)),(6,.slice (some ⟨z2,0,none⟩) (hof x c 2 k) (hof x c 2 k)),(7,.slice (some ⟨z3,0,none⟩) (aY x c 3 k) (aY x c 3 k)),(8,.slice (some ⟨z4,0,none⟩) (aY x c 4 k) (aY x c 4 k)),(9,.slice none 0 0)]:=⟨_,rfl⟩
    have hW:((((((((((W3.setCell ⟨w1.heap.size,0,none⟩ (.int .u64 0)).setCell ⟨w1.heap.size,1,none⟩ (.int .i64 0)).setCell ⟨w1.heap.size,2,none⟩ (.int .i64 (aC x.tt 2))).setCell ⟨w1.heap.size,3,none⟩ (.bool c)).setCell ⟨w1.heap.size,4,none⟩ (.int .i64 0)).setCell ⟨w1.heap.size,5,none⟩ (.slice (some ⟨z1,0,none⟩) (hof x c 1 k) (hof x c 1 k))).setCell ⟨w1.heap.size,6,none⟩ (.slice (some ⟨z2,0,none⟩) (hof x c 2 k) (hof x c 2 k))).setCell ⟨w1.heap.size,7,none⟩ (.slice (some ⟨z3,0,none⟩) (aY x c 3 k) (aY x c 3 k))).setCell ⟨w1.heap.size,8,none⟩ (.slice (some ⟨z4,0,none⟩) (aY x c 4 k) (aY x c 4 k))).setCell ⟨w1.heap.size,9,none⟩ (.slice none 0 0))=bU W3 (w1.heap.size) LV:=by rw[lH];simp only[bU]
    replace tu:=aj.bU (L:=LV) tu
    replace BK:=aj.dQ (L:=LV) BK Wv
    replace RS:=aj.dQ (L:=LV) RS Wu
    replace yg:=aj.dQ (L:=LV) yg hz1
    replace yh:=aj.dQ (L:=LV) yh hz2
    replace yj:=aj.dQ (L:=LV) yj hz3
    replace yt:=aj.dQ (L:=LV) yt Wj
    replace ih3:=ak.dQ (L:=LV) ih3 Fj
    replace Ah:=ak.dQ (L:=LV) Ah Fj
    replace bel3:=fQ (L:=LV) bel3 (Nat.le_refl _)
    rw[<-hW]at tu BK RS yg yh yj yt ih3 Ah bel3
    clear hW
    generalize((((((((((W3.setCell ⟨w1.heap.size,0,none⟩ (.int .u64 0)).setCell ⟨w1.heap.size,1,none⟩ (.int .i64 0)).setCell ⟨w1.heap.size,2,none⟩ (.int .i64 (aC x.tt 2))).setCell ⟨w1.heap.size,3,none⟩ (.bool c)).setCell ⟨w1.heap.size,4,none⟩ (.int .i64 0)).setCell ⟨w1.heap.size,5,none⟩ (.slice (some ⟨z1,0,none⟩) (hof x c 1 k) (hof x c 1 k))).setCell ⟨w1.heap.size,6,none⟩ (.slice (some ⟨z2,0,none⟩) (hof x c 2 k) (hof x c 2 k))).setCell ⟨w1.heap.size,7,none⟩ (.slice (some ⟨z3,0,none⟩) (aY x c 3 k) (aY x c 3 k))).setCell ⟨w1.heap.size,8,none⟩ (.slice (some ⟨z4,0,none⟩) (aY x c 4 k) (aY x c 4 k))).setCell ⟨w1.heap.size,9,none⟩ (.slice none 0 0))=W4 at*
    rw[lH]at tu
    simp only[rJ,List.setIfInBounds_toArray,List.set_cons_zero,List.set_cons_succ]at tu
    clear lH
    obtain⟨lx,cx,fx⟩:=RS.get
    obtain⟨lb,cb,fb⟩:=tu.get
    obtain⟨ln,cn,fn⟩:=BK.get
    have hcap:(dP x c:Int)=(if((hof x c 1 k+hof x c 2 k+hof x c 0 k:Nat):Int)<((aY x c 3 k+aY x c 4 k:Nat):Int)then((aY x c 3 k+aY x c 4 k:Nat):Int)else((hof x c 1 k+hof x c 2 k+hof x c 0 k:Nat):Int))+aC x.dR 12:=by
     have:=dw x.dR (n:=12) (by decide)
     unfold dP
     rw[hNe]
     split<;>omega
    have aep:=dw x.dR (n:=12) (by decide)
    have hw1:IntKind.i64.wrap ((hof x c 1 k:Int)+(hof x c 2 k:Int))=(hof x c 1 k:Int)+(hof x c 2 k:Int):=IntWalk.i64_in _ (by omega)
    have hw2:IntKind.i64.wrap ((hof x c 1 k:Int)+(hof x c 2 k:Int)+(hof x c 0 k:Int))=(hof x c 1 k:Int)+(hof x c 2 k:Int)+(hof x c 0 k:Int):=IntWalk.i64_in _ (by omega)
    have hw3:IntKind.i64.wrap ((aY x c 3 k:Int)+(aY x c 4 k:Int))=(aY x c 3 k:Int)+(aY x c 4 k:Int):=IntWalk.i64_in _ (by omega)
    have HCAP:=Lib.hid hcap
    have ahV:=Lib.hid aep
    clear hcap aep
    generalize aC x.dR 12=SL at*
    obtain⟨MX,hMX⟩:∃M:Int,(if(hof x c 1 k:Int)+(hof x c 2 k:Int)+(hof x c 0 k:Int)<(aY x c 3 k:Int)+(aY x c 4 k:Int)then(aY x c 3 k:Int)+(aY x c 4 k:Int)else(hof x c 1 k:Int)+(hof x c 2 k:Int)+(hof x c 0 k:Int))=M:=⟨_,rfl⟩
    have hwc:IntKind.i64.wrap (MX+SL)=(dP x c:Int):=by
     have h1:=ahV.out
     have h2:=HCAP.out
     simp only[Int.natCast_add]at h2
     have h3: -1<=MX/\MX<=1000:=by rw[<-hMX];split<;>omega
     rw[IntWalk.i64_in _ (by omega),h2,<-hMX]
    have HMX:=Lib.hid hMX
    go_upto_region 24 with(fail)
    go_region_held3 (λw'=>(∀i,w'.cell? ⟨w.heap.size,i,none⟩= #[Value.slice a1 n1 c1,.slice a2 n2 c2,.slice a3 n3 c3,.int .u64 x.base,.int .i64 x.dR,.int .i64 x.scan,.int .i64 x.tt][i]?)/\(∀i,w'.cell? ⟨w1.heap.size+1,i,none⟩= #[Value.int .i64 0,.int .i64 (hof x c 1 k),.int .i64 (hof x c 2 k),.int .i64 (aY x c 3 k),.int .i64 (aY x c 4 k)][i]?))
      (first|(with_reducible refine Ib (wu ?_ Wu Wv _);refine kN (W:=W4) ?_ lx ln cx cn;exact bm)|(with_reducible refine wu ?_ Wu Wv _;refine kN (W:=W4) ?_ lx ln cx cn;exact bm)|(refine kN (W:=W4) ?_ lx ln cx cn;exact bm))
      (first|(go_at_call 23;refine(HPS.out _).mono ?_;rintro e w5 ⟨rfl,rfl⟩))
    all_goals
     have aob:=Ul x c
     clear lx cx fx lb cb fb ln cn fn HMX hwc HPS
     obtain⟨LV,lH⟩:∃L:List (Nat×Value),L=[(1,Value.int .i64 (dP x c:Int))]:=⟨_,rfl⟩
     have hW:(W4.setCell ⟨w1.heap.size,1,none⟩ (.int .i64 (dP x c:Int)))=bU W4 (w1.heap.size) LV:=by rw[lH];simp only[bU]
     replace tu:=aj.bU (L:=LV) tu
     replace BK:=aj.dQ (L:=LV) BK Wv
     replace RS:=aj.dQ (L:=LV) RS Wu
     replace yg:=aj.dQ (L:=LV) yg hz1
     replace yh:=aj.dQ (L:=LV) yh hz2
     replace yj:=aj.dQ (L:=LV) yj hz3
     replace yt:=aj.dQ (L:=LV) yt Wj
     replace ih3:=ak.dQ (L:=LV) ih3 Fj
     replace Ah:=ak.dQ (L:=LV) Ah Fj
     replace bel3:=fQ (L:=LV) bel3 (Nat.le_refl _)
     rw[<-hW]at tu BK RS yg yh yj yt ih3 Ah bel3
     clear hW
     generalize(W4.setCell ⟨w1.heap.size,1,none⟩ (.int .i64 (dP x c:Int)))=W4b at*
     rw[lH]at tu
     simp only[rJ,List.setIfInBounds_toArray,List.set_cons_zero,List.set_cons_succ]at tu
     clear lH
     replace tu:=tu.drew
     replace BK:=BK.drew
     replace RS:=RS.drew
     replace yg:=yg.drew
     replace yh:=yh.drew
     replace yj:=yj.drew
     replace yt:=yt.drew
     replace ih3:=ak.tr ih3 (kP (Below.refl _ _))
     replace Ah:=ak.tr Ah (kP (Below.refl _ _))
     replace bel3:=aI bel3
     generalize W4b.drew=W5 at*
     have HRR:aj W5 (w.heap.size+1) _ 64:=KR.tr bel3
     unfold Et at HRR
     obtain⟨lx,cx,fx⟩:=RS.get
     obtain⟨lb,cb,fb⟩:=tu.get
     obtain⟨ln,cn,fn⟩:=BK.get
     obtain⟨ahX,aod⟩:=HXI.out.ok.base
     have u1:IntKind.u64.wrap (dP x c:Int)=(dP x c:Int):=IntWalk.u64_in _ (by omega)
     have u2:IntKind.u64.wrap (2*(dP x c:Int))=2*(dP x c:Int):=IntWalk.u64_in _ (by omega)
     have u3:IntKind.u64.wrap (9223372036854775808-2*(dP x c:Int))=9223372036854775808-2*(dP x c:Int):=IntWalk.u64_in _ (by omega)
     have hmd:=Int.emod_nonneg x.base (b:=9223372036854775808-2*(dP x c:Int)) (by omega)
     have aoe:=Int.emod_lt_of_pos x.base (b:=9223372036854775808-2*(dP x c:Int)) (by omega)
     have u4:x.base.tmod (9223372036854775808-2*(dP x c:Int))=x.base%(9223372036854775808-2*(dP x c:Int)):=Int.tmod_eq_emod_of_nonneg ahX
     have u6:IntKind.u64.wrap (x.base%(9223372036854775808-2*(dP x c:Int)))=x.base%(9223372036854775808-2*(dP x c:Int)):=IntWalk.u64_in _ (by omega)
     have u5:IntKind.u64.wrap (1+x.base%(9223372036854775808-2*(dP x c:Int)))=1+x.base%(9223372036854775808-2*(dP x c:Int)):=IntWalk.u64_in _ (by omega)
     have u0:((9223372036854775808-2*(dP x c:Int))==0)=false:=by rw[beq_eq_false_iff_ne];omega
     have hrx:w.heap.size+1≠w1.heap.size:=by omega
     have h1w:Below w.heap.size w w1:=by exact bm
     have hsf:w.heap.size+1<=w.heap.size+1+1+1:=by omega
     cases c with
     |false=>
      have Wx:(iU x false:Int)=hof x false 1 k:=by unfold iU;rw[if_neg (by simp),hNe]
      go_upto_region 29 with(fail)
      clear lx cx fx lb cb fb ln cn fn BK RS
      obtain⟨LV,lH⟩:∃L:List (Nat×Value),L=[(0,Value.int .u64 (1+x.base%(9223372036854775808-2*(dP x false:Int)))),(4,.int .i64 (hof x false 1 k))]:=⟨_,rfl⟩
      have hW:((W5.setCell ⟨w1.heap.size,0,none⟩ (.int .u64 (1+x.base%(9223372036854775808-2*(dP x false:Int))))).setCell ⟨w1.heap.size,4,none⟩ (.int .i64 (hof x false 1 k)))=bU W5 (w1.heap.size) LV:=by rw[lH];simp only[bU]
      replace tu:=aj.bU (L:=LV) tu
      replace HRR:=aj.dQ (L:=LV) HRR hrx
      replace yg:=aj.dQ (L:=LV) yg hz1
      replace yh:=aj.dQ (L:=LV) yh hz2
      replace yj:=aj.dQ (L:=LV) yj hz3
      replace yt:=aj.dQ (L:=LV) yt Wj
      replace ih3:=ak.dQ (L:=LV) ih3 Fj
      replace Ah:=ak.dQ (L:=LV) Ah Fj
      replace bel3:=fQ (L:=LV) bel3 (Nat.le_refl _)
      rw[<-hW]at tu HRR yg yh yj yt ih3 Ah bel3
      clear hW
      generalize((W5.setCell ⟨w1.heap.size,0,none⟩ (.int .u64 (1+x.base%(9223372036854775808-2*(dP x false:Int))))).setCell ⟨w1.heap.size,4,none⟩ (.int .i64 (hof x false 1 k)))=W6 at*
      rw[lH]at tu
      simp only[rJ,List.setIfInBounds_toArray,List.set_cons_zero,List.set_cons_succ]at tu
      clear lH
      obtain⟨lb,cb,fb⟩:=tu.get
      obtain⟨lr,cr,fr⟩:=HRR.get
      go_wp2_with fail
      have hq1:=kC yg HRR (by decide)
      have hq2:=kC yh HRR (by decide)
      have hq3:=kC yj HRR (by decide)
      have hq4:=kC yt HRR (by decide)
      have Ph:=Safe.tr HGS.out bel3
      have y7:=Safe.tr ZM.out bel3
      have ET:Below w.heap.size w W6:=Below.trans h1w (bel3.mono h1w.size)
      clear lb cb fb lr cr fr tu bel3
      obtain⟨LV,lH⟩:∃L:List (Nat×Value),L=[(0,Value.int .u64 (1+x.base%(9223372036854775808-2*(dP x false:Int)))),(1,.int .i64 (dP x false:Int)),(2,.int .i64 (aC x.tt 2)),(3,.bool false),(4,.int .i64 (hof x false 1 k)),(5,.slice (some ⟨z1,0,none⟩) (hof x false 1 k) (hof x false 1 k)),(6,.slice (some ⟨z2,0,none⟩) (hof x false 2 k) (hof x false 2 k)),(7,.slice (some ⟨z3,0,none⟩) (aY x false 3 k) (aY x false 3 k)),(8,.slice (some ⟨z4,0,none⟩) (aY x false 4 k) (aY x false 4 k)),(9,.slice none 0 0),(10,.slice ga k gc),(11,.slice qa (bI x).length qc),(12,.slice hva hvl Fh),(13,.slice xZ l9 x9)]:=⟨_,rfl⟩
      have hW:((((((((((((((W6.setCell ⟨w.heap.size+1,0,none⟩ (.int .u64 (1+x.base%(9223372036854775808-2*(dP x false:Int))))).setCell ⟨w.heap.size+1,1,none⟩ (.int .i64 (dP x false:Int))).setCell ⟨w.heap.size+1,2,none⟩ (.int .i64 (aC x.tt 2))).setCell ⟨w.heap.size+1,3,none⟩ (.bool false)).setCell ⟨w.heap.size+1,4,none⟩ (.int .i64 (hof x false 1 k))).setCell ⟨w.heap.size+1,5,none⟩ (.slice (some ⟨z1,0,none⟩) (hof x false 1 k) (hof x false 1 k))).setCell ⟨w.heap.size+1,6,none⟩ (.slice (some ⟨z2,0,none⟩) (hof x false 2 k) (hof x false 2 k))).setCell ⟨w.heap.size+1,7,none⟩ (.slice (some ⟨z3,0,none⟩) (aY x false 3 k) (aY x false 3 k))).setCell ⟨w.heap.size+1,8,none⟩ (.slice (some ⟨z4,0,none⟩) (aY x false 4 k) (aY x false 4 k))).setCell ⟨w.heap.size+1,9,none⟩ (.slice none 0 0)).setCell ⟨w.heap.size+1,10,none⟩ (.slice ga k gc)).setCell ⟨w.heap.size+1,11,none⟩ (.slice qa (bI x).length qc)).setCell ⟨w.heap.size+1,12,none⟩ (.slice hva hvl Fh)).setCell ⟨w.heap.size+1,13,none⟩ (.slice xZ l9 x9))=bU W6 (w.heap.size+1) LV:=by rw[lH];simp only[bU]
      replace HRR:=aj.bU (L:=LV) HRR
      replace yg:=aj.dQ (L:=LV) yg hq1
      replace yh:=aj.dQ (L:=LV) yh hq2
      replace yj:=aj.dQ (L:=LV) yj hq3
      replace yt:=aj.dQ (L:=LV) yt hq4
      replace ih3:=ak.dQ (L:=LV) ih3 RU
      replace Ah:=ak.dQ (L:=LV) Ah RU
      replace Ph:=Safe.bU (L:=LV) (b:=w.heap.size+1) Ph (by first|(simp;done)|(simp;omega))
      replace y7:=Safe.bU (L:=LV) (b:=w.heap.size+1) y7 (by first|(simp;done)|(simp;omega))
      replace ET:=fQ (L:=LV) ET (Nat.le_succ _)
      rw[<-hW]at HRR yg yh yj yt ih3 Ah Ph y7 ET
      clear hW
      generalize((((((((((((((W6.setCell ⟨w.heap.size+1,0,none⟩ (.int .u64 (1+x.base%(9223372036854775808-2*(dP x false:Int))))).setCell ⟨w.heap.size+1,1,none⟩ (.int .i64 (dP x false:Int))).setCell ⟨w.heap.size+1,2,none⟩ (.int .i64 (aC x.tt 2))).setCell ⟨w.heap.size+1,3,none⟩ (.bool false)).setCell ⟨w.heap.size+1,4,none⟩ (.int .i64 (hof x false 1 k))).setCell ⟨w.heap.size+1,5,none⟩ (.slice (some ⟨z1,0,none⟩) (hof x false 1 k) (hof x false 1 k))).setCell ⟨w.heap.size+1,6,none⟩ (.slice (some ⟨z2,0,none⟩) (hof x false 2 k) (hof x false 2 k))).setCell ⟨w.heap.size+1,7,none⟩ (.slice (some ⟨z3,0,none⟩) (aY x false 3 k) (aY x false 3 k))).setCell ⟨w.heap.size+1,8,none⟩ (.slice (some ⟨z4,0,none⟩) (aY x false 4 k) (aY x false 4 k))).setCell ⟨w.heap.size+1,9,none⟩ (.slice none 0 0)).setCell ⟨w.heap.size+1,10,none⟩ (.slice ga k gc)).setCell ⟨w.heap.size+1,11,none⟩ (.slice qa (bI x).length qc)).setCell ⟨w.heap.size+1,12,none⟩ (.slice hva hvl Fh)).setCell ⟨w.heap.size+1,13,none⟩ (.slice xZ l9 x9))=W7 at*
      rw[lH]at HRR
      simp only[rJ,List.setIfInBounds_toArray,List.set_cons_zero,List.set_cons_succ]at HRR
      clear lH
      obtain⟨lr,cr,fr⟩:=HRR.get
      refine bodyPost_ret (v:=.agg #[Value.int .u64 (1+x.base%(9223372036854775808-2*(dP x false:Int))),.int .i64 (dP x false:Int),.int .i64 (aC x.tt 2),.bool false,.int .i64 (hof x false 1 k),.slice (some ⟨z1,0,none⟩) (hof x false 1 k) (hof x false 1 k),.slice (some ⟨z2,0,none⟩) (hof x false 2 k) (hof x false 2 k),.slice (some ⟨z3,0,none⟩) (aY x false 3 k) (aY x false 3 k),.slice (some ⟨z4,0,none⟩) (aY x false 4 k) (aY x false 4 k),.slice none 0 0,.slice ga k gc,.slice qa (bI x).length qc,.slice hva hvl Fh,.slice xZ l9 x9]) (by simp only[results,Tryz.results21];go_simp) rfl ?_
      unfold EM
      refine⟨⟨⟨(.slice (some ⟨z1,0,none⟩) (hof x false 1 k) (hof x false 1 k)),(.slice (some ⟨z2,0,none⟩) (hof x false 2 k) (hof x false 2 k)),(.slice (some ⟨z3,0,none⟩) (aY x false 3 k) (aY x false 3 k)),(.slice (some ⟨z4,0,none⟩) (aY x false 4 k) (aY x false 4 k)),(.slice none 0 0)⟩,(ga,k,gc),(qa,(bI x).length,qc),(hva,hvl,Fh),(xZ,l9,x9),?_,λW8 hs8 CB=>⟨⟨yP x _,rfl,?_,?_,?_⟩,sU Ph (by first|(simp;done)|(simp;omega)) W8 hs8 CB,sU y7 (by first|(simp;done)|(simp;omega)) W8 hs8 CB,?_,?_,?_,?_,rfl⟩⟩,ET⟩
      ·unfold dA jg aO dW
       dsimp only
       rw[Wx]
       try rfl
      ·exact⟨⟨some ⟨z1,0,none⟩,hof x false 1 k,by simp only[aO,List.length_replicate,hNe]⟩,⟨some ⟨z2,0,none⟩,hof x false 2 k,by simp only[aO,List.length_replicate,hNe]⟩,⟨some ⟨z3,0,none⟩,aY x false 3 k,by simp only[aO,List.length_replicate,hNe]⟩,⟨some ⟨z4,0,none⟩,aY x false 4 k,by simp only[aO,List.length_replicate,hNe]⟩,⟨_,_,_,rfl⟩⟩
      ·rw[hNe]
       exact nR bP (n:=0) (m:=w.heap.size) ih3 (by omega) W8 hs8 CB
      ·rw[hNe]
       exact nR bP (n:=0) (m:=w.heap.size) Ah (by omega) W8 hs8 CB
      ·simp only[aO,hNe]
       exact oK yg (by omega) abq W8 hs8 CB
      ·simp only[aO,hNe]
       exact oK yh (by omega) abr W8 hs8 CB
      ·simp only[aO,hNe]
       exact oK yj (by omega) abt W8 hs8 CB
      ·simp only[aO,hNe]
       exact oK yt (by omega) abu W8 hs8 CB
     |true=>
      obtain⟨hsc1,hsc2⟩:=HXS.out.scan
      by_cases hn0:hof x true 1 k=0
      ·have hn1:¬((hof x true 1 k:Int)>0):=by omega
       have Wx:(iU x true:Int)=hof x true 1 k:=by unfold iU;rw[hNe,if_neg (by omega)]
       clear hn0
       go_upto_region 29 with(fail)
       clear lx cx fx lb cb fb ln cn fn BK RS
       obtain⟨LV,lH⟩:∃L:List (Nat×Value),L=[(0,Value.int .u64 (1+x.base%(9223372036854775808-2*(dP x true:Int)))),(4,.int .i64 (hof x true 1 k))]:=⟨_,rfl⟩
       have hW:((W5.setCell ⟨w1.heap.size,0,none⟩ (.int .u64 (1+x.base%(9223372036854775808-2*(dP x true:Int))))).setCell ⟨w1.heap.size,4,none⟩ (.int .i64 (hof x true 1 k)))=bU W5 (w1.heap.size) LV:=by rw[lH];simp only[bU]
       replace tu:=aj.bU (L:=LV) tu
       replace HRR:=aj.dQ (L:=LV) HRR hrx
       replace yg:=aj.dQ (L:=LV) yg hz1
       replace yh:=aj.dQ (L:=LV) yh hz2
       replace yj:=aj.dQ (L:=LV) yj hz3
       replace yt:=aj.dQ (L:=LV) yt Wj
       replace ih3:=ak.dQ (L:=LV) ih3 Fj
       replace Ah:=ak.dQ (L:=LV) Ah Fj
       replace bel3:=fQ (L:=LV) bel3 (Nat.le_refl _)
       rw[<-hW]at tu HRR yg yh yj yt ih3 Ah bel3
       clear hW
       generalize((W5.setCell ⟨w1.heap.size,0,none⟩ (.int .u64 (1+x.base%(9223372036854775808-2*(dP x true:Int))))).setCell ⟨w1.heap.size,4,none⟩ (.int .i64 (hof x true 1 k)))=W6 at*
       rw[lH]at tu
       simp only[rJ,List.setIfInBounds_toArray,List.set_cons_zero,List.set_cons_succ]at tu
       clear lH
       obtain⟨lb,cb,fb⟩:=tu.get
       obtain⟨lr,cr,fr⟩:=HRR.get
       go_wp2_with fail
       have hq1:=kC yg HRR (by decide)
       have hq2:=kC yh HRR (by decide)
       have hq3:=kC yj HRR (by decide)
       have hq4:=kC yt HRR (by decide)
       have Ph:=Safe.tr HGS.out bel3
       have y7:=Safe.tr ZM.out bel3
       have ET:Below w.heap.size w W6:=Below.trans h1w (bel3.mono h1w.size)
       clear lb cb fb lr cr fr tu bel3
       obtain⟨LV,lH⟩:∃L:List (Nat×Value),L=[(0,Value.int .u64 (1+x.base%(9223372036854775808-2*(dP x true:Int)))),(1,.int .i64 (dP x true:Int)),(2,.int .i64 (aC x.tt 2)),(3,.bool true),(4,.int .i64 (hof x true 1 k)),(5,.slice (some ⟨z1,0,none⟩) (hof x true 1 k) (hof x true 1 k)),(6,.slice (some ⟨z2,0,none⟩) (hof x true 2 k) (hof x true 2 k)),(7,.slice (some ⟨z3,0,none⟩) (aY x true 3 k) (aY x true 3 k)),(8,.slice (some ⟨z4,0,none⟩) (aY x true 4 k) (aY x true 4 k)),(9,.slice none 0 0),(10,.slice ga k gc),(11,.slice qa (bI x).length qc),(12,.slice hva hvl Fh),(13,.slice xZ l9 x9)]:=⟨_,rfl⟩
       have hW:((((((((((((((W6.setCell ⟨w.heap.size+1,0,none⟩ (.int .u64 (1+x.base%(9223372036854775808-2*(dP x true:Int))))).setCell ⟨w.heap.size+1,1,none⟩ (.int .i64 (dP x true:Int))).setCell ⟨w.heap.size+1,2,none⟩ (.int .i64 (aC x.tt 2))).setCell ⟨w.heap.size+1,3,none⟩ (.bool true)).setCell ⟨w.heap.size+1,4,none⟩ (.int .i64 (hof x true 1 k))).setCell ⟨w.heap.size+1,5,none⟩ (.slice (some ⟨z1,0,none⟩) (hof x true 1 k) (hof x true 1 k))).setCell ⟨w.heap.size+1,6,none⟩ (.slice (some ⟨z2,0,none⟩) (hof x true 2 k) (hof x true 2 k))).setCell ⟨w.heap.size+1,7,none⟩ (.slice (some ⟨z3,0,none⟩) (aY x true 3 k) (aY x true 3 k))).setCell ⟨w.heap.size+1,8,none⟩ (.slice (some ⟨z4,0,none⟩) (aY x true 4 k) (aY x true 4 k))).setCell ⟨w.heap.size+1,9,none⟩ (.slice none 0 0)).setCell ⟨w.heap.size+1,10,none⟩ (.slice ga k gc)).setCell ⟨w.heap.size+1,11,none⟩ (.slice qa (bI x).length qc)).setCell ⟨w.heap.size+1,12,none⟩ (.slice hva hvl Fh)).setCell ⟨w.heap.size+1,13,none⟩ (.slice xZ l9 x9))=bU W6 (w.heap.size+1) LV:=by rw[lH];simp only[bU]
       replace HRR:=aj.bU (L:=LV) HRR
       replace yg:=aj.dQ (L:=LV) yg hq1
       replace yh:=aj.dQ (L:=LV) yh hq2
       replace yj:=aj.dQ (L:=LV) yj hq3
       replace yt:=aj.dQ (L:=LV) yt hq4
       replace ih3:=ak.dQ (L:=LV) ih3 RU
       replace Ah:=ak.dQ (L:=LV) Ah RU
       replace Ph:=Safe.bU (L:=LV) (b:=w.heap.size+1) Ph (by first|(simp;done)|(simp;omega))
       replace y7:=Safe.bU (L:=LV) (b:=w.heap.size+1) y7 (by first|(simp;done)|(simp;omega))
       replace ET:=fQ (L:=LV) ET (Nat.le_succ _)
       rw[<-hW]at HRR yg yh yj yt ih3 Ah Ph y7 ET
       clear hW
       generalize((((((((((((((W6.setCell ⟨w.heap.size+1,0,none⟩ (.int .u64 (1+x.base%(9223372036854775808-2*(dP x true:Int))))).setCell ⟨w.heap.size+1,1,none⟩ (.int .i64 (dP x true:Int))).setCell ⟨w.heap.size+1,2,none⟩ (.int .i64 (aC x.tt 2))).setCell ⟨w.heap.size+1,3,none⟩ (.bool true)).setCell ⟨w.heap.size+1,4,none⟩ (.int .i64 (hof x true 1 k))).setCell ⟨w.heap.size+1,5,none⟩ (.slice (some ⟨z1,0,none⟩) (hof x true 1 k) (hof x true 1 k))).setCell ⟨w.heap.size+1,6,none⟩ (.slice (some ⟨z2,0,none⟩) (hof x true 2 k) (hof x true 2 k))).setCell ⟨w.heap.size+1,7,none⟩ (.slice (some ⟨z3,0,none⟩) (aY x true 3 k) (aY x true 3 k))).setCell ⟨w.heap.size+1,8,none⟩ (.slice (some ⟨z4,0,none⟩) (aY x true 4 k) (aY x true 4 k))).setCell ⟨w.heap.size+1,9,none⟩ (.slice none 0 0)).setCell ⟨w.heap.size+1,10,none⟩ (.slice ga k gc)).setCell ⟨w.heap.size+1,11,none⟩ (.slice qa (bI x).length qc)).setCell ⟨w.heap.size+1,12,none⟩ (.slice hva hvl Fh)).setCell ⟨w.heap.size+1,13,none⟩ (.slice xZ l9 x9))=W7 at*
       rw[lH]at HRR
       simp only[rJ,List.setIfInBounds_toArray,List.set_cons_zero,List.set_cons_succ]at HRR
       clear lH
       obtain⟨lr,cr,fr⟩:=HRR.get
       refine bodyPost_ret (v:=.agg #[Value.int .u64 (1+x.base%(9223372036854775808-2*(dP x true:Int))),.int .i64 (dP x true:Int),.int .i64 (aC x.tt 2),.bool true,.int .i64 (hof x true 1 k),.slice (some ⟨z1,0,none⟩) (hof x true 1 k) (hof x true 1 k),.slice (some ⟨z2,0,none⟩) (hof x true 2 k) (hof x true 2 k),.slice (some ⟨z3,0,none⟩) (aY x true 3 k) (aY x true 3 k),.slice (some ⟨z4,0,none⟩) (aY x true 4 k) (aY x true 4 k),.slice none 0 0,.slice ga k gc,.slice qa (bI x).length qc,.slice hva hvl Fh,.slice xZ l9 x9]) (by simp only[results,Tryz.results21];go_simp) rfl ?_
       unfold EM
       refine⟨⟨⟨(.slice (some ⟨z1,0,none⟩) (hof x true 1 k) (hof x true 1 k)),(.slice (some ⟨z2,0,none⟩) (hof x true 2 k) (hof x true 2 k)),(.slice (some ⟨z3,0,none⟩) (aY x true 3 k) (aY x true 3 k)),(.slice (some ⟨z4,0,none⟩) (aY x true 4 k) (aY x true 4 k)),(.slice none 0 0)⟩,(ga,k,gc),(qa,(bI x).length,qc),(hva,hvl,Fh),(xZ,l9,x9),?_,λW8 hs8 CB=>⟨⟨yP x _,rfl,?_,?_,?_⟩,sU Ph (by first|(simp;done)|(simp;omega)) W8 hs8 CB,sU y7 (by first|(simp;done)|(simp;omega)) W8 hs8 CB,?_,?_,?_,?_,rfl⟩⟩,ET⟩
       ·unfold dA jg aO dW
        dsimp only
        rw[Wx]
        try rfl
       ·exact⟨⟨some ⟨z1,0,none⟩,hof x true 1 k,by simp only[aO,List.length_replicate,hNe]⟩,⟨some ⟨z2,0,none⟩,hof x true 2 k,by simp only[aO,List.length_replicate,hNe]⟩,⟨some ⟨z3,0,none⟩,aY x true 3 k,by simp only[aO,List.length_replicate,hNe]⟩,⟨some ⟨z4,0,none⟩,aY x true 4 k,by simp only[aO,List.length_replicate,hNe]⟩,⟨_,_,_,rfl⟩⟩
       ·rw[hNe]
        exact nR bP (n:=0) (m:=w.heap.size) ih3 (by omega) W8 hs8 CB
       ·rw[hNe]
        exact nR bP (n:=0) (m:=w.heap.size) Ah (by omega) W8 hs8 CB
       ·simp only[aO,hNe]
        exact oK yg (by omega) abq W8 hs8 CB
       ·simp only[aO,hNe]
        exact oK yh (by omega) abr W8 hs8 CB
       ·simp only[aO,hNe]
        exact oK yj (by omega) abt W8 hs8 CB
       ·simp only[aO,hNe]
        exact oK yt (by omega) abu W8 hs8 CB
      ·have hn1:((hof x true 1 k:Int)>0):=by omega
       have Wx:(iU x true:Int)=aC x.scan (hof x true 1 k:Int):=by
        have:=dw x.scan (n:=(hof x true 1 k:Int)) (by omega)
        unfold iU
        rw[hNe,if_pos ⟨rfl,by omega⟩]
        omega
       go_wp2_with fail
       refine(iE x.scan (hof x true 1 k:Int) _ (by omega) (by omega) hsc1 hsc2).mono ?_;rintro e w6 ⟨rfl,rfl⟩
       generalize aC x.scan (hof x true 1 k:Int)=SCV at*
       go_upto_region 29 with(fail)
       clear lx cx fx lb cb fb ln cn fn BK RS
       obtain⟨LV,lH⟩:∃L:List (Nat×Value),L=[(0,Value.int .u64 (1+x.base%(9223372036854775808-2*(dP x true:Int)))),(4,.int .i64 (hof x true 1 k)),(4,.int .i64 SCV)]:=⟨_,rfl⟩
       have hW:(((W5.setCell ⟨w1.heap.size,0,none⟩ (.int .u64 (1+x.base%(9223372036854775808-2*(dP x true:Int))))).setCell ⟨w1.heap.size,4,none⟩ (.int .i64 (hof x true 1 k))).setCell ⟨w1.heap.size,4,none⟩ (.int .i64 SCV))=bU W5 (w1.heap.size) LV:=by rw[lH];simp only[bU]
       replace tu:=aj.bU (L:=LV) tu
       replace HRR:=aj.dQ (L:=LV) HRR hrx
       replace yg:=aj.dQ (L:=LV) yg hz1
       replace yh:=aj.dQ (L:=LV) yh hz2
       replace yj:=aj.dQ (L:=LV) yj hz3
       replace yt:=aj.dQ (L:=LV) yt Wj
       replace ih3:=ak.dQ (L:=LV) ih3 Fj
       replace Ah:=ak.dQ (L:=LV) Ah Fj
       replace bel3:=fQ (L:=LV) bel3 (Nat.le_refl _)
       rw[<-hW]at tu HRR yg yh yj yt ih3 Ah bel3
       clear hW
       generalize(((W5.setCell ⟨w1.heap.size,0,none⟩ (.int .u64 (1+x.base%(9223372036854775808-2*(dP x true:Int))))).setCell ⟨w1.heap.size,4,none⟩ (.int .i64 (hof x true 1 k))).setCell ⟨w1.heap.size,4,none⟩ (.int .i64 SCV))=W6 at*
       rw[lH]at tu
       simp only[rJ,List.setIfInBounds_toArray,List.set_cons_zero,List.set_cons_succ]at tu
       clear lH
       obtain⟨lb,cb,fb⟩:=tu.get
       obtain⟨lr,cr,fr⟩:=HRR.get
       go_wp2_with fail
       have hq1:=kC yg HRR (by decide)
       have hq2:=kC yh HRR (by decide)
       have hq3:=kC yj HRR (by decide)
       have hq4:=kC yt HRR (by decide)
       have Ph:=Safe.tr HGS.out bel3
       have y7:=Safe.tr ZM.out bel3
       have ET:Below w.heap.size w W6:=Below.trans h1w (bel3.mono h1w.size)
       clear lb cb fb lr cr fr tu bel3
       obtain⟨LV,lH⟩:∃L:List (Nat×Value),L=[(0,Value.int .u64 (1+x.base%(9223372036854775808-2*(dP x true:Int)))),(1,.int .i64 (dP x true:Int)),(2,.int .i64 (aC x.tt 2)),(3,.bool true),(4,.int .i64 SCV),(5,.slice (some ⟨z1,0,none⟩) (hof x true 1 k) (hof x true 1 k)),(6,.slice (some ⟨z2,0,none⟩) (hof x true 2 k) (hof x true 2 k)),(7,.slice (some ⟨z3,0,none⟩) (aY x true 3 k) (aY x true 3 k)),(8,.slice (some ⟨z4,0,none⟩) (aY x true 4 k) (aY x true 4 k)),(9,.slice none 0 0),(10,.slice ga k gc),(11,.slice qa (bI x).length qc),(12,.slice hva hvl Fh),(13,.slice xZ l9 x9)]:=⟨_,rfl⟩
       have hW:((((((((((((((W6.setCell ⟨w.heap.size+1,0,none⟩ (.int .u64 (1+x.base%(9223372036854775808-2*(dP x true:Int))))).setCell ⟨w.heap.size+1,1,none⟩ (.int .i64 (dP x true:Int))).setCell ⟨w.heap.size+1,2,none⟩ (.int .i64 (aC x.tt 2))).setCell ⟨w.heap.size+1,3,none⟩ (.bool true)).setCell ⟨w.heap.size+1,4,none⟩ (.int .i64 SCV)).setCell ⟨w.heap.size+1,5,none⟩ (.slice (some ⟨z1,0,none⟩) (hof x true 1 k) (hof x true 1 k))).setCell ⟨w.heap.size+1,6,none⟩ (.slice (some ⟨z2,0,none⟩) (hof x true 2 k) (hof x true 2 k))).setCell ⟨w.heap.size+1,7,none⟩ (.slice (some ⟨z3,0,none⟩) (aY x true 3 k) (aY x true 3 k))).setCell ⟨w.heap.size+1,8,none⟩ (.slice (some ⟨z4,0,none⟩) (aY x true 4 k) (aY x true 4 k))).setCell ⟨w.heap.size+1,9,none⟩ (.slice none 0 0)).setCell ⟨w.heap.size+1,10,none⟩ (.slice ga k gc)).setCell ⟨w.heap.size+1,11,none⟩ (.slice qa (bI x).length qc)).setCell ⟨w.heap.size+1,12,none⟩ (.slice hva hvl Fh)).setCell ⟨w.heap.size+1,13,none⟩ (.slice xZ l9 x9))=bU W6 (w.heap.size+1) LV:=by rw[lH];simp only[bU]
       replace HRR:=aj.bU (L:=LV) HRR
       replace yg:=aj.dQ (L:=LV) yg hq1
       replace yh:=aj.dQ (L:=LV) yh hq2
       replace yj:=aj.dQ (L:=LV) yj hq3
       replace yt:=aj.dQ (L:=LV) yt hq4
       replace ih3:=ak.dQ (L:=LV) ih3 RU
       replace Ah:=ak.dQ (L:=LV) Ah RU
       replace Ph:=Safe.bU (L:=LV) (b:=w.heap.size+1) Ph (by first|(simp;done)|(simp;omega))
       replace y7:=Safe.bU (L:=LV) (b:=w.heap.size+1) y7 (by first|(simp;done)|(simp;omega))
       replace ET:=fQ (L:=LV) ET (Nat.le_succ _)
       rw[<-hW]at HRR yg yh yj yt ih3 Ah Ph y7 ET
       clear hW
       generalize((((((((((((((W6.setCell ⟨w.heap.size+1,0,none⟩ (.int .u64 (1+x.base%(9223372036854775808-2*(dP x true:Int))))).setCell ⟨w.heap.size+1,1,none⟩ (.int .i64 (dP x true:Int))).setCell ⟨w.heap.size+1,2,none⟩ (.int .i64 (aC x.tt 2))).setCell ⟨w.heap.size+1,3,none⟩ (.bool true)).setCell ⟨w.heap.size+1,4,none⟩ (.int .i64 SCV)).setCell ⟨w.heap.size+1,5,none⟩ (.slice (some ⟨z1,0,none⟩) (hof x true 1 k) (hof x true 1 k))).setCell ⟨w.heap.size+1,6,none⟩ (.slice (some ⟨z2,0,none⟩) (hof x true 2 k) (hof x true 2 k))).setCell ⟨w.heap.size+1,7,none⟩ (.slice (some ⟨z3,0,none⟩) (aY x true 3 k) (aY x true 3 k))).setCell ⟨w.heap.size+1,8,none⟩ (.slice (some ⟨z4,0,none⟩) (aY x true 4 k) (aY x true 4 k))).setCell ⟨w.heap.size+1,9,none⟩ (.slice none 0 0)).setCell ⟨w.heap.size+1,10,none⟩ (.slice ga k gc)).setCell ⟨w.heap.size+1,11,none⟩ (.slice qa (bI x).length qc)).setCell ⟨w.heap.size+1,12,none⟩ (.slice hva hvl Fh)).setCell ⟨w.heap.size+1,13,none⟩ (.slice xZ l9 x9))=W7 at*
       rw[lH]at HRR
       simp only[rJ,List.setIfInBounds_toArray,List.set_cons_zero,List.set_cons_succ]at HRR
       clear lH
       obtain⟨lr,cr,fr⟩:=HRR.get
       refine bodyPost_ret (v:=.agg #[Value.int .u64 (1+x.base%(9223372036854775808-2*(dP x true:Int))),.int .i64 (dP x true:Int),.int .i64 (aC x.tt 2),.bool true,.int .i64 SCV,.slice (some ⟨z1,0,none⟩) (hof x true 1 k) (hof x true 1 k),.slice (some ⟨z2,0,none⟩) (hof x true 2 k) (hof x true 2 k),.slice (some ⟨z3,0,none⟩) (aY x true 3 k) (aY x true 3 k),.slice (some ⟨z4,0,none⟩) (aY x true 4 k) (aY x true 4 k),.slice none 0 0,.slice ga k gc,.slice qa (bI x).length qc,.slice hva hvl Fh,.slice xZ l9 x9]) (by simp only[results,Tryz.results21];go_simp) rfl ?_
       unfold EM
       refine⟨⟨⟨(.slice (some ⟨z1,0,none⟩) (hof x true 1 k) (hof x true 1 k)),(.slice (some ⟨z2,0,none⟩) (hof x true 2 k) (hof x true 2 k)),(.slice (some ⟨z3,0,none⟩) (aY x true 3 k) (aY x true 3 k)),(.slice (some ⟨z4,0,none⟩) (aY x true 4 k) (aY x true 4 k)),(.slice none 0 0)⟩,(ga,k,gc),(qa,(bI x).length,qc),(hva,hvl,Fh),(xZ,l9,x9),?_,λW8 hs8 CB=>⟨⟨yP x _,rfl,?_,?_,?_⟩,sU Ph (by first|(simp;done)|(simp;omega)) W8 hs8 CB,sU y7 (by first|(simp;done)|(simp;omega)) W8 hs8 CB,?_,?_,?_,?_,rfl⟩⟩,ET⟩
       ·unfold dA jg aO dW
        dsimp only
        rw[Wx]
        try rfl
       ·exact⟨⟨some ⟨z1,0,none⟩,hof x true 1 k,by simp only[aO,List.length_replicate,hNe]⟩,⟨some ⟨z2,0,none⟩,hof x true 2 k,by simp only[aO,List.length_replicate,hNe]⟩,⟨some ⟨z3,0,none⟩,aY x true 3 k,by simp only[aO,List.length_replicate,hNe]⟩,⟨some ⟨z4,0,none⟩,aY x true 4 k,by simp only[aO,List.length_replicate,hNe]⟩,⟨_,_,_,rfl⟩⟩
       ·rw[hNe]
        exact nR bP (n:=0) (m:=w.heap.size) ih3 (by omega) W8 hs8 CB
       ·rw[hNe]
        exact nR bP (n:=0) (m:=w.heap.size) Ah (by omega) W8 hs8 CB
       ·simp only[aO,hNe]
        exact oK yg (by omega) abq W8 hs8 CB
       ·simp only[aO,hNe]
        exact oK yh (by omega) abr W8 hs8 CB
       ·simp only[aO,hNe]
        exact oK yj (by omega) abt W8 hs8 CB
       ·simp only[aO,hNe]
        exact oK yt (by omega) abu W8 hs8 CB
end Go.Proofs.YtpgjploaliefdaaGreat.rh
