/- Layer 11's raw heaps: Heap and Still. No conditions. -/
import Derived.Test.YtpgjploaliefdaaGreatTk
import Derived.Test.YtpgjploaliefdaaGreatMt
import Derived.Test.YtpgjploaliefdaaGreatMj
namespace Go.Proofs.YtpgjploaliefdaaGreat.rh
open Go Go.RowKit hp ob hd cp ck gr lx
set_option linter.unusedVariables false
set_option linter.unusedSimpArgs false
set_option maxRecDepth 100000
set_option maxHeartbeats 4000000
theorem abw{W:World}{h:Hp}{v:Hv}(a:kH W h v):∃l h o f r:Sl,v=⟨aS l,aS h,aS o,aS f,aS r⟩:=by
 obtain⟨vl,vh,vo,vf,vr⟩:=v
 obtain⟨_,_,_,_,h1,h2,h3,h4,h5,_,_,_,_,_⟩:=a
 obtain⟨_,_,_,_,e1,_⟩:=(dX h1).form
 obtain⟨_,_,_,_,e2,_⟩:=(dX h2).form
 obtain⟨_,_,_,_,e3,_⟩:=(dX h3).form
 obtain⟨_,_,_,_,e4,_⟩:=(dX h4).form
 obtain⟨_,_,_,_,e5,_⟩:=(dX h5).form
 exact⟨(_,_,_),(_,_,_),(_,_,_),(_,_,_),(_,_,_),by rw[Hv.mk.injEq];exact⟨e1,e2,e3,e4,e5⟩⟩
theorem Off.less{W:World}{n m:Nat}{P:World->Prop}(h:Off W 0 m P)(hn:n<=m):Off W 0 n P:=λW' h1 h2=>h W' h1 λj hj hj2=>h2 j hj (by omega)
def Pj(H:Hp)(n0:Nat)(w:World)(e:Ending)(w':World):Prop:=(∃l h o f r:Sl,e=.returned (fD H ⟨aS l,aS h,aS o,aS f,aS r⟩)/\Off w' 0 n0 λW=>kH W H ⟨aS l,aS h,aS o,aS f,aS r⟩)/\Below w.heap.size w w'
theorem KQ(x:Rh)(c:Bool)(X:Xv)(v:Hv)(gs qs hs os:Sl)(w:World)(n0:Nat)(hn0:n0<=w.heap.size)(hf:Off w 0 n0 λW=>y8 W x c (aO x c) v gs qs hs os)(hx:Qq w X x):
  Calls Tryz.prog 22 #[dA (aO x c) v (aS gs) (aS qs) (aS hs) (aS os),.agg (gG X x)] w λe w'=>Pj (bF x c) n0 w e w':=by
 refine(V6 x c X v gs qs hs os w n0 hn0 hf hx).mono ?_
 rintro e w' ⟨⟨u,rfl,hu⟩,hb⟩
 obtain⟨l,h,o,f,r,rfl⟩:=abw hu.now
 exact⟨⟨l,h,o,f,r,rfl,hu⟩,hb⟩
theorem RX(X:Xv)(x:Rh)(c:Bool)(w:World)(hx:Qq w X x):
  Calls Tryz.prog 21 #[.agg (gG X x),.bool c] w λe w'=>(∃(l3:Nat)(l1:Option Addr)(h o f gs qs hs os:Sl),e=.returned (dA (aO x c) ⟨.slice l1 (hof x c 1 (nN x)) l3,aS h,aS o,aS f,.slice none 0 0⟩ (aS gs) (aS qs) (aS hs) (aS os))/\Off w' 0 w.heap.size λW=>y8 W x c (aO x c) ⟨.slice l1 (hof x c 1 (nN x)) l3,aS h,aS o,aS f,.slice none 0 0⟩ gs qs hs os)/\Below w.heap.size w w':=by
 refine(GI X x c w hx).mono ?_
 rintro e w' ⟨⟨v,gs,qs,hs,os,rfl,hf⟩,hb⟩
 have F:=hf.now
 obtain⟨⟨la,lc,e1⟩,⟨ha,hc,e2⟩,⟨oa,oc,e3⟩,⟨fa,fc,e4⟩,_⟩:=F.bin.hf
 have e5:=F.r
 obtain⟨vl,vh,vo,vf,vr⟩:=v
 dsimp only at e1 e2 e3 e4 e5
 have el:(aO x c).low.length=hof x c 1 (nN x):=by unfold aO;simp
 rw[el]at e1
 subst e1 e2 e3 e4 e5
 exact⟨⟨lc,la,(_,_,_),(_,_,_),(_,_,_),gs,qs,hs,os,rfl,hf⟩,hb⟩
theorem GK(X:Xv)(x:Rh)(w:World)(hx:Qq w X x):Calls Tryz.prog 9 #[.agg (gG X x)] w λe w'=>Pj (bF x false) w.heap.size w e w':=by
 obtain⟨⟨a1,n1,c1⟩,⟨a2,n2,c2⟩,⟨a3,n3,c3⟩⟩:=X
 have QM:Hid (∀W,Below w.heap.size w W->Calls Tryz.prog 21 #[.agg (gG ⟨(a1,n1,c1),(a2,n2,c2),(a3,n3,c3)⟩ x),.bool false] W λe w'=>EM x false W e w'):=Lib.hid λW hb=>GI _ x false W (hx.tr hb)
 have Zj:Hid (∀W v gs qs hs os n0,n0<=W.heap.size->Below w.heap.size w W->(Off W 0 n0 λW=>y8 W x false (aO x false) v gs qs hs os)->Calls Tryz.prog 22 #[dA (aO x false) v (aS gs) (aS qs) (aS hs) (aS os),.agg (gG ⟨(a1,n1,c1),(a2,n2,c2),(a3,n3,c3)⟩ x)] W λe w'=>(∃l h o f r:Sl,e=.returned (.agg #[.int .u64 (bF x false).base,.int .i64 (bF x false).cap,.int .i64 (bF x false).tt,.bool (bF x false).dJ,.int .i64 (bF x false).scan,.slice l.1 l.2.1 l.2.2,.slice h.1 h.2.1 h.2.2,.slice o.1 o.2.1 o.2.2,.slice f.1 f.2.1 f.2.2,.slice r.1 r.2.1 r.2.2])/\Off w' 0 n0 λW=>kH W (bF x false) ⟨.slice l.1 l.2.1 l.2.2,.slice h.1 h.2.1 h.2.2,.slice o.1 o.2.1 o.2.2,.slice f.1 f.2.1 f.2.2,.slice r.1 r.2.1 r.2.2⟩)/\Below W.heap.size W w'):=Lib.hid λW v gs qs hs os n0 h0 hb hf=>KQ x false _ v gs qs hs os W n0 h0 hf (hx.tr hb)
 obtain⟨HB,hHB⟩:∃m,(bF x false).base=m:=⟨_,rfl⟩
 obtain⟨HC,hHC⟩:∃m,(bF x false).cap=m:=⟨_,rfl⟩
 obtain⟨HT,hHT⟩:∃m,(bF x false).tt=m:=⟨_,rfl⟩
 obtain⟨HY,hHY⟩:∃m,(bF x false).dJ=m:=⟨_,rfl⟩
 obtain⟨HS,hHS⟩:∃m,(bF x false).scan=m:=⟨_,rfl⟩
 rw[hHB,hHC,hHT,hHY,hHS]at Zj
 have Wy:=Lib.hid (And.intro hHB (And.intro hHC (And.intro hHT (And.intro hHY hHS))))
 clear hHB hHC hHT hHY hHS hx
 unfold gG aS at*
 dsimp only at*
 go_enter Tryz.func9,Tryz.ntmps9
 go_upto_region 1 with(fail)
 have K1:aj ((w.alloc (.cells #[Value.slice a1 n1 c1,.slice a2 n2 c2,.slice a3 n3 c3,.int .u64 x.base,.int .i64 x.dR,.int .i64 x.scan,.int .i64 x.tt] 26)).alloc (.cells #[.int .u64 0,.int .i64 0,.int .i64 0,.bool false,.int .i64 0,.slice none 0 0,.slice none 0 0,.slice none 0 0,.slice none 0 0,.slice none 0 0] 32)) w.heap.size #[Value.slice a1 n1 c1,.slice a2 n2 c2,.slice a3 n3 c3,.int .u64 x.base,.int .i64 x.dR,.int .i64 x.scan,.int .i64 x.tt] 26:=(aj.new _ _ _).alloc _
 have K2:aj ((w.alloc (.cells #[Value.slice a1 n1 c1,.slice a2 n2 c2,.slice a3 n3 c3,.int .u64 x.base,.int .i64 x.dR,.int .i64 x.scan,.int .i64 x.tt] 26)).alloc (.cells #[.int .u64 0,.int .i64 0,.int .i64 0,.bool false,.int .i64 0,.slice none 0 0,.slice none 0 0,.slice none 0 0,.slice none 0 0,.slice none 0 0] 32)) (w.heap.size+1) _ 32:=aj.mk (by simp)
 have kW:Below w.heap.size w ((w.alloc (.cells #[Value.slice a1 n1 c1,.slice a2 n2 c2,.slice a3 n3 c3,.int .u64 x.base,.int .i64 x.dR,.int .i64 x.scan,.int .i64 x.tt] 26)).alloc (.cells #[.int .u64 0,.int .i64 0,.int .i64 0,.bool false,.int .i64 0,.slice none 0 0,.slice none 0 0,.slice none 0 0,.slice none 0 0,.slice none 0 0] 32)):=by exact bm
 generalize(w.alloc (.cells #[Value.slice a1 n1 c1,.slice a2 n2 c2,.slice a3 n3 c3,.int .u64 x.base,.int .i64 x.dR,.int .i64 x.scan,.int .i64 x.tt] 26)).alloc (.cells #[.int .u64 0,.int .i64 0,.int .i64 0,.bool false,.int .i64 0,.slice none 0 0,.slice none 0 0,.slice none 0 0,.slice none 0 0,.slice none 0 0] 32)=W0 at*
 obtain⟨lk,dk,fk⟩:=K1.get
 have hl2:=K2.lt
 have mZ:Hid (∀W':World,Below W0.heap.size W0 W'->∀i,W'.cell? ⟨w.heap.size,i,none⟩= #[Value.slice a1 n1 c1,.slice a2 n2 c2,.slice a3 n3 c3,.int .u64 x.base,.int .i64 x.dR,.int .i64 x.scan,.int .i64 x.tt][i]?):=Lib.hid λW' h=>(K1.tr h).get.2.1
 refine wp_region_held_drew (S:=(λw'=>∀i,w'.cell? ⟨w.heap.size,i,none⟩= #[Value.slice a1 n1 c1,.slice a2 n2 c2,.slice a3 n3 c3,.int .u64 x.base,.int .i64 x.dR,.int .i64 x.scan,.int .i64 x.tt][i]?)) (by kernel_rfl) ?_ (λhHeld=> ?_)
 ·(try dsimp only);refine mZ.out _ ?_;exact bm
 refine tk 0 ?_
 refine tk 2 ?_
 refine co 1 λK hK=> ?_
 go_simp
 go_at_call 21;refine(QM.out _ (by exact bm)).mono ?_;rintro e w2 ⟨⟨v,gs,qs,hs,os,rfl,hf⟩,k2⟩;go_wp2_with fail
 refine hK.out _ _ ?_ (λhHeld=> ?_)
 ·(try dsimp only);refine mZ.out _ ?_;exact bm
 clear hK K
 refine nx ?_
 have hd0:W0.drew.heap.size=W0.heap.size:=rfl
 rw[hd0]at hf
 refine co 3 λK hK=> ?_
 go_simp
 go_at_call 22;refine(Zj.out _ _ _ _ _ _ W0.heap.size (by have:=k2.size;rw[hd0]at this;exact this) (by exact bm) hf).mono ?_;rintro e w5 ⟨⟨⟨l1,l2,l3⟩,⟨h1,h2,h3⟩,⟨o1,o2,o3⟩,⟨f1,f2,f3⟩,⟨r1,r2,r3⟩,rfl,hu⟩,k5⟩;go_wp2_with fail
 refine hK.out _ _ ?_ (λhHeld=> ?_)
 ·(try dsimp only);refine mZ.out _ ?_;exact bm
 clear hK K
 refine nx ?_
 have b5:Below W0.heap.size W0 w5:=by exact bm
 have hx5:=K1.tr b5
 have Iy:=K2.tr b5
 obtain⟨lr,cr,fr⟩:=Iy.get
 have hne:w.heap.size≠w.heap.size+1:=by omega
 obtain⟨LV,lH⟩:∃L:List (Nat×Value),L=[(0,Value.int .u64 HB),(1,.int .i64 HC),(2,.int .i64 HT),(3,.bool HY),(4,.int .i64 HS),(5,.slice l1 l2 l3),(6,.slice h1 h2 h3),(7,.slice o1 o2 o3),(8,.slice f1 f2 f3),(9,.slice r1 r2 r3)]:=⟨_,rfl⟩
 have hW:((((((((((w5.setCell ⟨w.heap.size+1,0,none⟩ (.int .u64 HB)).setCell ⟨w.heap.size+1,1,none⟩ (.int .i64 HC)).setCell ⟨w.heap.size+1,2,none⟩ (.int .i64 HT)).setCell ⟨w.heap.size+1,3,none⟩ (.bool HY)).setCell ⟨w.heap.size+1,4,none⟩ (.int .i64 HS)).setCell ⟨w.heap.size+1,5,none⟩ (.slice l1 l2 l3)).setCell ⟨w.heap.size+1,6,none⟩ (.slice h1 h2 h3)).setCell ⟨w.heap.size+1,7,none⟩ (.slice o1 o2 o3)).setCell ⟨w.heap.size+1,8,none⟩ (.slice f1 f2 f3)).setCell ⟨w.heap.size+1,9,none⟩ (.slice r1 r2 r3))=bU w5 (w.heap.size+1) LV:=by rw[lH];simp only[bU]
 have NH:=Lib.hid hW
 have V7:=Lib.hid lH
 have HX5:=Lib.hid (aj.dQ (L:=LV) hx5 hne)
 clear hW lH hx5 dk fk
 refine co 4 λK hK=> ?_
 go_simp
 skip
 refine hK.out _ _ ?_ (λhHeld=> ?_)
 ·(try dsimp only);rw[NH.out];exactλi=>HX5.out.get.2.1 i
 clear hK K
 refine nx ?_
 refine wpAnyH_done (by kernel_rfl) ?_ _
 have E8:=aj.bU (L:=LV) Iy
 have Zm:=Off.bU (L:=LV) (b:=w.heap.size+1) hu (Nat.zero_le _) hl2
 have ET:=fQ (L:=LV) (b:=w.heap.size+1) (au kW b5) (Nat.le_succ _)
 rw[<-NH.out]at E8 Zm ET
 have hle:w.heap.size<=W0.heap.size:=kW.size
 clear NH HX5 hHeld lr cr fr Iy hu b5 k5 k2 hf mZ K1 K2 kW
 generalize((((((((((w5.setCell ⟨w.heap.size+1,0,none⟩ (.int .u64 HB)).setCell ⟨w.heap.size+1,1,none⟩ (.int .i64 HC)).setCell ⟨w.heap.size+1,2,none⟩ (.int .i64 HT)).setCell ⟨w.heap.size+1,3,none⟩ (.bool HY)).setCell ⟨w.heap.size+1,4,none⟩ (.int .i64 HS)).setCell ⟨w.heap.size+1,5,none⟩ (.slice l1 l2 l3)).setCell ⟨w.heap.size+1,6,none⟩ (.slice h1 h2 h3)).setCell ⟨w.heap.size+1,7,none⟩ (.slice o1 o2 o3)).setCell ⟨w.heap.size+1,8,none⟩ (.slice f1 f2 f3)).setCell ⟨w.heap.size+1,9,none⟩ (.slice r1 r2 r3))=W6 at*
 rw[V7.out]at E8
 simp only[rJ,List.setIfInBounds_toArray,List.set_cons_zero,List.set_cons_succ]at E8
 clear V7
 obtain⟨lr,cr,fr⟩:=E8.get
 go_wp2_with fail
 refine bodyPost_ret (v:=.agg #[Value.int .u64 HB,.int .i64 HC,.int .i64 HT,.bool HY,.int .i64 HS,.slice l1 l2 l3,.slice h1 h2 h3,.slice o1 o2 o3,.slice f1 f2 f3,.slice r1 r2 r3]) (by simp only[results,Tryz.results9];go_simp) rfl ?_
 refine⟨⟨(l1,l2,l3),(h1,h2,h3),(o1,o2,o3),(f1,f2,f3),(r1,r2,r3),?_,Zm.less hle⟩,ET⟩
 unfold fD aS
 dsimp only
 rw[Wy.out.1,Wy.out.2.1,Wy.out.2.2.1,Wy.out.2.2.2.1,Wy.out.2.2.2.2]
theorem KU(X:Xv)(x:Rh)(w:World)(hx:Qq w X x):Calls Tryz.prog 7 #[.agg (gG X x)] w λe w'=>Pj (gK x) w.heap.size w e w':=by
 obtain⟨⟨a1,n1,c1⟩,⟨a2,n2,c2⟩,⟨a3,n3,c3⟩⟩:=X
 have QM:Hid (∀W,Below w.heap.size w W->Calls Tryz.prog 21 #[.agg (gG ⟨(a1,n1,c1),(a2,n2,c2),(a3,n3,c3)⟩ x),.bool true] W λe w'=>(∃(l3:Nat)(l1:Option Addr)(h o f gs qs hs os:Sl),e=.returned (.agg #[.int .u64 (aO x true).base,.int .i64 (aO x true).cap,.int .i64 (aO x true).tt,.bool (aO x true).dJ,.int .i64 (aO x true).scan,.slice l1 (hof x true 1 (nN x)) l3,.slice h.1 h.2.1 h.2.2,.slice o.1 o.2.1 o.2.2,.slice f.1 f.2.1 f.2.2,.slice none 0 0,.slice gs.1 gs.2.1 gs.2.2,.slice qs.1 qs.2.1 qs.2.2,.slice hs.1 hs.2.1 hs.2.2,.slice os.1 os.2.1 os.2.2])/\Off w' 0 W.heap.size λW=>y8 W x true (aO x true) ⟨.slice l1 (hof x true 1 (nN x)) l3,.slice h.1 h.2.1 h.2.2,.slice o.1 o.2.1 o.2.2,.slice f.1 f.2.1 f.2.2,.slice none 0 0⟩ gs qs hs os)/\Below W.heap.size W w'):=Lib.hid λW hb=>RX _ x true W (hx.tr hb)
 have Zj:Hid (∀W l1 l3(h o f gs qs hs os:Sl)n0,n0<=W.heap.size->Below w.heap.size w W->(Off W 0 n0 λW=>y8 W x true (aO x true) ⟨.slice l1 (hof x true 1 (nN x)) l3,.slice h.1 h.2.1 h.2.2,.slice o.1 o.2.1 o.2.2,.slice f.1 f.2.1 f.2.2,.slice none 0 0⟩ gs qs hs os)->Calls Tryz.prog 22 #[.agg #[.int .u64 (aO x true).base,.int .i64 (aO x true).cap,.int .i64 (aO x true).tt,.bool (aO x true).dJ,.int .i64 (aO x true).scan,.slice l1 (hof x true 1 (nN x)) l3,.slice h.1 h.2.1 h.2.2,.slice o.1 o.2.1 o.2.2,.slice f.1 f.2.1 f.2.2,.slice none 0 0,.slice gs.1 gs.2.1 gs.2.2,.slice qs.1 qs.2.1 qs.2.2,.slice hs.1 hs.2.1 hs.2.2,.slice os.1 os.2.1 os.2.2],.agg (gG ⟨(a1,n1,c1),(a2,n2,c2),(a3,n3,c3)⟩ x)] W λe w'=>(∃l h o f r:Sl,e=.returned (.agg #[.int .u64 (bF x true).base,.int .i64 (bF x true).cap,.int .i64 (bF x true).tt,.bool (bF x true).dJ,.int .i64 (bF x true).scan,.slice l.1 l.2.1 l.2.2,.slice h.1 h.2.1 h.2.2,.slice o.1 o.2.1 o.2.2,.slice f.1 f.2.1 f.2.2,.slice r.1 r.2.1 r.2.2])/\Off w' 0 n0 λW=>kH W (bF x true) ⟨.slice l.1 l.2.1 l.2.2,.slice h.1 h.2.1 h.2.2,.slice o.1 o.2.1 o.2.2,.slice f.1 f.2.1 f.2.2,.slice r.1 r.2.1 r.2.2⟩)/\Below W.heap.size W w'):=Lib.hid λW l1 l3 h o f gs qs hs os n0 h0 hb hf=>KQ x true _ ⟨.slice l1 (hof x true 1 (nN x)) l3,.slice h.1 h.2.1 h.2.2,.slice o.1 o.2.1 o.2.2,.slice f.1 f.2.1 f.2.2,.slice none 0 0⟩ gs qs hs os W n0 h0 hf (hx.tr hb)
 have HST:Hid (∀W,Below w.heap.size w W->Calls Tryz.prog 9 #[.agg (gG ⟨(a1,n1,c1),(a2,n2,c2),(a3,n3,c3)⟩ x)] W λe w'=>(∃l h o f r:Sl,e=.returned (.agg #[.int .u64 (bF x false).base,.int .i64 (bF x false).cap,.int .i64 (bF x false).tt,.bool (bF x false).dJ,.int .i64 (bF x false).scan,.slice l.1 l.2.1 l.2.2,.slice h.1 h.2.1 h.2.2,.slice o.1 o.2.1 o.2.2,.slice f.1 f.2.1 f.2.2,.slice r.1 r.2.1 r.2.2])/\Off w' 0 W.heap.size λW=>kH W (bF x false) ⟨.slice l.1 l.2.1 l.2.2,.slice h.1 h.2.1 h.2.2,.slice o.1 o.2.1 o.2.2,.slice f.1 f.2.1 f.2.2,.slice r.1 r.2.1 r.2.2⟩)/\Below W.heap.size W w'):=Lib.hid λW hb=>GK _ x W (hx.tr hb)
 have HHF:Hid (gK x=if hof x true 1 (nN x)=0 then bF x false else bF x true):=rfl
 obtain⟨SB,hSB⟩:∃m,(aO x true).base=m:=⟨_,rfl⟩
 obtain⟨SC,hSC⟩:∃m,(aO x true).cap=m:=⟨_,rfl⟩
 obtain⟨ST,hST⟩:∃m,(aO x true).tt=m:=⟨_,rfl⟩
 obtain⟨SY,hSY⟩:∃m,(aO x true).dJ=m:=⟨_,rfl⟩
 obtain⟨SS,hSS⟩:∃m,(aO x true).scan=m:=⟨_,rfl⟩
 obtain⟨PB,hPB⟩:∃m,(bF x true).base=m:=⟨_,rfl⟩
 obtain⟨PC,hPC⟩:∃m,(bF x true).cap=m:=⟨_,rfl⟩
 obtain⟨PT,hPT⟩:∃m,(bF x true).tt=m:=⟨_,rfl⟩
 obtain⟨PY,hPY⟩:∃m,(bF x true).dJ=m:=⟨_,rfl⟩
 obtain⟨PS,hPS⟩:∃m,(bF x true).scan=m:=⟨_,rfl⟩
 obtain⟨QB,hQB⟩:∃m,(bF x false).base=m:=⟨_,rfl⟩
 obtain⟨QC,hQC⟩:∃m,(bF x false).cap=m:=⟨_,rfl⟩
 obtain⟨QT,hQT⟩:∃m,(bF x false).tt=m:=⟨_,rfl⟩
 obtain⟨QY,hQY⟩:∃m,(bF x false).dJ=m:=⟨_,rfl⟩
 obtain⟨QS,hQS⟩:∃m,(bF x false).scan=m:=⟨_,rfl⟩
 rw[hSB,hSC,hST,hSY,hSS]at QM
 rw[hSB,hSC,hST,hSY,hSS,hPB,hPC,hPT,hPY,hPS]at Zj
 rw[hQB,hQC,hQT,hQY,hQS]at HST
 have HEP:=Lib.hid (And.intro hPB (And.intro hPC (And.intro hPT (And.intro hPY hPS))))
 clear hPB hPC hPT hPY hPS
 have Wy:=Lib.hid (And.intro hQB (And.intro hQC (And.intro hQT (And.intro hQY hQS))))
 clear hQB hQC hQT hQY hQS
 clear hSB hSC hST hSY hSS hx
 unfold gG aS at*
 dsimp only at*
 generalize hof x true 1 (nN x)=M at*
 go_enter Tryz.func7,Tryz.ntmps7
 go_wp2_with fail
 refine(QM.out _ ?_).mono ?_
 ·exact bm
 rintro e w2 ⟨⟨l3,l1,⟨h1,h2,h3⟩,⟨o1,o2,o3⟩,⟨f1,f2,f3⟩,⟨g1,g2,g3⟩,⟨q1,q2,q3⟩,⟨i1,i2,i3⟩,⟨j1,j2,j3⟩,rfl,hf⟩,k2⟩
 dsimp only at hf
 have K1:aj w2 w.heap.size #[Value.slice a1 n1 c1,.slice a2 n2 c2,.slice a3 n3 c3,.int .u64 x.base,.int .i64 x.dR,.int .i64 x.scan,.int .i64 x.tt] 26:=aj.tr (.alloc (.new _ _ _) _) k2
 have K2:aj w2 (w.heap.size+1) _ 32:=aj.tr (.mk (by simp)) k2
 have kw2:Below w.heap.size w w2:=by exact bm
 have hn0:w.heap.size+2<=w2.heap.size:=by have:=k2.size;simpa using this
 have hf2:=hf.less (n:=w.heap.size+2) (by first|(simp;done)|(simp;omega))
 have HF2:=Lib.hid hf2
 clear hf hf2 k2
 obtain⟨lx,cx,fx⟩:=K1.get
 by_cases hM:M=0
 ·rw[if_pos hM]at HHF
  subst hM
  go_wp2_with fail
  refine(HST.out _ ?_).mono ?_
  ·exact bm
  rintro e w4 ⟨⟨⟨l4,l5,l6⟩,⟨h4,h5,h6⟩,⟨o4,o5,o6⟩,⟨f4,f5,f6⟩,⟨r4,r5,r6⟩,rfl,hu⟩,k4⟩
  have Kr:=aj.tr (.alloc K2 _) k4
  have bw5:Below w.heap.size w w4:=by exact bm
  have hlt:w.heap.size+1<w.heap.size+2:=by omega
  replace hu:=hu.less (n:=w.heap.size+2) (by first|(simp;done)|(simp;omega))
  clear k4 K1 K2 lx cx fx HF2
  have Iy:=Kr
  obtain⟨lr,cr,fr⟩:=Iy.get
  go_wp2_with fail
  obtain⟨LV,lH⟩:∃L:List (Nat×Value),L=[(0,Value.int .u64 QB),(1,.int .i64 QC),(2,.int .i64 QT),(3,.bool QY),(4,.int .i64 QS),(5,.slice l4 l5 l6),(6,.slice h4 h5 h6),(7,.slice o4 o5 o6),(8,.slice f4 f5 f6),(9,.slice r4 r5 r6)]:=⟨_,rfl⟩
  have hW:((((((((((w4.setCell ⟨w.heap.size+1,0,none⟩ (.int .u64 QB)).setCell ⟨w.heap.size+1,1,none⟩ (.int .i64 QC)).setCell ⟨w.heap.size+1,2,none⟩ (.int .i64 QT)).setCell ⟨w.heap.size+1,3,none⟩ (.bool QY)).setCell ⟨w.heap.size+1,4,none⟩ (.int .i64 QS)).setCell ⟨w.heap.size+1,5,none⟩ (.slice l4 l5 l6)).setCell ⟨w.heap.size+1,6,none⟩ (.slice h4 h5 h6)).setCell ⟨w.heap.size+1,7,none⟩ (.slice o4 o5 o6)).setCell ⟨w.heap.size+1,8,none⟩ (.slice f4 f5 f6)).setCell ⟨w.heap.size+1,9,none⟩ (.slice r4 r5 r6))=bU w4 (w.heap.size+1) LV:=by rw[lH];simp only[bU]
  have E8:=aj.bU (L:=LV) Iy
  have Zm:=Off.bU (L:=LV) (b:=w.heap.size+1) hu (Nat.zero_le _) hlt
  have ET:=fQ (L:=LV) (b:=w.heap.size+1) bw5 (Nat.le_succ _)
  rw[<-hW]at E8 Zm ET
  clear hW lr cr fr Iy Kr hu bw5
  generalize((((((((((w4.setCell ⟨w.heap.size+1,0,none⟩ (.int .u64 QB)).setCell ⟨w.heap.size+1,1,none⟩ (.int .i64 QC)).setCell ⟨w.heap.size+1,2,none⟩ (.int .i64 QT)).setCell ⟨w.heap.size+1,3,none⟩ (.bool QY)).setCell ⟨w.heap.size+1,4,none⟩ (.int .i64 QS)).setCell ⟨w.heap.size+1,5,none⟩ (.slice l4 l5 l6)).setCell ⟨w.heap.size+1,6,none⟩ (.slice h4 h5 h6)).setCell ⟨w.heap.size+1,7,none⟩ (.slice o4 o5 o6)).setCell ⟨w.heap.size+1,8,none⟩ (.slice f4 f5 f6)).setCell ⟨w.heap.size+1,9,none⟩ (.slice r4 r5 r6))=W6 at*
  rw[lH]at E8
  simp only[rJ,List.setIfInBounds_toArray,List.set_cons_zero,List.set_cons_succ]at E8
  clear lH
  obtain⟨lr,cr,fr⟩:=E8.get
  refine bodyPost_ret (v:=.agg #[Value.int .u64 QB,.int .i64 QC,.int .i64 QT,.bool QY,.int .i64 QS,.slice l4 l5 l6,.slice h4 h5 h6,.slice o4 o5 o6,.slice f4 f5 f6,.slice r4 r5 r6]) (by simp only[results,Tryz.results7];go_simp) rfl ?_
  rw[HHF.out]
  refine⟨⟨(l4,l5,l6),(h4,h5,h6),(o4,o5,o6),(f4,f5,f6),(r4,r5,r6),?_,Zm.less (by omega)⟩,ET⟩
  unfold fD aS
  dsimp only
  rw[Wy.out.1,Wy.out.2.1,Wy.out.2.2.1,Wy.out.2.2.2.1,Wy.out.2.2.2.2]
 ·rw[if_neg hM]at HHF
  have hM0:((M:Int)==0)=false:=by rw[beq_eq_false_iff_ne];omega
  have hM1:¬((M:Int)=0):=by omega
  clear hM
  go_wp2_with fail
  refine(Zj.out _ _ _ (h1,h2,h3) (o1,o2,o3) (f1,f2,f3) (g1,g2,g3) (q1,q2,q3) (i1,i2,i3) (j1,j2,j3) (w.heap.size+2) ?_ ?_ ?_).mono ?_
  ·simp;omega
  ·exact bm
  ·exact HF2.out.tr (by exact bm)
  rintro e w4 ⟨⟨⟨l4,l5,l6⟩,⟨h4,h5,h6⟩,⟨o4,o5,o6⟩,⟨f4,f5,f6⟩,⟨r4,r5,r6⟩,rfl,hu⟩,k4⟩
  have Kr:=aj.tr (.alloc K2 _) k4
  have bw5:Below w.heap.size w w4:=by exact bm
  have hlt:w.heap.size+1<w.heap.size+2:=by omega
  clear k4 K1 K2 lx cx fx HF2
  have Iy:=Kr
  obtain⟨lr,cr,fr⟩:=Iy.get
  go_wp2_with fail
  obtain⟨LV,lH⟩:∃L:List (Nat×Value),L=[(0,Value.int .u64 PB),(1,.int .i64 PC),(2,.int .i64 PT),(3,.bool PY),(4,.int .i64 PS),(5,.slice l4 l5 l6),(6,.slice h4 h5 h6),(7,.slice o4 o5 o6),(8,.slice f4 f5 f6),(9,.slice r4 r5 r6)]:=⟨_,rfl⟩
  have hW:((((((((((w4.setCell ⟨w.heap.size+1,0,none⟩ (.int .u64 PB)).setCell ⟨w.heap.size+1,1,none⟩ (.int .i64 PC)).setCell ⟨w.heap.size+1,2,none⟩ (.int .i64 PT)).setCell ⟨w.heap.size+1,3,none⟩ (.bool PY)).setCell ⟨w.heap.size+1,4,none⟩ (.int .i64 PS)).setCell ⟨w.heap.size+1,5,none⟩ (.slice l4 l5 l6)).setCell ⟨w.heap.size+1,6,none⟩ (.slice h4 h5 h6)).setCell ⟨w.heap.size+1,7,none⟩ (.slice o4 o5 o6)).setCell ⟨w.heap.size+1,8,none⟩ (.slice f4 f5 f6)).setCell ⟨w.heap.size+1,9,none⟩ (.slice r4 r5 r6))=bU w4 (w.heap.size+1) LV:=by rw[lH];simp only[bU]
  have E8:=aj.bU (L:=LV) Iy
  have Zm:=Off.bU (L:=LV) (b:=w.heap.size+1) hu (Nat.zero_le _) hlt
  have ET:=fQ (L:=LV) (b:=w.heap.size+1) bw5 (Nat.le_succ _)
  rw[<-hW]at E8 Zm ET
  clear hW lr cr fr Iy Kr hu bw5
  generalize((((((((((w4.setCell ⟨w.heap.size+1,0,none⟩ (.int .u64 PB)).setCell ⟨w.heap.size+1,1,none⟩ (.int .i64 PC)).setCell ⟨w.heap.size+1,2,none⟩ (.int .i64 PT)).setCell ⟨w.heap.size+1,3,none⟩ (.bool PY)).setCell ⟨w.heap.size+1,4,none⟩ (.int .i64 PS)).setCell ⟨w.heap.size+1,5,none⟩ (.slice l4 l5 l6)).setCell ⟨w.heap.size+1,6,none⟩ (.slice h4 h5 h6)).setCell ⟨w.heap.size+1,7,none⟩ (.slice o4 o5 o6)).setCell ⟨w.heap.size+1,8,none⟩ (.slice f4 f5 f6)).setCell ⟨w.heap.size+1,9,none⟩ (.slice r4 r5 r6))=W6 at*
  rw[lH]at E8
  simp only[rJ,List.setIfInBounds_toArray,List.set_cons_zero,List.set_cons_succ]at E8
  clear lH
  obtain⟨lr,cr,fr⟩:=E8.get
  refine bodyPost_ret (v:=.agg #[Value.int .u64 PB,.int .i64 PC,.int .i64 PT,.bool PY,.int .i64 PS,.slice l4 l5 l6,.slice h4 h5 h6,.slice o4 o5 o6,.slice f4 f5 f6,.slice r4 r5 r6]) (by simp only[results,Tryz.results7];go_simp) rfl ?_
  rw[HHF.out]
  refine⟨⟨(l4,l5,l6),(h4,h5,h6),(o4,o5,o6),(f4,f5,f6),(r4,r5,r6),?_,Zm.less (by omega)⟩,ET⟩
  unfold fD aS
  dsimp only
  rw[HEP.out.1,HEP.out.2.1,HEP.out.2.2.1,HEP.out.2.2.2.1,HEP.out.2.2.2.2]
end Go.Proofs.YtpgjploaliefdaaGreat.rh
